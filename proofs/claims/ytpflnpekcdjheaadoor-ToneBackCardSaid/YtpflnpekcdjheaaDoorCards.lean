/-
  DERIVED. GIVEN WITH THE SEED: THE CARDS: each row of YtpflnpekcdjheaaDoorRows.lean that lists a variable, with what it lists TIED to the program's text (the seventh form; the later family's looks); each row that meets fmt, with fmt's text TOLD by the authors' own Lean function (tested against real Go, not proved from fmt's source: count such statements apart). THE CARD IS WHAT COUNTS. Prove the row's statement (the work); the ties are given (YtpflnpekcdjheaaDoorTie.lean); close each card by the builder's one call (the guide's Derived/Test/ToyasCard.lean, 'card_holds'). Laid BY PROGRAM, IN A SANDBOX (cutbox-door.mjs). By AI agents, Wed Nov 11 2026. No macro, syntax, notation, axiom, sorry.
-/
import Derived.Test.YtpflnpekcdjheaaDoorRows
import GoSem.ClaimSeven
namespace Go.Proofs.YtpflnpekcdjheaaDoor
namespace Rows

/-- THE TIED CARD OF 'clavecinlaw02.ToneBack'. -/
def toneBackCard : Claim7 := { stood := { row := toneBackRow, standIns := [], harness := (true, "067b03fc0882bff22aa8d374b81c5227782e77fdeac73e18c35422e73f137451"), looks := true }, kinds := [], alts := [], laidByText := true, laidKinds := [.data, .data, .data, .data, .sentinel, .sentinel, .pinned], laidTests := true, laidLooks := .later }
def ToneBackCardSaid : Prop := Claim7.holds Tryd.pinned (.plain (OpenSpec.ofChange toneBackSpec)) toneBackCard

/-- THE SECOND FORM's CARD OF 'clavecinlaw02.ToneBack'. -/
def toneBackUptoCard : Claim7 := { stood := { row := toneBackUptoRow, standIns := [], harness := (true, "067b03fc0882bff22aa8d374b81c5227782e77fdeac73e18c35422e73f137451"), looks := true }, kinds := [], alts := [], laidByText := true, laidKinds := [.data, .data, .data, .data, .sentinel, .sentinel, .pinned], laidTests := true, laidLooks := .later }
def ToneBackUptoCardSaid : Prop := Claim7.holds Tryd.pinned (.plain (OpenSpec.upto toneBackSpec)) toneBackUptoCard
end Rows
end Go.Proofs.YtpflnpekcdjheaaDoor
