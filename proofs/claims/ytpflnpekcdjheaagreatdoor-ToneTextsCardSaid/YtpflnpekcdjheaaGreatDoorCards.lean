/-
  DERIVED. GIVEN WITH THE SEED: THE CARDS: each row of YtpflnpekcdjheaaGreatDoorRows.lean that lists a variable, with what it lists TIED to the program's text (the seventh form; the later family's looks); each row that meets fmt, with fmt's text TOLD by the authors' own Lean function (tested against real Go, not proved from fmt's source: count such statements apart). THE CARD IS WHAT COUNTS. Prove the row's statement (the work); the ties are given (YtpflnpekcdjheaaGreatDoorTie.lean); close each card by the builder's one call (the guide's Derived/Test/ToyasCard.lean, 'card_holds'). Laid BY PROGRAM, IN A SANDBOX (cutbox-door.mjs). By AI agents, Wed Nov 11 2026. No macro, syntax, notation, axiom, sorry.
-/
import Derived.Test.YtpflnpekcdjheaaGreatDoorRows
import GoSem.ClaimSeven
namespace Go.Proofs.YtpflnpekcdjheaaGreatDoor
namespace Rows

/-- THE TIED CARD OF 'clavecinlaw02.ToneTexts'. -/
def toneTextsCard : Claim7 := { stood := { row := toneTextsRow, standIns := [], harness := (true, "420159346caf5574998abe57d7810ed0a12e73645d5f60491e958f23d1f19b35"), looks := true }, kinds := [], alts := [], laidByText := true, laidKinds := [.data, .data, .data, .data, .sentinel, .sentinel, .pinned], laidTests := true, laidLooks := .later }
def ToneTextsCardSaid : Prop := Claim7.holds Tryz.pinned (.plain (OpenSpec.ofChange toneTextsSpec)) toneTextsCard

/-- THE SECOND FORM's CARD OF 'clavecinlaw02.ToneTexts'. -/
def toneTextsUptoCard : Claim7 := { stood := { row := toneTextsUptoRow, standIns := [], harness := (true, "420159346caf5574998abe57d7810ed0a12e73645d5f60491e958f23d1f19b35"), looks := true }, kinds := [], alts := [], laidByText := true, laidKinds := [.data, .data, .data, .data, .sentinel, .sentinel, .pinned], laidTests := true, laidLooks := .later }
def ToneTextsUptoCardSaid : Prop := Claim7.holds Tryz.pinned (.plain (OpenSpec.upto toneTextsSpec)) toneTextsUptoCard
end Rows
end Go.Proofs.YtpflnpekcdjheaaGreatDoor
