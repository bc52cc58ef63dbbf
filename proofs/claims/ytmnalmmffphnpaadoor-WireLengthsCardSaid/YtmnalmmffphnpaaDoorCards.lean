/-
  DERIVED. GIVEN WITH THE SEED: THE CARDS: each row of YtmnalmmffphnpaaDoorRows.lean that lists a variable, with what it lists TIED to the program's text (the seventh form; the later family's looks); each row that meets fmt, with fmt's text TOLD by the authors' own Lean function (tested against real Go, not proved from fmt's source: count such statements apart). THE CARD IS WHAT COUNTS. Prove the row's statement (the work); the ties are given (YtmnalmmffphnpaaDoorTie.lean); close each card by the builder's one call (the guide's Derived/Test/ToyasCard.lean, 'card_holds'). Laid BY PROGRAM, IN A SANDBOX (cutbox-door.mjs). By AI agents, Wed Nov 11 2026. No macro, syntax, notation, axiom, sorry.
-/
import Derived.Test.YtmnalmmffphnpaaDoorRows
import GoSem.ClaimSeven
namespace Go.Proofs.YtmnalmmffphnpaaDoor
namespace Rows

/-- THE TIED CARD OF 'clavecinlaw04.WireNeeds'. -/
def wireNeedsCard : Claim7 := { stood := { row := wireNeedsRow, standIns := [], harness := (true, "b55b9d28eae286db3ce000e03bfd65c014e29a3e9fd8c22114b5c47201082eea"), looks := false }, kinds := [], alts := [], laidByText := true, laidKinds := [.data, .data, .data], laidTests := true, laidLooks := .later }
def WireNeedsCardSaid : Prop := Claim7.holds Tryd.pinned (.plain (OpenSpec.ofChange wireNeedsSpec)) wireNeedsCard

/-- THE TIED CARD OF 'clavecinlaw04.WireLengths'. -/
def wireLengthsCard : Claim7 := { stood := { row := wireLengthsRow, standIns := [], harness := (true, "b55b9d28eae286db3ce000e03bfd65c014e29a3e9fd8c22114b5c47201082eea"), looks := false }, kinds := [], alts := [], laidByText := true, laidKinds := [.data, .data, .data], laidTests := true, laidLooks := .later }
def WireLengthsCardSaid : Prop := Claim7.holds Tryd.pinned (.plain (OpenSpec.ofChange wireLengthsSpec)) wireLengthsCard

/-- THE SECOND FORM's CARD OF 'clavecinlaw04.WireNeeds'. -/
def wireNeedsUptoCard : Claim7 := { stood := { row := wireNeedsUptoRow, standIns := [], harness := (true, "b55b9d28eae286db3ce000e03bfd65c014e29a3e9fd8c22114b5c47201082eea"), looks := false }, kinds := [], alts := [], laidByText := true, laidKinds := [.data, .data, .data], laidTests := true, laidLooks := .later }
def WireNeedsUptoCardSaid : Prop := Claim7.holds Tryd.pinned (.plain (OpenSpec.upto wireNeedsSpec)) wireNeedsUptoCard

/-- THE SECOND FORM's CARD OF 'clavecinlaw04.WireLengths'. -/
def wireLengthsUptoCard : Claim7 := { stood := { row := wireLengthsUptoRow, standIns := [], harness := (true, "b55b9d28eae286db3ce000e03bfd65c014e29a3e9fd8c22114b5c47201082eea"), looks := false }, kinds := [], alts := [], laidByText := true, laidKinds := [.data, .data, .data], laidTests := true, laidLooks := .later }
def WireLengthsUptoCardSaid : Prop := Claim7.holds Tryd.pinned (.plain (OpenSpec.upto wireLengthsSpec)) wireLengthsUptoCard
end Rows
end Go.Proofs.YtmnalmmffphnpaaDoor
