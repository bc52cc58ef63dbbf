/-
  DERIVED. GIVEN WITH THE SEED: THE CARDS: each row of YtghbjhcbldnenaaGreatDoorRows.lean that lists a variable, with what it lists TIED to the program's text (the seventh form; the later family's looks); each row that meets fmt, with fmt's text TOLD by the authors' own Lean function (tested against real Go, not proved from fmt's source: count such statements apart). THE CARD IS WHAT COUNTS. Prove the row's statement (the work); the ties are given (YtghbjhcbldnenaaGreatDoorTie.lean); close each card by the builder's one call (the guide's Derived/Test/ToyasCard.lean, 'card_holds'). Laid BY PROGRAM, IN A SANDBOX (cutbox-door.mjs). By AI agents, Wed Nov 11 2026. No macro, syntax, notation, axiom, sorry.
-/
import Derived.Test.YtghbjhcbldnenaaGreatDoorRows
import GoSem.ClaimSeven
namespace Go.Proofs.YtghbjhcbldnenaaGreatDoor
namespace Rows

/-- THE TIED CARD OF 'clavecintop.TopStocked'. -/
def topStockedCard : Claim7 := { stood := { row := topStockedRow, standIns := [], harness := (true, "674f2dc1911bfd2a23f38dd83b78d550df5a50cecefc64c0977a4854d6458c77"), looks := false }, kinds := [], alts := [], laidByText := true, laidKinds := [.data, .data, .data], laidTests := true, laidLooks := .later }
def TopStockedCardSaid : Prop := Claim7.holds Tryz.pinned (.plain (OpenSpec.ofChange topStockedSpec)) topStockedCard

/-- THE SECOND FORM's CARD OF 'clavecintop.TopStocked'. -/
def topStockedUptoCard : Claim7 := { stood := { row := topStockedUptoRow, standIns := [], harness := (true, "674f2dc1911bfd2a23f38dd83b78d550df5a50cecefc64c0977a4854d6458c77"), looks := false }, kinds := [], alts := [], laidByText := true, laidKinds := [.data, .data, .data], laidTests := true, laidLooks := .later }
def TopStockedUptoCardSaid : Prop := Claim7.holds Tryz.pinned (.plain (OpenSpec.upto topStockedSpec)) topStockedUptoCard
end Rows
end Go.Proofs.YtghbjhcbldnenaaGreatDoor
