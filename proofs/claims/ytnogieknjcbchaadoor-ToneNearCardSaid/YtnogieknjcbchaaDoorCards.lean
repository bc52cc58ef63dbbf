/-
  DERIVED. GIVEN WITH THE SEED: THE CARDS: each row of YtnogieknjcbchaaDoorRows.lean that lists a variable, with what it lists TIED to the program's text (the seventh form; the later family's looks); each row that meets fmt, with fmt's text TOLD by the authors' own Lean function (tested against real Go, not proved from fmt's source: count such statements apart). THE CARD IS WHAT COUNTS. Prove the row's statement (the work); the ties are given (YtnogieknjcbchaaDoorTie.lean); close each card by the builder's one call (the guide's Derived/Test/ToyasCard.lean, 'card_holds'). Laid BY PROGRAM, IN A SANDBOX (cutbox-door.mjs). By AI agents, Wed Nov 11 2026. No macro, syntax, notation, axiom, sorry.
-/
import Derived.Test.YtnogieknjcbchaaDoorRows
import GoSem.ClaimSeven
namespace Go.Proofs.YtnogieknjcbchaaDoor
namespace Rows

/-- THE TIED CARD OF 'clavecinlaw02.ToneFareys'. -/
def toneFareysCard : Claim7 := { stood := { row := toneFareysRow, standIns := [], harness := (true, "038f7de86f9c6ba284cfb35ab6450b4d189e7ff9b20791489086cdba4a86e111"), looks := false }, kinds := [], alts := [], laidByText := true, laidKinds := [.data, .data, .data], laidTests := true, laidLooks := .later }
def ToneFareysCardSaid : Prop := Claim7.holds Tryd.pinned (.plain (OpenSpec.ofChange toneFareysSpec)) toneFareysCard

/-- THE TIED CARD OF 'clavecinlaw02.ToneNext'. -/
def toneNextCard : Claim7 := { stood := { row := toneNextRow, standIns := [], harness := (true, "038f7de86f9c6ba284cfb35ab6450b4d189e7ff9b20791489086cdba4a86e111"), looks := false }, kinds := [], alts := [], laidByText := true, laidKinds := [.data, .data, .data], laidTests := true, laidLooks := .later }
def ToneNextCardSaid : Prop := Claim7.holds Tryd.pinned (.plain (OpenSpec.ofChange toneNextSpec)) toneNextCard

/-- THE TIED CARD OF 'clavecinlaw02.ToneDivides'. -/
def toneDividesCard : Claim7 := { stood := { row := toneDividesRow, standIns := [], harness := (true, "038f7de86f9c6ba284cfb35ab6450b4d189e7ff9b20791489086cdba4a86e111"), looks := false }, kinds := [], alts := [], laidByText := true, laidKinds := [.data, .data, .data], laidTests := true, laidLooks := .later }
def ToneDividesCardSaid : Prop := Claim7.holds Tryd.pinned (.plain (OpenSpec.ofChange toneDividesSpec)) toneDividesCard

/-- THE TIED CARD OF 'clavecinlaw02.ToneNear'. -/
def toneNearCard : Claim7 := { stood := { row := toneNearRow, standIns := [], harness := (true, "038f7de86f9c6ba284cfb35ab6450b4d189e7ff9b20791489086cdba4a86e111"), looks := false }, kinds := [], alts := [], laidByText := true, laidKinds := [.data, .data, .data], laidTests := true, laidLooks := .later }
def ToneNearCardSaid : Prop := Claim7.holds Tryd.pinned (.plain (OpenSpec.ofChange toneNearSpec)) toneNearCard

/-- THE SECOND FORM's CARD OF 'clavecinlaw02.ToneFareys'. -/
def toneFareysUptoCard : Claim7 := { stood := { row := toneFareysUptoRow, standIns := [], harness := (true, "038f7de86f9c6ba284cfb35ab6450b4d189e7ff9b20791489086cdba4a86e111"), looks := false }, kinds := [], alts := [], laidByText := true, laidKinds := [.data, .data, .data], laidTests := true, laidLooks := .later }
def ToneFareysUptoCardSaid : Prop := Claim7.holds Tryd.pinned (.plain (OpenSpec.upto toneFareysSpec)) toneFareysUptoCard

/-- THE SECOND FORM's CARD OF 'clavecinlaw02.ToneNext'. -/
def toneNextUptoCard : Claim7 := { stood := { row := toneNextUptoRow, standIns := [], harness := (true, "038f7de86f9c6ba284cfb35ab6450b4d189e7ff9b20791489086cdba4a86e111"), looks := false }, kinds := [], alts := [], laidByText := true, laidKinds := [.data, .data, .data], laidTests := true, laidLooks := .later }
def ToneNextUptoCardSaid : Prop := Claim7.holds Tryd.pinned (.plain (OpenSpec.upto toneNextSpec)) toneNextUptoCard

/-- THE SECOND FORM's CARD OF 'clavecinlaw02.ToneDivides'. -/
def toneDividesUptoCard : Claim7 := { stood := { row := toneDividesUptoRow, standIns := [], harness := (true, "038f7de86f9c6ba284cfb35ab6450b4d189e7ff9b20791489086cdba4a86e111"), looks := false }, kinds := [], alts := [], laidByText := true, laidKinds := [.data, .data, .data], laidTests := true, laidLooks := .later }
def ToneDividesUptoCardSaid : Prop := Claim7.holds Tryd.pinned (.plain (OpenSpec.upto toneDividesSpec)) toneDividesUptoCard

/-- THE SECOND FORM's CARD OF 'clavecinlaw02.ToneNear'. -/
def toneNearUptoCard : Claim7 := { stood := { row := toneNearUptoRow, standIns := [], harness := (true, "038f7de86f9c6ba284cfb35ab6450b4d189e7ff9b20791489086cdba4a86e111"), looks := false }, kinds := [], alts := [], laidByText := true, laidKinds := [.data, .data, .data], laidTests := true, laidLooks := .later }
def ToneNearUptoCardSaid : Prop := Claim7.holds Tryd.pinned (.plain (OpenSpec.upto toneNearSpec)) toneNearUptoCard
end Rows
end Go.Proofs.YtnogieknjcbchaaDoor
