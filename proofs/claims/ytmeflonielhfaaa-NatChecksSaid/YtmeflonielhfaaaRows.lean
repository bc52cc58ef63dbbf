/-
  No cell of these rows narrows 'for every input' (looked for: loops, veiled, ifaces, maps, wideKeys, modest, calm, conditions, laid).
  DERIVED. THE GIVEN ROWS OF THIS SEAT. 12 by the template 'for every input the law returns true; each argument reads behind the call as it read before'; 0 by the template 'total and deterministic' (their statements: YtmeflonielhfaaaTotals.lean).
  GIVEN WITH THE SEED: the statements are not yours to turn. If you find one false, say at which input.
  Laid BY PROGRAM, IN A SANDBOX (cutbox-rows.mjs): the forced cells as the released guide's own fill.sh prints them over the translation f67c1c05cc527be0… (all of the seat's roots in one cut). By AI agents, Wed Nov 11 2026. No macro, syntax, notation, axiom, sorry.
-/
import Derived.Test.YtmeflonielhfaaaChecked
import GoSem.Claim
import GoSem.ClaimJoined
import GoSem.ClaimMapViews
import Derived.JoinedTies
import Derived.KernelRfl
namespace Go.Proofs.Ytmeflonielhfaaa
/- THE CELL 'sum', in the pinned program and in every row, IS THE sha256 OF THE DUMP (.gsa) THAT YtmeflonielhfaaaProg.lean LOADS. Nothing in Lean hashes anything: it is a label: what it is worth is what the hold of that sum in a sandbox is worth. -/
noncomputable def Try.pinned : Pinned := { name := "ytmeflonielhfaaa", sum := "f67c1c05cc527be0ff423831c860c74de831a5bce7ab3cf01dd0c6cf62fafdf5", checked := Try.checked }
namespace Rows
def none {H : Type} : Left H := { results := [], args := [] }

/-- 'clavecinlaw01.NatMuls': WHATEVER THE INPUT: true; the input reads as it did. -/
def natMulsSpec : ChangeSpec := { name := "natMuls", fn := fun _ => fun
  | [d1, d2] => { results := [.lit (.bool true)], args := [d1, d2] }
  | _ => none }
def natMulsRow : OpenClaim := { program := "ytmeflonielhfaaa", sum := "f67c1c05cc527be0ff423831c860c74de831a5bce7ab3cf01dd0c6cf62fafdf5", func := "clavecin/clavecinlaw01.NatMuls", spec := "natMuls", recurses := true, apart := false }
def NatMulsSaid : Prop := natMulsRow.holds Try.pinned (OpenSpec.ofChange natMulsSpec)

/-- ITS FALSE NEIGHBOUR: 'it returns false'. Refute it at one input. -/
def natMulsWrong : ChangeSpec := { name := "natMuls", fn := fun _ => fun
  | [d1, d2] => { results := [.lit (.bool false)], args := [d1, d2] }
  | _ => none }
def NatMulsWrongFalsely : Prop := natMulsRow.holds Try.pinned (OpenSpec.ofChange natMulsWrong)

/-- 'clavecinlaw01.NatRoots': WHATEVER THE INPUT: true; the input reads as it did. -/
def natRootsSpec : ChangeSpec := { name := "natRoots", fn := fun _ => fun
  | [d1, d2] => { results := [.lit (.bool true)], args := [d1, d2] }
  | _ => none }
def natRootsRow : OpenClaim := { program := "ytmeflonielhfaaa", sum := "f67c1c05cc527be0ff423831c860c74de831a5bce7ab3cf01dd0c6cf62fafdf5", func := "clavecin/clavecinlaw01.NatRoots", spec := "natRoots", recurses := true, apart := false }
def NatRootsSaid : Prop := natRootsRow.holds Try.pinned (OpenSpec.ofChange natRootsSpec)

/-- ITS FALSE NEIGHBOUR: 'it returns false'. Refute it at one input. -/
def natRootsWrong : ChangeSpec := { name := "natRoots", fn := fun _ => fun
  | [d1, d2] => { results := [.lit (.bool false)], args := [d1, d2] }
  | _ => none }
def NatRootsWrongFalsely : Prop := natRootsRow.holds Try.pinned (OpenSpec.ofChange natRootsWrong)

/-- 'clavecinlaw01.NatDivides': WHATEVER THE INPUT: true; the input reads as it did. -/
def natDividesSpec : ChangeSpec := { name := "natDivides", fn := fun _ => fun
  | [d1, d2] => { results := [.lit (.bool true)], args := [d1, d2] }
  | _ => none }
def natDividesRow : OpenClaim := { program := "ytmeflonielhfaaa", sum := "f67c1c05cc527be0ff423831c860c74de831a5bce7ab3cf01dd0c6cf62fafdf5", func := "clavecin/clavecinlaw01.NatDivides", spec := "natDivides", recurses := true, apart := false }
def NatDividesSaid : Prop := natDividesRow.holds Try.pinned (OpenSpec.ofChange natDividesSpec)

/-- ITS FALSE NEIGHBOUR: 'it returns false'. Refute it at one input. -/
def natDividesWrong : ChangeSpec := { name := "natDivides", fn := fun _ => fun
  | [d1, d2] => { results := [.lit (.bool false)], args := [d1, d2] }
  | _ => none }
def NatDividesWrongFalsely : Prop := natDividesRow.holds Try.pinned (OpenSpec.ofChange natDividesWrong)

/-- 'clavecinlaw01.NatShifts': WHATEVER THE INPUT: true; the input reads as it did. -/
def natShiftsSpec : ChangeSpec := { name := "natShifts", fn := fun _ => fun
  | [d1, d2] => { results := [.lit (.bool true)], args := [d1, d2] }
  | _ => none }
def natShiftsRow : OpenClaim := { program := "ytmeflonielhfaaa", sum := "f67c1c05cc527be0ff423831c860c74de831a5bce7ab3cf01dd0c6cf62fafdf5", func := "clavecin/clavecinlaw01.NatShifts", spec := "natShifts", recurses := true, apart := false }
def NatShiftsSaid : Prop := natShiftsRow.holds Try.pinned (OpenSpec.ofChange natShiftsSpec)

/-- ITS FALSE NEIGHBOUR: 'it returns false'. Refute it at one input. -/
def natShiftsWrong : ChangeSpec := { name := "natShifts", fn := fun _ => fun
  | [d1, d2] => { results := [.lit (.bool false)], args := [d1, d2] }
  | _ => none }
def NatShiftsWrongFalsely : Prop := natShiftsRow.holds Try.pinned (OpenSpec.ofChange natShiftsWrong)

/-- 'clavecinlaw01.NatDigits': WHATEVER THE INPUT: true; the input reads as it did. -/
def natDigitsSpec : ChangeSpec := { name := "natDigits", fn := fun _ => fun
  | [d1, d2, d3] => { results := [.lit (.bool true)], args := [d1, d2, d3] }
  | _ => none }
def natDigitsRow : OpenClaim := { program := "ytmeflonielhfaaa", sum := "f67c1c05cc527be0ff423831c860c74de831a5bce7ab3cf01dd0c6cf62fafdf5", func := "clavecin/clavecinlaw01.NatDigits", spec := "natDigits", unfollowed := true, recurses := true, apart := false }
def NatDigitsSaid : Prop := natDigitsRow.holds Try.pinned (OpenSpec.ofChange natDigitsSpec)

/-- ITS FALSE NEIGHBOUR: 'it returns false'. Refute it at one input. -/
def natDigitsWrong : ChangeSpec := { name := "natDigits", fn := fun _ => fun
  | [d1, d2, d3] => { results := [.lit (.bool false)], args := [d1, d2, d3] }
  | _ => none }
def NatDigitsWrongFalsely : Prop := natDigitsRow.holds Try.pinned (OpenSpec.ofChange natDigitsWrong)

/-- 'clavecinlaw01.NatRing': WHATEVER THE INPUT: true; the input reads as it did. -/
def natRingSpec : ChangeSpec := { name := "natRing", fn := fun _ => fun
  | [d1, d2, d3] => { results := [.lit (.bool true)], args := [d1, d2, d3] }
  | _ => none }
def natRingRow : OpenClaim := { program := "ytmeflonielhfaaa", sum := "f67c1c05cc527be0ff423831c860c74de831a5bce7ab3cf01dd0c6cf62fafdf5", func := "clavecin/clavecinlaw01.NatRing", spec := "natRing", recurses := true, apart := false }
def NatRingSaid : Prop := natRingRow.holds Try.pinned (OpenSpec.ofChange natRingSpec)

/-- ITS FALSE NEIGHBOUR: 'it returns false'. Refute it at one input. -/
def natRingWrong : ChangeSpec := { name := "natRing", fn := fun _ => fun
  | [d1, d2, d3] => { results := [.lit (.bool false)], args := [d1, d2, d3] }
  | _ => none }
def NatRingWrongFalsely : Prop := natRingRow.holds Try.pinned (OpenSpec.ofChange natRingWrong)

/-- 'clavecinlaw01.NatQuotientOf': WHATEVER THE INPUT: true; the input reads as it did. -/
def natQuotientOfSpec : ChangeSpec := { name := "natQuotientOf", fn := fun _ => fun
  | [d1, d2, d3] => { results := [.lit (.bool true)], args := [d1, d2, d3] }
  | _ => none }
def natQuotientOfRow : OpenClaim := { program := "ytmeflonielhfaaa", sum := "f67c1c05cc527be0ff423831c860c74de831a5bce7ab3cf01dd0c6cf62fafdf5", func := "clavecin/clavecinlaw01.NatQuotientOf", spec := "natQuotientOf", recurses := true, apart := false }
def NatQuotientOfSaid : Prop := natQuotientOfRow.holds Try.pinned (OpenSpec.ofChange natQuotientOfSpec)

/-- ITS FALSE NEIGHBOUR: 'it returns false'. Refute it at one input. -/
def natQuotientOfWrong : ChangeSpec := { name := "natQuotientOf", fn := fun _ => fun
  | [d1, d2, d3] => { results := [.lit (.bool false)], args := [d1, d2, d3] }
  | _ => none }
def NatQuotientOfWrongFalsely : Prop := natQuotientOfRow.holds Try.pinned (OpenSpec.ofChange natQuotientOfWrong)

/-- 'clavecinlaw01.NatPowMods': WHATEVER THE INPUT: true; the input reads as it did. -/
def natPowModsSpec : ChangeSpec := { name := "natPowMods", fn := fun _ => fun
  | [d1, d2, d3] => { results := [.lit (.bool true)], args := [d1, d2, d3] }
  | _ => none }
def natPowModsRow : OpenClaim := { program := "ytmeflonielhfaaa", sum := "f67c1c05cc527be0ff423831c860c74de831a5bce7ab3cf01dd0c6cf62fafdf5", func := "clavecin/clavecinlaw01.NatPowMods", spec := "natPowMods", recurses := true, apart := false }
def NatPowModsSaid : Prop := natPowModsRow.holds Try.pinned (OpenSpec.ofChange natPowModsSpec)

/-- ITS FALSE NEIGHBOUR: 'it returns false'. Refute it at one input. -/
def natPowModsWrong : ChangeSpec := { name := "natPowMods", fn := fun _ => fun
  | [d1, d2, d3] => { results := [.lit (.bool false)], args := [d1, d2, d3] }
  | _ => none }
def NatPowModsWrongFalsely : Prop := natPowModsRow.holds Try.pinned (OpenSpec.ofChange natPowModsWrong)

/-- 'clavecinlaw01.NatChecks': WHATEVER THE INPUT: true; the input reads as it did. -/
def natChecksSpec : ChangeSpec := { name := "natChecks", fn := fun _ => fun
  | [d1, d2] => { results := [.lit (.bool true)], args := [d1, d2] }
  | _ => none }
def natChecksRow : OpenClaim := { program := "ytmeflonielhfaaa", sum := "f67c1c05cc527be0ff423831c860c74de831a5bce7ab3cf01dd0c6cf62fafdf5", func := "clavecin/clavecinlaw01.NatChecks", spec := "natChecks", recurses := true, apart := false }
def NatChecksSaid : Prop := natChecksRow.holds Try.pinned (OpenSpec.ofChange natChecksSpec)

/-- ITS FALSE NEIGHBOUR: 'it returns false'. Refute it at one input. -/
def natChecksWrong : ChangeSpec := { name := "natChecks", fn := fun _ => fun
  | [d1, d2] => { results := [.lit (.bool false)], args := [d1, d2] }
  | _ => none }
def NatChecksWrongFalsely : Prop := natChecksRow.holds Try.pinned (OpenSpec.ofChange natChecksWrong)

/-- 'clavecinlaw01.NatAdds': WHATEVER THE INPUT: true; the input reads as it did. -/
def natAddsSpec : ChangeSpec := { name := "natAdds", fn := fun _ => fun
  | [d1, d2] => { results := [.lit (.bool true)], args := [d1, d2] }
  | _ => none }
def natAddsRow : OpenClaim := { program := "ytmeflonielhfaaa", sum := "f67c1c05cc527be0ff423831c860c74de831a5bce7ab3cf01dd0c6cf62fafdf5", func := "clavecin/clavecinlaw01.NatAdds", spec := "natAdds", recurses := true, apart := false }
def NatAddsSaid : Prop := natAddsRow.holds Try.pinned (OpenSpec.ofChange natAddsSpec)

/-- ITS FALSE NEIGHBOUR: 'it returns false'. Refute it at one input. -/
def natAddsWrong : ChangeSpec := { name := "natAdds", fn := fun _ => fun
  | [d1, d2] => { results := [.lit (.bool false)], args := [d1, d2] }
  | _ => none }
def NatAddsWrongFalsely : Prop := natAddsRow.holds Try.pinned (OpenSpec.ofChange natAddsWrong)

/-- 'clavecinlaw01.NatPowers': WHATEVER THE INPUT: true; the input reads as it did. -/
def natPowersSpec : ChangeSpec := { name := "natPowers", fn := fun _ => fun
  | [d1, d2] => { results := [.lit (.bool true)], args := [d1, d2] }
  | _ => none }
def natPowersRow : OpenClaim := { program := "ytmeflonielhfaaa", sum := "f67c1c05cc527be0ff423831c860c74de831a5bce7ab3cf01dd0c6cf62fafdf5", func := "clavecin/clavecinlaw01.NatPowers", spec := "natPowers", recurses := true, apart := false }
def NatPowersSaid : Prop := natPowersRow.holds Try.pinned (OpenSpec.ofChange natPowersSpec)

/-- ITS FALSE NEIGHBOUR: 'it returns false'. Refute it at one input. -/
def natPowersWrong : ChangeSpec := { name := "natPowers", fn := fun _ => fun
  | [d1, d2] => { results := [.lit (.bool false)], args := [d1, d2] }
  | _ => none }
def NatPowersWrongFalsely : Prop := natPowersRow.holds Try.pinned (OpenSpec.ofChange natPowersWrong)

/-- 'clavecinlaw01.NatSquares': WHATEVER THE INPUT: true; the input reads as it did. -/
def natSquaresSpec : ChangeSpec := { name := "natSquares", fn := fun _ => fun
  | [d1, d2] => { results := [.lit (.bool true)], args := [d1, d2] }
  | _ => none }
def natSquaresRow : OpenClaim := { program := "ytmeflonielhfaaa", sum := "f67c1c05cc527be0ff423831c860c74de831a5bce7ab3cf01dd0c6cf62fafdf5", func := "clavecin/clavecinlaw01.NatSquares", spec := "natSquares", recurses := true, apart := false }
def NatSquaresSaid : Prop := natSquaresRow.holds Try.pinned (OpenSpec.ofChange natSquaresSpec)

/-- ITS FALSE NEIGHBOUR: 'it returns false'. Refute it at one input. -/
def natSquaresWrong : ChangeSpec := { name := "natSquares", fn := fun _ => fun
  | [d1, d2] => { results := [.lit (.bool false)], args := [d1, d2] }
  | _ => none }
def NatSquaresWrongFalsely : Prop := natSquaresRow.holds Try.pinned (OpenSpec.ofChange natSquaresWrong)

/- THE SECOND FORM. 'bulk': how many values and letters a reading holds, each counted each time it is reached (what is shared counts as often as it is met; a slice's spare places count too). A statement '..UptoSaid' is the law's where the arguments, and the package variables that the reading takes, are together of bulk at most 1048576: NARROWER than '..Said'. Prove '..Said' where nothing that the law and all that it calls make is longer than what came in: it says more and counts as full. Else prove '..UptoSaid'. A law counts once. -/
mutual
def uptoBulk {H : Type} : DataW H → Nat
  | .lit (.string bytes) => bytes.length + 1
  | .lit _ => 1
  | .nil => 1
  | .ptr d => uptoBulk d + 1
  | .slice elems spare => uptoBulkAll elems + uptoBulkAll spare + 1
  | .agg parts => uptoBulkAll parts + 1
  | .iface _ d => uptoBulk d + 1
  | .map entries => uptoBulkEntries entries + 1
  | .held _ => 1
def uptoBulkAll {H : Type} : List (DataW H) → Nat
  | [] => 0
  | d :: r => uptoBulk d + uptoBulkAll r
def uptoBulkEntries {H : Type} : List (Lit × DataW H) → Nat
  | [] => 0
  | x :: r => uptoBulkEntry x + uptoBulkEntries r
def uptoBulkEntry {H : Type} : Lit × DataW H → Nat
  | (.string bytes, d) => bytes.length + uptoBulk d + 1
  | (_, d) => uptoBulk d + 1
 end
def uptoSmall : (H : Type) → List (DataW H) → Bool := fun _ ds => decide (uptoBulkAll ds ≤ 1048576)
def OpenSpec.upto (s : _root_.Go.ChangeSpec) : _root_.Go.OpenSpec := { _root_.Go.OpenSpec.ofChange s with cond := some uptoSmall }

/-- 'clavecinlaw01.NatMuls', WHERE WHAT IT READS IS OF BULK AT MOST 1048576: true; the input reads as it did. -/
def natMulsUptoRow : OpenClaim := { program := "ytmeflonielhfaaa", sum := "f67c1c05cc527be0ff423831c860c74de831a5bce7ab3cf01dd0c6cf62fafdf5", func := "clavecin/clavecinlaw01.NatMuls", spec := "natMuls", recurses := true, apart := false, narrowed := true }
def NatMulsUptoSaid : Prop := natMulsUptoRow.holds Try.pinned (OpenSpec.upto natMulsSpec)

/-- 'clavecinlaw01.NatRoots', WHERE WHAT IT READS IS OF BULK AT MOST 1048576: true; the input reads as it did. -/
def natRootsUptoRow : OpenClaim := { program := "ytmeflonielhfaaa", sum := "f67c1c05cc527be0ff423831c860c74de831a5bce7ab3cf01dd0c6cf62fafdf5", func := "clavecin/clavecinlaw01.NatRoots", spec := "natRoots", recurses := true, apart := false, narrowed := true }
def NatRootsUptoSaid : Prop := natRootsUptoRow.holds Try.pinned (OpenSpec.upto natRootsSpec)

/-- 'clavecinlaw01.NatDivides', WHERE WHAT IT READS IS OF BULK AT MOST 1048576: true; the input reads as it did. -/
def natDividesUptoRow : OpenClaim := { program := "ytmeflonielhfaaa", sum := "f67c1c05cc527be0ff423831c860c74de831a5bce7ab3cf01dd0c6cf62fafdf5", func := "clavecin/clavecinlaw01.NatDivides", spec := "natDivides", recurses := true, apart := false, narrowed := true }
def NatDividesUptoSaid : Prop := natDividesUptoRow.holds Try.pinned (OpenSpec.upto natDividesSpec)

/-- 'clavecinlaw01.NatShifts', WHERE WHAT IT READS IS OF BULK AT MOST 1048576: true; the input reads as it did. -/
def natShiftsUptoRow : OpenClaim := { program := "ytmeflonielhfaaa", sum := "f67c1c05cc527be0ff423831c860c74de831a5bce7ab3cf01dd0c6cf62fafdf5", func := "clavecin/clavecinlaw01.NatShifts", spec := "natShifts", recurses := true, apart := false, narrowed := true }
def NatShiftsUptoSaid : Prop := natShiftsUptoRow.holds Try.pinned (OpenSpec.upto natShiftsSpec)

/-- 'clavecinlaw01.NatDigits', WHERE WHAT IT READS IS OF BULK AT MOST 1048576: true; the input reads as it did. -/
def natDigitsUptoRow : OpenClaim := { program := "ytmeflonielhfaaa", sum := "f67c1c05cc527be0ff423831c860c74de831a5bce7ab3cf01dd0c6cf62fafdf5", func := "clavecin/clavecinlaw01.NatDigits", spec := "natDigits", unfollowed := true, recurses := true, apart := false, narrowed := true }
def NatDigitsUptoSaid : Prop := natDigitsUptoRow.holds Try.pinned (OpenSpec.upto natDigitsSpec)

/-- 'clavecinlaw01.NatRing', WHERE WHAT IT READS IS OF BULK AT MOST 1048576: true; the input reads as it did. -/
def natRingUptoRow : OpenClaim := { program := "ytmeflonielhfaaa", sum := "f67c1c05cc527be0ff423831c860c74de831a5bce7ab3cf01dd0c6cf62fafdf5", func := "clavecin/clavecinlaw01.NatRing", spec := "natRing", recurses := true, apart := false, narrowed := true }
def NatRingUptoSaid : Prop := natRingUptoRow.holds Try.pinned (OpenSpec.upto natRingSpec)

/-- 'clavecinlaw01.NatQuotientOf', WHERE WHAT IT READS IS OF BULK AT MOST 1048576: true; the input reads as it did. -/
def natQuotientOfUptoRow : OpenClaim := { program := "ytmeflonielhfaaa", sum := "f67c1c05cc527be0ff423831c860c74de831a5bce7ab3cf01dd0c6cf62fafdf5", func := "clavecin/clavecinlaw01.NatQuotientOf", spec := "natQuotientOf", recurses := true, apart := false, narrowed := true }
def NatQuotientOfUptoSaid : Prop := natQuotientOfUptoRow.holds Try.pinned (OpenSpec.upto natQuotientOfSpec)

/-- 'clavecinlaw01.NatPowMods', WHERE WHAT IT READS IS OF BULK AT MOST 1048576: true; the input reads as it did. -/
def natPowModsUptoRow : OpenClaim := { program := "ytmeflonielhfaaa", sum := "f67c1c05cc527be0ff423831c860c74de831a5bce7ab3cf01dd0c6cf62fafdf5", func := "clavecin/clavecinlaw01.NatPowMods", spec := "natPowMods", recurses := true, apart := false, narrowed := true }
def NatPowModsUptoSaid : Prop := natPowModsUptoRow.holds Try.pinned (OpenSpec.upto natPowModsSpec)

/-- 'clavecinlaw01.NatChecks', WHERE WHAT IT READS IS OF BULK AT MOST 1048576: true; the input reads as it did. -/
def natChecksUptoRow : OpenClaim := { program := "ytmeflonielhfaaa", sum := "f67c1c05cc527be0ff423831c860c74de831a5bce7ab3cf01dd0c6cf62fafdf5", func := "clavecin/clavecinlaw01.NatChecks", spec := "natChecks", recurses := true, apart := false, narrowed := true }
def NatChecksUptoSaid : Prop := natChecksUptoRow.holds Try.pinned (OpenSpec.upto natChecksSpec)

/-- 'clavecinlaw01.NatAdds', WHERE WHAT IT READS IS OF BULK AT MOST 1048576: true; the input reads as it did. -/
def natAddsUptoRow : OpenClaim := { program := "ytmeflonielhfaaa", sum := "f67c1c05cc527be0ff423831c860c74de831a5bce7ab3cf01dd0c6cf62fafdf5", func := "clavecin/clavecinlaw01.NatAdds", spec := "natAdds", recurses := true, apart := false, narrowed := true }
def NatAddsUptoSaid : Prop := natAddsUptoRow.holds Try.pinned (OpenSpec.upto natAddsSpec)

/-- 'clavecinlaw01.NatPowers', WHERE WHAT IT READS IS OF BULK AT MOST 1048576: true; the input reads as it did. -/
def natPowersUptoRow : OpenClaim := { program := "ytmeflonielhfaaa", sum := "f67c1c05cc527be0ff423831c860c74de831a5bce7ab3cf01dd0c6cf62fafdf5", func := "clavecin/clavecinlaw01.NatPowers", spec := "natPowers", recurses := true, apart := false, narrowed := true }
def NatPowersUptoSaid : Prop := natPowersUptoRow.holds Try.pinned (OpenSpec.upto natPowersSpec)

/-- 'clavecinlaw01.NatSquares', WHERE WHAT IT READS IS OF BULK AT MOST 1048576: true; the input reads as it did. -/
def natSquaresUptoRow : OpenClaim := { program := "ytmeflonielhfaaa", sum := "f67c1c05cc527be0ff423831c860c74de831a5bce7ab3cf01dd0c6cf62fafdf5", func := "clavecin/clavecinlaw01.NatSquares", spec := "natSquares", recurses := true, apart := false, narrowed := true }
def NatSquaresUptoSaid : Prop := natSquaresUptoRow.holds Try.pinned (OpenSpec.upto natSquaresSpec)

end Rows
end Go.Proofs.Ytmeflonielhfaaa
