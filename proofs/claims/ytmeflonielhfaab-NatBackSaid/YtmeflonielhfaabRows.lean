/-
  No cell of these rows narrows 'for every input' (looked for: loops, veiled, ifaces, maps, wideKeys, modest, calm, conditions, laid).
  DERIVED. THE GIVEN ROWS OF THIS SEAT. 11 by the template 'for every input the law returns true; each argument reads behind the call as it read before'; 0 by the template 'total and deterministic' (their statements: YtmeflonielhfaabTotals.lean).
  GIVEN WITH THE SEED: the statements are not yours to turn. If you find one false, say at which input.
  Laid BY PROGRAM, IN A SANDBOX (cutbox-rows.mjs): the forced cells as the released guide's own fill.sh prints them over the translation 29d319ff6e21b99b… (all of the seat's roots in one cut). By AI agents, Wed Nov 11 2026. No macro, syntax, notation, axiom, sorry.
-/
import Derived.Test.YtmeflonielhfaabChecked
import GoSem.Claim
import GoSem.ClaimJoined
import GoSem.ClaimMapViews
import Derived.JoinedTies
import Derived.KernelRfl
namespace Go.Proofs.Ytmeflonielhfaab
/- THE CELL 'sum', in the pinned program and in every row, IS THE sha256 OF THE DUMP (.gsa) THAT YtmeflonielhfaabProg.lean LOADS. Nothing in Lean hashes anything: it is a label: what it is worth is what the hold of that sum in a sandbox is worth. -/
noncomputable def Try.pinned : Pinned := { name := "ytmeflonielhfaab", sum := "29d319ff6e21b99b453c5bea09bfeb1c400c8788bffdead600ff8961be6bf2f8", checked := Try.checked }
namespace Rows
def none {H : Type} : Left H := { results := [], args := [] }

/-- 'clavecinlaw01.NatWeighted': WHATEVER THE INPUT: true; the input reads as it did. -/
def natWeightedSpec : ChangeSpec := { name := "natWeighted", fn := fun _ => fun
  | [d1, d2] => { results := [.lit (.bool true)], args := [d1, d2] }
  | _ => none }
def natWeightedRow : OpenClaim := { program := "ytmeflonielhfaab", sum := "29d319ff6e21b99b453c5bea09bfeb1c400c8788bffdead600ff8961be6bf2f8", func := "clavecin/clavecinlaw01.NatWeighted", spec := "natWeighted", unfollowed := true, recurses := true, apart := false }
def NatWeightedSaid : Prop := natWeightedRow.holds Try.pinned (OpenSpec.ofChange natWeightedSpec)

/-- ITS FALSE NEIGHBOUR: 'it returns false'. Refute it at one input. -/
def natWeightedWrong : ChangeSpec := { name := "natWeighted", fn := fun _ => fun
  | [d1, d2] => { results := [.lit (.bool false)], args := [d1, d2] }
  | _ => none }
def NatWeightedWrongFalsely : Prop := natWeightedRow.holds Try.pinned (OpenSpec.ofChange natWeightedWrong)

/-- 'clavecinlaw01.NatQuotient': WHATEVER THE INPUT: true; the input reads as it did. -/
def natQuotientSpec : ChangeSpec := { name := "natQuotient", fn := fun _ => fun
  | [d1, d2] => { results := [.lit (.bool true)], args := [d1, d2] }
  | _ => none }
def natQuotientRow : OpenClaim := { program := "ytmeflonielhfaab", sum := "29d319ff6e21b99b453c5bea09bfeb1c400c8788bffdead600ff8961be6bf2f8", func := "clavecin/clavecinlaw01.NatQuotient", spec := "natQuotient", recurses := true, apart := false }
def NatQuotientSaid : Prop := natQuotientRow.holds Try.pinned (OpenSpec.ofChange natQuotientSpec)

/-- ITS FALSE NEIGHBOUR: 'it returns false'. Refute it at one input. -/
def natQuotientWrong : ChangeSpec := { name := "natQuotient", fn := fun _ => fun
  | [d1, d2] => { results := [.lit (.bool false)], args := [d1, d2] }
  | _ => none }
def NatQuotientWrongFalsely : Prop := natQuotientRow.holds Try.pinned (OpenSpec.ofChange natQuotientWrong)

/-- 'clavecinlaw01.NatGcds': WHATEVER THE INPUT: true; the input reads as it did. -/
def natGcdsSpec : ChangeSpec := { name := "natGcds", fn := fun _ => fun
  | [d1, d2] => { results := [.lit (.bool true)], args := [d1, d2] }
  | _ => none }
def natGcdsRow : OpenClaim := { program := "ytmeflonielhfaab", sum := "29d319ff6e21b99b453c5bea09bfeb1c400c8788bffdead600ff8961be6bf2f8", func := "clavecin/clavecinlaw01.NatGcds", spec := "natGcds", recurses := true, apart := false }
def NatGcdsSaid : Prop := natGcdsRow.holds Try.pinned (OpenSpec.ofChange natGcdsSpec)

/-- ITS FALSE NEIGHBOUR: 'it returns false'. Refute it at one input. -/
def natGcdsWrong : ChangeSpec := { name := "natGcds", fn := fun _ => fun
  | [d1, d2] => { results := [.lit (.bool false)], args := [d1, d2] }
  | _ => none }
def NatGcdsWrongFalsely : Prop := natGcdsRow.holds Try.pinned (OpenSpec.ofChange natGcdsWrong)

/-- 'clavecinlaw01.NatFits': WHATEVER THE INPUT: true; the input reads as it did. -/
def natFitsSpec : ChangeSpec := { name := "natFits", fn := fun _ => fun
  | [d1, d2] => { results := [.lit (.bool true)], args := [d1, d2] }
  | _ => none }
def natFitsRow : OpenClaim := { program := "ytmeflonielhfaab", sum := "29d319ff6e21b99b453c5bea09bfeb1c400c8788bffdead600ff8961be6bf2f8", func := "clavecin/clavecinlaw01.NatFits", spec := "natFits", recurses := true, apart := false }
def NatFitsSaid : Prop := natFitsRow.holds Try.pinned (OpenSpec.ofChange natFitsSpec)

/-- ITS FALSE NEIGHBOUR: 'it returns false'. Refute it at one input. -/
def natFitsWrong : ChangeSpec := { name := "natFits", fn := fun _ => fun
  | [d1, d2] => { results := [.lit (.bool false)], args := [d1, d2] }
  | _ => none }
def NatFitsWrongFalsely : Prop := natFitsRow.holds Try.pinned (OpenSpec.ofChange natFitsWrong)

/-- 'clavecinlaw01.NatCommon': WHATEVER THE INPUT: true; the input reads as it did. -/
def natCommonSpec : ChangeSpec := { name := "natCommon", fn := fun _ => fun
  | [d1, d2, d3] => { results := [.lit (.bool true)], args := [d1, d2, d3] }
  | _ => none }
def natCommonRow : OpenClaim := { program := "ytmeflonielhfaab", sum := "29d319ff6e21b99b453c5bea09bfeb1c400c8788bffdead600ff8961be6bf2f8", func := "clavecin/clavecinlaw01.NatCommon", spec := "natCommon", recurses := true, apart := false }
def NatCommonSaid : Prop := natCommonRow.holds Try.pinned (OpenSpec.ofChange natCommonSpec)

/-- ITS FALSE NEIGHBOUR: 'it returns false'. Refute it at one input. -/
def natCommonWrong : ChangeSpec := { name := "natCommon", fn := fun _ => fun
  | [d1, d2, d3] => { results := [.lit (.bool false)], args := [d1, d2, d3] }
  | _ => none }
def NatCommonWrongFalsely : Prop := natCommonRow.holds Try.pinned (OpenSpec.ofChange natCommonWrong)

/-- 'clavecinlaw01.NatBetween': WHATEVER THE INPUT: true; the input reads as it did. -/
def natBetweenSpec : ChangeSpec := { name := "natBetween", fn := fun _ => fun
  | [d1, d2] => { results := [.lit (.bool true)], args := [d1, d2] }
  | _ => none }
def natBetweenRow : OpenClaim := { program := "ytmeflonielhfaab", sum := "29d319ff6e21b99b453c5bea09bfeb1c400c8788bffdead600ff8961be6bf2f8", func := "clavecin/clavecinlaw01.NatBetween", spec := "natBetween", recurses := true, apart := false }
def NatBetweenSaid : Prop := natBetweenRow.holds Try.pinned (OpenSpec.ofChange natBetweenSpec)

/-- ITS FALSE NEIGHBOUR: 'it returns false'. Refute it at one input. -/
def natBetweenWrong : ChangeSpec := { name := "natBetween", fn := fun _ => fun
  | [d1, d2] => { results := [.lit (.bool false)], args := [d1, d2] }
  | _ => none }
def NatBetweenWrongFalsely : Prop := natBetweenRow.holds Try.pinned (OpenSpec.ofChange natBetweenWrong)

/-- 'clavecinlaw01.NatExponents': WHATEVER THE INPUT: true; the input reads as it did. -/
def natExponentsSpec : ChangeSpec := { name := "natExponents", fn := fun _ => fun
  | [d1, d2, d3] => { results := [.lit (.bool true)], args := [d1, d2, d3] }
  | _ => none }
def natExponentsRow : OpenClaim := { program := "ytmeflonielhfaab", sum := "29d319ff6e21b99b453c5bea09bfeb1c400c8788bffdead600ff8961be6bf2f8", func := "clavecin/clavecinlaw01.NatExponents", spec := "natExponents", recurses := true, apart := false }
def NatExponentsSaid : Prop := natExponentsRow.holds Try.pinned (OpenSpec.ofChange natExponentsSpec)

/-- ITS FALSE NEIGHBOUR: 'it returns false'. Refute it at one input. -/
def natExponentsWrong : ChangeSpec := { name := "natExponents", fn := fun _ => fun
  | [d1, d2, d3] => { results := [.lit (.bool false)], args := [d1, d2, d3] }
  | _ => none }
def NatExponentsWrongFalsely : Prop := natExponentsRow.holds Try.pinned (OpenSpec.ofChange natExponentsWrong)

/-- 'clavecinlaw01.NatTexts': WHATEVER THE INPUT: true; the input reads as it did. -/
def natTextsSpec : ChangeSpec := { name := "natTexts", fn := fun _ => fun
  | [d1, d2] => { results := [.lit (.bool true)], args := [d1, d2] }
  | _ => none }
def natTextsRow : OpenClaim := { program := "ytmeflonielhfaab", sum := "29d319ff6e21b99b453c5bea09bfeb1c400c8788bffdead600ff8961be6bf2f8", func := "clavecin/clavecinlaw01.NatTexts", spec := "natTexts", recurses := true, apart := false }
def NatTextsSaid : Prop := natTextsRow.holds Try.pinned (OpenSpec.ofChange natTextsSpec)

/-- ITS FALSE NEIGHBOUR: 'it returns false'. Refute it at one input. -/
def natTextsWrong : ChangeSpec := { name := "natTexts", fn := fun _ => fun
  | [d1, d2] => { results := [.lit (.bool false)], args := [d1, d2] }
  | _ => none }
def NatTextsWrongFalsely : Prop := natTextsRow.holds Try.pinned (OpenSpec.ofChange natTextsWrong)

/-- 'clavecinlaw01.NatBack': WHATEVER THE INPUT: true; the input reads as it did. -/
def natBackSpec : ChangeSpec := { name := "natBack", fn := fun _ => fun
  | [d1, d2] => { results := [.lit (.bool true)], args := [d1, d2] }
  | _ => none }
def natBackRow : OpenClaim := { program := "ytmeflonielhfaab", sum := "29d319ff6e21b99b453c5bea09bfeb1c400c8788bffdead600ff8961be6bf2f8", func := "clavecin/clavecinlaw01.NatBack", spec := "natBack", recurses := true, apart := false }
def NatBackSaid : Prop := natBackRow.holds Try.pinned (OpenSpec.ofChange natBackSpec)

/-- ITS FALSE NEIGHBOUR: 'it returns false'. Refute it at one input. -/
def natBackWrong : ChangeSpec := { name := "natBack", fn := fun _ => fun
  | [d1, d2] => { results := [.lit (.bool false)], args := [d1, d2] }
  | _ => none }
def NatBackWrongFalsely : Prop := natBackRow.holds Try.pinned (OpenSpec.ofChange natBackWrong)

/-- 'clavecinlaw01.NatLimits': WHATEVER THE INPUT: true; the input reads as it did. -/
def natLimitsSpec : ChangeSpec := { name := "natLimits", fn := fun _ => fun
  | [d] => { results := [.lit (.bool true)], args := [d] }
  | _ => none }
def natLimitsRow : OpenClaim := { program := "ytmeflonielhfaab", sum := "29d319ff6e21b99b453c5bea09bfeb1c400c8788bffdead600ff8961be6bf2f8", func := "clavecin/clavecinlaw01.NatLimits", spec := "natLimits", recurses := true, apart := false }
def NatLimitsSaid : Prop := natLimitsRow.holds Try.pinned (OpenSpec.ofChange natLimitsSpec)

/-- ITS FALSE NEIGHBOUR: 'it returns false'. Refute it at one input. -/
def natLimitsWrong : ChangeSpec := { name := "natLimits", fn := fun _ => fun
  | [d] => { results := [.lit (.bool false)], args := [d] }
  | _ => none }
def NatLimitsWrongFalsely : Prop := natLimitsRow.holds Try.pinned (OpenSpec.ofChange natLimitsWrong)

/-- 'clavecinlaw01.NatOwn': WHATEVER THE INPUT: true; the input reads as it did. -/
def natOwnSpec : ChangeSpec := { name := "natOwn", fn := fun _ => fun
  | [d1, d2, d3] => { results := [.lit (.bool true)], args := [d1, d2, d3] }
  | _ => none }
def natOwnRow : OpenClaim := { program := "ytmeflonielhfaab", sum := "29d319ff6e21b99b453c5bea09bfeb1c400c8788bffdead600ff8961be6bf2f8", func := "clavecin/clavecinlaw01.NatOwn", spec := "natOwn", recurses := true, apart := false }
def NatOwnSaid : Prop := natOwnRow.holds Try.pinned (OpenSpec.ofChange natOwnSpec)

/-- ITS FALSE NEIGHBOUR: 'it returns false'. Refute it at one input. -/
def natOwnWrong : ChangeSpec := { name := "natOwn", fn := fun _ => fun
  | [d1, d2, d3] => { results := [.lit (.bool false)], args := [d1, d2, d3] }
  | _ => none }
def NatOwnWrongFalsely : Prop := natOwnRow.holds Try.pinned (OpenSpec.ofChange natOwnWrong)

/- THE SECOND FORM. 'bulk': how many values and letters a reading holds, each counted each time it is reached (what is shared counts as often as it is met; a slice's spare places count too). A statement '..UptoSaid' is the law's where the arguments, and the package variables that the reading takes, are together of bulk at most 1048576: NARROWER than '..Said'. Prove '..Said' where nothing that the law and all that it calls make is longer than what came in: it says more and counts as full. Else prove '..UptoSaid'. A law counts once. -/
mutual
def uptoBulk {H : Type} : DataW H → Nat
  | .lit (.string bytes) => bytes.length + 1
  | .lit _ => 1
  | .nil => 1
  | .ptr d => uptoBulk d + 1
  | .slice elems spare => uptoBulkAll elems + uptoBulkAll spare + 1
  | .agg parts => uptoBulkAll parts + 1
  | .iface _ d => uptoBulk d + 1
  | .map entries => uptoBulkEntries entries + 1
  | .held _ => 1
def uptoBulkAll {H : Type} : List (DataW H) → Nat
  | [] => 0
  | d :: r => uptoBulk d + uptoBulkAll r
def uptoBulkEntries {H : Type} : List (Lit × DataW H) → Nat
  | [] => 0
  | x :: r => uptoBulkEntry x + uptoBulkEntries r
def uptoBulkEntry {H : Type} : Lit × DataW H → Nat
  | (.string bytes, d) => bytes.length + uptoBulk d + 1
  | (_, d) => uptoBulk d + 1
 end
def uptoSmall : (H : Type) → List (DataW H) → Bool := fun _ ds => decide (uptoBulkAll ds ≤ 1048576)
def OpenSpec.upto (s : _root_.Go.ChangeSpec) : _root_.Go.OpenSpec := { _root_.Go.OpenSpec.ofChange s with cond := some uptoSmall }

/-- 'clavecinlaw01.NatWeighted', WHERE WHAT IT READS IS OF BULK AT MOST 1048576: true; the input reads as it did. -/
def natWeightedUptoRow : OpenClaim := { program := "ytmeflonielhfaab", sum := "29d319ff6e21b99b453c5bea09bfeb1c400c8788bffdead600ff8961be6bf2f8", func := "clavecin/clavecinlaw01.NatWeighted", spec := "natWeighted", unfollowed := true, recurses := true, apart := false, narrowed := true }
def NatWeightedUptoSaid : Prop := natWeightedUptoRow.holds Try.pinned (OpenSpec.upto natWeightedSpec)

/-- 'clavecinlaw01.NatQuotient', WHERE WHAT IT READS IS OF BULK AT MOST 1048576: true; the input reads as it did. -/
def natQuotientUptoRow : OpenClaim := { program := "ytmeflonielhfaab", sum := "29d319ff6e21b99b453c5bea09bfeb1c400c8788bffdead600ff8961be6bf2f8", func := "clavecin/clavecinlaw01.NatQuotient", spec := "natQuotient", recurses := true, apart := false, narrowed := true }
def NatQuotientUptoSaid : Prop := natQuotientUptoRow.holds Try.pinned (OpenSpec.upto natQuotientSpec)

/-- 'clavecinlaw01.NatGcds', WHERE WHAT IT READS IS OF BULK AT MOST 1048576: true; the input reads as it did. -/
def natGcdsUptoRow : OpenClaim := { program := "ytmeflonielhfaab", sum := "29d319ff6e21b99b453c5bea09bfeb1c400c8788bffdead600ff8961be6bf2f8", func := "clavecin/clavecinlaw01.NatGcds", spec := "natGcds", recurses := true, apart := false, narrowed := true }
def NatGcdsUptoSaid : Prop := natGcdsUptoRow.holds Try.pinned (OpenSpec.upto natGcdsSpec)

/-- 'clavecinlaw01.NatFits', WHERE WHAT IT READS IS OF BULK AT MOST 1048576: true; the input reads as it did. -/
def natFitsUptoRow : OpenClaim := { program := "ytmeflonielhfaab", sum := "29d319ff6e21b99b453c5bea09bfeb1c400c8788bffdead600ff8961be6bf2f8", func := "clavecin/clavecinlaw01.NatFits", spec := "natFits", recurses := true, apart := false, narrowed := true }
def NatFitsUptoSaid : Prop := natFitsUptoRow.holds Try.pinned (OpenSpec.upto natFitsSpec)

/-- 'clavecinlaw01.NatCommon', WHERE WHAT IT READS IS OF BULK AT MOST 1048576: true; the input reads as it did. -/
def natCommonUptoRow : OpenClaim := { program := "ytmeflonielhfaab", sum := "29d319ff6e21b99b453c5bea09bfeb1c400c8788bffdead600ff8961be6bf2f8", func := "clavecin/clavecinlaw01.NatCommon", spec := "natCommon", recurses := true, apart := false, narrowed := true }
def NatCommonUptoSaid : Prop := natCommonUptoRow.holds Try.pinned (OpenSpec.upto natCommonSpec)

/-- 'clavecinlaw01.NatBetween', WHERE WHAT IT READS IS OF BULK AT MOST 1048576: true; the input reads as it did. -/
def natBetweenUptoRow : OpenClaim := { program := "ytmeflonielhfaab", sum := "29d319ff6e21b99b453c5bea09bfeb1c400c8788bffdead600ff8961be6bf2f8", func := "clavecin/clavecinlaw01.NatBetween", spec := "natBetween", recurses := true, apart := false, narrowed := true }
def NatBetweenUptoSaid : Prop := natBetweenUptoRow.holds Try.pinned (OpenSpec.upto natBetweenSpec)

/-- 'clavecinlaw01.NatExponents', WHERE WHAT IT READS IS OF BULK AT MOST 1048576: true; the input reads as it did. -/
def natExponentsUptoRow : OpenClaim := { program := "ytmeflonielhfaab", sum := "29d319ff6e21b99b453c5bea09bfeb1c400c8788bffdead600ff8961be6bf2f8", func := "clavecin/clavecinlaw01.NatExponents", spec := "natExponents", recurses := true, apart := false, narrowed := true }
def NatExponentsUptoSaid : Prop := natExponentsUptoRow.holds Try.pinned (OpenSpec.upto natExponentsSpec)

/-- 'clavecinlaw01.NatTexts', WHERE WHAT IT READS IS OF BULK AT MOST 1048576: true; the input reads as it did. -/
def natTextsUptoRow : OpenClaim := { program := "ytmeflonielhfaab", sum := "29d319ff6e21b99b453c5bea09bfeb1c400c8788bffdead600ff8961be6bf2f8", func := "clavecin/clavecinlaw01.NatTexts", spec := "natTexts", recurses := true, apart := false, narrowed := true }
def NatTextsUptoSaid : Prop := natTextsUptoRow.holds Try.pinned (OpenSpec.upto natTextsSpec)

/-- 'clavecinlaw01.NatBack', WHERE WHAT IT READS IS OF BULK AT MOST 1048576: true; the input reads as it did. -/
def natBackUptoRow : OpenClaim := { program := "ytmeflonielhfaab", sum := "29d319ff6e21b99b453c5bea09bfeb1c400c8788bffdead600ff8961be6bf2f8", func := "clavecin/clavecinlaw01.NatBack", spec := "natBack", recurses := true, apart := false, narrowed := true }
def NatBackUptoSaid : Prop := natBackUptoRow.holds Try.pinned (OpenSpec.upto natBackSpec)

/-- 'clavecinlaw01.NatLimits', WHERE WHAT IT READS IS OF BULK AT MOST 1048576: true; the input reads as it did. -/
def natLimitsUptoRow : OpenClaim := { program := "ytmeflonielhfaab", sum := "29d319ff6e21b99b453c5bea09bfeb1c400c8788bffdead600ff8961be6bf2f8", func := "clavecin/clavecinlaw01.NatLimits", spec := "natLimits", recurses := true, apart := false, narrowed := true }
def NatLimitsUptoSaid : Prop := natLimitsUptoRow.holds Try.pinned (OpenSpec.upto natLimitsSpec)

/-- 'clavecinlaw01.NatOwn', WHERE WHAT IT READS IS OF BULK AT MOST 1048576: true; the input reads as it did. -/
def natOwnUptoRow : OpenClaim := { program := "ytmeflonielhfaab", sum := "29d319ff6e21b99b453c5bea09bfeb1c400c8788bffdead600ff8961be6bf2f8", func := "clavecin/clavecinlaw01.NatOwn", spec := "natOwn", recurses := true, apart := false, narrowed := true }
def NatOwnUptoSaid : Prop := natOwnUptoRow.holds Try.pinned (OpenSpec.upto natOwnSpec)

end Rows
end Go.Proofs.Ytmeflonielhfaab
