/-
  No cell of these rows narrows 'for every input' (looked for: loops, veiled, ifaces, maps, wideKeys, modest, calm, conditions, laid).
  DERIVED. THE GIVEN ROWS OF THIS SEAT. 4 by the template 'for every input the law returns true; each argument reads behind the call as it read before'; 0 by the template 'total and deterministic' (their statements: YtbpkobjiinkpoaaTotals.lean).
  GIVEN WITH THE SEED: the statements are not yours to turn. If you find one false, say at which input.
  Laid BY PROGRAM, IN A SANDBOX (cutbox-rows.mjs): the forced cells as the released guide's own fill.sh prints them over the translation 2b7b1e43fe9eb1e4… (all of the seat's roots in one cut). By AI agents, Wed Nov 11 2026. No macro, syntax, notation, axiom, sorry.
-/
import Derived.Test.YtbpkobjiinkpoaaChecked
import GoSem.Claim
import GoSem.ClaimJoined
import GoSem.ClaimMapViews
import Derived.JoinedTies
import Derived.KernelRfl
namespace Go.Proofs.Ytbpkobjiinkpoaa
/- THE CELL 'sum', in the pinned program and in every row, IS THE sha256 OF THE DUMP (.gsa) THAT YtbpkobjiinkpoaaProg.lean LOADS. Nothing in Lean hashes anything: it is a label: what it is worth is what the hold of that sum in a sandbox is worth. -/
noncomputable def Try.pinned : Pinned := { name := "ytbpkobjiinkpoaa", sum := "2b7b1e43fe9eb1e4d799c9dc88324cf28a263a3bbb0b24f9c4d65983d6d3d484", checked := Try.checked }
namespace Rows
def none {H : Type} : Left H := { results := [], args := [] }

/-- 'clavecinlaw01.NatDigits': WHATEVER THE INPUT: true; the input reads as it did. -/
def natDigitsSpec : ChangeSpec := { name := "natDigits", fn := fun _ => fun
  | [d1, d2, d3] => { results := [.lit (.bool true)], args := [d1, d2, d3] }
  | _ => none }
def natDigitsRow : OpenClaim := { program := "ytbpkobjiinkpoaa", sum := "2b7b1e43fe9eb1e4d799c9dc88324cf28a263a3bbb0b24f9c4d65983d6d3d484", func := "clavecin/clavecinlaw01.NatDigits", spec := "natDigits", unfollowed := true, recurses := true, apart := false }
def NatDigitsSaid : Prop := natDigitsRow.holds Try.pinned (OpenSpec.ofChange natDigitsSpec)

/-- ITS FALSE NEIGHBOUR: 'it returns false'. Refute it at one input. -/
def natDigitsWrong : ChangeSpec := { name := "natDigits", fn := fun _ => fun
  | [d1, d2, d3] => { results := [.lit (.bool false)], args := [d1, d2, d3] }
  | _ => none }
def NatDigitsWrongFalsely : Prop := natDigitsRow.holds Try.pinned (OpenSpec.ofChange natDigitsWrong)

/-- 'clavecinlaw01.NatWeighted': WHATEVER THE INPUT: true; the input reads as it did. -/
def natWeightedSpec : ChangeSpec := { name := "natWeighted", fn := fun _ => fun
  | [d1, d2] => { results := [.lit (.bool true)], args := [d1, d2] }
  | _ => none }
def natWeightedRow : OpenClaim := { program := "ytbpkobjiinkpoaa", sum := "2b7b1e43fe9eb1e4d799c9dc88324cf28a263a3bbb0b24f9c4d65983d6d3d484", func := "clavecin/clavecinlaw01.NatWeighted", spec := "natWeighted", unfollowed := true, recurses := true, apart := false }
def NatWeightedSaid : Prop := natWeightedRow.holds Try.pinned (OpenSpec.ofChange natWeightedSpec)

/-- ITS FALSE NEIGHBOUR: 'it returns false'. Refute it at one input. -/
def natWeightedWrong : ChangeSpec := { name := "natWeighted", fn := fun _ => fun
  | [d1, d2] => { results := [.lit (.bool false)], args := [d1, d2] }
  | _ => none }
def NatWeightedWrongFalsely : Prop := natWeightedRow.holds Try.pinned (OpenSpec.ofChange natWeightedWrong)

/-- 'clavecinlaw01.NatLimits': WHATEVER THE INPUT: true; the input reads as it did. -/
def natLimitsSpec : ChangeSpec := { name := "natLimits", fn := fun _ => fun
  | [d] => { results := [.lit (.bool true)], args := [d] }
  | _ => none }
def natLimitsRow : OpenClaim := { program := "ytbpkobjiinkpoaa", sum := "2b7b1e43fe9eb1e4d799c9dc88324cf28a263a3bbb0b24f9c4d65983d6d3d484", func := "clavecin/clavecinlaw01.NatLimits", spec := "natLimits", recurses := true, apart := false }
def NatLimitsSaid : Prop := natLimitsRow.holds Try.pinned (OpenSpec.ofChange natLimitsSpec)

/-- ITS FALSE NEIGHBOUR: 'it returns false'. Refute it at one input. -/
def natLimitsWrong : ChangeSpec := { name := "natLimits", fn := fun _ => fun
  | [d] => { results := [.lit (.bool false)], args := [d] }
  | _ => none }
def NatLimitsWrongFalsely : Prop := natLimitsRow.holds Try.pinned (OpenSpec.ofChange natLimitsWrong)

/-- 'clavecinlaw01.NatOwn': WHATEVER THE INPUT: true; the input reads as it did. -/
def natOwnSpec : ChangeSpec := { name := "natOwn", fn := fun _ => fun
  | [d1, d2, d3] => { results := [.lit (.bool true)], args := [d1, d2, d3] }
  | _ => none }
def natOwnRow : OpenClaim := { program := "ytbpkobjiinkpoaa", sum := "2b7b1e43fe9eb1e4d799c9dc88324cf28a263a3bbb0b24f9c4d65983d6d3d484", func := "clavecin/clavecinlaw01.NatOwn", spec := "natOwn", recurses := true, apart := false }
def NatOwnSaid : Prop := natOwnRow.holds Try.pinned (OpenSpec.ofChange natOwnSpec)

/-- ITS FALSE NEIGHBOUR: 'it returns false'. Refute it at one input. -/
def natOwnWrong : ChangeSpec := { name := "natOwn", fn := fun _ => fun
  | [d1, d2, d3] => { results := [.lit (.bool false)], args := [d1, d2, d3] }
  | _ => none }
def NatOwnWrongFalsely : Prop := natOwnRow.holds Try.pinned (OpenSpec.ofChange natOwnWrong)

/- THE SECOND FORM. 'bulk': how many values and letters a reading holds, each counted each time it is reached (what is shared counts as often as it is met; a slice's spare places count too). A statement '..UptoSaid' is the law's where the arguments, and the package variables that the reading takes, are together of bulk at most 1048576: NARROWER than '..Said'. Prove '..Said' where nothing that the law and all that it calls make is longer than what came in: it says more and counts as full. Else prove '..UptoSaid'. A law counts once. -/
mutual
def uptoBulk {H : Type} : DataW H → Nat
  | .lit (.string bytes) => bytes.length + 1
  | .lit _ => 1
  | .nil => 1
  | .ptr d => uptoBulk d + 1
  | .slice elems spare => uptoBulkAll elems + uptoBulkAll spare + 1
  | .agg parts => uptoBulkAll parts + 1
  | .iface _ d => uptoBulk d + 1
  | .map entries => uptoBulkEntries entries + 1
  | .held _ => 1
def uptoBulkAll {H : Type} : List (DataW H) → Nat
  | [] => 0
  | d :: r => uptoBulk d + uptoBulkAll r
def uptoBulkEntries {H : Type} : List (Lit × DataW H) → Nat
  | [] => 0
  | x :: r => uptoBulkEntry x + uptoBulkEntries r
def uptoBulkEntry {H : Type} : Lit × DataW H → Nat
  | (.string bytes, d) => bytes.length + uptoBulk d + 1
  | (_, d) => uptoBulk d + 1
 end
def uptoSmall : (H : Type) → List (DataW H) → Bool := fun _ ds => decide (uptoBulkAll ds ≤ 1048576)
def OpenSpec.upto (s : _root_.Go.ChangeSpec) : _root_.Go.OpenSpec := { _root_.Go.OpenSpec.ofChange s with cond := some uptoSmall }

/-- 'clavecinlaw01.NatDigits', WHERE WHAT IT READS IS OF BULK AT MOST 1048576: true; the input reads as it did. -/
def natDigitsUptoRow : OpenClaim := { program := "ytbpkobjiinkpoaa", sum := "2b7b1e43fe9eb1e4d799c9dc88324cf28a263a3bbb0b24f9c4d65983d6d3d484", func := "clavecin/clavecinlaw01.NatDigits", spec := "natDigits", unfollowed := true, recurses := true, apart := false, narrowed := true }
def NatDigitsUptoSaid : Prop := natDigitsUptoRow.holds Try.pinned (OpenSpec.upto natDigitsSpec)

/-- 'clavecinlaw01.NatWeighted', WHERE WHAT IT READS IS OF BULK AT MOST 1048576: true; the input reads as it did. -/
def natWeightedUptoRow : OpenClaim := { program := "ytbpkobjiinkpoaa", sum := "2b7b1e43fe9eb1e4d799c9dc88324cf28a263a3bbb0b24f9c4d65983d6d3d484", func := "clavecin/clavecinlaw01.NatWeighted", spec := "natWeighted", unfollowed := true, recurses := true, apart := false, narrowed := true }
def NatWeightedUptoSaid : Prop := natWeightedUptoRow.holds Try.pinned (OpenSpec.upto natWeightedSpec)

/-- 'clavecinlaw01.NatLimits', WHERE WHAT IT READS IS OF BULK AT MOST 1048576: true; the input reads as it did. -/
def natLimitsUptoRow : OpenClaim := { program := "ytbpkobjiinkpoaa", sum := "2b7b1e43fe9eb1e4d799c9dc88324cf28a263a3bbb0b24f9c4d65983d6d3d484", func := "clavecin/clavecinlaw01.NatLimits", spec := "natLimits", recurses := true, apart := false, narrowed := true }
def NatLimitsUptoSaid : Prop := natLimitsUptoRow.holds Try.pinned (OpenSpec.upto natLimitsSpec)

/-- 'clavecinlaw01.NatOwn', WHERE WHAT IT READS IS OF BULK AT MOST 1048576: true; the input reads as it did. -/
def natOwnUptoRow : OpenClaim := { program := "ytbpkobjiinkpoaa", sum := "2b7b1e43fe9eb1e4d799c9dc88324cf28a263a3bbb0b24f9c4d65983d6d3d484", func := "clavecin/clavecinlaw01.NatOwn", spec := "natOwn", recurses := true, apart := false, narrowed := true }
def NatOwnUptoSaid : Prop := natOwnUptoRow.holds Try.pinned (OpenSpec.upto natOwnSpec)

end Rows
end Go.Proofs.Ytbpkobjiinkpoaa
