/-
  No cell of these rows narrows 'for every input' (looked for: loops, veiled, ifaces, maps, wideKeys, modest, calm, conditions, laid).
  DERIVED. THE GIVEN ROWS OF THIS SEAT. 5 by the template 'for every input the law returns true; each argument reads behind the call as it read before'; 0 by the template 'total and deterministic' (their statements: YtmnalmmffphnpaaTotals.lean).
  GIVEN WITH THE SEED: the statements are not yours to turn. If you find one false, say at which input.
  Laid BY PROGRAM, IN A SANDBOX (cutbox-rows.mjs): the forced cells as the released guide's own fill.sh prints them over the translation 202f972d02debd27… (all of the seat's roots in one cut). By AI agents, Wed Nov 11 2026. No macro, syntax, notation, axiom, sorry.
-/
import Derived.Test.YtmnalmmffphnpaaChecked
import GoSem.Claim
import GoSem.ClaimJoined
import GoSem.ClaimMapViews
import Derived.JoinedTies
import Derived.KernelRfl
namespace Go.Proofs.Ytmnalmmffphnpaa
/- THE CELL 'sum', in the pinned program and in every row, IS THE sha256 OF THE DUMP (.gsa) THAT YtmnalmmffphnpaaProg.lean LOADS. Nothing in Lean hashes anything: it is a label: what it is worth is what the hold of that sum in a sandbox is worth. -/
noncomputable def Try.pinned : Pinned := { name := "ytmnalmmffphnpaa", sum := "202f972d02debd278a112364177582bdfa6127c12963a9881fda7a347c7ce32d", checked := Try.checked }
namespace Rows
def none {H : Type} : Left H := { results := [], args := [] }

/-- 'clavecinlaw04.WireChecks': WHATEVER THE INPUT: true; the input reads as it did. -/
def wireChecksSpec : ChangeSpec := { name := "wireChecks", fn := fun _ => fun
  | [d1, d2] => { results := [.lit (.bool true)], args := [d1, d2] }
  | _ => none }
def wireChecksRow : OpenClaim := { program := "ytmnalmmffphnpaa", sum := "202f972d02debd278a112364177582bdfa6127c12963a9881fda7a347c7ce32d", func := "clavecin/clavecinlaw04.WireChecks", spec := "wireChecks", recurses := true, apart := false }
def WireChecksSaid : Prop := wireChecksRow.holds Try.pinned (OpenSpec.ofChange wireChecksSpec)

/-- ITS FALSE NEIGHBOUR: 'it returns false'. Refute it at one input. -/
def wireChecksWrong : ChangeSpec := { name := "wireChecks", fn := fun _ => fun
  | [d1, d2] => { results := [.lit (.bool false)], args := [d1, d2] }
  | _ => none }
def WireChecksWrongFalsely : Prop := wireChecksRow.holds Try.pinned (OpenSpec.ofChange wireChecksWrong)

/-- 'clavecinlaw04.WireBests': WHATEVER THE INPUT: true; the input reads as it did. -/
def wireBestsSpec : ChangeSpec := { name := "wireBests", fn := fun _ => fun
  | [d] => { results := [.lit (.bool true)], args := [d] }
  | _ => none }
def wireBestsRow : OpenClaim := { program := "ytmnalmmffphnpaa", sum := "202f972d02debd278a112364177582bdfa6127c12963a9881fda7a347c7ce32d", func := "clavecin/clavecinlaw04.WireBests", spec := "wireBests", recurses := true, apart := false }
def WireBestsSaid : Prop := wireBestsRow.holds Try.pinned (OpenSpec.ofChange wireBestsSpec)

/-- ITS FALSE NEIGHBOUR: 'it returns false'. Refute it at one input. -/
def wireBestsWrong : ChangeSpec := { name := "wireBests", fn := fun _ => fun
  | [d] => { results := [.lit (.bool false)], args := [d] }
  | _ => none }
def WireBestsWrongFalsely : Prop := wireBestsRow.holds Try.pinned (OpenSpec.ofChange wireBestsWrong)

/-- 'clavecinlaw04.WireLooser': WHATEVER THE INPUT: true; the input reads as it did. -/
def wireLooserSpec : ChangeSpec := { name := "wireLooser", fn := fun _ => fun
  | [d1, d2] => { results := [.lit (.bool true)], args := [d1, d2] }
  | _ => none }
def wireLooserRow : OpenClaim := { program := "ytmnalmmffphnpaa", sum := "202f972d02debd278a112364177582bdfa6127c12963a9881fda7a347c7ce32d", func := "clavecin/clavecinlaw04.WireLooser", spec := "wireLooser", recurses := true, apart := false }
def WireLooserSaid : Prop := wireLooserRow.holds Try.pinned (OpenSpec.ofChange wireLooserSpec)

/-- ITS FALSE NEIGHBOUR: 'it returns false'. Refute it at one input. -/
def wireLooserWrong : ChangeSpec := { name := "wireLooser", fn := fun _ => fun
  | [d1, d2] => { results := [.lit (.bool false)], args := [d1, d2] }
  | _ => none }
def WireLooserWrongFalsely : Prop := wireLooserRow.holds Try.pinned (OpenSpec.ofChange wireLooserWrong)

/-- 'clavecinlaw04.WireAlone': WHATEVER THE INPUT: true; the input reads as it did. -/
def wireAloneSpec : ChangeSpec := { name := "wireAlone", fn := fun _ => fun
  | [d] => { results := [.lit (.bool true)], args := [d] }
  | _ => none }
def wireAloneRow : OpenClaim := { program := "ytmnalmmffphnpaa", sum := "202f972d02debd278a112364177582bdfa6127c12963a9881fda7a347c7ce32d", func := "clavecin/clavecinlaw04.WireAlone", spec := "wireAlone", recurses := true, apart := false }
def WireAloneSaid : Prop := wireAloneRow.holds Try.pinned (OpenSpec.ofChange wireAloneSpec)

/-- ITS FALSE NEIGHBOUR: 'it returns false'. Refute it at one input. -/
def wireAloneWrong : ChangeSpec := { name := "wireAlone", fn := fun _ => fun
  | [d] => { results := [.lit (.bool false)], args := [d] }
  | _ => none }
def WireAloneWrongFalsely : Prop := wireAloneRow.holds Try.pinned (OpenSpec.ofChange wireAloneWrong)

/-- 'clavecinlaw04.WireOptimal': WHATEVER THE INPUT: true; the input reads as it did. -/
def wireOptimalSpec : ChangeSpec := { name := "wireOptimal", fn := fun _ => fun
  | [d1, d2] => { results := [.lit (.bool true)], args := [d1, d2] }
  | _ => none }
def wireOptimalRow : OpenClaim := { program := "ytmnalmmffphnpaa", sum := "202f972d02debd278a112364177582bdfa6127c12963a9881fda7a347c7ce32d", func := "clavecin/clavecinlaw04.WireOptimal", spec := "wireOptimal", recurses := true, apart := false }
def WireOptimalSaid : Prop := wireOptimalRow.holds Try.pinned (OpenSpec.ofChange wireOptimalSpec)

/-- ITS FALSE NEIGHBOUR: 'it returns false'. Refute it at one input. -/
def wireOptimalWrong : ChangeSpec := { name := "wireOptimal", fn := fun _ => fun
  | [d1, d2] => { results := [.lit (.bool false)], args := [d1, d2] }
  | _ => none }
def WireOptimalWrongFalsely : Prop := wireOptimalRow.holds Try.pinned (OpenSpec.ofChange wireOptimalWrong)

/- THE SECOND FORM. 'bulk': how many values and letters a reading holds, each counted each time it is reached (what is shared counts as often as it is met; a slice's spare places count too). A statement '..UptoSaid' is the law's where the arguments, and the package variables that the reading takes, are together of bulk at most 1048576: NARROWER than '..Said'. Prove '..Said' where nothing that the law and all that it calls make is longer than what came in: it says more and counts as full. Else prove '..UptoSaid'. A law counts once. -/
mutual
def uptoBulk {H : Type} : DataW H → Nat
  | .lit (.string bytes) => bytes.length + 1
  | .lit _ => 1
  | .nil => 1
  | .ptr d => uptoBulk d + 1
  | .slice elems spare => uptoBulkAll elems + uptoBulkAll spare + 1
  | .agg parts => uptoBulkAll parts + 1
  | .iface _ d => uptoBulk d + 1
  | .map entries => uptoBulkEntries entries + 1
  | .held _ => 1
def uptoBulkAll {H : Type} : List (DataW H) → Nat
  | [] => 0
  | d :: r => uptoBulk d + uptoBulkAll r
def uptoBulkEntries {H : Type} : List (Lit × DataW H) → Nat
  | [] => 0
  | x :: r => uptoBulkEntry x + uptoBulkEntries r
def uptoBulkEntry {H : Type} : Lit × DataW H → Nat
  | (.string bytes, d) => bytes.length + uptoBulk d + 1
  | (_, d) => uptoBulk d + 1
 end
def uptoSmall : (H : Type) → List (DataW H) → Bool := fun _ ds => decide (uptoBulkAll ds ≤ 1048576)
def OpenSpec.upto (s : _root_.Go.ChangeSpec) : _root_.Go.OpenSpec := { _root_.Go.OpenSpec.ofChange s with cond := some uptoSmall }

/-- 'clavecinlaw04.WireChecks', WHERE WHAT IT READS IS OF BULK AT MOST 1048576: true; the input reads as it did. -/
def wireChecksUptoRow : OpenClaim := { program := "ytmnalmmffphnpaa", sum := "202f972d02debd278a112364177582bdfa6127c12963a9881fda7a347c7ce32d", func := "clavecin/clavecinlaw04.WireChecks", spec := "wireChecks", recurses := true, apart := false, narrowed := true }
def WireChecksUptoSaid : Prop := wireChecksUptoRow.holds Try.pinned (OpenSpec.upto wireChecksSpec)

/-- 'clavecinlaw04.WireBests', WHERE WHAT IT READS IS OF BULK AT MOST 1048576: true; the input reads as it did. -/
def wireBestsUptoRow : OpenClaim := { program := "ytmnalmmffphnpaa", sum := "202f972d02debd278a112364177582bdfa6127c12963a9881fda7a347c7ce32d", func := "clavecin/clavecinlaw04.WireBests", spec := "wireBests", recurses := true, apart := false, narrowed := true }
def WireBestsUptoSaid : Prop := wireBestsUptoRow.holds Try.pinned (OpenSpec.upto wireBestsSpec)

/-- 'clavecinlaw04.WireLooser', WHERE WHAT IT READS IS OF BULK AT MOST 1048576: true; the input reads as it did. -/
def wireLooserUptoRow : OpenClaim := { program := "ytmnalmmffphnpaa", sum := "202f972d02debd278a112364177582bdfa6127c12963a9881fda7a347c7ce32d", func := "clavecin/clavecinlaw04.WireLooser", spec := "wireLooser", recurses := true, apart := false, narrowed := true }
def WireLooserUptoSaid : Prop := wireLooserUptoRow.holds Try.pinned (OpenSpec.upto wireLooserSpec)

/-- 'clavecinlaw04.WireAlone', WHERE WHAT IT READS IS OF BULK AT MOST 1048576: true; the input reads as it did. -/
def wireAloneUptoRow : OpenClaim := { program := "ytmnalmmffphnpaa", sum := "202f972d02debd278a112364177582bdfa6127c12963a9881fda7a347c7ce32d", func := "clavecin/clavecinlaw04.WireAlone", spec := "wireAlone", recurses := true, apart := false, narrowed := true }
def WireAloneUptoSaid : Prop := wireAloneUptoRow.holds Try.pinned (OpenSpec.upto wireAloneSpec)

/-- 'clavecinlaw04.WireOptimal', WHERE WHAT IT READS IS OF BULK AT MOST 1048576: true; the input reads as it did. -/
def wireOptimalUptoRow : OpenClaim := { program := "ytmnalmmffphnpaa", sum := "202f972d02debd278a112364177582bdfa6127c12963a9881fda7a347c7ce32d", func := "clavecin/clavecinlaw04.WireOptimal", spec := "wireOptimal", recurses := true, apart := false, narrowed := true }
def WireOptimalUptoSaid : Prop := wireOptimalUptoRow.holds Try.pinned (OpenSpec.upto wireOptimalSpec)

end Rows
end Go.Proofs.Ytmnalmmffphnpaa
