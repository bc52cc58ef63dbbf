/-
  No cell of these rows narrows 'for every input' (looked for: loops, veiled, ifaces, maps, wideKeys, modest, calm, conditions, laid).
  DERIVED. THE GIVEN ROWS OF THIS SEAT. 13 by the template 'for every input the law returns true; each argument reads behind the call as it read before'; 0 by the template 'total and deterministic' (their statements: YtfbfamfgdodncaaTotals.lean).
  GIVEN WITH THE SEED: the statements are not yours to turn. If you find one false, say at which input.
  Laid BY PROGRAM, IN A SANDBOX (cutbox-rows.mjs): the forced cells as the released guide's own fill.sh prints them over the translation 932da6ec9bd677a2… (all of the seat's roots in one cut). By AI agents, Wed Nov 11 2026. No macro, syntax, notation, axiom, sorry.
-/
import Derived.Test.YtfbfamfgdodncaaChecked
import GoSem.Claim
import GoSem.ClaimJoined
import GoSem.ClaimMapViews
import Derived.JoinedTies
import Derived.KernelRfl
namespace Go.Proofs.Ytfbfamfgdodncaa
/- THE CELL 'sum', in the pinned program and in every row, IS THE sha256 OF THE DUMP (.gsa) THAT YtfbfamfgdodncaaProg.lean LOADS. Nothing in Lean hashes anything: it is a label: what it is worth is what the hold of that sum in a sandbox is worth. -/
noncomputable def Try.pinned : Pinned := { name := "ytfbfamfgdodncaa", sum := "932da6ec9bd677a21bcad9100105852c8001110c28c3fa64bb165323f043f097", checked := Try.checked }
namespace Rows
def none {H : Type} : Left H := { results := [], args := [] }

/-- 'clavecinlaw04.WireThick': WHATEVER THE INPUT: true; the input reads as it did. -/
def wireThickSpec : ChangeSpec := { name := "wireThick", fn := fun _ => fun
  | [d] => { results := [.lit (.bool true)], args := [d] }
  | _ => none }
def wireThickRow : OpenClaim := { program := "ytfbfamfgdodncaa", sum := "932da6ec9bd677a21bcad9100105852c8001110c28c3fa64bb165323f043f097", func := "clavecin/clavecinlaw04.WireThick", spec := "wireThick", recurses := true, apart := false }
def WireThickSaid : Prop := wireThickRow.holds Try.pinned (OpenSpec.ofChange wireThickSpec)

/-- ITS FALSE NEIGHBOUR: 'it returns false'. Refute it at one input. -/
def wireThickWrong : ChangeSpec := { name := "wireThick", fn := fun _ => fun
  | [d] => { results := [.lit (.bool false)], args := [d] }
  | _ => none }
def WireThickWrongFalsely : Prop := wireThickRow.holds Try.pinned (OpenSpec.ofChange wireThickWrong)

/-- 'clavecinlaw04.WireRises': WHATEVER THE INPUT: true; the input reads as it did. -/
def wireRisesSpec : ChangeSpec := { name := "wireRises", fn := fun _ => fun
  | [d1, d2] => { results := [.lit (.bool true)], args := [d1, d2] }
  | _ => none }
def wireRisesRow : OpenClaim := { program := "ytfbfamfgdodncaa", sum := "932da6ec9bd677a21bcad9100105852c8001110c28c3fa64bb165323f043f097", func := "clavecin/clavecinlaw04.WireRises", spec := "wireRises", recurses := true, apart := false }
def WireRisesSaid : Prop := wireRisesRow.holds Try.pinned (OpenSpec.ofChange wireRisesSpec)

/-- ITS FALSE NEIGHBOUR: 'it returns false'. Refute it at one input. -/
def wireRisesWrong : ChangeSpec := { name := "wireRises", fn := fun _ => fun
  | [d1, d2] => { results := [.lit (.bool false)], args := [d1, d2] }
  | _ => none }
def WireRisesWrongFalsely : Prop := wireRisesRow.holds Try.pinned (OpenSpec.ofChange wireRisesWrong)

/-- 'clavecinlaw04.WireStrings': WHATEVER THE INPUT: true; the input reads as it did. -/
def wireStringsSpec : ChangeSpec := { name := "wireStrings", fn := fun _ => fun
  | [d] => { results := [.lit (.bool true)], args := [d] }
  | _ => none }
def wireStringsRow : OpenClaim := { program := "ytfbfamfgdodncaa", sum := "932da6ec9bd677a21bcad9100105852c8001110c28c3fa64bb165323f043f097", func := "clavecin/clavecinlaw04.WireStrings", spec := "wireStrings", recurses := true, apart := false }
def WireStringsSaid : Prop := wireStringsRow.holds Try.pinned (OpenSpec.ofChange wireStringsSpec)

/-- ITS FALSE NEIGHBOUR: 'it returns false'. Refute it at one input. -/
def wireStringsWrong : ChangeSpec := { name := "wireStrings", fn := fun _ => fun
  | [d] => { results := [.lit (.bool false)], args := [d] }
  | _ => none }
def WireStringsWrongFalsely : Prop := wireStringsRow.holds Try.pinned (OpenSpec.ofChange wireStringsWrong)

/-- 'clavecinlaw04.WireOctaves': WHATEVER THE INPUT: true; the input reads as it did. -/
def wireOctavesSpec : ChangeSpec := { name := "wireOctaves", fn := fun _ => fun
  | [d] => { results := [.lit (.bool true)], args := [d] }
  | _ => none }
def wireOctavesRow : OpenClaim := { program := "ytfbfamfgdodncaa", sum := "932da6ec9bd677a21bcad9100105852c8001110c28c3fa64bb165323f043f097", func := "clavecin/clavecinlaw04.WireOctaves", spec := "wireOctaves", recurses := true, apart := false }
def WireOctavesSaid : Prop := wireOctavesRow.holds Try.pinned (OpenSpec.ofChange wireOctavesSpec)

/-- ITS FALSE NEIGHBOUR: 'it returns false'. Refute it at one input. -/
def wireOctavesWrong : ChangeSpec := { name := "wireOctaves", fn := fun _ => fun
  | [d] => { results := [.lit (.bool false)], args := [d] }
  | _ => none }
def WireOctavesWrongFalsely : Prop := wireOctavesRow.holds Try.pinned (OpenSpec.ofChange wireOctavesWrong)

/-- 'clavecinlaw04.WireFloors': WHATEVER THE INPUT: true; the input reads as it did. -/
def wireFloorsSpec : ChangeSpec := { name := "wireFloors", fn := fun _ => fun
  | [d1, d2] => { results := [.lit (.bool true)], args := [d1, d2] }
  | _ => none }
def wireFloorsRow : OpenClaim := { program := "ytfbfamfgdodncaa", sum := "932da6ec9bd677a21bcad9100105852c8001110c28c3fa64bb165323f043f097", func := "clavecin/clavecinlaw04.WireFloors", spec := "wireFloors", recurses := true, apart := false }
def WireFloorsSaid : Prop := wireFloorsRow.holds Try.pinned (OpenSpec.ofChange wireFloorsSpec)

/-- ITS FALSE NEIGHBOUR: 'it returns false'. Refute it at one input. -/
def wireFloorsWrong : ChangeSpec := { name := "wireFloors", fn := fun _ => fun
  | [d1, d2] => { results := [.lit (.bool false)], args := [d1, d2] }
  | _ => none }
def WireFloorsWrongFalsely : Prop := wireFloorsRow.holds Try.pinned (OpenSpec.ofChange wireFloorsWrong)

/-- 'clavecinlaw04.WireSum': WHATEVER THE INPUT: true; the input reads as it did. -/
def wireSumSpec : ChangeSpec := { name := "wireSum", fn := fun _ => fun
  | [d1, d2] => { results := [.lit (.bool true)], args := [d1, d2] }
  | _ => none }
def wireSumRow : OpenClaim := { program := "ytfbfamfgdodncaa", sum := "932da6ec9bd677a21bcad9100105852c8001110c28c3fa64bb165323f043f097", func := "clavecin/clavecinlaw04.WireSum", spec := "wireSum", recurses := true, apart := false }
def WireSumSaid : Prop := wireSumRow.holds Try.pinned (OpenSpec.ofChange wireSumSpec)

/-- ITS FALSE NEIGHBOUR: 'it returns false'. Refute it at one input. -/
def wireSumWrong : ChangeSpec := { name := "wireSum", fn := fun _ => fun
  | [d1, d2] => { results := [.lit (.bool false)], args := [d1, d2] }
  | _ => none }
def WireSumWrongFalsely : Prop := wireSumRow.holds Try.pinned (OpenSpec.ofChange wireSumWrong)

/-- 'clavecinlaw04.WireLongs': WHATEVER THE INPUT: true; the input reads as it did. -/
def wireLongsSpec : ChangeSpec := { name := "wireLongs", fn := fun _ => fun
  | [d] => { results := [.lit (.bool true)], args := [d] }
  | _ => none }
def wireLongsRow : OpenClaim := { program := "ytfbfamfgdodncaa", sum := "932da6ec9bd677a21bcad9100105852c8001110c28c3fa64bb165323f043f097", func := "clavecin/clavecinlaw04.WireLongs", spec := "wireLongs", recurses := true, apart := false }
def WireLongsSaid : Prop := wireLongsRow.holds Try.pinned (OpenSpec.ofChange wireLongsSpec)

/-- ITS FALSE NEIGHBOUR: 'it returns false'. Refute it at one input. -/
def wireLongsWrong : ChangeSpec := { name := "wireLongs", fn := fun _ => fun
  | [d] => { results := [.lit (.bool false)], args := [d] }
  | _ => none }
def WireLongsWrongFalsely : Prop := wireLongsRow.holds Try.pinned (OpenSpec.ofChange wireLongsWrong)

/-- 'clavecinlaw04.WireLimit': WHATEVER THE INPUT: true; the input reads as it did. -/
def wireLimitSpec : ChangeSpec := { name := "wireLimit", fn := fun _ => fun
  | [d1, d2] => { results := [.lit (.bool true)], args := [d1, d2] }
  | _ => none }
def wireLimitRow : OpenClaim := { program := "ytfbfamfgdodncaa", sum := "932da6ec9bd677a21bcad9100105852c8001110c28c3fa64bb165323f043f097", func := "clavecin/clavecinlaw04.WireLimit", spec := "wireLimit", recurses := true, apart := false }
def WireLimitSaid : Prop := wireLimitRow.holds Try.pinned (OpenSpec.ofChange wireLimitSpec)

/-- ITS FALSE NEIGHBOUR: 'it returns false'. Refute it at one input. -/
def wireLimitWrong : ChangeSpec := { name := "wireLimit", fn := fun _ => fun
  | [d1, d2] => { results := [.lit (.bool false)], args := [d1, d2] }
  | _ => none }
def WireLimitWrongFalsely : Prop := wireLimitRow.holds Try.pinned (OpenSpec.ofChange wireLimitWrong)

/-- 'clavecinlaw04.WireChecks': WHATEVER THE INPUT: true; the input reads as it did. -/
def wireChecksSpec : ChangeSpec := { name := "wireChecks", fn := fun _ => fun
  | [d1, d2] => { results := [.lit (.bool true)], args := [d1, d2] }
  | _ => none }
def wireChecksRow : OpenClaim := { program := "ytfbfamfgdodncaa", sum := "932da6ec9bd677a21bcad9100105852c8001110c28c3fa64bb165323f043f097", func := "clavecin/clavecinlaw04.WireChecks", spec := "wireChecks", recurses := true, apart := false }
def WireChecksSaid : Prop := wireChecksRow.holds Try.pinned (OpenSpec.ofChange wireChecksSpec)

/-- ITS FALSE NEIGHBOUR: 'it returns false'. Refute it at one input. -/
def wireChecksWrong : ChangeSpec := { name := "wireChecks", fn := fun _ => fun
  | [d1, d2] => { results := [.lit (.bool false)], args := [d1, d2] }
  | _ => none }
def WireChecksWrongFalsely : Prop := wireChecksRow.holds Try.pinned (OpenSpec.ofChange wireChecksWrong)

/-- 'clavecinlaw04.WireBests': WHATEVER THE INPUT: true; the input reads as it did. -/
def wireBestsSpec : ChangeSpec := { name := "wireBests", fn := fun _ => fun
  | [d] => { results := [.lit (.bool true)], args := [d] }
  | _ => none }
def wireBestsRow : OpenClaim := { program := "ytfbfamfgdodncaa", sum := "932da6ec9bd677a21bcad9100105852c8001110c28c3fa64bb165323f043f097", func := "clavecin/clavecinlaw04.WireBests", spec := "wireBests", recurses := true, apart := false }
def WireBestsSaid : Prop := wireBestsRow.holds Try.pinned (OpenSpec.ofChange wireBestsSpec)

/-- ITS FALSE NEIGHBOUR: 'it returns false'. Refute it at one input. -/
def wireBestsWrong : ChangeSpec := { name := "wireBests", fn := fun _ => fun
  | [d] => { results := [.lit (.bool false)], args := [d] }
  | _ => none }
def WireBestsWrongFalsely : Prop := wireBestsRow.holds Try.pinned (OpenSpec.ofChange wireBestsWrong)

/-- 'clavecinlaw04.WireLooser': WHATEVER THE INPUT: true; the input reads as it did. -/
def wireLooserSpec : ChangeSpec := { name := "wireLooser", fn := fun _ => fun
  | [d1, d2] => { results := [.lit (.bool true)], args := [d1, d2] }
  | _ => none }
def wireLooserRow : OpenClaim := { program := "ytfbfamfgdodncaa", sum := "932da6ec9bd677a21bcad9100105852c8001110c28c3fa64bb165323f043f097", func := "clavecin/clavecinlaw04.WireLooser", spec := "wireLooser", recurses := true, apart := false }
def WireLooserSaid : Prop := wireLooserRow.holds Try.pinned (OpenSpec.ofChange wireLooserSpec)

/-- ITS FALSE NEIGHBOUR: 'it returns false'. Refute it at one input. -/
def wireLooserWrong : ChangeSpec := { name := "wireLooser", fn := fun _ => fun
  | [d1, d2] => { results := [.lit (.bool false)], args := [d1, d2] }
  | _ => none }
def WireLooserWrongFalsely : Prop := wireLooserRow.holds Try.pinned (OpenSpec.ofChange wireLooserWrong)

/-- 'clavecinlaw04.WireAlone': WHATEVER THE INPUT: true; the input reads as it did. -/
def wireAloneSpec : ChangeSpec := { name := "wireAlone", fn := fun _ => fun
  | [d] => { results := [.lit (.bool true)], args := [d] }
  | _ => none }
def wireAloneRow : OpenClaim := { program := "ytfbfamfgdodncaa", sum := "932da6ec9bd677a21bcad9100105852c8001110c28c3fa64bb165323f043f097", func := "clavecin/clavecinlaw04.WireAlone", spec := "wireAlone", recurses := true, apart := false }
def WireAloneSaid : Prop := wireAloneRow.holds Try.pinned (OpenSpec.ofChange wireAloneSpec)

/-- ITS FALSE NEIGHBOUR: 'it returns false'. Refute it at one input. -/
def wireAloneWrong : ChangeSpec := { name := "wireAlone", fn := fun _ => fun
  | [d] => { results := [.lit (.bool false)], args := [d] }
  | _ => none }
def WireAloneWrongFalsely : Prop := wireAloneRow.holds Try.pinned (OpenSpec.ofChange wireAloneWrong)

/-- 'clavecinlaw04.WireOptimal': WHATEVER THE INPUT: true; the input reads as it did. -/
def wireOptimalSpec : ChangeSpec := { name := "wireOptimal", fn := fun _ => fun
  | [d1, d2] => { results := [.lit (.bool true)], args := [d1, d2] }
  | _ => none }
def wireOptimalRow : OpenClaim := { program := "ytfbfamfgdodncaa", sum := "932da6ec9bd677a21bcad9100105852c8001110c28c3fa64bb165323f043f097", func := "clavecin/clavecinlaw04.WireOptimal", spec := "wireOptimal", recurses := true, apart := false }
def WireOptimalSaid : Prop := wireOptimalRow.holds Try.pinned (OpenSpec.ofChange wireOptimalSpec)

/-- ITS FALSE NEIGHBOUR: 'it returns false'. Refute it at one input. -/
def wireOptimalWrong : ChangeSpec := { name := "wireOptimal", fn := fun _ => fun
  | [d1, d2] => { results := [.lit (.bool false)], args := [d1, d2] }
  | _ => none }
def WireOptimalWrongFalsely : Prop := wireOptimalRow.holds Try.pinned (OpenSpec.ofChange wireOptimalWrong)

/- THE SECOND FORM. 'bulk': how many values and letters a reading holds, each counted each time it is reached (what is shared counts as often as it is met; a slice's spare places count too). A statement '..UptoSaid' is the law's where the arguments, and the package variables that the reading takes, are together of bulk at most 1048576: NARROWER than '..Said'. Prove '..Said' where nothing that the law and all that it calls make is longer than what came in: it says more and counts as full. Else prove '..UptoSaid'. A law counts once. -/
mutual
def uptoBulk {H : Type} : DataW H → Nat
  | .lit (.string bytes) => bytes.length + 1
  | .lit _ => 1
  | .nil => 1
  | .ptr d => uptoBulk d + 1
  | .slice elems spare => uptoBulkAll elems + uptoBulkAll spare + 1
  | .agg parts => uptoBulkAll parts + 1
  | .iface _ d => uptoBulk d + 1
  | .map entries => uptoBulkEntries entries + 1
  | .held _ => 1
def uptoBulkAll {H : Type} : List (DataW H) → Nat
  | [] => 0
  | d :: r => uptoBulk d + uptoBulkAll r
def uptoBulkEntries {H : Type} : List (Lit × DataW H) → Nat
  | [] => 0
  | x :: r => uptoBulkEntry x + uptoBulkEntries r
def uptoBulkEntry {H : Type} : Lit × DataW H → Nat
  | (.string bytes, d) => bytes.length + uptoBulk d + 1
  | (_, d) => uptoBulk d + 1
 end
def uptoSmall : (H : Type) → List (DataW H) → Bool := fun _ ds => decide (uptoBulkAll ds ≤ 1048576)
def OpenSpec.upto (s : _root_.Go.ChangeSpec) : _root_.Go.OpenSpec := { _root_.Go.OpenSpec.ofChange s with cond := some uptoSmall }

/-- 'clavecinlaw04.WireThick', WHERE WHAT IT READS IS OF BULK AT MOST 1048576: true; the input reads as it did. -/
def wireThickUptoRow : OpenClaim := { program := "ytfbfamfgdodncaa", sum := "932da6ec9bd677a21bcad9100105852c8001110c28c3fa64bb165323f043f097", func := "clavecin/clavecinlaw04.WireThick", spec := "wireThick", recurses := true, apart := false, narrowed := true }
def WireThickUptoSaid : Prop := wireThickUptoRow.holds Try.pinned (OpenSpec.upto wireThickSpec)

/-- 'clavecinlaw04.WireRises', WHERE WHAT IT READS IS OF BULK AT MOST 1048576: true; the input reads as it did. -/
def wireRisesUptoRow : OpenClaim := { program := "ytfbfamfgdodncaa", sum := "932da6ec9bd677a21bcad9100105852c8001110c28c3fa64bb165323f043f097", func := "clavecin/clavecinlaw04.WireRises", spec := "wireRises", recurses := true, apart := false, narrowed := true }
def WireRisesUptoSaid : Prop := wireRisesUptoRow.holds Try.pinned (OpenSpec.upto wireRisesSpec)

/-- 'clavecinlaw04.WireStrings', WHERE WHAT IT READS IS OF BULK AT MOST 1048576: true; the input reads as it did. -/
def wireStringsUptoRow : OpenClaim := { program := "ytfbfamfgdodncaa", sum := "932da6ec9bd677a21bcad9100105852c8001110c28c3fa64bb165323f043f097", func := "clavecin/clavecinlaw04.WireStrings", spec := "wireStrings", recurses := true, apart := false, narrowed := true }
def WireStringsUptoSaid : Prop := wireStringsUptoRow.holds Try.pinned (OpenSpec.upto wireStringsSpec)

/-- 'clavecinlaw04.WireOctaves', WHERE WHAT IT READS IS OF BULK AT MOST 1048576: true; the input reads as it did. -/
def wireOctavesUptoRow : OpenClaim := { program := "ytfbfamfgdodncaa", sum := "932da6ec9bd677a21bcad9100105852c8001110c28c3fa64bb165323f043f097", func := "clavecin/clavecinlaw04.WireOctaves", spec := "wireOctaves", recurses := true, apart := false, narrowed := true }
def WireOctavesUptoSaid : Prop := wireOctavesUptoRow.holds Try.pinned (OpenSpec.upto wireOctavesSpec)

/-- 'clavecinlaw04.WireFloors', WHERE WHAT IT READS IS OF BULK AT MOST 1048576: true; the input reads as it did. -/
def wireFloorsUptoRow : OpenClaim := { program := "ytfbfamfgdodncaa", sum := "932da6ec9bd677a21bcad9100105852c8001110c28c3fa64bb165323f043f097", func := "clavecin/clavecinlaw04.WireFloors", spec := "wireFloors", recurses := true, apart := false, narrowed := true }
def WireFloorsUptoSaid : Prop := wireFloorsUptoRow.holds Try.pinned (OpenSpec.upto wireFloorsSpec)

/-- 'clavecinlaw04.WireSum', WHERE WHAT IT READS IS OF BULK AT MOST 1048576: true; the input reads as it did. -/
def wireSumUptoRow : OpenClaim := { program := "ytfbfamfgdodncaa", sum := "932da6ec9bd677a21bcad9100105852c8001110c28c3fa64bb165323f043f097", func := "clavecin/clavecinlaw04.WireSum", spec := "wireSum", recurses := true, apart := false, narrowed := true }
def WireSumUptoSaid : Prop := wireSumUptoRow.holds Try.pinned (OpenSpec.upto wireSumSpec)

/-- 'clavecinlaw04.WireLongs', WHERE WHAT IT READS IS OF BULK AT MOST 1048576: true; the input reads as it did. -/
def wireLongsUptoRow : OpenClaim := { program := "ytfbfamfgdodncaa", sum := "932da6ec9bd677a21bcad9100105852c8001110c28c3fa64bb165323f043f097", func := "clavecin/clavecinlaw04.WireLongs", spec := "wireLongs", recurses := true, apart := false, narrowed := true }
def WireLongsUptoSaid : Prop := wireLongsUptoRow.holds Try.pinned (OpenSpec.upto wireLongsSpec)

/-- 'clavecinlaw04.WireLimit', WHERE WHAT IT READS IS OF BULK AT MOST 1048576: true; the input reads as it did. -/
def wireLimitUptoRow : OpenClaim := { program := "ytfbfamfgdodncaa", sum := "932da6ec9bd677a21bcad9100105852c8001110c28c3fa64bb165323f043f097", func := "clavecin/clavecinlaw04.WireLimit", spec := "wireLimit", recurses := true, apart := false, narrowed := true }
def WireLimitUptoSaid : Prop := wireLimitUptoRow.holds Try.pinned (OpenSpec.upto wireLimitSpec)

/-- 'clavecinlaw04.WireChecks', WHERE WHAT IT READS IS OF BULK AT MOST 1048576: true; the input reads as it did. -/
def wireChecksUptoRow : OpenClaim := { program := "ytfbfamfgdodncaa", sum := "932da6ec9bd677a21bcad9100105852c8001110c28c3fa64bb165323f043f097", func := "clavecin/clavecinlaw04.WireChecks", spec := "wireChecks", recurses := true, apart := false, narrowed := true }
def WireChecksUptoSaid : Prop := wireChecksUptoRow.holds Try.pinned (OpenSpec.upto wireChecksSpec)

/-- 'clavecinlaw04.WireBests', WHERE WHAT IT READS IS OF BULK AT MOST 1048576: true; the input reads as it did. -/
def wireBestsUptoRow : OpenClaim := { program := "ytfbfamfgdodncaa", sum := "932da6ec9bd677a21bcad9100105852c8001110c28c3fa64bb165323f043f097", func := "clavecin/clavecinlaw04.WireBests", spec := "wireBests", recurses := true, apart := false, narrowed := true }
def WireBestsUptoSaid : Prop := wireBestsUptoRow.holds Try.pinned (OpenSpec.upto wireBestsSpec)

/-- 'clavecinlaw04.WireLooser', WHERE WHAT IT READS IS OF BULK AT MOST 1048576: true; the input reads as it did. -/
def wireLooserUptoRow : OpenClaim := { program := "ytfbfamfgdodncaa", sum := "932da6ec9bd677a21bcad9100105852c8001110c28c3fa64bb165323f043f097", func := "clavecin/clavecinlaw04.WireLooser", spec := "wireLooser", recurses := true, apart := false, narrowed := true }
def WireLooserUptoSaid : Prop := wireLooserUptoRow.holds Try.pinned (OpenSpec.upto wireLooserSpec)

/-- 'clavecinlaw04.WireAlone', WHERE WHAT IT READS IS OF BULK AT MOST 1048576: true; the input reads as it did. -/
def wireAloneUptoRow : OpenClaim := { program := "ytfbfamfgdodncaa", sum := "932da6ec9bd677a21bcad9100105852c8001110c28c3fa64bb165323f043f097", func := "clavecin/clavecinlaw04.WireAlone", spec := "wireAlone", recurses := true, apart := false, narrowed := true }
def WireAloneUptoSaid : Prop := wireAloneUptoRow.holds Try.pinned (OpenSpec.upto wireAloneSpec)

/-- 'clavecinlaw04.WireOptimal', WHERE WHAT IT READS IS OF BULK AT MOST 1048576: true; the input reads as it did. -/
def wireOptimalUptoRow : OpenClaim := { program := "ytfbfamfgdodncaa", sum := "932da6ec9bd677a21bcad9100105852c8001110c28c3fa64bb165323f043f097", func := "clavecin/clavecinlaw04.WireOptimal", spec := "wireOptimal", recurses := true, apart := false, narrowed := true }
def WireOptimalUptoSaid : Prop := wireOptimalUptoRow.holds Try.pinned (OpenSpec.upto wireOptimalSpec)

end Rows
end Go.Proofs.Ytfbfamfgdodncaa
