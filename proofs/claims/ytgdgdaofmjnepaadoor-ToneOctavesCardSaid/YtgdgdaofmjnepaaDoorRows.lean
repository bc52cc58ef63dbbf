/-
  NARROWER THAN 'FOR EVERY INPUT', by the rows' own cells (each row's printed sentence says how): TonePowers: laid · ToneSizes: laid · TonePowersOf: laid · ToneCents: laid · ToneMuls: laid · ToneGroup: laid · ToneCmps: laid · ToneOctaves: laid · ToneMakes: laid · ToneCommas: laid · ToneOrder: laid · ToneFolded: laid · ToneFareys: laid · ToneNext: laid · ToneDivides: laid · ToneNear: laid · ToneFreqs: laid · ToneExact: laid · ToneBack: laid.
  DERIVED. THE GIVEN ROWS OF THIS SEAT. 19 by the template 'for every input the law returns true; each argument reads behind the call as it read before'; 0 by the template 'total and deterministic' (their statements: YtgdgdaofmjnepaaDoorTotals.lean).
  GIVEN WITH THE SEED: the statements are not yours to turn. If you find one false, say at which input.
  Laid BY PROGRAM, IN A SANDBOX (cutbox-rows.mjs): the forced cells as the released guide's own fill.sh prints them over the translation 31de931c2194dcaa… (all of the seat's roots in one cut). By AI agents, Wed Nov 11 2026. No macro, syntax, notation, axiom, sorry.
-/
import Derived.Test.YtgdgdaofmjnepaaDoorChecked
import GoSem.PinnedTables
import GoSem.Claim
import GoSem.ClaimJoined
import GoSem.ClaimMapViews
import Derived.JoinedTies
import Derived.KernelRfl
namespace Go.Proofs.YtgdgdaofmjnepaaDoor
/- THE CELL 'sum', in the pinned program and in every row, IS THE sha256 OF THE DUMP (.gsa) THAT YtgdgdaofmjnepaaDoorProg.lean LOADS. Nothing in Lean hashes anything: it is a label: what it is worth is what the hold of that sum in a sandbox is worth. -/
noncomputable def Tryd.pinned : Pinned := { name := "ytgdgdaofmjnepaadoor", sum := "31de931c2194dcaa54d91daeb9e6dee36a413c7df22de3f5a6057d0746c6c0c8", checked := Tryd.checked }
namespace Rows
def none {H : Type} : Left H := { results := [], args := [] }

/- WHAT THE LISTED PACKAGE-LEVEL VARIABLES READ AS WHEN THE CALL BEGINS. Each datum BY PROGRAM (the guide's laid-datum.mjs) off the statement by which the dump's own 'gosem.cut.vars' lays the variable. In a bare row this is a premise. The card (YtgdgdaofmjnepaaDoorCards.lean) ties it to the program's text. -/
def laid_math_bits_deBruijn32tab {H : Type} : DataW H := .agg [.lit (.int .u8 0), .lit (.int .u8 1), .lit (.int .u8 28), .lit (.int .u8 2), .lit (.int .u8 29), .lit (.int .u8 14), .lit (.int .u8 24), .lit (.int .u8 3), .lit (.int .u8 30), .lit (.int .u8 22), .lit (.int .u8 20), .lit (.int .u8 15), .lit (.int .u8 25), .lit (.int .u8 17), .lit (.int .u8 4), .lit (.int .u8 8), .lit (.int .u8 31), .lit (.int .u8 27), .lit (.int .u8 13), .lit (.int .u8 23), .lit (.int .u8 21), .lit (.int .u8 19), .lit (.int .u8 16), .lit (.int .u8 7), .lit (.int .u8 26), .lit (.int .u8 12), .lit (.int .u8 18), .lit (.int .u8 6), .lit (.int .u8 11), .lit (.int .u8 5), .lit (.int .u8 10), .lit (.int .u8 9)]
def laid_math_bits_deBruijn64tab {H : Type} : DataW H := .agg [.lit (.int .u8 0), .lit (.int .u8 1), .lit (.int .u8 56), .lit (.int .u8 2), .lit (.int .u8 57), .lit (.int .u8 49), .lit (.int .u8 28), .lit (.int .u8 3), .lit (.int .u8 61), .lit (.int .u8 58), .lit (.int .u8 42), .lit (.int .u8 50), .lit (.int .u8 38), .lit (.int .u8 29), .lit (.int .u8 17), .lit (.int .u8 4), .lit (.int .u8 62), .lit (.int .u8 47), .lit (.int .u8 59), .lit (.int .u8 36), .lit (.int .u8 45), .lit (.int .u8 43), .lit (.int .u8 51), .lit (.int .u8 22), .lit (.int .u8 53), .lit (.int .u8 39), .lit (.int .u8 33), .lit (.int .u8 30), .lit (.int .u8 24), .lit (.int .u8 18), .lit (.int .u8 12), .lit (.int .u8 5), .lit (.int .u8 63), .lit (.int .u8 55), .lit (.int .u8 48), .lit (.int .u8 27), .lit (.int .u8 60), .lit (.int .u8 41), .lit (.int .u8 37), .lit (.int .u8 16), .lit (.int .u8 46), .lit (.int .u8 35), .lit (.int .u8 44), .lit (.int .u8 21), .lit (.int .u8 52), .lit (.int .u8 32), .lit (.int .u8 23), .lit (.int .u8 11), .lit (.int .u8 54), .lit (.int .u8 26), .lit (.int .u8 40), .lit (.int .u8 15), .lit (.int .u8 34), .lit (.int .u8 20), .lit (.int .u8 31), .lit (.int .u8 10), .lit (.int .u8 25), .lit (.int .u8 14), .lit (.int .u8 19), .lit (.int .u8 9), .lit (.int .u8 13), .lit (.int .u8 8), .lit (.int .u8 7), .lit (.int .u8 6)]
def laid_internal_strconv_uint64pow10 {H : Type} : DataW H := .agg [.lit (.int .u64 1), .lit (.int .u64 10), .lit (.int .u64 100), .lit (.int .u64 1000), .lit (.int .u64 10000), .lit (.int .u64 100000), .lit (.int .u64 1000000), .lit (.int .u64 10000000), .lit (.int .u64 100000000), .lit (.int .u64 1000000000), .lit (.int .u64 10000000000), .lit (.int .u64 100000000000), .lit (.int .u64 1000000000000), .lit (.int .u64 10000000000000), .lit (.int .u64 100000000000000), .lit (.int .u64 1000000000000000), .lit (.int .u64 10000000000000000), .lit (.int .u64 100000000000000000), .lit (.int .u64 1000000000000000000), .lit (.int .u64 10000000000000000000)]
def laid_unicode_utf8_acceptRanges {H : Type} : DataW H := .agg [.agg [.lit (.int .u8 128), .lit (.int .u8 191)], .agg [.lit (.int .u8 160), .lit (.int .u8 191)], .agg [.lit (.int .u8 128), .lit (.int .u8 159)], .agg [.lit (.int .u8 144), .lit (.int .u8 191)], .agg [.lit (.int .u8 128), .lit (.int .u8 143)], .agg [.lit (.int .u8 0), .lit (.int .u8 0)], .agg [.lit (.int .u8 0), .lit (.int .u8 0)], .agg [.lit (.int .u8 0), .lit (.int .u8 0)], .agg [.lit (.int .u8 0), .lit (.int .u8 0)], .agg [.lit (.int .u8 0), .lit (.int .u8 0)], .agg [.lit (.int .u8 0), .lit (.int .u8 0)], .agg [.lit (.int .u8 0), .lit (.int .u8 0)], .agg [.lit (.int .u8 0), .lit (.int .u8 0)], .agg [.lit (.int .u8 0), .lit (.int .u8 0)], .agg [.lit (.int .u8 0), .lit (.int .u8 0)], .agg [.lit (.int .u8 0), .lit (.int .u8 0)]]
def laid_strconv_ErrRange {H : Type} : DataW H := .iface "*errors.errorString" (.ptr (.agg [.lit (.string [118, 97, 108, 117, 101, 32, 111, 117, 116, 32, 111, 102, 32, 114, 97, 110, 103, 101])]))
def laid_strconv_ErrSyntax {H : Type} : DataW H := .iface "*errors.errorString" (.ptr (.agg [.lit (.string [105, 110, 118, 97, 108, 105, 100, 32, 115, 121, 110, 116, 97, 120])]))
/-- One of Go's own tables, pinned by name: the form's constant. -/
def laid_unicode_utf8_first : DataW Unit := Go.Pinned.utf8First

/-- 'clavecinlaw02.TonePowers': WHATEVER THE INPUT: true; the input reads as it did. -/
def tonePowersSpec : ChangeSpec := { name := "tonePowers", fn := fun _ => fun
  | [d1, d2, d3] => { results := [.lit (.bool true)], args := [d1, d2, d3] }
  | _ => none }
def tonePowersRow : OpenClaim := { program := "ytgdgdaofmjnepaadoor", sum := "31de931c2194dcaa54d91daeb9e6dee36a413c7df22de3f5a6057d0746c6c0c8", func := "clavecin/clavecinlaw02.TonePowers", spec := "tonePowers", inPlace := ["internal/abi.NoEscape", "internal/bytealg.MakeNoZero"], unfollowed := true, recurses := true, named := ["internal/strconv.uint64pow10", "math/bits.deBruijn32tab", "math/bits.deBruijn64tab"], apart := false, laid := [("math/bits.deBruijn32tab", laid_math_bits_deBruijn32tab), ("math/bits.deBruijn64tab", laid_math_bits_deBruijn64tab), ("internal/strconv.uint64pow10", laid_internal_strconv_uint64pow10)] }
def TonePowersSaid : Prop := tonePowersRow.holds Tryd.pinned (OpenSpec.ofChange tonePowersSpec)

/-- ITS FALSE NEIGHBOUR: 'it returns false'. Refute it at one input. -/
def tonePowersWrong : ChangeSpec := { name := "tonePowers", fn := fun _ => fun
  | [d1, d2, d3] => { results := [.lit (.bool false)], args := [d1, d2, d3] }
  | _ => none }
def TonePowersWrongFalsely : Prop := tonePowersRow.holds Tryd.pinned (OpenSpec.ofChange tonePowersWrong)

/-- 'clavecinlaw02.ToneSizes': WHATEVER THE INPUT: true; the input reads as it did. -/
def toneSizesSpec : ChangeSpec := { name := "toneSizes", fn := fun _ => fun
  | [d] => { results := [.lit (.bool true)], args := [d] }
  | _ => none }
def toneSizesRow : OpenClaim := { program := "ytgdgdaofmjnepaadoor", sum := "31de931c2194dcaa54d91daeb9e6dee36a413c7df22de3f5a6057d0746c6c0c8", func := "clavecin/clavecinlaw02.ToneSizes", spec := "toneSizes", inPlace := ["internal/abi.NoEscape", "internal/bytealg.MakeNoZero"], unfollowed := true, recurses := true, named := ["internal/strconv.uint64pow10", "math/bits.deBruijn32tab", "math/bits.deBruijn64tab"], apart := false, laid := [("math/bits.deBruijn32tab", laid_math_bits_deBruijn32tab), ("math/bits.deBruijn64tab", laid_math_bits_deBruijn64tab), ("internal/strconv.uint64pow10", laid_internal_strconv_uint64pow10)] }
def ToneSizesSaid : Prop := toneSizesRow.holds Tryd.pinned (OpenSpec.ofChange toneSizesSpec)

/-- ITS FALSE NEIGHBOUR: 'it returns false'. Refute it at one input. -/
def toneSizesWrong : ChangeSpec := { name := "toneSizes", fn := fun _ => fun
  | [d] => { results := [.lit (.bool false)], args := [d] }
  | _ => none }
def ToneSizesWrongFalsely : Prop := toneSizesRow.holds Tryd.pinned (OpenSpec.ofChange toneSizesWrong)

/-- 'clavecinlaw02.TonePowersOf': WHATEVER THE INPUT: true; the input reads as it did. -/
def tonePowersOfSpec : ChangeSpec := { name := "tonePowersOf", fn := fun _ => fun
  | [d1, d2, d3] => { results := [.lit (.bool true)], args := [d1, d2, d3] }
  | _ => none }
def tonePowersOfRow : OpenClaim := { program := "ytgdgdaofmjnepaadoor", sum := "31de931c2194dcaa54d91daeb9e6dee36a413c7df22de3f5a6057d0746c6c0c8", func := "clavecin/clavecinlaw02.TonePowersOf", spec := "tonePowersOf", inPlace := ["internal/abi.NoEscape", "internal/bytealg.MakeNoZero"], unfollowed := true, recurses := true, named := ["internal/strconv.uint64pow10", "math/bits.deBruijn32tab", "math/bits.deBruijn64tab"], apart := false, laid := [("math/bits.deBruijn32tab", laid_math_bits_deBruijn32tab), ("math/bits.deBruijn64tab", laid_math_bits_deBruijn64tab), ("internal/strconv.uint64pow10", laid_internal_strconv_uint64pow10)] }
def TonePowersOfSaid : Prop := tonePowersOfRow.holds Tryd.pinned (OpenSpec.ofChange tonePowersOfSpec)

/-- ITS FALSE NEIGHBOUR: 'it returns false'. Refute it at one input. -/
def tonePowersOfWrong : ChangeSpec := { name := "tonePowersOf", fn := fun _ => fun
  | [d1, d2, d3] => { results := [.lit (.bool false)], args := [d1, d2, d3] }
  | _ => none }
def TonePowersOfWrongFalsely : Prop := tonePowersOfRow.holds Tryd.pinned (OpenSpec.ofChange tonePowersOfWrong)

/-- 'clavecinlaw02.ToneCents': WHATEVER THE INPUT: true; the input reads as it did. -/
def toneCentsSpec : ChangeSpec := { name := "toneCents", fn := fun _ => fun
  | [d1, d2] => { results := [.lit (.bool true)], args := [d1, d2] }
  | _ => none }
def toneCentsRow : OpenClaim := { program := "ytgdgdaofmjnepaadoor", sum := "31de931c2194dcaa54d91daeb9e6dee36a413c7df22de3f5a6057d0746c6c0c8", func := "clavecin/clavecinlaw02.ToneCents", spec := "toneCents", inPlace := ["internal/abi.NoEscape", "internal/bytealg.MakeNoZero"], unfollowed := true, recurses := true, named := ["internal/strconv.uint64pow10", "math/bits.deBruijn32tab", "math/bits.deBruijn64tab"], apart := false, laid := [("math/bits.deBruijn32tab", laid_math_bits_deBruijn32tab), ("math/bits.deBruijn64tab", laid_math_bits_deBruijn64tab), ("internal/strconv.uint64pow10", laid_internal_strconv_uint64pow10)] }
def ToneCentsSaid : Prop := toneCentsRow.holds Tryd.pinned (OpenSpec.ofChange toneCentsSpec)

/-- ITS FALSE NEIGHBOUR: 'it returns false'. Refute it at one input. -/
def toneCentsWrong : ChangeSpec := { name := "toneCents", fn := fun _ => fun
  | [d1, d2] => { results := [.lit (.bool false)], args := [d1, d2] }
  | _ => none }
def ToneCentsWrongFalsely : Prop := toneCentsRow.holds Tryd.pinned (OpenSpec.ofChange toneCentsWrong)

/-- 'clavecinlaw02.ToneMuls': WHATEVER THE INPUT: true; the input reads as it did. -/
def toneMulsSpec : ChangeSpec := { name := "toneMuls", fn := fun _ => fun
  | [d1, d2] => { results := [.lit (.bool true)], args := [d1, d2] }
  | _ => none }
def toneMulsRow : OpenClaim := { program := "ytgdgdaofmjnepaadoor", sum := "31de931c2194dcaa54d91daeb9e6dee36a413c7df22de3f5a6057d0746c6c0c8", func := "clavecin/clavecinlaw02.ToneMuls", spec := "toneMuls", inPlace := ["internal/abi.NoEscape", "internal/bytealg.MakeNoZero"], unfollowed := true, recurses := true, named := ["internal/strconv.uint64pow10", "math/bits.deBruijn32tab", "math/bits.deBruijn64tab"], apart := false, laid := [("math/bits.deBruijn32tab", laid_math_bits_deBruijn32tab), ("math/bits.deBruijn64tab", laid_math_bits_deBruijn64tab), ("internal/strconv.uint64pow10", laid_internal_strconv_uint64pow10)] }
def ToneMulsSaid : Prop := toneMulsRow.holds Tryd.pinned (OpenSpec.ofChange toneMulsSpec)

/-- ITS FALSE NEIGHBOUR: 'it returns false'. Refute it at one input. -/
def toneMulsWrong : ChangeSpec := { name := "toneMuls", fn := fun _ => fun
  | [d1, d2] => { results := [.lit (.bool false)], args := [d1, d2] }
  | _ => none }
def ToneMulsWrongFalsely : Prop := toneMulsRow.holds Tryd.pinned (OpenSpec.ofChange toneMulsWrong)

/-- 'clavecinlaw02.ToneGroup': WHATEVER THE INPUT: true; the input reads as it did. -/
def toneGroupSpec : ChangeSpec := { name := "toneGroup", fn := fun _ => fun
  | [d1, d2, d3] => { results := [.lit (.bool true)], args := [d1, d2, d3] }
  | _ => none }
def toneGroupRow : OpenClaim := { program := "ytgdgdaofmjnepaadoor", sum := "31de931c2194dcaa54d91daeb9e6dee36a413c7df22de3f5a6057d0746c6c0c8", func := "clavecin/clavecinlaw02.ToneGroup", spec := "toneGroup", inPlace := ["internal/abi.NoEscape", "internal/bytealg.MakeNoZero"], unfollowed := true, recurses := true, named := ["internal/strconv.uint64pow10", "math/bits.deBruijn32tab", "math/bits.deBruijn64tab"], apart := false, laid := [("math/bits.deBruijn32tab", laid_math_bits_deBruijn32tab), ("math/bits.deBruijn64tab", laid_math_bits_deBruijn64tab), ("internal/strconv.uint64pow10", laid_internal_strconv_uint64pow10)] }
def ToneGroupSaid : Prop := toneGroupRow.holds Tryd.pinned (OpenSpec.ofChange toneGroupSpec)

/-- ITS FALSE NEIGHBOUR: 'it returns false'. Refute it at one input. -/
def toneGroupWrong : ChangeSpec := { name := "toneGroup", fn := fun _ => fun
  | [d1, d2, d3] => { results := [.lit (.bool false)], args := [d1, d2, d3] }
  | _ => none }
def ToneGroupWrongFalsely : Prop := toneGroupRow.holds Tryd.pinned (OpenSpec.ofChange toneGroupWrong)

/-- 'clavecinlaw02.ToneCmps': WHATEVER THE INPUT: true; the input reads as it did. -/
def toneCmpsSpec : ChangeSpec := { name := "toneCmps", fn := fun _ => fun
  | [d1, d2] => { results := [.lit (.bool true)], args := [d1, d2] }
  | _ => none }
def toneCmpsRow : OpenClaim := { program := "ytgdgdaofmjnepaadoor", sum := "31de931c2194dcaa54d91daeb9e6dee36a413c7df22de3f5a6057d0746c6c0c8", func := "clavecin/clavecinlaw02.ToneCmps", spec := "toneCmps", inPlace := ["internal/abi.NoEscape", "internal/bytealg.MakeNoZero"], unfollowed := true, recurses := true, named := ["internal/strconv.uint64pow10", "math/bits.deBruijn32tab", "math/bits.deBruijn64tab"], apart := false, laid := [("math/bits.deBruijn32tab", laid_math_bits_deBruijn32tab), ("math/bits.deBruijn64tab", laid_math_bits_deBruijn64tab), ("internal/strconv.uint64pow10", laid_internal_strconv_uint64pow10)] }
def ToneCmpsSaid : Prop := toneCmpsRow.holds Tryd.pinned (OpenSpec.ofChange toneCmpsSpec)

/-- ITS FALSE NEIGHBOUR: 'it returns false'. Refute it at one input. -/
def toneCmpsWrong : ChangeSpec := { name := "toneCmps", fn := fun _ => fun
  | [d1, d2] => { results := [.lit (.bool false)], args := [d1, d2] }
  | _ => none }
def ToneCmpsWrongFalsely : Prop := toneCmpsRow.holds Tryd.pinned (OpenSpec.ofChange toneCmpsWrong)

/-- 'clavecinlaw02.ToneOctaves': WHATEVER THE INPUT: true; the input reads as it did. -/
def toneOctavesSpec : ChangeSpec := { name := "toneOctaves", fn := fun _ => fun
  | [d] => { results := [.lit (.bool true)], args := [d] }
  | _ => none }
def toneOctavesRow : OpenClaim := { program := "ytgdgdaofmjnepaadoor", sum := "31de931c2194dcaa54d91daeb9e6dee36a413c7df22de3f5a6057d0746c6c0c8", func := "clavecin/clavecinlaw02.ToneOctaves", spec := "toneOctaves", inPlace := ["internal/abi.NoEscape", "internal/bytealg.MakeNoZero"], unfollowed := true, recurses := true, named := ["internal/strconv.uint64pow10", "math/bits.deBruijn32tab", "math/bits.deBruijn64tab"], apart := false, laid := [("math/bits.deBruijn32tab", laid_math_bits_deBruijn32tab), ("math/bits.deBruijn64tab", laid_math_bits_deBruijn64tab), ("internal/strconv.uint64pow10", laid_internal_strconv_uint64pow10)] }
def ToneOctavesSaid : Prop := toneOctavesRow.holds Tryd.pinned (OpenSpec.ofChange toneOctavesSpec)

/-- ITS FALSE NEIGHBOUR: 'it returns false'. Refute it at one input. -/
def toneOctavesWrong : ChangeSpec := { name := "toneOctaves", fn := fun _ => fun
  | [d] => { results := [.lit (.bool false)], args := [d] }
  | _ => none }
def ToneOctavesWrongFalsely : Prop := toneOctavesRow.holds Tryd.pinned (OpenSpec.ofChange toneOctavesWrong)

/-- 'clavecinlaw02.ToneMakes': WHATEVER THE INPUT: true; the input reads as it did. -/
def toneMakesSpec : ChangeSpec := { name := "toneMakes", fn := fun _ => fun
  | [d] => { results := [.lit (.bool true)], args := [d] }
  | _ => none }
def toneMakesRow : OpenClaim := { program := "ytgdgdaofmjnepaadoor", sum := "31de931c2194dcaa54d91daeb9e6dee36a413c7df22de3f5a6057d0746c6c0c8", func := "clavecin/clavecinlaw02.ToneMakes", spec := "toneMakes", inPlace := ["internal/abi.NoEscape", "internal/bytealg.MakeNoZero"], unfollowed := true, recurses := true, named := ["internal/strconv.uint64pow10", "math/bits.deBruijn32tab", "math/bits.deBruijn64tab"], apart := false, laid := [("math/bits.deBruijn32tab", laid_math_bits_deBruijn32tab), ("math/bits.deBruijn64tab", laid_math_bits_deBruijn64tab), ("internal/strconv.uint64pow10", laid_internal_strconv_uint64pow10)] }
def ToneMakesSaid : Prop := toneMakesRow.holds Tryd.pinned (OpenSpec.ofChange toneMakesSpec)

/-- ITS FALSE NEIGHBOUR: 'it returns false'. Refute it at one input. -/
def toneMakesWrong : ChangeSpec := { name := "toneMakes", fn := fun _ => fun
  | [d] => { results := [.lit (.bool false)], args := [d] }
  | _ => none }
def ToneMakesWrongFalsely : Prop := toneMakesRow.holds Tryd.pinned (OpenSpec.ofChange toneMakesWrong)

/-- 'clavecinlaw02.ToneCommas': WHATEVER THE INPUT: true; the input reads as it did. -/
def toneCommasSpec : ChangeSpec := { name := "toneCommas", fn := fun _ => fun
  | [d] => { results := [.lit (.bool true)], args := [d] }
  | _ => none }
def toneCommasRow : OpenClaim := { program := "ytgdgdaofmjnepaadoor", sum := "31de931c2194dcaa54d91daeb9e6dee36a413c7df22de3f5a6057d0746c6c0c8", func := "clavecin/clavecinlaw02.ToneCommas", spec := "toneCommas", inPlace := ["internal/abi.NoEscape", "internal/bytealg.MakeNoZero"], unfollowed := true, recurses := true, named := ["internal/strconv.uint64pow10", "math/bits.deBruijn32tab", "math/bits.deBruijn64tab"], apart := false, laid := [("math/bits.deBruijn32tab", laid_math_bits_deBruijn32tab), ("math/bits.deBruijn64tab", laid_math_bits_deBruijn64tab), ("internal/strconv.uint64pow10", laid_internal_strconv_uint64pow10)] }
def ToneCommasSaid : Prop := toneCommasRow.holds Tryd.pinned (OpenSpec.ofChange toneCommasSpec)

/-- ITS FALSE NEIGHBOUR: 'it returns false'. Refute it at one input. -/
def toneCommasWrong : ChangeSpec := { name := "toneCommas", fn := fun _ => fun
  | [d] => { results := [.lit (.bool false)], args := [d] }
  | _ => none }
def ToneCommasWrongFalsely : Prop := toneCommasRow.holds Tryd.pinned (OpenSpec.ofChange toneCommasWrong)

/-- 'clavecinlaw02.ToneOrder': WHATEVER THE INPUT: true; the input reads as it did. -/
def toneOrderSpec : ChangeSpec := { name := "toneOrder", fn := fun _ => fun
  | [d1, d2, d3] => { results := [.lit (.bool true)], args := [d1, d2, d3] }
  | _ => none }
def toneOrderRow : OpenClaim := { program := "ytgdgdaofmjnepaadoor", sum := "31de931c2194dcaa54d91daeb9e6dee36a413c7df22de3f5a6057d0746c6c0c8", func := "clavecin/clavecinlaw02.ToneOrder", spec := "toneOrder", inPlace := ["internal/abi.NoEscape", "internal/bytealg.MakeNoZero"], unfollowed := true, recurses := true, named := ["internal/strconv.uint64pow10", "math/bits.deBruijn32tab", "math/bits.deBruijn64tab"], apart := false, laid := [("math/bits.deBruijn32tab", laid_math_bits_deBruijn32tab), ("math/bits.deBruijn64tab", laid_math_bits_deBruijn64tab), ("internal/strconv.uint64pow10", laid_internal_strconv_uint64pow10)] }
def ToneOrderSaid : Prop := toneOrderRow.holds Tryd.pinned (OpenSpec.ofChange toneOrderSpec)

/-- ITS FALSE NEIGHBOUR: 'it returns false'. Refute it at one input. -/
def toneOrderWrong : ChangeSpec := { name := "toneOrder", fn := fun _ => fun
  | [d1, d2, d3] => { results := [.lit (.bool false)], args := [d1, d2, d3] }
  | _ => none }
def ToneOrderWrongFalsely : Prop := toneOrderRow.holds Tryd.pinned (OpenSpec.ofChange toneOrderWrong)

/-- 'clavecinlaw02.ToneFolded': WHATEVER THE INPUT: true; the input reads as it did. -/
def toneFoldedSpec : ChangeSpec := { name := "toneFolded", fn := fun _ => fun
  | [d] => { results := [.lit (.bool true)], args := [d] }
  | _ => none }
def toneFoldedRow : OpenClaim := { program := "ytgdgdaofmjnepaadoor", sum := "31de931c2194dcaa54d91daeb9e6dee36a413c7df22de3f5a6057d0746c6c0c8", func := "clavecin/clavecinlaw02.ToneFolded", spec := "toneFolded", inPlace := ["internal/abi.NoEscape", "internal/bytealg.MakeNoZero"], unfollowed := true, recurses := true, named := ["internal/strconv.uint64pow10", "math/bits.deBruijn32tab", "math/bits.deBruijn64tab"], apart := false, laid := [("math/bits.deBruijn32tab", laid_math_bits_deBruijn32tab), ("math/bits.deBruijn64tab", laid_math_bits_deBruijn64tab), ("internal/strconv.uint64pow10", laid_internal_strconv_uint64pow10)] }
def ToneFoldedSaid : Prop := toneFoldedRow.holds Tryd.pinned (OpenSpec.ofChange toneFoldedSpec)

/-- ITS FALSE NEIGHBOUR: 'it returns false'. Refute it at one input. -/
def toneFoldedWrong : ChangeSpec := { name := "toneFolded", fn := fun _ => fun
  | [d] => { results := [.lit (.bool false)], args := [d] }
  | _ => none }
def ToneFoldedWrongFalsely : Prop := toneFoldedRow.holds Tryd.pinned (OpenSpec.ofChange toneFoldedWrong)

/-- 'clavecinlaw02.ToneFareys': WHATEVER THE INPUT: true; the input reads as it did. -/
def toneFareysSpec : ChangeSpec := { name := "toneFareys", fn := fun _ => fun
  | [d1, d2] => { results := [.lit (.bool true)], args := [d1, d2] }
  | _ => none }
def toneFareysRow : OpenClaim := { program := "ytgdgdaofmjnepaadoor", sum := "31de931c2194dcaa54d91daeb9e6dee36a413c7df22de3f5a6057d0746c6c0c8", func := "clavecin/clavecinlaw02.ToneFareys", spec := "toneFareys", inPlace := ["internal/abi.NoEscape", "internal/bytealg.MakeNoZero"], unfollowed := true, recurses := true, named := ["internal/strconv.uint64pow10", "math/bits.deBruijn32tab", "math/bits.deBruijn64tab"], apart := false, laid := [("math/bits.deBruijn32tab", laid_math_bits_deBruijn32tab), ("math/bits.deBruijn64tab", laid_math_bits_deBruijn64tab), ("internal/strconv.uint64pow10", laid_internal_strconv_uint64pow10)] }
def ToneFareysSaid : Prop := toneFareysRow.holds Tryd.pinned (OpenSpec.ofChange toneFareysSpec)

/-- ITS FALSE NEIGHBOUR: 'it returns false'. Refute it at one input. -/
def toneFareysWrong : ChangeSpec := { name := "toneFareys", fn := fun _ => fun
  | [d1, d2] => { results := [.lit (.bool false)], args := [d1, d2] }
  | _ => none }
def ToneFareysWrongFalsely : Prop := toneFareysRow.holds Tryd.pinned (OpenSpec.ofChange toneFareysWrong)

/-- 'clavecinlaw02.ToneNext': WHATEVER THE INPUT: true; the input reads as it did. -/
def toneNextSpec : ChangeSpec := { name := "toneNext", fn := fun _ => fun
  | [d1, d2] => { results := [.lit (.bool true)], args := [d1, d2] }
  | _ => none }
def toneNextRow : OpenClaim := { program := "ytgdgdaofmjnepaadoor", sum := "31de931c2194dcaa54d91daeb9e6dee36a413c7df22de3f5a6057d0746c6c0c8", func := "clavecin/clavecinlaw02.ToneNext", spec := "toneNext", inPlace := ["internal/abi.NoEscape", "internal/bytealg.MakeNoZero"], unfollowed := true, recurses := true, named := ["internal/strconv.uint64pow10", "math/bits.deBruijn32tab", "math/bits.deBruijn64tab"], apart := false, laid := [("math/bits.deBruijn32tab", laid_math_bits_deBruijn32tab), ("math/bits.deBruijn64tab", laid_math_bits_deBruijn64tab), ("internal/strconv.uint64pow10", laid_internal_strconv_uint64pow10)] }
def ToneNextSaid : Prop := toneNextRow.holds Tryd.pinned (OpenSpec.ofChange toneNextSpec)

/-- ITS FALSE NEIGHBOUR: 'it returns false'. Refute it at one input. -/
def toneNextWrong : ChangeSpec := { name := "toneNext", fn := fun _ => fun
  | [d1, d2] => { results := [.lit (.bool false)], args := [d1, d2] }
  | _ => none }
def ToneNextWrongFalsely : Prop := toneNextRow.holds Tryd.pinned (OpenSpec.ofChange toneNextWrong)

/-- 'clavecinlaw02.ToneDivides': WHATEVER THE INPUT: true; the input reads as it did. -/
def toneDividesSpec : ChangeSpec := { name := "toneDivides", fn := fun _ => fun
  | [d1, d2] => { results := [.lit (.bool true)], args := [d1, d2] }
  | _ => none }
def toneDividesRow : OpenClaim := { program := "ytgdgdaofmjnepaadoor", sum := "31de931c2194dcaa54d91daeb9e6dee36a413c7df22de3f5a6057d0746c6c0c8", func := "clavecin/clavecinlaw02.ToneDivides", spec := "toneDivides", inPlace := ["internal/abi.NoEscape", "internal/bytealg.MakeNoZero"], unfollowed := true, recurses := true, named := ["internal/strconv.uint64pow10", "math/bits.deBruijn32tab", "math/bits.deBruijn64tab"], apart := false, laid := [("math/bits.deBruijn32tab", laid_math_bits_deBruijn32tab), ("math/bits.deBruijn64tab", laid_math_bits_deBruijn64tab), ("internal/strconv.uint64pow10", laid_internal_strconv_uint64pow10)] }
def ToneDividesSaid : Prop := toneDividesRow.holds Tryd.pinned (OpenSpec.ofChange toneDividesSpec)

/-- ITS FALSE NEIGHBOUR: 'it returns false'. Refute it at one input. -/
def toneDividesWrong : ChangeSpec := { name := "toneDivides", fn := fun _ => fun
  | [d1, d2] => { results := [.lit (.bool false)], args := [d1, d2] }
  | _ => none }
def ToneDividesWrongFalsely : Prop := toneDividesRow.holds Tryd.pinned (OpenSpec.ofChange toneDividesWrong)

/-- 'clavecinlaw02.ToneNear': WHATEVER THE INPUT: true; the input reads as it did. -/
def toneNearSpec : ChangeSpec := { name := "toneNear", fn := fun _ => fun
  | [d1, d2, d3] => { results := [.lit (.bool true)], args := [d1, d2, d3] }
  | _ => none }
def toneNearRow : OpenClaim := { program := "ytgdgdaofmjnepaadoor", sum := "31de931c2194dcaa54d91daeb9e6dee36a413c7df22de3f5a6057d0746c6c0c8", func := "clavecin/clavecinlaw02.ToneNear", spec := "toneNear", inPlace := ["internal/abi.NoEscape", "internal/bytealg.MakeNoZero"], unfollowed := true, recurses := true, named := ["internal/strconv.uint64pow10", "math/bits.deBruijn32tab", "math/bits.deBruijn64tab"], apart := false, laid := [("math/bits.deBruijn32tab", laid_math_bits_deBruijn32tab), ("math/bits.deBruijn64tab", laid_math_bits_deBruijn64tab), ("internal/strconv.uint64pow10", laid_internal_strconv_uint64pow10)] }
def ToneNearSaid : Prop := toneNearRow.holds Tryd.pinned (OpenSpec.ofChange toneNearSpec)

/-- ITS FALSE NEIGHBOUR: 'it returns false'. Refute it at one input. -/
def toneNearWrong : ChangeSpec := { name := "toneNear", fn := fun _ => fun
  | [d1, d2, d3] => { results := [.lit (.bool false)], args := [d1, d2, d3] }
  | _ => none }
def ToneNearWrongFalsely : Prop := toneNearRow.holds Tryd.pinned (OpenSpec.ofChange toneNearWrong)

/-- 'clavecinlaw02.ToneFreqs': WHATEVER THE INPUT: true; the input reads as it did. -/
def toneFreqsSpec : ChangeSpec := { name := "toneFreqs", fn := fun _ => fun
  | [d1, d2] => { results := [.lit (.bool true)], args := [d1, d2] }
  | _ => none }
def toneFreqsRow : OpenClaim := { program := "ytgdgdaofmjnepaadoor", sum := "31de931c2194dcaa54d91daeb9e6dee36a413c7df22de3f5a6057d0746c6c0c8", func := "clavecin/clavecinlaw02.ToneFreqs", spec := "toneFreqs", inPlace := ["internal/abi.NoEscape", "internal/bytealg.MakeNoZero"], unfollowed := true, recurses := true, named := ["internal/strconv.uint64pow10", "math/bits.deBruijn32tab", "math/bits.deBruijn64tab"], apart := false, laid := [("math/bits.deBruijn32tab", laid_math_bits_deBruijn32tab), ("math/bits.deBruijn64tab", laid_math_bits_deBruijn64tab), ("internal/strconv.uint64pow10", laid_internal_strconv_uint64pow10)] }
def ToneFreqsSaid : Prop := toneFreqsRow.holds Tryd.pinned (OpenSpec.ofChange toneFreqsSpec)

/-- ITS FALSE NEIGHBOUR: 'it returns false'. Refute it at one input. -/
def toneFreqsWrong : ChangeSpec := { name := "toneFreqs", fn := fun _ => fun
  | [d1, d2] => { results := [.lit (.bool false)], args := [d1, d2] }
  | _ => none }
def ToneFreqsWrongFalsely : Prop := toneFreqsRow.holds Tryd.pinned (OpenSpec.ofChange toneFreqsWrong)

/-- 'clavecinlaw02.ToneExact': WHATEVER THE INPUT: true; the input reads as it did. -/
def toneExactSpec : ChangeSpec := { name := "toneExact", fn := fun _ => fun
  | [d1, d2] => { results := [.lit (.bool true)], args := [d1, d2] }
  | _ => none }
def toneExactRow : OpenClaim := { program := "ytgdgdaofmjnepaadoor", sum := "31de931c2194dcaa54d91daeb9e6dee36a413c7df22de3f5a6057d0746c6c0c8", func := "clavecin/clavecinlaw02.ToneExact", spec := "toneExact", inPlace := ["internal/abi.NoEscape", "internal/bytealg.MakeNoZero"], unfollowed := true, recurses := true, named := ["internal/strconv.uint64pow10", "math/bits.deBruijn32tab", "math/bits.deBruijn64tab"], apart := false, laid := [("math/bits.deBruijn32tab", laid_math_bits_deBruijn32tab), ("math/bits.deBruijn64tab", laid_math_bits_deBruijn64tab), ("internal/strconv.uint64pow10", laid_internal_strconv_uint64pow10)] }
def ToneExactSaid : Prop := toneExactRow.holds Tryd.pinned (OpenSpec.ofChange toneExactSpec)

/-- ITS FALSE NEIGHBOUR: 'it returns false'. Refute it at one input. -/
def toneExactWrong : ChangeSpec := { name := "toneExact", fn := fun _ => fun
  | [d1, d2] => { results := [.lit (.bool false)], args := [d1, d2] }
  | _ => none }
def ToneExactWrongFalsely : Prop := toneExactRow.holds Tryd.pinned (OpenSpec.ofChange toneExactWrong)

/-- 'clavecinlaw02.ToneBack': WHATEVER THE INPUT: true; the input reads as it did. -/
def toneBackSpec : ChangeSpec := { name := "toneBack", fn := fun _ => fun
  | [d] => { results := [.lit (.bool true)], args := [d] }
  | _ => none }
def toneBackRow : OpenClaim := { program := "ytgdgdaofmjnepaadoor", sum := "31de931c2194dcaa54d91daeb9e6dee36a413c7df22de3f5a6057d0746c6c0c8", func := "clavecin/clavecinlaw02.ToneBack", spec := "toneBack", inPlace := ["internal/abi.NoEscape", "internal/bytealg.MakeNoZero", "internal/bytealg.IndexByteString", "internal/bytealg.IndexString", "internal/bytealg.CountString"], unfollowed := true, recurses := true, named := ["internal/strconv.uint64pow10", "math/bits.deBruijn32tab", "math/bits.deBruijn64tab", "internal/bytealg.MaxLen", "unicode/utf8.first", "unicode/utf8.acceptRanges", "strconv.ErrSyntax", "strconv.ErrRange"], apart := false, laid := [("math/bits.deBruijn32tab", laid_math_bits_deBruijn32tab), ("math/bits.deBruijn64tab", laid_math_bits_deBruijn64tab), ("internal/strconv.uint64pow10", laid_internal_strconv_uint64pow10), ("unicode/utf8.acceptRanges", laid_unicode_utf8_acceptRanges), ("strconv.ErrRange", laid_strconv_ErrRange), ("strconv.ErrSyntax", laid_strconv_ErrSyntax), ("unicode/utf8.first", laid_unicode_utf8_first)] }
def ToneBackSaid : Prop := toneBackRow.holds Tryd.pinned (OpenSpec.ofChange toneBackSpec)

/-- ITS FALSE NEIGHBOUR: 'it returns false'. Refute it at one input. -/
def toneBackWrong : ChangeSpec := { name := "toneBack", fn := fun _ => fun
  | [d] => { results := [.lit (.bool false)], args := [d] }
  | _ => none }
def ToneBackWrongFalsely : Prop := toneBackRow.holds Tryd.pinned (OpenSpec.ofChange toneBackWrong)

/- THE SECOND FORM. 'bulk': how many values and letters a reading holds, each counted each time it is reached (what is shared counts as often as it is met; a slice's spare places count too). A statement '..UptoSaid' is the law's where the arguments, and the package variables that the reading takes, are together of bulk at most 1048576: NARROWER than '..Said'. Prove '..Said' where nothing that the law and all that it calls make is longer than what came in: it says more and counts as full. Else prove '..UptoSaid'. A law counts once. -/
mutual
def uptoBulk {H : Type} : DataW H → Nat
  | .lit (.string bytes) => bytes.length + 1
  | .lit _ => 1
  | .nil => 1
  | .ptr d => uptoBulk d + 1
  | .slice elems spare => uptoBulkAll elems + uptoBulkAll spare + 1
  | .agg parts => uptoBulkAll parts + 1
  | .iface _ d => uptoBulk d + 1
  | .map entries => uptoBulkEntries entries + 1
  | .held _ => 1
def uptoBulkAll {H : Type} : List (DataW H) → Nat
  | [] => 0
  | d :: r => uptoBulk d + uptoBulkAll r
def uptoBulkEntries {H : Type} : List (Lit × DataW H) → Nat
  | [] => 0
  | x :: r => uptoBulkEntry x + uptoBulkEntries r
def uptoBulkEntry {H : Type} : Lit × DataW H → Nat
  | (.string bytes, d) => bytes.length + uptoBulk d + 1
  | (_, d) => uptoBulk d + 1
 end
def uptoSmall : (H : Type) → List (DataW H) → Bool := fun _ ds => decide (uptoBulkAll ds ≤ 1048576)
def OpenSpec.upto (s : _root_.Go.ChangeSpec) : _root_.Go.OpenSpec := { _root_.Go.OpenSpec.ofChange s with cond := some uptoSmall }

/-- 'clavecinlaw02.TonePowers', WHERE WHAT IT READS IS OF BULK AT MOST 1048576: true; the input reads as it did. -/
def tonePowersUptoRow : OpenClaim := { program := "ytgdgdaofmjnepaadoor", sum := "31de931c2194dcaa54d91daeb9e6dee36a413c7df22de3f5a6057d0746c6c0c8", func := "clavecin/clavecinlaw02.TonePowers", spec := "tonePowers", inPlace := ["internal/abi.NoEscape", "internal/bytealg.MakeNoZero"], unfollowed := true, recurses := true, named := ["internal/strconv.uint64pow10", "math/bits.deBruijn32tab", "math/bits.deBruijn64tab"], apart := false, laid := [("math/bits.deBruijn32tab", laid_math_bits_deBruijn32tab), ("math/bits.deBruijn64tab", laid_math_bits_deBruijn64tab), ("internal/strconv.uint64pow10", laid_internal_strconv_uint64pow10)], narrowed := true }
def TonePowersUptoSaid : Prop := tonePowersUptoRow.holds Tryd.pinned (OpenSpec.upto tonePowersSpec)

/-- 'clavecinlaw02.ToneSizes', WHERE WHAT IT READS IS OF BULK AT MOST 1048576: true; the input reads as it did. -/
def toneSizesUptoRow : OpenClaim := { program := "ytgdgdaofmjnepaadoor", sum := "31de931c2194dcaa54d91daeb9e6dee36a413c7df22de3f5a6057d0746c6c0c8", func := "clavecin/clavecinlaw02.ToneSizes", spec := "toneSizes", inPlace := ["internal/abi.NoEscape", "internal/bytealg.MakeNoZero"], unfollowed := true, recurses := true, named := ["internal/strconv.uint64pow10", "math/bits.deBruijn32tab", "math/bits.deBruijn64tab"], apart := false, laid := [("math/bits.deBruijn32tab", laid_math_bits_deBruijn32tab), ("math/bits.deBruijn64tab", laid_math_bits_deBruijn64tab), ("internal/strconv.uint64pow10", laid_internal_strconv_uint64pow10)], narrowed := true }
def ToneSizesUptoSaid : Prop := toneSizesUptoRow.holds Tryd.pinned (OpenSpec.upto toneSizesSpec)

/-- 'clavecinlaw02.TonePowersOf', WHERE WHAT IT READS IS OF BULK AT MOST 1048576: true; the input reads as it did. -/
def tonePowersOfUptoRow : OpenClaim := { program := "ytgdgdaofmjnepaadoor", sum := "31de931c2194dcaa54d91daeb9e6dee36a413c7df22de3f5a6057d0746c6c0c8", func := "clavecin/clavecinlaw02.TonePowersOf", spec := "tonePowersOf", inPlace := ["internal/abi.NoEscape", "internal/bytealg.MakeNoZero"], unfollowed := true, recurses := true, named := ["internal/strconv.uint64pow10", "math/bits.deBruijn32tab", "math/bits.deBruijn64tab"], apart := false, laid := [("math/bits.deBruijn32tab", laid_math_bits_deBruijn32tab), ("math/bits.deBruijn64tab", laid_math_bits_deBruijn64tab), ("internal/strconv.uint64pow10", laid_internal_strconv_uint64pow10)], narrowed := true }
def TonePowersOfUptoSaid : Prop := tonePowersOfUptoRow.holds Tryd.pinned (OpenSpec.upto tonePowersOfSpec)

/-- 'clavecinlaw02.ToneCents', WHERE WHAT IT READS IS OF BULK AT MOST 1048576: true; the input reads as it did. -/
def toneCentsUptoRow : OpenClaim := { program := "ytgdgdaofmjnepaadoor", sum := "31de931c2194dcaa54d91daeb9e6dee36a413c7df22de3f5a6057d0746c6c0c8", func := "clavecin/clavecinlaw02.ToneCents", spec := "toneCents", inPlace := ["internal/abi.NoEscape", "internal/bytealg.MakeNoZero"], unfollowed := true, recurses := true, named := ["internal/strconv.uint64pow10", "math/bits.deBruijn32tab", "math/bits.deBruijn64tab"], apart := false, laid := [("math/bits.deBruijn32tab", laid_math_bits_deBruijn32tab), ("math/bits.deBruijn64tab", laid_math_bits_deBruijn64tab), ("internal/strconv.uint64pow10", laid_internal_strconv_uint64pow10)], narrowed := true }
def ToneCentsUptoSaid : Prop := toneCentsUptoRow.holds Tryd.pinned (OpenSpec.upto toneCentsSpec)

/-- 'clavecinlaw02.ToneMuls', WHERE WHAT IT READS IS OF BULK AT MOST 1048576: true; the input reads as it did. -/
def toneMulsUptoRow : OpenClaim := { program := "ytgdgdaofmjnepaadoor", sum := "31de931c2194dcaa54d91daeb9e6dee36a413c7df22de3f5a6057d0746c6c0c8", func := "clavecin/clavecinlaw02.ToneMuls", spec := "toneMuls", inPlace := ["internal/abi.NoEscape", "internal/bytealg.MakeNoZero"], unfollowed := true, recurses := true, named := ["internal/strconv.uint64pow10", "math/bits.deBruijn32tab", "math/bits.deBruijn64tab"], apart := false, laid := [("math/bits.deBruijn32tab", laid_math_bits_deBruijn32tab), ("math/bits.deBruijn64tab", laid_math_bits_deBruijn64tab), ("internal/strconv.uint64pow10", laid_internal_strconv_uint64pow10)], narrowed := true }
def ToneMulsUptoSaid : Prop := toneMulsUptoRow.holds Tryd.pinned (OpenSpec.upto toneMulsSpec)

/-- 'clavecinlaw02.ToneGroup', WHERE WHAT IT READS IS OF BULK AT MOST 1048576: true; the input reads as it did. -/
def toneGroupUptoRow : OpenClaim := { program := "ytgdgdaofmjnepaadoor", sum := "31de931c2194dcaa54d91daeb9e6dee36a413c7df22de3f5a6057d0746c6c0c8", func := "clavecin/clavecinlaw02.ToneGroup", spec := "toneGroup", inPlace := ["internal/abi.NoEscape", "internal/bytealg.MakeNoZero"], unfollowed := true, recurses := true, named := ["internal/strconv.uint64pow10", "math/bits.deBruijn32tab", "math/bits.deBruijn64tab"], apart := false, laid := [("math/bits.deBruijn32tab", laid_math_bits_deBruijn32tab), ("math/bits.deBruijn64tab", laid_math_bits_deBruijn64tab), ("internal/strconv.uint64pow10", laid_internal_strconv_uint64pow10)], narrowed := true }
def ToneGroupUptoSaid : Prop := toneGroupUptoRow.holds Tryd.pinned (OpenSpec.upto toneGroupSpec)

/-- 'clavecinlaw02.ToneCmps', WHERE WHAT IT READS IS OF BULK AT MOST 1048576: true; the input reads as it did. -/
def toneCmpsUptoRow : OpenClaim := { program := "ytgdgdaofmjnepaadoor", sum := "31de931c2194dcaa54d91daeb9e6dee36a413c7df22de3f5a6057d0746c6c0c8", func := "clavecin/clavecinlaw02.ToneCmps", spec := "toneCmps", inPlace := ["internal/abi.NoEscape", "internal/bytealg.MakeNoZero"], unfollowed := true, recurses := true, named := ["internal/strconv.uint64pow10", "math/bits.deBruijn32tab", "math/bits.deBruijn64tab"], apart := false, laid := [("math/bits.deBruijn32tab", laid_math_bits_deBruijn32tab), ("math/bits.deBruijn64tab", laid_math_bits_deBruijn64tab), ("internal/strconv.uint64pow10", laid_internal_strconv_uint64pow10)], narrowed := true }
def ToneCmpsUptoSaid : Prop := toneCmpsUptoRow.holds Tryd.pinned (OpenSpec.upto toneCmpsSpec)

/-- 'clavecinlaw02.ToneOctaves', WHERE WHAT IT READS IS OF BULK AT MOST 1048576: true; the input reads as it did. -/
def toneOctavesUptoRow : OpenClaim := { program := "ytgdgdaofmjnepaadoor", sum := "31de931c2194dcaa54d91daeb9e6dee36a413c7df22de3f5a6057d0746c6c0c8", func := "clavecin/clavecinlaw02.ToneOctaves", spec := "toneOctaves", inPlace := ["internal/abi.NoEscape", "internal/bytealg.MakeNoZero"], unfollowed := true, recurses := true, named := ["internal/strconv.uint64pow10", "math/bits.deBruijn32tab", "math/bits.deBruijn64tab"], apart := false, laid := [("math/bits.deBruijn32tab", laid_math_bits_deBruijn32tab), ("math/bits.deBruijn64tab", laid_math_bits_deBruijn64tab), ("internal/strconv.uint64pow10", laid_internal_strconv_uint64pow10)], narrowed := true }
def ToneOctavesUptoSaid : Prop := toneOctavesUptoRow.holds Tryd.pinned (OpenSpec.upto toneOctavesSpec)

/-- 'clavecinlaw02.ToneMakes', WHERE WHAT IT READS IS OF BULK AT MOST 1048576: true; the input reads as it did. -/
def toneMakesUptoRow : OpenClaim := { program := "ytgdgdaofmjnepaadoor", sum := "31de931c2194dcaa54d91daeb9e6dee36a413c7df22de3f5a6057d0746c6c0c8", func := "clavecin/clavecinlaw02.ToneMakes", spec := "toneMakes", inPlace := ["internal/abi.NoEscape", "internal/bytealg.MakeNoZero"], unfollowed := true, recurses := true, named := ["internal/strconv.uint64pow10", "math/bits.deBruijn32tab", "math/bits.deBruijn64tab"], apart := false, laid := [("math/bits.deBruijn32tab", laid_math_bits_deBruijn32tab), ("math/bits.deBruijn64tab", laid_math_bits_deBruijn64tab), ("internal/strconv.uint64pow10", laid_internal_strconv_uint64pow10)], narrowed := true }
def ToneMakesUptoSaid : Prop := toneMakesUptoRow.holds Tryd.pinned (OpenSpec.upto toneMakesSpec)

/-- 'clavecinlaw02.ToneCommas', WHERE WHAT IT READS IS OF BULK AT MOST 1048576: true; the input reads as it did. -/
def toneCommasUptoRow : OpenClaim := { program := "ytgdgdaofmjnepaadoor", sum := "31de931c2194dcaa54d91daeb9e6dee36a413c7df22de3f5a6057d0746c6c0c8", func := "clavecin/clavecinlaw02.ToneCommas", spec := "toneCommas", inPlace := ["internal/abi.NoEscape", "internal/bytealg.MakeNoZero"], unfollowed := true, recurses := true, named := ["internal/strconv.uint64pow10", "math/bits.deBruijn32tab", "math/bits.deBruijn64tab"], apart := false, laid := [("math/bits.deBruijn32tab", laid_math_bits_deBruijn32tab), ("math/bits.deBruijn64tab", laid_math_bits_deBruijn64tab), ("internal/strconv.uint64pow10", laid_internal_strconv_uint64pow10)], narrowed := true }
def ToneCommasUptoSaid : Prop := toneCommasUptoRow.holds Tryd.pinned (OpenSpec.upto toneCommasSpec)

/-- 'clavecinlaw02.ToneOrder', WHERE WHAT IT READS IS OF BULK AT MOST 1048576: true; the input reads as it did. -/
def toneOrderUptoRow : OpenClaim := { program := "ytgdgdaofmjnepaadoor", sum := "31de931c2194dcaa54d91daeb9e6dee36a413c7df22de3f5a6057d0746c6c0c8", func := "clavecin/clavecinlaw02.ToneOrder", spec := "toneOrder", inPlace := ["internal/abi.NoEscape", "internal/bytealg.MakeNoZero"], unfollowed := true, recurses := true, named := ["internal/strconv.uint64pow10", "math/bits.deBruijn32tab", "math/bits.deBruijn64tab"], apart := false, laid := [("math/bits.deBruijn32tab", laid_math_bits_deBruijn32tab), ("math/bits.deBruijn64tab", laid_math_bits_deBruijn64tab), ("internal/strconv.uint64pow10", laid_internal_strconv_uint64pow10)], narrowed := true }
def ToneOrderUptoSaid : Prop := toneOrderUptoRow.holds Tryd.pinned (OpenSpec.upto toneOrderSpec)

/-- 'clavecinlaw02.ToneFolded', WHERE WHAT IT READS IS OF BULK AT MOST 1048576: true; the input reads as it did. -/
def toneFoldedUptoRow : OpenClaim := { program := "ytgdgdaofmjnepaadoor", sum := "31de931c2194dcaa54d91daeb9e6dee36a413c7df22de3f5a6057d0746c6c0c8", func := "clavecin/clavecinlaw02.ToneFolded", spec := "toneFolded", inPlace := ["internal/abi.NoEscape", "internal/bytealg.MakeNoZero"], unfollowed := true, recurses := true, named := ["internal/strconv.uint64pow10", "math/bits.deBruijn32tab", "math/bits.deBruijn64tab"], apart := false, laid := [("math/bits.deBruijn32tab", laid_math_bits_deBruijn32tab), ("math/bits.deBruijn64tab", laid_math_bits_deBruijn64tab), ("internal/strconv.uint64pow10", laid_internal_strconv_uint64pow10)], narrowed := true }
def ToneFoldedUptoSaid : Prop := toneFoldedUptoRow.holds Tryd.pinned (OpenSpec.upto toneFoldedSpec)

/-- 'clavecinlaw02.ToneFareys', WHERE WHAT IT READS IS OF BULK AT MOST 1048576: true; the input reads as it did. -/
def toneFareysUptoRow : OpenClaim := { program := "ytgdgdaofmjnepaadoor", sum := "31de931c2194dcaa54d91daeb9e6dee36a413c7df22de3f5a6057d0746c6c0c8", func := "clavecin/clavecinlaw02.ToneFareys", spec := "toneFareys", inPlace := ["internal/abi.NoEscape", "internal/bytealg.MakeNoZero"], unfollowed := true, recurses := true, named := ["internal/strconv.uint64pow10", "math/bits.deBruijn32tab", "math/bits.deBruijn64tab"], apart := false, laid := [("math/bits.deBruijn32tab", laid_math_bits_deBruijn32tab), ("math/bits.deBruijn64tab", laid_math_bits_deBruijn64tab), ("internal/strconv.uint64pow10", laid_internal_strconv_uint64pow10)], narrowed := true }
def ToneFareysUptoSaid : Prop := toneFareysUptoRow.holds Tryd.pinned (OpenSpec.upto toneFareysSpec)

/-- 'clavecinlaw02.ToneNext', WHERE WHAT IT READS IS OF BULK AT MOST 1048576: true; the input reads as it did. -/
def toneNextUptoRow : OpenClaim := { program := "ytgdgdaofmjnepaadoor", sum := "31de931c2194dcaa54d91daeb9e6dee36a413c7df22de3f5a6057d0746c6c0c8", func := "clavecin/clavecinlaw02.ToneNext", spec := "toneNext", inPlace := ["internal/abi.NoEscape", "internal/bytealg.MakeNoZero"], unfollowed := true, recurses := true, named := ["internal/strconv.uint64pow10", "math/bits.deBruijn32tab", "math/bits.deBruijn64tab"], apart := false, laid := [("math/bits.deBruijn32tab", laid_math_bits_deBruijn32tab), ("math/bits.deBruijn64tab", laid_math_bits_deBruijn64tab), ("internal/strconv.uint64pow10", laid_internal_strconv_uint64pow10)], narrowed := true }
def ToneNextUptoSaid : Prop := toneNextUptoRow.holds Tryd.pinned (OpenSpec.upto toneNextSpec)

/-- 'clavecinlaw02.ToneDivides', WHERE WHAT IT READS IS OF BULK AT MOST 1048576: true; the input reads as it did. -/
def toneDividesUptoRow : OpenClaim := { program := "ytgdgdaofmjnepaadoor", sum := "31de931c2194dcaa54d91daeb9e6dee36a413c7df22de3f5a6057d0746c6c0c8", func := "clavecin/clavecinlaw02.ToneDivides", spec := "toneDivides", inPlace := ["internal/abi.NoEscape", "internal/bytealg.MakeNoZero"], unfollowed := true, recurses := true, named := ["internal/strconv.uint64pow10", "math/bits.deBruijn32tab", "math/bits.deBruijn64tab"], apart := false, laid := [("math/bits.deBruijn32tab", laid_math_bits_deBruijn32tab), ("math/bits.deBruijn64tab", laid_math_bits_deBruijn64tab), ("internal/strconv.uint64pow10", laid_internal_strconv_uint64pow10)], narrowed := true }
def ToneDividesUptoSaid : Prop := toneDividesUptoRow.holds Tryd.pinned (OpenSpec.upto toneDividesSpec)

/-- 'clavecinlaw02.ToneNear', WHERE WHAT IT READS IS OF BULK AT MOST 1048576: true; the input reads as it did. -/
def toneNearUptoRow : OpenClaim := { program := "ytgdgdaofmjnepaadoor", sum := "31de931c2194dcaa54d91daeb9e6dee36a413c7df22de3f5a6057d0746c6c0c8", func := "clavecin/clavecinlaw02.ToneNear", spec := "toneNear", inPlace := ["internal/abi.NoEscape", "internal/bytealg.MakeNoZero"], unfollowed := true, recurses := true, named := ["internal/strconv.uint64pow10", "math/bits.deBruijn32tab", "math/bits.deBruijn64tab"], apart := false, laid := [("math/bits.deBruijn32tab", laid_math_bits_deBruijn32tab), ("math/bits.deBruijn64tab", laid_math_bits_deBruijn64tab), ("internal/strconv.uint64pow10", laid_internal_strconv_uint64pow10)], narrowed := true }
def ToneNearUptoSaid : Prop := toneNearUptoRow.holds Tryd.pinned (OpenSpec.upto toneNearSpec)

/-- 'clavecinlaw02.ToneFreqs', WHERE WHAT IT READS IS OF BULK AT MOST 1048576: true; the input reads as it did. -/
def toneFreqsUptoRow : OpenClaim := { program := "ytgdgdaofmjnepaadoor", sum := "31de931c2194dcaa54d91daeb9e6dee36a413c7df22de3f5a6057d0746c6c0c8", func := "clavecin/clavecinlaw02.ToneFreqs", spec := "toneFreqs", inPlace := ["internal/abi.NoEscape", "internal/bytealg.MakeNoZero"], unfollowed := true, recurses := true, named := ["internal/strconv.uint64pow10", "math/bits.deBruijn32tab", "math/bits.deBruijn64tab"], apart := false, laid := [("math/bits.deBruijn32tab", laid_math_bits_deBruijn32tab), ("math/bits.deBruijn64tab", laid_math_bits_deBruijn64tab), ("internal/strconv.uint64pow10", laid_internal_strconv_uint64pow10)], narrowed := true }
def ToneFreqsUptoSaid : Prop := toneFreqsUptoRow.holds Tryd.pinned (OpenSpec.upto toneFreqsSpec)

/-- 'clavecinlaw02.ToneExact', WHERE WHAT IT READS IS OF BULK AT MOST 1048576: true; the input reads as it did. -/
def toneExactUptoRow : OpenClaim := { program := "ytgdgdaofmjnepaadoor", sum := "31de931c2194dcaa54d91daeb9e6dee36a413c7df22de3f5a6057d0746c6c0c8", func := "clavecin/clavecinlaw02.ToneExact", spec := "toneExact", inPlace := ["internal/abi.NoEscape", "internal/bytealg.MakeNoZero"], unfollowed := true, recurses := true, named := ["internal/strconv.uint64pow10", "math/bits.deBruijn32tab", "math/bits.deBruijn64tab"], apart := false, laid := [("math/bits.deBruijn32tab", laid_math_bits_deBruijn32tab), ("math/bits.deBruijn64tab", laid_math_bits_deBruijn64tab), ("internal/strconv.uint64pow10", laid_internal_strconv_uint64pow10)], narrowed := true }
def ToneExactUptoSaid : Prop := toneExactUptoRow.holds Tryd.pinned (OpenSpec.upto toneExactSpec)

/-- 'clavecinlaw02.ToneBack', WHERE WHAT IT READS IS OF BULK AT MOST 1048576: true; the input reads as it did. -/
def toneBackUptoRow : OpenClaim := { program := "ytgdgdaofmjnepaadoor", sum := "31de931c2194dcaa54d91daeb9e6dee36a413c7df22de3f5a6057d0746c6c0c8", func := "clavecin/clavecinlaw02.ToneBack", spec := "toneBack", inPlace := ["internal/abi.NoEscape", "internal/bytealg.MakeNoZero", "internal/bytealg.IndexByteString", "internal/bytealg.IndexString", "internal/bytealg.CountString"], unfollowed := true, recurses := true, named := ["internal/strconv.uint64pow10", "math/bits.deBruijn32tab", "math/bits.deBruijn64tab", "internal/bytealg.MaxLen", "unicode/utf8.first", "unicode/utf8.acceptRanges", "strconv.ErrSyntax", "strconv.ErrRange"], apart := false, laid := [("math/bits.deBruijn32tab", laid_math_bits_deBruijn32tab), ("math/bits.deBruijn64tab", laid_math_bits_deBruijn64tab), ("internal/strconv.uint64pow10", laid_internal_strconv_uint64pow10), ("unicode/utf8.acceptRanges", laid_unicode_utf8_acceptRanges), ("strconv.ErrRange", laid_strconv_ErrRange), ("strconv.ErrSyntax", laid_strconv_ErrSyntax), ("unicode/utf8.first", laid_unicode_utf8_first)], narrowed := true }
def ToneBackUptoSaid : Prop := toneBackUptoRow.holds Tryd.pinned (OpenSpec.upto toneBackSpec)

end Rows
end Go.Proofs.YtgdgdaofmjnepaaDoor
