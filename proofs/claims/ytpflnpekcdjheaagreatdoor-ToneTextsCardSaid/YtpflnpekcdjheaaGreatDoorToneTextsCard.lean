/- ToneTexts: whatever comes in, the law returns true and its arguments read as before. -/
import Derived.Test.YtpflnpekcdjheaaGreatDoorRows
import Derived.Test.YtpflnpekcdjheaaGreatDoorCards
import Derived.Test.YtpflnpekcdjheaaGreatDoorTie
import Derived.Deep.DeepHandedRow
import Derived.Lib.LaidTab
import Derived.Test.YtpflnpekcdjheaaGreatDoorWTTexts
import Derived.Test.YtpflnpekcdjheaaGreatDoorBackDoor
import Derived.WalkKit
import Derived.ProofKit
import Derived.OpenShut
import Derived.ShutString
import Derived.ChangeOld
import Derived.Below
import Derived.Lib.SmallJoins
namespace Go.Proofs.YtpflnpekcdjheaaGreatDoor.toneTexts
open Go.ChangeShapes Go.WideShapes Go.ChangeAt Go.RowKit Go.Joins Go.Deep
open Go.ChangeMaps (open_string shut_string)
set_option linter.unusedVariables false
set_option linter.unusedSimpArgs false

theorem own : ownKnob Tryz.prog.godebug = none := by kernel_rfl
theorem laidOut : laidOutB Tryz.prog = true := by kernel_rfl

/-- a slice of integers that came in: nil, or a row of cells -/
def IsRow (k : IntKind) (w : World) (a : Option Addr) (len cap : Nat) (zs : List Int) : Prop :=
  (a = none ∧ len = 0 ∧ cap = 0 ∧ zs = []) ∨
  ∃ x, a = some x ∧ len ≤ cap ∧ cap ≤ maxLen ∧ zs.length = cap ∧ (∀ i, i < zs.length → w.cell? (x.add i) = some (.int k (zs.getD i 0))) ∧ ∀ n ∈ zs, (Lit.int k n).wf = true

theorem walk (a0 : ByteArray) (a1_0 : Int) (a1_1 : Int) (a1_2 : Int) (a1_3 : Int) (w : World) (w0 : a0.size ≤ maxLen) (w1_0 : (Lit.int .i64 a1_0).wf = true) (w1_1 : (Lit.int .i64 a1_1).wf = true) (w1_2 : (Lit.int .i64 a1_2).wf = true) (w1_3 : (Lit.int .i64 a1_3).wf = true) (hL : laidMetH Tryz.prog Rows.toneTextsRow.laid w) (hsh : w.ShapedOpen Tryz.prog) :
    Calls Tryz.prog 3 #[.string a0, .agg #[.int .i64 a1_0, .int .i64 a1_1, .int .i64 a1_2, .int .i64 a1_3]] w fun e w' => e = .returned (.bool true) ∧ Below w.heap.size w w' := by
  have f : ∀ n : Int, (Lit.int .i64 n).wf = true → i64 n := by
    intro n h
    simp [Lit.wf, IntKind.min, IntKind.max, IntKind.signed, IntKind.bits] at h
    unfold i64
    omega
  exact walk_ttexts a0 ⟨a1_0, a1_1, a1_2, a1_3⟩ w w0 ⟨f _ w1_0, f _ w1_1, f _ w1_2, f _ w1_3⟩ (tab_of hL) (glob_of hL hsh)

/-- a table as cells -/
def rowCells : DataW Unit → List Value
  | .lit (.int k n) => [.int k n]
  | .agg ds => ds.map fun d => match d with | .lit (.int k n) => Value.int k n | _ => undef
  | _ => []
def tabCells : DataW Unit → Array Value
  | .agg ds => (ds.flatMap rowCells).toArray
  | _ => #[]

def layTab (cs : Array Value) : Obj → Obj
  | .cells _ t frozen => .cells cs t frozen
  | o => o

/-- so many blocks has the settled world -/
noncomputable def low : Nat := (World.holding Tryz.prog default ⟨#[], #[], []⟩).heap.size
/-- the world of the witness: the tables laid, the two errors in blocks of their own -/
noncomputable def heldWorld (os : Os) : World :=
  World.holding Tryz.prog os ⟨#[.cells #[.string ⟨#[105, 110, 118, 97, 108, 105, 100, 32, 115, 121, 110, 116, 97, 120]⟩] 130, .cells #[.string ⟨#[118, 97, 108, 117, 101, 32, 111, 117, 116, 32, 111, 102, 32, 114, 97, 110, 103, 101]⟩] 130], #[], []⟩
noncomputable def laidWorld (os : Os) : World :=
  { heldWorld os with heap := (((((((heldWorld os).heap.modify 3 (layTab (tabCells Rows.laid_internal_strconv_uint64pow10))).modify 6 (layTab (tabCells Rows.laid_math_bits_deBruijn32tab))).modify 7 (layTab (tabCells Rows.laid_math_bits_deBruijn64tab))).modify 5 (layTab (tabCells Rows.laid_unicode_utf8_acceptRanges))).modify 4 (layTab (tabCells Rows.laid_unicode_utf8_first))).modify 1 (layTab #[.iface 128 (.pointer (some ⟨low, 0, none⟩))])).modify 2 (layTab #[.iface 128 (.pointer (some ⟨low + 1, 0, none⟩))]) }

theorem laid_met (os : Os) : laidMet Tryz.prog Rows.toneTextsRow.laid ((laidWorld os).forCall (fun _ _ => 0) ⟨#[], #[.string ByteArray.empty, .agg #[.int .i64 0, .int .i64 0, .int .i64 0, .int .i64 0]], []⟩).memory :=
  laidMet_of_run' 8 (by kernel_rfl) (by kernel_rfl)
theorem reads (os : Os) {H : Type} (enc : TypeId × Value → H) : ∃ ds places, DataW.whole enc Tryz.prog ((laidWorld os).forCall (fun _ _ => 0) ⟨#[], #[.string ByteArray.empty, .agg #[.int .i64 0, .int .i64 0, .int .i64 0, .int .i64 0]], []⟩).memory Tryz.f3.params.toList Rows.toneTextsSpec.vars false #[.string ByteArray.empty, .agg #[.int .i64 0, .int .i64 0, .int .i64 0, .int .i64 0]].toList 8 = some (ds, [], places) :=
  ⟨[.lit (.string []), .agg [.lit (.int .i64 0), .lit (.int .i64 0), .lit (.int .i64 0), .lit (.int .i64 0)]], [], by kernel_rfl⟩

set_option maxRecDepth 100000 in
theorem lifted (os : Os) (started : os.Started) (H : Type) (enc : TypeId × Value → H) (F : Stop.Interp) :
    ReturnsInHanded {} Tryz.checked os 3 .any ((OpenSpec.ofChange Rows.toneTextsSpec).preRow enc Tryz.prog Tryz.f3 Rows.toneTextsRow.domain false Rows.toneTextsRow.laid) (((OpenSpec.ofChange Rows.toneTextsSpec).at F).post enc Tryz.prog Tryz.f3 false true false false) := by
  obtain ⟨ds0, places, hx⟩ := reads os enc
  refine returnsInHanded_of_row (C := Tryz.checked) (s := OpenSpec.ofChange Rows.toneTextsSpec) own started (by kernel_rfl) Tryz.func3
    (witness_row_at (enc := enc) (C := Tryz.checked) false (laidWorld os) #[.string ByteArray.empty, .agg #[.int .i64 0, .int .i64 0, .int .i64 0, .int .i64 0]] rfl (by kernel_rfl) (by kernel_rfl) (by kernel_rfl)
      (OpenSpec.preRow_of_cond 8 hx (by kernel_rfl) (fun k hk => by cases hk) (by kernel_rfl) (laid_met os))) ?_
  intro W base args ds gs before hval0 hW hcnd _ _ hL hsh _
  have hval : ∀ (j : Nat) t v, Tryz.f3.params[j]? = some t → args[j]? = some v → Value.okWide Tryz.prog W .any base t v := hval0
  have hW' := hW
  obtain ⟨p, q, hA0, hV, rfl, hfz, hnd⟩ := hW
  have hA : DataW.TrodAll enc Tryz.prog W 0 (fun _ => true) true Tryz.f3.params.toList args.toList ds p := hA0
  rw [Tryz.params3] at hA hval
  obtain ⟨v0, vs0, d0, ds0, p0, q0, hargs, rfl, rfl, h0, r0⟩ := trodAll_cons hA
  obtain ⟨v1, vs1, d1, ds1, p1, q1, rfl, rfl, rfl, h1, r1⟩ := trodAll_cons r0
  obtain ⟨rfl, rfl, rfl⟩ := trodAll_nil r1
  obtain rfl : args = #[v0, v1] := by cases args; simp_all
  obtain ⟨rfl, rfl⟩ := trodVars_none hV
  obtain ⟨a0, rfl, rfl, rfl, w0⟩ := open_string Tryz.underlying9 (hval 0 9 v0 rfl rfl) h0
  have k1 := h1
  have lt1 : ∀ x ∈ p1, x.block < W.heap.size := by obtain ⟨m, hm⟩ := k1; exact DataW.trod_lt m _ _ _ hm
  obtain ⟨c1_0, c1_1, c1_2, c1_3, y1_0, y1_1, y1_2, y1_3, n1, rfl, _, _, e1_0, e1_1, e1_2, e1_3⟩ := open_agg4 Tryz.underlying23 (by kernel_rfl) (by kernel_rfl) (hval 1 23 v1 rfl rfl) h1
  obtain ⟨a1_0, hc1_0, _, w1_0⟩ := DataW.trod_int Tryz.underlying3 e1_0
  obtain rfl : c1_0 = .int .i64 a1_0 := by simpa using hc1_0
  obtain ⟨a1_1, hc1_1, _, w1_1⟩ := DataW.trod_int Tryz.underlying3 e1_1
  obtain rfl : c1_1 = .int .i64 a1_1 := by simpa using hc1_1
  obtain ⟨a1_2, hc1_2, _, w1_2⟩ := DataW.trod_int Tryz.underlying3 e1_2
  obtain rfl : c1_2 = .int .i64 a1_2 := by simpa using hc1_2
  obtain ⟨a1_3, hc1_3, _, w1_3⟩ := DataW.trod_int Tryz.underlying3 e1_3
  obtain rfl : c1_3 = .int .i64 a1_3 := by simpa using hc1_3
  clear hA0 hval0
  refine (walk a0 a1_0 a1_1 a1_2 a1_3 W w0 w1_0 w1_1 w1_2 w1_3 hL hsh).mono fun e W' ⟨he, bel⟩ => ?_
  subst he
  exact ⟨_, rfl, _, _, _, [], _, [], hW', trodAll_mk1 (shut_bool Tryz.underlying4 _), (trodAll_cons_mk (shut_string Tryz.underlying9 w0) (trodAll_cons_mk (Below.trod laidOut (by kernel_rfl) (of_decide_eq_true (by kernel_rfl)) k1 bel lt1) trodAll_mk0)), rfl, bel.frame _, fun h => by cases h⟩

set_option maxHeartbeats 8000000 in
theorem closed : joinedFacts Tryz.pinned.checked.prog 3 Tryz.f3 (OpenSpec.ofChange Rows.toneTextsSpec).bare Rows.toneTextsRow = true := by
  unfold joinedFacts
  simp only [Bool.and_eq_true]
  refine ⟨⟨⟨⟨⟨⟨⟨⟨⟨⟨⟨⟨⟨⟨⟨⟨⟨⟨⟨⟨⟨⟨⟨⟨⟨⟨⟨⟨⟨⟨⟨?_, door_laid⟩, door_maps⟩, ?_⟩, ?_⟩, ?_⟩, door_stops⟩, ?_⟩, door_knobs⟩, ?_⟩, ?_⟩, ?_⟩, ?_⟩, ?_⟩, ?_⟩, ?_⟩, ?_⟩, ?_⟩, ?_⟩, ?_⟩, ?_⟩, ?_⟩, ?_⟩, ?_⟩, door_heard⟩, door_enter⟩, door_lifts⟩, door_make⟩, ?_⟩, ?_⟩, ?_⟩, ?_⟩
  all_goals (as_aux_lemma => kernel_rfl)
theorem named : Tryz.pinned.checked.prog.funcNamed Rows.toneTextsRow.func = some 3 := by kernel_rfl
theorem instanceOf : Tryz.f3.isInstance Tryz.pinned.checked.prog Rows.toneTextsRow.origin Rows.toneTextsRow.targs := of_decide_eq_true (by kernel_rfl)
theorem wrapperOf : Tryz.f3.isWrapper Tryz.pinned.checked.prog Rows.toneTextsRow.wrapper Rows.toneTextsRow.mainSum := by
  unfold Func.isWrapper
  first
  | (rw [if_pos (by decide +kernel)]; kernel_rfl)
  | (rw [if_neg (by decide +kernel)]; exact ⟨rfl, rfl⟩)

theorem said : Rows.ToneTextsSaid :=
  OpenClaim.holds_of_cond 3 Tryz.f3 rfl rfl rfl rfl rfl rfl rfl ⟨rfl, rfl, rfl, rfl, rfl⟩ rfl rfl rfl rfl rfl named Tryz.func3 closed instanceOf wrapperOf
    (fun os started H enc _ F => by rw [OpenClaim.pre_eq_preRow]; exact lifted os started H enc F)

/-- No parameter wants a stand-in: what the card asks. -/
theorem plain (f : FuncId) (fn : Func) (hf : Tryz.pinned.checked.prog.funcNamed "clavecin/clavecinlaw02.ToneTexts" = some f) (hfn : Tryz.pinned.checked.prog.funcs[f]? = some fn) :
    true = Tryz.pinned.checked.prog.looks [] ∧ ∀ (j : Nat) t, fn.params[j]? = some t → Tryz.pinned.checked.prog.wantsStandIn t = false := by
  obtain rfl : f = 3 := Option.some.inj (named.symm.trans hf) |>.symm
  obtain rfl : fn = Tryz.f3 := (Option.some.inj (Tryz.func3.symm.trans hfn)).symm
  refine ⟨door_looks, fun j t ht => ?_⟩
  rw [Tryz.params3] at ht
  have hm : t ∈ [9, 23] := by simpa using Array.mem_of_getElem? ht
  have hall : ([9, 23].all fun u => !Tryz.prog.wantsStandIn u) = true := by as_aux_lemma => kernel_rfl
  have hm2 : t ∈ [9, 23] := by simpa using hm
  exact (show Tryz.prog.wantsStandIn t = false by simpa using List.all_eq_true.1 hall t hm2)

theorem wordText : Rows.toneTextsRow.wfByText (OpenSpec.ofChange Rows.toneTextsSpec) = true := by kernel_rfl
theorem mainOf : Tryz.pinned.checked.prog.mainIs = some (Rows.toneTextsCard.stood.harness.1, Rows.toneTextsCard.stood.harness.2.toList) := by kernel_rfl
theorem goes : false = Rows.toneTextsRow.goesBy Tryz.pinned.checked.prog := by kernel_rfl

/-- the given card -/
theorem proved : Rows.ToneTextsCardSaid :=
  Claim7.holds_tied_plain_at .later [] _ _ _ _ said (fun _ h => by cases h) wordText (fun _ h => by cases h) toneTexts_row_tie rfl ⟨rfl, rfl⟩ mainOf rfl plain goes
#print axioms proved
end Go.Proofs.YtpflnpekcdjheaaGreatDoor.toneTexts
