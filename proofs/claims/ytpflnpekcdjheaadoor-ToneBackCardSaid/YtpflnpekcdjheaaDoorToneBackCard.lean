/- ToneBack: whatever comes in, the law returns true and its arguments read as before. -/
import Derived.Test.YtpflnpekcdjheaaDoorRows
import Derived.Test.YtpflnpekcdjheaaDoorCards
import Derived.Test.YtpflnpekcdjheaaDoorTie
import Derived.Deep.DeepHandedRow
import Derived.Lib.LaidTab
import Derived.Test.YtpflnpekcdjheaaDoorWBack
import Derived.Test.YtpflnpekcdjheaaDoorBackDoor
import Derived.WalkKit
import Derived.ProofKit
import Derived.OpenShut
import Derived.ShutString
import Derived.ChangeOld
import Derived.Below
import Derived.Lib.SmallJoins
namespace Go.Proofs.YtpflnpekcdjheaaDoor.toneBack
open Go.ChangeShapes Go.WideShapes Go.ChangeAt Go.RowKit Go.Joins Go.Deep
open Go.ChangeMaps (open_string shut_string)
set_option linter.unusedVariables false
set_option linter.unusedSimpArgs false

theorem own : ownKnob Tryd.prog.godebug = none := by kernel_rfl
theorem laidOut : laidOutB Tryd.prog = true := by kernel_rfl

/-- a slice of integers that came in: nil, or a row of cells -/
def IsRow (k : IntKind) (w : World) (a : Option Addr) (len cap : Nat) (zs : List Int) : Prop :=
  (a = none ∧ len = 0 ∧ cap = 0 ∧ zs = []) ∨
  ∃ x, a = some x ∧ len ≤ cap ∧ cap ≤ maxLen ∧ zs.length = cap ∧ (∀ i, i < zs.length → w.cell? (x.add i) = some (.int k (zs.getD i 0))) ∧ ∀ n ∈ zs, (Lit.int k n).wf = true

theorem walk (a0_0 : Int) (a0_1 : Int) (a0_2 : Int) (a0_3 : Int) (w : World) (w0_0 : (Lit.int .i64 a0_0).wf = true) (w0_1 : (Lit.int .i64 a0_1).wf = true) (w0_2 : (Lit.int .i64 a0_2).wf = true) (w0_3 : (Lit.int .i64 a0_3).wf = true) (hL : laidMetH Tryd.prog Rows.toneBackRow.laid w) (hsh : w.ShapedOpen Tryd.prog) :
    Calls Tryd.prog 3 #[.agg #[.int .i64 a0_0, .int .i64 a0_1, .int .i64 a0_2, .int .i64 a0_3]] w fun e w' => e = .returned (.bool true) ∧ Below w.heap.size w w' := by
  have f : ∀ n : Int, (Lit.int .i64 n).wf = true → i64 n := by
    intro n h
    simp [Lit.wf, IntKind.min, IntKind.max, IntKind.signed, IntKind.bits] at h
    unfold i64
    omega
  exact walk_back ⟨a0_0, a0_1, a0_2, a0_3⟩ w ⟨f _ w0_0, f _ w0_1, f _ w0_2, f _ w0_3⟩ (tab_of hL) (glob_of hL hsh)

/-- a table as cells -/
def rowCells : DataW Unit → List Value
  | .lit (.int k n) => [.int k n]
  | .agg ds => ds.map fun d => match d with | .lit (.int k n) => Value.int k n | _ => undef
  | _ => []
def tabCells : DataW Unit → Array Value
  | .agg ds => (ds.flatMap rowCells).toArray
  | _ => #[]

def layTab (cs : Array Value) : Obj → Obj
  | .cells _ t frozen => .cells cs t frozen
  | o => o

/-- so many blocks has the settled world -/
noncomputable def low : Nat := (World.holding Tryd.prog default ⟨#[], #[], []⟩).heap.size
/-- the world of the witness: the tables laid, the two errors in blocks of their own -/
noncomputable def heldWorld (os : Os) : World :=
  World.holding Tryd.prog os ⟨#[.cells #[.string ⟨#[105, 110, 118, 97, 108, 105, 100, 32, 115, 121, 110, 116, 97, 120]⟩] 126, .cells #[.string ⟨#[118, 97, 108, 117, 101, 32, 111, 117, 116, 32, 111, 102, 32, 114, 97, 110, 103, 101]⟩] 126], #[], []⟩
noncomputable def laidWorld (os : Os) : World :=
  { heldWorld os with heap := (((((((heldWorld os).heap.modify 3 (layTab (tabCells Rows.laid_internal_strconv_uint64pow10))).modify 6 (layTab (tabCells Rows.laid_math_bits_deBruijn32tab))).modify 7 (layTab (tabCells Rows.laid_math_bits_deBruijn64tab))).modify 5 (layTab (tabCells Rows.laid_unicode_utf8_acceptRanges))).modify 4 (layTab (tabCells Rows.laid_unicode_utf8_first))).modify 1 (layTab #[.iface 124 (.pointer (some ⟨low, 0, none⟩))])).modify 2 (layTab #[.iface 124 (.pointer (some ⟨low + 1, 0, none⟩))]) }

theorem laid_met (os : Os) : laidMet Tryd.prog Rows.toneBackRow.laid ((laidWorld os).forCall (fun _ _ => 0) ⟨#[], #[.agg #[.int .i64 0, .int .i64 0, .int .i64 0, .int .i64 0]], []⟩).memory :=
  laidMet_of_run' 8 (by kernel_rfl) (by kernel_rfl)
theorem reads (os : Os) {H : Type} (enc : TypeId × Value → H) : ∃ ds places, DataW.whole enc Tryd.prog ((laidWorld os).forCall (fun _ _ => 0) ⟨#[], #[.agg #[.int .i64 0, .int .i64 0, .int .i64 0, .int .i64 0]], []⟩).memory Tryd.f3.params.toList Rows.toneBackSpec.vars false #[.agg #[.int .i64 0, .int .i64 0, .int .i64 0, .int .i64 0]].toList 8 = some (ds, [], places) :=
  ⟨[.agg [.lit (.int .i64 0), .lit (.int .i64 0), .lit (.int .i64 0), .lit (.int .i64 0)]], [], by kernel_rfl⟩

set_option maxRecDepth 100000 in
theorem lifted (os : Os) (started : os.Started) (H : Type) (enc : TypeId × Value → H) (F : Stop.Interp) :
    ReturnsInHanded {} Tryd.checked os 3 .any ((OpenSpec.ofChange Rows.toneBackSpec).preRow enc Tryd.prog Tryd.f3 Rows.toneBackRow.domain false Rows.toneBackRow.laid) (((OpenSpec.ofChange Rows.toneBackSpec).at F).post enc Tryd.prog Tryd.f3 false true false false) := by
  obtain ⟨ds0, places, hx⟩ := reads os enc
  refine returnsInHanded_of_row (C := Tryd.checked) (s := OpenSpec.ofChange Rows.toneBackSpec) own started (by kernel_rfl) Tryd.func3
    (witness_row_at (enc := enc) (C := Tryd.checked) false (laidWorld os) #[.agg #[.int .i64 0, .int .i64 0, .int .i64 0, .int .i64 0]] rfl (by kernel_rfl) (by kernel_rfl) (by kernel_rfl)
      (OpenSpec.preRow_of_cond 8 hx (by kernel_rfl) (fun k hk => by cases hk) (by kernel_rfl) (laid_met os))) ?_
  intro W base args ds gs before hval0 hW hcnd _ _ hL hsh _
  have hval : ∀ (j : Nat) t v, Tryd.f3.params[j]? = some t → args[j]? = some v → Value.okWide Tryd.prog W .any base t v := hval0
  have hW' := hW
  obtain ⟨p, q, hA0, hV, rfl, hfz, hnd⟩ := hW
  have hA : DataW.TrodAll enc Tryd.prog W 0 (fun _ => true) true Tryd.f3.params.toList args.toList ds p := hA0
  rw [Tryd.params3] at hA hval
  obtain ⟨v0, vs0, d0, ds0, p0, q0, hargs, rfl, rfl, h0, r0⟩ := trodAll_cons hA
  obtain ⟨rfl, rfl, rfl⟩ := trodAll_nil r0
  obtain rfl : args = #[v0] := by cases args; simp_all
  obtain ⟨rfl, rfl⟩ := trodVars_none hV
  have k0 := h0
  have lt0 : ∀ x ∈ p0, x.block < W.heap.size := by obtain ⟨m, hm⟩ := k0; exact DataW.trod_lt m _ _ _ hm
  obtain ⟨c0_0, c0_1, c0_2, c0_3, y0_0, y0_1, y0_2, y0_3, n0, rfl, _, _, e0_0, e0_1, e0_2, e0_3⟩ := open_agg4 Tryd.underlying23 (by kernel_rfl) (by kernel_rfl) (hval 0 23 v0 rfl rfl) h0
  obtain ⟨a0_0, hc0_0, _, w0_0⟩ := DataW.trod_int Tryd.underlying3 e0_0
  obtain rfl : c0_0 = .int .i64 a0_0 := by simpa using hc0_0
  obtain ⟨a0_1, hc0_1, _, w0_1⟩ := DataW.trod_int Tryd.underlying3 e0_1
  obtain rfl : c0_1 = .int .i64 a0_1 := by simpa using hc0_1
  obtain ⟨a0_2, hc0_2, _, w0_2⟩ := DataW.trod_int Tryd.underlying3 e0_2
  obtain rfl : c0_2 = .int .i64 a0_2 := by simpa using hc0_2
  obtain ⟨a0_3, hc0_3, _, w0_3⟩ := DataW.trod_int Tryd.underlying3 e0_3
  obtain rfl : c0_3 = .int .i64 a0_3 := by simpa using hc0_3
  clear hA0 hval0
  refine (walk a0_0 a0_1 a0_2 a0_3 W w0_0 w0_1 w0_2 w0_3 hL hsh).mono fun e W' ⟨he, bel⟩ => ?_
  subst he
  exact ⟨_, rfl, _, _, _, [], _, [], hW', trodAll_mk1 (shut_bool Tryd.underlying4 _), (trodAll_cons_mk (Below.trod laidOut (by kernel_rfl) (of_decide_eq_true (by kernel_rfl)) k0 bel lt0) trodAll_mk0), rfl, bel.frame _, fun h => by cases h⟩

set_option maxHeartbeats 8000000 in
theorem closed : joinedFacts Tryd.pinned.checked.prog 3 Tryd.f3 (OpenSpec.ofChange Rows.toneBackSpec).bare Rows.toneBackRow = true := by
  unfold joinedFacts
  simp only [Bool.and_eq_true]
  refine ⟨⟨⟨⟨⟨⟨⟨⟨⟨⟨⟨⟨⟨⟨⟨⟨⟨⟨⟨⟨⟨⟨⟨⟨⟨⟨⟨⟨⟨⟨⟨?_, door_laid⟩, door_maps⟩, ?_⟩, ?_⟩, ?_⟩, door_stops⟩, ?_⟩, door_knobs⟩, ?_⟩, ?_⟩, ?_⟩, ?_⟩, ?_⟩, ?_⟩, ?_⟩, ?_⟩, ?_⟩, ?_⟩, ?_⟩, ?_⟩, ?_⟩, ?_⟩, ?_⟩, door_heard⟩, door_enter⟩, door_lifts⟩, door_make⟩, ?_⟩, ?_⟩, ?_⟩, ?_⟩
  all_goals (as_aux_lemma => kernel_rfl)
theorem named : Tryd.pinned.checked.prog.funcNamed Rows.toneBackRow.func = some 3 := by kernel_rfl
theorem instanceOf : Tryd.f3.isInstance Tryd.pinned.checked.prog Rows.toneBackRow.origin Rows.toneBackRow.targs := of_decide_eq_true (by kernel_rfl)
theorem wrapperOf : Tryd.f3.isWrapper Tryd.pinned.checked.prog Rows.toneBackRow.wrapper Rows.toneBackRow.mainSum := by
  unfold Func.isWrapper
  first
  | (rw [if_pos (by decide +kernel)]; kernel_rfl)
  | (rw [if_neg (by decide +kernel)]; exact ⟨rfl, rfl⟩)

theorem said : Rows.ToneBackSaid :=
  OpenClaim.holds_of_cond 3 Tryd.f3 rfl rfl rfl rfl rfl rfl rfl ⟨rfl, rfl, rfl, rfl, rfl⟩ rfl rfl rfl rfl rfl named Tryd.func3 closed instanceOf wrapperOf
    (fun os started H enc _ F => by rw [OpenClaim.pre_eq_preRow]; exact lifted os started H enc F)

/-- No parameter wants a stand-in: what the card asks. -/
theorem plain (f : FuncId) (fn : Func) (hf : Tryd.pinned.checked.prog.funcNamed "clavecin/clavecinlaw02.ToneBack" = some f) (hfn : Tryd.pinned.checked.prog.funcs[f]? = some fn) :
    true = Tryd.pinned.checked.prog.looks [] ∧ ∀ (j : Nat) t, fn.params[j]? = some t → Tryd.pinned.checked.prog.wantsStandIn t = false := by
  obtain rfl : f = 3 := Option.some.inj (named.symm.trans hf) |>.symm
  obtain rfl : fn = Tryd.f3 := (Option.some.inj (Tryd.func3.symm.trans hfn)).symm
  refine ⟨door_looks, fun j t ht => ?_⟩
  rw [Tryd.params3] at ht
  have hm : t ∈ [23] := by simpa using Array.mem_of_getElem? ht
  have hall : ([23].all fun u => !Tryd.prog.wantsStandIn u) = true := by as_aux_lemma => kernel_rfl
  have hm2 : t ∈ [23] := by simpa using hm
  exact (show Tryd.prog.wantsStandIn t = false by simpa using List.all_eq_true.1 hall t hm2)

theorem wordText : Rows.toneBackRow.wfByText (OpenSpec.ofChange Rows.toneBackSpec) = true := by kernel_rfl
theorem mainOf : Tryd.pinned.checked.prog.mainIs = some (Rows.toneBackCard.stood.harness.1, Rows.toneBackCard.stood.harness.2.toList) := by kernel_rfl
theorem goes : false = Rows.toneBackRow.goesBy Tryd.pinned.checked.prog := by kernel_rfl

/-- the given card -/
theorem proved : Rows.ToneBackCardSaid :=
  Claim7.holds_tied_plain_at .later [] _ _ _ _ said (fun _ h => by cases h) wordText (fun _ h => by cases h) toneBack_row_tie rfl ⟨rfl, rfl⟩ mainOf rfl plain goes
#print axioms proved
end Go.Proofs.YtpflnpekcdjheaaDoor.toneBack
