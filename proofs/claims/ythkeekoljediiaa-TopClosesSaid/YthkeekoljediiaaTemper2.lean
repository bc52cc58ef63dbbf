/- temper: fifth, stepped, Tones of twelve single steps of a twelfth. -/
import Derived.Test.YthkeekoljediiaaTemper1
import Derived.Test.YthkeekoljediiaaTempLaw
import Derived.Test.YthkeekoljediiaaTRef
import Derived.Test.YthkeekoljediiaaRowsV
open Go.RowKit Go.Deep
namespace Go.Proofs
set_option linter.unusedVariables false
set_option linter.unusedSimpArgs false

def tcl (t : T4) : List Value := [.int .i64 t.a, .int .i64 t.b, .int .i64 t.c, .int .i64 t.d]
theorem tcl_len (t : T4) : (tcl t).length = 4 := rfl
theorem Vals.rdQ {w : World} {b : Nat} {v0 v1 v2 v3 : Value} (h : Vals w b [v0, v1, v2, v3]) : RdV w (some ⟨b, 0, none⟩) 1 1 4 [v0, v1, v2, v3] := by
  refine ⟨rfl, Nat.le_refl _, by unfold maxLen; omega, .inr ⟨b, 0, rfl, fun j u hj => ?_⟩⟩
  have hj2 := (List.getElem?_eq_some_iff.1 hj).1
  have e := h.cell hj2
  rw [Nat.zero_add, e, getD_of hj]
theorem Vals.belowT {w w' : World} {B b : Nat} {vs : List Value} (h : Vals w b vs) (hb : Below B w w') (hB : b < B) : Vals w' b vs := by
  obtain ⟨e, h⟩ := h
  exact ⟨e, (hb.block b hB).trans h⟩
theorem Twelve.belowT {w w' : World} {B b : Nat} {s : Int} (h : Twelve w b s) (hb : Below B w w') (hB : b < B) : Twelve w' b s :=
  fun i hi => (hb.cell (p := ⟨b, i, none⟩) hB).trans (h i hi)
theorem info_tone4 : (Try.prog.info? 37).map (fun i => (i.zero, i.size, i.bytes)) = some (some (.agg #[.int .i64 0, .int .i64 0, .int .i64 0, .int .i64 0]), 4, 32) := by kernel_rfl
/-- the steps in the order of the fifths -/
def row7 (n : Nat) : List T4 := (List.range n).map fun j => tq (7 * j % 12)
theorem row7_succ (n : Nat) : row7 (n + 1) = row7 n ++ [tq (7 * n % 12)] := by simp [row7, List.range_succ]
theorem row7_len (n : Nat) : (row7 n).length = n := by simp [row7]

set_option maxRecDepth 100000 in
theorem fifth_calls (w : World) : Calls Try.prog 47 #[.int .i64 1, .int .i64 12] w (RetT w (tq 7, 0)) := by
  have CM := Lib.hid (fun w : World => (show Calls Try.prog 69 #[.int .i64 0] w (RetT w (⟨-19, 12, 0, 1⟩, 0)) from comma_calls 0 w))
  have PW := fun w : World => powerT_ok ⟨-19, 12, 0, 1⟩ 1 12 w (by decide) (by unfold i64; omega) (by unfold i64; omega) (by omega)
  have DV := fun w : World => divT_ok ⟨-1, 1, 0, 1⟩ ⟨-19, 12, 0, 12⟩ w (by decide) (by decide)
  rw [fifth_pow'] at PW
  rw [fifth_div] at DV
  have HPW := Lib.hid PW
  have HDV := Lib.hid DV
  clear PW DV
  have vr := Vals.newL w (w.heap.size) [.int .i64 0, .int .i64 0, .int .i64 0, .int .i64 0] 37 rfl
  have bb := below_alloc w (.cells #[.int .i64 0, .int .i64 0, .int .i64 0, .int .i64 0] 37)
  have B := bb
  clear bb
  go_enter Try.func47, Try.ntmps47
  go_wp2_with fail
  generalize (w.alloc (.cells #[.int .i64 0, .int .i64 0, .int .i64 0, .int .i64 0] 37)) = w0 at *
  refine (CM.out w0).mono ?_
  rintro e w1 ⟨rfl, b1⟩
  replace vr := vr.mono b1
  replace B := below_trans B b1
  clear b1
  dsimp only
  go_wp2_with fail
  have v6 := Vals.newL w1 w1.heap.size [.int .i64 (-19), .int .i64 12, .int .i64 0, .int .i64 1] 37 rfl
  have bb := below_alloc w1 (.cells #[.int .i64 (-19), .int .i64 12, .int .i64 0, .int .i64 1] 37)
  replace vr := vr.mono bb
  replace B := below_trans B bb
  clear bb
  generalize w1.alloc (.cells #[.int .i64 (-19), .int .i64 12, .int .i64 0, .int .i64 1] 37) = w2 at *
  refine (HPW.out _).mono ?_
  rintro e w3 ⟨rfl, b3⟩
  replace vr := vr.mono b3
  replace v6 := v6.mono b3
  replace B := below_trans B b3
  clear b3
  dsimp only
  go_wp2_with fail
  have v8 := Vals.newL w3 w3.heap.size [.int .i64 (-19), .int .i64 12, .int .i64 0, .int .i64 12] 37 rfl
  have bb := below_alloc w3 (.cells #[.int .i64 (-19), .int .i64 12, .int .i64 0, .int .i64 12] 37)
  replace vr := vr.mono bb
  replace v6 := v6.mono bb
  replace B := below_trans B bb
  clear bb
  generalize w3.alloc (.cells #[.int .i64 (-19), .int .i64 12, .int .i64 0, .int .i64 12] 37) = w4 at *
  refine (HDV.out _).mono ?_
  rintro e w5 ⟨rfl, b5⟩
  replace vr := vr.mono b5
  replace v6 := v6.mono b5
  replace v8 := v8.mono b5
  replace B := below_trans B b5
  clear b5
  dsimp only [tq]
  have cvr0 := vr.cell (i := 0) (by simp)
  have cvr1 := vr.cell (i := 1) (by simp)
  have cvr2 := vr.cell (i := 2) (by simp)
  have cvr3 := vr.cell (i := 3) (by simp)
  simp only [List.getD_cons_zero, List.getD_cons_succ] at cvr0 cvr1 cvr2 cvr3
  have ltvr := vr.lt
  have fvr0 := vr.frozen 0
  have fvr1 := vr.frozen 1
  have fvr2 := vr.frozen 2
  have fvr3 := vr.frozen 3
  go_wp2
  obtain ⟨te, hg⟩ := vr.set4 (.int .i64 7) (.int .i64 0) (.int .i64 0) (.int .i64 12)
  refine bodyPost_ret_by (results_cell_tmp rfl _ _ (w.heap.size) te _ (0, 0) _ rfl hg Try.underlying37 rfl (by kernel_rfl) (.int .i64 0) rfl) rfl ?_
  exact ⟨rfl, below_set4 B (by omega) _ _ _ _⟩

set_option maxRecDepth 100000 in
theorem stepped_calls (k : Nat) (hk : k < 12) (w : World) : Calls Try.prog 23 #[.agg #[.int .i64 (tq k).a, .int .i64 (tq k).b, .int .i64 (tq k).c, .int .i64 (tq k).d], .int .i64 1, .int .i64 12] w (RetT w (mulT (tq k) (tq 7))) := by
  have ML := fun w : World => mulT_ok (tq k) (tq 7) w (tq_valid k hk) (by decide)
  obtain ⟨⟨xa, xb, xc, xd⟩, hx⟩ : ∃ t, tq k = t := ⟨_, rfl⟩
  have e0 := (tq_step k hk).1
  rw [hx] at ML e0 ⊢
  obtain ⟨⟨⟨ya, yb, yc, yd⟩, er⟩, hy⟩ : ∃ t, mulT ⟨xa, xb, xc, xd⟩ (tq 7) = t := ⟨_, rfl⟩
  rw [hy] at ML e0 ⊢
  dsimp only at e0
  subst e0
  dsimp only [tq] at ML ⊢
  have HML := Lib.hid ML
  have HF := Lib.hid (fun w : World => fifth_calls w)
  clear ML hx hy
  have v3 := Vals.newL w (w.heap.size) [.int .i64 xa, .int .i64 xb, .int .i64 xc, .int .i64 xd] 37 rfl
  have bb := below_alloc w (.cells #[.int .i64 xa, .int .i64 xb, .int .i64 xc, .int .i64 xd] 37)
  have B := bb
  have sz0 := World.size_alloc w (.cells #[.int .i64 xa, .int .i64 xb, .int .i64 xc, .int .i64 xd] 37)
  have sz := sz0
  clear sz0
  clear bb
  have vr := Vals.newL (w.alloc (.cells #[.int .i64 xa, .int .i64 xb, .int .i64 xc, .int .i64 xd] 37)) (w.heap.size + 1) [.int .i64 0, .int .i64 0, .int .i64 0, .int .i64 0] 37 sz.symm
  have bb := below_alloc (w.alloc (.cells #[.int .i64 xa, .int .i64 xb, .int .i64 xc, .int .i64 xd] 37)) (.cells #[.int .i64 0, .int .i64 0, .int .i64 0, .int .i64 0] 37)
  replace v3 := v3.mono bb
  replace B := below_trans B bb
  clear sz
  clear bb
  go_enter Try.func23, Try.ntmps23
  go_wp2_with fail
  generalize ((w.alloc (.cells #[.int .i64 xa, .int .i64 xb, .int .i64 xc, .int .i64 xd] 37)).alloc (.cells #[.int .i64 0, .int .i64 0, .int .i64 0, .int .i64 0] 37)) = w0 at *
  refine (HF.out w0).mono ?_
  rintro e w1 ⟨rfl, b1⟩
  replace v3 := v3.mono b1
  replace vr := vr.mono b1
  replace B := below_trans B b1
  clear b1
  dsimp only [tq]
  have cv30 := v3.cell (i := 0) (by simp)
  have cv31 := v3.cell (i := 1) (by simp)
  have cv32 := v3.cell (i := 2) (by simp)
  have cv33 := v3.cell (i := 3) (by simp)
  simp only [List.getD_cons_zero, List.getD_cons_succ] at cv30 cv31 cv32 cv33
  have ltv3 := v3.lt
  go_wp2_with fail
  clear cv30 cv31 cv32 cv33 ltv3
  have v8 := Vals.newL w1 w1.heap.size [.int .i64 7, .int .i64 0, .int .i64 0, .int .i64 12] 37 rfl
  have bb := below_alloc w1 (.cells #[.int .i64 7, .int .i64 0, .int .i64 0, .int .i64 12] 37)
  replace v3 := v3.mono bb
  replace vr := vr.mono bb
  replace B := below_trans B bb
  clear bb
  generalize w1.alloc (.cells #[.int .i64 7, .int .i64 0, .int .i64 0, .int .i64 12] 37) = w2 at *
  refine (HML.out _).mono ?_
  rintro e w3 ⟨rfl, b3⟩
  replace v3 := v3.mono b3
  replace vr := vr.mono b3
  replace v8 := v8.mono b3
  replace B := below_trans B b3
  clear b3
  dsimp only
  have cvr0 := vr.cell (i := 0) (by simp)
  have cvr1 := vr.cell (i := 1) (by simp)
  have cvr2 := vr.cell (i := 2) (by simp)
  have cvr3 := vr.cell (i := 3) (by simp)
  simp only [List.getD_cons_zero, List.getD_cons_succ] at cvr0 cvr1 cvr2 cvr3
  have ltvr := vr.lt
  have fvr0 := vr.frozen 0
  have fvr1 := vr.frozen 1
  have fvr2 := vr.frozen 2
  have fvr3 := vr.frozen 3
  go_wp2
  obtain ⟨te, hg⟩ := vr.set4 (.int .i64 ya) (.int .i64 yb) (.int .i64 yc) (.int .i64 yd)
  refine bodyPost_ret_by (results_cell_tmp rfl _ _ (w.heap.size + 1) te _ (0, 0) _ rfl hg Try.underlying37 rfl (by kernel_rfl) (.int .i64 0) rfl) rfl ?_
  exact ⟨rfl, below_set4 B (by omega) _ _ _ _⟩

end Go.Proofs
