/- The reference's reduce, Make, Mul, Div, Power. -/
import Derived.Test.YtgdgdaofmjnepaaDoorTRef8
import Derived.Test.YtgdgdaofmjnepaaDoorToneB
import Derived.Deep.RegionHeld3
open Go.RowKit Go.Deep
namespace Go.Proofs
set_option linter.unusedVariables false

theorem vals1 {w : World} {b : Nat} {u0 u1 : Value} (h : Vals w b [u0, u1]) : w.cell? ⟨b, 1, none⟩ = some u1 := h.cell (i := 1) (by simp)

theorem gcd_len (a b k : Nat) (h1 : (limbs a).length ≤ k) (h2 : (limbs b).length ≤ k) : (limbs (Nat.gcd a b)).length ≤ k := by
  by_cases h : a = 0
  · rw [h, Nat.gcd_zero_left]; exact h2
  · exact Nat.le_trans (limbs_length_mono (Nat.gcd_le_left b (by omega))) h1

set_option maxRecDepth 100000 in
set_option maxHeartbeats 1000000 in
theorem rreduce_0 (x1 x2 x3 x4 : Value) (m1 m2 m3 m4 f2 f3 f4 : Bool) (a b c d : Nat) (z1 z2 z3 z4 : Int) (w : World) (h1 : Num w x1 a) (h2 : Num w x2 b) (h3 : Num w x3 c) (h4 : Num w x4 d)
    (l1 : (limbs a).length ≤ 1000) (l2 : (limbs b).length ≤ 1000) (l3 : (limbs c).length ≤ 1000) (l4 : (limbs d).length ≤ 1000) (L1 : Hid (∀ (v : Value) (w : World), Num w x1 a → Num w v (Nat.gcd (Nat.gcd a b) (Nat.gcd c d)) → Calls Tryd.prog 101 #[.agg #[.bool m1, x1], v, .int .i64 960] w (RetLow w z1 false))) (L2 : Hid (∀ (v : Value) (w : World), Num w x2 b → Num w v (Nat.gcd (Nat.gcd a b) (Nat.gcd c d)) → Calls Tryd.prog 101 #[.agg #[.bool m2, x2], v, .int .i64 960] w (RetLow w z2 f2))) (L3 : Hid (∀ (v : Value) (w : World), Num w x3 c → Num w v (Nat.gcd (Nat.gcd a b) (Nat.gcd c d)) → Calls Tryd.prog 101 #[.agg #[.bool m3, x3], v, .int .i64 960] w (RetLow w z3 f3))) (L4 : Hid (∀ (v : Value) (w : World), Num w x4 d → Num w v (Nat.gcd (Nat.gcd a b) (Nat.gcd c d)) → Calls Tryd.prog 101 #[.agg #[.bool m4, x4], v, .int .i64 24] w (RetLow w z4 f4))) :
    Calls Tryd.prog 67 #[.agg #[.bool m1, x1], .agg #[.bool m2, x2], .agg #[.bool m3, x3], .agg #[.bool m4, x4]] w (RetT w (⟨0, 0, 0, 0⟩, 5)) := by
  have G1 := fun (w : World) (h1 : Num w x1 a) (h2 : Num w x2 b) => rgcd_calls x1 x2 a b w h1 h2 (by omega) (by omega)
  have G2 := fun (w : World) (h3 : Num w x3 c) (h4 : Num w x4 d) => rgcd_calls x3 x4 c d w h3 h4 (by omega) (by omega)
  have q1 := gcd_len a b 1000 (by omega) (by omega)
  have q2 := gcd_len c d 1000 (by omega) (by omega)
  have G3 := fun (v5 v6 : Value) (w : World) (h5 : Num w v5 (Nat.gcd a b)) (h6 : Num w v6 (Nat.gcd c d)) => rgcd_calls v5 v6 _ _ w h5 h6 (by omega) (by omega)
  generalize hg : Nat.gcd (Nat.gcd a b) (Nat.gcd c d) = g at *
  have HG1 := Lib.hid G1
  have HG2 := Lib.hid G2
  have HG3 := Lib.hid G3
  clear G1 G2 G3 q1 q2 l1 l2 l3 l4 hg
  have v0 := Vals.newL w (w.heap.size) [.bool m1, x1] 83 rfl
  have bb := below_alloc w (.cells #[.bool m1, x1] 83)
  have B := bb
  have sz0 := World.size_alloc w (.cells #[.bool m1, x1] 83)
  have sz := sz0
  clear sz0
  clear bb
  have v1 := Vals.newL (w.alloc (.cells #[.bool m1, x1] 83)) (w.heap.size + 1) [.bool m2, x2] 83 sz.symm
  have bb := below_alloc (w.alloc (.cells #[.bool m1, x1] 83)) (.cells #[.bool m2, x2] 83)
  replace v0 := v0.mono bb
  replace B := below_trans B bb
  clear bb
  have sz1 := World.size_alloc (w.alloc (.cells #[.bool m1, x1] 83)) (.cells #[.bool m2, x2] 83)
  rw [sz] at sz1
  clear sz
  have sz := sz1
  clear sz1
  have v2 := Vals.newL ((w.alloc (.cells #[.bool m1, x1] 83)).alloc (.cells #[.bool m2, x2] 83)) (w.heap.size + 1 + 1) [.bool m3, x3] 83 sz.symm
  have bb := below_alloc ((w.alloc (.cells #[.bool m1, x1] 83)).alloc (.cells #[.bool m2, x2] 83)) (.cells #[.bool m3, x3] 83)
  replace v0 := v0.mono bb
  replace v1 := v1.mono bb
  replace B := below_trans B bb
  clear bb
  have sz2 := World.size_alloc ((w.alloc (.cells #[.bool m1, x1] 83)).alloc (.cells #[.bool m2, x2] 83)) (.cells #[.bool m3, x3] 83)
  rw [sz] at sz2
  clear sz
  have sz := sz2
  clear sz2
  have v3 := Vals.newL (((w.alloc (.cells #[.bool m1, x1] 83)).alloc (.cells #[.bool m2, x2] 83)).alloc (.cells #[.bool m3, x3] 83)) (w.heap.size + 1 + 1 + 1) [.bool m4, x4] 83 sz.symm
  have bb := below_alloc (((w.alloc (.cells #[.bool m1, x1] 83)).alloc (.cells #[.bool m2, x2] 83)).alloc (.cells #[.bool m3, x3] 83)) (.cells #[.bool m4, x4] 83)
  replace v0 := v0.mono bb
  replace v1 := v1.mono bb
  replace v2 := v2.mono bb
  replace B := below_trans B bb
  clear bb
  have sz3 := World.size_alloc (((w.alloc (.cells #[.bool m1, x1] 83)).alloc (.cells #[.bool m2, x2] 83)).alloc (.cells #[.bool m3, x3] 83)) (.cells #[.bool m4, x4] 83)
  rw [sz] at sz3
  clear sz
  have sz := sz3
  clear sz3
  have vr := Vals.newL ((((w.alloc (.cells #[.bool m1, x1] 83)).alloc (.cells #[.bool m2, x2] 83)).alloc (.cells #[.bool m3, x3] 83)).alloc (.cells #[.bool m4, x4] 83)) (w.heap.size + 1 + 1 + 1 + 1) [.int .i64 0, .int .i64 0, .int .i64 0, .int .i64 0] 23 sz.symm
  have bb := below_alloc ((((w.alloc (.cells #[.bool m1, x1] 83)).alloc (.cells #[.bool m2, x2] 83)).alloc (.cells #[.bool m3, x3] 83)).alloc (.cells #[.bool m4, x4] 83)) (.cells #[.int .i64 0, .int .i64 0, .int .i64 0, .int .i64 0] 23)
  replace v0 := v0.mono bb
  replace v1 := v1.mono bb
  replace v2 := v2.mono bb
  replace v3 := v3.mono bb
  replace B := below_trans B bb
  clear sz
  have bb0 := B
  clear bb
  go_enter Tryd.func67, Tryd.ntmps67
  go_wp2_with fail
  generalize (((((w.alloc (.cells #[.bool m1, x1] 83)).alloc (.cells #[.bool m2, x2] 83)).alloc (.cells #[.bool m3, x3] 83)).alloc (.cells #[.bool m4, x4] 83)).alloc (.cells #[.int .i64 0, .int .i64 0, .int .i64 0, .int .i64 0] 23)) = w0 at *
  replace h1 := Num.drew'' (h1.mono bb0)
  replace h2 := Num.drew'' (h2.mono bb0)
  replace h3 := Num.drew'' (h3.mono bb0)
  replace h4 := Num.drew'' (h4.mono bb0)
  clear bb0
  go_region_held3 (fun w' => w'.cell? ⟨w.heap.size, 1, none⟩ = some x1 ∧ w'.cell? ⟨w.heap.size + 1, 1, none⟩ = some x2 ∧ w'.cell? ⟨w.heap.size + 1 + 1, 1, none⟩ = some x3 ∧ w'.cell? ⟨w.heap.size + 1 + 1 + 1, 1, none⟩ = some x4)
    (first | exact ⟨vals1 v0, vals1 v1, vals1 v2, vals1 v3⟩ | exact ⟨vals1 v0.drew, vals1 v1.drew, vals1 v2.drew, vals1 v3.drew⟩)
    (first | (go_at_call 100; (with_reducible refine (HG1.out _ h1 h2).mono ?_); rintro e w5 ⟨v5, rfl, h5, b5⟩; replace h1 := h1.mono b5; replace h2 := h2.mono b5; replace h3 := h3.mono b5; replace h4 := h4.mono b5; replace v0 := v0.drew.mono b5; replace v1 := v1.drew.mono b5; replace v2 := v2.drew.mono b5; replace v3 := v3.drew.mono b5; replace vr := vr.drew.mono b5; replace B := below_trans B.drew b5; clear b5)
           | (go_at_call 100; (with_reducible refine (HG2.out _ h3 h4).mono ?_); rintro e w6 ⟨v6, rfl, h6, b6⟩; replace h1 := h1.mono b6; replace h2 := h2.mono b6; replace h3 := h3.mono b6; replace h4 := h4.mono b6; replace h5 := h5.mono b6; replace v0 := v0.mono b6; replace v1 := v1.mono b6; replace v2 := v2.mono b6; replace v3 := v3.mono b6; replace vr := vr.mono b6; replace B := below_trans B b6; clear b6)
           | (go_at_call 100; (with_reducible refine (HG3.out _ _ _ h5 h6).mono ?_); rintro e w7 ⟨v7, rfl, h7, b7⟩; replace h1 := h1.mono b7; replace h2 := h2.mono b7; replace h3 := h3.mono b7; replace h4 := h4.mono b7; replace v0 := v0.mono b7; replace v1 := v1.mono b7; replace v2 := v2.mono b7; replace v3 := v3.mono b7; replace vr := vr.mono b7; replace B := below_trans B b7; clear b7))
  clear h5 h6
  have cv00 := v0.cell (i := 0) (by simp)
  have cv01 := v0.cell (i := 1) (by simp)
  simp only [List.getD_cons_zero, List.getD_cons_succ] at cv00 cv01
  have ltv0 := v0.lt
  go_wp2_with fail
  clear cv00 cv01 ltv0
  refine (L1.out _ _ h1 h7).mono ?_
  rintro e w8 ⟨rfl, b8⟩
  replace h1 := h1.mono b8
  replace h2 := h2.mono b8
  replace h3 := h3.mono b8
  replace h4 := h4.mono b8
  replace v0 := v0.mono b8
  replace v1 := v1.mono b8
  replace v2 := v2.mono b8
  replace v3 := v3.mono b8
  replace vr := vr.mono b8
  replace h7 := h7.mono b8
  replace B := below_trans B b8
  clear b8
  clear h1
  have cv10 := v1.cell (i := 0) (by simp)
  have cv11 := v1.cell (i := 1) (by simp)
  simp only [List.getD_cons_zero, List.getD_cons_succ] at cv10 cv11
  have ltv1 := v1.lt
  go_wp2_with fail
  clear cv10 cv11 ltv1
  refine (L2.out _ _ h2 h7).mono ?_
  rintro e w9 ⟨rfl, b9⟩
  replace h2 := h2.mono b9
  replace h3 := h3.mono b9
  replace h4 := h4.mono b9
  replace v0 := v0.mono b9
  replace v1 := v1.mono b9
  replace v2 := v2.mono b9
  replace v3 := v3.mono b9
  replace vr := vr.mono b9
  replace h7 := h7.mono b9
  replace B := below_trans B b9
  clear b9
  clear h2
  have cv20 := v2.cell (i := 0) (by simp)
  have cv21 := v2.cell (i := 1) (by simp)
  simp only [List.getD_cons_zero, List.getD_cons_succ] at cv20 cv21
  have ltv2 := v2.lt
  go_wp2_with fail
  clear cv20 cv21 ltv2
  refine (L3.out _ _ h3 h7).mono ?_
  rintro e w10 ⟨rfl, b10⟩
  replace h3 := h3.mono b10
  replace h4 := h4.mono b10
  replace v0 := v0.mono b10
  replace v1 := v1.mono b10
  replace v2 := v2.mono b10
  replace v3 := v3.mono b10
  replace vr := vr.mono b10
  replace h7 := h7.mono b10
  replace B := below_trans B b10
  clear b10
  clear h3
  have cv30 := v3.cell (i := 0) (by simp)
  have cv31 := v3.cell (i := 1) (by simp)
  simp only [List.getD_cons_zero, List.getD_cons_succ] at cv30 cv31
  have ltv3 := v3.lt
  go_wp2_with fail
  clear cv30 cv31 ltv3
  refine (L4.out _ _ h4 h7).mono ?_
  rintro e w11 ⟨rfl, b11⟩
  replace h4 := h4.mono b11
  replace v0 := v0.mono b11
  replace v1 := v1.mono b11
  replace v2 := v2.mono b11
  replace v3 := v3.mono b11
  replace vr := vr.mono b11
  replace h7 := h7.mono b11
  replace B := below_trans B b11
  clear b11
  clear h4
  have cvr0 := vr.cell (i := 0) (by simp)
  have cvr1 := vr.cell (i := 1) (by simp)
  have cvr2 := vr.cell (i := 2) (by simp)
  have cvr3 := vr.cell (i := 3) (by simp)
  simp only [List.getD_cons_zero, List.getD_cons_succ] at cvr0 cvr1 cvr2 cvr3
  have ltvr := vr.lt
  have fvr0 := vr.frozen 0
  have fvr1 := vr.frozen 1
  have fvr2 := vr.frozen 2
  have fvr3 := vr.frozen 3
  go_wp2
  obtain ⟨te, hg⟩ := vr.set4 (.int .i64 0) (.int .i64 0) (.int .i64 0) (.int .i64 0)
  refine bodyPost_ret_by (results_cell_tmp rfl _ _ (w.heap.size + 1 + 1 + 1 + 1) te _ (0, 0) _ rfl hg Tryd.underlying23 rfl (by kernel_rfl) (.int .i64 5) rfl) rfl ?_
  exact ⟨rfl, below_set4 B (by omega) _ _ _ _⟩

set_option maxRecDepth 100000 in
set_option maxHeartbeats 1000000 in
theorem rreduce_1 (x1 x2 x3 x4 : Value) (m1 m2 m3 m4 f3 f4 : Bool) (a b c d : Nat) (z1 z2 z3 z4 : Int) (w : World) (h1 : Num w x1 a) (h2 : Num w x2 b) (h3 : Num w x3 c) (h4 : Num w x4 d)
    (l1 : (limbs a).length ≤ 1000) (l2 : (limbs b).length ≤ 1000) (l3 : (limbs c).length ≤ 1000) (l4 : (limbs d).length ≤ 1000) (L1 : Hid (∀ (v : Value) (w : World), Num w x1 a → Num w v (Nat.gcd (Nat.gcd a b) (Nat.gcd c d)) → Calls Tryd.prog 101 #[.agg #[.bool m1, x1], v, .int .i64 960] w (RetLow w z1 true))) (L2 : Hid (∀ (v : Value) (w : World), Num w x2 b → Num w v (Nat.gcd (Nat.gcd a b) (Nat.gcd c d)) → Calls Tryd.prog 101 #[.agg #[.bool m2, x2], v, .int .i64 960] w (RetLow w z2 false))) (L3 : Hid (∀ (v : Value) (w : World), Num w x3 c → Num w v (Nat.gcd (Nat.gcd a b) (Nat.gcd c d)) → Calls Tryd.prog 101 #[.agg #[.bool m3, x3], v, .int .i64 960] w (RetLow w z3 f3))) (L4 : Hid (∀ (v : Value) (w : World), Num w x4 d → Num w v (Nat.gcd (Nat.gcd a b) (Nat.gcd c d)) → Calls Tryd.prog 101 #[.agg #[.bool m4, x4], v, .int .i64 24] w (RetLow w z4 f4))) :
    Calls Tryd.prog 67 #[.agg #[.bool m1, x1], .agg #[.bool m2, x2], .agg #[.bool m3, x3], .agg #[.bool m4, x4]] w (RetT w (⟨0, 0, 0, 0⟩, 5)) := by
  have G1 := fun (w : World) (h1 : Num w x1 a) (h2 : Num w x2 b) => rgcd_calls x1 x2 a b w h1 h2 (by omega) (by omega)
  have G2 := fun (w : World) (h3 : Num w x3 c) (h4 : Num w x4 d) => rgcd_calls x3 x4 c d w h3 h4 (by omega) (by omega)
  have q1 := gcd_len a b 1000 (by omega) (by omega)
  have q2 := gcd_len c d 1000 (by omega) (by omega)
  have G3 := fun (v5 v6 : Value) (w : World) (h5 : Num w v5 (Nat.gcd a b)) (h6 : Num w v6 (Nat.gcd c d)) => rgcd_calls v5 v6 _ _ w h5 h6 (by omega) (by omega)
  generalize hg : Nat.gcd (Nat.gcd a b) (Nat.gcd c d) = g at *
  have HG1 := Lib.hid G1
  have HG2 := Lib.hid G2
  have HG3 := Lib.hid G3
  clear G1 G2 G3 q1 q2 l1 l2 l3 l4 hg
  have v0 := Vals.newL w (w.heap.size) [.bool m1, x1] 83 rfl
  have bb := below_alloc w (.cells #[.bool m1, x1] 83)
  have B := bb
  have sz0 := World.size_alloc w (.cells #[.bool m1, x1] 83)
  have sz := sz0
  clear sz0
  clear bb
  have v1 := Vals.newL (w.alloc (.cells #[.bool m1, x1] 83)) (w.heap.size + 1) [.bool m2, x2] 83 sz.symm
  have bb := below_alloc (w.alloc (.cells #[.bool m1, x1] 83)) (.cells #[.bool m2, x2] 83)
  replace v0 := v0.mono bb
  replace B := below_trans B bb
  clear bb
  have sz1 := World.size_alloc (w.alloc (.cells #[.bool m1, x1] 83)) (.cells #[.bool m2, x2] 83)
  rw [sz] at sz1
  clear sz
  have sz := sz1
  clear sz1
  have v2 := Vals.newL ((w.alloc (.cells #[.bool m1, x1] 83)).alloc (.cells #[.bool m2, x2] 83)) (w.heap.size + 1 + 1) [.bool m3, x3] 83 sz.symm
  have bb := below_alloc ((w.alloc (.cells #[.bool m1, x1] 83)).alloc (.cells #[.bool m2, x2] 83)) (.cells #[.bool m3, x3] 83)
  replace v0 := v0.mono bb
  replace v1 := v1.mono bb
  replace B := below_trans B bb
  clear bb
  have sz2 := World.size_alloc ((w.alloc (.cells #[.bool m1, x1] 83)).alloc (.cells #[.bool m2, x2] 83)) (.cells #[.bool m3, x3] 83)
  rw [sz] at sz2
  clear sz
  have sz := sz2
  clear sz2
  have v3 := Vals.newL (((w.alloc (.cells #[.bool m1, x1] 83)).alloc (.cells #[.bool m2, x2] 83)).alloc (.cells #[.bool m3, x3] 83)) (w.heap.size + 1 + 1 + 1) [.bool m4, x4] 83 sz.symm
  have bb := below_alloc (((w.alloc (.cells #[.bool m1, x1] 83)).alloc (.cells #[.bool m2, x2] 83)).alloc (.cells #[.bool m3, x3] 83)) (.cells #[.bool m4, x4] 83)
  replace v0 := v0.mono bb
  replace v1 := v1.mono bb
  replace v2 := v2.mono bb
  replace B := below_trans B bb
  clear bb
  have sz3 := World.size_alloc (((w.alloc (.cells #[.bool m1, x1] 83)).alloc (.cells #[.bool m2, x2] 83)).alloc (.cells #[.bool m3, x3] 83)) (.cells #[.bool m4, x4] 83)
  rw [sz] at sz3
  clear sz
  have sz := sz3
  clear sz3
  have vr := Vals.newL ((((w.alloc (.cells #[.bool m1, x1] 83)).alloc (.cells #[.bool m2, x2] 83)).alloc (.cells #[.bool m3, x3] 83)).alloc (.cells #[.bool m4, x4] 83)) (w.heap.size + 1 + 1 + 1 + 1) [.int .i64 0, .int .i64 0, .int .i64 0, .int .i64 0] 23 sz.symm
  have bb := below_alloc ((((w.alloc (.cells #[.bool m1, x1] 83)).alloc (.cells #[.bool m2, x2] 83)).alloc (.cells #[.bool m3, x3] 83)).alloc (.cells #[.bool m4, x4] 83)) (.cells #[.int .i64 0, .int .i64 0, .int .i64 0, .int .i64 0] 23)
  replace v0 := v0.mono bb
  replace v1 := v1.mono bb
  replace v2 := v2.mono bb
  replace v3 := v3.mono bb
  replace B := below_trans B bb
  clear sz
  have bb0 := B
  clear bb
  go_enter Tryd.func67, Tryd.ntmps67
  go_wp2_with fail
  generalize (((((w.alloc (.cells #[.bool m1, x1] 83)).alloc (.cells #[.bool m2, x2] 83)).alloc (.cells #[.bool m3, x3] 83)).alloc (.cells #[.bool m4, x4] 83)).alloc (.cells #[.int .i64 0, .int .i64 0, .int .i64 0, .int .i64 0] 23)) = w0 at *
  replace h1 := Num.drew'' (h1.mono bb0)
  replace h2 := Num.drew'' (h2.mono bb0)
  replace h3 := Num.drew'' (h3.mono bb0)
  replace h4 := Num.drew'' (h4.mono bb0)
  clear bb0
  go_region_held3 (fun w' => w'.cell? ⟨w.heap.size, 1, none⟩ = some x1 ∧ w'.cell? ⟨w.heap.size + 1, 1, none⟩ = some x2 ∧ w'.cell? ⟨w.heap.size + 1 + 1, 1, none⟩ = some x3 ∧ w'.cell? ⟨w.heap.size + 1 + 1 + 1, 1, none⟩ = some x4)
    (first | exact ⟨vals1 v0, vals1 v1, vals1 v2, vals1 v3⟩ | exact ⟨vals1 v0.drew, vals1 v1.drew, vals1 v2.drew, vals1 v3.drew⟩)
    (first | (go_at_call 100; (with_reducible refine (HG1.out _ h1 h2).mono ?_); rintro e w5 ⟨v5, rfl, h5, b5⟩; replace h1 := h1.mono b5; replace h2 := h2.mono b5; replace h3 := h3.mono b5; replace h4 := h4.mono b5; replace v0 := v0.drew.mono b5; replace v1 := v1.drew.mono b5; replace v2 := v2.drew.mono b5; replace v3 := v3.drew.mono b5; replace vr := vr.drew.mono b5; replace B := below_trans B.drew b5; clear b5)
           | (go_at_call 100; (with_reducible refine (HG2.out _ h3 h4).mono ?_); rintro e w6 ⟨v6, rfl, h6, b6⟩; replace h1 := h1.mono b6; replace h2 := h2.mono b6; replace h3 := h3.mono b6; replace h4 := h4.mono b6; replace h5 := h5.mono b6; replace v0 := v0.mono b6; replace v1 := v1.mono b6; replace v2 := v2.mono b6; replace v3 := v3.mono b6; replace vr := vr.mono b6; replace B := below_trans B b6; clear b6)
           | (go_at_call 100; (with_reducible refine (HG3.out _ _ _ h5 h6).mono ?_); rintro e w7 ⟨v7, rfl, h7, b7⟩; replace h1 := h1.mono b7; replace h2 := h2.mono b7; replace h3 := h3.mono b7; replace h4 := h4.mono b7; replace v0 := v0.mono b7; replace v1 := v1.mono b7; replace v2 := v2.mono b7; replace v3 := v3.mono b7; replace vr := vr.mono b7; replace B := below_trans B b7; clear b7))
  clear h5 h6
  have cv00 := v0.cell (i := 0) (by simp)
  have cv01 := v0.cell (i := 1) (by simp)
  simp only [List.getD_cons_zero, List.getD_cons_succ] at cv00 cv01
  have ltv0 := v0.lt
  go_wp2_with fail
  clear cv00 cv01 ltv0
  refine (L1.out _ _ h1 h7).mono ?_
  rintro e w8 ⟨rfl, b8⟩
  replace h1 := h1.mono b8
  replace h2 := h2.mono b8
  replace h3 := h3.mono b8
  replace h4 := h4.mono b8
  replace v0 := v0.mono b8
  replace v1 := v1.mono b8
  replace v2 := v2.mono b8
  replace v3 := v3.mono b8
  replace vr := vr.mono b8
  replace h7 := h7.mono b8
  replace B := below_trans B b8
  clear b8
  clear h1
  have cv10 := v1.cell (i := 0) (by simp)
  have cv11 := v1.cell (i := 1) (by simp)
  simp only [List.getD_cons_zero, List.getD_cons_succ] at cv10 cv11
  have ltv1 := v1.lt
  go_wp2_with fail
  clear cv10 cv11 ltv1
  refine (L2.out _ _ h2 h7).mono ?_
  rintro e w9 ⟨rfl, b9⟩
  replace h2 := h2.mono b9
  replace h3 := h3.mono b9
  replace h4 := h4.mono b9
  replace v0 := v0.mono b9
  replace v1 := v1.mono b9
  replace v2 := v2.mono b9
  replace v3 := v3.mono b9
  replace vr := vr.mono b9
  replace h7 := h7.mono b9
  replace B := below_trans B b9
  clear b9
  clear h2
  have cv20 := v2.cell (i := 0) (by simp)
  have cv21 := v2.cell (i := 1) (by simp)
  simp only [List.getD_cons_zero, List.getD_cons_succ] at cv20 cv21
  have ltv2 := v2.lt
  go_wp2_with fail
  clear cv20 cv21 ltv2
  refine (L3.out _ _ h3 h7).mono ?_
  rintro e w10 ⟨rfl, b10⟩
  replace h3 := h3.mono b10
  replace h4 := h4.mono b10
  replace v0 := v0.mono b10
  replace v1 := v1.mono b10
  replace v2 := v2.mono b10
  replace v3 := v3.mono b10
  replace vr := vr.mono b10
  replace h7 := h7.mono b10
  replace B := below_trans B b10
  clear b10
  clear h3
  have cv30 := v3.cell (i := 0) (by simp)
  have cv31 := v3.cell (i := 1) (by simp)
  simp only [List.getD_cons_zero, List.getD_cons_succ] at cv30 cv31
  have ltv3 := v3.lt
  go_wp2_with fail
  clear cv30 cv31 ltv3
  refine (L4.out _ _ h4 h7).mono ?_
  rintro e w11 ⟨rfl, b11⟩
  replace h4 := h4.mono b11
  replace v0 := v0.mono b11
  replace v1 := v1.mono b11
  replace v2 := v2.mono b11
  replace v3 := v3.mono b11
  replace vr := vr.mono b11
  replace h7 := h7.mono b11
  replace B := below_trans B b11
  clear b11
  clear h4
  have cvr0 := vr.cell (i := 0) (by simp)
  have cvr1 := vr.cell (i := 1) (by simp)
  have cvr2 := vr.cell (i := 2) (by simp)
  have cvr3 := vr.cell (i := 3) (by simp)
  simp only [List.getD_cons_zero, List.getD_cons_succ] at cvr0 cvr1 cvr2 cvr3
  have ltvr := vr.lt
  have fvr0 := vr.frozen 0
  have fvr1 := vr.frozen 1
  have fvr2 := vr.frozen 2
  have fvr3 := vr.frozen 3
  go_wp2
  obtain ⟨te, hg⟩ := vr.set4 (.int .i64 0) (.int .i64 0) (.int .i64 0) (.int .i64 0)
  refine bodyPost_ret_by (results_cell_tmp rfl _ _ (w.heap.size + 1 + 1 + 1 + 1) te _ (0, 0) _ rfl hg Tryd.underlying23 rfl (by kernel_rfl) (.int .i64 5) rfl) rfl ?_
  exact ⟨rfl, below_set4 B (by omega) _ _ _ _⟩

set_option maxRecDepth 100000 in
set_option maxHeartbeats 1000000 in
theorem rreduce_2 (x1 x2 x3 x4 : Value) (m1 m2 m3 m4 f4 : Bool) (a b c d : Nat) (z1 z2 z3 z4 : Int) (w : World) (h1 : Num w x1 a) (h2 : Num w x2 b) (h3 : Num w x3 c) (h4 : Num w x4 d)
    (l1 : (limbs a).length ≤ 1000) (l2 : (limbs b).length ≤ 1000) (l3 : (limbs c).length ≤ 1000) (l4 : (limbs d).length ≤ 1000) (L1 : Hid (∀ (v : Value) (w : World), Num w x1 a → Num w v (Nat.gcd (Nat.gcd a b) (Nat.gcd c d)) → Calls Tryd.prog 101 #[.agg #[.bool m1, x1], v, .int .i64 960] w (RetLow w z1 true))) (L2 : Hid (∀ (v : Value) (w : World), Num w x2 b → Num w v (Nat.gcd (Nat.gcd a b) (Nat.gcd c d)) → Calls Tryd.prog 101 #[.agg #[.bool m2, x2], v, .int .i64 960] w (RetLow w z2 true))) (L3 : Hid (∀ (v : Value) (w : World), Num w x3 c → Num w v (Nat.gcd (Nat.gcd a b) (Nat.gcd c d)) → Calls Tryd.prog 101 #[.agg #[.bool m3, x3], v, .int .i64 960] w (RetLow w z3 false))) (L4 : Hid (∀ (v : Value) (w : World), Num w x4 d → Num w v (Nat.gcd (Nat.gcd a b) (Nat.gcd c d)) → Calls Tryd.prog 101 #[.agg #[.bool m4, x4], v, .int .i64 24] w (RetLow w z4 f4))) :
    Calls Tryd.prog 67 #[.agg #[.bool m1, x1], .agg #[.bool m2, x2], .agg #[.bool m3, x3], .agg #[.bool m4, x4]] w (RetT w (⟨0, 0, 0, 0⟩, 5)) := by
  have G1 := fun (w : World) (h1 : Num w x1 a) (h2 : Num w x2 b) => rgcd_calls x1 x2 a b w h1 h2 (by omega) (by omega)
  have G2 := fun (w : World) (h3 : Num w x3 c) (h4 : Num w x4 d) => rgcd_calls x3 x4 c d w h3 h4 (by omega) (by omega)
  have q1 := gcd_len a b 1000 (by omega) (by omega)
  have q2 := gcd_len c d 1000 (by omega) (by omega)
  have G3 := fun (v5 v6 : Value) (w : World) (h5 : Num w v5 (Nat.gcd a b)) (h6 : Num w v6 (Nat.gcd c d)) => rgcd_calls v5 v6 _ _ w h5 h6 (by omega) (by omega)
  generalize hg : Nat.gcd (Nat.gcd a b) (Nat.gcd c d) = g at *
  have HG1 := Lib.hid G1
  have HG2 := Lib.hid G2
  have HG3 := Lib.hid G3
  clear G1 G2 G3 q1 q2 l1 l2 l3 l4 hg
  have v0 := Vals.newL w (w.heap.size) [.bool m1, x1] 83 rfl
  have bb := below_alloc w (.cells #[.bool m1, x1] 83)
  have B := bb
  have sz0 := World.size_alloc w (.cells #[.bool m1, x1] 83)
  have sz := sz0
  clear sz0
  clear bb
  have v1 := Vals.newL (w.alloc (.cells #[.bool m1, x1] 83)) (w.heap.size + 1) [.bool m2, x2] 83 sz.symm
  have bb := below_alloc (w.alloc (.cells #[.bool m1, x1] 83)) (.cells #[.bool m2, x2] 83)
  replace v0 := v0.mono bb
  replace B := below_trans B bb
  clear bb
  have sz1 := World.size_alloc (w.alloc (.cells #[.bool m1, x1] 83)) (.cells #[.bool m2, x2] 83)
  rw [sz] at sz1
  clear sz
  have sz := sz1
  clear sz1
  have v2 := Vals.newL ((w.alloc (.cells #[.bool m1, x1] 83)).alloc (.cells #[.bool m2, x2] 83)) (w.heap.size + 1 + 1) [.bool m3, x3] 83 sz.symm
  have bb := below_alloc ((w.alloc (.cells #[.bool m1, x1] 83)).alloc (.cells #[.bool m2, x2] 83)) (.cells #[.bool m3, x3] 83)
  replace v0 := v0.mono bb
  replace v1 := v1.mono bb
  replace B := below_trans B bb
  clear bb
  have sz2 := World.size_alloc ((w.alloc (.cells #[.bool m1, x1] 83)).alloc (.cells #[.bool m2, x2] 83)) (.cells #[.bool m3, x3] 83)
  rw [sz] at sz2
  clear sz
  have sz := sz2
  clear sz2
  have v3 := Vals.newL (((w.alloc (.cells #[.bool m1, x1] 83)).alloc (.cells #[.bool m2, x2] 83)).alloc (.cells #[.bool m3, x3] 83)) (w.heap.size + 1 + 1 + 1) [.bool m4, x4] 83 sz.symm
  have bb := below_alloc (((w.alloc (.cells #[.bool m1, x1] 83)).alloc (.cells #[.bool m2, x2] 83)).alloc (.cells #[.bool m3, x3] 83)) (.cells #[.bool m4, x4] 83)
  replace v0 := v0.mono bb
  replace v1 := v1.mono bb
  replace v2 := v2.mono bb
  replace B := below_trans B bb
  clear bb
  have sz3 := World.size_alloc (((w.alloc (.cells #[.bool m1, x1] 83)).alloc (.cells #[.bool m2, x2] 83)).alloc (.cells #[.bool m3, x3] 83)) (.cells #[.bool m4, x4] 83)
  rw [sz] at sz3
  clear sz
  have sz := sz3
  clear sz3
  have vr := Vals.newL ((((w.alloc (.cells #[.bool m1, x1] 83)).alloc (.cells #[.bool m2, x2] 83)).alloc (.cells #[.bool m3, x3] 83)).alloc (.cells #[.bool m4, x4] 83)) (w.heap.size + 1 + 1 + 1 + 1) [.int .i64 0, .int .i64 0, .int .i64 0, .int .i64 0] 23 sz.symm
  have bb := below_alloc ((((w.alloc (.cells #[.bool m1, x1] 83)).alloc (.cells #[.bool m2, x2] 83)).alloc (.cells #[.bool m3, x3] 83)).alloc (.cells #[.bool m4, x4] 83)) (.cells #[.int .i64 0, .int .i64 0, .int .i64 0, .int .i64 0] 23)
  replace v0 := v0.mono bb
  replace v1 := v1.mono bb
  replace v2 := v2.mono bb
  replace v3 := v3.mono bb
  replace B := below_trans B bb
  clear sz
  have bb0 := B
  clear bb
  go_enter Tryd.func67, Tryd.ntmps67
  go_wp2_with fail
  generalize (((((w.alloc (.cells #[.bool m1, x1] 83)).alloc (.cells #[.bool m2, x2] 83)).alloc (.cells #[.bool m3, x3] 83)).alloc (.cells #[.bool m4, x4] 83)).alloc (.cells #[.int .i64 0, .int .i64 0, .int .i64 0, .int .i64 0] 23)) = w0 at *
  replace h1 := Num.drew'' (h1.mono bb0)
  replace h2 := Num.drew'' (h2.mono bb0)
  replace h3 := Num.drew'' (h3.mono bb0)
  replace h4 := Num.drew'' (h4.mono bb0)
  clear bb0
  go_region_held3 (fun w' => w'.cell? ⟨w.heap.size, 1, none⟩ = some x1 ∧ w'.cell? ⟨w.heap.size + 1, 1, none⟩ = some x2 ∧ w'.cell? ⟨w.heap.size + 1 + 1, 1, none⟩ = some x3 ∧ w'.cell? ⟨w.heap.size + 1 + 1 + 1, 1, none⟩ = some x4)
    (first | exact ⟨vals1 v0, vals1 v1, vals1 v2, vals1 v3⟩ | exact ⟨vals1 v0.drew, vals1 v1.drew, vals1 v2.drew, vals1 v3.drew⟩)
    (first | (go_at_call 100; (with_reducible refine (HG1.out _ h1 h2).mono ?_); rintro e w5 ⟨v5, rfl, h5, b5⟩; replace h1 := h1.mono b5; replace h2 := h2.mono b5; replace h3 := h3.mono b5; replace h4 := h4.mono b5; replace v0 := v0.drew.mono b5; replace v1 := v1.drew.mono b5; replace v2 := v2.drew.mono b5; replace v3 := v3.drew.mono b5; replace vr := vr.drew.mono b5; replace B := below_trans B.drew b5; clear b5)
           | (go_at_call 100; (with_reducible refine (HG2.out _ h3 h4).mono ?_); rintro e w6 ⟨v6, rfl, h6, b6⟩; replace h1 := h1.mono b6; replace h2 := h2.mono b6; replace h3 := h3.mono b6; replace h4 := h4.mono b6; replace h5 := h5.mono b6; replace v0 := v0.mono b6; replace v1 := v1.mono b6; replace v2 := v2.mono b6; replace v3 := v3.mono b6; replace vr := vr.mono b6; replace B := below_trans B b6; clear b6)
           | (go_at_call 100; (with_reducible refine (HG3.out _ _ _ h5 h6).mono ?_); rintro e w7 ⟨v7, rfl, h7, b7⟩; replace h1 := h1.mono b7; replace h2 := h2.mono b7; replace h3 := h3.mono b7; replace h4 := h4.mono b7; replace v0 := v0.mono b7; replace v1 := v1.mono b7; replace v2 := v2.mono b7; replace v3 := v3.mono b7; replace vr := vr.mono b7; replace B := below_trans B b7; clear b7))
  clear h5 h6
  have cv00 := v0.cell (i := 0) (by simp)
  have cv01 := v0.cell (i := 1) (by simp)
  simp only [List.getD_cons_zero, List.getD_cons_succ] at cv00 cv01
  have ltv0 := v0.lt
  go_wp2_with fail
  clear cv00 cv01 ltv0
  refine (L1.out _ _ h1 h7).mono ?_
  rintro e w8 ⟨rfl, b8⟩
  replace h1 := h1.mono b8
  replace h2 := h2.mono b8
  replace h3 := h3.mono b8
  replace h4 := h4.mono b8
  replace v0 := v0.mono b8
  replace v1 := v1.mono b8
  replace v2 := v2.mono b8
  replace v3 := v3.mono b8
  replace vr := vr.mono b8
  replace h7 := h7.mono b8
  replace B := below_trans B b8
  clear b8
  clear h1
  have cv10 := v1.cell (i := 0) (by simp)
  have cv11 := v1.cell (i := 1) (by simp)
  simp only [List.getD_cons_zero, List.getD_cons_succ] at cv10 cv11
  have ltv1 := v1.lt
  go_wp2_with fail
  clear cv10 cv11 ltv1
  refine (L2.out _ _ h2 h7).mono ?_
  rintro e w9 ⟨rfl, b9⟩
  replace h2 := h2.mono b9
  replace h3 := h3.mono b9
  replace h4 := h4.mono b9
  replace v0 := v0.mono b9
  replace v1 := v1.mono b9
  replace v2 := v2.mono b9
  replace v3 := v3.mono b9
  replace vr := vr.mono b9
  replace h7 := h7.mono b9
  replace B := below_trans B b9
  clear b9
  clear h2
  have cv20 := v2.cell (i := 0) (by simp)
  have cv21 := v2.cell (i := 1) (by simp)
  simp only [List.getD_cons_zero, List.getD_cons_succ] at cv20 cv21
  have ltv2 := v2.lt
  go_wp2_with fail
  clear cv20 cv21 ltv2
  refine (L3.out _ _ h3 h7).mono ?_
  rintro e w10 ⟨rfl, b10⟩
  replace h3 := h3.mono b10
  replace h4 := h4.mono b10
  replace v0 := v0.mono b10
  replace v1 := v1.mono b10
  replace v2 := v2.mono b10
  replace v3 := v3.mono b10
  replace vr := vr.mono b10
  replace h7 := h7.mono b10
  replace B := below_trans B b10
  clear b10
  clear h3
  have cv30 := v3.cell (i := 0) (by simp)
  have cv31 := v3.cell (i := 1) (by simp)
  simp only [List.getD_cons_zero, List.getD_cons_succ] at cv30 cv31
  have ltv3 := v3.lt
  go_wp2_with fail
  clear cv30 cv31 ltv3
  refine (L4.out _ _ h4 h7).mono ?_
  rintro e w11 ⟨rfl, b11⟩
  replace h4 := h4.mono b11
  replace v0 := v0.mono b11
  replace v1 := v1.mono b11
  replace v2 := v2.mono b11
  replace v3 := v3.mono b11
  replace vr := vr.mono b11
  replace h7 := h7.mono b11
  replace B := below_trans B b11
  clear b11
  clear h4
  have cvr0 := vr.cell (i := 0) (by simp)
  have cvr1 := vr.cell (i := 1) (by simp)
  have cvr2 := vr.cell (i := 2) (by simp)
  have cvr3 := vr.cell (i := 3) (by simp)
  simp only [List.getD_cons_zero, List.getD_cons_succ] at cvr0 cvr1 cvr2 cvr3
  have ltvr := vr.lt
  have fvr0 := vr.frozen 0
  have fvr1 := vr.frozen 1
  have fvr2 := vr.frozen 2
  have fvr3 := vr.frozen 3
  go_wp2
  obtain ⟨te, hg⟩ := vr.set4 (.int .i64 0) (.int .i64 0) (.int .i64 0) (.int .i64 0)
  refine bodyPost_ret_by (results_cell_tmp rfl _ _ (w.heap.size + 1 + 1 + 1 + 1) te _ (0, 0) _ rfl hg Tryd.underlying23 rfl (by kernel_rfl) (.int .i64 5) rfl) rfl ?_
  exact ⟨rfl, below_set4 B (by omega) _ _ _ _⟩

set_option maxRecDepth 100000 in
set_option maxHeartbeats 1000000 in
theorem rreduce_3 (x1 x2 x3 x4 : Value) (m1 m2 m3 m4  : Bool) (a b c d : Nat) (z1 z2 z3 z4 : Int) (w : World) (h1 : Num w x1 a) (h2 : Num w x2 b) (h3 : Num w x3 c) (h4 : Num w x4 d)
    (l1 : (limbs a).length ≤ 1000) (l2 : (limbs b).length ≤ 1000) (l3 : (limbs c).length ≤ 1000) (l4 : (limbs d).length ≤ 1000) (L1 : Hid (∀ (v : Value) (w : World), Num w x1 a → Num w v (Nat.gcd (Nat.gcd a b) (Nat.gcd c d)) → Calls Tryd.prog 101 #[.agg #[.bool m1, x1], v, .int .i64 960] w (RetLow w z1 true))) (L2 : Hid (∀ (v : Value) (w : World), Num w x2 b → Num w v (Nat.gcd (Nat.gcd a b) (Nat.gcd c d)) → Calls Tryd.prog 101 #[.agg #[.bool m2, x2], v, .int .i64 960] w (RetLow w z2 true))) (L3 : Hid (∀ (v : Value) (w : World), Num w x3 c → Num w v (Nat.gcd (Nat.gcd a b) (Nat.gcd c d)) → Calls Tryd.prog 101 #[.agg #[.bool m3, x3], v, .int .i64 960] w (RetLow w z3 true))) (L4 : Hid (∀ (v : Value) (w : World), Num w x4 d → Num w v (Nat.gcd (Nat.gcd a b) (Nat.gcd c d)) → Calls Tryd.prog 101 #[.agg #[.bool m4, x4], v, .int .i64 24] w (RetLow w z4 false))) :
    Calls Tryd.prog 67 #[.agg #[.bool m1, x1], .agg #[.bool m2, x2], .agg #[.bool m3, x3], .agg #[.bool m4, x4]] w (RetT w (⟨0, 0, 0, 0⟩, 5)) := by
  have G1 := fun (w : World) (h1 : Num w x1 a) (h2 : Num w x2 b) => rgcd_calls x1 x2 a b w h1 h2 (by omega) (by omega)
  have G2 := fun (w : World) (h3 : Num w x3 c) (h4 : Num w x4 d) => rgcd_calls x3 x4 c d w h3 h4 (by omega) (by omega)
  have q1 := gcd_len a b 1000 (by omega) (by omega)
  have q2 := gcd_len c d 1000 (by omega) (by omega)
  have G3 := fun (v5 v6 : Value) (w : World) (h5 : Num w v5 (Nat.gcd a b)) (h6 : Num w v6 (Nat.gcd c d)) => rgcd_calls v5 v6 _ _ w h5 h6 (by omega) (by omega)
  generalize hg : Nat.gcd (Nat.gcd a b) (Nat.gcd c d) = g at *
  have HG1 := Lib.hid G1
  have HG2 := Lib.hid G2
  have HG3 := Lib.hid G3
  clear G1 G2 G3 q1 q2 l1 l2 l3 l4 hg
  have v0 := Vals.newL w (w.heap.size) [.bool m1, x1] 83 rfl
  have bb := below_alloc w (.cells #[.bool m1, x1] 83)
  have B := bb
  have sz0 := World.size_alloc w (.cells #[.bool m1, x1] 83)
  have sz := sz0
  clear sz0
  clear bb
  have v1 := Vals.newL (w.alloc (.cells #[.bool m1, x1] 83)) (w.heap.size + 1) [.bool m2, x2] 83 sz.symm
  have bb := below_alloc (w.alloc (.cells #[.bool m1, x1] 83)) (.cells #[.bool m2, x2] 83)
  replace v0 := v0.mono bb
  replace B := below_trans B bb
  clear bb
  have sz1 := World.size_alloc (w.alloc (.cells #[.bool m1, x1] 83)) (.cells #[.bool m2, x2] 83)
  rw [sz] at sz1
  clear sz
  have sz := sz1
  clear sz1
  have v2 := Vals.newL ((w.alloc (.cells #[.bool m1, x1] 83)).alloc (.cells #[.bool m2, x2] 83)) (w.heap.size + 1 + 1) [.bool m3, x3] 83 sz.symm
  have bb := below_alloc ((w.alloc (.cells #[.bool m1, x1] 83)).alloc (.cells #[.bool m2, x2] 83)) (.cells #[.bool m3, x3] 83)
  replace v0 := v0.mono bb
  replace v1 := v1.mono bb
  replace B := below_trans B bb
  clear bb
  have sz2 := World.size_alloc ((w.alloc (.cells #[.bool m1, x1] 83)).alloc (.cells #[.bool m2, x2] 83)) (.cells #[.bool m3, x3] 83)
  rw [sz] at sz2
  clear sz
  have sz := sz2
  clear sz2
  have v3 := Vals.newL (((w.alloc (.cells #[.bool m1, x1] 83)).alloc (.cells #[.bool m2, x2] 83)).alloc (.cells #[.bool m3, x3] 83)) (w.heap.size + 1 + 1 + 1) [.bool m4, x4] 83 sz.symm
  have bb := below_alloc (((w.alloc (.cells #[.bool m1, x1] 83)).alloc (.cells #[.bool m2, x2] 83)).alloc (.cells #[.bool m3, x3] 83)) (.cells #[.bool m4, x4] 83)
  replace v0 := v0.mono bb
  replace v1 := v1.mono bb
  replace v2 := v2.mono bb
  replace B := below_trans B bb
  clear bb
  have sz3 := World.size_alloc (((w.alloc (.cells #[.bool m1, x1] 83)).alloc (.cells #[.bool m2, x2] 83)).alloc (.cells #[.bool m3, x3] 83)) (.cells #[.bool m4, x4] 83)
  rw [sz] at sz3
  clear sz
  have sz := sz3
  clear sz3
  have vr := Vals.newL ((((w.alloc (.cells #[.bool m1, x1] 83)).alloc (.cells #[.bool m2, x2] 83)).alloc (.cells #[.bool m3, x3] 83)).alloc (.cells #[.bool m4, x4] 83)) (w.heap.size + 1 + 1 + 1 + 1) [.int .i64 0, .int .i64 0, .int .i64 0, .int .i64 0] 23 sz.symm
  have bb := below_alloc ((((w.alloc (.cells #[.bool m1, x1] 83)).alloc (.cells #[.bool m2, x2] 83)).alloc (.cells #[.bool m3, x3] 83)).alloc (.cells #[.bool m4, x4] 83)) (.cells #[.int .i64 0, .int .i64 0, .int .i64 0, .int .i64 0] 23)
  replace v0 := v0.mono bb
  replace v1 := v1.mono bb
  replace v2 := v2.mono bb
  replace v3 := v3.mono bb
  replace B := below_trans B bb
  clear sz
  have bb0 := B
  clear bb
  go_enter Tryd.func67, Tryd.ntmps67
  go_wp2_with fail
  generalize (((((w.alloc (.cells #[.bool m1, x1] 83)).alloc (.cells #[.bool m2, x2] 83)).alloc (.cells #[.bool m3, x3] 83)).alloc (.cells #[.bool m4, x4] 83)).alloc (.cells #[.int .i64 0, .int .i64 0, .int .i64 0, .int .i64 0] 23)) = w0 at *
  replace h1 := Num.drew'' (h1.mono bb0)
  replace h2 := Num.drew'' (h2.mono bb0)
  replace h3 := Num.drew'' (h3.mono bb0)
  replace h4 := Num.drew'' (h4.mono bb0)
  clear bb0
  go_region_held3 (fun w' => w'.cell? ⟨w.heap.size, 1, none⟩ = some x1 ∧ w'.cell? ⟨w.heap.size + 1, 1, none⟩ = some x2 ∧ w'.cell? ⟨w.heap.size + 1 + 1, 1, none⟩ = some x3 ∧ w'.cell? ⟨w.heap.size + 1 + 1 + 1, 1, none⟩ = some x4)
    (first | exact ⟨vals1 v0, vals1 v1, vals1 v2, vals1 v3⟩ | exact ⟨vals1 v0.drew, vals1 v1.drew, vals1 v2.drew, vals1 v3.drew⟩)
    (first | (go_at_call 100; (with_reducible refine (HG1.out _ h1 h2).mono ?_); rintro e w5 ⟨v5, rfl, h5, b5⟩; replace h1 := h1.mono b5; replace h2 := h2.mono b5; replace h3 := h3.mono b5; replace h4 := h4.mono b5; replace v0 := v0.drew.mono b5; replace v1 := v1.drew.mono b5; replace v2 := v2.drew.mono b5; replace v3 := v3.drew.mono b5; replace vr := vr.drew.mono b5; replace B := below_trans B.drew b5; clear b5)
           | (go_at_call 100; (with_reducible refine (HG2.out _ h3 h4).mono ?_); rintro e w6 ⟨v6, rfl, h6, b6⟩; replace h1 := h1.mono b6; replace h2 := h2.mono b6; replace h3 := h3.mono b6; replace h4 := h4.mono b6; replace h5 := h5.mono b6; replace v0 := v0.mono b6; replace v1 := v1.mono b6; replace v2 := v2.mono b6; replace v3 := v3.mono b6; replace vr := vr.mono b6; replace B := below_trans B b6; clear b6)
           | (go_at_call 100; (with_reducible refine (HG3.out _ _ _ h5 h6).mono ?_); rintro e w7 ⟨v7, rfl, h7, b7⟩; replace h1 := h1.mono b7; replace h2 := h2.mono b7; replace h3 := h3.mono b7; replace h4 := h4.mono b7; replace v0 := v0.mono b7; replace v1 := v1.mono b7; replace v2 := v2.mono b7; replace v3 := v3.mono b7; replace vr := vr.mono b7; replace B := below_trans B b7; clear b7))
  clear h5 h6
  have cv00 := v0.cell (i := 0) (by simp)
  have cv01 := v0.cell (i := 1) (by simp)
  simp only [List.getD_cons_zero, List.getD_cons_succ] at cv00 cv01
  have ltv0 := v0.lt
  go_wp2_with fail
  clear cv00 cv01 ltv0
  refine (L1.out _ _ h1 h7).mono ?_
  rintro e w8 ⟨rfl, b8⟩
  replace h1 := h1.mono b8
  replace h2 := h2.mono b8
  replace h3 := h3.mono b8
  replace h4 := h4.mono b8
  replace v0 := v0.mono b8
  replace v1 := v1.mono b8
  replace v2 := v2.mono b8
  replace v3 := v3.mono b8
  replace vr := vr.mono b8
  replace h7 := h7.mono b8
  replace B := below_trans B b8
  clear b8
  clear h1
  have cv10 := v1.cell (i := 0) (by simp)
  have cv11 := v1.cell (i := 1) (by simp)
  simp only [List.getD_cons_zero, List.getD_cons_succ] at cv10 cv11
  have ltv1 := v1.lt
  go_wp2_with fail
  clear cv10 cv11 ltv1
  refine (L2.out _ _ h2 h7).mono ?_
  rintro e w9 ⟨rfl, b9⟩
  replace h2 := h2.mono b9
  replace h3 := h3.mono b9
  replace h4 := h4.mono b9
  replace v0 := v0.mono b9
  replace v1 := v1.mono b9
  replace v2 := v2.mono b9
  replace v3 := v3.mono b9
  replace vr := vr.mono b9
  replace h7 := h7.mono b9
  replace B := below_trans B b9
  clear b9
  clear h2
  have cv20 := v2.cell (i := 0) (by simp)
  have cv21 := v2.cell (i := 1) (by simp)
  simp only [List.getD_cons_zero, List.getD_cons_succ] at cv20 cv21
  have ltv2 := v2.lt
  go_wp2_with fail
  clear cv20 cv21 ltv2
  refine (L3.out _ _ h3 h7).mono ?_
  rintro e w10 ⟨rfl, b10⟩
  replace h3 := h3.mono b10
  replace h4 := h4.mono b10
  replace v0 := v0.mono b10
  replace v1 := v1.mono b10
  replace v2 := v2.mono b10
  replace v3 := v3.mono b10
  replace vr := vr.mono b10
  replace h7 := h7.mono b10
  replace B := below_trans B b10
  clear b10
  clear h3
  have cv30 := v3.cell (i := 0) (by simp)
  have cv31 := v3.cell (i := 1) (by simp)
  simp only [List.getD_cons_zero, List.getD_cons_succ] at cv30 cv31
  have ltv3 := v3.lt
  go_wp2_with fail
  clear cv30 cv31 ltv3
  refine (L4.out _ _ h4 h7).mono ?_
  rintro e w11 ⟨rfl, b11⟩
  replace h4 := h4.mono b11
  replace v0 := v0.mono b11
  replace v1 := v1.mono b11
  replace v2 := v2.mono b11
  replace v3 := v3.mono b11
  replace vr := vr.mono b11
  replace h7 := h7.mono b11
  replace B := below_trans B b11
  clear b11
  clear h4
  have cvr0 := vr.cell (i := 0) (by simp)
  have cvr1 := vr.cell (i := 1) (by simp)
  have cvr2 := vr.cell (i := 2) (by simp)
  have cvr3 := vr.cell (i := 3) (by simp)
  simp only [List.getD_cons_zero, List.getD_cons_succ] at cvr0 cvr1 cvr2 cvr3
  have ltvr := vr.lt
  have fvr0 := vr.frozen 0
  have fvr1 := vr.frozen 1
  have fvr2 := vr.frozen 2
  have fvr3 := vr.frozen 3
  go_wp2
  obtain ⟨te, hg⟩ := vr.set4 (.int .i64 0) (.int .i64 0) (.int .i64 0) (.int .i64 0)
  refine bodyPost_ret_by (results_cell_tmp rfl _ _ (w.heap.size + 1 + 1 + 1 + 1) te _ (0, 0) _ rfl hg Tryd.underlying23 rfl (by kernel_rfl) (.int .i64 5) rfl) rfl ?_
  exact ⟨rfl, below_set4 B (by omega) _ _ _ _⟩

set_option maxRecDepth 100000 in
set_option maxHeartbeats 1000000 in
theorem rreduce_4 (x1 x2 x3 x4 : Value) (m1 m2 m3 m4  : Bool) (a b c d : Nat) (z1 z2 z3 z4 : Int) (w : World) (h1 : Num w x1 a) (h2 : Num w x2 b) (h3 : Num w x3 c) (h4 : Num w x4 d)
    (l1 : (limbs a).length ≤ 1000) (l2 : (limbs b).length ≤ 1000) (l3 : (limbs c).length ≤ 1000) (l4 : (limbs d).length ≤ 1000) (L1 : Hid (∀ (v : Value) (w : World), Num w x1 a → Num w v (Nat.gcd (Nat.gcd a b) (Nat.gcd c d)) → Calls Tryd.prog 101 #[.agg #[.bool m1, x1], v, .int .i64 960] w (RetLow w z1 true))) (L2 : Hid (∀ (v : Value) (w : World), Num w x2 b → Num w v (Nat.gcd (Nat.gcd a b) (Nat.gcd c d)) → Calls Tryd.prog 101 #[.agg #[.bool m2, x2], v, .int .i64 960] w (RetLow w z2 true))) (L3 : Hid (∀ (v : Value) (w : World), Num w x3 c → Num w v (Nat.gcd (Nat.gcd a b) (Nat.gcd c d)) → Calls Tryd.prog 101 #[.agg #[.bool m3, x3], v, .int .i64 960] w (RetLow w z3 true))) (L4 : Hid (∀ (v : Value) (w : World), Num w x4 d → Num w v (Nat.gcd (Nat.gcd a b) (Nat.gcd c d)) → Calls Tryd.prog 101 #[.agg #[.bool m4, x4], v, .int .i64 24] w (RetLow w z4 true))) :
    Calls Tryd.prog 67 #[.agg #[.bool m1, x1], .agg #[.bool m2, x2], .agg #[.bool m3, x3], .agg #[.bool m4, x4]] w (RetT w (⟨z1, z2, z3, z4⟩, 0)) := by
  have G1 := fun (w : World) (h1 : Num w x1 a) (h2 : Num w x2 b) => rgcd_calls x1 x2 a b w h1 h2 (by omega) (by omega)
  have G2 := fun (w : World) (h3 : Num w x3 c) (h4 : Num w x4 d) => rgcd_calls x3 x4 c d w h3 h4 (by omega) (by omega)
  have q1 := gcd_len a b 1000 (by omega) (by omega)
  have q2 := gcd_len c d 1000 (by omega) (by omega)
  have G3 := fun (v5 v6 : Value) (w : World) (h5 : Num w v5 (Nat.gcd a b)) (h6 : Num w v6 (Nat.gcd c d)) => rgcd_calls v5 v6 _ _ w h5 h6 (by omega) (by omega)
  generalize hg : Nat.gcd (Nat.gcd a b) (Nat.gcd c d) = g at *
  have HG1 := Lib.hid G1
  have HG2 := Lib.hid G2
  have HG3 := Lib.hid G3
  clear G1 G2 G3 q1 q2 l1 l2 l3 l4 hg
  have v0 := Vals.newL w (w.heap.size) [.bool m1, x1] 83 rfl
  have bb := below_alloc w (.cells #[.bool m1, x1] 83)
  have B := bb
  have sz0 := World.size_alloc w (.cells #[.bool m1, x1] 83)
  have sz := sz0
  clear sz0
  clear bb
  have v1 := Vals.newL (w.alloc (.cells #[.bool m1, x1] 83)) (w.heap.size + 1) [.bool m2, x2] 83 sz.symm
  have bb := below_alloc (w.alloc (.cells #[.bool m1, x1] 83)) (.cells #[.bool m2, x2] 83)
  replace v0 := v0.mono bb
  replace B := below_trans B bb
  clear bb
  have sz1 := World.size_alloc (w.alloc (.cells #[.bool m1, x1] 83)) (.cells #[.bool m2, x2] 83)
  rw [sz] at sz1
  clear sz
  have sz := sz1
  clear sz1
  have v2 := Vals.newL ((w.alloc (.cells #[.bool m1, x1] 83)).alloc (.cells #[.bool m2, x2] 83)) (w.heap.size + 1 + 1) [.bool m3, x3] 83 sz.symm
  have bb := below_alloc ((w.alloc (.cells #[.bool m1, x1] 83)).alloc (.cells #[.bool m2, x2] 83)) (.cells #[.bool m3, x3] 83)
  replace v0 := v0.mono bb
  replace v1 := v1.mono bb
  replace B := below_trans B bb
  clear bb
  have sz2 := World.size_alloc ((w.alloc (.cells #[.bool m1, x1] 83)).alloc (.cells #[.bool m2, x2] 83)) (.cells #[.bool m3, x3] 83)
  rw [sz] at sz2
  clear sz
  have sz := sz2
  clear sz2
  have v3 := Vals.newL (((w.alloc (.cells #[.bool m1, x1] 83)).alloc (.cells #[.bool m2, x2] 83)).alloc (.cells #[.bool m3, x3] 83)) (w.heap.size + 1 + 1 + 1) [.bool m4, x4] 83 sz.symm
  have bb := below_alloc (((w.alloc (.cells #[.bool m1, x1] 83)).alloc (.cells #[.bool m2, x2] 83)).alloc (.cells #[.bool m3, x3] 83)) (.cells #[.bool m4, x4] 83)
  replace v0 := v0.mono bb
  replace v1 := v1.mono bb
  replace v2 := v2.mono bb
  replace B := below_trans B bb
  clear bb
  have sz3 := World.size_alloc (((w.alloc (.cells #[.bool m1, x1] 83)).alloc (.cells #[.bool m2, x2] 83)).alloc (.cells #[.bool m3, x3] 83)) (.cells #[.bool m4, x4] 83)
  rw [sz] at sz3
  clear sz
  have sz := sz3
  clear sz3
  have vr := Vals.newL ((((w.alloc (.cells #[.bool m1, x1] 83)).alloc (.cells #[.bool m2, x2] 83)).alloc (.cells #[.bool m3, x3] 83)).alloc (.cells #[.bool m4, x4] 83)) (w.heap.size + 1 + 1 + 1 + 1) [.int .i64 0, .int .i64 0, .int .i64 0, .int .i64 0] 23 sz.symm
  have bb := below_alloc ((((w.alloc (.cells #[.bool m1, x1] 83)).alloc (.cells #[.bool m2, x2] 83)).alloc (.cells #[.bool m3, x3] 83)).alloc (.cells #[.bool m4, x4] 83)) (.cells #[.int .i64 0, .int .i64 0, .int .i64 0, .int .i64 0] 23)
  replace v0 := v0.mono bb
  replace v1 := v1.mono bb
  replace v2 := v2.mono bb
  replace v3 := v3.mono bb
  replace B := below_trans B bb
  clear sz
  have bb0 := B
  clear bb
  go_enter Tryd.func67, Tryd.ntmps67
  go_wp2_with fail
  generalize (((((w.alloc (.cells #[.bool m1, x1] 83)).alloc (.cells #[.bool m2, x2] 83)).alloc (.cells #[.bool m3, x3] 83)).alloc (.cells #[.bool m4, x4] 83)).alloc (.cells #[.int .i64 0, .int .i64 0, .int .i64 0, .int .i64 0] 23)) = w0 at *
  replace h1 := Num.drew'' (h1.mono bb0)
  replace h2 := Num.drew'' (h2.mono bb0)
  replace h3 := Num.drew'' (h3.mono bb0)
  replace h4 := Num.drew'' (h4.mono bb0)
  clear bb0
  go_region_held3 (fun w' => w'.cell? ⟨w.heap.size, 1, none⟩ = some x1 ∧ w'.cell? ⟨w.heap.size + 1, 1, none⟩ = some x2 ∧ w'.cell? ⟨w.heap.size + 1 + 1, 1, none⟩ = some x3 ∧ w'.cell? ⟨w.heap.size + 1 + 1 + 1, 1, none⟩ = some x4)
    (first | exact ⟨vals1 v0, vals1 v1, vals1 v2, vals1 v3⟩ | exact ⟨vals1 v0.drew, vals1 v1.drew, vals1 v2.drew, vals1 v3.drew⟩)
    (first | (go_at_call 100; (with_reducible refine (HG1.out _ h1 h2).mono ?_); rintro e w5 ⟨v5, rfl, h5, b5⟩; replace h1 := h1.mono b5; replace h2 := h2.mono b5; replace h3 := h3.mono b5; replace h4 := h4.mono b5; replace v0 := v0.drew.mono b5; replace v1 := v1.drew.mono b5; replace v2 := v2.drew.mono b5; replace v3 := v3.drew.mono b5; replace vr := vr.drew.mono b5; replace B := below_trans B.drew b5; clear b5)
           | (go_at_call 100; (with_reducible refine (HG2.out _ h3 h4).mono ?_); rintro e w6 ⟨v6, rfl, h6, b6⟩; replace h1 := h1.mono b6; replace h2 := h2.mono b6; replace h3 := h3.mono b6; replace h4 := h4.mono b6; replace h5 := h5.mono b6; replace v0 := v0.mono b6; replace v1 := v1.mono b6; replace v2 := v2.mono b6; replace v3 := v3.mono b6; replace vr := vr.mono b6; replace B := below_trans B b6; clear b6)
           | (go_at_call 100; (with_reducible refine (HG3.out _ _ _ h5 h6).mono ?_); rintro e w7 ⟨v7, rfl, h7, b7⟩; replace h1 := h1.mono b7; replace h2 := h2.mono b7; replace h3 := h3.mono b7; replace h4 := h4.mono b7; replace v0 := v0.mono b7; replace v1 := v1.mono b7; replace v2 := v2.mono b7; replace v3 := v3.mono b7; replace vr := vr.mono b7; replace B := below_trans B b7; clear b7))
  clear h5 h6
  have cv00 := v0.cell (i := 0) (by simp)
  have cv01 := v0.cell (i := 1) (by simp)
  simp only [List.getD_cons_zero, List.getD_cons_succ] at cv00 cv01
  have ltv0 := v0.lt
  go_wp2_with fail
  clear cv00 cv01 ltv0
  refine (L1.out _ _ h1 h7).mono ?_
  rintro e w8 ⟨rfl, b8⟩
  replace h1 := h1.mono b8
  replace h2 := h2.mono b8
  replace h3 := h3.mono b8
  replace h4 := h4.mono b8
  replace v0 := v0.mono b8
  replace v1 := v1.mono b8
  replace v2 := v2.mono b8
  replace v3 := v3.mono b8
  replace vr := vr.mono b8
  replace h7 := h7.mono b8
  replace B := below_trans B b8
  clear b8
  clear h1
  have cv10 := v1.cell (i := 0) (by simp)
  have cv11 := v1.cell (i := 1) (by simp)
  simp only [List.getD_cons_zero, List.getD_cons_succ] at cv10 cv11
  have ltv1 := v1.lt
  go_wp2_with fail
  clear cv10 cv11 ltv1
  refine (L2.out _ _ h2 h7).mono ?_
  rintro e w9 ⟨rfl, b9⟩
  replace h2 := h2.mono b9
  replace h3 := h3.mono b9
  replace h4 := h4.mono b9
  replace v0 := v0.mono b9
  replace v1 := v1.mono b9
  replace v2 := v2.mono b9
  replace v3 := v3.mono b9
  replace vr := vr.mono b9
  replace h7 := h7.mono b9
  replace B := below_trans B b9
  clear b9
  clear h2
  have cv20 := v2.cell (i := 0) (by simp)
  have cv21 := v2.cell (i := 1) (by simp)
  simp only [List.getD_cons_zero, List.getD_cons_succ] at cv20 cv21
  have ltv2 := v2.lt
  go_wp2_with fail
  clear cv20 cv21 ltv2
  refine (L3.out _ _ h3 h7).mono ?_
  rintro e w10 ⟨rfl, b10⟩
  replace h3 := h3.mono b10
  replace h4 := h4.mono b10
  replace v0 := v0.mono b10
  replace v1 := v1.mono b10
  replace v2 := v2.mono b10
  replace v3 := v3.mono b10
  replace vr := vr.mono b10
  replace h7 := h7.mono b10
  replace B := below_trans B b10
  clear b10
  clear h3
  have cv30 := v3.cell (i := 0) (by simp)
  have cv31 := v3.cell (i := 1) (by simp)
  simp only [List.getD_cons_zero, List.getD_cons_succ] at cv30 cv31
  have ltv3 := v3.lt
  go_wp2_with fail
  clear cv30 cv31 ltv3
  refine (L4.out _ _ h4 h7).mono ?_
  rintro e w11 ⟨rfl, b11⟩
  replace h4 := h4.mono b11
  replace v0 := v0.mono b11
  replace v1 := v1.mono b11
  replace v2 := v2.mono b11
  replace v3 := v3.mono b11
  replace vr := vr.mono b11
  replace h7 := h7.mono b11
  replace B := below_trans B b11
  clear b11
  clear h4
  have cvr0 := vr.cell (i := 0) (by simp)
  have cvr1 := vr.cell (i := 1) (by simp)
  have cvr2 := vr.cell (i := 2) (by simp)
  have cvr3 := vr.cell (i := 3) (by simp)
  simp only [List.getD_cons_zero, List.getD_cons_succ] at cvr0 cvr1 cvr2 cvr3
  have ltvr := vr.lt
  have fvr0 := vr.frozen 0
  have fvr1 := vr.frozen 1
  have fvr2 := vr.frozen 2
  have fvr3 := vr.frozen 3
  go_wp2
  obtain ⟨te, hg⟩ := vr.set4 (.int .i64 z1) (.int .i64 z2) (.int .i64 z3) (.int .i64 z4)
  refine bodyPost_ret_by (results_cell_tmp rfl _ _ (w.heap.size + 1 + 1 + 1 + 1) te _ (0, 0) _ rfl hg Tryd.underlying23 rfl (by kernel_rfl) (.int .i64 0) rfl) rfl ?_
  exact ⟨rfl, below_set4 B (by omega) _ _ _ _⟩

theorem rreduce_calls (x1 x2 x3 x4 : Value) (m1 m2 m3 m4 : Bool) (a b c d : Nat) (w : World) (h1 : Num w x1 a) (h2 : Num w x2 b) (h3 : Num w x3 c) (h4 : Num w x4 d)
    (l1 : (limbs a).length ≤ 1000) (l2 : (limbs b).length ≤ 1000) (l3 : (limbs c).length ≤ 1000) (l4 : (limbs d).length ≤ 1000) (hd : 1 ≤ d) :
    Calls Tryd.prog 67 #[.agg #[.bool m1, x1], .agg #[.bool m2, x2], .agg #[.bool m3, x3], .agg #[.bool m4, x4]] w (RetT w (redBig m1 m2 m3 m4 a b c d)) := by
  have hg : gcdN a b c d ≠ 0 := by have := gcdN_pos (a := a) (b := b) (c := c) hd; omega
  have lg : (limbs (gcdN a b c d)).length ≤ 1000 := gcd_len _ _ _ (gcd_len _ _ _ l1 l2) (gcd_len _ _ _ l3 l4)
  have L1 := fun (v : Value) (w : World) (k1 : Num w x1 a) (k2 : Num w v (gcdN a b c d)) => rlow_calls m1 x1 v a _ 960 960 w k1 k2 hg l1 lg (by omega) rfl
  have L2 := fun (v : Value) (w : World) (k1 : Num w x2 b) (k2 : Num w v (gcdN a b c d)) => rlow_calls m2 x2 v b _ 960 960 w k1 k2 hg l2 lg (by omega) rfl
  have L3 := fun (v : Value) (w : World) (k1 : Num w x3 c) (k2 : Num w v (gcdN a b c d)) => rlow_calls m3 x3 v c _ 960 960 w k1 k2 hg l3 lg (by omega) rfl
  have L4 := fun (v : Value) (w : World) (k1 : Num w x4 d) (k2 : Num w v (gcdN a b c d)) => rlow_calls m4 x4 v d _ 24 24 w k1 k2 hg l4 lg (by omega) rfl
  unfold redBig
  by_cases t1 : a / gcdN a b c d ≤ 960
  · rw [decide_eq_true t1] at L1
    by_cases t2 : b / gcdN a b c d ≤ 960
    · rw [decide_eq_true t2] at L2
      by_cases t3 : c / gcdN a b c d ≤ 960
      · rw [decide_eq_true t3] at L3
        by_cases t4 : d / gcdN a b c d ≤ 24
        · rw [decide_eq_true t4] at L4
          rw [if_pos (by simp [smallN, t1, t2, t3, t4])]
          simp only [lowV, if_pos t1] at L1
          simp only [lowV, if_pos t2] at L2
          simp only [lowV, if_pos t3] at L3
          simp only [lowV, if_pos t4] at L4
          exact rreduce_4 x1 x2 x3 x4 m1 m2 m3 m4 a b c d _ _ _ _ w h1 h2 h3 h4 l1 l2 l3 l4 (Lib.hid L1) (Lib.hid L2) (Lib.hid L3) (Lib.hid L4)
        · rw [decide_eq_false t4] at L4
          rw [if_neg (by simp [smallN, t4])]
          exact rreduce_3 x1 x2 x3 x4 m1 m2 m3 m4 a b c d _ _ _ _ w h1 h2 h3 h4 l1 l2 l3 l4 (Lib.hid L1) (Lib.hid L2) (Lib.hid L3) (Lib.hid L4)
      · rw [decide_eq_false t3] at L3
        rw [if_neg (by simp [smallN, t3])]
        exact rreduce_2 x1 x2 x3 x4 m1 m2 m3 m4 _ a b c d _ _ _ _ w h1 h2 h3 h4 l1 l2 l3 l4 (Lib.hid L1) (Lib.hid L2) (Lib.hid L3) (Lib.hid L4)
    · rw [decide_eq_false t2] at L2
      rw [if_neg (by simp [smallN, t2])]
      exact rreduce_1 x1 x2 x3 x4 m1 m2 m3 m4 _ _ a b c d _ _ _ _ w h1 h2 h3 h4 l1 l2 l3 l4 (Lib.hid L1) (Lib.hid L2) (Lib.hid L3) (Lib.hid L4)
  · rw [decide_eq_false t1] at L1
    rw [if_neg (by simp [smallN, t1])]
    exact rreduce_0 x1 x2 x3 x4 m1 m2 m3 m4 _ _ _ a b c d _ _ _ _ w h1 h2 h3 h4 l1 l2 l3 l4 (Lib.hid L1) (Lib.hid L2) (Lib.hid L3) (Lib.hid L4)

set_option maxRecDepth 100000 in
set_option maxHeartbeats 1000000 in
theorem rmake_ok (a b c d : Int) (w : World) (ha : i64 a) (hb : i64 b) (hc : i64 c) (hd : i64 d) (h1 : 1 ≤ d) :
    Calls Tryd.prog 40 #[.int .i64 a, .int .i64 b, .int .i64 c, .int .i64 d] w (RetT w (redT a b c d)) := by
  have la : ∀ z : Int, i64 z → (limbs z.natAbs).length ≤ 1000 := fun z h => Nat.le_trans (limbs_length_le (n := z.natAbs) (k := 2) (by unfold i64 at h; omega)) (by omega)
  have O1 := fun w : World => rbig_calls a w ha
  have O2 := fun w : World => rbig_calls b w hb
  have O3 := fun w : World => rbig_calls c w hc
  have O4 := fun w : World => rbig_calls d w hd
  have R := fun (x1 x2 x3 x4 : Value) (w : World) (k1 : Num w x1 a.natAbs) (k2 : Num w x2 b.natAbs) (k3 : Num w x3 c.natAbs) (k4 : Num w x4 d.natAbs) => rreduce_calls x1 x2 x3 x4 (decide (a < 0)) (decide (b < 0)) (decide (c < 0)) (decide (d < 0)) _ _ _ _ w k1 k2 k3 k4 (la a ha) (la b hb) (la c hc) (la d hd) (by omega)
  rw [redBig_redT h1] at R
  have td : ¬ d < 1 := by omega
  generalize redT a b c d = r at *
  obtain ⟨⟨x, y, z, u⟩, k⟩ := r
  try dsimp only at *
  generalize decide (a < 0) = m1 at *
  generalize decide (b < 0) = m2 at *
  generalize decide (c < 0) = m3 at *
  generalize decide (d < 0) = m4 at *
  generalize a.natAbs = na at *
  generalize b.natAbs = nb at *
  generalize c.natAbs = nc at *
  generalize d.natAbs = nd at *
  have H1 := Lib.hid O1
  have H2 := Lib.hid O2
  have H3 := Lib.hid O3
  have H4 := Lib.hid O4
  have HR := Lib.hid R
  clear O1 O2 O3 O4 R la ha hb hc hd h1
  have vr := Vals.newL w (w.heap.size) [.int .i64 0, .int .i64 0, .int .i64 0, .int .i64 0] 23 rfl
  have bb := below_alloc w (.cells #[.int .i64 0, .int .i64 0, .int .i64 0, .int .i64 0] 23)
  have B := bb
  clear bb
  go_enter Tryd.func40, Tryd.ntmps40
  go_wp2_with fail
  generalize (w.alloc (.cells #[.int .i64 0, .int .i64 0, .int .i64 0, .int .i64 0] 23)) = w0 at *
  refine (H1.out _).mono ?_
  rintro e w1 ⟨x1, rfl, k1, b1⟩
  replace vr := vr.mono b1
  replace B := below_trans B b1
  clear b1
  go_wp2_with fail
  refine (H2.out _).mono ?_
  rintro e w2 ⟨x2, rfl, k2, b2⟩
  replace vr := vr.mono b2
  replace k1 := k1.mono b2
  replace B := below_trans B b2
  clear b2
  go_wp2_with fail
  refine (H3.out _).mono ?_
  rintro e w3 ⟨x3, rfl, k3, b3⟩
  replace vr := vr.mono b3
  replace k1 := k1.mono b3
  replace k2 := k2.mono b3
  replace B := below_trans B b3
  clear b3
  go_wp2_with fail
  refine (H4.out _).mono ?_
  rintro e w4 ⟨x4, rfl, k4, b4⟩
  replace vr := vr.mono b4
  replace k1 := k1.mono b4
  replace k2 := k2.mono b4
  replace k3 := k3.mono b4
  replace B := below_trans B b4
  clear b4
  go_wp2_with fail
  refine (HR.out _ _ _ _ _ k1 k2 k3 k4).mono ?_
  rintro e w5 ⟨rfl, b5⟩
  replace vr := vr.mono b5
  replace k1 := k1.mono b5
  replace k2 := k2.mono b5
  replace k3 := k3.mono b5
  replace k4 := k4.mono b5
  replace B := below_trans B b5
  clear b5
  clear k1 k2 k3 k4
  have cvr0 := vr.cell (i := 0) (by simp)
  have cvr1 := vr.cell (i := 1) (by simp)
  have cvr2 := vr.cell (i := 2) (by simp)
  have cvr3 := vr.cell (i := 3) (by simp)
  simp only [List.getD_cons_zero, List.getD_cons_succ] at cvr0 cvr1 cvr2 cvr3
  have ltvr := vr.lt
  have fvr0 := vr.frozen 0
  have fvr1 := vr.frozen 1
  have fvr2 := vr.frozen 2
  have fvr3 := vr.frozen 3
  go_wp2
  obtain ⟨te, hg⟩ := vr.set4 (.int .i64 x) (.int .i64 y) (.int .i64 z) (.int .i64 u)
  refine bodyPost_ret_by (results_cell_tmp rfl _ _ (w.heap.size) te _ (0, 0) _ rfl hg Tryd.underlying23 rfl (by kernel_rfl) (.int .i64 k) rfl) rfl ?_
  exact ⟨rfl, below_set4 B (by omega) _ _ _ _⟩

set_option maxRecDepth 100000 in
theorem rmake_bad (a b c d : Int) (w : World) (h1 : d < 1) :
    Calls Tryd.prog 40 #[.int .i64 a, .int .i64 b, .int .i64 c, .int .i64 d] w (RetT w (⟨0, 0, 0, 0⟩, 1)) := by
  have vr := Vals.newL w (w.heap.size) [.int .i64 0, .int .i64 0, .int .i64 0, .int .i64 0] 23 rfl
  have bb := below_alloc w (.cells #[.int .i64 0, .int .i64 0, .int .i64 0, .int .i64 0] 23)
  have B := bb
  clear bb
  go_enter Tryd.func40, Tryd.ntmps40
  go_wp2_with fail
  generalize (w.alloc (.cells #[.int .i64 0, .int .i64 0, .int .i64 0, .int .i64 0] 23)) = w0 at *
  obtain ⟨te, hg⟩ := vr
  refine bodyPost_ret_by (results_cell_tmp rfl _ _ (w.heap.size) te _ (0, 0) _ rfl hg Tryd.underlying23 rfl (by kernel_rfl) (.int .i64 1) rfl) rfl ?_
  exact ⟨rfl, B⟩

theorem sum_parts {a x d u : Int} (h1 : a.natAbs ≤ 960) (h2 : x.natAbs ≤ 960) (h3 : d.natAbs ≤ 24) (h4 : u.natAbs ≤ 24) :
    (a * u + x * d).natAbs ≤ 46080 ∧ wrap64 (wrap64 (a * u) + wrap64 (x * d)) = a * u + x * d := by
  have p1 := abs_mul_le h1 h4
  have p2 := abs_mul_le h2 h3
  rw [wrap64_small (x := a * u) (by omega), wrap64_small (x := x * d) (by omega)]
  generalize a * u = p at *
  generalize x * d = q at *
  exact ⟨by omega, wrap64_small (by omega)⟩

set_option maxRecDepth 100000 in
set_option maxHeartbeats 1000000 in
theorem rmulT_ok (s t : T4) (w : World) (hs : validB s.a s.b s.c s.d = true) (ht : validB t.a t.b t.c t.d = true) :
    Calls Tryd.prog 33 #[.agg #[.int .i64 s.a, .int .i64 s.b, .int .i64 s.c, .int .i64 s.d], .agg #[.int .i64 t.a, .int .i64 t.b, .int .i64 t.c, .int .i64 t.d]] w (RetT w (mulT s t)) := by
  obtain ⟨p1, p2, p3, p4, p5, p6⟩ := validB_parts hs
  obtain ⟨q1, q2, q3, q4, q5, q6⟩ := validB_parts ht
  obtain ⟨g1, k1⟩ := sum_parts (a := s.a) (x := t.a) (d := s.d) (u := t.d) (by omega) (by omega) (by omega) (by omega)
  obtain ⟨g2, k2⟩ := sum_parts (a := s.b) (x := t.b) (d := s.d) (u := t.d) (by omega) (by omega) (by omega) (by omega)
  obtain ⟨g3, k3⟩ := sum_parts (a := s.c) (x := t.c) (d := s.d) (u := t.d) (by omega) (by omega) (by omega) (by omega)
  have k4 := wrap_den hs ht
  obtain ⟨d1, d2⟩ := den_i64 hs ht
  have R := fun w : World => rmake_ok (s.a * t.d + t.a * s.d) (s.b * t.d + t.b * s.d) (s.c * t.d + t.c * s.d) (s.d * t.d) w (by unfold i64; omega) (by unfold i64; omega) (by unfold i64; omega) d1 d2
  have e0 : mulT s t = redT (s.a * t.d + t.a * s.d) (s.b * t.d + t.b * s.d) (s.c * t.d + t.c * s.d) (s.d * t.d) := rfl
  rw [e0]
  have HR := Lib.hid R
  have K1 := Lib.hid k1
  have K2 := Lib.hid k2
  have K3 := Lib.hid k3
  have K4 := Lib.hid k4
  clear R hs ht p1 p2 p3 p4 p5 p6 q1 q2 q3 q4 q5 q6 g1 g2 g3 k1 k2 k3 k4 d1 d2 e0
  generalize hr : redT (s.a * t.d + t.a * s.d) (s.b * t.d + t.b * s.d) (s.c * t.d + t.c * s.d) (s.d * t.d) = r at *
  obtain ⟨⟨x, y, z, u⟩, k⟩ := r
  try dsimp only at *
  clear hr
  have vs := Vals.newL w (w.heap.size) [.int .i64 s.a, .int .i64 s.b, .int .i64 s.c, .int .i64 s.d] 23 rfl
  have bb := below_alloc w (.cells #[.int .i64 s.a, .int .i64 s.b, .int .i64 s.c, .int .i64 s.d] 23)
  have B := bb
  have sz0 := World.size_alloc w (.cells #[.int .i64 s.a, .int .i64 s.b, .int .i64 s.c, .int .i64 s.d] 23)
  have sz := sz0
  clear sz0
  clear bb
  have vt := Vals.newL (w.alloc (.cells #[.int .i64 s.a, .int .i64 s.b, .int .i64 s.c, .int .i64 s.d] 23)) (w.heap.size + 1) [.int .i64 t.a, .int .i64 t.b, .int .i64 t.c, .int .i64 t.d] 23 sz.symm
  have bb := below_alloc (w.alloc (.cells #[.int .i64 s.a, .int .i64 s.b, .int .i64 s.c, .int .i64 s.d] 23)) (.cells #[.int .i64 t.a, .int .i64 t.b, .int .i64 t.c, .int .i64 t.d] 23)
  replace vs := vs.mono bb
  replace B := below_trans B bb
  clear bb
  have sz1 := World.size_alloc (w.alloc (.cells #[.int .i64 s.a, .int .i64 s.b, .int .i64 s.c, .int .i64 s.d] 23)) (.cells #[.int .i64 t.a, .int .i64 t.b, .int .i64 t.c, .int .i64 t.d] 23)
  rw [sz] at sz1
  clear sz
  have sz := sz1
  clear sz1
  have vr := Vals.newL ((w.alloc (.cells #[.int .i64 s.a, .int .i64 s.b, .int .i64 s.c, .int .i64 s.d] 23)).alloc (.cells #[.int .i64 t.a, .int .i64 t.b, .int .i64 t.c, .int .i64 t.d] 23)) (w.heap.size + 1 + 1) [.int .i64 0, .int .i64 0, .int .i64 0, .int .i64 0] 23 sz.symm
  have bb := below_alloc ((w.alloc (.cells #[.int .i64 s.a, .int .i64 s.b, .int .i64 s.c, .int .i64 s.d] 23)).alloc (.cells #[.int .i64 t.a, .int .i64 t.b, .int .i64 t.c, .int .i64 t.d] 23)) (.cells #[.int .i64 0, .int .i64 0, .int .i64 0, .int .i64 0] 23)
  replace vs := vs.mono bb
  replace vt := vt.mono bb
  replace B := below_trans B bb
  clear sz
  clear bb
  go_enter Tryd.func33, Tryd.ntmps33
  go_wp2_with fail
  generalize (((w.alloc (.cells #[.int .i64 s.a, .int .i64 s.b, .int .i64 s.c, .int .i64 s.d] 23)).alloc (.cells #[.int .i64 t.a, .int .i64 t.b, .int .i64 t.c, .int .i64 t.d] 23)).alloc (.cells #[.int .i64 0, .int .i64 0, .int .i64 0, .int .i64 0] 23)) = w0 at *
  have cvs0 := vs.cell (i := 0) (by simp)
  have cvs1 := vs.cell (i := 1) (by simp)
  have cvs2 := vs.cell (i := 2) (by simp)
  have cvs3 := vs.cell (i := 3) (by simp)
  simp only [List.getD_cons_zero, List.getD_cons_succ] at cvs0 cvs1 cvs2 cvs3
  have ltvs := vs.lt
  have cvt0 := vt.cell (i := 0) (by simp)
  have cvt1 := vt.cell (i := 1) (by simp)
  have cvt2 := vt.cell (i := 2) (by simp)
  have cvt3 := vt.cell (i := 3) (by simp)
  simp only [List.getD_cons_zero, List.getD_cons_succ] at cvt0 cvt1 cvt2 cvt3
  have ltvt := vt.lt
  try go_wp2_with fail
  clear cvs0 cvs1 cvs2 cvs3 ltvs cvt0 cvt1 cvt2 cvt3 ltvt
  rw [K1.out, K2.out, K3.out, K4.out]
  refine (HR.out _).mono ?_
  rintro e w1 ⟨rfl, b1⟩
  replace vs := vs.mono b1
  replace vt := vt.mono b1
  replace vr := vr.mono b1
  replace B := below_trans B b1
  clear b1
  have cvr0 := vr.cell (i := 0) (by simp)
  have cvr1 := vr.cell (i := 1) (by simp)
  have cvr2 := vr.cell (i := 2) (by simp)
  have cvr3 := vr.cell (i := 3) (by simp)
  simp only [List.getD_cons_zero, List.getD_cons_succ] at cvr0 cvr1 cvr2 cvr3
  have ltvr := vr.lt
  have fvr0 := vr.frozen 0
  have fvr1 := vr.frozen 1
  have fvr2 := vr.frozen 2
  have fvr3 := vr.frozen 3
  go_wp2
  obtain ⟨te, hg⟩ := vr.set4 (.int .i64 x) (.int .i64 y) (.int .i64 z) (.int .i64 u)
  refine bodyPost_ret_by (results_cell_tmp rfl _ _ (w.heap.size + 1 + 1) te _ (0, 0) _ rfl hg Tryd.underlying23 rfl (by kernel_rfl) (.int .i64 k) rfl) rfl ?_
  exact ⟨rfl, below_set4 B (by omega) _ _ _ _⟩

set_option maxRecDepth 100000 in
set_option maxHeartbeats 1000000 in
theorem rdivT_ok (s t : T4) (w : World) (hs : validB s.a s.b s.c s.d = true) (ht : validB t.a t.b t.c t.d = true) :
    Calls Tryd.prog 34 #[.agg #[.int .i64 s.a, .int .i64 s.b, .int .i64 s.c, .int .i64 s.d], .agg #[.int .i64 t.a, .int .i64 t.b, .int .i64 t.c, .int .i64 t.d]] w (RetT w (divT s t)) := by
  obtain ⟨p1, p2, p3, p4, p5, p6⟩ := validB_parts hs
  obtain ⟨q1, q2, q3, q4, q5, q6⟩ := validB_parts ht
  obtain ⟨g1, k1⟩ := dif_parts (a := s.a) (x := t.a) (d := s.d) (u := t.d) (by omega) (by omega) (by omega) (by omega)
  obtain ⟨g2, k2⟩ := dif_parts (a := s.b) (x := t.b) (d := s.d) (u := t.d) (by omega) (by omega) (by omega) (by omega)
  obtain ⟨g3, k3⟩ := dif_parts (a := s.c) (x := t.c) (d := s.d) (u := t.d) (by omega) (by omega) (by omega) (by omega)
  have k4 := wrap_den hs ht
  obtain ⟨d1, d2⟩ := den_i64 hs ht
  have R := fun w : World => rmake_ok (s.a * t.d - t.a * s.d) (s.b * t.d - t.b * s.d) (s.c * t.d - t.c * s.d) (s.d * t.d) w (by unfold i64; omega) (by unfold i64; omega) (by unfold i64; omega) d1 d2
  have e0 : divT s t = redT (s.a * t.d - t.a * s.d) (s.b * t.d - t.b * s.d) (s.c * t.d - t.c * s.d) (s.d * t.d) := rfl
  rw [e0]
  have HR := Lib.hid R
  have K1 := Lib.hid k1
  have K2 := Lib.hid k2
  have K3 := Lib.hid k3
  have K4 := Lib.hid k4
  clear R hs ht p1 p2 p3 p4 p5 p6 q1 q2 q3 q4 q5 q6 g1 g2 g3 k1 k2 k3 k4 d1 d2 e0
  generalize hr : redT (s.a * t.d - t.a * s.d) (s.b * t.d - t.b * s.d) (s.c * t.d - t.c * s.d) (s.d * t.d) = r at *
  obtain ⟨⟨x, y, z, u⟩, k⟩ := r
  try dsimp only at *
  clear hr
  have vs := Vals.newL w (w.heap.size) [.int .i64 s.a, .int .i64 s.b, .int .i64 s.c, .int .i64 s.d] 23 rfl
  have bb := below_alloc w (.cells #[.int .i64 s.a, .int .i64 s.b, .int .i64 s.c, .int .i64 s.d] 23)
  have B := bb
  have sz0 := World.size_alloc w (.cells #[.int .i64 s.a, .int .i64 s.b, .int .i64 s.c, .int .i64 s.d] 23)
  have sz := sz0
  clear sz0
  clear bb
  have vt := Vals.newL (w.alloc (.cells #[.int .i64 s.a, .int .i64 s.b, .int .i64 s.c, .int .i64 s.d] 23)) (w.heap.size + 1) [.int .i64 t.a, .int .i64 t.b, .int .i64 t.c, .int .i64 t.d] 23 sz.symm
  have bb := below_alloc (w.alloc (.cells #[.int .i64 s.a, .int .i64 s.b, .int .i64 s.c, .int .i64 s.d] 23)) (.cells #[.int .i64 t.a, .int .i64 t.b, .int .i64 t.c, .int .i64 t.d] 23)
  replace vs := vs.mono bb
  replace B := below_trans B bb
  clear bb
  have sz1 := World.size_alloc (w.alloc (.cells #[.int .i64 s.a, .int .i64 s.b, .int .i64 s.c, .int .i64 s.d] 23)) (.cells #[.int .i64 t.a, .int .i64 t.b, .int .i64 t.c, .int .i64 t.d] 23)
  rw [sz] at sz1
  clear sz
  have sz := sz1
  clear sz1
  have vr := Vals.newL ((w.alloc (.cells #[.int .i64 s.a, .int .i64 s.b, .int .i64 s.c, .int .i64 s.d] 23)).alloc (.cells #[.int .i64 t.a, .int .i64 t.b, .int .i64 t.c, .int .i64 t.d] 23)) (w.heap.size + 1 + 1) [.int .i64 0, .int .i64 0, .int .i64 0, .int .i64 0] 23 sz.symm
  have bb := below_alloc ((w.alloc (.cells #[.int .i64 s.a, .int .i64 s.b, .int .i64 s.c, .int .i64 s.d] 23)).alloc (.cells #[.int .i64 t.a, .int .i64 t.b, .int .i64 t.c, .int .i64 t.d] 23)) (.cells #[.int .i64 0, .int .i64 0, .int .i64 0, .int .i64 0] 23)
  replace vs := vs.mono bb
  replace vt := vt.mono bb
  replace B := below_trans B bb
  clear sz
  clear bb
  go_enter Tryd.func34, Tryd.ntmps34
  go_wp2_with fail
  generalize (((w.alloc (.cells #[.int .i64 s.a, .int .i64 s.b, .int .i64 s.c, .int .i64 s.d] 23)).alloc (.cells #[.int .i64 t.a, .int .i64 t.b, .int .i64 t.c, .int .i64 t.d] 23)).alloc (.cells #[.int .i64 0, .int .i64 0, .int .i64 0, .int .i64 0] 23)) = w0 at *
  have cvs0 := vs.cell (i := 0) (by simp)
  have cvs1 := vs.cell (i := 1) (by simp)
  have cvs2 := vs.cell (i := 2) (by simp)
  have cvs3 := vs.cell (i := 3) (by simp)
  simp only [List.getD_cons_zero, List.getD_cons_succ] at cvs0 cvs1 cvs2 cvs3
  have ltvs := vs.lt
  have cvt0 := vt.cell (i := 0) (by simp)
  have cvt1 := vt.cell (i := 1) (by simp)
  have cvt2 := vt.cell (i := 2) (by simp)
  have cvt3 := vt.cell (i := 3) (by simp)
  simp only [List.getD_cons_zero, List.getD_cons_succ] at cvt0 cvt1 cvt2 cvt3
  have ltvt := vt.lt
  try go_wp2_with fail
  clear cvs0 cvs1 cvs2 cvs3 ltvs cvt0 cvt1 cvt2 cvt3 ltvt
  rw [K1.out, K2.out, K3.out, K4.out]
  refine (HR.out _).mono ?_
  rintro e w1 ⟨rfl, b1⟩
  replace vs := vs.mono b1
  replace vt := vt.mono b1
  replace vr := vr.mono b1
  replace B := below_trans B b1
  clear b1
  have cvr0 := vr.cell (i := 0) (by simp)
  have cvr1 := vr.cell (i := 1) (by simp)
  have cvr2 := vr.cell (i := 2) (by simp)
  have cvr3 := vr.cell (i := 3) (by simp)
  simp only [List.getD_cons_zero, List.getD_cons_succ] at cvr0 cvr1 cvr2 cvr3
  have ltvr := vr.lt
  have fvr0 := vr.frozen 0
  have fvr1 := vr.frozen 1
  have fvr2 := vr.frozen 2
  have fvr3 := vr.frozen 3
  go_wp2
  obtain ⟨te, hg⟩ := vr.set4 (.int .i64 x) (.int .i64 y) (.int .i64 z) (.int .i64 u)
  refine bodyPost_ret_by (results_cell_tmp rfl _ _ (w.heap.size + 1 + 1) te _ (0, 0) _ rfl hg Tryd.underlying23 rfl (by kernel_rfl) (.int .i64 k) rfl) rfl ?_
  exact ⟨rfl, below_set4 B (by omega) _ _ _ _⟩

end Go.Proofs
