/- tone: Make, Check, Comma, joined, Mul, Div. -/
import Derived.Test.YtgdgdaofmjnepaaDoorTone2
import Derived.Test.YtgdgdaofmjnepaaDoorToneGroup
import Derived.Test.YtgdgdaofmjnepaaDoorCompare
open Go.RowKit Go.Deep
namespace Go.Proofs
set_option linter.unusedVariables false

theorem abs_mul_le {a b : Int} {A B : Nat} (h1 : a.natAbs ≤ A) (h2 : b.natAbs ≤ B) : (a * b).natAbs ≤ A * B := by
  rw [Int.natAbs_mul]; exact Nat.mul_le_mul h1 h2

theorem join_parts {s t : T4} {σ a b : Int} (ha : a.natAbs ≤ 960) (hb : b.natAbs ≤ 960) (hs : validB s.a s.b s.c s.d = true) (ht : validB t.a t.b t.c t.d = true) (hq : σ = 1 ∨ σ = -1) :
    (a * t.d).natAbs ≤ 960 * 24 ∧ (σ * s.d).natAbs ≤ 1 * 24 ∧ (b * (σ * s.d)).natAbs ≤ 960 * (1 * 24) := by
  have h1 := validB_parts hs
  have h2 := validB_parts ht
  have h3 : (σ * s.d).natAbs ≤ 1 * 24 := abs_mul_le (by omega) (by omega)
  exact ⟨abs_mul_le ha (by omega), h3, abs_mul_le hb h3⟩

theorem join_i64 {s t : T4} {σ a b : Int} (ha : a.natAbs ≤ 960) (hb : b.natAbs ≤ 960) (hs : validB s.a s.b s.c s.d = true) (ht : validB t.a t.b t.c t.d = true) (hq : σ = 1 ∨ σ = -1) :
    i64 (a * t.d + b * (σ * s.d)) := by
  obtain ⟨h1, h2, h3⟩ := join_parts ha hb hs ht hq
  unfold i64
  generalize a * t.d = p at *
  generalize b * (σ * s.d) = q at *
  omega

theorem wrap64_small {x : Int} (h : x.natAbs ≤ 1000000000000000000) : wrap64 x = x := by
  unfold wrap64; omega

theorem wrap_join {s t : T4} {σ a b : Int} (ha : a.natAbs ≤ 960) (hb : b.natAbs ≤ 960) (hs : validB s.a s.b s.c s.d = true) (ht : validB t.a t.b t.c t.d = true) (hq : σ = 1 ∨ σ = -1) :
    wrap64 (wrap64 (a * t.d) + wrap64 (b * wrap64 (σ * s.d))) = a * t.d + b * (σ * s.d) := by
  obtain ⟨h1, h2, h3⟩ := join_parts ha hb hs ht hq
  rw [wrap64_small (x := σ * s.d) (by omega), wrap64_small (x := b * (σ * s.d)) (by omega), wrap64_small (x := a * t.d) (by omega)]
  generalize a * t.d = p at *
  generalize b * (σ * s.d) = q at *
  exact wrap64_small (by omega)

theorem den_i64 {s t : T4} (hs : validB s.a s.b s.c s.d = true) (ht : validB t.a t.b t.c t.d = true) : i64 (s.d * t.d) ∧ 1 ≤ s.d * t.d := by
  have h1 := validB_parts hs
  have h2 := validB_parts ht
  have h3 : (s.d * t.d).natAbs ≤ 24 * 24 := abs_mul_le (by omega) (by omega)
  have h4 := prod_pos h1.2.1 h2.2.1
  unfold i64
  generalize s.d * t.d = p at *
  omega

theorem wrap_den {s t : T4} (hs : validB s.a s.b s.c s.d = true) (ht : validB t.a t.b t.c t.d = true) : wrap64 (s.d * t.d) = s.d * t.d := by
  have h1 := validB_parts hs
  have h2 := validB_parts ht
  exact wrap64_small (Nat.le_trans (abs_mul_le (A := 24) (B := 24) (by omega) (by omega)) (by omega))

theorem validB_i64 {t : T4} (h : validB t.a t.b t.c t.d = true) : i64 t.a ∧ i64 t.b ∧ i64 t.c ∧ i64 t.d := by
  have := validB_parts h
  unfold i64
  omega

set_option maxRecDepth 100000 in
theorem make_ok (a b c d : Int) (w : World) (ha : i64 a) (hb : i64 b) (hc : i64 c) (hd : i64 d) (h1 : 1 ≤ d) :
    Calls Tryd.prog 39 #[.int .i64 a, .int .i64 b, .int .i64 c, .int .i64 d] w (RetT w (redT a b c d)) := by
  have R := fun w : World => reduce_calls a b c d w ha hb hc hd h1
  generalize redT a b c d = r at *
  obtain ⟨⟨x, y, z, t⟩, k⟩ := r
  have HR := Lib.hid R
  have t1 : ¬ d < 1 := by omega
  clear R ha hb hc hd h1
  have vr := Vals.newL w (w.heap.size) [.int .i64 0, .int .i64 0, .int .i64 0, .int .i64 0] 23 rfl
  have bb := below_alloc w (.cells #[.int .i64 0, .int .i64 0, .int .i64 0, .int .i64 0] 23)
  have B := bb
  clear bb
  go_enter Tryd.func39, Tryd.ntmps39
  go_wp2_with fail
  generalize (w.alloc (.cells #[.int .i64 0, .int .i64 0, .int .i64 0, .int .i64 0] 23)) = w0 at *
  refine (HR.out _).mono ?_
  rintro e w1 ⟨rfl, b1⟩
  replace vr := vr.mono b1
  replace B := below_trans B b1
  clear b1
  have cvr0 := vr.cell (i := 0) (by simp)
  have cvr1 := vr.cell (i := 1) (by simp)
  have cvr2 := vr.cell (i := 2) (by simp)
  have cvr3 := vr.cell (i := 3) (by simp)
  simp only [List.getD_cons_zero, List.getD_cons_succ] at cvr0 cvr1 cvr2 cvr3
  have fvr0 := vr.frozen 0
  have fvr1 := vr.frozen 1
  have fvr2 := vr.frozen 2
  have fvr3 := vr.frozen 3
  go_wp2
  obtain ⟨te, hg⟩ := vr.set4 (.int .i64 x) (.int .i64 y) (.int .i64 z) (.int .i64 t)
  refine bodyPost_ret_by (results_cell_tmp rfl _ _ (w.heap.size) te _ (0, 0) _ rfl hg Tryd.underlying23 rfl (by kernel_rfl) (.int .i64 k) rfl) rfl ?_
  exact ⟨rfl, below_set4 B (by omega) _ _ _ _⟩

set_option maxRecDepth 100000 in
theorem make_bad (a b c d : Int) (w : World) (h1 : d < 1) :
    Calls Tryd.prog 39 #[.int .i64 a, .int .i64 b, .int .i64 c, .int .i64 d] w (RetT w (⟨0, 0, 0, 0⟩, 1)) := by
  have vr := Vals.newL w (w.heap.size) [.int .i64 0, .int .i64 0, .int .i64 0, .int .i64 0] 23 rfl
  have bb := below_alloc w (.cells #[.int .i64 0, .int .i64 0, .int .i64 0, .int .i64 0] 23)
  have B := bb
  clear bb
  go_enter Tryd.func39, Tryd.ntmps39
  go_wp2_with fail
  generalize (w.alloc (.cells #[.int .i64 0, .int .i64 0, .int .i64 0, .int .i64 0] 23)) = w0 at *
  obtain ⟨te, hg⟩ := vr
  refine bodyPost_ret_by (results_cell_tmp rfl _ _ (w.heap.size) te _ (0, 0) _ rfl hg Tryd.underlying23 rfl (by kernel_rfl) (.int .i64 1) rfl) rfl ?_
  exact ⟨rfl, B⟩

theorem check_true (s : T4) (w : World) (ha : i64 s.a) (hb : i64 s.b) (hc : i64 s.c) (hd : i64 s.d) (hv : validB s.a s.b s.c s.d = true) :
    Calls Tryd.prog 41 #[.agg #[.int .i64 s.a, .int .i64 s.b, .int .i64 s.c, .int .i64 s.d]] w fun e w' => e = .returned (.int .i64 0) ∧ Below w.heap.size w w' := by
  have V := fun w : World => tvalid_calls s.a s.b s.c s.d w ha hb hc hd
  rw [hv] at V
  have HV := Lib.hid V
  clear V ha hb hc hd hv
  have vx := Vals.newL w (w.heap.size) [.int .i64 s.a, .int .i64 s.b, .int .i64 s.c, .int .i64 s.d] 23 rfl
  have bb := below_alloc w (.cells #[.int .i64 s.a, .int .i64 s.b, .int .i64 s.c, .int .i64 s.d] 23)
  have B := bb
  clear bb
  go_enter Tryd.func41, Tryd.ntmps41
  go_wp2_with fail
  generalize (w.alloc (.cells #[.int .i64 s.a, .int .i64 s.b, .int .i64 s.c, .int .i64 s.d] 23)) = w0 at *
  refine (HV.out _).mono ?_
  rintro e w1 ⟨rfl, b1⟩
  replace vx := vx.mono b1
  replace B := below_trans B b1
  clear b1
  go_wp2
  go_ret
  exact ⟨rfl, B⟩

theorem check_false (s : T4) (w : World) (ha : i64 s.a) (hb : i64 s.b) (hc : i64 s.c) (hd : i64 s.d) (hv : validB s.a s.b s.c s.d = false) :
    Calls Tryd.prog 41 #[.agg #[.int .i64 s.a, .int .i64 s.b, .int .i64 s.c, .int .i64 s.d]] w fun e w' => e = .returned (.int .i64 2) ∧ Below w.heap.size w w' := by
  have V := fun w : World => tvalid_calls s.a s.b s.c s.d w ha hb hc hd
  rw [hv] at V
  have HV := Lib.hid V
  clear V ha hb hc hd hv
  have vx := Vals.newL w (w.heap.size) [.int .i64 s.a, .int .i64 s.b, .int .i64 s.c, .int .i64 s.d] 23 rfl
  have bb := below_alloc w (.cells #[.int .i64 s.a, .int .i64 s.b, .int .i64 s.c, .int .i64 s.d] 23)
  have B := bb
  clear bb
  go_enter Tryd.func41, Tryd.ntmps41
  go_wp2_with fail
  generalize (w.alloc (.cells #[.int .i64 s.a, .int .i64 s.b, .int .i64 s.c, .int .i64 s.d] 23)) = w0 at *
  refine (HV.out _).mono ?_
  rintro e w1 ⟨rfl, b1⟩
  replace vx := vx.mono b1
  replace B := below_trans B b1
  clear b1
  go_wp2
  go_ret
  exact ⟨rfl, B⟩

theorem comma_0 (z : Int) (w : World) (hz : z = 0) :
    Calls Tryd.prog 42 #[.int .i64 z] w (RetT w (⟨(-19), 12, 0, 1⟩, 0)) := by
  have t0 : (z == 0) = true := by rw [beq_iff_eq]; omega
  have t1 : (z == 1) = false := by rw [beq_eq_false_iff_ne]; omega
  have t2 : (z == 2) = false := by rw [beq_eq_false_iff_ne]; omega
  have t3 : (z == 3) = false := by rw [beq_eq_false_iff_ne]; omega
  subst hz
  clear t0 t1 t2 t3
  have vr := Vals.newL w w.heap.size [.int .i64 (-19), .int .i64 12, .int .i64 0, .int .i64 1] 23 rfl
  have B := below_alloc w (.cells #[.int .i64 (-19), .int .i64 12, .int .i64 0, .int .i64 1] 23)
  go_enter Tryd.func42, Tryd.ntmps42
  go_wp2
  obtain ⟨te, hg⟩ := vr
  refine bodyPost_ret_by (results_cell_tmp rfl _ _ (w.heap.size) te _ (0, 0) _ rfl hg Tryd.underlying23 rfl (by kernel_rfl) (.int .i64 0) rfl) rfl ?_
  exact ⟨rfl, B⟩

theorem comma_1 (z : Int) (w : World) (hz : z = 1) :
    Calls Tryd.prog 42 #[.int .i64 z] w (RetT w (⟨(-4), 4, (-1), 1⟩, 0)) := by
  have t0 : (z == 0) = false := by rw [beq_eq_false_iff_ne]; omega
  have t1 : (z == 1) = true := by rw [beq_iff_eq]; omega
  have t2 : (z == 2) = false := by rw [beq_eq_false_iff_ne]; omega
  have t3 : (z == 3) = false := by rw [beq_eq_false_iff_ne]; omega
  subst hz
  clear t0 t1 t2 t3
  have vr := Vals.newL w w.heap.size [.int .i64 (-4), .int .i64 4, .int .i64 (-1), .int .i64 1] 23 rfl
  have B := below_alloc w (.cells #[.int .i64 (-4), .int .i64 4, .int .i64 (-1), .int .i64 1] 23)
  go_enter Tryd.func42, Tryd.ntmps42
  go_wp2
  obtain ⟨te, hg⟩ := vr
  refine bodyPost_ret_by (results_cell_tmp rfl _ _ (w.heap.size) te _ (0, 0) _ rfl hg Tryd.underlying23 rfl (by kernel_rfl) (.int .i64 0) rfl) rfl ?_
  exact ⟨rfl, B⟩

theorem comma_2 (z : Int) (w : World) (hz : z = 2) :
    Calls Tryd.prog 42 #[.int .i64 z] w (RetT w (⟨(-15), 8, 1, 1⟩, 0)) := by
  have t0 : (z == 0) = false := by rw [beq_eq_false_iff_ne]; omega
  have t1 : (z == 1) = false := by rw [beq_eq_false_iff_ne]; omega
  have t2 : (z == 2) = true := by rw [beq_iff_eq]; omega
  have t3 : (z == 3) = false := by rw [beq_eq_false_iff_ne]; omega
  subst hz
  clear t0 t1 t2 t3
  have vr := Vals.newL w w.heap.size [.int .i64 (-15), .int .i64 8, .int .i64 1, .int .i64 1] 23 rfl
  have B := below_alloc w (.cells #[.int .i64 (-15), .int .i64 8, .int .i64 1, .int .i64 1] 23)
  go_enter Tryd.func42, Tryd.ntmps42
  go_wp2
  obtain ⟨te, hg⟩ := vr
  refine bodyPost_ret_by (results_cell_tmp rfl _ _ (w.heap.size) te _ (0, 0) _ rfl hg Tryd.underlying23 rfl (by kernel_rfl) (.int .i64 0) rfl) rfl ?_
  exact ⟨rfl, B⟩

theorem comma_3 (z : Int) (w : World) (hz : z = 3) :
    Calls Tryd.prog 42 #[.int .i64 z] w (RetT w (⟨7, 0, (-3), 1⟩, 0)) := by
  have t0 : (z == 0) = false := by rw [beq_eq_false_iff_ne]; omega
  have t1 : (z == 1) = false := by rw [beq_eq_false_iff_ne]; omega
  have t2 : (z == 2) = false := by rw [beq_eq_false_iff_ne]; omega
  have t3 : (z == 3) = true := by rw [beq_iff_eq]; omega
  subst hz
  clear t0 t1 t2 t3
  have vr := Vals.newL w w.heap.size [.int .i64 7, .int .i64 0, .int .i64 (-3), .int .i64 1] 23 rfl
  have B := below_alloc w (.cells #[.int .i64 7, .int .i64 0, .int .i64 (-3), .int .i64 1] 23)
  go_enter Tryd.func42, Tryd.ntmps42
  go_wp2
  obtain ⟨te, hg⟩ := vr
  refine bodyPost_ret_by (results_cell_tmp rfl _ _ (w.heap.size) te _ (0, 0) _ rfl hg Tryd.underlying23 rfl (by kernel_rfl) (.int .i64 0) rfl) rfl ?_
  exact ⟨rfl, B⟩

theorem comma_4 (z : Int) (w : World) (hz : z < 0 ∨ 3 < z) :
    Calls Tryd.prog 42 #[.int .i64 z] w (RetT w (⟨0, 0, 0, 0⟩, 1)) := by
  have t0 : (z == 0) = false := by rw [beq_eq_false_iff_ne]; omega
  have t1 : (z == 1) = false := by rw [beq_eq_false_iff_ne]; omega
  have t2 : (z == 2) = false := by rw [beq_eq_false_iff_ne]; omega
  have t3 : (z == 3) = false := by rw [beq_eq_false_iff_ne]; omega
  clear hz
  have vr := Vals.newL w w.heap.size [.int .i64 0, .int .i64 0, .int .i64 0, .int .i64 0] 23 rfl
  have B := below_alloc w (.cells #[.int .i64 0, .int .i64 0, .int .i64 0, .int .i64 0] 23)
  go_enter Tryd.func42, Tryd.ntmps42
  go_wp2
  obtain ⟨te, hg⟩ := vr
  refine bodyPost_ret_by (results_cell_tmp rfl _ _ (w.heap.size) te _ (0, 0) _ rfl hg Tryd.underlying23 rfl (by kernel_rfl) (.int .i64 1) rfl) rfl ?_
  exact ⟨rfl, B⟩

set_option maxRecDepth 100000 in
theorem joined_ok (s t : T4) (σ : Int) (w : World) (hs : validB s.a s.b s.c s.d = true) (ht : validB t.a t.b t.c t.d = true) (hq : σ = 1 ∨ σ = -1) :
    Calls Tryd.prog 76 #[.agg #[.int .i64 s.a, .int .i64 s.b, .int .i64 s.c, .int .i64 s.d], .agg #[.int .i64 t.a, .int .i64 t.b, .int .i64 t.c, .int .i64 t.d], .int .i64 σ] w (RetT w (redT (s.a * t.d + t.a * (σ * s.d)) (s.b * t.d + t.b * (σ * s.d)) (s.c * t.d + t.c * (σ * s.d)) (s.d * t.d))) := by
  have VA := fun w : World => tvalid_calls s.a s.b s.c s.d w (validB_i64 hs).1 (validB_i64 hs).2.1 (validB_i64 hs).2.2.1 (validB_i64 hs).2.2.2
  have VB := fun w : World => tvalid_calls t.a t.b t.c t.d w (validB_i64 ht).1 (validB_i64 ht).2.1 (validB_i64 ht).2.2.1 (validB_i64 ht).2.2.2
  rw [hs] at VA
  rw [ht] at VB
  have HA := Lib.hid VA
  have HB := Lib.hid VB
  have R := fun w : World => reduce_calls (s.a * t.d + t.a * (σ * s.d)) (s.b * t.d + t.b * (σ * s.d)) (s.c * t.d + t.c * (σ * s.d)) (s.d * t.d) w (join_i64 (validB_parts hs).2.2.2.1 (validB_parts ht).2.2.2.1 hs ht hq) (join_i64 (validB_parts hs).2.2.2.2.1 (validB_parts ht).2.2.2.2.1 hs ht hq) (join_i64 (validB_parts hs).2.2.2.2.2 (validB_parts ht).2.2.2.2.2 hs ht hq) (den_i64 hs ht).1 (den_i64 hs ht).2
  have E1 := Lib.hid (wrap_join (validB_parts hs).2.2.2.1 (validB_parts ht).2.2.2.1 hs ht hq)
  have E2 := Lib.hid (wrap_join (validB_parts hs).2.2.2.2.1 (validB_parts ht).2.2.2.2.1 hs ht hq)
  have E3 := Lib.hid (wrap_join (validB_parts hs).2.2.2.2.2 (validB_parts ht).2.2.2.2.2 hs ht hq)
  have E4 := Lib.hid (wrap_den hs ht)
  have HR := Lib.hid R
  generalize redT (s.a * t.d + t.a * (σ * s.d)) (s.b * t.d + t.b * (σ * s.d)) (s.c * t.d + t.c * (σ * s.d)) (s.d * t.d) = r at *
  obtain ⟨⟨x, y, z, u⟩, k⟩ := r
  clear VA VB R hs ht hq
  have vs := Vals.newL w (w.heap.size) [.int .i64 s.a, .int .i64 s.b, .int .i64 s.c, .int .i64 s.d] 23 rfl
  have bb := below_alloc w (.cells #[.int .i64 s.a, .int .i64 s.b, .int .i64 s.c, .int .i64 s.d] 23)
  have B := bb
  have sz0 := World.size_alloc w (.cells #[.int .i64 s.a, .int .i64 s.b, .int .i64 s.c, .int .i64 s.d] 23)
  have sz := sz0
  clear sz0
  clear bb
  have vt := Vals.newL (w.alloc (.cells #[.int .i64 s.a, .int .i64 s.b, .int .i64 s.c, .int .i64 s.d] 23)) (w.heap.size + 1) [.int .i64 t.a, .int .i64 t.b, .int .i64 t.c, .int .i64 t.d] 23 sz.symm
  have bb := below_alloc (w.alloc (.cells #[.int .i64 s.a, .int .i64 s.b, .int .i64 s.c, .int .i64 s.d] 23)) (.cells #[.int .i64 t.a, .int .i64 t.b, .int .i64 t.c, .int .i64 t.d] 23)
  replace vs := vs.mono bb
  replace B := below_trans B bb
  clear bb
  have sz1 := World.size_alloc (w.alloc (.cells #[.int .i64 s.a, .int .i64 s.b, .int .i64 s.c, .int .i64 s.d] 23)) (.cells #[.int .i64 t.a, .int .i64 t.b, .int .i64 t.c, .int .i64 t.d] 23)
  rw [sz] at sz1
  clear sz
  have sz := sz1
  clear sz1
  have vr := Vals.newL ((w.alloc (.cells #[.int .i64 s.a, .int .i64 s.b, .int .i64 s.c, .int .i64 s.d] 23)).alloc (.cells #[.int .i64 t.a, .int .i64 t.b, .int .i64 t.c, .int .i64 t.d] 23)) (w.heap.size + 1 + 1) [.int .i64 0, .int .i64 0, .int .i64 0, .int .i64 0] 23 sz.symm
  have bb := below_alloc ((w.alloc (.cells #[.int .i64 s.a, .int .i64 s.b, .int .i64 s.c, .int .i64 s.d] 23)).alloc (.cells #[.int .i64 t.a, .int .i64 t.b, .int .i64 t.c, .int .i64 t.d] 23)) (.cells #[.int .i64 0, .int .i64 0, .int .i64 0, .int .i64 0] 23)
  replace vs := vs.mono bb
  replace vt := vt.mono bb
  replace B := below_trans B bb
  clear sz
  clear bb
  go_enter Tryd.func76, Tryd.ntmps76
  go_wp2_with fail
  generalize (((w.alloc (.cells #[.int .i64 s.a, .int .i64 s.b, .int .i64 s.c, .int .i64 s.d] 23)).alloc (.cells #[.int .i64 t.a, .int .i64 t.b, .int .i64 t.c, .int .i64 t.d] 23)).alloc (.cells #[.int .i64 0, .int .i64 0, .int .i64 0, .int .i64 0] 23)) = w0 at *
  refine (HA.out _).mono ?_
  rintro e w1 ⟨rfl, b1⟩
  replace vs := vs.mono b1
  replace vt := vt.mono b1
  replace vr := vr.mono b1
  replace B := below_trans B b1
  clear b1
  have cvt0 := vt.cell (i := 0) (by simp)
  have cvt1 := vt.cell (i := 1) (by simp)
  have cvt2 := vt.cell (i := 2) (by simp)
  have cvt3 := vt.cell (i := 3) (by simp)
  simp only [List.getD_cons_zero, List.getD_cons_succ] at cvt0 cvt1 cvt2 cvt3
  go_wp2_with fail
  clear cvt0 cvt1 cvt2 cvt3
  refine (HB.out _).mono ?_
  rintro e w2 ⟨rfl, b2⟩
  replace vs := vs.mono b2
  replace vt := vt.mono b2
  replace vr := vr.mono b2
  replace B := below_trans B b2
  clear b2
  have cvs0 := vs.cell (i := 0) (by simp)
  have cvs1 := vs.cell (i := 1) (by simp)
  have cvs2 := vs.cell (i := 2) (by simp)
  have cvs3 := vs.cell (i := 3) (by simp)
  simp only [List.getD_cons_zero, List.getD_cons_succ] at cvs0 cvs1 cvs2 cvs3
  have cvt0 := vt.cell (i := 0) (by simp)
  have cvt1 := vt.cell (i := 1) (by simp)
  have cvt2 := vt.cell (i := 2) (by simp)
  have cvt3 := vt.cell (i := 3) (by simp)
  simp only [List.getD_cons_zero, List.getD_cons_succ] at cvt0 cvt1 cvt2 cvt3
  go_wp2_with fail
  go_quiet (fail)
  go_wp2_with fail
  clear cvs0 cvs1 cvs2 cvs3 cvt0 cvt1 cvt2 cvt3
  replace vr := vr.drewN nq
  replace B := below_drewN B nq
  clear vs vt
  rw [E1.out, E2.out, E3.out, E4.out]
  generalize w2.drewN nq = w3 at *
  refine (HR.out _).mono ?_
  rintro e w4 ⟨rfl, b4⟩
  replace vr := vr.mono b4
  replace B := below_trans B b4
  clear b4
  have cvr0 := vr.cell (i := 0) (by simp)
  have cvr1 := vr.cell (i := 1) (by simp)
  have cvr2 := vr.cell (i := 2) (by simp)
  have cvr3 := vr.cell (i := 3) (by simp)
  simp only [List.getD_cons_zero, List.getD_cons_succ] at cvr0 cvr1 cvr2 cvr3
  have fvr0 := vr.frozen 0
  have fvr1 := vr.frozen 1
  have fvr2 := vr.frozen 2
  have fvr3 := vr.frozen 3
  go_wp2
  obtain ⟨te, hg⟩ := vr.set4 (.int .i64 x) (.int .i64 y) (.int .i64 z) (.int .i64 u)
  refine bodyPost_ret_by (results_cell_tmp rfl _ _ (w.heap.size + 1 + 1) te _ (0, 0) _ rfl hg Tryd.underlying23 rfl (by kernel_rfl) (.int .i64 k) rfl) rfl ?_
  exact ⟨rfl, below_set4 B (by omega) _ _ _ _⟩

set_option maxRecDepth 100000 in
theorem joined_bad0 (s t : T4) (σ : Int) (w : World) (hA : i64 s.a ∧ i64 s.b ∧ i64 s.c ∧ i64 s.d) (hB : i64 t.a ∧ i64 t.b ∧ i64 t.c ∧ i64 t.d) (hs : validB s.a s.b s.c s.d = false) :
    Calls Tryd.prog 76 #[.agg #[.int .i64 s.a, .int .i64 s.b, .int .i64 s.c, .int .i64 s.d], .agg #[.int .i64 t.a, .int .i64 t.b, .int .i64 t.c, .int .i64 t.d], .int .i64 σ] w (RetT w (⟨0, 0, 0, 0⟩, 2)) := by
  have VA := fun w : World => tvalid_calls s.a s.b s.c s.d w hA.1 hA.2.1 hA.2.2.1 hA.2.2.2
  rw [hs] at VA
  have HA := Lib.hid VA
  clear VA hs hA hB
  have vs := Vals.newL w (w.heap.size) [.int .i64 s.a, .int .i64 s.b, .int .i64 s.c, .int .i64 s.d] 23 rfl
  have bb := below_alloc w (.cells #[.int .i64 s.a, .int .i64 s.b, .int .i64 s.c, .int .i64 s.d] 23)
  have B := bb
  have sz0 := World.size_alloc w (.cells #[.int .i64 s.a, .int .i64 s.b, .int .i64 s.c, .int .i64 s.d] 23)
  have sz := sz0
  clear sz0
  clear bb
  have vt := Vals.newL (w.alloc (.cells #[.int .i64 s.a, .int .i64 s.b, .int .i64 s.c, .int .i64 s.d] 23)) (w.heap.size + 1) [.int .i64 t.a, .int .i64 t.b, .int .i64 t.c, .int .i64 t.d] 23 sz.symm
  have bb := below_alloc (w.alloc (.cells #[.int .i64 s.a, .int .i64 s.b, .int .i64 s.c, .int .i64 s.d] 23)) (.cells #[.int .i64 t.a, .int .i64 t.b, .int .i64 t.c, .int .i64 t.d] 23)
  replace vs := vs.mono bb
  replace B := below_trans B bb
  clear bb
  have sz1 := World.size_alloc (w.alloc (.cells #[.int .i64 s.a, .int .i64 s.b, .int .i64 s.c, .int .i64 s.d] 23)) (.cells #[.int .i64 t.a, .int .i64 t.b, .int .i64 t.c, .int .i64 t.d] 23)
  rw [sz] at sz1
  clear sz
  have sz := sz1
  clear sz1
  have vr := Vals.newL ((w.alloc (.cells #[.int .i64 s.a, .int .i64 s.b, .int .i64 s.c, .int .i64 s.d] 23)).alloc (.cells #[.int .i64 t.a, .int .i64 t.b, .int .i64 t.c, .int .i64 t.d] 23)) (w.heap.size + 1 + 1) [.int .i64 0, .int .i64 0, .int .i64 0, .int .i64 0] 23 sz.symm
  have bb := below_alloc ((w.alloc (.cells #[.int .i64 s.a, .int .i64 s.b, .int .i64 s.c, .int .i64 s.d] 23)).alloc (.cells #[.int .i64 t.a, .int .i64 t.b, .int .i64 t.c, .int .i64 t.d] 23)) (.cells #[.int .i64 0, .int .i64 0, .int .i64 0, .int .i64 0] 23)
  replace vs := vs.mono bb
  replace vt := vt.mono bb
  replace B := below_trans B bb
  clear sz
  clear bb
  go_enter Tryd.func76, Tryd.ntmps76
  go_wp2_with fail
  generalize (((w.alloc (.cells #[.int .i64 s.a, .int .i64 s.b, .int .i64 s.c, .int .i64 s.d] 23)).alloc (.cells #[.int .i64 t.a, .int .i64 t.b, .int .i64 t.c, .int .i64 t.d] 23)).alloc (.cells #[.int .i64 0, .int .i64 0, .int .i64 0, .int .i64 0] 23)) = w0 at *
  refine (HA.out _).mono ?_
  rintro e w1 ⟨rfl, b1⟩
  replace vs := vs.mono b1
  replace vt := vt.mono b1
  replace vr := vr.mono b1
  replace B := below_trans B b1
  clear b1
  have cvr0 := vr.cell (i := 0) (by simp)
  have cvr1 := vr.cell (i := 1) (by simp)
  have cvr2 := vr.cell (i := 2) (by simp)
  have cvr3 := vr.cell (i := 3) (by simp)
  simp only [List.getD_cons_zero, List.getD_cons_succ] at cvr0 cvr1 cvr2 cvr3
  have fvr0 := vr.frozen 0
  have fvr1 := vr.frozen 1
  have fvr2 := vr.frozen 2
  have fvr3 := vr.frozen 3
  go_wp2
  obtain ⟨te, hg⟩ := vr.set4 (.int .i64 0) (.int .i64 0) (.int .i64 0) (.int .i64 0)
  refine bodyPost_ret_by (results_cell_tmp rfl _ _ (w.heap.size + 1 + 1) te _ (0, 0) _ rfl hg Tryd.underlying23 rfl (by kernel_rfl) (.int .i64 2) rfl) rfl ?_
  exact ⟨rfl, below_set4 B (by omega) _ _ _ _⟩

set_option maxRecDepth 100000 in
theorem joined_bad1 (s t : T4) (σ : Int) (w : World) (hA : i64 s.a ∧ i64 s.b ∧ i64 s.c ∧ i64 s.d) (hB : i64 t.a ∧ i64 t.b ∧ i64 t.c ∧ i64 t.d) (hs : validB s.a s.b s.c s.d = true) (ht : validB t.a t.b t.c t.d = false) :
    Calls Tryd.prog 76 #[.agg #[.int .i64 s.a, .int .i64 s.b, .int .i64 s.c, .int .i64 s.d], .agg #[.int .i64 t.a, .int .i64 t.b, .int .i64 t.c, .int .i64 t.d], .int .i64 σ] w (RetT w (⟨0, 0, 0, 0⟩, 2)) := by
  have VA := fun w : World => tvalid_calls s.a s.b s.c s.d w hA.1 hA.2.1 hA.2.2.1 hA.2.2.2
  rw [hs] at VA
  have HA := Lib.hid VA
  have VB := fun w : World => tvalid_calls t.a t.b t.c t.d w hB.1 hB.2.1 hB.2.2.1 hB.2.2.2
  rw [ht] at VB
  have HB := Lib.hid VB
  clear VB ht
  clear VA hs hA hB
  have vs := Vals.newL w (w.heap.size) [.int .i64 s.a, .int .i64 s.b, .int .i64 s.c, .int .i64 s.d] 23 rfl
  have bb := below_alloc w (.cells #[.int .i64 s.a, .int .i64 s.b, .int .i64 s.c, .int .i64 s.d] 23)
  have B := bb
  have sz0 := World.size_alloc w (.cells #[.int .i64 s.a, .int .i64 s.b, .int .i64 s.c, .int .i64 s.d] 23)
  have sz := sz0
  clear sz0
  clear bb
  have vt := Vals.newL (w.alloc (.cells #[.int .i64 s.a, .int .i64 s.b, .int .i64 s.c, .int .i64 s.d] 23)) (w.heap.size + 1) [.int .i64 t.a, .int .i64 t.b, .int .i64 t.c, .int .i64 t.d] 23 sz.symm
  have bb := below_alloc (w.alloc (.cells #[.int .i64 s.a, .int .i64 s.b, .int .i64 s.c, .int .i64 s.d] 23)) (.cells #[.int .i64 t.a, .int .i64 t.b, .int .i64 t.c, .int .i64 t.d] 23)
  replace vs := vs.mono bb
  replace B := below_trans B bb
  clear bb
  have sz1 := World.size_alloc (w.alloc (.cells #[.int .i64 s.a, .int .i64 s.b, .int .i64 s.c, .int .i64 s.d] 23)) (.cells #[.int .i64 t.a, .int .i64 t.b, .int .i64 t.c, .int .i64 t.d] 23)
  rw [sz] at sz1
  clear sz
  have sz := sz1
  clear sz1
  have vr := Vals.newL ((w.alloc (.cells #[.int .i64 s.a, .int .i64 s.b, .int .i64 s.c, .int .i64 s.d] 23)).alloc (.cells #[.int .i64 t.a, .int .i64 t.b, .int .i64 t.c, .int .i64 t.d] 23)) (w.heap.size + 1 + 1) [.int .i64 0, .int .i64 0, .int .i64 0, .int .i64 0] 23 sz.symm
  have bb := below_alloc ((w.alloc (.cells #[.int .i64 s.a, .int .i64 s.b, .int .i64 s.c, .int .i64 s.d] 23)).alloc (.cells #[.int .i64 t.a, .int .i64 t.b, .int .i64 t.c, .int .i64 t.d] 23)) (.cells #[.int .i64 0, .int .i64 0, .int .i64 0, .int .i64 0] 23)
  replace vs := vs.mono bb
  replace vt := vt.mono bb
  replace B := below_trans B bb
  clear sz
  clear bb
  go_enter Tryd.func76, Tryd.ntmps76
  go_wp2_with fail
  generalize (((w.alloc (.cells #[.int .i64 s.a, .int .i64 s.b, .int .i64 s.c, .int .i64 s.d] 23)).alloc (.cells #[.int .i64 t.a, .int .i64 t.b, .int .i64 t.c, .int .i64 t.d] 23)).alloc (.cells #[.int .i64 0, .int .i64 0, .int .i64 0, .int .i64 0] 23)) = w0 at *
  refine (HA.out _).mono ?_
  rintro e w1 ⟨rfl, b1⟩
  replace vs := vs.mono b1
  replace vt := vt.mono b1
  replace vr := vr.mono b1
  replace B := below_trans B b1
  clear b1
  have cvt0 := vt.cell (i := 0) (by simp)
  have cvt1 := vt.cell (i := 1) (by simp)
  have cvt2 := vt.cell (i := 2) (by simp)
  have cvt3 := vt.cell (i := 3) (by simp)
  simp only [List.getD_cons_zero, List.getD_cons_succ] at cvt0 cvt1 cvt2 cvt3
  go_wp2_with fail
  clear cvt0 cvt1 cvt2 cvt3
  refine (HB.out _).mono ?_
  rintro e w2 ⟨rfl, b2⟩
  replace vs := vs.mono b2
  replace vt := vt.mono b2
  replace vr := vr.mono b2
  replace B := below_trans B b2
  clear b2
  have cvr0 := vr.cell (i := 0) (by simp)
  have cvr1 := vr.cell (i := 1) (by simp)
  have cvr2 := vr.cell (i := 2) (by simp)
  have cvr3 := vr.cell (i := 3) (by simp)
  simp only [List.getD_cons_zero, List.getD_cons_succ] at cvr0 cvr1 cvr2 cvr3
  have fvr0 := vr.frozen 0
  have fvr1 := vr.frozen 1
  have fvr2 := vr.frozen 2
  have fvr3 := vr.frozen 3
  go_wp2
  obtain ⟨te, hg⟩ := vr.set4 (.int .i64 0) (.int .i64 0) (.int .i64 0) (.int .i64 0)
  refine bodyPost_ret_by (results_cell_tmp rfl _ _ (w.heap.size + 1 + 1) te _ (0, 0) _ rfl hg Tryd.underlying23 rfl (by kernel_rfl) (.int .i64 2) rfl) rfl ?_
  exact ⟨rfl, below_set4 B (by omega) _ _ _ _⟩

set_option maxRecDepth 100000 in
theorem mulT_ok (s t : T4) (w : World) (hs : validB s.a s.b s.c s.d = true) (ht : validB t.a t.b t.c t.d = true) :
    Calls Tryd.prog 31 #[.agg #[.int .i64 s.a, .int .i64 s.b, .int .i64 s.c, .int .i64 s.d], .agg #[.int .i64 t.a, .int .i64 t.b, .int .i64 t.c, .int .i64 t.d]] w (RetT w (mulT s t)) := by
  have J := fun w : World => joined_ok s t 1 w hs ht (by omega)
  simp only [Int.one_mul] at J
  change ∀ w : World, Calls _ _ _ w (RetT w (mulT s t)) at J
  generalize mulT s t = r at *
  obtain ⟨⟨x, y, z, u⟩, k⟩ := r
  have HJ := Lib.hid J
  clear J hs ht
  have vs := Vals.newL w (w.heap.size) [.int .i64 s.a, .int .i64 s.b, .int .i64 s.c, .int .i64 s.d] 23 rfl
  have bb := below_alloc w (.cells #[.int .i64 s.a, .int .i64 s.b, .int .i64 s.c, .int .i64 s.d] 23)
  have B := bb
  have sz0 := World.size_alloc w (.cells #[.int .i64 s.a, .int .i64 s.b, .int .i64 s.c, .int .i64 s.d] 23)
  have sz := sz0
  clear sz0
  clear bb
  have vt := Vals.newL (w.alloc (.cells #[.int .i64 s.a, .int .i64 s.b, .int .i64 s.c, .int .i64 s.d] 23)) (w.heap.size + 1) [.int .i64 t.a, .int .i64 t.b, .int .i64 t.c, .int .i64 t.d] 23 sz.symm
  have bb := below_alloc (w.alloc (.cells #[.int .i64 s.a, .int .i64 s.b, .int .i64 s.c, .int .i64 s.d] 23)) (.cells #[.int .i64 t.a, .int .i64 t.b, .int .i64 t.c, .int .i64 t.d] 23)
  replace vs := vs.mono bb
  replace B := below_trans B bb
  clear bb
  have sz1 := World.size_alloc (w.alloc (.cells #[.int .i64 s.a, .int .i64 s.b, .int .i64 s.c, .int .i64 s.d] 23)) (.cells #[.int .i64 t.a, .int .i64 t.b, .int .i64 t.c, .int .i64 t.d] 23)
  rw [sz] at sz1
  clear sz
  have sz := sz1
  clear sz1
  have vr := Vals.newL ((w.alloc (.cells #[.int .i64 s.a, .int .i64 s.b, .int .i64 s.c, .int .i64 s.d] 23)).alloc (.cells #[.int .i64 t.a, .int .i64 t.b, .int .i64 t.c, .int .i64 t.d] 23)) (w.heap.size + 1 + 1) [.int .i64 0, .int .i64 0, .int .i64 0, .int .i64 0] 23 sz.symm
  have bb := below_alloc ((w.alloc (.cells #[.int .i64 s.a, .int .i64 s.b, .int .i64 s.c, .int .i64 s.d] 23)).alloc (.cells #[.int .i64 t.a, .int .i64 t.b, .int .i64 t.c, .int .i64 t.d] 23)) (.cells #[.int .i64 0, .int .i64 0, .int .i64 0, .int .i64 0] 23)
  replace vs := vs.mono bb
  replace vt := vt.mono bb
  replace B := below_trans B bb
  clear sz
  clear bb
  go_enter Tryd.func31, Tryd.ntmps31
  go_wp2_with fail
  generalize (((w.alloc (.cells #[.int .i64 s.a, .int .i64 s.b, .int .i64 s.c, .int .i64 s.d] 23)).alloc (.cells #[.int .i64 t.a, .int .i64 t.b, .int .i64 t.c, .int .i64 t.d] 23)).alloc (.cells #[.int .i64 0, .int .i64 0, .int .i64 0, .int .i64 0] 23)) = w0 at *
  refine (HJ.out _).mono ?_
  rintro e w1 ⟨rfl, b1⟩
  replace vs := vs.mono b1
  replace vt := vt.mono b1
  replace vr := vr.mono b1
  replace B := below_trans B b1
  clear b1
  have cvr0 := vr.cell (i := 0) (by simp)
  have cvr1 := vr.cell (i := 1) (by simp)
  have cvr2 := vr.cell (i := 2) (by simp)
  have cvr3 := vr.cell (i := 3) (by simp)
  simp only [List.getD_cons_zero, List.getD_cons_succ] at cvr0 cvr1 cvr2 cvr3
  have fvr0 := vr.frozen 0
  have fvr1 := vr.frozen 1
  have fvr2 := vr.frozen 2
  have fvr3 := vr.frozen 3
  go_wp2
  obtain ⟨te, hg⟩ := vr.set4 (.int .i64 x) (.int .i64 y) (.int .i64 z) (.int .i64 u)
  refine bodyPost_ret_by (results_cell_tmp rfl _ _ (w.heap.size + 1 + 1) te _ (0, 0) _ rfl hg Tryd.underlying23 rfl (by kernel_rfl) (.int .i64 k) rfl) rfl ?_
  exact ⟨rfl, below_set4 B (by omega) _ _ _ _⟩

set_option maxRecDepth 100000 in
theorem mulT_bad (s t : T4) (w : World) (hA : i64 s.a ∧ i64 s.b ∧ i64 s.c ∧ i64 s.d) (hB : i64 t.a ∧ i64 t.b ∧ i64 t.c ∧ i64 t.d) (hn : ¬ (validB s.a s.b s.c s.d = true ∧ validB t.a t.b t.c t.d = true)) :
    Calls Tryd.prog 31 #[.agg #[.int .i64 s.a, .int .i64 s.b, .int .i64 s.c, .int .i64 s.d], .agg #[.int .i64 t.a, .int .i64 t.b, .int .i64 t.c, .int .i64 t.d]] w (RetT w (⟨0, 0, 0, 0⟩, 2)) := by
  have J : ∀ w : World, Calls Tryd.prog 76 #[.agg #[.int .i64 s.a, .int .i64 s.b, .int .i64 s.c, .int .i64 s.d], .agg #[.int .i64 t.a, .int .i64 t.b, .int .i64 t.c, .int .i64 t.d], .int .i64 1] w (RetT w (⟨0, 0, 0, 0⟩, 2)) := fun w => by
    cases hs : validB s.a s.b s.c s.d
    · exact joined_bad0 s t 1 w hA hB hs
    · cases ht : validB t.a t.b t.c t.d
      · exact joined_bad1 s t 1 w hA hB hs ht
      · exact absurd ⟨hs, ht⟩ hn
  have HJ := Lib.hid J
  clear J hn hA hB
  have vs := Vals.newL w (w.heap.size) [.int .i64 s.a, .int .i64 s.b, .int .i64 s.c, .int .i64 s.d] 23 rfl
  have bb := below_alloc w (.cells #[.int .i64 s.a, .int .i64 s.b, .int .i64 s.c, .int .i64 s.d] 23)
  have B := bb
  have sz0 := World.size_alloc w (.cells #[.int .i64 s.a, .int .i64 s.b, .int .i64 s.c, .int .i64 s.d] 23)
  have sz := sz0
  clear sz0
  clear bb
  have vt := Vals.newL (w.alloc (.cells #[.int .i64 s.a, .int .i64 s.b, .int .i64 s.c, .int .i64 s.d] 23)) (w.heap.size + 1) [.int .i64 t.a, .int .i64 t.b, .int .i64 t.c, .int .i64 t.d] 23 sz.symm
  have bb := below_alloc (w.alloc (.cells #[.int .i64 s.a, .int .i64 s.b, .int .i64 s.c, .int .i64 s.d] 23)) (.cells #[.int .i64 t.a, .int .i64 t.b, .int .i64 t.c, .int .i64 t.d] 23)
  replace vs := vs.mono bb
  replace B := below_trans B bb
  clear bb
  have sz1 := World.size_alloc (w.alloc (.cells #[.int .i64 s.a, .int .i64 s.b, .int .i64 s.c, .int .i64 s.d] 23)) (.cells #[.int .i64 t.a, .int .i64 t.b, .int .i64 t.c, .int .i64 t.d] 23)
  rw [sz] at sz1
  clear sz
  have sz := sz1
  clear sz1
  have vr := Vals.newL ((w.alloc (.cells #[.int .i64 s.a, .int .i64 s.b, .int .i64 s.c, .int .i64 s.d] 23)).alloc (.cells #[.int .i64 t.a, .int .i64 t.b, .int .i64 t.c, .int .i64 t.d] 23)) (w.heap.size + 1 + 1) [.int .i64 0, .int .i64 0, .int .i64 0, .int .i64 0] 23 sz.symm
  have bb := below_alloc ((w.alloc (.cells #[.int .i64 s.a, .int .i64 s.b, .int .i64 s.c, .int .i64 s.d] 23)).alloc (.cells #[.int .i64 t.a, .int .i64 t.b, .int .i64 t.c, .int .i64 t.d] 23)) (.cells #[.int .i64 0, .int .i64 0, .int .i64 0, .int .i64 0] 23)
  replace vs := vs.mono bb
  replace vt := vt.mono bb
  replace B := below_trans B bb
  clear sz
  clear bb
  go_enter Tryd.func31, Tryd.ntmps31
  go_wp2_with fail
  generalize (((w.alloc (.cells #[.int .i64 s.a, .int .i64 s.b, .int .i64 s.c, .int .i64 s.d] 23)).alloc (.cells #[.int .i64 t.a, .int .i64 t.b, .int .i64 t.c, .int .i64 t.d] 23)).alloc (.cells #[.int .i64 0, .int .i64 0, .int .i64 0, .int .i64 0] 23)) = w0 at *
  refine (HJ.out _).mono ?_
  rintro e w1 ⟨rfl, b1⟩
  replace vs := vs.mono b1
  replace vt := vt.mono b1
  replace vr := vr.mono b1
  replace B := below_trans B b1
  clear b1
  have cvr0 := vr.cell (i := 0) (by simp)
  have cvr1 := vr.cell (i := 1) (by simp)
  have cvr2 := vr.cell (i := 2) (by simp)
  have cvr3 := vr.cell (i := 3) (by simp)
  simp only [List.getD_cons_zero, List.getD_cons_succ] at cvr0 cvr1 cvr2 cvr3
  have fvr0 := vr.frozen 0
  have fvr1 := vr.frozen 1
  have fvr2 := vr.frozen 2
  have fvr3 := vr.frozen 3
  go_wp2
  obtain ⟨te, hg⟩ := vr.set4 (.int .i64 0) (.int .i64 0) (.int .i64 0) (.int .i64 0)
  refine bodyPost_ret_by (results_cell_tmp rfl _ _ (w.heap.size + 1 + 1) te _ (0, 0) _ rfl hg Tryd.underlying23 rfl (by kernel_rfl) (.int .i64 2) rfl) rfl ?_
  exact ⟨rfl, below_set4 B (by omega) _ _ _ _⟩

set_option maxRecDepth 100000 in
theorem divT_ok (s t : T4) (w : World) (hs : validB s.a s.b s.c s.d = true) (ht : validB t.a t.b t.c t.d = true) :
    Calls Tryd.prog 32 #[.agg #[.int .i64 s.a, .int .i64 s.b, .int .i64 s.c, .int .i64 s.d], .agg #[.int .i64 t.a, .int .i64 t.b, .int .i64 t.c, .int .i64 t.d]] w (RetT w (divT s t)) := by
  have J := fun w : World => joined_ok s t (-1) w hs ht (by omega)
  simp only [Int.neg_mul, Int.one_mul, Int.mul_neg, ← Int.sub_eq_add_neg] at J
  change ∀ w : World, Calls _ _ _ w (RetT w (divT s t)) at J
  generalize divT s t = r at *
  obtain ⟨⟨x, y, z, u⟩, k⟩ := r
  have HJ := Lib.hid J
  clear J hs ht
  have vs := Vals.newL w (w.heap.size) [.int .i64 s.a, .int .i64 s.b, .int .i64 s.c, .int .i64 s.d] 23 rfl
  have bb := below_alloc w (.cells #[.int .i64 s.a, .int .i64 s.b, .int .i64 s.c, .int .i64 s.d] 23)
  have B := bb
  have sz0 := World.size_alloc w (.cells #[.int .i64 s.a, .int .i64 s.b, .int .i64 s.c, .int .i64 s.d] 23)
  have sz := sz0
  clear sz0
  clear bb
  have vt := Vals.newL (w.alloc (.cells #[.int .i64 s.a, .int .i64 s.b, .int .i64 s.c, .int .i64 s.d] 23)) (w.heap.size + 1) [.int .i64 t.a, .int .i64 t.b, .int .i64 t.c, .int .i64 t.d] 23 sz.symm
  have bb := below_alloc (w.alloc (.cells #[.int .i64 s.a, .int .i64 s.b, .int .i64 s.c, .int .i64 s.d] 23)) (.cells #[.int .i64 t.a, .int .i64 t.b, .int .i64 t.c, .int .i64 t.d] 23)
  replace vs := vs.mono bb
  replace B := below_trans B bb
  clear bb
  have sz1 := World.size_alloc (w.alloc (.cells #[.int .i64 s.a, .int .i64 s.b, .int .i64 s.c, .int .i64 s.d] 23)) (.cells #[.int .i64 t.a, .int .i64 t.b, .int .i64 t.c, .int .i64 t.d] 23)
  rw [sz] at sz1
  clear sz
  have sz := sz1
  clear sz1
  have vr := Vals.newL ((w.alloc (.cells #[.int .i64 s.a, .int .i64 s.b, .int .i64 s.c, .int .i64 s.d] 23)).alloc (.cells #[.int .i64 t.a, .int .i64 t.b, .int .i64 t.c, .int .i64 t.d] 23)) (w.heap.size + 1 + 1) [.int .i64 0, .int .i64 0, .int .i64 0, .int .i64 0] 23 sz.symm
  have bb := below_alloc ((w.alloc (.cells #[.int .i64 s.a, .int .i64 s.b, .int .i64 s.c, .int .i64 s.d] 23)).alloc (.cells #[.int .i64 t.a, .int .i64 t.b, .int .i64 t.c, .int .i64 t.d] 23)) (.cells #[.int .i64 0, .int .i64 0, .int .i64 0, .int .i64 0] 23)
  replace vs := vs.mono bb
  replace vt := vt.mono bb
  replace B := below_trans B bb
  clear sz
  clear bb
  go_enter Tryd.func32, Tryd.ntmps32
  go_wp2_with fail
  generalize (((w.alloc (.cells #[.int .i64 s.a, .int .i64 s.b, .int .i64 s.c, .int .i64 s.d] 23)).alloc (.cells #[.int .i64 t.a, .int .i64 t.b, .int .i64 t.c, .int .i64 t.d] 23)).alloc (.cells #[.int .i64 0, .int .i64 0, .int .i64 0, .int .i64 0] 23)) = w0 at *
  refine (HJ.out _).mono ?_
  rintro e w1 ⟨rfl, b1⟩
  replace vs := vs.mono b1
  replace vt := vt.mono b1
  replace vr := vr.mono b1
  replace B := below_trans B b1
  clear b1
  have cvr0 := vr.cell (i := 0) (by simp)
  have cvr1 := vr.cell (i := 1) (by simp)
  have cvr2 := vr.cell (i := 2) (by simp)
  have cvr3 := vr.cell (i := 3) (by simp)
  simp only [List.getD_cons_zero, List.getD_cons_succ] at cvr0 cvr1 cvr2 cvr3
  have fvr0 := vr.frozen 0
  have fvr1 := vr.frozen 1
  have fvr2 := vr.frozen 2
  have fvr3 := vr.frozen 3
  go_wp2
  obtain ⟨te, hg⟩ := vr.set4 (.int .i64 x) (.int .i64 y) (.int .i64 z) (.int .i64 u)
  refine bodyPost_ret_by (results_cell_tmp rfl _ _ (w.heap.size + 1 + 1) te _ (0, 0) _ rfl hg Tryd.underlying23 rfl (by kernel_rfl) (.int .i64 k) rfl) rfl ?_
  exact ⟨rfl, below_set4 B (by omega) _ _ _ _⟩

set_option maxRecDepth 100000 in
theorem divT_bad (s t : T4) (w : World) (hA : i64 s.a ∧ i64 s.b ∧ i64 s.c ∧ i64 s.d) (hB : i64 t.a ∧ i64 t.b ∧ i64 t.c ∧ i64 t.d) (hn : ¬ (validB s.a s.b s.c s.d = true ∧ validB t.a t.b t.c t.d = true)) :
    Calls Tryd.prog 32 #[.agg #[.int .i64 s.a, .int .i64 s.b, .int .i64 s.c, .int .i64 s.d], .agg #[.int .i64 t.a, .int .i64 t.b, .int .i64 t.c, .int .i64 t.d]] w (RetT w (⟨0, 0, 0, 0⟩, 2)) := by
  have J : ∀ w : World, Calls Tryd.prog 76 #[.agg #[.int .i64 s.a, .int .i64 s.b, .int .i64 s.c, .int .i64 s.d], .agg #[.int .i64 t.a, .int .i64 t.b, .int .i64 t.c, .int .i64 t.d], .int .i64 (-1)] w (RetT w (⟨0, 0, 0, 0⟩, 2)) := fun w => by
    cases hs : validB s.a s.b s.c s.d
    · exact joined_bad0 s t (-1) w hA hB hs
    · cases ht : validB t.a t.b t.c t.d
      · exact joined_bad1 s t (-1) w hA hB hs ht
      · exact absurd ⟨hs, ht⟩ hn
  have HJ := Lib.hid J
  clear J hn hA hB
  have vs := Vals.newL w (w.heap.size) [.int .i64 s.a, .int .i64 s.b, .int .i64 s.c, .int .i64 s.d] 23 rfl
  have bb := below_alloc w (.cells #[.int .i64 s.a, .int .i64 s.b, .int .i64 s.c, .int .i64 s.d] 23)
  have B := bb
  have sz0 := World.size_alloc w (.cells #[.int .i64 s.a, .int .i64 s.b, .int .i64 s.c, .int .i64 s.d] 23)
  have sz := sz0
  clear sz0
  clear bb
  have vt := Vals.newL (w.alloc (.cells #[.int .i64 s.a, .int .i64 s.b, .int .i64 s.c, .int .i64 s.d] 23)) (w.heap.size + 1) [.int .i64 t.a, .int .i64 t.b, .int .i64 t.c, .int .i64 t.d] 23 sz.symm
  have bb := below_alloc (w.alloc (.cells #[.int .i64 s.a, .int .i64 s.b, .int .i64 s.c, .int .i64 s.d] 23)) (.cells #[.int .i64 t.a, .int .i64 t.b, .int .i64 t.c, .int .i64 t.d] 23)
  replace vs := vs.mono bb
  replace B := below_trans B bb
  clear bb
  have sz1 := World.size_alloc (w.alloc (.cells #[.int .i64 s.a, .int .i64 s.b, .int .i64 s.c, .int .i64 s.d] 23)) (.cells #[.int .i64 t.a, .int .i64 t.b, .int .i64 t.c, .int .i64 t.d] 23)
  rw [sz] at sz1
  clear sz
  have sz := sz1
  clear sz1
  have vr := Vals.newL ((w.alloc (.cells #[.int .i64 s.a, .int .i64 s.b, .int .i64 s.c, .int .i64 s.d] 23)).alloc (.cells #[.int .i64 t.a, .int .i64 t.b, .int .i64 t.c, .int .i64 t.d] 23)) (w.heap.size + 1 + 1) [.int .i64 0, .int .i64 0, .int .i64 0, .int .i64 0] 23 sz.symm
  have bb := below_alloc ((w.alloc (.cells #[.int .i64 s.a, .int .i64 s.b, .int .i64 s.c, .int .i64 s.d] 23)).alloc (.cells #[.int .i64 t.a, .int .i64 t.b, .int .i64 t.c, .int .i64 t.d] 23)) (.cells #[.int .i64 0, .int .i64 0, .int .i64 0, .int .i64 0] 23)
  replace vs := vs.mono bb
  replace vt := vt.mono bb
  replace B := below_trans B bb
  clear sz
  clear bb
  go_enter Tryd.func32, Tryd.ntmps32
  go_wp2_with fail
  generalize (((w.alloc (.cells #[.int .i64 s.a, .int .i64 s.b, .int .i64 s.c, .int .i64 s.d] 23)).alloc (.cells #[.int .i64 t.a, .int .i64 t.b, .int .i64 t.c, .int .i64 t.d] 23)).alloc (.cells #[.int .i64 0, .int .i64 0, .int .i64 0, .int .i64 0] 23)) = w0 at *
  refine (HJ.out _).mono ?_
  rintro e w1 ⟨rfl, b1⟩
  replace vs := vs.mono b1
  replace vt := vt.mono b1
  replace vr := vr.mono b1
  replace B := below_trans B b1
  clear b1
  have cvr0 := vr.cell (i := 0) (by simp)
  have cvr1 := vr.cell (i := 1) (by simp)
  have cvr2 := vr.cell (i := 2) (by simp)
  have cvr3 := vr.cell (i := 3) (by simp)
  simp only [List.getD_cons_zero, List.getD_cons_succ] at cvr0 cvr1 cvr2 cvr3
  have fvr0 := vr.frozen 0
  have fvr1 := vr.frozen 1
  have fvr2 := vr.frozen 2
  have fvr3 := vr.frozen 3
  go_wp2
  obtain ⟨te, hg⟩ := vr.set4 (.int .i64 0) (.int .i64 0) (.int .i64 0) (.int .i64 0)
  refine bodyPost_ret_by (results_cell_tmp rfl _ _ (w.heap.size + 1 + 1) te _ (0, 0) _ rfl hg Tryd.underlying23 rfl (by kernel_rfl) (.int .i64 2) rfl) rfl ?_
  exact ⟨rfl, below_set4 B (by omega) _ _ _ _⟩

end Go.Proofs
