/- The walk of the law WireOctaves: whatever comes in, it returns true and changes nothing that was there. -/
import Derived.Test.YtfbfamfgdodncaaFold
open Go.RowKit
namespace Go.Proofs
set_option linter.unusedVariables false
open Go.Deep
set_option maxRecDepth 100000 in
set_option maxHeartbeats 1000000 in
theorem walk_octaves (x0 x1 x2 x3 x4 x5 : Int) (w : World) (hx0 : -9223372036854775808 ≤ x0 ∧ x0 < 9223372036854775808) (hx1 : -9223372036854775808 ≤ x1 ∧ x1 < 9223372036854775808) (hx2 : -9223372036854775808 ≤ x2 ∧ x2 < 9223372036854775808) (hx3 : -9223372036854775808 ≤ x3 ∧ x3 < 9223372036854775808) (hx4 : -9223372036854775808 ≤ x4 ∧ x4 < 9223372036854775808) (hx5 : -9223372036854775808 ≤ x5 ∧ x5 < 9223372036854775808) :
    Calls Try.prog 6 #[.agg #[.int .i64 x0, .int .i64 x1, .int .i64 x2, .int .i64 x3, .int .i64 x4, .int .i64 x5]] w (RetTrue w) := by
  go_enter Try.func6, Try.ntmps6
  have vx := Vals.newL w w.heap.size [.int .i64 x0, .int .i64 x1, .int .i64 x2, .int .i64 x3, .int .i64 x4, .int .i64 x5] 23 rfl
  have B := below_alloc w (.cells #[.int .i64 x0, .int .i64 x1, .int .i64 x2, .int .i64 x3, .int .i64 x4, .int .i64 x5] 23)
  obtain ⟨d, ed, d1, d2⟩ := foldZ_some x0 30000 (by omega) 30000 rfl
  have bx00 := hx0.1
  have bx01 := hx0.2
  obtain ⟨t, et, t1, t2⟩ := foldZ_some x2 2000 (by omega) 2000 rfl
  have bx20 := hx2.1
  have bx21 := hx2.2
  obtain ⟨l, el, l1, l2⟩ := foldZ_some x3 50000 (by omega) 50000 rfl
  have bx30 := hx3.1
  have bx31 := hx3.2
  obtain ⟨f, ef, f1, f2⟩ := foldZ_some x4 5000000 (by omega) 5000000 rfl
  have bx40 := hx4.1
  have bx41 := hx4.2
  obtain ⟨s, es, s1, s2⟩ := foldZ_some x1 100000 (by omega) 100000 rfl
  have bx10 := hx1.1
  have bx11 := hx1.2
  obtain ⟨y, ey, y1, y2⟩ := foldZ_some x5 100 (by omega) 100 rfl
  have bx50 := hx5.1
  have bx51 := hx5.2
  obtain ⟨l2, el2⟩ : ∃ l2 : Nat, 2 * l = l2 := ⟨_, rfl⟩
  have kl : (2 : Int) * (l : Int) = (l2 : Int) := by omega
  obtain ⟨f2, ef2⟩ : ∃ f2 : Nat, 2 * f = f2 := ⟨_, rfl⟩
  have kf : (2 : Int) * (f : Int) = (f2 : Int) := by omega
  have o1 := pull_octave d t l f
  have o2 := stress_octave d l f
  have o3 := holds_octave d s l f y
  rw [el2, ef2] at o1 o2 o3
  have T1 := fun w : World => tension_in d t l f2 w (by omega) (by omega) (by omega) (by omega)
  have T2 := fun w : World => tension_in d t l2 f w (by omega) (by omega) (by omega) (by omega)
  have S1 := fun w : World => stress_in d l f2 w (by omega) (by omega) (by omega)
  have S2 := fun w : World => stress_in d l2 f w (by omega) (by omega) (by omega)
  have H1 := fun w : World => holds_in d s l f2 y w (by omega) (by omega) (by omega) (by omega) (by omega)
  have H2 := fun w : World => holds_in d s l2 f y w (by omega) (by omega) (by omega) (by omega) (by omega)
  rw [o1] at T1
  rw [o2] at S1
  rw [o3] at H1
  generalize pullN d t l2 f = a at *
  generalize stressN d l2 f = b at *
  generalize holdsB d s l2 f y = c at *
  have HT1 := Lib.hid T1
  have HT2 := Lib.hid T2
  have HS1 := Lib.hid S1
  have HS2 := Lib.hid S2
  have HH1 := Lib.hid H1
  have HH2 := Lib.hid H2
  clear T1 T2 S1 S2 H1 H2 o1 o2 o3 el2 ef2
  have cx0 := vx.cell (i := 0) (by simp)
  have cx2 := vx.cell (i := 2) (by simp)
  have cx3 := vx.cell (i := 3) (by simp)
  have cx4 := vx.cell (i := 4) (by simp)
  simp only [List.getD_cons_zero, List.getD_cons_succ] at cx0 cx2 cx3 cx4
  go_wp2_with fail
  go_quiet ((go_at_call 16; exact Calls.quiet_of_same (fold_same _ _ _ (by omega) (by omega) (by assumption) (by assumption))))
  go_upto_region 2 with (fail)
  clear cx0 cx2 cx3 cx4
  replace vx := vx.drewN nq
  replace B := below_drewN B nq
  generalize World.drewN ((w).alloc (.cells #[.int .i64 x0, .int .i64 x1, .int .i64 x2, .int .i64 x3, .int .i64 x4, .int .i64 x5] 23)) nq = wq0 at *
  have cx1 := vx.cell (i := 1) (by simp)
  have cx5 := vx.cell (i := 5) (by simp)
  simp only [List.getD_cons_zero, List.getD_cons_succ] at cx1 cx5
  go_wp2_with fail
  go_quiet ((go_at_call 16; exact Calls.quiet_of_same (fold_same _ _ _ (by omega) (by omega) (by assumption) (by assumption))))
  go_upto_region 3 with (fail)
  clear cx1 cx5
  replace vx := vx.drewN nq
  replace B := below_drewN B nq
  generalize World.drewN (wq0) nq = wq1 at *
  clear vx
  go_wp2_with fail
  refine (HT1.out _).mono ?_
  rintro e w1 ⟨rfl, b1⟩
  replace B := below_trans B b1
  clear b1
  go_wp2_with fail
  refine (HT2.out _).mono ?_
  rintro e w2 ⟨rfl, b2⟩
  replace B := below_trans B b2
  clear b2
  go_wp2_with fail
  refine (HS1.out _).mono ?_
  rintro e w3 ⟨rfl, b3⟩
  replace B := below_trans B b3
  clear b3
  go_wp2_with fail
  refine (HS2.out _).mono ?_
  rintro e w4 ⟨rfl, b4⟩
  replace B := below_trans B b4
  clear b4
  go_wp2_with fail
  refine (HH1.out _).mono ?_
  rintro e w5 ⟨rfl, b5⟩
  replace B := below_trans B b5
  clear b5
  go_wp2_with fail
  refine (HH2.out _).mono ?_
  rintro e w6 ⟨rfl, b6⟩
  replace B := below_trans B b6
  clear b6
  go_wp2_with fail
  refine (lives_calls _).mono ?_
  rintro e w7 ⟨rfl, b7⟩
  replace B := below_trans B b7
  clear b7
  go_wp2
  go_ret
  exact ⟨rfl, B⟩

end Go.Proofs
