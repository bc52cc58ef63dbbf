/- The walk of the law WireThick: whatever comes in, it returns true and changes nothing that was there. -/
import Derived.Test.YtfbfamfgdodncaaFold
open Go.RowKit
namespace Go.Proofs
set_option linter.unusedVariables false
open Go.Deep
set_option maxRecDepth 100000 in
set_option maxHeartbeats 1000000 in
theorem walk_thick (x0 x1 x2 x3 x4 x5 : Int) (w : World) (hx0 : -9223372036854775808 ≤ x0 ∧ x0 < 9223372036854775808) (hx1 : -9223372036854775808 ≤ x1 ∧ x1 < 9223372036854775808) (hx2 : -9223372036854775808 ≤ x2 ∧ x2 < 9223372036854775808) (hx3 : -9223372036854775808 ≤ x3 ∧ x3 < 9223372036854775808) (hx4 : -9223372036854775808 ≤ x4 ∧ x4 < 9223372036854775808) (hx5 : -9223372036854775808 ≤ x5 ∧ x5 < 9223372036854775808) :
    Calls Try.prog 3 #[.agg #[.int .i64 x0, .int .i64 x1, .int .i64 x2, .int .i64 x3, .int .i64 x4, .int .i64 x5]] w (RetTrue w) := by
  go_enter Try.func3, Try.ntmps3
  have vx := Vals.newL w w.heap.size [.int .i64 x0, .int .i64 x1, .int .i64 x2, .int .i64 x3, .int .i64 x4, .int .i64 x5] 23 rfl
  have B := below_alloc w (.cells #[.int .i64 x0, .int .i64 x1, .int .i64 x2, .int .i64 x3, .int .i64 x4, .int .i64 x5] 23)
  obtain ⟨d, ed, d1, d2⟩ := foldZ_some x0 30000 (by omega) 30000 rfl
  have bx00 := hx0.1
  have bx01 := hx0.2
  obtain ⟨t, et, t1, t2⟩ := foldZ_some x2 1000 (by omega) 1000 rfl
  have bx20 := hx2.1
  have bx21 := hx2.2
  obtain ⟨l, el, l1, l2⟩ := foldZ_some x3 100000 (by omega) 100000 rfl
  have bx30 := hx3.1
  have bx31 := hx3.2
  obtain ⟨f, ef, f1, f2⟩ := foldZ_some x4 10000000 (by omega) 10000000 rfl
  have bx40 := hx4.1
  have bx41 := hx4.2
  obtain ⟨t2, et2⟩ : ∃ t2 : Nat, 2 * t = t2 := ⟨_, rfl⟩
  have kt : (2 : Int) * (t : Int) = (t2 : Int) := by omega
  have hd := pull_double d t l f
  rw [et2] at hd
  have Hq1 := pullN_lt (show d ≤ 30000 by omega) (show t ≤ 2000 by omega) (show l ≤ 100000 by omega) (show f ≤ 10000000 by omega)
  have T1 := fun w : World => tension_in d t l f w (by omega) (by omega) (by omega) (by omega)
  have T2 := fun w : World => tension_in d t2 l f w (by omega) (by omega) (by omega) (by omega)
  generalize pullN d t l f = a at *
  generalize pullN d t2 l f = b at *
  have HT1 := Lib.hid T1
  have HT2 := Lib.hid T2
  clear T1 T2 et2
  have g1 : (4 : Int) * (a : Int) ≤ (b : Int) := by omega
  have g2 : (b : Int) ≤ 4 * (a : Int) + 3 := by omega
  have g0 : (a : Int) ≤ 4000000000000 := by omega
  clear hd Hq1
  have cx0 := vx.cell (i := 0) (by simp)
  have cx2 := vx.cell (i := 2) (by simp)
  have cx3 := vx.cell (i := 3) (by simp)
  have cx4 := vx.cell (i := 4) (by simp)
  simp only [List.getD_cons_zero, List.getD_cons_succ] at cx0 cx2 cx3 cx4
  go_wp2_with fail
  go_quiet ((go_at_call 16; exact Calls.quiet_of_same (fold_same _ _ _ (by omega) (by omega) (by assumption) (by assumption))))
  go_upto_region 2 with (fail)
  clear cx0 cx2 cx3 cx4
  replace vx := vx.drewN nq
  replace B := below_drewN B nq
  generalize World.drewN ((w).alloc (.cells #[.int .i64 x0, .int .i64 x1, .int .i64 x2, .int .i64 x3, .int .i64 x4, .int .i64 x5] 23)) nq = wq0 at *
  clear vx
  go_wp2_with fail
  refine (HT1.out _).mono ?_
  rintro e w1 ⟨rfl, b1⟩
  replace B := below_trans B b1
  clear b1
  go_wp2_with fail
  refine (HT2.out _).mono ?_
  rintro e w2 ⟨rfl, b2⟩
  replace B := below_trans B b2
  clear b2
  go_wp2_with fail
  refine (lives_calls _).mono ?_
  rintro e w3 ⟨rfl, b3⟩
  replace B := below_trans B b3
  clear b3
  go_wp2
  go_ret
  exact ⟨rfl, B⟩

end Go.Proofs
