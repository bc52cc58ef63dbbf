/- The walk of the law WireRises: whatever comes in, it returns true and changes nothing that was there. -/
import Derived.Test.YtfbfamfgdodncaaFold
open Go.RowKit
namespace Go.Proofs
set_option linter.unusedVariables false
open Go.Deep
set_option maxRecDepth 100000 in
set_option maxHeartbeats 1000000 in
theorem walk_rises (x0 x1 x2 x3 x4 x5 : Int) (y0 y1 y2 y3 y4 y5 : Int) (w : World) (hx0 : -9223372036854775808 ≤ x0 ∧ x0 < 9223372036854775808) (hx1 : -9223372036854775808 ≤ x1 ∧ x1 < 9223372036854775808) (hx2 : -9223372036854775808 ≤ x2 ∧ x2 < 9223372036854775808) (hx3 : -9223372036854775808 ≤ x3 ∧ x3 < 9223372036854775808) (hx4 : -9223372036854775808 ≤ x4 ∧ x4 < 9223372036854775808) (hx5 : -9223372036854775808 ≤ x5 ∧ x5 < 9223372036854775808) (hy0 : -9223372036854775808 ≤ y0 ∧ y0 < 9223372036854775808) (hy1 : -9223372036854775808 ≤ y1 ∧ y1 < 9223372036854775808) (hy2 : -9223372036854775808 ≤ y2 ∧ y2 < 9223372036854775808) (hy3 : -9223372036854775808 ≤ y3 ∧ y3 < 9223372036854775808) (hy4 : -9223372036854775808 ≤ y4 ∧ y4 < 9223372036854775808) (hy5 : -9223372036854775808 ≤ y5 ∧ y5 < 9223372036854775808) :
    Calls Try.prog 4 #[.agg #[.int .i64 x0, .int .i64 x1, .int .i64 x2, .int .i64 x3, .int .i64 x4, .int .i64 x5], .agg #[.int .i64 y0, .int .i64 y1, .int .i64 y2, .int .i64 y3, .int .i64 y4, .int .i64 y5]] w (RetTrue w) := by
  go_enter Try.func4, Try.ntmps4
  have vx := Vals.newL w w.heap.size [.int .i64 x0, .int .i64 x1, .int .i64 x2, .int .i64 x3, .int .i64 x4, .int .i64 x5] 23 rfl
  have B := below_alloc w (.cells #[.int .i64 x0, .int .i64 x1, .int .i64 x2, .int .i64 x3, .int .i64 x4, .int .i64 x5] 23)
  have vy := Vals.newL ((w).alloc (.cells #[.int .i64 x0, .int .i64 x1, .int .i64 x2, .int .i64 x3, .int .i64 x4, .int .i64 x5] 23)) (w.heap.size + 1) [.int .i64 y0, .int .i64 y1, .int .i64 y2, .int .i64 y3, .int .i64 y4, .int .i64 y5] 23 (by simp only [World.size_alloc])
  have B1 := below_alloc ((w).alloc (.cells #[.int .i64 x0, .int .i64 x1, .int .i64 x2, .int .i64 x3, .int .i64 x4, .int .i64 x5] 23)) (.cells #[.int .i64 y0, .int .i64 y1, .int .i64 y2, .int .i64 y3, .int .i64 y4, .int .i64 y5] 23)
  replace vx := vx.mono B1
  replace B := below_trans B B1
  clear B1
  obtain ⟨d, ed, d1, d2⟩ := foldZ_some x0 30000 (by omega) 30000 rfl
  have bx00 := hx0.1
  have bx01 := hx0.2
  obtain ⟨d2, ed2, d21, d22⟩ := foldZ_some y0 30000 (by omega) 30000 rfl
  have by00 := hy0.1
  have by01 := hy0.2
  obtain ⟨t, et, t1, t2⟩ := foldZ_some x2 2000 (by omega) 2000 rfl
  have bx20 := hx2.1
  have bx21 := hx2.2
  obtain ⟨t2, et2, t21, t22⟩ := foldZ_some y2 2000 (by omega) 2000 rfl
  have by20 := hy2.1
  have by21 := hy2.2
  obtain ⟨l, el, l1, l2⟩ := foldZ_some x3 100000 (by omega) 100000 rfl
  have bx30 := hx3.1
  have bx31 := hx3.2
  obtain ⟨l2, el2, l21, l22⟩ := foldZ_some y3 100000 (by omega) 100000 rfl
  have by30 := hy3.1
  have by31 := hy3.2
  obtain ⟨f, ef, f1, f2⟩ := foldZ_some x4 10000000 (by omega) 10000000 rfl
  have bx40 := hx4.1
  have bx41 := hx4.2
  obtain ⟨f2, ef2, f21, f22⟩ := foldZ_some y4 10000000 (by omega) 10000000 rfl
  have by40 := hy4.1
  have by41 := hy4.2
  obtain ⟨md, emd, hd, gd⟩ : ∃ m : Nat, max (d : Int) (d2 : Int) = (m : Int) ∧ d ≤ m ∧ (m = d ∨ m = d2) := ⟨max d d2, by omega, by omega, by omega⟩
  obtain ⟨mt, emt, ht, gt⟩ : ∃ m : Nat, max (t : Int) (t2 : Int) = (m : Int) ∧ t ≤ m ∧ (m = t ∨ m = t2) := ⟨max t t2, by omega, by omega, by omega⟩
  obtain ⟨ml, eml, hl, gl⟩ : ∃ m : Nat, max (l : Int) (l2 : Int) = (m : Int) ∧ l ≤ m ∧ (m = l ∨ m = l2) := ⟨max l l2, by omega, by omega, by omega⟩
  obtain ⟨mf, emf, hf, gf⟩ : ∃ m : Nat, max (f : Int) (f2 : Int) = (m : Int) ∧ f ≤ m ∧ (m = f ∨ m = f2) := ⟨max f f2, by omega, by omega, by omega⟩
  have o1 := pull_mono hd ht hl hf
  have o2 := stress_mono hd hl hf
  have T1 := fun w : World => tension_in d t l f w (by omega) (by omega) (by omega) (by omega)
  have T2 := fun w : World => tension_in md mt ml mf w (by omega) (by omega) (by omega) (by omega)
  have S1 := fun w : World => stress_in d l f w (by omega) (by omega) (by omega)
  have S2 := fun w : World => stress_in md ml mf w (by omega) (by omega) (by omega)
  generalize pullN d t l f = a at *
  generalize pullN md mt ml mf = a2 at *
  generalize stressN d l f = b at *
  generalize stressN md ml mf = b2 at *
  have q1 : (a : Int) ≤ (a2 : Int) := by omega
  have q2 : (b : Int) ≤ (b2 : Int) := by omega
  have q3 : (0 : Int) ≤ (a : Int) := by omega
  have q4 : (0 : Int) ≤ (b : Int) := by omega
  have HT1 := Lib.hid T1
  have HT2 := Lib.hid T2
  have HS1 := Lib.hid S1
  have HS2 := Lib.hid S2
  clear T1 T2 S1 S2 o1 o2 hd ht hl hf gd gt gl gf
  have cx0 := vx.cell (i := 0) (by simp)
  simp only [List.getD_cons_zero, List.getD_cons_succ] at cx0
  have cy0 := vy.cell (i := 0) (by simp)
  simp only [List.getD_cons_zero, List.getD_cons_succ] at cy0
  go_wp2_with fail
  go_quiet ((go_at_call 16; exact Calls.quiet_of_same (fold_same _ _ _ (by omega) (by omega) (by assumption) (by assumption))))
  go_upto_region 2 with (fail)
  clear cx0 cy0
  replace vx := vx.drewN nq
  replace vy := vy.drewN nq
  replace B := below_drewN B nq
  generalize World.drewN (((w).alloc (.cells #[.int .i64 x0, .int .i64 x1, .int .i64 x2, .int .i64 x3, .int .i64 x4, .int .i64 x5] 23)).alloc (.cells #[.int .i64 y0, .int .i64 y1, .int .i64 y2, .int .i64 y3, .int .i64 y4, .int .i64 y5] 23)) nq = wq0 at *
  have cx2 := vx.cell (i := 2) (by simp)
  simp only [List.getD_cons_zero, List.getD_cons_succ] at cx2
  have cy2 := vy.cell (i := 2) (by simp)
  simp only [List.getD_cons_zero, List.getD_cons_succ] at cy2
  go_wp2_with fail
  go_quiet ((go_at_call 16; exact Calls.quiet_of_same (fold_same _ _ _ (by omega) (by omega) (by assumption) (by assumption))))
  go_upto_region 3 with (fail)
  clear cx2 cy2
  replace vx := vx.drewN nq
  replace vy := vy.drewN nq
  replace B := below_drewN B nq
  generalize World.drewN (wq0) nq = wq1 at *
  have cx3 := vx.cell (i := 3) (by simp)
  simp only [List.getD_cons_zero, List.getD_cons_succ] at cx3
  have cy3 := vy.cell (i := 3) (by simp)
  simp only [List.getD_cons_zero, List.getD_cons_succ] at cy3
  go_wp2_with fail
  go_quiet ((go_at_call 16; exact Calls.quiet_of_same (fold_same _ _ _ (by omega) (by omega) (by assumption) (by assumption))))
  go_upto_region 4 with (fail)
  clear cx3 cy3
  replace vx := vx.drewN nq
  replace vy := vy.drewN nq
  replace B := below_drewN B nq
  generalize World.drewN (wq1) nq = wq2 at *
  have cx4 := vx.cell (i := 4) (by simp)
  simp only [List.getD_cons_zero, List.getD_cons_succ] at cx4
  have cy4 := vy.cell (i := 4) (by simp)
  simp only [List.getD_cons_zero, List.getD_cons_succ] at cy4
  go_wp2_with fail
  go_quiet ((go_at_call 16; exact Calls.quiet_of_same (fold_same _ _ _ (by omega) (by omega) (by assumption) (by assumption))))
  go_upto_region 5 with (fail)
  clear cx4 cy4
  replace vx := vx.drewN nq
  replace vy := vy.drewN nq
  replace B := below_drewN B nq
  generalize World.drewN (wq2) nq = wq3 at *
  clear vx vy
  go_wp2_with fail
  refine (HT1.out _).mono ?_
  rintro e w1 ⟨rfl, b1⟩
  replace B := below_trans B b1
  clear b1
  go_wp2_with fail
  refine (HT2.out _).mono ?_
  rintro e w2 ⟨rfl, b2⟩
  replace B := below_trans B b2
  clear b2
  go_wp2_with fail
  refine (HS1.out _).mono ?_
  rintro e w3 ⟨rfl, b3⟩
  replace B := below_trans B b3
  clear b3
  go_wp2_with fail
  refine (HS2.out _).mono ?_
  rintro e w4 ⟨rfl, b4⟩
  replace B := below_trans B b4
  clear b4
  go_wp2_with fail
  refine (lives_calls _).mono ?_
  rintro e w5 ⟨rfl, b5⟩
  replace B := below_trans B b5
  clear b5
  go_wp2
  go_ret
  exact ⟨rfl, B⟩

end Go.Proofs
