/- The walk of the law WireLimit: whatever comes in, it returns true and changes nothing that was there. -/
import Derived.Test.YtfbfamfgdodncaaLongest
import Derived.Test.YtfbfamfgdodncaaFold
open Go.RowKit
namespace Go.Proofs
set_option linter.unusedVariables false
open Go.Deep
set_option maxRecDepth 100000 in
set_option maxHeartbeats 1000000 in
theorem walk_limit (x0 x1 x2 x3 x4 x5 : Int) (z : Int) (w : World) (hx0 : -9223372036854775808 ≤ x0 ∧ x0 < 9223372036854775808) (hx1 : -9223372036854775808 ≤ x1 ∧ x1 < 9223372036854775808) (hx2 : -9223372036854775808 ≤ x2 ∧ x2 < 9223372036854775808) (hx3 : -9223372036854775808 ≤ x3 ∧ x3 < 9223372036854775808) (hx4 : -9223372036854775808 ≤ x4 ∧ x4 < 9223372036854775808) (hx5 : -9223372036854775808 ≤ x5 ∧ x5 < 9223372036854775808) (hz : -9223372036854775808 ≤ z ∧ z < 9223372036854775808) :
    Calls Try.prog 10 #[.agg #[.int .i64 x0, .int .i64 x1, .int .i64 x2, .int .i64 x3, .int .i64 x4, .int .i64 x5], .int .i64 z] w (RetTrue w) := by
  go_enter Try.func10, Try.ntmps10
  have vx := Vals.newL w w.heap.size [.int .i64 x0, .int .i64 x1, .int .i64 x2, .int .i64 x3, .int .i64 x4, .int .i64 x5] 23 rfl
  have B := below_alloc w (.cells #[.int .i64 x0, .int .i64 x1, .int .i64 x2, .int .i64 x3, .int .i64 x4, .int .i64 x5] 23)
  obtain ⟨d, ed, d1, d2⟩ := foldZ_some x0 30000 (by omega) 30000 rfl
  have bx00 := hx0.1
  have bx01 := hx0.2
  obtain ⟨s, es, s1, s2⟩ := foldZ_some x1 100000 (by omega) 100000 rfl
  have bx10 := hx1.1
  have bx11 := hx1.2
  obtain ⟨f, ef, f1, f2⟩ := foldZ_some x4 10000000 (by omega) 10000000 rfl
  have bx40 := hx4.1
  have bx41 := hx4.2
  obtain ⟨y, ey, y1, y2⟩ := foldZ_some x5 100 (by omega) 100 rfl
  have bx50 := hx5.1
  have bx51 := hx5.2
  obtain ⟨L, eL, L1, L2⟩ := foldZ_some z 100000 (by omega) 100000 rfl
  have bz0 := hz.1
  have bz1 := hz.2
  obtain ⟨r, hr⟩ := root_exists 2 (by omega) (quoN d s f y)
  have hh := fun l : Nat => holds_root (d := d) (s := s) (l := l) (f := f) (y := y) (r := r) d1 f1 hr.1 hr.2
  have LG := fun w : World => longest_in d s f y r w ⟨d1, d2⟩ ⟨s1, s2⟩ ⟨f1, f2⟩ ⟨y1, y2⟩ hr.1 hr.2
  have H1 := fun w : World => holds_in d s L f y w ⟨d1, d2⟩ ⟨s1, s2⟩ ⟨L1, L2⟩ ⟨f1, f2⟩ ⟨y1, y2⟩
  rw [hh L] at H1
  by_cases hr0 : r = 0
  · rw [if_neg (by omega), if_pos hr0, hr0] at LG
    rw [decide_eq_false (by omega)] at H1
    have HLG := Lib.hid LG
    have HH1 := Lib.hid H1
    clear LG H1 hh hr hr0
    have cx0 := vx.cell (i := 0) (by simp)
    have cx1 := vx.cell (i := 1) (by simp)
    have cx4 := vx.cell (i := 4) (by simp)
    have cx5 := vx.cell (i := 5) (by simp)
    simp only [List.getD_cons_zero, List.getD_cons_succ] at cx0 cx1 cx4 cx5
    go_wp2_with fail
    go_quiet ((go_at_call 16; exact Calls.quiet_of_same (fold_same _ _ _ (by omega) (by omega) (by omega) (by omega))))
    go_upto_region 2 with (fail)
    clear cx0 cx1 cx4 cx5
    replace vx := vx.drewN nq
    replace B := below_drewN B nq
    generalize World.drewN ((w).alloc (.cells #[.int .i64 x0, .int .i64 x1, .int .i64 x2, .int .i64 x3, .int .i64 x4, .int .i64 x5] 23)) nq = wq0 at *
    clear vx
    go_wp2_with fail
    refine (HLG.out _).mono ?_
    rintro e w1 ⟨rfl, b1⟩
    replace B := below_trans B b1
    clear b1
    go_wp2_with (go_at_call 16; refine (fold_same _ _ _ (by omega) (by omega) (by omega) (by omega)).mono ?_; rintro e w9 ⟨rfl, rfl⟩)
    refine (HH1.out _).mono ?_
    rintro e w2 ⟨rfl, b2⟩
    replace B := below_trans B b2
    clear b2
    go_wp2_with fail
    refine (lives_calls _).mono ?_
    rintro e w3 ⟨rfl, b3⟩
    replace B := below_trans B b3
    clear b3
    go_wp2
    go_ret
    exact ⟨rfl, B⟩
  · obtain ⟨n, hn, n1, n2, n3⟩ : ∃ n : Nat, (if 100000 < r then (100000 : Int) else (r : Int)) = (n : Int) ∧ 1 ≤ n ∧ n ≤ 100000 ∧ n ≤ r ∧ (n < 100000 → n = r) := by
      by_cases h : 100000 < r
      · exact ⟨100000, by rw [if_pos h]; rfl, by omega, by omega, by omega, fun h2 => by omega⟩
      · exact ⟨r, by rw [if_neg h], by omega, by omega, by omega, fun _ => rfl⟩
    rw [hn, if_neg hr0] at LG
    have H2 := fun w : World => holds_in d s n f y w ⟨d1, d2⟩ ⟨s1, s2⟩ ⟨n1, n2⟩ ⟨f1, f2⟩ ⟨y1, y2⟩
    rw [hh n, decide_eq_true n3.1] at H2
    obtain ⟨N, eN⟩ : ∃ N : Int, (n : Int) = N := ⟨_, rfl⟩
    rw [eN] at LG H2
    have HLG := Lib.hid LG
    have HH2 := Lib.hid H2
    clear LG H2 hn hr0
    by_cases hLn : L ≤ n
    · by_cases hlt : n < 100000
      · have k1 : decide ((L : Int) ≤ N) = true := by rw [decide_eq_true_eq]; omega
        rw [decide_eq_true (by have := n3.2; omega)] at H1
        have HH1 := Lib.hid H1
        clear H1 hLn
        have H3 := fun w : World => holds_in d s (n + 1) f y w ⟨d1, d2⟩ ⟨s1, s2⟩ ⟨by omega, by omega⟩ ⟨f1, f2⟩ ⟨y1, y2⟩
        rw [hh (n + 1), decide_eq_false (by have := n3.2 hlt; omega), show ((n + 1 : Nat) : Int) = N + 1 from by omega] at H3
        have HH3 := Lib.hid H3
        clear H3
        have k2 : decide (N < 100000) = true := by rw [decide_eq_true_eq]; omega
        have k3 : decide (N < 1) = false := by rw [decide_eq_false_iff_not]; omega
        have k4 : decide ((100000 : Int) < N) = false := by rw [decide_eq_false_iff_not]; omega
        have nb : N < 200000 := by omega
        have na : 0 < N := by omega
        clear hh hr n1 n2 n3 hlt L1 L2 eN
        have cx0 := vx.cell (i := 0) (by simp)
        have cx1 := vx.cell (i := 1) (by simp)
        have cx4 := vx.cell (i := 4) (by simp)
        have cx5 := vx.cell (i := 5) (by simp)
        simp only [List.getD_cons_zero, List.getD_cons_succ] at cx0 cx1 cx4 cx5
        go_wp2_with fail
        go_quiet ((go_at_call 16; exact Calls.quiet_of_same (fold_same _ _ _ (by omega) (by omega) (by omega) (by omega))))
        go_upto_region 2 with (fail)
        clear cx0 cx1 cx4 cx5
        replace vx := vx.drewN nq
        replace B := below_drewN B nq
        generalize World.drewN ((w).alloc (.cells #[.int .i64 x0, .int .i64 x1, .int .i64 x2, .int .i64 x3, .int .i64 x4, .int .i64 x5] 23)) nq = wq0 at *
        clear vx
        go_wp2_with fail
        refine (HLG.out _).mono ?_
        rintro e w1 ⟨rfl, b1⟩
        replace B := below_trans B b1
        clear b1
        go_wp2_with (go_at_call 16; refine (fold_same _ _ _ (by omega) (by omega) (by omega) (by omega)).mono ?_; rintro e w9 ⟨rfl, rfl⟩)
        refine (HH1.out _).mono ?_
        rintro e w2 ⟨rfl, b2⟩
        replace B := below_trans B b2
        clear b2
        go_wp2_with fail
        refine (lives_calls _).mono ?_
        rintro e w3 ⟨rfl, b3⟩
        replace B := below_trans B b3
        clear b3
        go_wp2_with fail
        refine (HH2.out _).mono ?_
        rintro e w4 ⟨rfl, b4⟩
        replace B := below_trans B b4
        clear b4
        go_wp2_with fail
        refine (HH3.out _).mono ?_
        rintro e w5 ⟨rfl, b5⟩
        replace B := below_trans B b5
        clear b5
        clear nb d1 d2 s1 s2 f1 f2 y1 y2 bx00 bx01 bx10 bx11 bx40 bx41 bx50 bx51 bz0 bz1 hx0 hx1 hx2 hx3 hx4 hx5 hz
        go_wp2
        go_ret
        exact ⟨rfl, B⟩
      · have k1 : decide ((L : Int) ≤ N) = true := by rw [decide_eq_true_eq]; omega
        rw [decide_eq_true (by have := n3.2; omega)] at H1
        have HH1 := Lib.hid H1
        clear H1 hLn
        have k2 : decide (N < 100000) = false := by rw [decide_eq_false_iff_not]; omega
        have k3 : decide (N < 1) = false := by rw [decide_eq_false_iff_not]; omega
        have k4 : decide ((100000 : Int) < N) = false := by rw [decide_eq_false_iff_not]; omega
        have nb : N < 200000 := by omega
        have na : 0 < N := by omega
        clear hh hr n1 n2 n3 hlt L1 L2 eN
        have cx0 := vx.cell (i := 0) (by simp)
        have cx1 := vx.cell (i := 1) (by simp)
        have cx4 := vx.cell (i := 4) (by simp)
        have cx5 := vx.cell (i := 5) (by simp)
        simp only [List.getD_cons_zero, List.getD_cons_succ] at cx0 cx1 cx4 cx5
        go_wp2_with fail
        go_quiet ((go_at_call 16; exact Calls.quiet_of_same (fold_same _ _ _ (by omega) (by omega) (by omega) (by omega))))
        go_upto_region 2 with (fail)
        clear cx0 cx1 cx4 cx5
        replace vx := vx.drewN nq
        replace B := below_drewN B nq
        generalize World.drewN ((w).alloc (.cells #[.int .i64 x0, .int .i64 x1, .int .i64 x2, .int .i64 x3, .int .i64 x4, .int .i64 x5] 23)) nq = wq0 at *
        clear vx
        go_wp2_with fail
        refine (HLG.out _).mono ?_
        rintro e w1 ⟨rfl, b1⟩
        replace B := below_trans B b1
        clear b1
        go_wp2_with (go_at_call 16; refine (fold_same _ _ _ (by omega) (by omega) (by omega) (by omega)).mono ?_; rintro e w9 ⟨rfl, rfl⟩)
        refine (HH1.out _).mono ?_
        rintro e w2 ⟨rfl, b2⟩
        replace B := below_trans B b2
        clear b2
        go_wp2_with fail
        refine (lives_calls _).mono ?_
        rintro e w3 ⟨rfl, b3⟩
        replace B := below_trans B b3
        clear b3
        go_wp2_with fail
        refine (HH2.out _).mono ?_
        rintro e w4 ⟨rfl, b4⟩
        replace B := below_trans B b4
        clear b4
        clear nb d1 d2 s1 s2 f1 f2 y1 y2 bx00 bx01 bx10 bx11 bx40 bx41 bx50 bx51 bz0 bz1 hx0 hx1 hx2 hx3 hx4 hx5 hz
        go_wp2
        go_ret
        exact ⟨rfl, B⟩
    · by_cases hlt : n < 100000
      · have k1 : decide ((L : Int) ≤ N) = false := by rw [decide_eq_false_iff_not]; omega
        rw [decide_eq_false (by have := n3.2; omega)] at H1
        have HH1 := Lib.hid H1
        clear H1 hLn
        have H3 := fun w : World => holds_in d s (n + 1) f y w ⟨d1, d2⟩ ⟨s1, s2⟩ ⟨by omega, by omega⟩ ⟨f1, f2⟩ ⟨y1, y2⟩
        rw [hh (n + 1), decide_eq_false (by have := n3.2 hlt; omega), show ((n + 1 : Nat) : Int) = N + 1 from by omega] at H3
        have HH3 := Lib.hid H3
        clear H3
        have k2 : decide (N < 100000) = true := by rw [decide_eq_true_eq]; omega
        have k3 : decide (N < 1) = false := by rw [decide_eq_false_iff_not]; omega
        have k4 : decide ((100000 : Int) < N) = false := by rw [decide_eq_false_iff_not]; omega
        have nb : N < 200000 := by omega
        have na : 0 < N := by omega
        clear hh hr n1 n2 n3 hlt L1 L2 eN
        have cx0 := vx.cell (i := 0) (by simp)
        have cx1 := vx.cell (i := 1) (by simp)
        have cx4 := vx.cell (i := 4) (by simp)
        have cx5 := vx.cell (i := 5) (by simp)
        simp only [List.getD_cons_zero, List.getD_cons_succ] at cx0 cx1 cx4 cx5
        go_wp2_with fail
        go_quiet ((go_at_call 16; exact Calls.quiet_of_same (fold_same _ _ _ (by omega) (by omega) (by omega) (by omega))))
        go_upto_region 2 with (fail)
        clear cx0 cx1 cx4 cx5
        replace vx := vx.drewN nq
        replace B := below_drewN B nq
        generalize World.drewN ((w).alloc (.cells #[.int .i64 x0, .int .i64 x1, .int .i64 x2, .int .i64 x3, .int .i64 x4, .int .i64 x5] 23)) nq = wq0 at *
        clear vx
        go_wp2_with fail
        refine (HLG.out _).mono ?_
        rintro e w1 ⟨rfl, b1⟩
        replace B := below_trans B b1
        clear b1
        go_wp2_with (go_at_call 16; refine (fold_same _ _ _ (by omega) (by omega) (by omega) (by omega)).mono ?_; rintro e w9 ⟨rfl, rfl⟩)
        refine (HH1.out _).mono ?_
        rintro e w2 ⟨rfl, b2⟩
        replace B := below_trans B b2
        clear b2
        go_wp2_with fail
        refine (lives_calls _).mono ?_
        rintro e w3 ⟨rfl, b3⟩
        replace B := below_trans B b3
        clear b3
        go_wp2_with fail
        refine (HH2.out _).mono ?_
        rintro e w4 ⟨rfl, b4⟩
        replace B := below_trans B b4
        clear b4
        go_wp2_with fail
        refine (HH3.out _).mono ?_
        rintro e w5 ⟨rfl, b5⟩
        replace B := below_trans B b5
        clear b5
        clear nb d1 d2 s1 s2 f1 f2 y1 y2 bx00 bx01 bx10 bx11 bx40 bx41 bx50 bx51 bz0 bz1 hx0 hx1 hx2 hx3 hx4 hx5 hz
        go_wp2
        go_ret
        exact ⟨rfl, B⟩
      · exfalso
        omega

end Go.Proofs
