/- The walk of the law WireLongs: whatever comes in, it returns true and changes nothing that was there. -/
import Derived.Test.YtfbfamfgdodncaaFold
import Derived.Test.YtfbfamfgdodncaaRWire
open Go.RowKit
namespace Go.Proofs
set_option linter.unusedVariables false
open Go.Deep
set_option maxRecDepth 100000 in
set_option maxHeartbeats 1000000 in
theorem walk_longs (x0 x1 x2 x3 x4 x5 : Int) (w : World) :
    Calls Try.prog 9 #[.agg #[.int .i64 x0, .int .i64 x1, .int .i64 x2, .int .i64 x3, .int .i64 x4, .int .i64 x5]] w (RetTrue w) := by
  go_enter Try.func9, Try.ntmps9
  have vx := Vals.newL w w.heap.size [.int .i64 x0, .int .i64 x1, .int .i64 x2, .int .i64 x3, .int .i64 x4, .int .i64 x5] 23 rfl
  have B := below_alloc w (.cells #[.int .i64 x0, .int .i64 x1, .int .i64 x2, .int .i64 x3, .int .i64 x4, .int .i64 x5] 23)
  have ways : (inR x0 30000 = true ∧ inR x1 100000 = true ∧ inR x4 10000000 = true ∧ inR x5 100 = true) ∨ ¬ (inR x0 30000 = true ∧ inR x1 100000 = true ∧ inR x4 10000000 = true ∧ inR x5 100 = true) ∧ (inR x0 30000 = false ∨ (inR x0 30000 = true ∧ inR x1 100000 = false) ∨ (inR x0 30000 = true ∧ inR x1 100000 = true ∧ inR x4 10000000 = false) ∨ (inR x0 30000 = true ∧ inR x1 100000 = true ∧ inR x4 10000000 = true ∧ inR x5 100 = false)) := by
    generalize inR x0 30000 = r1
    generalize inR x1 100000 = r2
    generalize inR x4 10000000 = r3
    generalize inR x5 100 = r4
    cases r1 <;> cases r2 <;> cases r3 <;> cases r4 <;> simp
  rcases ways with ⟨h0, h1, h4, h5⟩ | ⟨hno, ways⟩
  · obtain ⟨d, rfl, d1, d2⟩ := inR_some (m := 30000) h0
    obtain ⟨s, rfl, s1, s2⟩ := inR_some (m := 100000) h1
    obtain ⟨f, rfl, f1, f2⟩ := inR_some (m := 10000000) h4
    obtain ⟨y, rfl, y1, y2⟩ := inR_some (m := 100) h5
    obtain ⟨r, hr⟩ := root_exists 2 (by omega) (quoN d s f y)
    have LG := fun w : World => longest_in d s f y r w ⟨d1, d2⟩ ⟨s1, s2⟩ ⟨f1, f2⟩ ⟨y1, y2⟩ hr.1 hr.2
    have RL := fun w : World => rlongest_calls d s f y r w ⟨d1, d2⟩ ⟨s1, s2⟩ ⟨f1, f2⟩ ⟨y1, y2⟩ hr.1 hr.2
    generalize (if 100000 < r then (100000 : Int) else (r : Int)) = n at *
    generalize (if r = 0 then (6 : Int) else 0) = er at *
    have HLG := Lib.hid LG
    have HRL := Lib.hid RL
    clear LG RL hr
    have cx0 := vx.cell (i := 0) (by simp)
    have cx1 := vx.cell (i := 1) (by simp)
    have cx4 := vx.cell (i := 4) (by simp)
    have cx5 := vx.cell (i := 5) (by simp)
    simp only [List.getD_cons_zero, List.getD_cons_succ] at cx0 cx1 cx4 cx5
    go_wp2_with fail
    refine (HLG.out _).mono ?_
    rintro e w1 ⟨rfl, b1⟩
    replace vx := vx.mono b1
    replace B := below_trans B b1
    clear b1
    clear cx0 cx1 cx4 cx5
    have cx0 := vx.cell (i := 0) (by simp)
    have cx1 := vx.cell (i := 1) (by simp)
    have cx4 := vx.cell (i := 4) (by simp)
    have cx5 := vx.cell (i := 5) (by simp)
    simp only [List.getD_cons_zero, List.getD_cons_succ] at cx0 cx1 cx4 cx5
    go_wp2_with (first | (go_at_call 21; refine (rDensity_calls _ _).mono ?_; rintro e wq ⟨rfl, rfl⟩) | (go_at_call 27; refine (rStrength_calls _ _).mono ?_; rintro e wq ⟨rfl, rfl⟩) | (go_at_call 23; refine (rFreq_calls _ _).mono ?_; rintro e wq ⟨rfl, rfl⟩) | (go_at_call 28; refine (rSafety_calls _ _).mono ?_; rintro e wq ⟨rfl, rfl⟩))
    refine (HRL.out _).mono ?_
    rintro e w2 ⟨rfl, b2⟩
    replace vx := vx.mono b2
    replace B := below_trans B b2
    clear b2
    clear cx0 cx1 cx4 cx5
    go_wp2_with fail
    refine (lives_calls _).mono ?_
    rintro e w3 ⟨rfl, b3⟩
    replace B := below_trans B b3
    clear b3
    go_wp2
    go_ret
    exact ⟨rfl, B⟩
  · have LG := fun w : World => longest_out x0 x1 x4 x5 w hno
    have HLG := Lib.hid LG
    clear LG hno
    have cx0 := vx.cell (i := 0) (by simp)
    have cx1 := vx.cell (i := 1) (by simp)
    have cx4 := vx.cell (i := 4) (by simp)
    have cx5 := vx.cell (i := 5) (by simp)
    simp only [List.getD_cons_zero, List.getD_cons_succ] at cx0 cx1 cx4 cx5
    go_wp2_with fail
    refine (HLG.out _).mono ?_
    rintro e w1 ⟨rfl, b1⟩
    replace vx := vx.mono b1
    replace B := below_trans B b1
    clear b1
    clear cx0 cx1 cx4 cx5
    have cx0 := vx.cell (i := 0) (by simp)
    have cx1 := vx.cell (i := 1) (by simp)
    have cx4 := vx.cell (i := 4) (by simp)
    have cx5 := vx.cell (i := 5) (by simp)
    simp only [List.getD_cons_zero, List.getD_cons_succ] at cx0 cx1 cx4 cx5
    rcases ways with h0 | ⟨h0, h1⟩ | ⟨h0, h1, h4⟩ | ⟨h0, h1, h4, h5⟩
    all_goals
      go_wp2_with (first | (go_at_call 21; refine (rDensity_calls _ _).mono ?_; rintro e wq ⟨rfl, rfl⟩) | (go_at_call 27; refine (rStrength_calls _ _).mono ?_; rintro e wq ⟨rfl, rfl⟩) | (go_at_call 23; refine (rFreq_calls _ _).mono ?_; rintro e wq ⟨rfl, rfl⟩) | (go_at_call 28; refine (rSafety_calls _ _).mono ?_; rintro e wq ⟨rfl, rfl⟩))
      refine (lives_calls _).mono ?_
      rintro e wz ⟨rfl, bz⟩
      go_wp2
      go_ret
      exact ⟨rfl, below_trans B bz⟩

end Go.Proofs
