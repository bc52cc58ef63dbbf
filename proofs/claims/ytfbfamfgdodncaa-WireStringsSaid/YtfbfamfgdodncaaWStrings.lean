/- The walk of the law WireStrings: whatever comes in, it returns true and changes nothing that was there. -/
import Derived.Test.YtfbfamfgdodncaaFold
import Derived.Test.YtfbfamfgdodncaaRWire
open Go.RowKit
namespace Go.Proofs
set_option linter.unusedVariables false
open Go.Deep
set_option maxRecDepth 100000 in
set_option maxHeartbeats 1000000 in
theorem walk_strings (x0 x1 x2 x3 x4 x5 : Int) (w : World) :
    Calls Try.prog 5 #[.agg #[.int .i64 x0, .int .i64 x1, .int .i64 x2, .int .i64 x3, .int .i64 x4, .int .i64 x5]] w (RetTrue w) := by
  go_enter Try.func5, Try.ntmps5
  have vx := Vals.newL w w.heap.size [.int .i64 x0, .int .i64 x1, .int .i64 x2, .int .i64 x3, .int .i64 x4, .int .i64 x5] 23 rfl
  have B := below_alloc w (.cells #[.int .i64 x0, .int .i64 x1, .int .i64 x2, .int .i64 x3, .int .i64 x4, .int .i64 x5] 23)
  have t0 : inR x0 30000 = true ∨ inR x0 30000 = false := by cases inR x0 30000 <;> simp
  have t1 : inR x1 100000 = true ∨ inR x1 100000 = false := by cases inR x1 100000 <;> simp
  have t2 : inR x2 2000 = true ∨ inR x2 2000 = false := by cases inR x2 2000 <;> simp
  have t3 : inR x3 100000 = true ∨ inR x3 100000 = false := by cases inR x3 100000 <;> simp
  have t4 : inR x4 10000000 = true ∨ inR x4 10000000 = false := by cases inR x4 10000000 <;> simp
  have t5 : inR x5 100 = true ∨ inR x5 100 = false := by cases inR x5 100 <;> simp
  rcases t0 with h0 | h0
  · rcases t3 with h3 | h3
    · rcases t4 with h4 | h4
      · rcases t2 with h2 | h2
        · rcases t1 with h1 | h1
          · rcases t5 with h5 | h5
            · obtain ⟨d, rfl, d1, d2⟩ := inR_some (m := 30000) h0
              obtain ⟨s, rfl, s1, s2⟩ := inR_some (m := 100000) h1
              obtain ⟨t, rfl, t1, t2⟩ := inR_some (m := 2000) h2
              obtain ⟨l, rfl, l1, l2⟩ := inR_some (m := 100000) h3
              obtain ⟨f, rfl, f1, f2⟩ := inR_some (m := 10000000) h4
              obtain ⟨y, rfl, y1, y2⟩ := inR_some (m := 100) h5
              have LT := fun w : World => tension_in d t l f w ⟨d1, d2⟩ ⟨t1, t2⟩ ⟨l1, l2⟩ ⟨f1, f2⟩
              have RT := fun w : World => rtension_calls d t l f w (by omega) (by omega) (by omega) (by omega)
              generalize pullN d t l f = p at *
              have HRT := Lib.hid RT
              clear RT
              have LS := fun w : World => stress_in d l f w ⟨d1, d2⟩ ⟨l1, l2⟩ ⟨f1, f2⟩
              have RS := fun w : World => rstress_calls d l f w (by omega) (by omega) (by omega)
              generalize stressN d l f = q at *
              have HRS := Lib.hid RS
              clear RS
              have LH := fun w : World => holds_in d s l f y w ⟨d1, d2⟩ ⟨s1, s2⟩ ⟨l1, l2⟩ ⟨f1, f2⟩ ⟨y1, y2⟩
              have RH := fun w : World => rholds_calls d s l f y w (by omega) (by omega) (by omega) (by omega) (by omega)
              generalize holdsB d s l f y = hb at *
              have HRH := Lib.hid RH
              clear RH
              have HLT := Lib.hid LT
              have HLS := Lib.hid LS
              have HLH := Lib.hid LH
              clear LT LS LH
              have cx0 := vx.cell (i := 0) (by simp)
              have cx1 := vx.cell (i := 1) (by simp)
              have cx2 := vx.cell (i := 2) (by simp)
              have cx3 := vx.cell (i := 3) (by simp)
              have cx4 := vx.cell (i := 4) (by simp)
              have cx5 := vx.cell (i := 5) (by simp)
              simp only [List.getD_cons_zero, List.getD_cons_succ] at cx0 cx1 cx2 cx3 cx4 cx5
              go_wp2_with fail
              refine (HLT.out _).mono ?_
              rintro e w1 ⟨rfl, b1⟩
              replace vx := vx.mono b1
              replace B := below_trans B b1
              clear b1
              clear cx0 cx1 cx2 cx3 cx4 cx5
              have cx0 := vx.cell (i := 0) (by simp)
              have cx1 := vx.cell (i := 1) (by simp)
              have cx2 := vx.cell (i := 2) (by simp)
              have cx3 := vx.cell (i := 3) (by simp)
              have cx4 := vx.cell (i := 4) (by simp)
              have cx5 := vx.cell (i := 5) (by simp)
              simp only [List.getD_cons_zero, List.getD_cons_succ] at cx0 cx1 cx2 cx3 cx4 cx5
              go_wp2_with fail
              refine (HLS.out _).mono ?_
              rintro e w2 ⟨rfl, b2⟩
              replace vx := vx.mono b2
              replace B := below_trans B b2
              clear b2
              clear cx0 cx1 cx2 cx3 cx4 cx5
              have cx0 := vx.cell (i := 0) (by simp)
              have cx1 := vx.cell (i := 1) (by simp)
              have cx2 := vx.cell (i := 2) (by simp)
              have cx3 := vx.cell (i := 3) (by simp)
              have cx4 := vx.cell (i := 4) (by simp)
              have cx5 := vx.cell (i := 5) (by simp)
              simp only [List.getD_cons_zero, List.getD_cons_succ] at cx0 cx1 cx2 cx3 cx4 cx5
              go_wp2_with fail
              refine (HLH.out _).mono ?_
              rintro e w3 ⟨rfl, b3⟩
              replace vx := vx.mono b3
              replace B := below_trans B b3
              clear b3
              clear cx0 cx1 cx2 cx3 cx4 cx5
              have cx0 := vx.cell (i := 0) (by simp)
              have cx1 := vx.cell (i := 1) (by simp)
              have cx2 := vx.cell (i := 2) (by simp)
              have cx3 := vx.cell (i := 3) (by simp)
              have cx4 := vx.cell (i := 4) (by simp)
              have cx5 := vx.cell (i := 5) (by simp)
              simp only [List.getD_cons_zero, List.getD_cons_succ] at cx0 cx1 cx2 cx3 cx4 cx5
              go_wp2_with (first | (go_at_call 21; refine (rDensity_calls _ _).mono ?_; rintro e wq ⟨rfl, rfl⟩) | (go_at_call 22; refine (rLength_calls _ _).mono ?_; rintro e wq ⟨rfl, rfl⟩) | (go_at_call 23; refine (rFreq_calls _ _).mono ?_; rintro e wq ⟨rfl, rfl⟩) | (go_at_call 25; refine (rDiameter_calls _ _).mono ?_; rintro e wq ⟨rfl, rfl⟩) | (go_at_call 27; refine (rStrength_calls _ _).mono ?_; rintro e wq ⟨rfl, rfl⟩) | (go_at_call 28; refine (rSafety_calls _ _).mono ?_; rintro e wq ⟨rfl, rfl⟩))
              refine (HRS.out _).mono ?_
              rintro e w4 ⟨rfl, b4⟩
              replace vx := vx.mono b4
              replace B := below_trans B b4
              clear b4
              clear cx0 cx1 cx2 cx3 cx4 cx5
              have cx0 := vx.cell (i := 0) (by simp)
              have cx1 := vx.cell (i := 1) (by simp)
              have cx2 := vx.cell (i := 2) (by simp)
              have cx3 := vx.cell (i := 3) (by simp)
              have cx4 := vx.cell (i := 4) (by simp)
              have cx5 := vx.cell (i := 5) (by simp)
              simp only [List.getD_cons_zero, List.getD_cons_succ] at cx0 cx1 cx2 cx3 cx4 cx5
              go_wp2_with (first | (go_at_call 21; refine (rDensity_calls _ _).mono ?_; rintro e wq ⟨rfl, rfl⟩) | (go_at_call 22; refine (rLength_calls _ _).mono ?_; rintro e wq ⟨rfl, rfl⟩) | (go_at_call 23; refine (rFreq_calls _ _).mono ?_; rintro e wq ⟨rfl, rfl⟩) | (go_at_call 25; refine (rDiameter_calls _ _).mono ?_; rintro e wq ⟨rfl, rfl⟩) | (go_at_call 27; refine (rStrength_calls _ _).mono ?_; rintro e wq ⟨rfl, rfl⟩) | (go_at_call 28; refine (rSafety_calls _ _).mono ?_; rintro e wq ⟨rfl, rfl⟩))
              refine (HRT.out _).mono ?_
              rintro e w5 ⟨rfl, b5⟩
              replace vx := vx.mono b5
              replace B := below_trans B b5
              clear b5
              clear cx0 cx1 cx2 cx3 cx4 cx5
              have cx0 := vx.cell (i := 0) (by simp)
              have cx1 := vx.cell (i := 1) (by simp)
              have cx2 := vx.cell (i := 2) (by simp)
              have cx3 := vx.cell (i := 3) (by simp)
              have cx4 := vx.cell (i := 4) (by simp)
              have cx5 := vx.cell (i := 5) (by simp)
              simp only [List.getD_cons_zero, List.getD_cons_succ] at cx0 cx1 cx2 cx3 cx4 cx5
              go_wp2_with (first | (go_at_call 21; refine (rDensity_calls _ _).mono ?_; rintro e wq ⟨rfl, rfl⟩) | (go_at_call 22; refine (rLength_calls _ _).mono ?_; rintro e wq ⟨rfl, rfl⟩) | (go_at_call 23; refine (rFreq_calls _ _).mono ?_; rintro e wq ⟨rfl, rfl⟩) | (go_at_call 25; refine (rDiameter_calls _ _).mono ?_; rintro e wq ⟨rfl, rfl⟩) | (go_at_call 27; refine (rStrength_calls _ _).mono ?_; rintro e wq ⟨rfl, rfl⟩) | (go_at_call 28; refine (rSafety_calls _ _).mono ?_; rintro e wq ⟨rfl, rfl⟩))
              refine (HRH.out _).mono ?_
              rintro e w6 ⟨rfl, b6⟩
              replace vx := vx.mono b6
              replace B := below_trans B b6
              clear b6
              clear cx0 cx1 cx2 cx3 cx4 cx5
              have cx0 := vx.cell (i := 0) (by simp)
              have cx1 := vx.cell (i := 1) (by simp)
              have cx2 := vx.cell (i := 2) (by simp)
              have cx3 := vx.cell (i := 3) (by simp)
              have cx4 := vx.cell (i := 4) (by simp)
              have cx5 := vx.cell (i := 5) (by simp)
              simp only [List.getD_cons_zero, List.getD_cons_succ] at cx0 cx1 cx2 cx3 cx4 cx5
              go_wp2_with (first | (go_at_call 21; refine (rDensity_calls _ _).mono ?_; rintro e wq ⟨rfl, rfl⟩) | (go_at_call 22; refine (rLength_calls _ _).mono ?_; rintro e wq ⟨rfl, rfl⟩) | (go_at_call 23; refine (rFreq_calls _ _).mono ?_; rintro e wq ⟨rfl, rfl⟩) | (go_at_call 25; refine (rDiameter_calls _ _).mono ?_; rintro e wq ⟨rfl, rfl⟩) | (go_at_call 27; refine (rStrength_calls _ _).mono ?_; rintro e wq ⟨rfl, rfl⟩) | (go_at_call 28; refine (rSafety_calls _ _).mono ?_; rintro e wq ⟨rfl, rfl⟩))
              refine (lives_calls _).mono ?_
              rintro e w7 ⟨rfl, b7⟩
              replace B := below_trans B b7
              clear b7
              go_wp2
              go_ret
              exact ⟨rfl, B⟩
            · obtain ⟨d, rfl, d1, d2⟩ := inR_some (m := 30000) h0
              obtain ⟨t, rfl, t1, t2⟩ := inR_some (m := 2000) h2
              obtain ⟨l, rfl, l1, l2⟩ := inR_some (m := 100000) h3
              obtain ⟨f, rfl, f1, f2⟩ := inR_some (m := 10000000) h4
              have LT := fun w : World => tension_in d t l f w ⟨d1, d2⟩ ⟨t1, t2⟩ ⟨l1, l2⟩ ⟨f1, f2⟩
              have RT := fun w : World => rtension_calls d t l f w (by omega) (by omega) (by omega) (by omega)
              generalize pullN d t l f = p at *
              have HRT := Lib.hid RT
              clear RT
              have LS := fun w : World => stress_in d l f w ⟨d1, d2⟩ ⟨l1, l2⟩ ⟨f1, f2⟩
              have RS := fun w : World => rstress_calls d l f w (by omega) (by omega) (by omega)
              generalize stressN d l f = q at *
              have HRS := Lib.hid RS
              clear RS
              have LH := fun w : World => holds_out (d : Int) x1 (l : Int) (f : Int) x5 w (fun h => by rw [h5] at h; simp at h)
              have HLT := Lib.hid LT
              have HLS := Lib.hid LS
              have HLH := Lib.hid LH
              clear LT LS LH
              have cx0 := vx.cell (i := 0) (by simp)
              have cx1 := vx.cell (i := 1) (by simp)
              have cx2 := vx.cell (i := 2) (by simp)
              have cx3 := vx.cell (i := 3) (by simp)
              have cx4 := vx.cell (i := 4) (by simp)
              have cx5 := vx.cell (i := 5) (by simp)
              simp only [List.getD_cons_zero, List.getD_cons_succ] at cx0 cx1 cx2 cx3 cx4 cx5
              go_wp2_with fail
              refine (HLT.out _).mono ?_
              rintro e w1 ⟨rfl, b1⟩
              replace vx := vx.mono b1
              replace B := below_trans B b1
              clear b1
              clear cx0 cx1 cx2 cx3 cx4 cx5
              have cx0 := vx.cell (i := 0) (by simp)
              have cx1 := vx.cell (i := 1) (by simp)
              have cx2 := vx.cell (i := 2) (by simp)
              have cx3 := vx.cell (i := 3) (by simp)
              have cx4 := vx.cell (i := 4) (by simp)
              have cx5 := vx.cell (i := 5) (by simp)
              simp only [List.getD_cons_zero, List.getD_cons_succ] at cx0 cx1 cx2 cx3 cx4 cx5
              go_wp2_with fail
              refine (HLS.out _).mono ?_
              rintro e w2 ⟨rfl, b2⟩
              replace vx := vx.mono b2
              replace B := below_trans B b2
              clear b2
              clear cx0 cx1 cx2 cx3 cx4 cx5
              have cx0 := vx.cell (i := 0) (by simp)
              have cx1 := vx.cell (i := 1) (by simp)
              have cx2 := vx.cell (i := 2) (by simp)
              have cx3 := vx.cell (i := 3) (by simp)
              have cx4 := vx.cell (i := 4) (by simp)
              have cx5 := vx.cell (i := 5) (by simp)
              simp only [List.getD_cons_zero, List.getD_cons_succ] at cx0 cx1 cx2 cx3 cx4 cx5
              go_wp2_with fail
              refine (HLH.out _).mono ?_
              rintro e w3 ⟨rfl, b3⟩
              replace vx := vx.mono b3
              replace B := below_trans B b3
              clear b3
              clear cx0 cx1 cx2 cx3 cx4 cx5
              have cx0 := vx.cell (i := 0) (by simp)
              have cx1 := vx.cell (i := 1) (by simp)
              have cx2 := vx.cell (i := 2) (by simp)
              have cx3 := vx.cell (i := 3) (by simp)
              have cx4 := vx.cell (i := 4) (by simp)
              have cx5 := vx.cell (i := 5) (by simp)
              simp only [List.getD_cons_zero, List.getD_cons_succ] at cx0 cx1 cx2 cx3 cx4 cx5
              go_wp2_with (first | (go_at_call 21; refine (rDensity_calls _ _).mono ?_; rintro e wq ⟨rfl, rfl⟩) | (go_at_call 22; refine (rLength_calls _ _).mono ?_; rintro e wq ⟨rfl, rfl⟩) | (go_at_call 23; refine (rFreq_calls _ _).mono ?_; rintro e wq ⟨rfl, rfl⟩) | (go_at_call 25; refine (rDiameter_calls _ _).mono ?_; rintro e wq ⟨rfl, rfl⟩) | (go_at_call 27; refine (rStrength_calls _ _).mono ?_; rintro e wq ⟨rfl, rfl⟩) | (go_at_call 28; refine (rSafety_calls _ _).mono ?_; rintro e wq ⟨rfl, rfl⟩))
              refine (HRS.out _).mono ?_
              rintro e w4 ⟨rfl, b4⟩
              replace vx := vx.mono b4
              replace B := below_trans B b4
              clear b4
              clear cx0 cx1 cx2 cx3 cx4 cx5
              have cx0 := vx.cell (i := 0) (by simp)
              have cx1 := vx.cell (i := 1) (by simp)
              have cx2 := vx.cell (i := 2) (by simp)
              have cx3 := vx.cell (i := 3) (by simp)
              have cx4 := vx.cell (i := 4) (by simp)
              have cx5 := vx.cell (i := 5) (by simp)
              simp only [List.getD_cons_zero, List.getD_cons_succ] at cx0 cx1 cx2 cx3 cx4 cx5
              go_wp2_with (first | (go_at_call 21; refine (rDensity_calls _ _).mono ?_; rintro e wq ⟨rfl, rfl⟩) | (go_at_call 22; refine (rLength_calls _ _).mono ?_; rintro e wq ⟨rfl, rfl⟩) | (go_at_call 23; refine (rFreq_calls _ _).mono ?_; rintro e wq ⟨rfl, rfl⟩) | (go_at_call 25; refine (rDiameter_calls _ _).mono ?_; rintro e wq ⟨rfl, rfl⟩) | (go_at_call 27; refine (rStrength_calls _ _).mono ?_; rintro e wq ⟨rfl, rfl⟩) | (go_at_call 28; refine (rSafety_calls _ _).mono ?_; rintro e wq ⟨rfl, rfl⟩))
              refine (HRT.out _).mono ?_
              rintro e w5 ⟨rfl, b5⟩
              replace vx := vx.mono b5
              replace B := below_trans B b5
              clear b5
              clear cx0 cx1 cx2 cx3 cx4 cx5
              have cx0 := vx.cell (i := 0) (by simp)
              have cx1 := vx.cell (i := 1) (by simp)
              have cx2 := vx.cell (i := 2) (by simp)
              have cx3 := vx.cell (i := 3) (by simp)
              have cx4 := vx.cell (i := 4) (by simp)
              have cx5 := vx.cell (i := 5) (by simp)
              simp only [List.getD_cons_zero, List.getD_cons_succ] at cx0 cx1 cx2 cx3 cx4 cx5
              go_wp2_with (first | (go_at_call 21; refine (rDensity_calls _ _).mono ?_; rintro e wq ⟨rfl, rfl⟩) | (go_at_call 22; refine (rLength_calls _ _).mono ?_; rintro e wq ⟨rfl, rfl⟩) | (go_at_call 23; refine (rFreq_calls _ _).mono ?_; rintro e wq ⟨rfl, rfl⟩) | (go_at_call 25; refine (rDiameter_calls _ _).mono ?_; rintro e wq ⟨rfl, rfl⟩) | (go_at_call 27; refine (rStrength_calls _ _).mono ?_; rintro e wq ⟨rfl, rfl⟩) | (go_at_call 28; refine (rSafety_calls _ _).mono ?_; rintro e wq ⟨rfl, rfl⟩))
              refine (lives_calls _).mono ?_
              rintro e w6 ⟨rfl, b6⟩
              replace B := below_trans B b6
              clear b6
              go_wp2
              go_ret
              exact ⟨rfl, B⟩
          · obtain ⟨d, rfl, d1, d2⟩ := inR_some (m := 30000) h0
            obtain ⟨t, rfl, t1, t2⟩ := inR_some (m := 2000) h2
            obtain ⟨l, rfl, l1, l2⟩ := inR_some (m := 100000) h3
            obtain ⟨f, rfl, f1, f2⟩ := inR_some (m := 10000000) h4
            have LT := fun w : World => tension_in d t l f w ⟨d1, d2⟩ ⟨t1, t2⟩ ⟨l1, l2⟩ ⟨f1, f2⟩
            have RT := fun w : World => rtension_calls d t l f w (by omega) (by omega) (by omega) (by omega)
            generalize pullN d t l f = p at *
            have HRT := Lib.hid RT
            clear RT
            have LS := fun w : World => stress_in d l f w ⟨d1, d2⟩ ⟨l1, l2⟩ ⟨f1, f2⟩
            have RS := fun w : World => rstress_calls d l f w (by omega) (by omega) (by omega)
            generalize stressN d l f = q at *
            have HRS := Lib.hid RS
            clear RS
            have LH := fun w : World => holds_out (d : Int) x1 (l : Int) (f : Int) x5 w (fun h => by rw [h1] at h; simp at h)
            have HLT := Lib.hid LT
            have HLS := Lib.hid LS
            have HLH := Lib.hid LH
            clear LT LS LH
            have cx0 := vx.cell (i := 0) (by simp)
            have cx1 := vx.cell (i := 1) (by simp)
            have cx2 := vx.cell (i := 2) (by simp)
            have cx3 := vx.cell (i := 3) (by simp)
            have cx4 := vx.cell (i := 4) (by simp)
            have cx5 := vx.cell (i := 5) (by simp)
            simp only [List.getD_cons_zero, List.getD_cons_succ] at cx0 cx1 cx2 cx3 cx4 cx5
            go_wp2_with fail
            refine (HLT.out _).mono ?_
            rintro e w1 ⟨rfl, b1⟩
            replace vx := vx.mono b1
            replace B := below_trans B b1
            clear b1
            clear cx0 cx1 cx2 cx3 cx4 cx5
            have cx0 := vx.cell (i := 0) (by simp)
            have cx1 := vx.cell (i := 1) (by simp)
            have cx2 := vx.cell (i := 2) (by simp)
            have cx3 := vx.cell (i := 3) (by simp)
            have cx4 := vx.cell (i := 4) (by simp)
            have cx5 := vx.cell (i := 5) (by simp)
            simp only [List.getD_cons_zero, List.getD_cons_succ] at cx0 cx1 cx2 cx3 cx4 cx5
            go_wp2_with fail
            refine (HLS.out _).mono ?_
            rintro e w2 ⟨rfl, b2⟩
            replace vx := vx.mono b2
            replace B := below_trans B b2
            clear b2
            clear cx0 cx1 cx2 cx3 cx4 cx5
            have cx0 := vx.cell (i := 0) (by simp)
            have cx1 := vx.cell (i := 1) (by simp)
            have cx2 := vx.cell (i := 2) (by simp)
            have cx3 := vx.cell (i := 3) (by simp)
            have cx4 := vx.cell (i := 4) (by simp)
            have cx5 := vx.cell (i := 5) (by simp)
            simp only [List.getD_cons_zero, List.getD_cons_succ] at cx0 cx1 cx2 cx3 cx4 cx5
            go_wp2_with fail
            refine (HLH.out _).mono ?_
            rintro e w3 ⟨rfl, b3⟩
            replace vx := vx.mono b3
            replace B := below_trans B b3
            clear b3
            clear cx0 cx1 cx2 cx3 cx4 cx5
            have cx0 := vx.cell (i := 0) (by simp)
            have cx1 := vx.cell (i := 1) (by simp)
            have cx2 := vx.cell (i := 2) (by simp)
            have cx3 := vx.cell (i := 3) (by simp)
            have cx4 := vx.cell (i := 4) (by simp)
            have cx5 := vx.cell (i := 5) (by simp)
            simp only [List.getD_cons_zero, List.getD_cons_succ] at cx0 cx1 cx2 cx3 cx4 cx5
            go_wp2_with (first | (go_at_call 21; refine (rDensity_calls _ _).mono ?_; rintro e wq ⟨rfl, rfl⟩) | (go_at_call 22; refine (rLength_calls _ _).mono ?_; rintro e wq ⟨rfl, rfl⟩) | (go_at_call 23; refine (rFreq_calls _ _).mono ?_; rintro e wq ⟨rfl, rfl⟩) | (go_at_call 25; refine (rDiameter_calls _ _).mono ?_; rintro e wq ⟨rfl, rfl⟩) | (go_at_call 27; refine (rStrength_calls _ _).mono ?_; rintro e wq ⟨rfl, rfl⟩) | (go_at_call 28; refine (rSafety_calls _ _).mono ?_; rintro e wq ⟨rfl, rfl⟩))
            refine (HRS.out _).mono ?_
            rintro e w4 ⟨rfl, b4⟩
            replace vx := vx.mono b4
            replace B := below_trans B b4
            clear b4
            clear cx0 cx1 cx2 cx3 cx4 cx5
            have cx0 := vx.cell (i := 0) (by simp)
            have cx1 := vx.cell (i := 1) (by simp)
            have cx2 := vx.cell (i := 2) (by simp)
            have cx3 := vx.cell (i := 3) (by simp)
            have cx4 := vx.cell (i := 4) (by simp)
            have cx5 := vx.cell (i := 5) (by simp)
            simp only [List.getD_cons_zero, List.getD_cons_succ] at cx0 cx1 cx2 cx3 cx4 cx5
            go_wp2_with (first | (go_at_call 21; refine (rDensity_calls _ _).mono ?_; rintro e wq ⟨rfl, rfl⟩) | (go_at_call 22; refine (rLength_calls _ _).mono ?_; rintro e wq ⟨rfl, rfl⟩) | (go_at_call 23; refine (rFreq_calls _ _).mono ?_; rintro e wq ⟨rfl, rfl⟩) | (go_at_call 25; refine (rDiameter_calls _ _).mono ?_; rintro e wq ⟨rfl, rfl⟩) | (go_at_call 27; refine (rStrength_calls _ _).mono ?_; rintro e wq ⟨rfl, rfl⟩) | (go_at_call 28; refine (rSafety_calls _ _).mono ?_; rintro e wq ⟨rfl, rfl⟩))
            refine (HRT.out _).mono ?_
            rintro e w5 ⟨rfl, b5⟩
            replace vx := vx.mono b5
            replace B := below_trans B b5
            clear b5
            clear cx0 cx1 cx2 cx3 cx4 cx5
            have cx0 := vx.cell (i := 0) (by simp)
            have cx1 := vx.cell (i := 1) (by simp)
            have cx2 := vx.cell (i := 2) (by simp)
            have cx3 := vx.cell (i := 3) (by simp)
            have cx4 := vx.cell (i := 4) (by simp)
            have cx5 := vx.cell (i := 5) (by simp)
            simp only [List.getD_cons_zero, List.getD_cons_succ] at cx0 cx1 cx2 cx3 cx4 cx5
            go_wp2_with (first | (go_at_call 21; refine (rDensity_calls _ _).mono ?_; rintro e wq ⟨rfl, rfl⟩) | (go_at_call 22; refine (rLength_calls _ _).mono ?_; rintro e wq ⟨rfl, rfl⟩) | (go_at_call 23; refine (rFreq_calls _ _).mono ?_; rintro e wq ⟨rfl, rfl⟩) | (go_at_call 25; refine (rDiameter_calls _ _).mono ?_; rintro e wq ⟨rfl, rfl⟩) | (go_at_call 27; refine (rStrength_calls _ _).mono ?_; rintro e wq ⟨rfl, rfl⟩) | (go_at_call 28; refine (rSafety_calls _ _).mono ?_; rintro e wq ⟨rfl, rfl⟩))
            refine (lives_calls _).mono ?_
            rintro e w6 ⟨rfl, b6⟩
            replace B := below_trans B b6
            clear b6
            go_wp2
            go_ret
            exact ⟨rfl, B⟩
        · rcases t1 with h1 | h1
          · rcases t5 with h5 | h5
            · obtain ⟨d, rfl, d1, d2⟩ := inR_some (m := 30000) h0
              obtain ⟨s, rfl, s1, s2⟩ := inR_some (m := 100000) h1
              obtain ⟨l, rfl, l1, l2⟩ := inR_some (m := 100000) h3
              obtain ⟨f, rfl, f1, f2⟩ := inR_some (m := 10000000) h4
              obtain ⟨y, rfl, y1, y2⟩ := inR_some (m := 100) h5
              have LT := fun w : World => tension_out (d : Int) x2 (l : Int) (f : Int) w (fun h => by rw [h2] at h; simp at h)
              have LS := fun w : World => stress_in d l f w ⟨d1, d2⟩ ⟨l1, l2⟩ ⟨f1, f2⟩
              have RS := fun w : World => rstress_calls d l f w (by omega) (by omega) (by omega)
              generalize stressN d l f = q at *
              have HRS := Lib.hid RS
              clear RS
              have LH := fun w : World => holds_in d s l f y w ⟨d1, d2⟩ ⟨s1, s2⟩ ⟨l1, l2⟩ ⟨f1, f2⟩ ⟨y1, y2⟩
              have RH := fun w : World => rholds_calls d s l f y w (by omega) (by omega) (by omega) (by omega) (by omega)
              generalize holdsB d s l f y = hb at *
              have HRH := Lib.hid RH
              clear RH
              have HLT := Lib.hid LT
              have HLS := Lib.hid LS
              have HLH := Lib.hid LH
              clear LT LS LH
              have cx0 := vx.cell (i := 0) (by simp)
              have cx1 := vx.cell (i := 1) (by simp)
              have cx2 := vx.cell (i := 2) (by simp)
              have cx3 := vx.cell (i := 3) (by simp)
              have cx4 := vx.cell (i := 4) (by simp)
              have cx5 := vx.cell (i := 5) (by simp)
              simp only [List.getD_cons_zero, List.getD_cons_succ] at cx0 cx1 cx2 cx3 cx4 cx5
              go_wp2_with fail
              refine (HLT.out _).mono ?_
              rintro e w1 ⟨rfl, b1⟩
              replace vx := vx.mono b1
              replace B := below_trans B b1
              clear b1
              clear cx0 cx1 cx2 cx3 cx4 cx5
              have cx0 := vx.cell (i := 0) (by simp)
              have cx1 := vx.cell (i := 1) (by simp)
              have cx2 := vx.cell (i := 2) (by simp)
              have cx3 := vx.cell (i := 3) (by simp)
              have cx4 := vx.cell (i := 4) (by simp)
              have cx5 := vx.cell (i := 5) (by simp)
              simp only [List.getD_cons_zero, List.getD_cons_succ] at cx0 cx1 cx2 cx3 cx4 cx5
              go_wp2_with fail
              refine (HLS.out _).mono ?_
              rintro e w2 ⟨rfl, b2⟩
              replace vx := vx.mono b2
              replace B := below_trans B b2
              clear b2
              clear cx0 cx1 cx2 cx3 cx4 cx5
              have cx0 := vx.cell (i := 0) (by simp)
              have cx1 := vx.cell (i := 1) (by simp)
              have cx2 := vx.cell (i := 2) (by simp)
              have cx3 := vx.cell (i := 3) (by simp)
              have cx4 := vx.cell (i := 4) (by simp)
              have cx5 := vx.cell (i := 5) (by simp)
              simp only [List.getD_cons_zero, List.getD_cons_succ] at cx0 cx1 cx2 cx3 cx4 cx5
              go_wp2_with fail
              refine (HLH.out _).mono ?_
              rintro e w3 ⟨rfl, b3⟩
              replace vx := vx.mono b3
              replace B := below_trans B b3
              clear b3
              clear cx0 cx1 cx2 cx3 cx4 cx5
              have cx0 := vx.cell (i := 0) (by simp)
              have cx1 := vx.cell (i := 1) (by simp)
              have cx2 := vx.cell (i := 2) (by simp)
              have cx3 := vx.cell (i := 3) (by simp)
              have cx4 := vx.cell (i := 4) (by simp)
              have cx5 := vx.cell (i := 5) (by simp)
              simp only [List.getD_cons_zero, List.getD_cons_succ] at cx0 cx1 cx2 cx3 cx4 cx5
              go_wp2_with (first | (go_at_call 21; refine (rDensity_calls _ _).mono ?_; rintro e wq ⟨rfl, rfl⟩) | (go_at_call 22; refine (rLength_calls _ _).mono ?_; rintro e wq ⟨rfl, rfl⟩) | (go_at_call 23; refine (rFreq_calls _ _).mono ?_; rintro e wq ⟨rfl, rfl⟩) | (go_at_call 25; refine (rDiameter_calls _ _).mono ?_; rintro e wq ⟨rfl, rfl⟩) | (go_at_call 27; refine (rStrength_calls _ _).mono ?_; rintro e wq ⟨rfl, rfl⟩) | (go_at_call 28; refine (rSafety_calls _ _).mono ?_; rintro e wq ⟨rfl, rfl⟩))
              refine (HRS.out _).mono ?_
              rintro e w4 ⟨rfl, b4⟩
              replace vx := vx.mono b4
              replace B := below_trans B b4
              clear b4
              clear cx0 cx1 cx2 cx3 cx4 cx5
              have cx0 := vx.cell (i := 0) (by simp)
              have cx1 := vx.cell (i := 1) (by simp)
              have cx2 := vx.cell (i := 2) (by simp)
              have cx3 := vx.cell (i := 3) (by simp)
              have cx4 := vx.cell (i := 4) (by simp)
              have cx5 := vx.cell (i := 5) (by simp)
              simp only [List.getD_cons_zero, List.getD_cons_succ] at cx0 cx1 cx2 cx3 cx4 cx5
              go_wp2_with (first | (go_at_call 21; refine (rDensity_calls _ _).mono ?_; rintro e wq ⟨rfl, rfl⟩) | (go_at_call 22; refine (rLength_calls _ _).mono ?_; rintro e wq ⟨rfl, rfl⟩) | (go_at_call 23; refine (rFreq_calls _ _).mono ?_; rintro e wq ⟨rfl, rfl⟩) | (go_at_call 25; refine (rDiameter_calls _ _).mono ?_; rintro e wq ⟨rfl, rfl⟩) | (go_at_call 27; refine (rStrength_calls _ _).mono ?_; rintro e wq ⟨rfl, rfl⟩) | (go_at_call 28; refine (rSafety_calls _ _).mono ?_; rintro e wq ⟨rfl, rfl⟩))
              refine (HRH.out _).mono ?_
              rintro e w5 ⟨rfl, b5⟩
              replace vx := vx.mono b5
              replace B := below_trans B b5
              clear b5
              clear cx0 cx1 cx2 cx3 cx4 cx5
              have cx0 := vx.cell (i := 0) (by simp)
              have cx1 := vx.cell (i := 1) (by simp)
              have cx2 := vx.cell (i := 2) (by simp)
              have cx3 := vx.cell (i := 3) (by simp)
              have cx4 := vx.cell (i := 4) (by simp)
              have cx5 := vx.cell (i := 5) (by simp)
              simp only [List.getD_cons_zero, List.getD_cons_succ] at cx0 cx1 cx2 cx3 cx4 cx5
              go_wp2_with (first | (go_at_call 21; refine (rDensity_calls _ _).mono ?_; rintro e wq ⟨rfl, rfl⟩) | (go_at_call 22; refine (rLength_calls _ _).mono ?_; rintro e wq ⟨rfl, rfl⟩) | (go_at_call 23; refine (rFreq_calls _ _).mono ?_; rintro e wq ⟨rfl, rfl⟩) | (go_at_call 25; refine (rDiameter_calls _ _).mono ?_; rintro e wq ⟨rfl, rfl⟩) | (go_at_call 27; refine (rStrength_calls _ _).mono ?_; rintro e wq ⟨rfl, rfl⟩) | (go_at_call 28; refine (rSafety_calls _ _).mono ?_; rintro e wq ⟨rfl, rfl⟩))
              refine (lives_calls _).mono ?_
              rintro e w6 ⟨rfl, b6⟩
              replace B := below_trans B b6
              clear b6
              go_wp2
              go_ret
              exact ⟨rfl, B⟩
            · obtain ⟨d, rfl, d1, d2⟩ := inR_some (m := 30000) h0
              obtain ⟨l, rfl, l1, l2⟩ := inR_some (m := 100000) h3
              obtain ⟨f, rfl, f1, f2⟩ := inR_some (m := 10000000) h4
              have LT := fun w : World => tension_out (d : Int) x2 (l : Int) (f : Int) w (fun h => by rw [h2] at h; simp at h)
              have LS := fun w : World => stress_in d l f w ⟨d1, d2⟩ ⟨l1, l2⟩ ⟨f1, f2⟩
              have RS := fun w : World => rstress_calls d l f w (by omega) (by omega) (by omega)
              generalize stressN d l f = q at *
              have HRS := Lib.hid RS
              clear RS
              have LH := fun w : World => holds_out (d : Int) x1 (l : Int) (f : Int) x5 w (fun h => by rw [h5] at h; simp at h)
              have HLT := Lib.hid LT
              have HLS := Lib.hid LS
              have HLH := Lib.hid LH
              clear LT LS LH
              have cx0 := vx.cell (i := 0) (by simp)
              have cx1 := vx.cell (i := 1) (by simp)
              have cx2 := vx.cell (i := 2) (by simp)
              have cx3 := vx.cell (i := 3) (by simp)
              have cx4 := vx.cell (i := 4) (by simp)
              have cx5 := vx.cell (i := 5) (by simp)
              simp only [List.getD_cons_zero, List.getD_cons_succ] at cx0 cx1 cx2 cx3 cx4 cx5
              go_wp2_with fail
              refine (HLT.out _).mono ?_
              rintro e w1 ⟨rfl, b1⟩
              replace vx := vx.mono b1
              replace B := below_trans B b1
              clear b1
              clear cx0 cx1 cx2 cx3 cx4 cx5
              have cx0 := vx.cell (i := 0) (by simp)
              have cx1 := vx.cell (i := 1) (by simp)
              have cx2 := vx.cell (i := 2) (by simp)
              have cx3 := vx.cell (i := 3) (by simp)
              have cx4 := vx.cell (i := 4) (by simp)
              have cx5 := vx.cell (i := 5) (by simp)
              simp only [List.getD_cons_zero, List.getD_cons_succ] at cx0 cx1 cx2 cx3 cx4 cx5
              go_wp2_with fail
              refine (HLS.out _).mono ?_
              rintro e w2 ⟨rfl, b2⟩
              replace vx := vx.mono b2
              replace B := below_trans B b2
              clear b2
              clear cx0 cx1 cx2 cx3 cx4 cx5
              have cx0 := vx.cell (i := 0) (by simp)
              have cx1 := vx.cell (i := 1) (by simp)
              have cx2 := vx.cell (i := 2) (by simp)
              have cx3 := vx.cell (i := 3) (by simp)
              have cx4 := vx.cell (i := 4) (by simp)
              have cx5 := vx.cell (i := 5) (by simp)
              simp only [List.getD_cons_zero, List.getD_cons_succ] at cx0 cx1 cx2 cx3 cx4 cx5
              go_wp2_with fail
              refine (HLH.out _).mono ?_
              rintro e w3 ⟨rfl, b3⟩
              replace vx := vx.mono b3
              replace B := below_trans B b3
              clear b3
              clear cx0 cx1 cx2 cx3 cx4 cx5
              have cx0 := vx.cell (i := 0) (by simp)
              have cx1 := vx.cell (i := 1) (by simp)
              have cx2 := vx.cell (i := 2) (by simp)
              have cx3 := vx.cell (i := 3) (by simp)
              have cx4 := vx.cell (i := 4) (by simp)
              have cx5 := vx.cell (i := 5) (by simp)
              simp only [List.getD_cons_zero, List.getD_cons_succ] at cx0 cx1 cx2 cx3 cx4 cx5
              go_wp2_with (first | (go_at_call 21; refine (rDensity_calls _ _).mono ?_; rintro e wq ⟨rfl, rfl⟩) | (go_at_call 22; refine (rLength_calls _ _).mono ?_; rintro e wq ⟨rfl, rfl⟩) | (go_at_call 23; refine (rFreq_calls _ _).mono ?_; rintro e wq ⟨rfl, rfl⟩) | (go_at_call 25; refine (rDiameter_calls _ _).mono ?_; rintro e wq ⟨rfl, rfl⟩) | (go_at_call 27; refine (rStrength_calls _ _).mono ?_; rintro e wq ⟨rfl, rfl⟩) | (go_at_call 28; refine (rSafety_calls _ _).mono ?_; rintro e wq ⟨rfl, rfl⟩))
              refine (HRS.out _).mono ?_
              rintro e w4 ⟨rfl, b4⟩
              replace vx := vx.mono b4
              replace B := below_trans B b4
              clear b4
              clear cx0 cx1 cx2 cx3 cx4 cx5
              have cx0 := vx.cell (i := 0) (by simp)
              have cx1 := vx.cell (i := 1) (by simp)
              have cx2 := vx.cell (i := 2) (by simp)
              have cx3 := vx.cell (i := 3) (by simp)
              have cx4 := vx.cell (i := 4) (by simp)
              have cx5 := vx.cell (i := 5) (by simp)
              simp only [List.getD_cons_zero, List.getD_cons_succ] at cx0 cx1 cx2 cx3 cx4 cx5
              go_wp2_with (first | (go_at_call 21; refine (rDensity_calls _ _).mono ?_; rintro e wq ⟨rfl, rfl⟩) | (go_at_call 22; refine (rLength_calls _ _).mono ?_; rintro e wq ⟨rfl, rfl⟩) | (go_at_call 23; refine (rFreq_calls _ _).mono ?_; rintro e wq ⟨rfl, rfl⟩) | (go_at_call 25; refine (rDiameter_calls _ _).mono ?_; rintro e wq ⟨rfl, rfl⟩) | (go_at_call 27; refine (rStrength_calls _ _).mono ?_; rintro e wq ⟨rfl, rfl⟩) | (go_at_call 28; refine (rSafety_calls _ _).mono ?_; rintro e wq ⟨rfl, rfl⟩))
              refine (lives_calls _).mono ?_
              rintro e w5 ⟨rfl, b5⟩
              replace B := below_trans B b5
              clear b5
              go_wp2
              go_ret
              exact ⟨rfl, B⟩
          · obtain ⟨d, rfl, d1, d2⟩ := inR_some (m := 30000) h0
            obtain ⟨l, rfl, l1, l2⟩ := inR_some (m := 100000) h3
            obtain ⟨f, rfl, f1, f2⟩ := inR_some (m := 10000000) h4
            have LT := fun w : World => tension_out (d : Int) x2 (l : Int) (f : Int) w (fun h => by rw [h2] at h; simp at h)
            have LS := fun w : World => stress_in d l f w ⟨d1, d2⟩ ⟨l1, l2⟩ ⟨f1, f2⟩
            have RS := fun w : World => rstress_calls d l f w (by omega) (by omega) (by omega)
            generalize stressN d l f = q at *
            have HRS := Lib.hid RS
            clear RS
            have LH := fun w : World => holds_out (d : Int) x1 (l : Int) (f : Int) x5 w (fun h => by rw [h1] at h; simp at h)
            have HLT := Lib.hid LT
            have HLS := Lib.hid LS
            have HLH := Lib.hid LH
            clear LT LS LH
            have cx0 := vx.cell (i := 0) (by simp)
            have cx1 := vx.cell (i := 1) (by simp)
            have cx2 := vx.cell (i := 2) (by simp)
            have cx3 := vx.cell (i := 3) (by simp)
            have cx4 := vx.cell (i := 4) (by simp)
            have cx5 := vx.cell (i := 5) (by simp)
            simp only [List.getD_cons_zero, List.getD_cons_succ] at cx0 cx1 cx2 cx3 cx4 cx5
            go_wp2_with fail
            refine (HLT.out _).mono ?_
            rintro e w1 ⟨rfl, b1⟩
            replace vx := vx.mono b1
            replace B := below_trans B b1
            clear b1
            clear cx0 cx1 cx2 cx3 cx4 cx5
            have cx0 := vx.cell (i := 0) (by simp)
            have cx1 := vx.cell (i := 1) (by simp)
            have cx2 := vx.cell (i := 2) (by simp)
            have cx3 := vx.cell (i := 3) (by simp)
            have cx4 := vx.cell (i := 4) (by simp)
            have cx5 := vx.cell (i := 5) (by simp)
            simp only [List.getD_cons_zero, List.getD_cons_succ] at cx0 cx1 cx2 cx3 cx4 cx5
            go_wp2_with fail
            refine (HLS.out _).mono ?_
            rintro e w2 ⟨rfl, b2⟩
            replace vx := vx.mono b2
            replace B := below_trans B b2
            clear b2
            clear cx0 cx1 cx2 cx3 cx4 cx5
            have cx0 := vx.cell (i := 0) (by simp)
            have cx1 := vx.cell (i := 1) (by simp)
            have cx2 := vx.cell (i := 2) (by simp)
            have cx3 := vx.cell (i := 3) (by simp)
            have cx4 := vx.cell (i := 4) (by simp)
            have cx5 := vx.cell (i := 5) (by simp)
            simp only [List.getD_cons_zero, List.getD_cons_succ] at cx0 cx1 cx2 cx3 cx4 cx5
            go_wp2_with fail
            refine (HLH.out _).mono ?_
            rintro e w3 ⟨rfl, b3⟩
            replace vx := vx.mono b3
            replace B := below_trans B b3
            clear b3
            clear cx0 cx1 cx2 cx3 cx4 cx5
            have cx0 := vx.cell (i := 0) (by simp)
            have cx1 := vx.cell (i := 1) (by simp)
            have cx2 := vx.cell (i := 2) (by simp)
            have cx3 := vx.cell (i := 3) (by simp)
            have cx4 := vx.cell (i := 4) (by simp)
            have cx5 := vx.cell (i := 5) (by simp)
            simp only [List.getD_cons_zero, List.getD_cons_succ] at cx0 cx1 cx2 cx3 cx4 cx5
            go_wp2_with (first | (go_at_call 21; refine (rDensity_calls _ _).mono ?_; rintro e wq ⟨rfl, rfl⟩) | (go_at_call 22; refine (rLength_calls _ _).mono ?_; rintro e wq ⟨rfl, rfl⟩) | (go_at_call 23; refine (rFreq_calls _ _).mono ?_; rintro e wq ⟨rfl, rfl⟩) | (go_at_call 25; refine (rDiameter_calls _ _).mono ?_; rintro e wq ⟨rfl, rfl⟩) | (go_at_call 27; refine (rStrength_calls _ _).mono ?_; rintro e wq ⟨rfl, rfl⟩) | (go_at_call 28; refine (rSafety_calls _ _).mono ?_; rintro e wq ⟨rfl, rfl⟩))
            refine (HRS.out _).mono ?_
            rintro e w4 ⟨rfl, b4⟩
            replace vx := vx.mono b4
            replace B := below_trans B b4
            clear b4
            clear cx0 cx1 cx2 cx3 cx4 cx5
            have cx0 := vx.cell (i := 0) (by simp)
            have cx1 := vx.cell (i := 1) (by simp)
            have cx2 := vx.cell (i := 2) (by simp)
            have cx3 := vx.cell (i := 3) (by simp)
            have cx4 := vx.cell (i := 4) (by simp)
            have cx5 := vx.cell (i := 5) (by simp)
            simp only [List.getD_cons_zero, List.getD_cons_succ] at cx0 cx1 cx2 cx3 cx4 cx5
            go_wp2_with (first | (go_at_call 21; refine (rDensity_calls _ _).mono ?_; rintro e wq ⟨rfl, rfl⟩) | (go_at_call 22; refine (rLength_calls _ _).mono ?_; rintro e wq ⟨rfl, rfl⟩) | (go_at_call 23; refine (rFreq_calls _ _).mono ?_; rintro e wq ⟨rfl, rfl⟩) | (go_at_call 25; refine (rDiameter_calls _ _).mono ?_; rintro e wq ⟨rfl, rfl⟩) | (go_at_call 27; refine (rStrength_calls _ _).mono ?_; rintro e wq ⟨rfl, rfl⟩) | (go_at_call 28; refine (rSafety_calls _ _).mono ?_; rintro e wq ⟨rfl, rfl⟩))
            refine (lives_calls _).mono ?_
            rintro e w5 ⟨rfl, b5⟩
            replace B := below_trans B b5
            clear b5
            go_wp2
            go_ret
            exact ⟨rfl, B⟩
      · have LT := fun w : World => tension_out x0 x2 x3 x4 w (fun h => by rw [h4] at h; simp at h)
        have LS := fun w : World => stress_out x0 x3 x4 w (fun h => by rw [h4] at h; simp at h)
        have LH := fun w : World => holds_out x0 x1 x3 x4 x5 w (fun h => by rw [h4] at h; simp at h)
        have HLT := Lib.hid LT
        have HLS := Lib.hid LS
        have HLH := Lib.hid LH
        clear LT LS LH
        have cx0 := vx.cell (i := 0) (by simp)
        have cx1 := vx.cell (i := 1) (by simp)
        have cx2 := vx.cell (i := 2) (by simp)
        have cx3 := vx.cell (i := 3) (by simp)
        have cx4 := vx.cell (i := 4) (by simp)
        have cx5 := vx.cell (i := 5) (by simp)
        simp only [List.getD_cons_zero, List.getD_cons_succ] at cx0 cx1 cx2 cx3 cx4 cx5
        go_wp2_with fail
        refine (HLT.out _).mono ?_
        rintro e w1 ⟨rfl, b1⟩
        replace vx := vx.mono b1
        replace B := below_trans B b1
        clear b1
        clear cx0 cx1 cx2 cx3 cx4 cx5
        have cx0 := vx.cell (i := 0) (by simp)
        have cx1 := vx.cell (i := 1) (by simp)
        have cx2 := vx.cell (i := 2) (by simp)
        have cx3 := vx.cell (i := 3) (by simp)
        have cx4 := vx.cell (i := 4) (by simp)
        have cx5 := vx.cell (i := 5) (by simp)
        simp only [List.getD_cons_zero, List.getD_cons_succ] at cx0 cx1 cx2 cx3 cx4 cx5
        go_wp2_with fail
        refine (HLS.out _).mono ?_
        rintro e w2 ⟨rfl, b2⟩
        replace vx := vx.mono b2
        replace B := below_trans B b2
        clear b2
        clear cx0 cx1 cx2 cx3 cx4 cx5
        have cx0 := vx.cell (i := 0) (by simp)
        have cx1 := vx.cell (i := 1) (by simp)
        have cx2 := vx.cell (i := 2) (by simp)
        have cx3 := vx.cell (i := 3) (by simp)
        have cx4 := vx.cell (i := 4) (by simp)
        have cx5 := vx.cell (i := 5) (by simp)
        simp only [List.getD_cons_zero, List.getD_cons_succ] at cx0 cx1 cx2 cx3 cx4 cx5
        go_wp2_with fail
        refine (HLH.out _).mono ?_
        rintro e w3 ⟨rfl, b3⟩
        replace vx := vx.mono b3
        replace B := below_trans B b3
        clear b3
        clear cx0 cx1 cx2 cx3 cx4 cx5
        have cx0 := vx.cell (i := 0) (by simp)
        have cx1 := vx.cell (i := 1) (by simp)
        have cx2 := vx.cell (i := 2) (by simp)
        have cx3 := vx.cell (i := 3) (by simp)
        have cx4 := vx.cell (i := 4) (by simp)
        have cx5 := vx.cell (i := 5) (by simp)
        simp only [List.getD_cons_zero, List.getD_cons_succ] at cx0 cx1 cx2 cx3 cx4 cx5
        go_wp2_with (first | (go_at_call 21; refine (rDensity_calls _ _).mono ?_; rintro e wq ⟨rfl, rfl⟩) | (go_at_call 22; refine (rLength_calls _ _).mono ?_; rintro e wq ⟨rfl, rfl⟩) | (go_at_call 23; refine (rFreq_calls _ _).mono ?_; rintro e wq ⟨rfl, rfl⟩) | (go_at_call 25; refine (rDiameter_calls _ _).mono ?_; rintro e wq ⟨rfl, rfl⟩) | (go_at_call 27; refine (rStrength_calls _ _).mono ?_; rintro e wq ⟨rfl, rfl⟩) | (go_at_call 28; refine (rSafety_calls _ _).mono ?_; rintro e wq ⟨rfl, rfl⟩))
        refine (lives_calls _).mono ?_
        rintro e w4 ⟨rfl, b4⟩
        replace B := below_trans B b4
        clear b4
        go_wp2
        go_ret
        exact ⟨rfl, B⟩
    · have LT := fun w : World => tension_out x0 x2 x3 x4 w (fun h => by rw [h3] at h; simp at h)
      have LS := fun w : World => stress_out x0 x3 x4 w (fun h => by rw [h3] at h; simp at h)
      have LH := fun w : World => holds_out x0 x1 x3 x4 x5 w (fun h => by rw [h3] at h; simp at h)
      have HLT := Lib.hid LT
      have HLS := Lib.hid LS
      have HLH := Lib.hid LH
      clear LT LS LH
      have cx0 := vx.cell (i := 0) (by simp)
      have cx1 := vx.cell (i := 1) (by simp)
      have cx2 := vx.cell (i := 2) (by simp)
      have cx3 := vx.cell (i := 3) (by simp)
      have cx4 := vx.cell (i := 4) (by simp)
      have cx5 := vx.cell (i := 5) (by simp)
      simp only [List.getD_cons_zero, List.getD_cons_succ] at cx0 cx1 cx2 cx3 cx4 cx5
      go_wp2_with fail
      refine (HLT.out _).mono ?_
      rintro e w1 ⟨rfl, b1⟩
      replace vx := vx.mono b1
      replace B := below_trans B b1
      clear b1
      clear cx0 cx1 cx2 cx3 cx4 cx5
      have cx0 := vx.cell (i := 0) (by simp)
      have cx1 := vx.cell (i := 1) (by simp)
      have cx2 := vx.cell (i := 2) (by simp)
      have cx3 := vx.cell (i := 3) (by simp)
      have cx4 := vx.cell (i := 4) (by simp)
      have cx5 := vx.cell (i := 5) (by simp)
      simp only [List.getD_cons_zero, List.getD_cons_succ] at cx0 cx1 cx2 cx3 cx4 cx5
      go_wp2_with fail
      refine (HLS.out _).mono ?_
      rintro e w2 ⟨rfl, b2⟩
      replace vx := vx.mono b2
      replace B := below_trans B b2
      clear b2
      clear cx0 cx1 cx2 cx3 cx4 cx5
      have cx0 := vx.cell (i := 0) (by simp)
      have cx1 := vx.cell (i := 1) (by simp)
      have cx2 := vx.cell (i := 2) (by simp)
      have cx3 := vx.cell (i := 3) (by simp)
      have cx4 := vx.cell (i := 4) (by simp)
      have cx5 := vx.cell (i := 5) (by simp)
      simp only [List.getD_cons_zero, List.getD_cons_succ] at cx0 cx1 cx2 cx3 cx4 cx5
      go_wp2_with fail
      refine (HLH.out _).mono ?_
      rintro e w3 ⟨rfl, b3⟩
      replace vx := vx.mono b3
      replace B := below_trans B b3
      clear b3
      clear cx0 cx1 cx2 cx3 cx4 cx5
      have cx0 := vx.cell (i := 0) (by simp)
      have cx1 := vx.cell (i := 1) (by simp)
      have cx2 := vx.cell (i := 2) (by simp)
      have cx3 := vx.cell (i := 3) (by simp)
      have cx4 := vx.cell (i := 4) (by simp)
      have cx5 := vx.cell (i := 5) (by simp)
      simp only [List.getD_cons_zero, List.getD_cons_succ] at cx0 cx1 cx2 cx3 cx4 cx5
      go_wp2_with (first | (go_at_call 21; refine (rDensity_calls _ _).mono ?_; rintro e wq ⟨rfl, rfl⟩) | (go_at_call 22; refine (rLength_calls _ _).mono ?_; rintro e wq ⟨rfl, rfl⟩) | (go_at_call 23; refine (rFreq_calls _ _).mono ?_; rintro e wq ⟨rfl, rfl⟩) | (go_at_call 25; refine (rDiameter_calls _ _).mono ?_; rintro e wq ⟨rfl, rfl⟩) | (go_at_call 27; refine (rStrength_calls _ _).mono ?_; rintro e wq ⟨rfl, rfl⟩) | (go_at_call 28; refine (rSafety_calls _ _).mono ?_; rintro e wq ⟨rfl, rfl⟩))
      refine (lives_calls _).mono ?_
      rintro e w4 ⟨rfl, b4⟩
      replace B := below_trans B b4
      clear b4
      go_wp2
      go_ret
      exact ⟨rfl, B⟩
  · have LT := fun w : World => tension_out x0 x2 x3 x4 w (fun h => by rw [h0] at h; simp at h)
    have LS := fun w : World => stress_out x0 x3 x4 w (fun h => by rw [h0] at h; simp at h)
    have LH := fun w : World => holds_out x0 x1 x3 x4 x5 w (fun h => by rw [h0] at h; simp at h)
    have HLT := Lib.hid LT
    have HLS := Lib.hid LS
    have HLH := Lib.hid LH
    clear LT LS LH
    have cx0 := vx.cell (i := 0) (by simp)
    have cx1 := vx.cell (i := 1) (by simp)
    have cx2 := vx.cell (i := 2) (by simp)
    have cx3 := vx.cell (i := 3) (by simp)
    have cx4 := vx.cell (i := 4) (by simp)
    have cx5 := vx.cell (i := 5) (by simp)
    simp only [List.getD_cons_zero, List.getD_cons_succ] at cx0 cx1 cx2 cx3 cx4 cx5
    go_wp2_with fail
    refine (HLT.out _).mono ?_
    rintro e w1 ⟨rfl, b1⟩
    replace vx := vx.mono b1
    replace B := below_trans B b1
    clear b1
    clear cx0 cx1 cx2 cx3 cx4 cx5
    have cx0 := vx.cell (i := 0) (by simp)
    have cx1 := vx.cell (i := 1) (by simp)
    have cx2 := vx.cell (i := 2) (by simp)
    have cx3 := vx.cell (i := 3) (by simp)
    have cx4 := vx.cell (i := 4) (by simp)
    have cx5 := vx.cell (i := 5) (by simp)
    simp only [List.getD_cons_zero, List.getD_cons_succ] at cx0 cx1 cx2 cx3 cx4 cx5
    go_wp2_with fail
    refine (HLS.out _).mono ?_
    rintro e w2 ⟨rfl, b2⟩
    replace vx := vx.mono b2
    replace B := below_trans B b2
    clear b2
    clear cx0 cx1 cx2 cx3 cx4 cx5
    have cx0 := vx.cell (i := 0) (by simp)
    have cx1 := vx.cell (i := 1) (by simp)
    have cx2 := vx.cell (i := 2) (by simp)
    have cx3 := vx.cell (i := 3) (by simp)
    have cx4 := vx.cell (i := 4) (by simp)
    have cx5 := vx.cell (i := 5) (by simp)
    simp only [List.getD_cons_zero, List.getD_cons_succ] at cx0 cx1 cx2 cx3 cx4 cx5
    go_wp2_with fail
    refine (HLH.out _).mono ?_
    rintro e w3 ⟨rfl, b3⟩
    replace vx := vx.mono b3
    replace B := below_trans B b3
    clear b3
    clear cx0 cx1 cx2 cx3 cx4 cx5
    have cx0 := vx.cell (i := 0) (by simp)
    have cx1 := vx.cell (i := 1) (by simp)
    have cx2 := vx.cell (i := 2) (by simp)
    have cx3 := vx.cell (i := 3) (by simp)
    have cx4 := vx.cell (i := 4) (by simp)
    have cx5 := vx.cell (i := 5) (by simp)
    simp only [List.getD_cons_zero, List.getD_cons_succ] at cx0 cx1 cx2 cx3 cx4 cx5
    go_wp2_with (first | (go_at_call 21; refine (rDensity_calls _ _).mono ?_; rintro e wq ⟨rfl, rfl⟩) | (go_at_call 22; refine (rLength_calls _ _).mono ?_; rintro e wq ⟨rfl, rfl⟩) | (go_at_call 23; refine (rFreq_calls _ _).mono ?_; rintro e wq ⟨rfl, rfl⟩) | (go_at_call 25; refine (rDiameter_calls _ _).mono ?_; rintro e wq ⟨rfl, rfl⟩) | (go_at_call 27; refine (rStrength_calls _ _).mono ?_; rintro e wq ⟨rfl, rfl⟩) | (go_at_call 28; refine (rSafety_calls _ _).mono ?_; rintro e wq ⟨rfl, rfl⟩))
    refine (lives_calls _).mono ?_
    rintro e w4 ⟨rfl, b4⟩
    replace B := below_trans B b4
    clear b4
    go_wp2
    go_ret
    exact ⟨rfl, B⟩

end Go.Proofs
