/- The walk of ToneFolded: whatever comes in, it returns true and changes nothing that was there. -/
import Derived.Test.YtgdgdaofmjnepaaDoorTRef
import Derived.Test.YtgdgdaofmjnepaaDoorTone8
import Derived.Test.YtgdgdaofmjnepaaDoorToneB
import Derived.Test.YtgdgdaofmjnepaaDoorTone9
import Derived.Test.YtgdgdaofmjnepaaDoorTRef7
import Derived.Deep.RegionHeld3
open Go.RowKit Go.Deep
namespace Go.Proofs
set_option linter.unusedVariables false

set_option maxRecDepth 100000 in
set_option maxHeartbeats 1000000 in
theorem folded_bad (s : T4) (w : World) (hS : i64 s.a ∧ i64 s.b ∧ i64 s.c ∧ i64 s.d) (ht : Tab w) (h1 : validB s.a s.b s.c s.d = false) :
    Calls Tryd.prog 14 #[.agg #[.int .i64 s.a, .int .i64 s.b, .int .i64 s.c, .int .i64 s.d]] w (RetTrue w) := by
  have Vs := fun w : World => rvalid_calls s w hS
  rw [h1] at Vs
  have HVs := Lib.hid Vs
  clear Vs
  clear hS h1
  have vs := Vals.newL w (w.heap.size) [.int .i64 s.a, .int .i64 s.b, .int .i64 s.c, .int .i64 s.d] 23 rfl
  have bb := below_alloc w (.cells #[.int .i64 s.a, .int .i64 s.b, .int .i64 s.c, .int .i64 s.d] 23)
  have B := bb
  have bb0 := B
  clear bb
  go_enter Tryd.func14, Tryd.ntmps14
  go_wp2_with fail
  generalize (w.alloc (.cells #[.int .i64 s.a, .int .i64 s.b, .int .i64 s.c, .int .i64 s.d] 23)) = w0 at *
  replace ht := ht.mono bb0
  clear bb0
  refine (HVs.out _).mono ?_
  rintro e w1 ⟨rfl, b1⟩
  replace vs := vs.mono b1
  replace ht := ht.mono b1
  replace B := below_trans B b1
  clear b1
  go_wp2_with fail
  refine (lives_calls _ ht).mono ?_
  rintro e w2 ⟨rfl, b2⟩
  replace vs := vs.mono b2
  replace ht := ht.mono b2
  replace B := below_trans B b2
  clear b2
  go_wp2
  go_ret
  exact ⟨rfl, B⟩

set_option maxRecDepth 100000 in
set_option maxHeartbeats 1000000 in
theorem folded_large (s : T4) (w : World) (hS : i64 s.a ∧ i64 s.b ∧ i64 s.c ∧ i64 s.d) (ht : Tab w) (h1 : validB s.a s.b s.c s.d = true) (g1 : ¬ (-12 ≤ s.a ∧ s.a ≤ 12 ∧ -12 ≤ s.b ∧ s.b ≤ 12 ∧ -12 ≤ s.c ∧ s.c ≤ 12)) :
    Calls Tryd.prog 14 #[.agg #[.int .i64 s.a, .int .i64 s.b, .int .i64 s.c, .int .i64 s.d]] w (RetTrue w) := by
  have Vs := fun w : World => rvalid_calls s w hS
  rw [h1] at Vs
  have HVs := Lib.hid Vs
  clear Vs
  have Ls := fun w : World => large_yes s 12 w (by omega) (by omega) g1
  have HLs := Lib.hid Ls
  clear Ls hS h1 g1
  have vs := Vals.newL w (w.heap.size) [.int .i64 s.a, .int .i64 s.b, .int .i64 s.c, .int .i64 s.d] 23 rfl
  have bb := below_alloc w (.cells #[.int .i64 s.a, .int .i64 s.b, .int .i64 s.c, .int .i64 s.d] 23)
  have B := bb
  have bb0 := B
  clear bb
  go_enter Tryd.func14, Tryd.ntmps14
  go_wp2_with fail
  generalize (w.alloc (.cells #[.int .i64 s.a, .int .i64 s.b, .int .i64 s.c, .int .i64 s.d] 23)) = w0 at *
  replace ht := ht.mono bb0
  clear bb0
  refine (HVs.out _).mono ?_
  rintro e w1 ⟨rfl, b1⟩
  replace vs := vs.mono b1
  replace ht := ht.mono b1
  replace B := below_trans B b1
  clear b1
  have cvs0 := vs.cell (i := 0) (by simp)
  have cvs1 := vs.cell (i := 1) (by simp)
  have cvs2 := vs.cell (i := 2) (by simp)
  have cvs3 := vs.cell (i := 3) (by simp)
  simp only [List.getD_cons_zero, List.getD_cons_succ] at cvs0 cvs1 cvs2 cvs3
  have ltvs := vs.lt
  go_wp2_with fail
  clear cvs0 cvs1 cvs2 cvs3 ltvs
  refine (HLs.out _).mono ?_
  rintro e w2 ⟨rfl, b2⟩
  replace vs := vs.mono b2
  replace ht := ht.mono b2
  replace B := below_trans B b2
  clear b2
  go_wp2_with fail
  refine (lives_calls _ ht).mono ?_
  rintro e w3 ⟨rfl, b3⟩
  replace vs := vs.mono b3
  replace ht := ht.mono b3
  replace B := below_trans B b3
  clear b3
  go_wp2
  go_ret
  exact ⟨rfl, B⟩

set_option maxRecDepth 100000 in
set_option maxHeartbeats 1000000 in
theorem folded_ok (s : T4) (w : World) (hS : i64 s.a ∧ i64 s.b ∧ i64 s.c ∧ i64 s.d) (ht : Tab w) (h1 : validB s.a s.b s.c s.d = true) (g1 : -12 ≤ s.a ∧ s.a ≤ 12 ∧ -12 ≤ s.b ∧ s.b ≤ 12 ∧ -12 ≤ s.c ∧ s.c ≤ 12) :
    Calls Tryd.prog 14 #[.agg #[.int .i64 s.a, .int .i64 s.b, .int .i64 s.c, .int .i64 s.d]] w (RetTrue w) := by
  have Vs := fun w : World => rvalid_calls s w hS
  rw [h1] at Vs
  have HVs := Lib.hid Vs
  clear Vs
  have Ls := fun w : World => large_no s 12 w (by omega) (by omega) g1
  have HLs := Lib.hid Ls
  clear Ls
  have hk := fold_ok (s := s) h1 (by omega) (by omega) (by omega)
  obtain ⟨okP, c1, c2, c3, c4⟩ := fold_facts h1 hk
  obtain ⟨_, oa⟩ := octT_abs (s := s) (m := 12) h1 (by omega) (by omega) (by omega)
  have okK : validB (octT s) 0 0 1 = true := by
    unfold validB gcd4 gcdN
    simp only [Int.natAbs_zero, Nat.gcd_zero_right, Int.natAbs_one, Nat.gcd_one_right, Nat.gcd_zero_left]
    simp
    omega
  have okO : validB 0 0 0 1 = true := by unfold validB gcd4 gcdN; decide
  have okT1 : validB 1 0 0 1 = true := by unfold validB gcd4 gcdN; decide
  have O := fun w : World => octave_ok s w h1 hk
  have C1 := fun w : World => cmpT_ok ⟨0, 0, 0, 1⟩ (foldT s).1 w okO okP
  have C2 := fun w : World => cmpT_ok (foldT s).1 ⟨1, 0, 0, 1⟩ w okP okT1
  have C3 := fun w : World => cents_ok s w h1
  have C4 := fun w : World => cents_ok (foldT s).1 w okP
  have M := fun w : World => mulT_ok (foldT s).1 ⟨octT s, 0, 0, 1⟩ w okP okK
  rw [c4] at M
  rw [c3] at C3
  have cb := fl_abs (u := ⟨1200 * s.a, 1200 * s.b, 1200 * s.c⟩) (m := 14400) (show (1200 * s.a).natAbs ≤ _ by omega) (show (1200 * s.b).natAbs ≤ _ by omega) (show (1200 * s.c).natAbs ≤ _ by omega)
  have cb2 : (centsT s).natAbs ≤ 90000 := by
    unfold centsT
    have := Int.natAbs_ediv_le_natAbs (fl ⟨1200 * s.a, 1200 * s.b, 1200 * s.c⟩) s.d
    omega
  generalize cmpT ⟨0, 0, 0, 1⟩ (foldT s).1 = low at *
  generalize cmpT (foldT s).1 ⟨1, 0, 0, 1⟩ = high at *
  generalize centsT (foldT s).1 = d at *
  generalize octT s = k at *
  generalize foldT s = F at *
  obtain ⟨⟨p1, p2, p3, p4⟩, m⟩ := F
  dsimp only at *
  subst hk
  have he : ∀ w : World, (binOp .eql 23 (.agg #[.int .i64 s.a, .int .i64 s.b, .int .i64 s.c, .int .i64 s.d]) (.agg #[.int .i64 s.a, .int .i64 s.b, .int .i64 s.c, .int .i64 s.d])).run Tryd.prog w = .ok (.bool true) w := fun w => by
    rw [run_eql_tone s s]
    have : eqB s s = true := (eqB_iff s s).2 rfl
    rw [this]
  have o1 : -96 ≤ k := by omega
  have o2 : k ≤ 96 := by omega
  have o3 : -300000 ≤ d := by omega
  have o4 : d ≤ 300000 := by omega
  have HO := Lib.hid O
  have HC1 := Lib.hid C1
  have HC2 := Lib.hid C2
  have HC3 := Lib.hid C3
  have HC4 := Lib.hid C4
  have HM := Lib.hid M
  clear O C1 C2 C3 C4 M c3 c4 okP okK okO okT1 h1 g1 hS oa cb cb2
  have vs := Vals.newL w (w.heap.size) [.int .i64 s.a, .int .i64 s.b, .int .i64 s.c, .int .i64 s.d] 23 rfl
  have bb := below_alloc w (.cells #[.int .i64 s.a, .int .i64 s.b, .int .i64 s.c, .int .i64 s.d] 23)
  have B := bb
  have bb0 := B
  clear bb
  go_enter Tryd.func14, Tryd.ntmps14
  go_wp2_with fail
  generalize (w.alloc (.cells #[.int .i64 s.a, .int .i64 s.b, .int .i64 s.c, .int .i64 s.d] 23)) = w0 at *
  replace ht := ht.mono bb0
  clear bb0
  refine (HVs.out _).mono ?_
  rintro e w1 ⟨rfl, b1⟩
  replace vs := vs.mono b1
  replace ht := ht.mono b1
  replace B := below_trans B b1
  clear b1
  have cvs0 := vs.cell (i := 0) (by simp)
  have cvs1 := vs.cell (i := 1) (by simp)
  have cvs2 := vs.cell (i := 2) (by simp)
  have cvs3 := vs.cell (i := 3) (by simp)
  simp only [List.getD_cons_zero, List.getD_cons_succ] at cvs0 cvs1 cvs2 cvs3
  have ltvs := vs.lt
  go_wp2_with fail
  clear cvs0 cvs1 cvs2 cvs3 ltvs
  refine (HLs.out _).mono ?_
  rintro e w2 ⟨rfl, b2⟩
  replace vs := vs.mono b2
  replace ht := ht.mono b2
  replace B := below_trans B b2
  clear b2
  have cvs0 := vs.cell (i := 0) (by simp)
  have cvs1 := vs.cell (i := 1) (by simp)
  have cvs2 := vs.cell (i := 2) (by simp)
  have cvs3 := vs.cell (i := 3) (by simp)
  simp only [List.getD_cons_zero, List.getD_cons_succ] at cvs0 cvs1 cvs2 cvs3
  have ltvs := vs.lt
  go_wp2_with fail
  clear cvs0 cvs1 cvs2 cvs3 ltvs
  refine (HO.out _).mono ?_
  rintro e w3 ⟨rfl, b3⟩
  replace vs := vs.mono b3
  replace ht := ht.mono b3
  replace B := below_trans B b3
  clear b3
  go_wp2_with fail
  have v1 := Vals.newL w3 w3.heap.size [.int .i64 p1, .int .i64 p2, .int .i64 p3, .int .i64 p4] 23 rfl
  have bb := below_alloc w3 (.cells #[.int .i64 p1, .int .i64 p2, .int .i64 p3, .int .i64 p4] 23)
  replace vs := vs.mono bb
  replace ht := ht.mono bb
  replace B := below_trans B bb
  clear bb
  generalize w3.alloc (.cells #[.int .i64 p1, .int .i64 p2, .int .i64 p3, .int .i64 p4] 23) = w4 at *
  go_region_held3 (fun w' => w'.cell? ⟨w3.heap.size, 0, none⟩ = some (.int .i64 p1) ∧ w'.cell? ⟨w3.heap.size, 1, none⟩ = some (.int .i64 p2) ∧ w'.cell? ⟨w3.heap.size, 2, none⟩ = some (.int .i64 p3) ∧ w'.cell? ⟨w3.heap.size, 3, none⟩ = some (.int .i64 p4))
    (first | exact vals4 v1 | exact vals4 v1.drew)
    (first | (go_at_call 44; refine (one_calls _).mono ?_; rintro e w5 ⟨rfl, b5⟩; replace vs := vs.drew.mono b5; replace v1 := v1.drew.mono b5; replace ht := ht.drew.mono b5; replace B := below_trans B.drew b5; clear b5)
           | (go_at_call 35; refine (HC1.out _).mono ?_; rintro e w6 ⟨rfl, b5⟩; replace vs := vs.mono b5; replace v1 := v1.mono b5; replace ht := ht.mono b5; replace B := below_trans B b5; clear b5))
  have cv10 := v1.cell (i := 0) (by simp)
  have cv11 := v1.cell (i := 1) (by simp)
  have cv12 := v1.cell (i := 2) (by simp)
  have cv13 := v1.cell (i := 3) (by simp)
  simp only [List.getD_cons_zero, List.getD_cons_succ] at cv10 cv11 cv12 cv13
  have ltv1 := v1.lt
  go_wp2_with fail
  clear cv10 cv11 cv12 cv13 ltv1
  refine (HC2.out _).mono ?_
  rintro e w7 ⟨rfl, b7⟩
  replace vs := vs.mono b7
  replace ht := ht.mono b7
  replace v1 := v1.mono b7
  replace B := below_trans B b7
  clear b7
  have cvs0 := vs.cell (i := 0) (by simp)
  have cvs1 := vs.cell (i := 1) (by simp)
  have cvs2 := vs.cell (i := 2) (by simp)
  have cvs3 := vs.cell (i := 3) (by simp)
  simp only [List.getD_cons_zero, List.getD_cons_succ] at cvs0 cvs1 cvs2 cvs3
  have ltvs := vs.lt
  go_wp2_with fail
  clear cvs0 cvs1 cvs2 cvs3 ltvs
  refine (HC3.out _).mono ?_
  rintro e w8 ⟨rfl, b8⟩
  replace vs := vs.mono b8
  replace ht := ht.mono b8
  replace v1 := v1.mono b8
  replace B := below_trans B b8
  clear b8
  have cv10 := v1.cell (i := 0) (by simp)
  have cv11 := v1.cell (i := 1) (by simp)
  have cv12 := v1.cell (i := 2) (by simp)
  have cv13 := v1.cell (i := 3) (by simp)
  simp only [List.getD_cons_zero, List.getD_cons_succ] at cv10 cv11 cv12 cv13
  have ltv1 := v1.lt
  go_wp2_with fail
  clear cv10 cv11 cv12 cv13 ltv1
  refine (HC4.out _).mono ?_
  rintro e w9 ⟨rfl, b9⟩
  replace vs := vs.mono b9
  replace ht := ht.mono b9
  replace v1 := v1.mono b9
  replace B := below_trans B b9
  clear b9
  have cv10 := v1.cell (i := 0) (by simp)
  have cv11 := v1.cell (i := 1) (by simp)
  have cv12 := v1.cell (i := 2) (by simp)
  have cv13 := v1.cell (i := 3) (by simp)
  simp only [List.getD_cons_zero, List.getD_cons_succ] at cv10 cv11 cv12 cv13
  have ltv1 := v1.lt
  go_wp2_with fail
  clear cv10 cv11 cv12 cv13 ltv1
  refine (HM.out _).mono ?_
  rintro e w10 ⟨rfl, b10⟩
  replace vs := vs.mono b10
  replace ht := ht.mono b10
  replace v1 := v1.mono b10
  replace B := below_trans B b10
  clear b10
  go_upto_region 11 with (fail)
  have v2 := Vals.newL w10 w10.heap.size [.int .i64 s.a, .int .i64 s.b, .int .i64 s.c, .int .i64 s.d] 23 rfl
  have bb := below_alloc w10 (.cells #[.int .i64 s.a, .int .i64 s.b, .int .i64 s.c, .int .i64 s.d] 23)
  replace vs := vs.mono bb
  replace ht := ht.mono bb
  replace v1 := v1.mono bb
  replace B := below_trans B bb
  clear bb
  generalize w10.alloc (.cells #[.int .i64 s.a, .int .i64 s.b, .int .i64 s.c, .int .i64 s.d] 23) = w11 at *
  have cvs0 := vs.cell (i := 0) (by simp)
  have cvs1 := vs.cell (i := 1) (by simp)
  have cvs2 := vs.cell (i := 2) (by simp)
  have cvs3 := vs.cell (i := 3) (by simp)
  simp only [List.getD_cons_zero, List.getD_cons_succ] at cvs0 cvs1 cvs2 cvs3
  have ltvs := vs.lt
  have cv20 := v2.cell (i := 0) (by simp)
  have cv21 := v2.cell (i := 1) (by simp)
  have cv22 := v2.cell (i := 2) (by simp)
  have cv23 := v2.cell (i := 3) (by simp)
  simp only [List.getD_cons_zero, List.getD_cons_succ] at cv20 cv21 cv22 cv23
  have ltv2 := v2.lt
  go_wp2_with fail
  clear cvs0 cvs1 cvs2 cvs3 ltvs cv20 cv21 cv22 cv23 ltv2
  refine (lives_calls _ ht).mono ?_
  rintro e w12 ⟨rfl, b12⟩
  replace vs := vs.mono b12
  replace ht := ht.mono b12
  replace v1 := v1.mono b12
  replace v2 := v2.mono b12
  replace B := below_trans B b12
  clear b12
  go_wp2
  go_ret
  exact ⟨rfl, B⟩

set_option maxRecDepth 100000 in
set_option maxHeartbeats 1000000 in
theorem walk_folded (s : T4) (w : World) (hS : i64 s.a ∧ i64 s.b ∧ i64 s.c ∧ i64 s.d) (ht : Tab w)  :
    Calls Tryd.prog 14 #[.agg #[.int .i64 s.a, .int .i64 s.b, .int .i64 s.c, .int .i64 s.d]] w (RetTrue w) := by
  cases h1 : validB s.a s.b s.c s.d
  · exact folded_bad s w hS ht h1
  by_cases g1 : -12 ≤ s.a ∧ s.a ≤ 12 ∧ -12 ≤ s.b ∧ s.b ≤ 12 ∧ -12 ≤ s.c ∧ s.c ≤ 12
  · exact folded_ok s w hS ht h1 g1
  · exact folded_large s w hS ht h1 g1

end Go.Proofs
