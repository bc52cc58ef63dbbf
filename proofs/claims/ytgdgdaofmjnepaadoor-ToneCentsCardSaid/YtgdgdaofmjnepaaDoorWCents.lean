/- The walk of ToneCents: whatever comes in, it returns true and changes nothing that was there. -/
import Derived.Test.YtgdgdaofmjnepaaDoorTRef
import Derived.Test.YtgdgdaofmjnepaaDoorTone8
import Derived.Test.YtgdgdaofmjnepaaDoorToneB
import Derived.Test.YtgdgdaofmjnepaaDoorTRef7
open Go.RowKit Go.Deep
namespace Go.Proofs
set_option linter.unusedVariables false

theorem cents_small {s : T4} (h1 : s.a.natAbs ≤ 12) (h2 : s.b.natAbs ≤ 12) (h3 : s.c.natAbs ≤ 12) : -90000 ≤ centsT s ∧ centsT s ≤ 90000 := by
  have cb := fl_abs (u := ⟨1200 * s.a, 1200 * s.b, 1200 * s.c⟩) (m := 14400) (show (1200 * s.a).natAbs ≤ _ by omega) (show (1200 * s.b).natAbs ≤ _ by omega) (show (1200 * s.c).natAbs ≤ _ by omega)
  have := Int.natAbs_ediv_le_natAbs (fl ⟨1200 * s.a, 1200 * s.b, 1200 * s.c⟩) s.d
  unfold centsT
  omega

set_option maxRecDepth 100000 in
set_option maxHeartbeats 1000000 in
theorem cents_stop0 (s t : T4) (w : World) (hS : i64 s.a ∧ i64 s.b ∧ i64 s.c ∧ i64 s.d) (hT : i64 t.a ∧ i64 t.b ∧ i64 t.c ∧ i64 t.d) (ht : Tab w) (h1 : validB s.a s.b s.c s.d = false)  :
    Calls Tryd.prog 6 #[.agg #[.int .i64 s.a, .int .i64 s.b, .int .i64 s.c, .int .i64 s.d], .agg #[.int .i64 t.a, .int .i64 t.b, .int .i64 t.c, .int .i64 t.d]] w (RetTrue w) := by
  have Vs := fun w : World => rvalid_calls s w hS
  rw [h1] at Vs
  have HVs := Lib.hid Vs
  clear Vs
  clear hS hT h1
  have vs := Vals.newL w (w.heap.size) [.int .i64 s.a, .int .i64 s.b, .int .i64 s.c, .int .i64 s.d] 23 rfl
  have bb := below_alloc w (.cells #[.int .i64 s.a, .int .i64 s.b, .int .i64 s.c, .int .i64 s.d] 23)
  have B := bb
  have sz0 := World.size_alloc w (.cells #[.int .i64 s.a, .int .i64 s.b, .int .i64 s.c, .int .i64 s.d] 23)
  have sz := sz0
  clear sz0
  clear bb
  have vt := Vals.newL (w.alloc (.cells #[.int .i64 s.a, .int .i64 s.b, .int .i64 s.c, .int .i64 s.d] 23)) (w.heap.size + 1) [.int .i64 t.a, .int .i64 t.b, .int .i64 t.c, .int .i64 t.d] 23 sz.symm
  have bb := below_alloc (w.alloc (.cells #[.int .i64 s.a, .int .i64 s.b, .int .i64 s.c, .int .i64 s.d] 23)) (.cells #[.int .i64 t.a, .int .i64 t.b, .int .i64 t.c, .int .i64 t.d] 23)
  replace vs := vs.mono bb
  replace B := below_trans B bb
  clear sz
  have bb0 := B
  clear bb
  go_enter Tryd.func6, Tryd.ntmps6
  go_wp2_with fail
  generalize ((w.alloc (.cells #[.int .i64 s.a, .int .i64 s.b, .int .i64 s.c, .int .i64 s.d] 23)).alloc (.cells #[.int .i64 t.a, .int .i64 t.b, .int .i64 t.c, .int .i64 t.d] 23)) = w0 at *
  replace ht := ht.mono bb0
  clear bb0
  refine (HVs.out _).mono ?_
  rintro e w1 ⟨rfl, b1⟩
  replace vs := vs.mono b1
  replace vt := vt.mono b1
  replace ht := ht.mono b1
  replace B := below_trans B b1
  clear b1
  go_wp2_with fail
  refine (lives_calls _ ht).mono ?_
  rintro e w2 ⟨rfl, b2⟩
  replace vs := vs.mono b2
  replace vt := vt.mono b2
  replace ht := ht.mono b2
  replace B := below_trans B b2
  clear b2
  go_wp2
  go_ret
  exact ⟨rfl, B⟩

set_option maxRecDepth 100000 in
set_option maxHeartbeats 1000000 in
theorem cents_stop1 (s t : T4) (w : World) (hS : i64 s.a ∧ i64 s.b ∧ i64 s.c ∧ i64 s.d) (hT : i64 t.a ∧ i64 t.b ∧ i64 t.c ∧ i64 t.d) (ht : Tab w) (h1 : validB s.a s.b s.c s.d = true) (h2 : validB t.a t.b t.c t.d = false)  :
    Calls Tryd.prog 6 #[.agg #[.int .i64 s.a, .int .i64 s.b, .int .i64 s.c, .int .i64 s.d], .agg #[.int .i64 t.a, .int .i64 t.b, .int .i64 t.c, .int .i64 t.d]] w (RetTrue w) := by
  have Vs := fun w : World => rvalid_calls s w hS
  rw [h1] at Vs
  have HVs := Lib.hid Vs
  clear Vs
  have Vt := fun w : World => rvalid_calls t w hT
  rw [h2] at Vt
  have HVt := Lib.hid Vt
  clear Vt
  clear hS hT h1 h2
  have vs := Vals.newL w (w.heap.size) [.int .i64 s.a, .int .i64 s.b, .int .i64 s.c, .int .i64 s.d] 23 rfl
  have bb := below_alloc w (.cells #[.int .i64 s.a, .int .i64 s.b, .int .i64 s.c, .int .i64 s.d] 23)
  have B := bb
  have sz0 := World.size_alloc w (.cells #[.int .i64 s.a, .int .i64 s.b, .int .i64 s.c, .int .i64 s.d] 23)
  have sz := sz0
  clear sz0
  clear bb
  have vt := Vals.newL (w.alloc (.cells #[.int .i64 s.a, .int .i64 s.b, .int .i64 s.c, .int .i64 s.d] 23)) (w.heap.size + 1) [.int .i64 t.a, .int .i64 t.b, .int .i64 t.c, .int .i64 t.d] 23 sz.symm
  have bb := below_alloc (w.alloc (.cells #[.int .i64 s.a, .int .i64 s.b, .int .i64 s.c, .int .i64 s.d] 23)) (.cells #[.int .i64 t.a, .int .i64 t.b, .int .i64 t.c, .int .i64 t.d] 23)
  replace vs := vs.mono bb
  replace B := below_trans B bb
  clear sz
  have bb0 := B
  clear bb
  go_enter Tryd.func6, Tryd.ntmps6
  go_wp2_with fail
  generalize ((w.alloc (.cells #[.int .i64 s.a, .int .i64 s.b, .int .i64 s.c, .int .i64 s.d] 23)).alloc (.cells #[.int .i64 t.a, .int .i64 t.b, .int .i64 t.c, .int .i64 t.d] 23)) = w0 at *
  replace ht := ht.mono bb0
  clear bb0
  refine (HVs.out _).mono ?_
  rintro e w1 ⟨rfl, b1⟩
  replace vs := vs.mono b1
  replace vt := vt.mono b1
  replace ht := ht.mono b1
  replace B := below_trans B b1
  clear b1
  have cvt0 := vt.cell (i := 0) (by simp)
  have cvt1 := vt.cell (i := 1) (by simp)
  have cvt2 := vt.cell (i := 2) (by simp)
  have cvt3 := vt.cell (i := 3) (by simp)
  simp only [List.getD_cons_zero, List.getD_cons_succ] at cvt0 cvt1 cvt2 cvt3
  have ltvt := vt.lt
  go_wp2_with fail
  clear cvt0 cvt1 cvt2 cvt3 ltvt
  refine (HVt.out _).mono ?_
  rintro e w2 ⟨rfl, b2⟩
  replace vs := vs.mono b2
  replace vt := vt.mono b2
  replace ht := ht.mono b2
  replace B := below_trans B b2
  clear b2
  go_wp2_with fail
  refine (lives_calls _ ht).mono ?_
  rintro e w3 ⟨rfl, b3⟩
  replace vs := vs.mono b3
  replace vt := vt.mono b3
  replace ht := ht.mono b3
  replace B := below_trans B b3
  clear b3
  go_wp2
  go_ret
  exact ⟨rfl, B⟩

set_option maxRecDepth 100000 in
set_option maxHeartbeats 1000000 in
theorem cents_stop2 (s t : T4) (w : World) (hS : i64 s.a ∧ i64 s.b ∧ i64 s.c ∧ i64 s.d) (hT : i64 t.a ∧ i64 t.b ∧ i64 t.c ∧ i64 t.d) (ht : Tab w) (h1 : validB s.a s.b s.c s.d = true) (h2 : validB t.a t.b t.c t.d = true) (g1 : ¬ (-12 ≤ s.a ∧ s.a ≤ 12 ∧ -12 ≤ s.b ∧ s.b ≤ 12 ∧ -12 ≤ s.c ∧ s.c ≤ 12)) :
    Calls Tryd.prog 6 #[.agg #[.int .i64 s.a, .int .i64 s.b, .int .i64 s.c, .int .i64 s.d], .agg #[.int .i64 t.a, .int .i64 t.b, .int .i64 t.c, .int .i64 t.d]] w (RetTrue w) := by
  have Vs := fun w : World => rvalid_calls s w hS
  rw [h1] at Vs
  have HVs := Lib.hid Vs
  clear Vs
  have Vt := fun w : World => rvalid_calls t w hT
  rw [h2] at Vt
  have HVt := Lib.hid Vt
  clear Vt
  have Ls := fun w : World => large_yes s 12 w (by omega) (by omega) g1
  have HLs := Lib.hid Ls
  clear Ls
  clear hS hT h1 h2 g1
  have vs := Vals.newL w (w.heap.size) [.int .i64 s.a, .int .i64 s.b, .int .i64 s.c, .int .i64 s.d] 23 rfl
  have bb := below_alloc w (.cells #[.int .i64 s.a, .int .i64 s.b, .int .i64 s.c, .int .i64 s.d] 23)
  have B := bb
  have sz0 := World.size_alloc w (.cells #[.int .i64 s.a, .int .i64 s.b, .int .i64 s.c, .int .i64 s.d] 23)
  have sz := sz0
  clear sz0
  clear bb
  have vt := Vals.newL (w.alloc (.cells #[.int .i64 s.a, .int .i64 s.b, .int .i64 s.c, .int .i64 s.d] 23)) (w.heap.size + 1) [.int .i64 t.a, .int .i64 t.b, .int .i64 t.c, .int .i64 t.d] 23 sz.symm
  have bb := below_alloc (w.alloc (.cells #[.int .i64 s.a, .int .i64 s.b, .int .i64 s.c, .int .i64 s.d] 23)) (.cells #[.int .i64 t.a, .int .i64 t.b, .int .i64 t.c, .int .i64 t.d] 23)
  replace vs := vs.mono bb
  replace B := below_trans B bb
  clear sz
  have bb0 := B
  clear bb
  go_enter Tryd.func6, Tryd.ntmps6
  go_wp2_with fail
  generalize ((w.alloc (.cells #[.int .i64 s.a, .int .i64 s.b, .int .i64 s.c, .int .i64 s.d] 23)).alloc (.cells #[.int .i64 t.a, .int .i64 t.b, .int .i64 t.c, .int .i64 t.d] 23)) = w0 at *
  replace ht := ht.mono bb0
  clear bb0
  refine (HVs.out _).mono ?_
  rintro e w1 ⟨rfl, b1⟩
  replace vs := vs.mono b1
  replace vt := vt.mono b1
  replace ht := ht.mono b1
  replace B := below_trans B b1
  clear b1
  have cvt0 := vt.cell (i := 0) (by simp)
  have cvt1 := vt.cell (i := 1) (by simp)
  have cvt2 := vt.cell (i := 2) (by simp)
  have cvt3 := vt.cell (i := 3) (by simp)
  simp only [List.getD_cons_zero, List.getD_cons_succ] at cvt0 cvt1 cvt2 cvt3
  have ltvt := vt.lt
  go_wp2_with fail
  clear cvt0 cvt1 cvt2 cvt3 ltvt
  refine (HVt.out _).mono ?_
  rintro e w2 ⟨rfl, b2⟩
  replace vs := vs.mono b2
  replace vt := vt.mono b2
  replace ht := ht.mono b2
  replace B := below_trans B b2
  clear b2
  have cvs0 := vs.cell (i := 0) (by simp)
  have cvs1 := vs.cell (i := 1) (by simp)
  have cvs2 := vs.cell (i := 2) (by simp)
  have cvs3 := vs.cell (i := 3) (by simp)
  simp only [List.getD_cons_zero, List.getD_cons_succ] at cvs0 cvs1 cvs2 cvs3
  have ltvs := vs.lt
  go_wp2_with fail
  clear cvs0 cvs1 cvs2 cvs3 ltvs
  refine (HLs.out _).mono ?_
  rintro e w3 ⟨rfl, b3⟩
  replace vs := vs.mono b3
  replace vt := vt.mono b3
  replace ht := ht.mono b3
  replace B := below_trans B b3
  clear b3
  go_wp2_with fail
  refine (lives_calls _ ht).mono ?_
  rintro e w4 ⟨rfl, b4⟩
  replace vs := vs.mono b4
  replace vt := vt.mono b4
  replace ht := ht.mono b4
  replace B := below_trans B b4
  clear b4
  go_wp2
  go_ret
  exact ⟨rfl, B⟩

set_option maxRecDepth 100000 in
set_option maxHeartbeats 1000000 in
theorem cents_stop3 (s t : T4) (w : World) (hS : i64 s.a ∧ i64 s.b ∧ i64 s.c ∧ i64 s.d) (hT : i64 t.a ∧ i64 t.b ∧ i64 t.c ∧ i64 t.d) (ht : Tab w) (h1 : validB s.a s.b s.c s.d = true) (h2 : validB t.a t.b t.c t.d = true) (g1 : -12 ≤ s.a ∧ s.a ≤ 12 ∧ -12 ≤ s.b ∧ s.b ≤ 12 ∧ -12 ≤ s.c ∧ s.c ≤ 12) (g2 : ¬ (-12 ≤ t.a ∧ t.a ≤ 12 ∧ -12 ≤ t.b ∧ t.b ≤ 12 ∧ -12 ≤ t.c ∧ t.c ≤ 12)) :
    Calls Tryd.prog 6 #[.agg #[.int .i64 s.a, .int .i64 s.b, .int .i64 s.c, .int .i64 s.d], .agg #[.int .i64 t.a, .int .i64 t.b, .int .i64 t.c, .int .i64 t.d]] w (RetTrue w) := by
  have Vs := fun w : World => rvalid_calls s w hS
  rw [h1] at Vs
  have HVs := Lib.hid Vs
  clear Vs
  have Vt := fun w : World => rvalid_calls t w hT
  rw [h2] at Vt
  have HVt := Lib.hid Vt
  clear Vt
  have Ls := fun w : World => large_no s 12 w (by omega) (by omega) g1
  have HLs := Lib.hid Ls
  clear Ls
  have Lt := fun w : World => large_yes t 12 w (by omega) (by omega) g2
  have HLt := Lib.hid Lt
  clear Lt
  clear hS hT h1 h2 g1 g2
  have vs := Vals.newL w (w.heap.size) [.int .i64 s.a, .int .i64 s.b, .int .i64 s.c, .int .i64 s.d] 23 rfl
  have bb := below_alloc w (.cells #[.int .i64 s.a, .int .i64 s.b, .int .i64 s.c, .int .i64 s.d] 23)
  have B := bb
  have sz0 := World.size_alloc w (.cells #[.int .i64 s.a, .int .i64 s.b, .int .i64 s.c, .int .i64 s.d] 23)
  have sz := sz0
  clear sz0
  clear bb
  have vt := Vals.newL (w.alloc (.cells #[.int .i64 s.a, .int .i64 s.b, .int .i64 s.c, .int .i64 s.d] 23)) (w.heap.size + 1) [.int .i64 t.a, .int .i64 t.b, .int .i64 t.c, .int .i64 t.d] 23 sz.symm
  have bb := below_alloc (w.alloc (.cells #[.int .i64 s.a, .int .i64 s.b, .int .i64 s.c, .int .i64 s.d] 23)) (.cells #[.int .i64 t.a, .int .i64 t.b, .int .i64 t.c, .int .i64 t.d] 23)
  replace vs := vs.mono bb
  replace B := below_trans B bb
  clear sz
  have bb0 := B
  clear bb
  go_enter Tryd.func6, Tryd.ntmps6
  go_wp2_with fail
  generalize ((w.alloc (.cells #[.int .i64 s.a, .int .i64 s.b, .int .i64 s.c, .int .i64 s.d] 23)).alloc (.cells #[.int .i64 t.a, .int .i64 t.b, .int .i64 t.c, .int .i64 t.d] 23)) = w0 at *
  replace ht := ht.mono bb0
  clear bb0
  refine (HVs.out _).mono ?_
  rintro e w1 ⟨rfl, b1⟩
  replace vs := vs.mono b1
  replace vt := vt.mono b1
  replace ht := ht.mono b1
  replace B := below_trans B b1
  clear b1
  have cvt0 := vt.cell (i := 0) (by simp)
  have cvt1 := vt.cell (i := 1) (by simp)
  have cvt2 := vt.cell (i := 2) (by simp)
  have cvt3 := vt.cell (i := 3) (by simp)
  simp only [List.getD_cons_zero, List.getD_cons_succ] at cvt0 cvt1 cvt2 cvt3
  have ltvt := vt.lt
  go_wp2_with fail
  clear cvt0 cvt1 cvt2 cvt3 ltvt
  refine (HVt.out _).mono ?_
  rintro e w2 ⟨rfl, b2⟩
  replace vs := vs.mono b2
  replace vt := vt.mono b2
  replace ht := ht.mono b2
  replace B := below_trans B b2
  clear b2
  have cvs0 := vs.cell (i := 0) (by simp)
  have cvs1 := vs.cell (i := 1) (by simp)
  have cvs2 := vs.cell (i := 2) (by simp)
  have cvs3 := vs.cell (i := 3) (by simp)
  simp only [List.getD_cons_zero, List.getD_cons_succ] at cvs0 cvs1 cvs2 cvs3
  have ltvs := vs.lt
  go_wp2_with fail
  clear cvs0 cvs1 cvs2 cvs3 ltvs
  refine (HLs.out _).mono ?_
  rintro e w3 ⟨rfl, b3⟩
  replace vs := vs.mono b3
  replace vt := vt.mono b3
  replace ht := ht.mono b3
  replace B := below_trans B b3
  clear b3
  have cvt0 := vt.cell (i := 0) (by simp)
  have cvt1 := vt.cell (i := 1) (by simp)
  have cvt2 := vt.cell (i := 2) (by simp)
  have cvt3 := vt.cell (i := 3) (by simp)
  simp only [List.getD_cons_zero, List.getD_cons_succ] at cvt0 cvt1 cvt2 cvt3
  have ltvt := vt.lt
  go_wp2_with fail
  clear cvt0 cvt1 cvt2 cvt3 ltvt
  refine (HLt.out _).mono ?_
  rintro e w4 ⟨rfl, b4⟩
  replace vs := vs.mono b4
  replace vt := vt.mono b4
  replace ht := ht.mono b4
  replace B := below_trans B b4
  clear b4
  go_wp2_with fail
  refine (lives_calls _ ht).mono ?_
  rintro e w5 ⟨rfl, b5⟩
  replace vs := vs.mono b5
  replace vt := vt.mono b5
  replace ht := ht.mono b5
  replace B := below_trans B b5
  clear b5
  go_wp2
  go_ret
  exact ⟨rfl, B⟩

set_option maxRecDepth 100000 in
set_option maxHeartbeats 1000000 in
theorem cents_11 (s t : T4) (w : World) (hS : i64 s.a ∧ i64 s.b ∧ i64 s.c ∧ i64 s.d) (hT : i64 t.a ∧ i64 t.b ∧ i64 t.c ∧ i64 t.d) (ht : Tab w) (h1 : validB s.a s.b s.c s.d = true) (h2 : validB t.a t.b t.c t.d = true) (g1 : -12 ≤ s.a ∧ s.a ≤ 12 ∧ -12 ≤ s.b ∧ s.b ≤ 12 ∧ -12 ≤ s.c ∧ s.c ≤ 12) (g2 : -12 ≤ t.a ∧ t.a ≤ 12 ∧ -12 ≤ t.b ∧ t.b ≤ 12 ∧ -12 ≤ t.c ∧ t.c ≤ 12) (hk : (mulT s ⟨1, 0, 0, 1⟩).2 = 0) (hm : (mulT s t).2 = 0) :
    Calls Tryd.prog 6 #[.agg #[.int .i64 s.a, .int .i64 s.b, .int .i64 s.c, .int .i64 s.d], .agg #[.int .i64 t.a, .int .i64 t.b, .int .i64 t.c, .int .i64 t.d]] w (RetTrue w) := by
  have Vs := fun w : World => rvalid_calls s w hS
  rw [h1] at Vs
  have HVs := Lib.hid Vs
  clear Vs
  have Vt := fun w : World => rvalid_calls t w hT
  rw [h2] at Vt
  have HVt := Lib.hid Vt
  clear Vt
  have Ls := fun w : World => large_no s 12 w (by omega) (by omega) g1
  have HLs := Lib.hid Ls
  clear Ls
  have Lt := fun w : World => large_no t 12 w (by omega) (by omega) g2
  have HLt := Lib.hid Lt
  clear Lt
  obtain ⟨d1, d2⟩ := okT_d h1
  obtain ⟨a1, a2⟩ := cents_small (s := s) (by omega) (by omega) (by omega)
  obtain ⟨b1, b2⟩ := cents_small (s := t) (by omega) (by omega) (by omega)
  have okU : validB 1 0 0 1 = true := by unfold validB gcd4 gcdN; decide
  have C1 := fun w : World => cents_ok s w h1
  have C2 := fun w : World => cents_ok t w h2
  obtain ⟨x, hx⟩ : ∃ x, logI s (centsT s) 1200 = x := ⟨_, rfl⟩
  obtain ⟨y, hy⟩ : ∃ y, logI s (centsT s + 1) 1200 = y := ⟨_, rfl⟩
  have x1 := (log_cents d1 (centsT s)).2 (Int.le_refl _)
  have y1 : ¬ 0 ≤ logI s (centsT s + 1) 1200 := fun h => by have := (log_cents d1 _).1 h; omega
  rw [hx] at x1
  rw [hy] at y1
  have D1 := fun w : World => rlog_calls s (centsT s) 1200 x w h1 (by omega) (by omega) hx
  have D2 := fun w : World => rlog_calls s (centsT s + 1) 1200 y w h1 (by omega) (by omega) hy
  have tx : decide (x < 0) = false := by rw [decide_eq_false_iff_not]; omega
  have ty : decide (0 ≤ y) = false := by rw [decide_eq_false_iff_not]; omega
  have ta : decide (centsT s < -100000) = false := by rw [decide_eq_false_iff_not]; omega
  have tb : decide (100000 < centsT s) = false := by rw [decide_eq_false_iff_not]; omega
  have M1 := fun w : World => mulT_ok s ⟨1, 0, 0, 1⟩ w h1 okU
  have M2 := fun w : World => mulT_ok s t w h1 h2
  have C3 := fun w : World => cents_ok (mulT s ⟨1, 0, 0, 1⟩).1 w (redT_okT hk)
  rw [cents_up h1 hk] at C3
  have C4 := fun w : World => cents_ok (mulT s t).1 w (redT_okT hm)
  obtain ⟨e1, e2⟩ := cents_add h1 h2 hm
  generalize centsT (mulT s t).1 = d at *
  clear hx hy
  generalize centsT s = a at *
  generalize centsT t = b at *
  generalize mulT s ⟨1, 0, 0, 1⟩ = M at *
  obtain ⟨⟨p1, p2, p3, p4⟩, k⟩ := M
  try dsimp only at *
  subst hk
  generalize mulT s t = N at *
  obtain ⟨⟨q1, q2, q3, q4⟩, m⟩ := N
  try dsimp only at *
  subst hm
  have HC1 := Lib.hid C1
  have HC2 := Lib.hid C2
  have HD1 := Lib.hid D1
  have HD2 := Lib.hid D2
  have HM1 := Lib.hid M1
  have HM2 := Lib.hid M2
  have HC3 := Lib.hid C3
  have HC4 := Lib.hid C4
  clear C1 C2 D1 D2 M1 M2 C3 C4
  clear okU h1 h2 g1 g2 hS hT d1 d2 x1 y1
  have vs := Vals.newL w (w.heap.size) [.int .i64 s.a, .int .i64 s.b, .int .i64 s.c, .int .i64 s.d] 23 rfl
  have bb := below_alloc w (.cells #[.int .i64 s.a, .int .i64 s.b, .int .i64 s.c, .int .i64 s.d] 23)
  have B := bb
  have sz0 := World.size_alloc w (.cells #[.int .i64 s.a, .int .i64 s.b, .int .i64 s.c, .int .i64 s.d] 23)
  have sz := sz0
  clear sz0
  clear bb
  have vt := Vals.newL (w.alloc (.cells #[.int .i64 s.a, .int .i64 s.b, .int .i64 s.c, .int .i64 s.d] 23)) (w.heap.size + 1) [.int .i64 t.a, .int .i64 t.b, .int .i64 t.c, .int .i64 t.d] 23 sz.symm
  have bb := below_alloc (w.alloc (.cells #[.int .i64 s.a, .int .i64 s.b, .int .i64 s.c, .int .i64 s.d] 23)) (.cells #[.int .i64 t.a, .int .i64 t.b, .int .i64 t.c, .int .i64 t.d] 23)
  replace vs := vs.mono bb
  replace B := below_trans B bb
  clear sz
  have bb0 := B
  clear bb
  go_enter Tryd.func6, Tryd.ntmps6
  go_wp2_with fail
  generalize ((w.alloc (.cells #[.int .i64 s.a, .int .i64 s.b, .int .i64 s.c, .int .i64 s.d] 23)).alloc (.cells #[.int .i64 t.a, .int .i64 t.b, .int .i64 t.c, .int .i64 t.d] 23)) = w0 at *
  replace ht := ht.mono bb0
  clear bb0
  refine (HVs.out _).mono ?_
  rintro e w1 ⟨rfl, b1⟩
  replace vs := vs.mono b1
  replace vt := vt.mono b1
  replace ht := ht.mono b1
  replace B := below_trans B b1
  clear b1
  have cvt0 := vt.cell (i := 0) (by simp)
  have cvt1 := vt.cell (i := 1) (by simp)
  have cvt2 := vt.cell (i := 2) (by simp)
  have cvt3 := vt.cell (i := 3) (by simp)
  simp only [List.getD_cons_zero, List.getD_cons_succ] at cvt0 cvt1 cvt2 cvt3
  have ltvt := vt.lt
  go_wp2_with fail
  clear cvt0 cvt1 cvt2 cvt3 ltvt
  refine (HVt.out _).mono ?_
  rintro e w2 ⟨rfl, b2⟩
  replace vs := vs.mono b2
  replace vt := vt.mono b2
  replace ht := ht.mono b2
  replace B := below_trans B b2
  clear b2
  have cvs0 := vs.cell (i := 0) (by simp)
  have cvs1 := vs.cell (i := 1) (by simp)
  have cvs2 := vs.cell (i := 2) (by simp)
  have cvs3 := vs.cell (i := 3) (by simp)
  simp only [List.getD_cons_zero, List.getD_cons_succ] at cvs0 cvs1 cvs2 cvs3
  have ltvs := vs.lt
  go_wp2_with fail
  clear cvs0 cvs1 cvs2 cvs3 ltvs
  refine (HLs.out _).mono ?_
  rintro e w3 ⟨rfl, b3⟩
  replace vs := vs.mono b3
  replace vt := vt.mono b3
  replace ht := ht.mono b3
  replace B := below_trans B b3
  clear b3
  have cvt0 := vt.cell (i := 0) (by simp)
  have cvt1 := vt.cell (i := 1) (by simp)
  have cvt2 := vt.cell (i := 2) (by simp)
  have cvt3 := vt.cell (i := 3) (by simp)
  simp only [List.getD_cons_zero, List.getD_cons_succ] at cvt0 cvt1 cvt2 cvt3
  have ltvt := vt.lt
  go_wp2_with fail
  clear cvt0 cvt1 cvt2 cvt3 ltvt
  refine (HLt.out _).mono ?_
  rintro e w4 ⟨rfl, b4⟩
  replace vs := vs.mono b4
  replace vt := vt.mono b4
  replace ht := ht.mono b4
  replace B := below_trans B b4
  clear b4
  have cvs0 := vs.cell (i := 0) (by simp)
  have cvs1 := vs.cell (i := 1) (by simp)
  have cvs2 := vs.cell (i := 2) (by simp)
  have cvs3 := vs.cell (i := 3) (by simp)
  simp only [List.getD_cons_zero, List.getD_cons_succ] at cvs0 cvs1 cvs2 cvs3
  have ltvs := vs.lt
  go_wp2_with fail
  clear cvs0 cvs1 cvs2 cvs3 ltvs
  refine (HC1.out _).mono ?_
  rintro e w5 ⟨rfl, b5⟩
  replace vs := vs.mono b5
  replace vt := vt.mono b5
  replace ht := ht.mono b5
  replace B := below_trans B b5
  clear b5
  have cvt0 := vt.cell (i := 0) (by simp)
  have cvt1 := vt.cell (i := 1) (by simp)
  have cvt2 := vt.cell (i := 2) (by simp)
  have cvt3 := vt.cell (i := 3) (by simp)
  simp only [List.getD_cons_zero, List.getD_cons_succ] at cvt0 cvt1 cvt2 cvt3
  have ltvt := vt.lt
  go_wp2_with fail
  clear cvt0 cvt1 cvt2 cvt3 ltvt
  refine (HC2.out _).mono ?_
  rintro e w6 ⟨rfl, b6⟩
  replace vs := vs.mono b6
  replace vt := vt.mono b6
  replace ht := ht.mono b6
  replace B := below_trans B b6
  clear b6
  have cvs0 := vs.cell (i := 0) (by simp)
  have cvs1 := vs.cell (i := 1) (by simp)
  have cvs2 := vs.cell (i := 2) (by simp)
  have cvs3 := vs.cell (i := 3) (by simp)
  simp only [List.getD_cons_zero, List.getD_cons_succ] at cvs0 cvs1 cvs2 cvs3
  have ltvs := vs.lt
  go_wp2_with fail
  clear cvs0 cvs1 cvs2 cvs3 ltvs
  refine (HD1.out _).mono ?_
  rintro e w7 ⟨rfl, b7⟩
  replace vs := vs.mono b7
  replace vt := vt.mono b7
  replace ht := ht.mono b7
  replace B := below_trans B b7
  clear b7
  have cvs0 := vs.cell (i := 0) (by simp)
  have cvs1 := vs.cell (i := 1) (by simp)
  have cvs2 := vs.cell (i := 2) (by simp)
  have cvs3 := vs.cell (i := 3) (by simp)
  simp only [List.getD_cons_zero, List.getD_cons_succ] at cvs0 cvs1 cvs2 cvs3
  have ltvs := vs.lt
  go_wp2_with fail
  clear cvs0 cvs1 cvs2 cvs3 ltvs
  refine (HD2.out _).mono ?_
  rintro e w8 ⟨rfl, b8⟩
  replace vs := vs.mono b8
  replace vt := vt.mono b8
  replace ht := ht.mono b8
  replace B := below_trans B b8
  clear b8
  go_wp2_with fail
  refine (lives_calls _ ht).mono ?_
  rintro e w9 ⟨rfl, b9⟩
  replace vs := vs.mono b9
  replace vt := vt.mono b9
  replace ht := ht.mono b9
  replace B := below_trans B b9
  clear b9
  have cvs0 := vs.cell (i := 0) (by simp)
  have cvs1 := vs.cell (i := 1) (by simp)
  have cvs2 := vs.cell (i := 2) (by simp)
  have cvs3 := vs.cell (i := 3) (by simp)
  simp only [List.getD_cons_zero, List.getD_cons_succ] at cvs0 cvs1 cvs2 cvs3
  have ltvs := vs.lt
  go_wp2_with fail
  clear cvs0 cvs1 cvs2 cvs3 ltvs
  refine (HM1.out _).mono ?_
  rintro e w10 ⟨rfl, b10⟩
  replace vs := vs.mono b10
  replace vt := vt.mono b10
  replace ht := ht.mono b10
  replace B := below_trans B b10
  clear b10
  go_upto_region 10 with (fail)
  have v1 := Vals.newL w10 w10.heap.size [.int .i64 p1, .int .i64 p2, .int .i64 p3, .int .i64 p4] 23 rfl
  have bb := below_alloc w10 (.cells #[.int .i64 p1, .int .i64 p2, .int .i64 p3, .int .i64 p4] 23)
  replace vs := vs.mono bb
  replace vt := vt.mono bb
  replace ht := ht.mono bb
  replace B := below_trans B bb
  clear bb
  generalize w10.alloc (.cells #[.int .i64 p1, .int .i64 p2, .int .i64 p3, .int .i64 p4] 23) = w11 at *
  have cv10 := v1.cell (i := 0) (by simp)
  have cv11 := v1.cell (i := 1) (by simp)
  have cv12 := v1.cell (i := 2) (by simp)
  have cv13 := v1.cell (i := 3) (by simp)
  simp only [List.getD_cons_zero, List.getD_cons_succ] at cv10 cv11 cv12 cv13
  have ltv1 := v1.lt
  go_wp2_with fail
  clear cv10 cv11 cv12 cv13 ltv1
  refine (HC3.out _).mono ?_
  rintro e w12 ⟨rfl, b12⟩
  replace vs := vs.mono b12
  replace vt := vt.mono b12
  replace ht := ht.mono b12
  replace v1 := v1.mono b12
  replace B := below_trans B b12
  clear b12
  have cvs0 := vs.cell (i := 0) (by simp)
  have cvs1 := vs.cell (i := 1) (by simp)
  have cvs2 := vs.cell (i := 2) (by simp)
  have cvs3 := vs.cell (i := 3) (by simp)
  simp only [List.getD_cons_zero, List.getD_cons_succ] at cvs0 cvs1 cvs2 cvs3
  have ltvs := vs.lt
  have cvt0 := vt.cell (i := 0) (by simp)
  have cvt1 := vt.cell (i := 1) (by simp)
  have cvt2 := vt.cell (i := 2) (by simp)
  have cvt3 := vt.cell (i := 3) (by simp)
  simp only [List.getD_cons_zero, List.getD_cons_succ] at cvt0 cvt1 cvt2 cvt3
  have ltvt := vt.lt
  go_wp2_with fail
  clear cvs0 cvs1 cvs2 cvs3 ltvs cvt0 cvt1 cvt2 cvt3 ltvt
  refine (HM2.out _).mono ?_
  rintro e w13 ⟨rfl, b13⟩
  replace vs := vs.mono b13
  replace vt := vt.mono b13
  replace ht := ht.mono b13
  replace v1 := v1.mono b13
  replace B := below_trans B b13
  clear b13
  go_upto_region 15 with (fail)
  have v2 := Vals.newL w13 w13.heap.size [.int .i64 q1, .int .i64 q2, .int .i64 q3, .int .i64 q4] 23 rfl
  have bb := below_alloc w13 (.cells #[.int .i64 q1, .int .i64 q2, .int .i64 q3, .int .i64 q4] 23)
  replace vs := vs.mono bb
  replace vt := vt.mono bb
  replace ht := ht.mono bb
  replace v1 := v1.mono bb
  replace B := below_trans B bb
  clear bb
  generalize w13.alloc (.cells #[.int .i64 q1, .int .i64 q2, .int .i64 q3, .int .i64 q4] 23) = w14 at *
  have cv20 := v2.cell (i := 0) (by simp)
  have cv21 := v2.cell (i := 1) (by simp)
  have cv22 := v2.cell (i := 2) (by simp)
  have cv23 := v2.cell (i := 3) (by simp)
  simp only [List.getD_cons_zero, List.getD_cons_succ] at cv20 cv21 cv22 cv23
  have ltv2 := v2.lt
  go_wp2_with fail
  clear cv20 cv21 cv22 cv23 ltv2
  refine (HC4.out _).mono ?_
  rintro e w15 ⟨rfl, b15⟩
  replace vs := vs.mono b15
  replace vt := vt.mono b15
  replace ht := ht.mono b15
  replace v1 := v1.mono b15
  replace v2 := v2.mono b15
  replace B := below_trans B b15
  clear b15
  go_wp2
  go_ret
  exact ⟨rfl, B⟩

set_option maxRecDepth 100000 in
set_option maxHeartbeats 1000000 in
theorem cents_10 (s t : T4) (w : World) (hS : i64 s.a ∧ i64 s.b ∧ i64 s.c ∧ i64 s.d) (hT : i64 t.a ∧ i64 t.b ∧ i64 t.c ∧ i64 t.d) (ht : Tab w) (h1 : validB s.a s.b s.c s.d = true) (h2 : validB t.a t.b t.c t.d = true) (g1 : -12 ≤ s.a ∧ s.a ≤ 12 ∧ -12 ≤ s.b ∧ s.b ≤ 12 ∧ -12 ≤ s.c ∧ s.c ≤ 12) (g2 : -12 ≤ t.a ∧ t.a ≤ 12 ∧ -12 ≤ t.b ∧ t.b ≤ 12 ∧ -12 ≤ t.c ∧ t.c ≤ 12) (hk : (mulT s ⟨1, 0, 0, 1⟩).2 = 0) (hm : (mulT s t).2 ≠ 0) :
    Calls Tryd.prog 6 #[.agg #[.int .i64 s.a, .int .i64 s.b, .int .i64 s.c, .int .i64 s.d], .agg #[.int .i64 t.a, .int .i64 t.b, .int .i64 t.c, .int .i64 t.d]] w (RetTrue w) := by
  have Vs := fun w : World => rvalid_calls s w hS
  rw [h1] at Vs
  have HVs := Lib.hid Vs
  clear Vs
  have Vt := fun w : World => rvalid_calls t w hT
  rw [h2] at Vt
  have HVt := Lib.hid Vt
  clear Vt
  have Ls := fun w : World => large_no s 12 w (by omega) (by omega) g1
  have HLs := Lib.hid Ls
  clear Ls
  have Lt := fun w : World => large_no t 12 w (by omega) (by omega) g2
  have HLt := Lib.hid Lt
  clear Lt
  obtain ⟨d1, d2⟩ := okT_d h1
  obtain ⟨a1, a2⟩ := cents_small (s := s) (by omega) (by omega) (by omega)
  obtain ⟨b1, b2⟩ := cents_small (s := t) (by omega) (by omega) (by omega)
  have okU : validB 1 0 0 1 = true := by unfold validB gcd4 gcdN; decide
  have C1 := fun w : World => cents_ok s w h1
  have C2 := fun w : World => cents_ok t w h2
  obtain ⟨x, hx⟩ : ∃ x, logI s (centsT s) 1200 = x := ⟨_, rfl⟩
  obtain ⟨y, hy⟩ : ∃ y, logI s (centsT s + 1) 1200 = y := ⟨_, rfl⟩
  have x1 := (log_cents d1 (centsT s)).2 (Int.le_refl _)
  have y1 : ¬ 0 ≤ logI s (centsT s + 1) 1200 := fun h => by have := (log_cents d1 _).1 h; omega
  rw [hx] at x1
  rw [hy] at y1
  have D1 := fun w : World => rlog_calls s (centsT s) 1200 x w h1 (by omega) (by omega) hx
  have D2 := fun w : World => rlog_calls s (centsT s + 1) 1200 y w h1 (by omega) (by omega) hy
  have tx : decide (x < 0) = false := by rw [decide_eq_false_iff_not]; omega
  have ty : decide (0 ≤ y) = false := by rw [decide_eq_false_iff_not]; omega
  have ta : decide (centsT s < -100000) = false := by rw [decide_eq_false_iff_not]; omega
  have tb : decide (100000 < centsT s) = false := by rw [decide_eq_false_iff_not]; omega
  have M1 := fun w : World => mulT_ok s ⟨1, 0, 0, 1⟩ w h1 okU
  have M2 := fun w : World => mulT_ok s t w h1 h2
  have C3 := fun w : World => cents_ok (mulT s ⟨1, 0, 0, 1⟩).1 w (redT_okT hk)
  rw [cents_up h1 hk] at C3
  have mz : mulT s t = (⟨0, 0, 0, 0⟩, 5) := redT_err hm
  rw [mz] at M2
  clear hx hy
  generalize centsT s = a at *
  generalize centsT t = b at *
  generalize mulT s ⟨1, 0, 0, 1⟩ = M at *
  obtain ⟨⟨p1, p2, p3, p4⟩, k⟩ := M
  try dsimp only at *
  subst hk
  have HC1 := Lib.hid C1
  have HC2 := Lib.hid C2
  have HD1 := Lib.hid D1
  have HD2 := Lib.hid D2
  have HM1 := Lib.hid M1
  have HM2 := Lib.hid M2
  have HC3 := Lib.hid C3
  clear C1 C2 D1 D2 M1 M2 C3
  clear okU h1 h2 g1 g2 hS hT d1 d2 x1 y1 hm mz
  have vs := Vals.newL w (w.heap.size) [.int .i64 s.a, .int .i64 s.b, .int .i64 s.c, .int .i64 s.d] 23 rfl
  have bb := below_alloc w (.cells #[.int .i64 s.a, .int .i64 s.b, .int .i64 s.c, .int .i64 s.d] 23)
  have B := bb
  have sz0 := World.size_alloc w (.cells #[.int .i64 s.a, .int .i64 s.b, .int .i64 s.c, .int .i64 s.d] 23)
  have sz := sz0
  clear sz0
  clear bb
  have vt := Vals.newL (w.alloc (.cells #[.int .i64 s.a, .int .i64 s.b, .int .i64 s.c, .int .i64 s.d] 23)) (w.heap.size + 1) [.int .i64 t.a, .int .i64 t.b, .int .i64 t.c, .int .i64 t.d] 23 sz.symm
  have bb := below_alloc (w.alloc (.cells #[.int .i64 s.a, .int .i64 s.b, .int .i64 s.c, .int .i64 s.d] 23)) (.cells #[.int .i64 t.a, .int .i64 t.b, .int .i64 t.c, .int .i64 t.d] 23)
  replace vs := vs.mono bb
  replace B := below_trans B bb
  clear sz
  have bb0 := B
  clear bb
  go_enter Tryd.func6, Tryd.ntmps6
  go_wp2_with fail
  generalize ((w.alloc (.cells #[.int .i64 s.a, .int .i64 s.b, .int .i64 s.c, .int .i64 s.d] 23)).alloc (.cells #[.int .i64 t.a, .int .i64 t.b, .int .i64 t.c, .int .i64 t.d] 23)) = w0 at *
  replace ht := ht.mono bb0
  clear bb0
  refine (HVs.out _).mono ?_
  rintro e w1 ⟨rfl, b1⟩
  replace vs := vs.mono b1
  replace vt := vt.mono b1
  replace ht := ht.mono b1
  replace B := below_trans B b1
  clear b1
  have cvt0 := vt.cell (i := 0) (by simp)
  have cvt1 := vt.cell (i := 1) (by simp)
  have cvt2 := vt.cell (i := 2) (by simp)
  have cvt3 := vt.cell (i := 3) (by simp)
  simp only [List.getD_cons_zero, List.getD_cons_succ] at cvt0 cvt1 cvt2 cvt3
  have ltvt := vt.lt
  go_wp2_with fail
  clear cvt0 cvt1 cvt2 cvt3 ltvt
  refine (HVt.out _).mono ?_
  rintro e w2 ⟨rfl, b2⟩
  replace vs := vs.mono b2
  replace vt := vt.mono b2
  replace ht := ht.mono b2
  replace B := below_trans B b2
  clear b2
  have cvs0 := vs.cell (i := 0) (by simp)
  have cvs1 := vs.cell (i := 1) (by simp)
  have cvs2 := vs.cell (i := 2) (by simp)
  have cvs3 := vs.cell (i := 3) (by simp)
  simp only [List.getD_cons_zero, List.getD_cons_succ] at cvs0 cvs1 cvs2 cvs3
  have ltvs := vs.lt
  go_wp2_with fail
  clear cvs0 cvs1 cvs2 cvs3 ltvs
  refine (HLs.out _).mono ?_
  rintro e w3 ⟨rfl, b3⟩
  replace vs := vs.mono b3
  replace vt := vt.mono b3
  replace ht := ht.mono b3
  replace B := below_trans B b3
  clear b3
  have cvt0 := vt.cell (i := 0) (by simp)
  have cvt1 := vt.cell (i := 1) (by simp)
  have cvt2 := vt.cell (i := 2) (by simp)
  have cvt3 := vt.cell (i := 3) (by simp)
  simp only [List.getD_cons_zero, List.getD_cons_succ] at cvt0 cvt1 cvt2 cvt3
  have ltvt := vt.lt
  go_wp2_with fail
  clear cvt0 cvt1 cvt2 cvt3 ltvt
  refine (HLt.out _).mono ?_
  rintro e w4 ⟨rfl, b4⟩
  replace vs := vs.mono b4
  replace vt := vt.mono b4
  replace ht := ht.mono b4
  replace B := below_trans B b4
  clear b4
  have cvs0 := vs.cell (i := 0) (by simp)
  have cvs1 := vs.cell (i := 1) (by simp)
  have cvs2 := vs.cell (i := 2) (by simp)
  have cvs3 := vs.cell (i := 3) (by simp)
  simp only [List.getD_cons_zero, List.getD_cons_succ] at cvs0 cvs1 cvs2 cvs3
  have ltvs := vs.lt
  go_wp2_with fail
  clear cvs0 cvs1 cvs2 cvs3 ltvs
  refine (HC1.out _).mono ?_
  rintro e w5 ⟨rfl, b5⟩
  replace vs := vs.mono b5
  replace vt := vt.mono b5
  replace ht := ht.mono b5
  replace B := below_trans B b5
  clear b5
  have cvt0 := vt.cell (i := 0) (by simp)
  have cvt1 := vt.cell (i := 1) (by simp)
  have cvt2 := vt.cell (i := 2) (by simp)
  have cvt3 := vt.cell (i := 3) (by simp)
  simp only [List.getD_cons_zero, List.getD_cons_succ] at cvt0 cvt1 cvt2 cvt3
  have ltvt := vt.lt
  go_wp2_with fail
  clear cvt0 cvt1 cvt2 cvt3 ltvt
  refine (HC2.out _).mono ?_
  rintro e w6 ⟨rfl, b6⟩
  replace vs := vs.mono b6
  replace vt := vt.mono b6
  replace ht := ht.mono b6
  replace B := below_trans B b6
  clear b6
  have cvs0 := vs.cell (i := 0) (by simp)
  have cvs1 := vs.cell (i := 1) (by simp)
  have cvs2 := vs.cell (i := 2) (by simp)
  have cvs3 := vs.cell (i := 3) (by simp)
  simp only [List.getD_cons_zero, List.getD_cons_succ] at cvs0 cvs1 cvs2 cvs3
  have ltvs := vs.lt
  go_wp2_with fail
  clear cvs0 cvs1 cvs2 cvs3 ltvs
  refine (HD1.out _).mono ?_
  rintro e w7 ⟨rfl, b7⟩
  replace vs := vs.mono b7
  replace vt := vt.mono b7
  replace ht := ht.mono b7
  replace B := below_trans B b7
  clear b7
  have cvs0 := vs.cell (i := 0) (by simp)
  have cvs1 := vs.cell (i := 1) (by simp)
  have cvs2 := vs.cell (i := 2) (by simp)
  have cvs3 := vs.cell (i := 3) (by simp)
  simp only [List.getD_cons_zero, List.getD_cons_succ] at cvs0 cvs1 cvs2 cvs3
  have ltvs := vs.lt
  go_wp2_with fail
  clear cvs0 cvs1 cvs2 cvs3 ltvs
  refine (HD2.out _).mono ?_
  rintro e w8 ⟨rfl, b8⟩
  replace vs := vs.mono b8
  replace vt := vt.mono b8
  replace ht := ht.mono b8
  replace B := below_trans B b8
  clear b8
  go_wp2_with fail
  refine (lives_calls _ ht).mono ?_
  rintro e w9 ⟨rfl, b9⟩
  replace vs := vs.mono b9
  replace vt := vt.mono b9
  replace ht := ht.mono b9
  replace B := below_trans B b9
  clear b9
  have cvs0 := vs.cell (i := 0) (by simp)
  have cvs1 := vs.cell (i := 1) (by simp)
  have cvs2 := vs.cell (i := 2) (by simp)
  have cvs3 := vs.cell (i := 3) (by simp)
  simp only [List.getD_cons_zero, List.getD_cons_succ] at cvs0 cvs1 cvs2 cvs3
  have ltvs := vs.lt
  go_wp2_with fail
  clear cvs0 cvs1 cvs2 cvs3 ltvs
  refine (HM1.out _).mono ?_
  rintro e w10 ⟨rfl, b10⟩
  replace vs := vs.mono b10
  replace vt := vt.mono b10
  replace ht := ht.mono b10
  replace B := below_trans B b10
  clear b10
  go_upto_region 10 with (fail)
  have v1 := Vals.newL w10 w10.heap.size [.int .i64 p1, .int .i64 p2, .int .i64 p3, .int .i64 p4] 23 rfl
  have bb := below_alloc w10 (.cells #[.int .i64 p1, .int .i64 p2, .int .i64 p3, .int .i64 p4] 23)
  replace vs := vs.mono bb
  replace vt := vt.mono bb
  replace ht := ht.mono bb
  replace B := below_trans B bb
  clear bb
  generalize w10.alloc (.cells #[.int .i64 p1, .int .i64 p2, .int .i64 p3, .int .i64 p4] 23) = w11 at *
  have cv10 := v1.cell (i := 0) (by simp)
  have cv11 := v1.cell (i := 1) (by simp)
  have cv12 := v1.cell (i := 2) (by simp)
  have cv13 := v1.cell (i := 3) (by simp)
  simp only [List.getD_cons_zero, List.getD_cons_succ] at cv10 cv11 cv12 cv13
  have ltv1 := v1.lt
  go_wp2_with fail
  clear cv10 cv11 cv12 cv13 ltv1
  refine (HC3.out _).mono ?_
  rintro e w12 ⟨rfl, b12⟩
  replace vs := vs.mono b12
  replace vt := vt.mono b12
  replace ht := ht.mono b12
  replace v1 := v1.mono b12
  replace B := below_trans B b12
  clear b12
  have cvs0 := vs.cell (i := 0) (by simp)
  have cvs1 := vs.cell (i := 1) (by simp)
  have cvs2 := vs.cell (i := 2) (by simp)
  have cvs3 := vs.cell (i := 3) (by simp)
  simp only [List.getD_cons_zero, List.getD_cons_succ] at cvs0 cvs1 cvs2 cvs3
  have ltvs := vs.lt
  have cvt0 := vt.cell (i := 0) (by simp)
  have cvt1 := vt.cell (i := 1) (by simp)
  have cvt2 := vt.cell (i := 2) (by simp)
  have cvt3 := vt.cell (i := 3) (by simp)
  simp only [List.getD_cons_zero, List.getD_cons_succ] at cvt0 cvt1 cvt2 cvt3
  have ltvt := vt.lt
  go_wp2_with fail
  clear cvs0 cvs1 cvs2 cvs3 ltvs cvt0 cvt1 cvt2 cvt3 ltvt
  refine (HM2.out _).mono ?_
  rintro e w13 ⟨rfl, b13⟩
  replace vs := vs.mono b13
  replace vt := vt.mono b13
  replace ht := ht.mono b13
  replace v1 := v1.mono b13
  replace B := below_trans B b13
  clear b13
  go_upto_region 15 with (fail)
  have v2 := Vals.newL w13 w13.heap.size [.int .i64 0, .int .i64 0, .int .i64 0, .int .i64 0] 23 rfl
  have bb := below_alloc w13 (.cells #[.int .i64 0, .int .i64 0, .int .i64 0, .int .i64 0] 23)
  replace vs := vs.mono bb
  replace vt := vt.mono bb
  replace ht := ht.mono bb
  replace v1 := v1.mono bb
  replace B := below_trans B bb
  clear bb
  generalize w13.alloc (.cells #[.int .i64 0, .int .i64 0, .int .i64 0, .int .i64 0] 23) = w14 at *
  go_wp2
  go_ret
  exact ⟨rfl, B⟩

set_option maxRecDepth 100000 in
set_option maxHeartbeats 1000000 in
theorem cents_01 (s t : T4) (w : World) (hS : i64 s.a ∧ i64 s.b ∧ i64 s.c ∧ i64 s.d) (hT : i64 t.a ∧ i64 t.b ∧ i64 t.c ∧ i64 t.d) (ht : Tab w) (h1 : validB s.a s.b s.c s.d = true) (h2 : validB t.a t.b t.c t.d = true) (g1 : -12 ≤ s.a ∧ s.a ≤ 12 ∧ -12 ≤ s.b ∧ s.b ≤ 12 ∧ -12 ≤ s.c ∧ s.c ≤ 12) (g2 : -12 ≤ t.a ∧ t.a ≤ 12 ∧ -12 ≤ t.b ∧ t.b ≤ 12 ∧ -12 ≤ t.c ∧ t.c ≤ 12) (hk : (mulT s ⟨1, 0, 0, 1⟩).2 ≠ 0) (hm : (mulT s t).2 = 0) :
    Calls Tryd.prog 6 #[.agg #[.int .i64 s.a, .int .i64 s.b, .int .i64 s.c, .int .i64 s.d], .agg #[.int .i64 t.a, .int .i64 t.b, .int .i64 t.c, .int .i64 t.d]] w (RetTrue w) := by
  have Vs := fun w : World => rvalid_calls s w hS
  rw [h1] at Vs
  have HVs := Lib.hid Vs
  clear Vs
  have Vt := fun w : World => rvalid_calls t w hT
  rw [h2] at Vt
  have HVt := Lib.hid Vt
  clear Vt
  have Ls := fun w : World => large_no s 12 w (by omega) (by omega) g1
  have HLs := Lib.hid Ls
  clear Ls
  have Lt := fun w : World => large_no t 12 w (by omega) (by omega) g2
  have HLt := Lib.hid Lt
  clear Lt
  obtain ⟨d1, d2⟩ := okT_d h1
  obtain ⟨a1, a2⟩ := cents_small (s := s) (by omega) (by omega) (by omega)
  obtain ⟨b1, b2⟩ := cents_small (s := t) (by omega) (by omega) (by omega)
  have okU : validB 1 0 0 1 = true := by unfold validB gcd4 gcdN; decide
  have C1 := fun w : World => cents_ok s w h1
  have C2 := fun w : World => cents_ok t w h2
  obtain ⟨x, hx⟩ : ∃ x, logI s (centsT s) 1200 = x := ⟨_, rfl⟩
  obtain ⟨y, hy⟩ : ∃ y, logI s (centsT s + 1) 1200 = y := ⟨_, rfl⟩
  have x1 := (log_cents d1 (centsT s)).2 (Int.le_refl _)
  have y1 : ¬ 0 ≤ logI s (centsT s + 1) 1200 := fun h => by have := (log_cents d1 _).1 h; omega
  rw [hx] at x1
  rw [hy] at y1
  have D1 := fun w : World => rlog_calls s (centsT s) 1200 x w h1 (by omega) (by omega) hx
  have D2 := fun w : World => rlog_calls s (centsT s + 1) 1200 y w h1 (by omega) (by omega) hy
  have tx : decide (x < 0) = false := by rw [decide_eq_false_iff_not]; omega
  have ty : decide (0 ≤ y) = false := by rw [decide_eq_false_iff_not]; omega
  have ta : decide (centsT s < -100000) = false := by rw [decide_eq_false_iff_not]; omega
  have tb : decide (100000 < centsT s) = false := by rw [decide_eq_false_iff_not]; omega
  have M1 := fun w : World => mulT_ok s ⟨1, 0, 0, 1⟩ w h1 okU
  have M2 := fun w : World => mulT_ok s t w h1 h2
  have kz : mulT s ⟨1, 0, 0, 1⟩ = (⟨0, 0, 0, 0⟩, 5) := redT_err hk
  rw [kz] at M1
  have C4 := fun w : World => cents_ok (mulT s t).1 w (redT_okT hm)
  obtain ⟨e1, e2⟩ := cents_add h1 h2 hm
  generalize centsT (mulT s t).1 = d at *
  clear hx hy
  generalize centsT s = a at *
  generalize centsT t = b at *
  generalize mulT s t = N at *
  obtain ⟨⟨q1, q2, q3, q4⟩, m⟩ := N
  try dsimp only at *
  subst hm
  have HC1 := Lib.hid C1
  have HC2 := Lib.hid C2
  have HD1 := Lib.hid D1
  have HD2 := Lib.hid D2
  have HM1 := Lib.hid M1
  have HM2 := Lib.hid M2
  have HC4 := Lib.hid C4
  clear C1 C2 D1 D2 M1 M2 C4
  clear okU h1 h2 g1 g2 hS hT d1 d2 x1 y1 hk kz
  have vs := Vals.newL w (w.heap.size) [.int .i64 s.a, .int .i64 s.b, .int .i64 s.c, .int .i64 s.d] 23 rfl
  have bb := below_alloc w (.cells #[.int .i64 s.a, .int .i64 s.b, .int .i64 s.c, .int .i64 s.d] 23)
  have B := bb
  have sz0 := World.size_alloc w (.cells #[.int .i64 s.a, .int .i64 s.b, .int .i64 s.c, .int .i64 s.d] 23)
  have sz := sz0
  clear sz0
  clear bb
  have vt := Vals.newL (w.alloc (.cells #[.int .i64 s.a, .int .i64 s.b, .int .i64 s.c, .int .i64 s.d] 23)) (w.heap.size + 1) [.int .i64 t.a, .int .i64 t.b, .int .i64 t.c, .int .i64 t.d] 23 sz.symm
  have bb := below_alloc (w.alloc (.cells #[.int .i64 s.a, .int .i64 s.b, .int .i64 s.c, .int .i64 s.d] 23)) (.cells #[.int .i64 t.a, .int .i64 t.b, .int .i64 t.c, .int .i64 t.d] 23)
  replace vs := vs.mono bb
  replace B := below_trans B bb
  clear sz
  have bb0 := B
  clear bb
  go_enter Tryd.func6, Tryd.ntmps6
  go_wp2_with fail
  generalize ((w.alloc (.cells #[.int .i64 s.a, .int .i64 s.b, .int .i64 s.c, .int .i64 s.d] 23)).alloc (.cells #[.int .i64 t.a, .int .i64 t.b, .int .i64 t.c, .int .i64 t.d] 23)) = w0 at *
  replace ht := ht.mono bb0
  clear bb0
  refine (HVs.out _).mono ?_
  rintro e w1 ⟨rfl, b1⟩
  replace vs := vs.mono b1
  replace vt := vt.mono b1
  replace ht := ht.mono b1
  replace B := below_trans B b1
  clear b1
  have cvt0 := vt.cell (i := 0) (by simp)
  have cvt1 := vt.cell (i := 1) (by simp)
  have cvt2 := vt.cell (i := 2) (by simp)
  have cvt3 := vt.cell (i := 3) (by simp)
  simp only [List.getD_cons_zero, List.getD_cons_succ] at cvt0 cvt1 cvt2 cvt3
  have ltvt := vt.lt
  go_wp2_with fail
  clear cvt0 cvt1 cvt2 cvt3 ltvt
  refine (HVt.out _).mono ?_
  rintro e w2 ⟨rfl, b2⟩
  replace vs := vs.mono b2
  replace vt := vt.mono b2
  replace ht := ht.mono b2
  replace B := below_trans B b2
  clear b2
  have cvs0 := vs.cell (i := 0) (by simp)
  have cvs1 := vs.cell (i := 1) (by simp)
  have cvs2 := vs.cell (i := 2) (by simp)
  have cvs3 := vs.cell (i := 3) (by simp)
  simp only [List.getD_cons_zero, List.getD_cons_succ] at cvs0 cvs1 cvs2 cvs3
  have ltvs := vs.lt
  go_wp2_with fail
  clear cvs0 cvs1 cvs2 cvs3 ltvs
  refine (HLs.out _).mono ?_
  rintro e w3 ⟨rfl, b3⟩
  replace vs := vs.mono b3
  replace vt := vt.mono b3
  replace ht := ht.mono b3
  replace B := below_trans B b3
  clear b3
  have cvt0 := vt.cell (i := 0) (by simp)
  have cvt1 := vt.cell (i := 1) (by simp)
  have cvt2 := vt.cell (i := 2) (by simp)
  have cvt3 := vt.cell (i := 3) (by simp)
  simp only [List.getD_cons_zero, List.getD_cons_succ] at cvt0 cvt1 cvt2 cvt3
  have ltvt := vt.lt
  go_wp2_with fail
  clear cvt0 cvt1 cvt2 cvt3 ltvt
  refine (HLt.out _).mono ?_
  rintro e w4 ⟨rfl, b4⟩
  replace vs := vs.mono b4
  replace vt := vt.mono b4
  replace ht := ht.mono b4
  replace B := below_trans B b4
  clear b4
  have cvs0 := vs.cell (i := 0) (by simp)
  have cvs1 := vs.cell (i := 1) (by simp)
  have cvs2 := vs.cell (i := 2) (by simp)
  have cvs3 := vs.cell (i := 3) (by simp)
  simp only [List.getD_cons_zero, List.getD_cons_succ] at cvs0 cvs1 cvs2 cvs3
  have ltvs := vs.lt
  go_wp2_with fail
  clear cvs0 cvs1 cvs2 cvs3 ltvs
  refine (HC1.out _).mono ?_
  rintro e w5 ⟨rfl, b5⟩
  replace vs := vs.mono b5
  replace vt := vt.mono b5
  replace ht := ht.mono b5
  replace B := below_trans B b5
  clear b5
  have cvt0 := vt.cell (i := 0) (by simp)
  have cvt1 := vt.cell (i := 1) (by simp)
  have cvt2 := vt.cell (i := 2) (by simp)
  have cvt3 := vt.cell (i := 3) (by simp)
  simp only [List.getD_cons_zero, List.getD_cons_succ] at cvt0 cvt1 cvt2 cvt3
  have ltvt := vt.lt
  go_wp2_with fail
  clear cvt0 cvt1 cvt2 cvt3 ltvt
  refine (HC2.out _).mono ?_
  rintro e w6 ⟨rfl, b6⟩
  replace vs := vs.mono b6
  replace vt := vt.mono b6
  replace ht := ht.mono b6
  replace B := below_trans B b6
  clear b6
  have cvs0 := vs.cell (i := 0) (by simp)
  have cvs1 := vs.cell (i := 1) (by simp)
  have cvs2 := vs.cell (i := 2) (by simp)
  have cvs3 := vs.cell (i := 3) (by simp)
  simp only [List.getD_cons_zero, List.getD_cons_succ] at cvs0 cvs1 cvs2 cvs3
  have ltvs := vs.lt
  go_wp2_with fail
  clear cvs0 cvs1 cvs2 cvs3 ltvs
  refine (HD1.out _).mono ?_
  rintro e w7 ⟨rfl, b7⟩
  replace vs := vs.mono b7
  replace vt := vt.mono b7
  replace ht := ht.mono b7
  replace B := below_trans B b7
  clear b7
  have cvs0 := vs.cell (i := 0) (by simp)
  have cvs1 := vs.cell (i := 1) (by simp)
  have cvs2 := vs.cell (i := 2) (by simp)
  have cvs3 := vs.cell (i := 3) (by simp)
  simp only [List.getD_cons_zero, List.getD_cons_succ] at cvs0 cvs1 cvs2 cvs3
  have ltvs := vs.lt
  go_wp2_with fail
  clear cvs0 cvs1 cvs2 cvs3 ltvs
  refine (HD2.out _).mono ?_
  rintro e w8 ⟨rfl, b8⟩
  replace vs := vs.mono b8
  replace vt := vt.mono b8
  replace ht := ht.mono b8
  replace B := below_trans B b8
  clear b8
  go_wp2_with fail
  refine (lives_calls _ ht).mono ?_
  rintro e w9 ⟨rfl, b9⟩
  replace vs := vs.mono b9
  replace vt := vt.mono b9
  replace ht := ht.mono b9
  replace B := below_trans B b9
  clear b9
  have cvs0 := vs.cell (i := 0) (by simp)
  have cvs1 := vs.cell (i := 1) (by simp)
  have cvs2 := vs.cell (i := 2) (by simp)
  have cvs3 := vs.cell (i := 3) (by simp)
  simp only [List.getD_cons_zero, List.getD_cons_succ] at cvs0 cvs1 cvs2 cvs3
  have ltvs := vs.lt
  go_wp2_with fail
  clear cvs0 cvs1 cvs2 cvs3 ltvs
  refine (HM1.out _).mono ?_
  rintro e w10 ⟨rfl, b10⟩
  replace vs := vs.mono b10
  replace vt := vt.mono b10
  replace ht := ht.mono b10
  replace B := below_trans B b10
  clear b10
  go_upto_region 10 with (fail)
  have v1 := Vals.newL w10 w10.heap.size [.int .i64 0, .int .i64 0, .int .i64 0, .int .i64 0] 23 rfl
  have bb := below_alloc w10 (.cells #[.int .i64 0, .int .i64 0, .int .i64 0, .int .i64 0] 23)
  replace vs := vs.mono bb
  replace vt := vt.mono bb
  replace ht := ht.mono bb
  replace B := below_trans B bb
  clear bb
  generalize w10.alloc (.cells #[.int .i64 0, .int .i64 0, .int .i64 0, .int .i64 0] 23) = w11 at *
  have cvs0 := vs.cell (i := 0) (by simp)
  have cvs1 := vs.cell (i := 1) (by simp)
  have cvs2 := vs.cell (i := 2) (by simp)
  have cvs3 := vs.cell (i := 3) (by simp)
  simp only [List.getD_cons_zero, List.getD_cons_succ] at cvs0 cvs1 cvs2 cvs3
  have ltvs := vs.lt
  have cvt0 := vt.cell (i := 0) (by simp)
  have cvt1 := vt.cell (i := 1) (by simp)
  have cvt2 := vt.cell (i := 2) (by simp)
  have cvt3 := vt.cell (i := 3) (by simp)
  simp only [List.getD_cons_zero, List.getD_cons_succ] at cvt0 cvt1 cvt2 cvt3
  have ltvt := vt.lt
  go_wp2_with fail
  clear cvs0 cvs1 cvs2 cvs3 ltvs cvt0 cvt1 cvt2 cvt3 ltvt
  refine (HM2.out _).mono ?_
  rintro e w12 ⟨rfl, b12⟩
  replace vs := vs.mono b12
  replace vt := vt.mono b12
  replace ht := ht.mono b12
  replace v1 := v1.mono b12
  replace B := below_trans B b12
  clear b12
  go_upto_region 15 with (fail)
  have v2 := Vals.newL w12 w12.heap.size [.int .i64 q1, .int .i64 q2, .int .i64 q3, .int .i64 q4] 23 rfl
  have bb := below_alloc w12 (.cells #[.int .i64 q1, .int .i64 q2, .int .i64 q3, .int .i64 q4] 23)
  replace vs := vs.mono bb
  replace vt := vt.mono bb
  replace ht := ht.mono bb
  replace v1 := v1.mono bb
  replace B := below_trans B bb
  clear bb
  generalize w12.alloc (.cells #[.int .i64 q1, .int .i64 q2, .int .i64 q3, .int .i64 q4] 23) = w13 at *
  have cv20 := v2.cell (i := 0) (by simp)
  have cv21 := v2.cell (i := 1) (by simp)
  have cv22 := v2.cell (i := 2) (by simp)
  have cv23 := v2.cell (i := 3) (by simp)
  simp only [List.getD_cons_zero, List.getD_cons_succ] at cv20 cv21 cv22 cv23
  have ltv2 := v2.lt
  go_wp2_with fail
  clear cv20 cv21 cv22 cv23 ltv2
  refine (HC4.out _).mono ?_
  rintro e w14 ⟨rfl, b14⟩
  replace vs := vs.mono b14
  replace vt := vt.mono b14
  replace ht := ht.mono b14
  replace v1 := v1.mono b14
  replace v2 := v2.mono b14
  replace B := below_trans B b14
  clear b14
  go_wp2
  go_ret
  exact ⟨rfl, B⟩

set_option maxRecDepth 100000 in
set_option maxHeartbeats 1000000 in
theorem cents_00 (s t : T4) (w : World) (hS : i64 s.a ∧ i64 s.b ∧ i64 s.c ∧ i64 s.d) (hT : i64 t.a ∧ i64 t.b ∧ i64 t.c ∧ i64 t.d) (ht : Tab w) (h1 : validB s.a s.b s.c s.d = true) (h2 : validB t.a t.b t.c t.d = true) (g1 : -12 ≤ s.a ∧ s.a ≤ 12 ∧ -12 ≤ s.b ∧ s.b ≤ 12 ∧ -12 ≤ s.c ∧ s.c ≤ 12) (g2 : -12 ≤ t.a ∧ t.a ≤ 12 ∧ -12 ≤ t.b ∧ t.b ≤ 12 ∧ -12 ≤ t.c ∧ t.c ≤ 12) (hk : (mulT s ⟨1, 0, 0, 1⟩).2 ≠ 0) (hm : (mulT s t).2 ≠ 0) :
    Calls Tryd.prog 6 #[.agg #[.int .i64 s.a, .int .i64 s.b, .int .i64 s.c, .int .i64 s.d], .agg #[.int .i64 t.a, .int .i64 t.b, .int .i64 t.c, .int .i64 t.d]] w (RetTrue w) := by
  have Vs := fun w : World => rvalid_calls s w hS
  rw [h1] at Vs
  have HVs := Lib.hid Vs
  clear Vs
  have Vt := fun w : World => rvalid_calls t w hT
  rw [h2] at Vt
  have HVt := Lib.hid Vt
  clear Vt
  have Ls := fun w : World => large_no s 12 w (by omega) (by omega) g1
  have HLs := Lib.hid Ls
  clear Ls
  have Lt := fun w : World => large_no t 12 w (by omega) (by omega) g2
  have HLt := Lib.hid Lt
  clear Lt
  obtain ⟨d1, d2⟩ := okT_d h1
  obtain ⟨a1, a2⟩ := cents_small (s := s) (by omega) (by omega) (by omega)
  obtain ⟨b1, b2⟩ := cents_small (s := t) (by omega) (by omega) (by omega)
  have okU : validB 1 0 0 1 = true := by unfold validB gcd4 gcdN; decide
  have C1 := fun w : World => cents_ok s w h1
  have C2 := fun w : World => cents_ok t w h2
  obtain ⟨x, hx⟩ : ∃ x, logI s (centsT s) 1200 = x := ⟨_, rfl⟩
  obtain ⟨y, hy⟩ : ∃ y, logI s (centsT s + 1) 1200 = y := ⟨_, rfl⟩
  have x1 := (log_cents d1 (centsT s)).2 (Int.le_refl _)
  have y1 : ¬ 0 ≤ logI s (centsT s + 1) 1200 := fun h => by have := (log_cents d1 _).1 h; omega
  rw [hx] at x1
  rw [hy] at y1
  have D1 := fun w : World => rlog_calls s (centsT s) 1200 x w h1 (by omega) (by omega) hx
  have D2 := fun w : World => rlog_calls s (centsT s + 1) 1200 y w h1 (by omega) (by omega) hy
  have tx : decide (x < 0) = false := by rw [decide_eq_false_iff_not]; omega
  have ty : decide (0 ≤ y) = false := by rw [decide_eq_false_iff_not]; omega
  have ta : decide (centsT s < -100000) = false := by rw [decide_eq_false_iff_not]; omega
  have tb : decide (100000 < centsT s) = false := by rw [decide_eq_false_iff_not]; omega
  have M1 := fun w : World => mulT_ok s ⟨1, 0, 0, 1⟩ w h1 okU
  have M2 := fun w : World => mulT_ok s t w h1 h2
  have kz : mulT s ⟨1, 0, 0, 1⟩ = (⟨0, 0, 0, 0⟩, 5) := redT_err hk
  rw [kz] at M1
  have mz : mulT s t = (⟨0, 0, 0, 0⟩, 5) := redT_err hm
  rw [mz] at M2
  clear hx hy
  generalize centsT s = a at *
  generalize centsT t = b at *
  have HC1 := Lib.hid C1
  have HC2 := Lib.hid C2
  have HD1 := Lib.hid D1
  have HD2 := Lib.hid D2
  have HM1 := Lib.hid M1
  have HM2 := Lib.hid M2
  clear C1 C2 D1 D2 M1 M2
  clear okU h1 h2 g1 g2 hS hT d1 d2 x1 y1 hk kz hm mz
  have vs := Vals.newL w (w.heap.size) [.int .i64 s.a, .int .i64 s.b, .int .i64 s.c, .int .i64 s.d] 23 rfl
  have bb := below_alloc w (.cells #[.int .i64 s.a, .int .i64 s.b, .int .i64 s.c, .int .i64 s.d] 23)
  have B := bb
  have sz0 := World.size_alloc w (.cells #[.int .i64 s.a, .int .i64 s.b, .int .i64 s.c, .int .i64 s.d] 23)
  have sz := sz0
  clear sz0
  clear bb
  have vt := Vals.newL (w.alloc (.cells #[.int .i64 s.a, .int .i64 s.b, .int .i64 s.c, .int .i64 s.d] 23)) (w.heap.size + 1) [.int .i64 t.a, .int .i64 t.b, .int .i64 t.c, .int .i64 t.d] 23 sz.symm
  have bb := below_alloc (w.alloc (.cells #[.int .i64 s.a, .int .i64 s.b, .int .i64 s.c, .int .i64 s.d] 23)) (.cells #[.int .i64 t.a, .int .i64 t.b, .int .i64 t.c, .int .i64 t.d] 23)
  replace vs := vs.mono bb
  replace B := below_trans B bb
  clear sz
  have bb0 := B
  clear bb
  go_enter Tryd.func6, Tryd.ntmps6
  go_wp2_with fail
  generalize ((w.alloc (.cells #[.int .i64 s.a, .int .i64 s.b, .int .i64 s.c, .int .i64 s.d] 23)).alloc (.cells #[.int .i64 t.a, .int .i64 t.b, .int .i64 t.c, .int .i64 t.d] 23)) = w0 at *
  replace ht := ht.mono bb0
  clear bb0
  refine (HVs.out _).mono ?_
  rintro e w1 ⟨rfl, b1⟩
  replace vs := vs.mono b1
  replace vt := vt.mono b1
  replace ht := ht.mono b1
  replace B := below_trans B b1
  clear b1
  have cvt0 := vt.cell (i := 0) (by simp)
  have cvt1 := vt.cell (i := 1) (by simp)
  have cvt2 := vt.cell (i := 2) (by simp)
  have cvt3 := vt.cell (i := 3) (by simp)
  simp only [List.getD_cons_zero, List.getD_cons_succ] at cvt0 cvt1 cvt2 cvt3
  have ltvt := vt.lt
  go_wp2_with fail
  clear cvt0 cvt1 cvt2 cvt3 ltvt
  refine (HVt.out _).mono ?_
  rintro e w2 ⟨rfl, b2⟩
  replace vs := vs.mono b2
  replace vt := vt.mono b2
  replace ht := ht.mono b2
  replace B := below_trans B b2
  clear b2
  have cvs0 := vs.cell (i := 0) (by simp)
  have cvs1 := vs.cell (i := 1) (by simp)
  have cvs2 := vs.cell (i := 2) (by simp)
  have cvs3 := vs.cell (i := 3) (by simp)
  simp only [List.getD_cons_zero, List.getD_cons_succ] at cvs0 cvs1 cvs2 cvs3
  have ltvs := vs.lt
  go_wp2_with fail
  clear cvs0 cvs1 cvs2 cvs3 ltvs
  refine (HLs.out _).mono ?_
  rintro e w3 ⟨rfl, b3⟩
  replace vs := vs.mono b3
  replace vt := vt.mono b3
  replace ht := ht.mono b3
  replace B := below_trans B b3
  clear b3
  have cvt0 := vt.cell (i := 0) (by simp)
  have cvt1 := vt.cell (i := 1) (by simp)
  have cvt2 := vt.cell (i := 2) (by simp)
  have cvt3 := vt.cell (i := 3) (by simp)
  simp only [List.getD_cons_zero, List.getD_cons_succ] at cvt0 cvt1 cvt2 cvt3
  have ltvt := vt.lt
  go_wp2_with fail
  clear cvt0 cvt1 cvt2 cvt3 ltvt
  refine (HLt.out _).mono ?_
  rintro e w4 ⟨rfl, b4⟩
  replace vs := vs.mono b4
  replace vt := vt.mono b4
  replace ht := ht.mono b4
  replace B := below_trans B b4
  clear b4
  have cvs0 := vs.cell (i := 0) (by simp)
  have cvs1 := vs.cell (i := 1) (by simp)
  have cvs2 := vs.cell (i := 2) (by simp)
  have cvs3 := vs.cell (i := 3) (by simp)
  simp only [List.getD_cons_zero, List.getD_cons_succ] at cvs0 cvs1 cvs2 cvs3
  have ltvs := vs.lt
  go_wp2_with fail
  clear cvs0 cvs1 cvs2 cvs3 ltvs
  refine (HC1.out _).mono ?_
  rintro e w5 ⟨rfl, b5⟩
  replace vs := vs.mono b5
  replace vt := vt.mono b5
  replace ht := ht.mono b5
  replace B := below_trans B b5
  clear b5
  have cvt0 := vt.cell (i := 0) (by simp)
  have cvt1 := vt.cell (i := 1) (by simp)
  have cvt2 := vt.cell (i := 2) (by simp)
  have cvt3 := vt.cell (i := 3) (by simp)
  simp only [List.getD_cons_zero, List.getD_cons_succ] at cvt0 cvt1 cvt2 cvt3
  have ltvt := vt.lt
  go_wp2_with fail
  clear cvt0 cvt1 cvt2 cvt3 ltvt
  refine (HC2.out _).mono ?_
  rintro e w6 ⟨rfl, b6⟩
  replace vs := vs.mono b6
  replace vt := vt.mono b6
  replace ht := ht.mono b6
  replace B := below_trans B b6
  clear b6
  have cvs0 := vs.cell (i := 0) (by simp)
  have cvs1 := vs.cell (i := 1) (by simp)
  have cvs2 := vs.cell (i := 2) (by simp)
  have cvs3 := vs.cell (i := 3) (by simp)
  simp only [List.getD_cons_zero, List.getD_cons_succ] at cvs0 cvs1 cvs2 cvs3
  have ltvs := vs.lt
  go_wp2_with fail
  clear cvs0 cvs1 cvs2 cvs3 ltvs
  refine (HD1.out _).mono ?_
  rintro e w7 ⟨rfl, b7⟩
  replace vs := vs.mono b7
  replace vt := vt.mono b7
  replace ht := ht.mono b7
  replace B := below_trans B b7
  clear b7
  have cvs0 := vs.cell (i := 0) (by simp)
  have cvs1 := vs.cell (i := 1) (by simp)
  have cvs2 := vs.cell (i := 2) (by simp)
  have cvs3 := vs.cell (i := 3) (by simp)
  simp only [List.getD_cons_zero, List.getD_cons_succ] at cvs0 cvs1 cvs2 cvs3
  have ltvs := vs.lt
  go_wp2_with fail
  clear cvs0 cvs1 cvs2 cvs3 ltvs
  refine (HD2.out _).mono ?_
  rintro e w8 ⟨rfl, b8⟩
  replace vs := vs.mono b8
  replace vt := vt.mono b8
  replace ht := ht.mono b8
  replace B := below_trans B b8
  clear b8
  go_wp2_with fail
  refine (lives_calls _ ht).mono ?_
  rintro e w9 ⟨rfl, b9⟩
  replace vs := vs.mono b9
  replace vt := vt.mono b9
  replace ht := ht.mono b9
  replace B := below_trans B b9
  clear b9
  have cvs0 := vs.cell (i := 0) (by simp)
  have cvs1 := vs.cell (i := 1) (by simp)
  have cvs2 := vs.cell (i := 2) (by simp)
  have cvs3 := vs.cell (i := 3) (by simp)
  simp only [List.getD_cons_zero, List.getD_cons_succ] at cvs0 cvs1 cvs2 cvs3
  have ltvs := vs.lt
  go_wp2_with fail
  clear cvs0 cvs1 cvs2 cvs3 ltvs
  refine (HM1.out _).mono ?_
  rintro e w10 ⟨rfl, b10⟩
  replace vs := vs.mono b10
  replace vt := vt.mono b10
  replace ht := ht.mono b10
  replace B := below_trans B b10
  clear b10
  go_upto_region 10 with (fail)
  have v1 := Vals.newL w10 w10.heap.size [.int .i64 0, .int .i64 0, .int .i64 0, .int .i64 0] 23 rfl
  have bb := below_alloc w10 (.cells #[.int .i64 0, .int .i64 0, .int .i64 0, .int .i64 0] 23)
  replace vs := vs.mono bb
  replace vt := vt.mono bb
  replace ht := ht.mono bb
  replace B := below_trans B bb
  clear bb
  generalize w10.alloc (.cells #[.int .i64 0, .int .i64 0, .int .i64 0, .int .i64 0] 23) = w11 at *
  have cvs0 := vs.cell (i := 0) (by simp)
  have cvs1 := vs.cell (i := 1) (by simp)
  have cvs2 := vs.cell (i := 2) (by simp)
  have cvs3 := vs.cell (i := 3) (by simp)
  simp only [List.getD_cons_zero, List.getD_cons_succ] at cvs0 cvs1 cvs2 cvs3
  have ltvs := vs.lt
  have cvt0 := vt.cell (i := 0) (by simp)
  have cvt1 := vt.cell (i := 1) (by simp)
  have cvt2 := vt.cell (i := 2) (by simp)
  have cvt3 := vt.cell (i := 3) (by simp)
  simp only [List.getD_cons_zero, List.getD_cons_succ] at cvt0 cvt1 cvt2 cvt3
  have ltvt := vt.lt
  go_wp2_with fail
  clear cvs0 cvs1 cvs2 cvs3 ltvs cvt0 cvt1 cvt2 cvt3 ltvt
  refine (HM2.out _).mono ?_
  rintro e w12 ⟨rfl, b12⟩
  replace vs := vs.mono b12
  replace vt := vt.mono b12
  replace ht := ht.mono b12
  replace v1 := v1.mono b12
  replace B := below_trans B b12
  clear b12
  go_upto_region 15 with (fail)
  have v2 := Vals.newL w12 w12.heap.size [.int .i64 0, .int .i64 0, .int .i64 0, .int .i64 0] 23 rfl
  have bb := below_alloc w12 (.cells #[.int .i64 0, .int .i64 0, .int .i64 0, .int .i64 0] 23)
  replace vs := vs.mono bb
  replace vt := vt.mono bb
  replace ht := ht.mono bb
  replace v1 := v1.mono bb
  replace B := below_trans B bb
  clear bb
  generalize w12.alloc (.cells #[.int .i64 0, .int .i64 0, .int .i64 0, .int .i64 0] 23) = w13 at *
  go_wp2
  go_ret
  exact ⟨rfl, B⟩

set_option maxRecDepth 100000 in
set_option maxHeartbeats 1000000 in
theorem walk_cents (s t : T4) (w : World) (hS : i64 s.a ∧ i64 s.b ∧ i64 s.c ∧ i64 s.d) (hT : i64 t.a ∧ i64 t.b ∧ i64 t.c ∧ i64 t.d) (ht : Tab w)  :
    Calls Tryd.prog 6 #[.agg #[.int .i64 s.a, .int .i64 s.b, .int .i64 s.c, .int .i64 s.d], .agg #[.int .i64 t.a, .int .i64 t.b, .int .i64 t.c, .int .i64 t.d]] w (RetTrue w) := by
  cases h1 : validB s.a s.b s.c s.d
  · exact cents_stop0 s t w hS hT ht h1
  cases h2 : validB t.a t.b t.c t.d
  · exact cents_stop1 s t w hS hT ht h1 h2
  by_cases g1 : -12 ≤ s.a ∧ s.a ≤ 12 ∧ -12 ≤ s.b ∧ s.b ≤ 12 ∧ -12 ≤ s.c ∧ s.c ≤ 12
  case neg => exact cents_stop2 s t w hS hT ht h1 h2 g1
  by_cases g2 : -12 ≤ t.a ∧ t.a ≤ 12 ∧ -12 ≤ t.b ∧ t.b ≤ 12 ∧ -12 ≤ t.c ∧ t.c ≤ 12
  case neg => exact cents_stop3 s t w hS hT ht h1 h2 g1 g2
  by_cases hk : (mulT s ⟨1, 0, 0, 1⟩).2 = 0
  · by_cases hm : (mulT s t).2 = 0
    · exact cents_11 s t w hS hT ht h1 h2 g1 g2 hk hm
    · exact cents_10 s t w hS hT ht h1 h2 g1 g2 hk hm
  · by_cases hm : (mulT s t).2 = 0
    · exact cents_01 s t w hS hT ht h1 h2 g1 g2 hk hm
    · exact cents_00 s t w hS hT ht h1 h2 g1 g2 hk hm

end Go.Proofs
