/- The walk of ToneGroup: whatever comes in, it returns true and changes nothing that was there. -/
import Derived.Test.YtgdgdaofmjnepaaDoorTRef2
import Derived.Test.YtgdgdaofmjnepaaDoorTone8
open Go.RowKit Go.Deep
namespace Go.Proofs
set_option linter.unusedVariables false

set_option maxRecDepth 100000 in
set_option maxHeartbeats 1000000 in
theorem group_bad0 (s t u : T4) (w : World) (hS : i64 s.a ∧ i64 s.b ∧ i64 s.c ∧ i64 s.d) (hT : i64 t.a ∧ i64 t.b ∧ i64 t.c ∧ i64 t.d) (hU : i64 u.a ∧ i64 u.b ∧ i64 u.c ∧ i64 u.d) (ht : Tab w) (h1 : validB s.a s.b s.c s.d = false) :
    Calls Tryd.prog 8 #[.agg #[.int .i64 s.a, .int .i64 s.b, .int .i64 s.c, .int .i64 s.d], .agg #[.int .i64 t.a, .int .i64 t.b, .int .i64 t.c, .int .i64 t.d], .agg #[.int .i64 u.a, .int .i64 u.b, .int .i64 u.c, .int .i64 u.d]] w (RetTrue w) := by
  have Vs := fun w : World => rvalid_calls s w hS
  rw [h1] at Vs
  have HVs := Lib.hid Vs
  clear Vs
  clear hS hT hU h1
  have vs := Vals.newL w (w.heap.size) [.int .i64 s.a, .int .i64 s.b, .int .i64 s.c, .int .i64 s.d] 23 rfl
  have bb := below_alloc w (.cells #[.int .i64 s.a, .int .i64 s.b, .int .i64 s.c, .int .i64 s.d] 23)
  have B := bb
  have sz0 := World.size_alloc w (.cells #[.int .i64 s.a, .int .i64 s.b, .int .i64 s.c, .int .i64 s.d] 23)
  have sz := sz0
  clear sz0
  clear bb
  have vt := Vals.newL (w.alloc (.cells #[.int .i64 s.a, .int .i64 s.b, .int .i64 s.c, .int .i64 s.d] 23)) (w.heap.size + 1) [.int .i64 t.a, .int .i64 t.b, .int .i64 t.c, .int .i64 t.d] 23 sz.symm
  have bb := below_alloc (w.alloc (.cells #[.int .i64 s.a, .int .i64 s.b, .int .i64 s.c, .int .i64 s.d] 23)) (.cells #[.int .i64 t.a, .int .i64 t.b, .int .i64 t.c, .int .i64 t.d] 23)
  replace vs := vs.mono bb
  replace B := below_trans B bb
  clear bb
  have sz1 := World.size_alloc (w.alloc (.cells #[.int .i64 s.a, .int .i64 s.b, .int .i64 s.c, .int .i64 s.d] 23)) (.cells #[.int .i64 t.a, .int .i64 t.b, .int .i64 t.c, .int .i64 t.d] 23)
  rw [sz] at sz1
  clear sz
  have sz := sz1
  clear sz1
  have vu := Vals.newL ((w.alloc (.cells #[.int .i64 s.a, .int .i64 s.b, .int .i64 s.c, .int .i64 s.d] 23)).alloc (.cells #[.int .i64 t.a, .int .i64 t.b, .int .i64 t.c, .int .i64 t.d] 23)) (w.heap.size + 1 + 1) [.int .i64 u.a, .int .i64 u.b, .int .i64 u.c, .int .i64 u.d] 23 sz.symm
  have bb := below_alloc ((w.alloc (.cells #[.int .i64 s.a, .int .i64 s.b, .int .i64 s.c, .int .i64 s.d] 23)).alloc (.cells #[.int .i64 t.a, .int .i64 t.b, .int .i64 t.c, .int .i64 t.d] 23)) (.cells #[.int .i64 u.a, .int .i64 u.b, .int .i64 u.c, .int .i64 u.d] 23)
  replace vs := vs.mono bb
  replace vt := vt.mono bb
  replace B := below_trans B bb
  clear sz
  have bb0 := B
  clear bb
  go_enter Tryd.func8, Tryd.ntmps8
  go_wp2_with fail
  generalize (((w.alloc (.cells #[.int .i64 s.a, .int .i64 s.b, .int .i64 s.c, .int .i64 s.d] 23)).alloc (.cells #[.int .i64 t.a, .int .i64 t.b, .int .i64 t.c, .int .i64 t.d] 23)).alloc (.cells #[.int .i64 u.a, .int .i64 u.b, .int .i64 u.c, .int .i64 u.d] 23)) = w0 at *
  replace ht := ht.mono bb0
  clear bb0
  refine (HVs.out _).mono ?_
  rintro e w1 ⟨rfl, b1⟩
  replace vs := vs.mono b1
  replace vt := vt.mono b1
  replace vu := vu.mono b1
  replace ht := ht.mono b1
  replace B := below_trans B b1
  clear b1
  go_wp2_with fail
  refine (lives_calls _ ht).mono ?_
  rintro e w2 ⟨rfl, b2⟩
  replace vs := vs.mono b2
  replace vt := vt.mono b2
  replace vu := vu.mono b2
  replace ht := ht.mono b2
  replace B := below_trans B b2
  clear b2
  go_wp2
  go_ret
  exact ⟨rfl, B⟩

set_option maxRecDepth 100000 in
set_option maxHeartbeats 1000000 in
theorem group_bad1 (s t u : T4) (w : World) (hS : i64 s.a ∧ i64 s.b ∧ i64 s.c ∧ i64 s.d) (hT : i64 t.a ∧ i64 t.b ∧ i64 t.c ∧ i64 t.d) (hU : i64 u.a ∧ i64 u.b ∧ i64 u.c ∧ i64 u.d) (ht : Tab w) (h1 : validB s.a s.b s.c s.d = true) (h2 : validB t.a t.b t.c t.d = false) :
    Calls Tryd.prog 8 #[.agg #[.int .i64 s.a, .int .i64 s.b, .int .i64 s.c, .int .i64 s.d], .agg #[.int .i64 t.a, .int .i64 t.b, .int .i64 t.c, .int .i64 t.d], .agg #[.int .i64 u.a, .int .i64 u.b, .int .i64 u.c, .int .i64 u.d]] w (RetTrue w) := by
  have Vs := fun w : World => rvalid_calls s w hS
  rw [h1] at Vs
  have HVs := Lib.hid Vs
  clear Vs
  have Vt := fun w : World => rvalid_calls t w hT
  rw [h2] at Vt
  have HVt := Lib.hid Vt
  clear Vt
  clear hS hT hU h1 h2
  have vs := Vals.newL w (w.heap.size) [.int .i64 s.a, .int .i64 s.b, .int .i64 s.c, .int .i64 s.d] 23 rfl
  have bb := below_alloc w (.cells #[.int .i64 s.a, .int .i64 s.b, .int .i64 s.c, .int .i64 s.d] 23)
  have B := bb
  have sz0 := World.size_alloc w (.cells #[.int .i64 s.a, .int .i64 s.b, .int .i64 s.c, .int .i64 s.d] 23)
  have sz := sz0
  clear sz0
  clear bb
  have vt := Vals.newL (w.alloc (.cells #[.int .i64 s.a, .int .i64 s.b, .int .i64 s.c, .int .i64 s.d] 23)) (w.heap.size + 1) [.int .i64 t.a, .int .i64 t.b, .int .i64 t.c, .int .i64 t.d] 23 sz.symm
  have bb := below_alloc (w.alloc (.cells #[.int .i64 s.a, .int .i64 s.b, .int .i64 s.c, .int .i64 s.d] 23)) (.cells #[.int .i64 t.a, .int .i64 t.b, .int .i64 t.c, .int .i64 t.d] 23)
  replace vs := vs.mono bb
  replace B := below_trans B bb
  clear bb
  have sz1 := World.size_alloc (w.alloc (.cells #[.int .i64 s.a, .int .i64 s.b, .int .i64 s.c, .int .i64 s.d] 23)) (.cells #[.int .i64 t.a, .int .i64 t.b, .int .i64 t.c, .int .i64 t.d] 23)
  rw [sz] at sz1
  clear sz
  have sz := sz1
  clear sz1
  have vu := Vals.newL ((w.alloc (.cells #[.int .i64 s.a, .int .i64 s.b, .int .i64 s.c, .int .i64 s.d] 23)).alloc (.cells #[.int .i64 t.a, .int .i64 t.b, .int .i64 t.c, .int .i64 t.d] 23)) (w.heap.size + 1 + 1) [.int .i64 u.a, .int .i64 u.b, .int .i64 u.c, .int .i64 u.d] 23 sz.symm
  have bb := below_alloc ((w.alloc (.cells #[.int .i64 s.a, .int .i64 s.b, .int .i64 s.c, .int .i64 s.d] 23)).alloc (.cells #[.int .i64 t.a, .int .i64 t.b, .int .i64 t.c, .int .i64 t.d] 23)) (.cells #[.int .i64 u.a, .int .i64 u.b, .int .i64 u.c, .int .i64 u.d] 23)
  replace vs := vs.mono bb
  replace vt := vt.mono bb
  replace B := below_trans B bb
  clear sz
  have bb0 := B
  clear bb
  go_enter Tryd.func8, Tryd.ntmps8
  go_wp2_with fail
  generalize (((w.alloc (.cells #[.int .i64 s.a, .int .i64 s.b, .int .i64 s.c, .int .i64 s.d] 23)).alloc (.cells #[.int .i64 t.a, .int .i64 t.b, .int .i64 t.c, .int .i64 t.d] 23)).alloc (.cells #[.int .i64 u.a, .int .i64 u.b, .int .i64 u.c, .int .i64 u.d] 23)) = w0 at *
  replace ht := ht.mono bb0
  clear bb0
  refine (HVs.out _).mono ?_
  rintro e w1 ⟨rfl, b1⟩
  replace vs := vs.mono b1
  replace vt := vt.mono b1
  replace vu := vu.mono b1
  replace ht := ht.mono b1
  replace B := below_trans B b1
  clear b1
  have cvt0 := vt.cell (i := 0) (by simp)
  have cvt1 := vt.cell (i := 1) (by simp)
  have cvt2 := vt.cell (i := 2) (by simp)
  have cvt3 := vt.cell (i := 3) (by simp)
  simp only [List.getD_cons_zero, List.getD_cons_succ] at cvt0 cvt1 cvt2 cvt3
  have ltvt := vt.lt
  go_wp2_with fail
  clear cvt0 cvt1 cvt2 cvt3 ltvt
  refine (HVt.out _).mono ?_
  rintro e w2 ⟨rfl, b2⟩
  replace vs := vs.mono b2
  replace vt := vt.mono b2
  replace vu := vu.mono b2
  replace ht := ht.mono b2
  replace B := below_trans B b2
  clear b2
  go_wp2_with fail
  refine (lives_calls _ ht).mono ?_
  rintro e w3 ⟨rfl, b3⟩
  replace vs := vs.mono b3
  replace vt := vt.mono b3
  replace vu := vu.mono b3
  replace ht := ht.mono b3
  replace B := below_trans B b3
  clear b3
  go_wp2
  go_ret
  exact ⟨rfl, B⟩

set_option maxRecDepth 100000 in
set_option maxHeartbeats 1000000 in
theorem group_bad2 (s t u : T4) (w : World) (hS : i64 s.a ∧ i64 s.b ∧ i64 s.c ∧ i64 s.d) (hT : i64 t.a ∧ i64 t.b ∧ i64 t.c ∧ i64 t.d) (hU : i64 u.a ∧ i64 u.b ∧ i64 u.c ∧ i64 u.d) (ht : Tab w) (h1 : validB s.a s.b s.c s.d = true) (h2 : validB t.a t.b t.c t.d = true) (h3 : validB u.a u.b u.c u.d = false) :
    Calls Tryd.prog 8 #[.agg #[.int .i64 s.a, .int .i64 s.b, .int .i64 s.c, .int .i64 s.d], .agg #[.int .i64 t.a, .int .i64 t.b, .int .i64 t.c, .int .i64 t.d], .agg #[.int .i64 u.a, .int .i64 u.b, .int .i64 u.c, .int .i64 u.d]] w (RetTrue w) := by
  have Vs := fun w : World => rvalid_calls s w hS
  rw [h1] at Vs
  have HVs := Lib.hid Vs
  clear Vs
  have Vt := fun w : World => rvalid_calls t w hT
  rw [h2] at Vt
  have HVt := Lib.hid Vt
  clear Vt
  have Vu := fun w : World => rvalid_calls u w hU
  rw [h3] at Vu
  have HVu := Lib.hid Vu
  clear Vu
  clear hS hT hU h1 h2 h3
  have vs := Vals.newL w (w.heap.size) [.int .i64 s.a, .int .i64 s.b, .int .i64 s.c, .int .i64 s.d] 23 rfl
  have bb := below_alloc w (.cells #[.int .i64 s.a, .int .i64 s.b, .int .i64 s.c, .int .i64 s.d] 23)
  have B := bb
  have sz0 := World.size_alloc w (.cells #[.int .i64 s.a, .int .i64 s.b, .int .i64 s.c, .int .i64 s.d] 23)
  have sz := sz0
  clear sz0
  clear bb
  have vt := Vals.newL (w.alloc (.cells #[.int .i64 s.a, .int .i64 s.b, .int .i64 s.c, .int .i64 s.d] 23)) (w.heap.size + 1) [.int .i64 t.a, .int .i64 t.b, .int .i64 t.c, .int .i64 t.d] 23 sz.symm
  have bb := below_alloc (w.alloc (.cells #[.int .i64 s.a, .int .i64 s.b, .int .i64 s.c, .int .i64 s.d] 23)) (.cells #[.int .i64 t.a, .int .i64 t.b, .int .i64 t.c, .int .i64 t.d] 23)
  replace vs := vs.mono bb
  replace B := below_trans B bb
  clear bb
  have sz1 := World.size_alloc (w.alloc (.cells #[.int .i64 s.a, .int .i64 s.b, .int .i64 s.c, .int .i64 s.d] 23)) (.cells #[.int .i64 t.a, .int .i64 t.b, .int .i64 t.c, .int .i64 t.d] 23)
  rw [sz] at sz1
  clear sz
  have sz := sz1
  clear sz1
  have vu := Vals.newL ((w.alloc (.cells #[.int .i64 s.a, .int .i64 s.b, .int .i64 s.c, .int .i64 s.d] 23)).alloc (.cells #[.int .i64 t.a, .int .i64 t.b, .int .i64 t.c, .int .i64 t.d] 23)) (w.heap.size + 1 + 1) [.int .i64 u.a, .int .i64 u.b, .int .i64 u.c, .int .i64 u.d] 23 sz.symm
  have bb := below_alloc ((w.alloc (.cells #[.int .i64 s.a, .int .i64 s.b, .int .i64 s.c, .int .i64 s.d] 23)).alloc (.cells #[.int .i64 t.a, .int .i64 t.b, .int .i64 t.c, .int .i64 t.d] 23)) (.cells #[.int .i64 u.a, .int .i64 u.b, .int .i64 u.c, .int .i64 u.d] 23)
  replace vs := vs.mono bb
  replace vt := vt.mono bb
  replace B := below_trans B bb
  clear sz
  have bb0 := B
  clear bb
  go_enter Tryd.func8, Tryd.ntmps8
  go_wp2_with fail
  generalize (((w.alloc (.cells #[.int .i64 s.a, .int .i64 s.b, .int .i64 s.c, .int .i64 s.d] 23)).alloc (.cells #[.int .i64 t.a, .int .i64 t.b, .int .i64 t.c, .int .i64 t.d] 23)).alloc (.cells #[.int .i64 u.a, .int .i64 u.b, .int .i64 u.c, .int .i64 u.d] 23)) = w0 at *
  replace ht := ht.mono bb0
  clear bb0
  refine (HVs.out _).mono ?_
  rintro e w1 ⟨rfl, b1⟩
  replace vs := vs.mono b1
  replace vt := vt.mono b1
  replace vu := vu.mono b1
  replace ht := ht.mono b1
  replace B := below_trans B b1
  clear b1
  have cvt0 := vt.cell (i := 0) (by simp)
  have cvt1 := vt.cell (i := 1) (by simp)
  have cvt2 := vt.cell (i := 2) (by simp)
  have cvt3 := vt.cell (i := 3) (by simp)
  simp only [List.getD_cons_zero, List.getD_cons_succ] at cvt0 cvt1 cvt2 cvt3
  have ltvt := vt.lt
  go_wp2_with fail
  clear cvt0 cvt1 cvt2 cvt3 ltvt
  refine (HVt.out _).mono ?_
  rintro e w2 ⟨rfl, b2⟩
  replace vs := vs.mono b2
  replace vt := vt.mono b2
  replace vu := vu.mono b2
  replace ht := ht.mono b2
  replace B := below_trans B b2
  clear b2
  have cvu0 := vu.cell (i := 0) (by simp)
  have cvu1 := vu.cell (i := 1) (by simp)
  have cvu2 := vu.cell (i := 2) (by simp)
  have cvu3 := vu.cell (i := 3) (by simp)
  simp only [List.getD_cons_zero, List.getD_cons_succ] at cvu0 cvu1 cvu2 cvu3
  have ltvu := vu.lt
  go_wp2_with fail
  clear cvu0 cvu1 cvu2 cvu3 ltvu
  refine (HVu.out _).mono ?_
  rintro e w3 ⟨rfl, b3⟩
  replace vs := vs.mono b3
  replace vt := vt.mono b3
  replace vu := vu.mono b3
  replace ht := ht.mono b3
  replace B := below_trans B b3
  clear b3
  go_wp2_with fail
  refine (lives_calls _ ht).mono ?_
  rintro e w4 ⟨rfl, b4⟩
  replace vs := vs.mono b4
  replace vt := vt.mono b4
  replace vu := vu.mono b4
  replace ht := ht.mono b4
  replace B := below_trans B b4
  clear b4
  go_wp2
  go_ret
  exact ⟨rfl, B⟩

set_option maxRecDepth 100000 in
set_option maxHeartbeats 1000000 in
theorem group_err (s t u : T4) (w : World) (hS : i64 s.a ∧ i64 s.b ∧ i64 s.c ∧ i64 s.d) (hT : i64 t.a ∧ i64 t.b ∧ i64 t.c ∧ i64 t.d) (hU : i64 u.a ∧ i64 u.b ∧ i64 u.c ∧ i64 u.d) (ht : Tab w) (h1 : validB s.a s.b s.c s.d = true) (h2 : validB t.a t.b t.c t.d = true) (h3 : validB u.a u.b u.c u.d = true) (hn : ¬ ((mulT s t).2 = 0 ∧ (mulT t u).2 = 0)) :
    Calls Tryd.prog 8 #[.agg #[.int .i64 s.a, .int .i64 s.b, .int .i64 s.c, .int .i64 s.d], .agg #[.int .i64 t.a, .int .i64 t.b, .int .i64 t.c, .int .i64 t.d], .agg #[.int .i64 u.a, .int .i64 u.b, .int .i64 u.c, .int .i64 u.d]] w (RetTrue w) := by
  have Vs := fun w : World => rvalid_calls s w hS
  rw [h1] at Vs
  have HVs := Lib.hid Vs
  clear Vs
  have Vt := fun w : World => rvalid_calls t w hT
  rw [h2] at Vt
  have HVt := Lib.hid Vt
  clear Vt
  have Vu := fun w : World => rvalid_calls u w hU
  rw [h3] at Vu
  have HVu := Lib.hid Vu
  clear Vu
  have R1 := fun w : World => mulT_ok s t w h1 h2
  have R2 := fun w : World => mulT_ok t s w h2 h1
  simp only [mulT_comm t s] at R2
  have R3 := fun w : World => powerT_ok s 1 1 w h1 (by unfold i64; omega) (by unfold i64; omega) (by omega)
  rw [powT_one h1] at R3
  have R4 := fun w : World => mulT_ok t u w h2 h3
  have code1 := redT_code (s.a * t.d + t.a * s.d) (s.b * t.d + t.b * s.d) (s.c * t.d + t.c * s.d) (s.d * t.d)
  have code2 := redT_code (t.a * u.d + u.a * t.d) (t.b * u.d + u.b * t.d) (t.c * u.d + u.c * t.d) (t.d * u.d)
  change (mulT s t).2 = 0 ∨ (mulT s t).2 = 5 at code1
  change (mulT t u).2 = 0 ∨ (mulT t u).2 = 5 at code2
  have kk : ((mulT s t).2 != 0) = true ∨ ((mulT s t).2 != 0) = false ∧ ((mulT t u).2 != 0) = true := by
    simp only [bne_iff_ne, bne_eq_false_iff_eq]
    omega
  clear code1 code2 hn
  generalize mulT s t = M at *
  generalize mulT t u = N at *
  obtain ⟨⟨p1, p2, p3, p4⟩, k⟩ := M
  obtain ⟨⟨q1, q2, q3, q4⟩, m⟩ := N
  dsimp only at *
  have H1 := Lib.hid R1
  have H2 := Lib.hid R2
  have H3 := Lib.hid R3
  have H4 := Lib.hid R4
  clear R1 R2 R3 R4 h1 h2 h3 hS hT hU
  rcases kk with k1 | ⟨k1, k2⟩
  all_goals
    have vs := Vals.newL w (w.heap.size) [.int .i64 s.a, .int .i64 s.b, .int .i64 s.c, .int .i64 s.d] 23 rfl
    have bb := below_alloc w (.cells #[.int .i64 s.a, .int .i64 s.b, .int .i64 s.c, .int .i64 s.d] 23)
    have B := bb
    have sz0 := World.size_alloc w (.cells #[.int .i64 s.a, .int .i64 s.b, .int .i64 s.c, .int .i64 s.d] 23)
    have sz := sz0
    clear sz0
    clear bb
    have vt := Vals.newL (w.alloc (.cells #[.int .i64 s.a, .int .i64 s.b, .int .i64 s.c, .int .i64 s.d] 23)) (w.heap.size + 1) [.int .i64 t.a, .int .i64 t.b, .int .i64 t.c, .int .i64 t.d] 23 sz.symm
    have bb := below_alloc (w.alloc (.cells #[.int .i64 s.a, .int .i64 s.b, .int .i64 s.c, .int .i64 s.d] 23)) (.cells #[.int .i64 t.a, .int .i64 t.b, .int .i64 t.c, .int .i64 t.d] 23)
    replace vs := vs.mono bb
    replace B := below_trans B bb
    clear bb
    have sz1 := World.size_alloc (w.alloc (.cells #[.int .i64 s.a, .int .i64 s.b, .int .i64 s.c, .int .i64 s.d] 23)) (.cells #[.int .i64 t.a, .int .i64 t.b, .int .i64 t.c, .int .i64 t.d] 23)
    rw [sz] at sz1
    clear sz
    have sz := sz1
    clear sz1
    have vu := Vals.newL ((w.alloc (.cells #[.int .i64 s.a, .int .i64 s.b, .int .i64 s.c, .int .i64 s.d] 23)).alloc (.cells #[.int .i64 t.a, .int .i64 t.b, .int .i64 t.c, .int .i64 t.d] 23)) (w.heap.size + 1 + 1) [.int .i64 u.a, .int .i64 u.b, .int .i64 u.c, .int .i64 u.d] 23 sz.symm
    have bb := below_alloc ((w.alloc (.cells #[.int .i64 s.a, .int .i64 s.b, .int .i64 s.c, .int .i64 s.d] 23)).alloc (.cells #[.int .i64 t.a, .int .i64 t.b, .int .i64 t.c, .int .i64 t.d] 23)) (.cells #[.int .i64 u.a, .int .i64 u.b, .int .i64 u.c, .int .i64 u.d] 23)
    replace vs := vs.mono bb
    replace vt := vt.mono bb
    replace B := below_trans B bb
    clear sz
    have bb0 := B
    clear bb
    go_enter Tryd.func8, Tryd.ntmps8
    go_wp2_with fail
    generalize (((w.alloc (.cells #[.int .i64 s.a, .int .i64 s.b, .int .i64 s.c, .int .i64 s.d] 23)).alloc (.cells #[.int .i64 t.a, .int .i64 t.b, .int .i64 t.c, .int .i64 t.d] 23)).alloc (.cells #[.int .i64 u.a, .int .i64 u.b, .int .i64 u.c, .int .i64 u.d] 23)) = w0 at *
    replace ht := ht.mono bb0
    clear bb0
    refine (HVs.out _).mono ?_
    rintro e w1 ⟨rfl, b1⟩
    replace vs := vs.mono b1
    replace vt := vt.mono b1
    replace vu := vu.mono b1
    replace ht := ht.mono b1
    replace B := below_trans B b1
    clear b1
    have cvt0 := vt.cell (i := 0) (by simp)
    have cvt1 := vt.cell (i := 1) (by simp)
    have cvt2 := vt.cell (i := 2) (by simp)
    have cvt3 := vt.cell (i := 3) (by simp)
    simp only [List.getD_cons_zero, List.getD_cons_succ] at cvt0 cvt1 cvt2 cvt3
    have ltvt := vt.lt
    go_wp2_with fail
    clear cvt0 cvt1 cvt2 cvt3 ltvt
    refine (HVt.out _).mono ?_
    rintro e w2 ⟨rfl, b2⟩
    replace vs := vs.mono b2
    replace vt := vt.mono b2
    replace vu := vu.mono b2
    replace ht := ht.mono b2
    replace B := below_trans B b2
    clear b2
    have cvu0 := vu.cell (i := 0) (by simp)
    have cvu1 := vu.cell (i := 1) (by simp)
    have cvu2 := vu.cell (i := 2) (by simp)
    have cvu3 := vu.cell (i := 3) (by simp)
    simp only [List.getD_cons_zero, List.getD_cons_succ] at cvu0 cvu1 cvu2 cvu3
    have ltvu := vu.lt
    go_wp2_with fail
    clear cvu0 cvu1 cvu2 cvu3 ltvu
    refine (HVu.out _).mono ?_
    rintro e w3 ⟨rfl, b3⟩
    replace vs := vs.mono b3
    replace vt := vt.mono b3
    replace vu := vu.mono b3
    replace ht := ht.mono b3
    replace B := below_trans B b3
    clear b3
    have cvs0 := vs.cell (i := 0) (by simp)
    have cvs1 := vs.cell (i := 1) (by simp)
    have cvs2 := vs.cell (i := 2) (by simp)
    have cvs3 := vs.cell (i := 3) (by simp)
    simp only [List.getD_cons_zero, List.getD_cons_succ] at cvs0 cvs1 cvs2 cvs3
    have ltvs := vs.lt
    have cvt0 := vt.cell (i := 0) (by simp)
    have cvt1 := vt.cell (i := 1) (by simp)
    have cvt2 := vt.cell (i := 2) (by simp)
    have cvt3 := vt.cell (i := 3) (by simp)
    simp only [List.getD_cons_zero, List.getD_cons_succ] at cvt0 cvt1 cvt2 cvt3
    have ltvt := vt.lt
    go_wp2_with fail
    clear cvs0 cvs1 cvs2 cvs3 ltvs cvt0 cvt1 cvt2 cvt3 ltvt
    refine (H1.out _).mono ?_
    rintro e w4 ⟨rfl, b4⟩
    replace vs := vs.mono b4
    replace vt := vt.mono b4
    replace vu := vu.mono b4
    replace ht := ht.mono b4
    replace B := below_trans B b4
    clear b4
    have cvs0 := vs.cell (i := 0) (by simp)
    have cvs1 := vs.cell (i := 1) (by simp)
    have cvs2 := vs.cell (i := 2) (by simp)
    have cvs3 := vs.cell (i := 3) (by simp)
    simp only [List.getD_cons_zero, List.getD_cons_succ] at cvs0 cvs1 cvs2 cvs3
    have ltvs := vs.lt
    have cvt0 := vt.cell (i := 0) (by simp)
    have cvt1 := vt.cell (i := 1) (by simp)
    have cvt2 := vt.cell (i := 2) (by simp)
    have cvt3 := vt.cell (i := 3) (by simp)
    simp only [List.getD_cons_zero, List.getD_cons_succ] at cvt0 cvt1 cvt2 cvt3
    have ltvt := vt.lt
    go_wp2_with fail
    clear cvs0 cvs1 cvs2 cvs3 ltvs cvt0 cvt1 cvt2 cvt3 ltvt
    have v1 := Vals.newL w4 w4.heap.size [.int .i64 p1, .int .i64 p2, .int .i64 p3, .int .i64 p4] 23 rfl
    have bb := below_alloc w4 (.cells #[.int .i64 p1, .int .i64 p2, .int .i64 p3, .int .i64 p4] 23)
    replace vs := vs.mono bb
    replace vt := vt.mono bb
    replace vu := vu.mono bb
    replace ht := ht.mono bb
    replace B := below_trans B bb
    clear bb
    generalize w4.alloc (.cells #[.int .i64 p1, .int .i64 p2, .int .i64 p3, .int .i64 p4] 23) = w5 at *
    refine (H2.out _).mono ?_
    rintro e w6 ⟨rfl, b6⟩
    replace vs := vs.mono b6
    replace vt := vt.mono b6
    replace vu := vu.mono b6
    replace ht := ht.mono b6
    replace v1 := v1.mono b6
    replace B := below_trans B b6
    clear b6
    have cv10 := v1.cell (i := 0) (by simp)
    have cv11 := v1.cell (i := 1) (by simp)
    have cv12 := v1.cell (i := 2) (by simp)
    have cv13 := v1.cell (i := 3) (by simp)
    simp only [List.getD_cons_zero, List.getD_cons_succ] at cv10 cv11 cv12 cv13
    have ltv1 := v1.lt
    go_wp2_with fail
    clear cv10 cv11 cv12 cv13 ltv1
    have v2 := Vals.newL w6 w6.heap.size [.int .i64 p1, .int .i64 p2, .int .i64 p3, .int .i64 p4] 23 rfl
    have bb := below_alloc w6 (.cells #[.int .i64 p1, .int .i64 p2, .int .i64 p3, .int .i64 p4] 23)
    replace vs := vs.mono bb
    replace vt := vt.mono bb
    replace vu := vu.mono bb
    replace ht := ht.mono bb
    replace v1 := v1.mono bb
    replace B := below_trans B bb
    clear bb
    generalize w6.alloc (.cells #[.int .i64 p1, .int .i64 p2, .int .i64 p3, .int .i64 p4] 23) = w7 at *
    refine (lives_calls _ ht).mono ?_
    rintro e w8 ⟨rfl, b8⟩
    replace vs := vs.mono b8
    replace vt := vt.mono b8
    replace vu := vu.mono b8
    replace ht := ht.mono b8
    replace v1 := v1.mono b8
    replace v2 := v2.mono b8
    replace B := below_trans B b8
    clear b8
    have cvs0 := vs.cell (i := 0) (by simp)
    have cvs1 := vs.cell (i := 1) (by simp)
    have cvs2 := vs.cell (i := 2) (by simp)
    have cvs3 := vs.cell (i := 3) (by simp)
    simp only [List.getD_cons_zero, List.getD_cons_succ] at cvs0 cvs1 cvs2 cvs3
    have ltvs := vs.lt
    go_wp2_with fail
    clear cvs0 cvs1 cvs2 cvs3 ltvs
    refine (H3.out _).mono ?_
    rintro e w9 ⟨rfl, b9⟩
    replace vs := vs.mono b9
    replace vt := vt.mono b9
    replace vu := vu.mono b9
    replace ht := ht.mono b9
    replace v1 := v1.mono b9
    replace v2 := v2.mono b9
    replace B := below_trans B b9
    clear b9
    have cvs0 := vs.cell (i := 0) (by simp)
    have cvs1 := vs.cell (i := 1) (by simp)
    have cvs2 := vs.cell (i := 2) (by simp)
    have cvs3 := vs.cell (i := 3) (by simp)
    simp only [List.getD_cons_zero, List.getD_cons_succ] at cvs0 cvs1 cvs2 cvs3
    have ltvs := vs.lt
    have cvt0 := vt.cell (i := 0) (by simp)
    have cvt1 := vt.cell (i := 1) (by simp)
    have cvt2 := vt.cell (i := 2) (by simp)
    have cvt3 := vt.cell (i := 3) (by simp)
    simp only [List.getD_cons_zero, List.getD_cons_succ] at cvt0 cvt1 cvt2 cvt3
    have ltvt := vt.lt
    have cvu0 := vu.cell (i := 0) (by simp)
    have cvu1 := vu.cell (i := 1) (by simp)
    have cvu2 := vu.cell (i := 2) (by simp)
    have cvu3 := vu.cell (i := 3) (by simp)
    simp only [List.getD_cons_zero, List.getD_cons_succ] at cvu0 cvu1 cvu2 cvu3
    have ltvu := vu.lt
    go_wp2_with fail
    clear cvs0 cvs1 cvs2 cvs3 ltvs cvt0 cvt1 cvt2 cvt3 ltvt cvu0 cvu1 cvu2 cvu3 ltvu
    have v3 := Vals.newL w9 w9.heap.size [.int .i64 s.a, .int .i64 s.b, .int .i64 s.c, .int .i64 s.d] 23 rfl
    have bb := below_alloc w9 (.cells #[.int .i64 s.a, .int .i64 s.b, .int .i64 s.c, .int .i64 s.d] 23)
    replace vs := vs.mono bb
    replace vt := vt.mono bb
    replace vu := vu.mono bb
    replace ht := ht.mono bb
    replace v1 := v1.mono bb
    replace v2 := v2.mono bb
    replace B := below_trans B bb
    clear bb
    generalize w9.alloc (.cells #[.int .i64 s.a, .int .i64 s.b, .int .i64 s.c, .int .i64 s.d] 23) = w10 at *
    refine (H4.out _).mono ?_
    rintro e w11 ⟨rfl, b11⟩
    replace vs := vs.mono b11
    replace vt := vt.mono b11
    replace vu := vu.mono b11
    replace ht := ht.mono b11
    replace v1 := v1.mono b11
    replace v2 := v2.mono b11
    replace v3 := v3.mono b11
    replace B := below_trans B b11
    clear b11
    replace B := below_trans B (below_alloc _ (.cells #[.int .i64 q1, .int .i64 q2, .int .i64 q3, .int .i64 q4] 23))
    go_wp2
    go_ret
    exact ⟨rfl, B⟩

set_option maxRecDepth 100000 in
set_option maxHeartbeats 1000000 in
theorem group_ok (s t u : T4) (w : World) (hS : i64 s.a ∧ i64 s.b ∧ i64 s.c ∧ i64 s.d) (hT : i64 t.a ∧ i64 t.b ∧ i64 t.c ∧ i64 t.d) (hU : i64 u.a ∧ i64 u.b ∧ i64 u.c ∧ i64 u.d) (ht : Tab w) (h1 : validB s.a s.b s.c s.d = true) (h2 : validB t.a t.b t.c t.d = true) (h3 : validB u.a u.b u.c u.d = true) (hk : (mulT s t).2 = 0) (hm : (mulT t u).2 = 0) :
    Calls Tryd.prog 8 #[.agg #[.int .i64 s.a, .int .i64 s.b, .int .i64 s.c, .int .i64 s.d], .agg #[.int .i64 t.a, .int .i64 t.b, .int .i64 t.c, .int .i64 t.d], .agg #[.int .i64 u.a, .int .i64 u.b, .int .i64 u.c, .int .i64 u.d]] w (RetTrue w) := by
  have Vs := fun w : World => rvalid_calls s w hS
  rw [h1] at Vs
  have HVs := Lib.hid Vs
  clear Vs
  have Vt := fun w : World => rvalid_calls t w hT
  rw [h2] at Vt
  have HVt := Lib.hid Vt
  clear Vt
  have Vu := fun w : World => rvalid_calls u w hU
  rw [h3] at Vu
  have HVu := Lib.hid Vu
  clear Vu
  have R1 := fun w : World => mulT_ok s t w h1 h2
  have R2 := fun w : World => mulT_ok t s w h2 h1
  simp only [mulT_comm t s] at R2
  have R3 := fun w : World => powerT_ok s 1 1 w h1 (by unfold i64; omega) (by unfold i64; omega) (by omega)
  rw [powT_one h1] at R3
  have R4 := fun w : World => mulT_ok t u w h2 h3
  have code1 := redT_code (s.a * t.d + t.a * s.d) (s.b * t.d + t.b * s.d) (s.c * t.d + t.c * s.d) (s.d * t.d)
  have code2 := redT_code (t.a * u.d + u.a * t.d) (t.b * u.d + u.b * t.d) (t.c * u.d + u.c * t.d) (t.d * u.d)
  change (mulT s t).2 = 0 ∨ (mulT s t).2 = 5 at code1
  change (mulT t u).2 = 0 ∨ (mulT t u).2 = 5 at code2
  have okP : okT (mulT s t).1 := redT_okT hk
  have okQ : okT (mulT t u).1 := redT_okT hm
  have R5 := fun w : World => divT_ok (mulT s t).1 t w okP h2
  rw [mulT_div h1 h2 hk] at R5
  have R6 := fun w : World => mulT_ok (mulT s t).1 u w okP h3
  have R7 := fun w : World => mulT_ok s (mulT t u).1 w h1 okQ
  rw [mulT_assoc h1 h2 h3 hk hm] at R6
  generalize mulT s (mulT t u).1 = L at *
  clear okP okQ code1 code2
  generalize mulT s t = M at *
  generalize mulT t u = N at *
  obtain ⟨⟨p1, p2, p3, p4⟩, k⟩ := M
  obtain ⟨⟨q1, q2, q3, q4⟩, m⟩ := N
  dsimp only at *
  subst hk
  subst hm
  obtain ⟨⟨l1, l2, l3, l4⟩, n⟩ := L
  have H5 := Lib.hid R5
  have H6 := Lib.hid R6
  have H7 := Lib.hid R7
  clear R5 R6 R7
  have H1 := Lib.hid R1
  have H2 := Lib.hid R2
  have H3 := Lib.hid R3
  have H4 := Lib.hid R4
  clear R1 R2 R3 R4 h1 h2 h3 hS hT hU
  have vs := Vals.newL w (w.heap.size) [.int .i64 s.a, .int .i64 s.b, .int .i64 s.c, .int .i64 s.d] 23 rfl
  have bb := below_alloc w (.cells #[.int .i64 s.a, .int .i64 s.b, .int .i64 s.c, .int .i64 s.d] 23)
  have B := bb
  have sz0 := World.size_alloc w (.cells #[.int .i64 s.a, .int .i64 s.b, .int .i64 s.c, .int .i64 s.d] 23)
  have sz := sz0
  clear sz0
  clear bb
  have vt := Vals.newL (w.alloc (.cells #[.int .i64 s.a, .int .i64 s.b, .int .i64 s.c, .int .i64 s.d] 23)) (w.heap.size + 1) [.int .i64 t.a, .int .i64 t.b, .int .i64 t.c, .int .i64 t.d] 23 sz.symm
  have bb := below_alloc (w.alloc (.cells #[.int .i64 s.a, .int .i64 s.b, .int .i64 s.c, .int .i64 s.d] 23)) (.cells #[.int .i64 t.a, .int .i64 t.b, .int .i64 t.c, .int .i64 t.d] 23)
  replace vs := vs.mono bb
  replace B := below_trans B bb
  clear bb
  have sz1 := World.size_alloc (w.alloc (.cells #[.int .i64 s.a, .int .i64 s.b, .int .i64 s.c, .int .i64 s.d] 23)) (.cells #[.int .i64 t.a, .int .i64 t.b, .int .i64 t.c, .int .i64 t.d] 23)
  rw [sz] at sz1
  clear sz
  have sz := sz1
  clear sz1
  have vu := Vals.newL ((w.alloc (.cells #[.int .i64 s.a, .int .i64 s.b, .int .i64 s.c, .int .i64 s.d] 23)).alloc (.cells #[.int .i64 t.a, .int .i64 t.b, .int .i64 t.c, .int .i64 t.d] 23)) (w.heap.size + 1 + 1) [.int .i64 u.a, .int .i64 u.b, .int .i64 u.c, .int .i64 u.d] 23 sz.symm
  have bb := below_alloc ((w.alloc (.cells #[.int .i64 s.a, .int .i64 s.b, .int .i64 s.c, .int .i64 s.d] 23)).alloc (.cells #[.int .i64 t.a, .int .i64 t.b, .int .i64 t.c, .int .i64 t.d] 23)) (.cells #[.int .i64 u.a, .int .i64 u.b, .int .i64 u.c, .int .i64 u.d] 23)
  replace vs := vs.mono bb
  replace vt := vt.mono bb
  replace B := below_trans B bb
  clear sz
  have bb0 := B
  clear bb
  go_enter Tryd.func8, Tryd.ntmps8
  go_wp2_with fail
  generalize (((w.alloc (.cells #[.int .i64 s.a, .int .i64 s.b, .int .i64 s.c, .int .i64 s.d] 23)).alloc (.cells #[.int .i64 t.a, .int .i64 t.b, .int .i64 t.c, .int .i64 t.d] 23)).alloc (.cells #[.int .i64 u.a, .int .i64 u.b, .int .i64 u.c, .int .i64 u.d] 23)) = w0 at *
  replace ht := ht.mono bb0
  clear bb0
  refine (HVs.out _).mono ?_
  rintro e w1 ⟨rfl, b1⟩
  replace vs := vs.mono b1
  replace vt := vt.mono b1
  replace vu := vu.mono b1
  replace ht := ht.mono b1
  replace B := below_trans B b1
  clear b1
  have cvt0 := vt.cell (i := 0) (by simp)
  have cvt1 := vt.cell (i := 1) (by simp)
  have cvt2 := vt.cell (i := 2) (by simp)
  have cvt3 := vt.cell (i := 3) (by simp)
  simp only [List.getD_cons_zero, List.getD_cons_succ] at cvt0 cvt1 cvt2 cvt3
  have ltvt := vt.lt
  go_wp2_with fail
  clear cvt0 cvt1 cvt2 cvt3 ltvt
  refine (HVt.out _).mono ?_
  rintro e w2 ⟨rfl, b2⟩
  replace vs := vs.mono b2
  replace vt := vt.mono b2
  replace vu := vu.mono b2
  replace ht := ht.mono b2
  replace B := below_trans B b2
  clear b2
  have cvu0 := vu.cell (i := 0) (by simp)
  have cvu1 := vu.cell (i := 1) (by simp)
  have cvu2 := vu.cell (i := 2) (by simp)
  have cvu3 := vu.cell (i := 3) (by simp)
  simp only [List.getD_cons_zero, List.getD_cons_succ] at cvu0 cvu1 cvu2 cvu3
  have ltvu := vu.lt
  go_wp2_with fail
  clear cvu0 cvu1 cvu2 cvu3 ltvu
  refine (HVu.out _).mono ?_
  rintro e w3 ⟨rfl, b3⟩
  replace vs := vs.mono b3
  replace vt := vt.mono b3
  replace vu := vu.mono b3
  replace ht := ht.mono b3
  replace B := below_trans B b3
  clear b3
  have cvs0 := vs.cell (i := 0) (by simp)
  have cvs1 := vs.cell (i := 1) (by simp)
  have cvs2 := vs.cell (i := 2) (by simp)
  have cvs3 := vs.cell (i := 3) (by simp)
  simp only [List.getD_cons_zero, List.getD_cons_succ] at cvs0 cvs1 cvs2 cvs3
  have ltvs := vs.lt
  have cvt0 := vt.cell (i := 0) (by simp)
  have cvt1 := vt.cell (i := 1) (by simp)
  have cvt2 := vt.cell (i := 2) (by simp)
  have cvt3 := vt.cell (i := 3) (by simp)
  simp only [List.getD_cons_zero, List.getD_cons_succ] at cvt0 cvt1 cvt2 cvt3
  have ltvt := vt.lt
  go_wp2_with fail
  clear cvs0 cvs1 cvs2 cvs3 ltvs cvt0 cvt1 cvt2 cvt3 ltvt
  refine (H1.out _).mono ?_
  rintro e w4 ⟨rfl, b4⟩
  replace vs := vs.mono b4
  replace vt := vt.mono b4
  replace vu := vu.mono b4
  replace ht := ht.mono b4
  replace B := below_trans B b4
  clear b4
  have cvs0 := vs.cell (i := 0) (by simp)
  have cvs1 := vs.cell (i := 1) (by simp)
  have cvs2 := vs.cell (i := 2) (by simp)
  have cvs3 := vs.cell (i := 3) (by simp)
  simp only [List.getD_cons_zero, List.getD_cons_succ] at cvs0 cvs1 cvs2 cvs3
  have ltvs := vs.lt
  have cvt0 := vt.cell (i := 0) (by simp)
  have cvt1 := vt.cell (i := 1) (by simp)
  have cvt2 := vt.cell (i := 2) (by simp)
  have cvt3 := vt.cell (i := 3) (by simp)
  simp only [List.getD_cons_zero, List.getD_cons_succ] at cvt0 cvt1 cvt2 cvt3
  have ltvt := vt.lt
  go_wp2_with fail
  clear cvs0 cvs1 cvs2 cvs3 ltvs cvt0 cvt1 cvt2 cvt3 ltvt
  have v1 := Vals.newL w4 w4.heap.size [.int .i64 p1, .int .i64 p2, .int .i64 p3, .int .i64 p4] 23 rfl
  have bb := below_alloc w4 (.cells #[.int .i64 p1, .int .i64 p2, .int .i64 p3, .int .i64 p4] 23)
  replace vs := vs.mono bb
  replace vt := vt.mono bb
  replace vu := vu.mono bb
  replace ht := ht.mono bb
  replace B := below_trans B bb
  clear bb
  generalize w4.alloc (.cells #[.int .i64 p1, .int .i64 p2, .int .i64 p3, .int .i64 p4] 23) = w5 at *
  refine (H2.out _).mono ?_
  rintro e w6 ⟨rfl, b6⟩
  replace vs := vs.mono b6
  replace vt := vt.mono b6
  replace vu := vu.mono b6
  replace ht := ht.mono b6
  replace v1 := v1.mono b6
  replace B := below_trans B b6
  clear b6
  have cv10 := v1.cell (i := 0) (by simp)
  have cv11 := v1.cell (i := 1) (by simp)
  have cv12 := v1.cell (i := 2) (by simp)
  have cv13 := v1.cell (i := 3) (by simp)
  simp only [List.getD_cons_zero, List.getD_cons_succ] at cv10 cv11 cv12 cv13
  have ltv1 := v1.lt
  go_wp2_with fail
  clear cv10 cv11 cv12 cv13 ltv1
  have v2 := Vals.newL w6 w6.heap.size [.int .i64 p1, .int .i64 p2, .int .i64 p3, .int .i64 p4] 23 rfl
  have bb := below_alloc w6 (.cells #[.int .i64 p1, .int .i64 p2, .int .i64 p3, .int .i64 p4] 23)
  replace vs := vs.mono bb
  replace vt := vt.mono bb
  replace vu := vu.mono bb
  replace ht := ht.mono bb
  replace v1 := v1.mono bb
  replace B := below_trans B bb
  clear bb
  generalize w6.alloc (.cells #[.int .i64 p1, .int .i64 p2, .int .i64 p3, .int .i64 p4] 23) = w7 at *
  refine (lives_calls _ ht).mono ?_
  rintro e w8 ⟨rfl, b8⟩
  replace vs := vs.mono b8
  replace vt := vt.mono b8
  replace vu := vu.mono b8
  replace ht := ht.mono b8
  replace v1 := v1.mono b8
  replace v2 := v2.mono b8
  replace B := below_trans B b8
  clear b8
  have cvs0 := vs.cell (i := 0) (by simp)
  have cvs1 := vs.cell (i := 1) (by simp)
  have cvs2 := vs.cell (i := 2) (by simp)
  have cvs3 := vs.cell (i := 3) (by simp)
  simp only [List.getD_cons_zero, List.getD_cons_succ] at cvs0 cvs1 cvs2 cvs3
  have ltvs := vs.lt
  go_wp2_with fail
  clear cvs0 cvs1 cvs2 cvs3 ltvs
  refine (H3.out _).mono ?_
  rintro e w9 ⟨rfl, b9⟩
  replace vs := vs.mono b9
  replace vt := vt.mono b9
  replace vu := vu.mono b9
  replace ht := ht.mono b9
  replace v1 := v1.mono b9
  replace v2 := v2.mono b9
  replace B := below_trans B b9
  clear b9
  have cvs0 := vs.cell (i := 0) (by simp)
  have cvs1 := vs.cell (i := 1) (by simp)
  have cvs2 := vs.cell (i := 2) (by simp)
  have cvs3 := vs.cell (i := 3) (by simp)
  simp only [List.getD_cons_zero, List.getD_cons_succ] at cvs0 cvs1 cvs2 cvs3
  have ltvs := vs.lt
  have cvt0 := vt.cell (i := 0) (by simp)
  have cvt1 := vt.cell (i := 1) (by simp)
  have cvt2 := vt.cell (i := 2) (by simp)
  have cvt3 := vt.cell (i := 3) (by simp)
  simp only [List.getD_cons_zero, List.getD_cons_succ] at cvt0 cvt1 cvt2 cvt3
  have ltvt := vt.lt
  have cvu0 := vu.cell (i := 0) (by simp)
  have cvu1 := vu.cell (i := 1) (by simp)
  have cvu2 := vu.cell (i := 2) (by simp)
  have cvu3 := vu.cell (i := 3) (by simp)
  simp only [List.getD_cons_zero, List.getD_cons_succ] at cvu0 cvu1 cvu2 cvu3
  have ltvu := vu.lt
  go_wp2_with fail
  clear cvs0 cvs1 cvs2 cvs3 ltvs cvt0 cvt1 cvt2 cvt3 ltvt cvu0 cvu1 cvu2 cvu3 ltvu
  have v3 := Vals.newL w9 w9.heap.size [.int .i64 s.a, .int .i64 s.b, .int .i64 s.c, .int .i64 s.d] 23 rfl
  have bb := below_alloc w9 (.cells #[.int .i64 s.a, .int .i64 s.b, .int .i64 s.c, .int .i64 s.d] 23)
  replace vs := vs.mono bb
  replace vt := vt.mono bb
  replace vu := vu.mono bb
  replace ht := ht.mono bb
  replace v1 := v1.mono bb
  replace v2 := v2.mono bb
  replace B := below_trans B bb
  clear bb
  generalize w9.alloc (.cells #[.int .i64 s.a, .int .i64 s.b, .int .i64 s.c, .int .i64 s.d] 23) = w10 at *
  refine (H4.out _).mono ?_
  rintro e w11 ⟨rfl, b11⟩
  replace vs := vs.mono b11
  replace vt := vt.mono b11
  replace vu := vu.mono b11
  replace ht := ht.mono b11
  replace v1 := v1.mono b11
  replace v2 := v2.mono b11
  replace v3 := v3.mono b11
  replace B := below_trans B b11
  clear b11
  have cv10 := v1.cell (i := 0) (by simp)
  have cv11 := v1.cell (i := 1) (by simp)
  have cv12 := v1.cell (i := 2) (by simp)
  have cv13 := v1.cell (i := 3) (by simp)
  simp only [List.getD_cons_zero, List.getD_cons_succ] at cv10 cv11 cv12 cv13
  have ltv1 := v1.lt
  have cvt0 := vt.cell (i := 0) (by simp)
  have cvt1 := vt.cell (i := 1) (by simp)
  have cvt2 := vt.cell (i := 2) (by simp)
  have cvt3 := vt.cell (i := 3) (by simp)
  simp only [List.getD_cons_zero, List.getD_cons_succ] at cvt0 cvt1 cvt2 cvt3
  have ltvt := vt.lt
  go_wp2_with fail
  clear cv10 cv11 cv12 cv13 ltv1 cvt0 cvt1 cvt2 cvt3 ltvt
  have v4 := Vals.newL w11 w11.heap.size [.int .i64 q1, .int .i64 q2, .int .i64 q3, .int .i64 q4] 23 rfl
  have bb := below_alloc w11 (.cells #[.int .i64 q1, .int .i64 q2, .int .i64 q3, .int .i64 q4] 23)
  replace vs := vs.mono bb
  replace vt := vt.mono bb
  replace vu := vu.mono bb
  replace ht := ht.mono bb
  replace v1 := v1.mono bb
  replace v2 := v2.mono bb
  replace v3 := v3.mono bb
  replace B := below_trans B bb
  clear bb
  generalize w11.alloc (.cells #[.int .i64 q1, .int .i64 q2, .int .i64 q3, .int .i64 q4] 23) = w12 at *
  refine (H5.out _).mono ?_
  rintro e w13 ⟨rfl, b13⟩
  replace vs := vs.mono b13
  replace vt := vt.mono b13
  replace vu := vu.mono b13
  replace ht := ht.mono b13
  replace v1 := v1.mono b13
  replace v2 := v2.mono b13
  replace v3 := v3.mono b13
  replace v4 := v4.mono b13
  replace B := below_trans B b13
  clear b13
  have cvs0 := vs.cell (i := 0) (by simp)
  have cvs1 := vs.cell (i := 1) (by simp)
  have cvs2 := vs.cell (i := 2) (by simp)
  have cvs3 := vs.cell (i := 3) (by simp)
  simp only [List.getD_cons_zero, List.getD_cons_succ] at cvs0 cvs1 cvs2 cvs3
  have ltvs := vs.lt
  have cv10 := v1.cell (i := 0) (by simp)
  have cv11 := v1.cell (i := 1) (by simp)
  have cv12 := v1.cell (i := 2) (by simp)
  have cv13 := v1.cell (i := 3) (by simp)
  simp only [List.getD_cons_zero, List.getD_cons_succ] at cv10 cv11 cv12 cv13
  have ltv1 := v1.lt
  have cvu0 := vu.cell (i := 0) (by simp)
  have cvu1 := vu.cell (i := 1) (by simp)
  have cvu2 := vu.cell (i := 2) (by simp)
  have cvu3 := vu.cell (i := 3) (by simp)
  simp only [List.getD_cons_zero, List.getD_cons_succ] at cvu0 cvu1 cvu2 cvu3
  have ltvu := vu.lt
  go_wp2_with fail
  clear cvs0 cvs1 cvs2 cvs3 ltvs cv10 cv11 cv12 cv13 ltv1 cvu0 cvu1 cvu2 cvu3 ltvu
  have v5 := Vals.newL w13 w13.heap.size [.int .i64 s.a, .int .i64 s.b, .int .i64 s.c, .int .i64 s.d] 23 rfl
  have bb := below_alloc w13 (.cells #[.int .i64 s.a, .int .i64 s.b, .int .i64 s.c, .int .i64 s.d] 23)
  replace vs := vs.mono bb
  replace vt := vt.mono bb
  replace vu := vu.mono bb
  replace ht := ht.mono bb
  replace v1 := v1.mono bb
  replace v2 := v2.mono bb
  replace v3 := v3.mono bb
  replace v4 := v4.mono bb
  replace B := below_trans B bb
  clear bb
  generalize w13.alloc (.cells #[.int .i64 s.a, .int .i64 s.b, .int .i64 s.c, .int .i64 s.d] 23) = w14 at *
  refine (H6.out _).mono ?_
  rintro e w15 ⟨rfl, b15⟩
  replace vs := vs.mono b15
  replace vt := vt.mono b15
  replace vu := vu.mono b15
  replace ht := ht.mono b15
  replace v1 := v1.mono b15
  replace v2 := v2.mono b15
  replace v3 := v3.mono b15
  replace v4 := v4.mono b15
  replace v5 := v5.mono b15
  replace B := below_trans B b15
  clear b15
  have cvs0 := vs.cell (i := 0) (by simp)
  have cvs1 := vs.cell (i := 1) (by simp)
  have cvs2 := vs.cell (i := 2) (by simp)
  have cvs3 := vs.cell (i := 3) (by simp)
  simp only [List.getD_cons_zero, List.getD_cons_succ] at cvs0 cvs1 cvs2 cvs3
  have ltvs := vs.lt
  have cv40 := v4.cell (i := 0) (by simp)
  have cv41 := v4.cell (i := 1) (by simp)
  have cv42 := v4.cell (i := 2) (by simp)
  have cv43 := v4.cell (i := 3) (by simp)
  simp only [List.getD_cons_zero, List.getD_cons_succ] at cv40 cv41 cv42 cv43
  have ltv4 := v4.lt
  go_wp2_with fail
  clear cvs0 cvs1 cvs2 cvs3 ltvs cv40 cv41 cv42 cv43 ltv4
  have v6 := Vals.newL w15 w15.heap.size [.int .i64 l1, .int .i64 l2, .int .i64 l3, .int .i64 l4] 23 rfl
  have bb := below_alloc w15 (.cells #[.int .i64 l1, .int .i64 l2, .int .i64 l3, .int .i64 l4] 23)
  replace vs := vs.mono bb
  replace vt := vt.mono bb
  replace vu := vu.mono bb
  replace ht := ht.mono bb
  replace v1 := v1.mono bb
  replace v2 := v2.mono bb
  replace v3 := v3.mono bb
  replace v4 := v4.mono bb
  replace v5 := v5.mono bb
  replace B := below_trans B bb
  clear bb
  generalize w15.alloc (.cells #[.int .i64 l1, .int .i64 l2, .int .i64 l3, .int .i64 l4] 23) = w16 at *
  refine (H7.out _).mono ?_
  rintro e w17 ⟨rfl, b17⟩
  replace vs := vs.mono b17
  replace vt := vt.mono b17
  replace vu := vu.mono b17
  replace ht := ht.mono b17
  replace v1 := v1.mono b17
  replace v2 := v2.mono b17
  replace v3 := v3.mono b17
  replace v4 := v4.mono b17
  replace v5 := v5.mono b17
  replace v6 := v6.mono b17
  replace B := below_trans B b17
  clear b17
  have cv60 := v6.cell (i := 0) (by simp)
  have cv61 := v6.cell (i := 1) (by simp)
  have cv62 := v6.cell (i := 2) (by simp)
  have cv63 := v6.cell (i := 3) (by simp)
  simp only [List.getD_cons_zero, List.getD_cons_succ] at cv60 cv61 cv62 cv63
  have ltv6 := v6.lt
  replace B := below_trans B (below_alloc _ (.cells #[.int .i64 l1, .int .i64 l2, .int .i64 l3, .int .i64 l4] 23))
  go_wp2
  go_ret
  exact ⟨rfl, B⟩

set_option maxRecDepth 100000 in
set_option maxHeartbeats 1000000 in
theorem walk_group (s t u : T4) (w : World) (hS : i64 s.a ∧ i64 s.b ∧ i64 s.c ∧ i64 s.d) (hT : i64 t.a ∧ i64 t.b ∧ i64 t.c ∧ i64 t.d) (hU : i64 u.a ∧ i64 u.b ∧ i64 u.c ∧ i64 u.d) (ht : Tab w)  :
    Calls Tryd.prog 8 #[.agg #[.int .i64 s.a, .int .i64 s.b, .int .i64 s.c, .int .i64 s.d], .agg #[.int .i64 t.a, .int .i64 t.b, .int .i64 t.c, .int .i64 t.d], .agg #[.int .i64 u.a, .int .i64 u.b, .int .i64 u.c, .int .i64 u.d]] w (RetTrue w) := by
  cases h1 : validB s.a s.b s.c s.d
  · exact group_bad0 s t u w hS hT hU ht h1
  · cases h2 : validB t.a t.b t.c t.d
    · exact group_bad1 s t u w hS hT hU ht h1 h2
    · cases h3 : validB u.a u.b u.c u.d
      · exact group_bad2 s t u w hS hT hU ht h1 h2 h3
      · by_cases hn : (mulT s t).2 = 0 ∧ (mulT t u).2 = 0
        · exact group_ok s t u w hS hT hU ht h1 h2 h3 hn.1 hn.2
        · exact group_err s t u w hS hT hU ht h1 h2 h3 hn

end Go.Proofs
