/- The walk of ToneOrder, ways of its first half. -/
import Derived.Test.YtgdgdaofmjnepaaDoorTRef
import Derived.Test.YtgdgdaofmjnepaaDoorTone8
import Derived.Test.YtgdgdaofmjnepaaDoorToneB
open Go.RowKit Go.Deep
namespace Go.Proofs
set_option linter.unusedVariables false

set_option maxRecDepth 100000 in
set_option maxHeartbeats 1000000 in
theorem order_stop0 (s t u : T4) (w : World) (hS : i64 s.a ∧ i64 s.b ∧ i64 s.c ∧ i64 s.d) (hT : i64 t.a ∧ i64 t.b ∧ i64 t.c ∧ i64 t.d) (hU : i64 u.a ∧ i64 u.b ∧ i64 u.c ∧ i64 u.d) (ht : Tab w) (h1 : validB s.a s.b s.c s.d = false)  :
    Calls Tryd.prog 13 #[.agg #[.int .i64 s.a, .int .i64 s.b, .int .i64 s.c, .int .i64 s.d], .agg #[.int .i64 t.a, .int .i64 t.b, .int .i64 t.c, .int .i64 t.d], .agg #[.int .i64 u.a, .int .i64 u.b, .int .i64 u.c, .int .i64 u.d]] w (RetTrue w) := by
  have Vs := fun w : World => rvalid_calls s w hS
  rw [h1] at Vs
  have HVs := Lib.hid Vs
  clear Vs
  clear hS hT hU h1
  have vs := Vals.newL w (w.heap.size) [.int .i64 s.a, .int .i64 s.b, .int .i64 s.c, .int .i64 s.d] 23 rfl
  have bb := below_alloc w (.cells #[.int .i64 s.a, .int .i64 s.b, .int .i64 s.c, .int .i64 s.d] 23)
  have B := bb
  have sz0 := World.size_alloc w (.cells #[.int .i64 s.a, .int .i64 s.b, .int .i64 s.c, .int .i64 s.d] 23)
  have sz := sz0
  clear sz0
  clear bb
  have vt := Vals.newL (w.alloc (.cells #[.int .i64 s.a, .int .i64 s.b, .int .i64 s.c, .int .i64 s.d] 23)) (w.heap.size + 1) [.int .i64 t.a, .int .i64 t.b, .int .i64 t.c, .int .i64 t.d] 23 sz.symm
  have bb := below_alloc (w.alloc (.cells #[.int .i64 s.a, .int .i64 s.b, .int .i64 s.c, .int .i64 s.d] 23)) (.cells #[.int .i64 t.a, .int .i64 t.b, .int .i64 t.c, .int .i64 t.d] 23)
  replace vs := vs.mono bb
  replace B := below_trans B bb
  clear bb
  have sz1 := World.size_alloc (w.alloc (.cells #[.int .i64 s.a, .int .i64 s.b, .int .i64 s.c, .int .i64 s.d] 23)) (.cells #[.int .i64 t.a, .int .i64 t.b, .int .i64 t.c, .int .i64 t.d] 23)
  rw [sz] at sz1
  clear sz
  have sz := sz1
  clear sz1
  have vu := Vals.newL ((w.alloc (.cells #[.int .i64 s.a, .int .i64 s.b, .int .i64 s.c, .int .i64 s.d] 23)).alloc (.cells #[.int .i64 t.a, .int .i64 t.b, .int .i64 t.c, .int .i64 t.d] 23)) (w.heap.size + 1 + 1) [.int .i64 u.a, .int .i64 u.b, .int .i64 u.c, .int .i64 u.d] 23 sz.symm
  have bb := below_alloc ((w.alloc (.cells #[.int .i64 s.a, .int .i64 s.b, .int .i64 s.c, .int .i64 s.d] 23)).alloc (.cells #[.int .i64 t.a, .int .i64 t.b, .int .i64 t.c, .int .i64 t.d] 23)) (.cells #[.int .i64 u.a, .int .i64 u.b, .int .i64 u.c, .int .i64 u.d] 23)
  replace vs := vs.mono bb
  replace vt := vt.mono bb
  replace B := below_trans B bb
  clear sz
  have bb0 := B
  clear bb
  go_enter Tryd.func13, Tryd.ntmps13
  go_wp2_with fail
  generalize (((w.alloc (.cells #[.int .i64 s.a, .int .i64 s.b, .int .i64 s.c, .int .i64 s.d] 23)).alloc (.cells #[.int .i64 t.a, .int .i64 t.b, .int .i64 t.c, .int .i64 t.d] 23)).alloc (.cells #[.int .i64 u.a, .int .i64 u.b, .int .i64 u.c, .int .i64 u.d] 23)) = w0 at *
  replace ht := ht.mono bb0
  clear bb0
  refine (HVs.out _).mono ?_
  rintro e w1 ⟨rfl, b1⟩
  replace vs := vs.mono b1
  replace vt := vt.mono b1
  replace vu := vu.mono b1
  replace ht := ht.mono b1
  replace B := below_trans B b1
  clear b1
  go_wp2_with fail
  refine (lives_calls _ ht).mono ?_
  rintro e w2 ⟨rfl, b2⟩
  replace vs := vs.mono b2
  replace vt := vt.mono b2
  replace vu := vu.mono b2
  replace ht := ht.mono b2
  replace B := below_trans B b2
  clear b2
  go_wp2
  go_ret
  exact ⟨rfl, B⟩

set_option maxRecDepth 100000 in
set_option maxHeartbeats 1000000 in
theorem order_stop1 (s t u : T4) (w : World) (hS : i64 s.a ∧ i64 s.b ∧ i64 s.c ∧ i64 s.d) (hT : i64 t.a ∧ i64 t.b ∧ i64 t.c ∧ i64 t.d) (hU : i64 u.a ∧ i64 u.b ∧ i64 u.c ∧ i64 u.d) (ht : Tab w) (h1 : validB s.a s.b s.c s.d = true) (h2 : validB t.a t.b t.c t.d = false)  :
    Calls Tryd.prog 13 #[.agg #[.int .i64 s.a, .int .i64 s.b, .int .i64 s.c, .int .i64 s.d], .agg #[.int .i64 t.a, .int .i64 t.b, .int .i64 t.c, .int .i64 t.d], .agg #[.int .i64 u.a, .int .i64 u.b, .int .i64 u.c, .int .i64 u.d]] w (RetTrue w) := by
  have Vs := fun w : World => rvalid_calls s w hS
  rw [h1] at Vs
  have HVs := Lib.hid Vs
  clear Vs
  have Vt := fun w : World => rvalid_calls t w hT
  rw [h2] at Vt
  have HVt := Lib.hid Vt
  clear Vt
  clear hS hT hU h1 h2
  have vs := Vals.newL w (w.heap.size) [.int .i64 s.a, .int .i64 s.b, .int .i64 s.c, .int .i64 s.d] 23 rfl
  have bb := below_alloc w (.cells #[.int .i64 s.a, .int .i64 s.b, .int .i64 s.c, .int .i64 s.d] 23)
  have B := bb
  have sz0 := World.size_alloc w (.cells #[.int .i64 s.a, .int .i64 s.b, .int .i64 s.c, .int .i64 s.d] 23)
  have sz := sz0
  clear sz0
  clear bb
  have vt := Vals.newL (w.alloc (.cells #[.int .i64 s.a, .int .i64 s.b, .int .i64 s.c, .int .i64 s.d] 23)) (w.heap.size + 1) [.int .i64 t.a, .int .i64 t.b, .int .i64 t.c, .int .i64 t.d] 23 sz.symm
  have bb := below_alloc (w.alloc (.cells #[.int .i64 s.a, .int .i64 s.b, .int .i64 s.c, .int .i64 s.d] 23)) (.cells #[.int .i64 t.a, .int .i64 t.b, .int .i64 t.c, .int .i64 t.d] 23)
  replace vs := vs.mono bb
  replace B := below_trans B bb
  clear bb
  have sz1 := World.size_alloc (w.alloc (.cells #[.int .i64 s.a, .int .i64 s.b, .int .i64 s.c, .int .i64 s.d] 23)) (.cells #[.int .i64 t.a, .int .i64 t.b, .int .i64 t.c, .int .i64 t.d] 23)
  rw [sz] at sz1
  clear sz
  have sz := sz1
  clear sz1
  have vu := Vals.newL ((w.alloc (.cells #[.int .i64 s.a, .int .i64 s.b, .int .i64 s.c, .int .i64 s.d] 23)).alloc (.cells #[.int .i64 t.a, .int .i64 t.b, .int .i64 t.c, .int .i64 t.d] 23)) (w.heap.size + 1 + 1) [.int .i64 u.a, .int .i64 u.b, .int .i64 u.c, .int .i64 u.d] 23 sz.symm
  have bb := below_alloc ((w.alloc (.cells #[.int .i64 s.a, .int .i64 s.b, .int .i64 s.c, .int .i64 s.d] 23)).alloc (.cells #[.int .i64 t.a, .int .i64 t.b, .int .i64 t.c, .int .i64 t.d] 23)) (.cells #[.int .i64 u.a, .int .i64 u.b, .int .i64 u.c, .int .i64 u.d] 23)
  replace vs := vs.mono bb
  replace vt := vt.mono bb
  replace B := below_trans B bb
  clear sz
  have bb0 := B
  clear bb
  go_enter Tryd.func13, Tryd.ntmps13
  go_wp2_with fail
  generalize (((w.alloc (.cells #[.int .i64 s.a, .int .i64 s.b, .int .i64 s.c, .int .i64 s.d] 23)).alloc (.cells #[.int .i64 t.a, .int .i64 t.b, .int .i64 t.c, .int .i64 t.d] 23)).alloc (.cells #[.int .i64 u.a, .int .i64 u.b, .int .i64 u.c, .int .i64 u.d] 23)) = w0 at *
  replace ht := ht.mono bb0
  clear bb0
  refine (HVs.out _).mono ?_
  rintro e w1 ⟨rfl, b1⟩
  replace vs := vs.mono b1
  replace vt := vt.mono b1
  replace vu := vu.mono b1
  replace ht := ht.mono b1
  replace B := below_trans B b1
  clear b1
  have cvt0 := vt.cell (i := 0) (by simp)
  have cvt1 := vt.cell (i := 1) (by simp)
  have cvt2 := vt.cell (i := 2) (by simp)
  have cvt3 := vt.cell (i := 3) (by simp)
  simp only [List.getD_cons_zero, List.getD_cons_succ] at cvt0 cvt1 cvt2 cvt3
  have ltvt := vt.lt
  go_wp2_with fail
  clear cvt0 cvt1 cvt2 cvt3 ltvt
  refine (HVt.out _).mono ?_
  rintro e w2 ⟨rfl, b2⟩
  replace vs := vs.mono b2
  replace vt := vt.mono b2
  replace vu := vu.mono b2
  replace ht := ht.mono b2
  replace B := below_trans B b2
  clear b2
  go_wp2_with fail
  refine (lives_calls _ ht).mono ?_
  rintro e w3 ⟨rfl, b3⟩
  replace vs := vs.mono b3
  replace vt := vt.mono b3
  replace vu := vu.mono b3
  replace ht := ht.mono b3
  replace B := below_trans B b3
  clear b3
  go_wp2
  go_ret
  exact ⟨rfl, B⟩

set_option maxRecDepth 100000 in
set_option maxHeartbeats 1000000 in
theorem order_stop2 (s t u : T4) (w : World) (hS : i64 s.a ∧ i64 s.b ∧ i64 s.c ∧ i64 s.d) (hT : i64 t.a ∧ i64 t.b ∧ i64 t.c ∧ i64 t.d) (hU : i64 u.a ∧ i64 u.b ∧ i64 u.c ∧ i64 u.d) (ht : Tab w) (h1 : validB s.a s.b s.c s.d = true) (h2 : validB t.a t.b t.c t.d = true) (h3 : validB u.a u.b u.c u.d = false)  :
    Calls Tryd.prog 13 #[.agg #[.int .i64 s.a, .int .i64 s.b, .int .i64 s.c, .int .i64 s.d], .agg #[.int .i64 t.a, .int .i64 t.b, .int .i64 t.c, .int .i64 t.d], .agg #[.int .i64 u.a, .int .i64 u.b, .int .i64 u.c, .int .i64 u.d]] w (RetTrue w) := by
  have Vs := fun w : World => rvalid_calls s w hS
  rw [h1] at Vs
  have HVs := Lib.hid Vs
  clear Vs
  have Vt := fun w : World => rvalid_calls t w hT
  rw [h2] at Vt
  have HVt := Lib.hid Vt
  clear Vt
  have Vu := fun w : World => rvalid_calls u w hU
  rw [h3] at Vu
  have HVu := Lib.hid Vu
  clear Vu
  clear hS hT hU h1 h2 h3
  have vs := Vals.newL w (w.heap.size) [.int .i64 s.a, .int .i64 s.b, .int .i64 s.c, .int .i64 s.d] 23 rfl
  have bb := below_alloc w (.cells #[.int .i64 s.a, .int .i64 s.b, .int .i64 s.c, .int .i64 s.d] 23)
  have B := bb
  have sz0 := World.size_alloc w (.cells #[.int .i64 s.a, .int .i64 s.b, .int .i64 s.c, .int .i64 s.d] 23)
  have sz := sz0
  clear sz0
  clear bb
  have vt := Vals.newL (w.alloc (.cells #[.int .i64 s.a, .int .i64 s.b, .int .i64 s.c, .int .i64 s.d] 23)) (w.heap.size + 1) [.int .i64 t.a, .int .i64 t.b, .int .i64 t.c, .int .i64 t.d] 23 sz.symm
  have bb := below_alloc (w.alloc (.cells #[.int .i64 s.a, .int .i64 s.b, .int .i64 s.c, .int .i64 s.d] 23)) (.cells #[.int .i64 t.a, .int .i64 t.b, .int .i64 t.c, .int .i64 t.d] 23)
  replace vs := vs.mono bb
  replace B := below_trans B bb
  clear bb
  have sz1 := World.size_alloc (w.alloc (.cells #[.int .i64 s.a, .int .i64 s.b, .int .i64 s.c, .int .i64 s.d] 23)) (.cells #[.int .i64 t.a, .int .i64 t.b, .int .i64 t.c, .int .i64 t.d] 23)
  rw [sz] at sz1
  clear sz
  have sz := sz1
  clear sz1
  have vu := Vals.newL ((w.alloc (.cells #[.int .i64 s.a, .int .i64 s.b, .int .i64 s.c, .int .i64 s.d] 23)).alloc (.cells #[.int .i64 t.a, .int .i64 t.b, .int .i64 t.c, .int .i64 t.d] 23)) (w.heap.size + 1 + 1) [.int .i64 u.a, .int .i64 u.b, .int .i64 u.c, .int .i64 u.d] 23 sz.symm
  have bb := below_alloc ((w.alloc (.cells #[.int .i64 s.a, .int .i64 s.b, .int .i64 s.c, .int .i64 s.d] 23)).alloc (.cells #[.int .i64 t.a, .int .i64 t.b, .int .i64 t.c, .int .i64 t.d] 23)) (.cells #[.int .i64 u.a, .int .i64 u.b, .int .i64 u.c, .int .i64 u.d] 23)
  replace vs := vs.mono bb
  replace vt := vt.mono bb
  replace B := below_trans B bb
  clear sz
  have bb0 := B
  clear bb
  go_enter Tryd.func13, Tryd.ntmps13
  go_wp2_with fail
  generalize (((w.alloc (.cells #[.int .i64 s.a, .int .i64 s.b, .int .i64 s.c, .int .i64 s.d] 23)).alloc (.cells #[.int .i64 t.a, .int .i64 t.b, .int .i64 t.c, .int .i64 t.d] 23)).alloc (.cells #[.int .i64 u.a, .int .i64 u.b, .int .i64 u.c, .int .i64 u.d] 23)) = w0 at *
  replace ht := ht.mono bb0
  clear bb0
  refine (HVs.out _).mono ?_
  rintro e w1 ⟨rfl, b1⟩
  replace vs := vs.mono b1
  replace vt := vt.mono b1
  replace vu := vu.mono b1
  replace ht := ht.mono b1
  replace B := below_trans B b1
  clear b1
  have cvt0 := vt.cell (i := 0) (by simp)
  have cvt1 := vt.cell (i := 1) (by simp)
  have cvt2 := vt.cell (i := 2) (by simp)
  have cvt3 := vt.cell (i := 3) (by simp)
  simp only [List.getD_cons_zero, List.getD_cons_succ] at cvt0 cvt1 cvt2 cvt3
  have ltvt := vt.lt
  go_wp2_with fail
  clear cvt0 cvt1 cvt2 cvt3 ltvt
  refine (HVt.out _).mono ?_
  rintro e w2 ⟨rfl, b2⟩
  replace vs := vs.mono b2
  replace vt := vt.mono b2
  replace vu := vu.mono b2
  replace ht := ht.mono b2
  replace B := below_trans B b2
  clear b2
  have cvu0 := vu.cell (i := 0) (by simp)
  have cvu1 := vu.cell (i := 1) (by simp)
  have cvu2 := vu.cell (i := 2) (by simp)
  have cvu3 := vu.cell (i := 3) (by simp)
  simp only [List.getD_cons_zero, List.getD_cons_succ] at cvu0 cvu1 cvu2 cvu3
  have ltvu := vu.lt
  go_wp2_with fail
  clear cvu0 cvu1 cvu2 cvu3 ltvu
  refine (HVu.out _).mono ?_
  rintro e w3 ⟨rfl, b3⟩
  replace vs := vs.mono b3
  replace vt := vt.mono b3
  replace vu := vu.mono b3
  replace ht := ht.mono b3
  replace B := below_trans B b3
  clear b3
  go_wp2_with fail
  refine (lives_calls _ ht).mono ?_
  rintro e w4 ⟨rfl, b4⟩
  replace vs := vs.mono b4
  replace vt := vt.mono b4
  replace vu := vu.mono b4
  replace ht := ht.mono b4
  replace B := below_trans B b4
  clear b4
  go_wp2
  go_ret
  exact ⟨rfl, B⟩

set_option maxRecDepth 100000 in
set_option maxHeartbeats 1000000 in
theorem order_stop3 (s t u : T4) (w : World) (hS : i64 s.a ∧ i64 s.b ∧ i64 s.c ∧ i64 s.d) (hT : i64 t.a ∧ i64 t.b ∧ i64 t.c ∧ i64 t.d) (hU : i64 u.a ∧ i64 u.b ∧ i64 u.c ∧ i64 u.d) (ht : Tab w) (h1 : validB s.a s.b s.c s.d = true) (h2 : validB t.a t.b t.c t.d = true) (h3 : validB u.a u.b u.c u.d = true) (g1 : ¬ (-60 ≤ s.a ∧ s.a ≤ 60 ∧ -60 ≤ s.b ∧ s.b ≤ 60 ∧ -60 ≤ s.c ∧ s.c ≤ 60)) :
    Calls Tryd.prog 13 #[.agg #[.int .i64 s.a, .int .i64 s.b, .int .i64 s.c, .int .i64 s.d], .agg #[.int .i64 t.a, .int .i64 t.b, .int .i64 t.c, .int .i64 t.d], .agg #[.int .i64 u.a, .int .i64 u.b, .int .i64 u.c, .int .i64 u.d]] w (RetTrue w) := by
  have Vs := fun w : World => rvalid_calls s w hS
  rw [h1] at Vs
  have HVs := Lib.hid Vs
  clear Vs
  have Vt := fun w : World => rvalid_calls t w hT
  rw [h2] at Vt
  have HVt := Lib.hid Vt
  clear Vt
  have Vu := fun w : World => rvalid_calls u w hU
  rw [h3] at Vu
  have HVu := Lib.hid Vu
  clear Vu
  have Ls := fun w : World => large_yes s 60 w (by omega) (by omega) g1
  have HLs := Lib.hid Ls
  clear Ls
  clear hS hT hU h1 h2 h3 g1
  have vs := Vals.newL w (w.heap.size) [.int .i64 s.a, .int .i64 s.b, .int .i64 s.c, .int .i64 s.d] 23 rfl
  have bb := below_alloc w (.cells #[.int .i64 s.a, .int .i64 s.b, .int .i64 s.c, .int .i64 s.d] 23)
  have B := bb
  have sz0 := World.size_alloc w (.cells #[.int .i64 s.a, .int .i64 s.b, .int .i64 s.c, .int .i64 s.d] 23)
  have sz := sz0
  clear sz0
  clear bb
  have vt := Vals.newL (w.alloc (.cells #[.int .i64 s.a, .int .i64 s.b, .int .i64 s.c, .int .i64 s.d] 23)) (w.heap.size + 1) [.int .i64 t.a, .int .i64 t.b, .int .i64 t.c, .int .i64 t.d] 23 sz.symm
  have bb := below_alloc (w.alloc (.cells #[.int .i64 s.a, .int .i64 s.b, .int .i64 s.c, .int .i64 s.d] 23)) (.cells #[.int .i64 t.a, .int .i64 t.b, .int .i64 t.c, .int .i64 t.d] 23)
  replace vs := vs.mono bb
  replace B := below_trans B bb
  clear bb
  have sz1 := World.size_alloc (w.alloc (.cells #[.int .i64 s.a, .int .i64 s.b, .int .i64 s.c, .int .i64 s.d] 23)) (.cells #[.int .i64 t.a, .int .i64 t.b, .int .i64 t.c, .int .i64 t.d] 23)
  rw [sz] at sz1
  clear sz
  have sz := sz1
  clear sz1
  have vu := Vals.newL ((w.alloc (.cells #[.int .i64 s.a, .int .i64 s.b, .int .i64 s.c, .int .i64 s.d] 23)).alloc (.cells #[.int .i64 t.a, .int .i64 t.b, .int .i64 t.c, .int .i64 t.d] 23)) (w.heap.size + 1 + 1) [.int .i64 u.a, .int .i64 u.b, .int .i64 u.c, .int .i64 u.d] 23 sz.symm
  have bb := below_alloc ((w.alloc (.cells #[.int .i64 s.a, .int .i64 s.b, .int .i64 s.c, .int .i64 s.d] 23)).alloc (.cells #[.int .i64 t.a, .int .i64 t.b, .int .i64 t.c, .int .i64 t.d] 23)) (.cells #[.int .i64 u.a, .int .i64 u.b, .int .i64 u.c, .int .i64 u.d] 23)
  replace vs := vs.mono bb
  replace vt := vt.mono bb
  replace B := below_trans B bb
  clear sz
  have bb0 := B
  clear bb
  go_enter Tryd.func13, Tryd.ntmps13
  go_wp2_with fail
  generalize (((w.alloc (.cells #[.int .i64 s.a, .int .i64 s.b, .int .i64 s.c, .int .i64 s.d] 23)).alloc (.cells #[.int .i64 t.a, .int .i64 t.b, .int .i64 t.c, .int .i64 t.d] 23)).alloc (.cells #[.int .i64 u.a, .int .i64 u.b, .int .i64 u.c, .int .i64 u.d] 23)) = w0 at *
  replace ht := ht.mono bb0
  clear bb0
  refine (HVs.out _).mono ?_
  rintro e w1 ⟨rfl, b1⟩
  replace vs := vs.mono b1
  replace vt := vt.mono b1
  replace vu := vu.mono b1
  replace ht := ht.mono b1
  replace B := below_trans B b1
  clear b1
  have cvt0 := vt.cell (i := 0) (by simp)
  have cvt1 := vt.cell (i := 1) (by simp)
  have cvt2 := vt.cell (i := 2) (by simp)
  have cvt3 := vt.cell (i := 3) (by simp)
  simp only [List.getD_cons_zero, List.getD_cons_succ] at cvt0 cvt1 cvt2 cvt3
  have ltvt := vt.lt
  go_wp2_with fail
  clear cvt0 cvt1 cvt2 cvt3 ltvt
  refine (HVt.out _).mono ?_
  rintro e w2 ⟨rfl, b2⟩
  replace vs := vs.mono b2
  replace vt := vt.mono b2
  replace vu := vu.mono b2
  replace ht := ht.mono b2
  replace B := below_trans B b2
  clear b2
  have cvu0 := vu.cell (i := 0) (by simp)
  have cvu1 := vu.cell (i := 1) (by simp)
  have cvu2 := vu.cell (i := 2) (by simp)
  have cvu3 := vu.cell (i := 3) (by simp)
  simp only [List.getD_cons_zero, List.getD_cons_succ] at cvu0 cvu1 cvu2 cvu3
  have ltvu := vu.lt
  go_wp2_with fail
  clear cvu0 cvu1 cvu2 cvu3 ltvu
  refine (HVu.out _).mono ?_
  rintro e w3 ⟨rfl, b3⟩
  replace vs := vs.mono b3
  replace vt := vt.mono b3
  replace vu := vu.mono b3
  replace ht := ht.mono b3
  replace B := below_trans B b3
  clear b3
  have cvs0 := vs.cell (i := 0) (by simp)
  have cvs1 := vs.cell (i := 1) (by simp)
  have cvs2 := vs.cell (i := 2) (by simp)
  have cvs3 := vs.cell (i := 3) (by simp)
  simp only [List.getD_cons_zero, List.getD_cons_succ] at cvs0 cvs1 cvs2 cvs3
  have ltvs := vs.lt
  go_wp2_with fail
  clear cvs0 cvs1 cvs2 cvs3 ltvs
  refine (HLs.out _).mono ?_
  rintro e w4 ⟨rfl, b4⟩
  replace vs := vs.mono b4
  replace vt := vt.mono b4
  replace vu := vu.mono b4
  replace ht := ht.mono b4
  replace B := below_trans B b4
  clear b4
  go_wp2_with fail
  refine (lives_calls _ ht).mono ?_
  rintro e w5 ⟨rfl, b5⟩
  replace vs := vs.mono b5
  replace vt := vt.mono b5
  replace vu := vu.mono b5
  replace ht := ht.mono b5
  replace B := below_trans B b5
  clear b5
  go_wp2
  go_ret
  exact ⟨rfl, B⟩

set_option maxRecDepth 100000 in
set_option maxHeartbeats 1000000 in
theorem order_stop4 (s t u : T4) (w : World) (hS : i64 s.a ∧ i64 s.b ∧ i64 s.c ∧ i64 s.d) (hT : i64 t.a ∧ i64 t.b ∧ i64 t.c ∧ i64 t.d) (hU : i64 u.a ∧ i64 u.b ∧ i64 u.c ∧ i64 u.d) (ht : Tab w) (h1 : validB s.a s.b s.c s.d = true) (h2 : validB t.a t.b t.c t.d = true) (h3 : validB u.a u.b u.c u.d = true) (g1 : -60 ≤ s.a ∧ s.a ≤ 60 ∧ -60 ≤ s.b ∧ s.b ≤ 60 ∧ -60 ≤ s.c ∧ s.c ≤ 60) (g2 : ¬ (-60 ≤ t.a ∧ t.a ≤ 60 ∧ -60 ≤ t.b ∧ t.b ≤ 60 ∧ -60 ≤ t.c ∧ t.c ≤ 60)) :
    Calls Tryd.prog 13 #[.agg #[.int .i64 s.a, .int .i64 s.b, .int .i64 s.c, .int .i64 s.d], .agg #[.int .i64 t.a, .int .i64 t.b, .int .i64 t.c, .int .i64 t.d], .agg #[.int .i64 u.a, .int .i64 u.b, .int .i64 u.c, .int .i64 u.d]] w (RetTrue w) := by
  have Vs := fun w : World => rvalid_calls s w hS
  rw [h1] at Vs
  have HVs := Lib.hid Vs
  clear Vs
  have Vt := fun w : World => rvalid_calls t w hT
  rw [h2] at Vt
  have HVt := Lib.hid Vt
  clear Vt
  have Vu := fun w : World => rvalid_calls u w hU
  rw [h3] at Vu
  have HVu := Lib.hid Vu
  clear Vu
  have Ls := fun w : World => large_no s 60 w (by omega) (by omega) g1
  have HLs := Lib.hid Ls
  clear Ls
  have Lt := fun w : World => large_yes t 60 w (by omega) (by omega) g2
  have HLt := Lib.hid Lt
  clear Lt
  clear hS hT hU h1 h2 h3 g1 g2
  have vs := Vals.newL w (w.heap.size) [.int .i64 s.a, .int .i64 s.b, .int .i64 s.c, .int .i64 s.d] 23 rfl
  have bb := below_alloc w (.cells #[.int .i64 s.a, .int .i64 s.b, .int .i64 s.c, .int .i64 s.d] 23)
  have B := bb
  have sz0 := World.size_alloc w (.cells #[.int .i64 s.a, .int .i64 s.b, .int .i64 s.c, .int .i64 s.d] 23)
  have sz := sz0
  clear sz0
  clear bb
  have vt := Vals.newL (w.alloc (.cells #[.int .i64 s.a, .int .i64 s.b, .int .i64 s.c, .int .i64 s.d] 23)) (w.heap.size + 1) [.int .i64 t.a, .int .i64 t.b, .int .i64 t.c, .int .i64 t.d] 23 sz.symm
  have bb := below_alloc (w.alloc (.cells #[.int .i64 s.a, .int .i64 s.b, .int .i64 s.c, .int .i64 s.d] 23)) (.cells #[.int .i64 t.a, .int .i64 t.b, .int .i64 t.c, .int .i64 t.d] 23)
  replace vs := vs.mono bb
  replace B := below_trans B bb
  clear bb
  have sz1 := World.size_alloc (w.alloc (.cells #[.int .i64 s.a, .int .i64 s.b, .int .i64 s.c, .int .i64 s.d] 23)) (.cells #[.int .i64 t.a, .int .i64 t.b, .int .i64 t.c, .int .i64 t.d] 23)
  rw [sz] at sz1
  clear sz
  have sz := sz1
  clear sz1
  have vu := Vals.newL ((w.alloc (.cells #[.int .i64 s.a, .int .i64 s.b, .int .i64 s.c, .int .i64 s.d] 23)).alloc (.cells #[.int .i64 t.a, .int .i64 t.b, .int .i64 t.c, .int .i64 t.d] 23)) (w.heap.size + 1 + 1) [.int .i64 u.a, .int .i64 u.b, .int .i64 u.c, .int .i64 u.d] 23 sz.symm
  have bb := below_alloc ((w.alloc (.cells #[.int .i64 s.a, .int .i64 s.b, .int .i64 s.c, .int .i64 s.d] 23)).alloc (.cells #[.int .i64 t.a, .int .i64 t.b, .int .i64 t.c, .int .i64 t.d] 23)) (.cells #[.int .i64 u.a, .int .i64 u.b, .int .i64 u.c, .int .i64 u.d] 23)
  replace vs := vs.mono bb
  replace vt := vt.mono bb
  replace B := below_trans B bb
  clear sz
  have bb0 := B
  clear bb
  go_enter Tryd.func13, Tryd.ntmps13
  go_wp2_with fail
  generalize (((w.alloc (.cells #[.int .i64 s.a, .int .i64 s.b, .int .i64 s.c, .int .i64 s.d] 23)).alloc (.cells #[.int .i64 t.a, .int .i64 t.b, .int .i64 t.c, .int .i64 t.d] 23)).alloc (.cells #[.int .i64 u.a, .int .i64 u.b, .int .i64 u.c, .int .i64 u.d] 23)) = w0 at *
  replace ht := ht.mono bb0
  clear bb0
  refine (HVs.out _).mono ?_
  rintro e w1 ⟨rfl, b1⟩
  replace vs := vs.mono b1
  replace vt := vt.mono b1
  replace vu := vu.mono b1
  replace ht := ht.mono b1
  replace B := below_trans B b1
  clear b1
  have cvt0 := vt.cell (i := 0) (by simp)
  have cvt1 := vt.cell (i := 1) (by simp)
  have cvt2 := vt.cell (i := 2) (by simp)
  have cvt3 := vt.cell (i := 3) (by simp)
  simp only [List.getD_cons_zero, List.getD_cons_succ] at cvt0 cvt1 cvt2 cvt3
  have ltvt := vt.lt
  go_wp2_with fail
  clear cvt0 cvt1 cvt2 cvt3 ltvt
  refine (HVt.out _).mono ?_
  rintro e w2 ⟨rfl, b2⟩
  replace vs := vs.mono b2
  replace vt := vt.mono b2
  replace vu := vu.mono b2
  replace ht := ht.mono b2
  replace B := below_trans B b2
  clear b2
  have cvu0 := vu.cell (i := 0) (by simp)
  have cvu1 := vu.cell (i := 1) (by simp)
  have cvu2 := vu.cell (i := 2) (by simp)
  have cvu3 := vu.cell (i := 3) (by simp)
  simp only [List.getD_cons_zero, List.getD_cons_succ] at cvu0 cvu1 cvu2 cvu3
  have ltvu := vu.lt
  go_wp2_with fail
  clear cvu0 cvu1 cvu2 cvu3 ltvu
  refine (HVu.out _).mono ?_
  rintro e w3 ⟨rfl, b3⟩
  replace vs := vs.mono b3
  replace vt := vt.mono b3
  replace vu := vu.mono b3
  replace ht := ht.mono b3
  replace B := below_trans B b3
  clear b3
  have cvs0 := vs.cell (i := 0) (by simp)
  have cvs1 := vs.cell (i := 1) (by simp)
  have cvs2 := vs.cell (i := 2) (by simp)
  have cvs3 := vs.cell (i := 3) (by simp)
  simp only [List.getD_cons_zero, List.getD_cons_succ] at cvs0 cvs1 cvs2 cvs3
  have ltvs := vs.lt
  go_wp2_with fail
  clear cvs0 cvs1 cvs2 cvs3 ltvs
  refine (HLs.out _).mono ?_
  rintro e w4 ⟨rfl, b4⟩
  replace vs := vs.mono b4
  replace vt := vt.mono b4
  replace vu := vu.mono b4
  replace ht := ht.mono b4
  replace B := below_trans B b4
  clear b4
  have cvt0 := vt.cell (i := 0) (by simp)
  have cvt1 := vt.cell (i := 1) (by simp)
  have cvt2 := vt.cell (i := 2) (by simp)
  have cvt3 := vt.cell (i := 3) (by simp)
  simp only [List.getD_cons_zero, List.getD_cons_succ] at cvt0 cvt1 cvt2 cvt3
  have ltvt := vt.lt
  go_wp2_with fail
  clear cvt0 cvt1 cvt2 cvt3 ltvt
  refine (HLt.out _).mono ?_
  rintro e w5 ⟨rfl, b5⟩
  replace vs := vs.mono b5
  replace vt := vt.mono b5
  replace vu := vu.mono b5
  replace ht := ht.mono b5
  replace B := below_trans B b5
  clear b5
  go_wp2_with fail
  refine (lives_calls _ ht).mono ?_
  rintro e w6 ⟨rfl, b6⟩
  replace vs := vs.mono b6
  replace vt := vt.mono b6
  replace vu := vu.mono b6
  replace ht := ht.mono b6
  replace B := below_trans B b6
  clear b6
  go_wp2
  go_ret
  exact ⟨rfl, B⟩

set_option maxRecDepth 100000 in
set_option maxHeartbeats 1000000 in
theorem order_stop5 (s t u : T4) (w : World) (hS : i64 s.a ∧ i64 s.b ∧ i64 s.c ∧ i64 s.d) (hT : i64 t.a ∧ i64 t.b ∧ i64 t.c ∧ i64 t.d) (hU : i64 u.a ∧ i64 u.b ∧ i64 u.c ∧ i64 u.d) (ht : Tab w) (h1 : validB s.a s.b s.c s.d = true) (h2 : validB t.a t.b t.c t.d = true) (h3 : validB u.a u.b u.c u.d = true) (g1 : -60 ≤ s.a ∧ s.a ≤ 60 ∧ -60 ≤ s.b ∧ s.b ≤ 60 ∧ -60 ≤ s.c ∧ s.c ≤ 60) (g2 : -60 ≤ t.a ∧ t.a ≤ 60 ∧ -60 ≤ t.b ∧ t.b ≤ 60 ∧ -60 ≤ t.c ∧ t.c ≤ 60) (g3 : ¬ (-60 ≤ u.a ∧ u.a ≤ 60 ∧ -60 ≤ u.b ∧ u.b ≤ 60 ∧ -60 ≤ u.c ∧ u.c ≤ 60)) :
    Calls Tryd.prog 13 #[.agg #[.int .i64 s.a, .int .i64 s.b, .int .i64 s.c, .int .i64 s.d], .agg #[.int .i64 t.a, .int .i64 t.b, .int .i64 t.c, .int .i64 t.d], .agg #[.int .i64 u.a, .int .i64 u.b, .int .i64 u.c, .int .i64 u.d]] w (RetTrue w) := by
  have Vs := fun w : World => rvalid_calls s w hS
  rw [h1] at Vs
  have HVs := Lib.hid Vs
  clear Vs
  have Vt := fun w : World => rvalid_calls t w hT
  rw [h2] at Vt
  have HVt := Lib.hid Vt
  clear Vt
  have Vu := fun w : World => rvalid_calls u w hU
  rw [h3] at Vu
  have HVu := Lib.hid Vu
  clear Vu
  have Ls := fun w : World => large_no s 60 w (by omega) (by omega) g1
  have HLs := Lib.hid Ls
  clear Ls
  have Lt := fun w : World => large_no t 60 w (by omega) (by omega) g2
  have HLt := Lib.hid Lt
  clear Lt
  have Lu := fun w : World => large_yes u 60 w (by omega) (by omega) g3
  have HLu := Lib.hid Lu
  clear Lu
  clear hS hT hU h1 h2 h3 g1 g2 g3
  have vs := Vals.newL w (w.heap.size) [.int .i64 s.a, .int .i64 s.b, .int .i64 s.c, .int .i64 s.d] 23 rfl
  have bb := below_alloc w (.cells #[.int .i64 s.a, .int .i64 s.b, .int .i64 s.c, .int .i64 s.d] 23)
  have B := bb
  have sz0 := World.size_alloc w (.cells #[.int .i64 s.a, .int .i64 s.b, .int .i64 s.c, .int .i64 s.d] 23)
  have sz := sz0
  clear sz0
  clear bb
  have vt := Vals.newL (w.alloc (.cells #[.int .i64 s.a, .int .i64 s.b, .int .i64 s.c, .int .i64 s.d] 23)) (w.heap.size + 1) [.int .i64 t.a, .int .i64 t.b, .int .i64 t.c, .int .i64 t.d] 23 sz.symm
  have bb := below_alloc (w.alloc (.cells #[.int .i64 s.a, .int .i64 s.b, .int .i64 s.c, .int .i64 s.d] 23)) (.cells #[.int .i64 t.a, .int .i64 t.b, .int .i64 t.c, .int .i64 t.d] 23)
  replace vs := vs.mono bb
  replace B := below_trans B bb
  clear bb
  have sz1 := World.size_alloc (w.alloc (.cells #[.int .i64 s.a, .int .i64 s.b, .int .i64 s.c, .int .i64 s.d] 23)) (.cells #[.int .i64 t.a, .int .i64 t.b, .int .i64 t.c, .int .i64 t.d] 23)
  rw [sz] at sz1
  clear sz
  have sz := sz1
  clear sz1
  have vu := Vals.newL ((w.alloc (.cells #[.int .i64 s.a, .int .i64 s.b, .int .i64 s.c, .int .i64 s.d] 23)).alloc (.cells #[.int .i64 t.a, .int .i64 t.b, .int .i64 t.c, .int .i64 t.d] 23)) (w.heap.size + 1 + 1) [.int .i64 u.a, .int .i64 u.b, .int .i64 u.c, .int .i64 u.d] 23 sz.symm
  have bb := below_alloc ((w.alloc (.cells #[.int .i64 s.a, .int .i64 s.b, .int .i64 s.c, .int .i64 s.d] 23)).alloc (.cells #[.int .i64 t.a, .int .i64 t.b, .int .i64 t.c, .int .i64 t.d] 23)) (.cells #[.int .i64 u.a, .int .i64 u.b, .int .i64 u.c, .int .i64 u.d] 23)
  replace vs := vs.mono bb
  replace vt := vt.mono bb
  replace B := below_trans B bb
  clear sz
  have bb0 := B
  clear bb
  go_enter Tryd.func13, Tryd.ntmps13
  go_wp2_with fail
  generalize (((w.alloc (.cells #[.int .i64 s.a, .int .i64 s.b, .int .i64 s.c, .int .i64 s.d] 23)).alloc (.cells #[.int .i64 t.a, .int .i64 t.b, .int .i64 t.c, .int .i64 t.d] 23)).alloc (.cells #[.int .i64 u.a, .int .i64 u.b, .int .i64 u.c, .int .i64 u.d] 23)) = w0 at *
  replace ht := ht.mono bb0
  clear bb0
  refine (HVs.out _).mono ?_
  rintro e w1 ⟨rfl, b1⟩
  replace vs := vs.mono b1
  replace vt := vt.mono b1
  replace vu := vu.mono b1
  replace ht := ht.mono b1
  replace B := below_trans B b1
  clear b1
  have cvt0 := vt.cell (i := 0) (by simp)
  have cvt1 := vt.cell (i := 1) (by simp)
  have cvt2 := vt.cell (i := 2) (by simp)
  have cvt3 := vt.cell (i := 3) (by simp)
  simp only [List.getD_cons_zero, List.getD_cons_succ] at cvt0 cvt1 cvt2 cvt3
  have ltvt := vt.lt
  go_wp2_with fail
  clear cvt0 cvt1 cvt2 cvt3 ltvt
  refine (HVt.out _).mono ?_
  rintro e w2 ⟨rfl, b2⟩
  replace vs := vs.mono b2
  replace vt := vt.mono b2
  replace vu := vu.mono b2
  replace ht := ht.mono b2
  replace B := below_trans B b2
  clear b2
  have cvu0 := vu.cell (i := 0) (by simp)
  have cvu1 := vu.cell (i := 1) (by simp)
  have cvu2 := vu.cell (i := 2) (by simp)
  have cvu3 := vu.cell (i := 3) (by simp)
  simp only [List.getD_cons_zero, List.getD_cons_succ] at cvu0 cvu1 cvu2 cvu3
  have ltvu := vu.lt
  go_wp2_with fail
  clear cvu0 cvu1 cvu2 cvu3 ltvu
  refine (HVu.out _).mono ?_
  rintro e w3 ⟨rfl, b3⟩
  replace vs := vs.mono b3
  replace vt := vt.mono b3
  replace vu := vu.mono b3
  replace ht := ht.mono b3
  replace B := below_trans B b3
  clear b3
  have cvs0 := vs.cell (i := 0) (by simp)
  have cvs1 := vs.cell (i := 1) (by simp)
  have cvs2 := vs.cell (i := 2) (by simp)
  have cvs3 := vs.cell (i := 3) (by simp)
  simp only [List.getD_cons_zero, List.getD_cons_succ] at cvs0 cvs1 cvs2 cvs3
  have ltvs := vs.lt
  go_wp2_with fail
  clear cvs0 cvs1 cvs2 cvs3 ltvs
  refine (HLs.out _).mono ?_
  rintro e w4 ⟨rfl, b4⟩
  replace vs := vs.mono b4
  replace vt := vt.mono b4
  replace vu := vu.mono b4
  replace ht := ht.mono b4
  replace B := below_trans B b4
  clear b4
  have cvt0 := vt.cell (i := 0) (by simp)
  have cvt1 := vt.cell (i := 1) (by simp)
  have cvt2 := vt.cell (i := 2) (by simp)
  have cvt3 := vt.cell (i := 3) (by simp)
  simp only [List.getD_cons_zero, List.getD_cons_succ] at cvt0 cvt1 cvt2 cvt3
  have ltvt := vt.lt
  go_wp2_with fail
  clear cvt0 cvt1 cvt2 cvt3 ltvt
  refine (HLt.out _).mono ?_
  rintro e w5 ⟨rfl, b5⟩
  replace vs := vs.mono b5
  replace vt := vt.mono b5
  replace vu := vu.mono b5
  replace ht := ht.mono b5
  replace B := below_trans B b5
  clear b5
  have cvu0 := vu.cell (i := 0) (by simp)
  have cvu1 := vu.cell (i := 1) (by simp)
  have cvu2 := vu.cell (i := 2) (by simp)
  have cvu3 := vu.cell (i := 3) (by simp)
  simp only [List.getD_cons_zero, List.getD_cons_succ] at cvu0 cvu1 cvu2 cvu3
  have ltvu := vu.lt
  go_wp2_with fail
  clear cvu0 cvu1 cvu2 cvu3 ltvu
  refine (HLu.out _).mono ?_
  rintro e w6 ⟨rfl, b6⟩
  replace vs := vs.mono b6
  replace vt := vt.mono b6
  replace vu := vu.mono b6
  replace ht := ht.mono b6
  replace B := below_trans B b6
  clear b6
  go_wp2_with fail
  refine (lives_calls _ ht).mono ?_
  rintro e w7 ⟨rfl, b7⟩
  replace vs := vs.mono b7
  replace vt := vt.mono b7
  replace vu := vu.mono b7
  replace ht := ht.mono b7
  replace B := below_trans B b7
  clear b7
  go_wp2
  go_ret
  exact ⟨rfl, B⟩

set_option maxRecDepth 100000 in
set_option maxHeartbeats 1000000 in
theorem order_0ok (s t u : T4) (w : World) (hS : i64 s.a ∧ i64 s.b ∧ i64 s.c ∧ i64 s.d) (hT : i64 t.a ∧ i64 t.b ∧ i64 t.c ∧ i64 t.d) (hU : i64 u.a ∧ i64 u.b ∧ i64 u.c ∧ i64 u.d) (ht : Tab w) (h1 : validB s.a s.b s.c s.d = true) (h2 : validB t.a t.b t.c t.d = true) (h3 : validB u.a u.b u.c u.d = true) (g1 : -60 ≤ s.a ∧ s.a ≤ 60 ∧ -60 ≤ s.b ∧ s.b ≤ 60 ∧ -60 ≤ s.c ∧ s.c ≤ 60) (g2 : -60 ≤ t.a ∧ t.a ≤ 60 ∧ -60 ≤ t.b ∧ t.b ≤ 60 ∧ -60 ≤ t.c ∧ t.c ≤ 60) (g3 : -60 ≤ u.a ∧ u.a ≤ 60 ∧ -60 ≤ u.b ∧ u.b ≤ 60 ∧ -60 ≤ u.c ∧ u.c ≤ 60) (ha : cmpT s t = (-1)) (f0 : decide (cmpT t u ≤ 0) = true) (f1 : decide (0 < cmpT s u) = false) (hk : (mulT s u).2 = 0) (hm : (mulT t u).2 = 0) :
    Calls Tryd.prog 13 #[.agg #[.int .i64 s.a, .int .i64 s.b, .int .i64 s.c, .int .i64 s.d], .agg #[.int .i64 t.a, .int .i64 t.b, .int .i64 t.c, .int .i64 t.d], .agg #[.int .i64 u.a, .int .i64 u.b, .int .i64 u.c, .int .i64 u.d]] w (RetTrue w) := by
  have Vs := fun w : World => rvalid_calls s w hS
  rw [h1] at Vs
  have HVs := Lib.hid Vs
  clear Vs
  have Vt := fun w : World => rvalid_calls t w hT
  rw [h2] at Vt
  have HVt := Lib.hid Vt
  clear Vt
  have Vu := fun w : World => rvalid_calls u w hU
  rw [h3] at Vu
  have HVu := Lib.hid Vu
  clear Vu
  have Ls := fun w : World => large_no s 60 w (by omega) (by omega) g1
  have HLs := Lib.hid Ls
  clear Ls
  have Lt := fun w : World => large_no t 60 w (by omega) (by omega) g2
  have HLt := Lib.hid Lt
  clear Lt
  have Lu := fun w : World => large_no u 60 w (by omega) (by omega) g3
  have HLu := Lib.hid Lu
  clear Lu
  have C1 := fun w : World => cmpT_ok s t w h1 h2
  have C2 := fun w : World => cmpT_ok t s w h2 h1
  have C3 := fun w : World => cmpT_ok t u w h2 h3
  have C4 := fun w : World => cmpT_ok s u w h1 h3
  simp only [cmpT_swap s t] at C2
  have he : ∀ w : World, (binOp .eql 23 (.agg #[.int .i64 s.a, .int .i64 s.b, .int .i64 s.c, .int .i64 s.d]) (.agg #[.int .i64 t.a, .int .i64 t.b, .int .i64 t.c, .int .i64 t.d])).run Tryd.prog w = .ok (.bool false) w := fun w => by
    rw [run_eql_tone s t]
    have : eqB s t = false := by
      rw [Bool.eq_false_iff]; intro h; have h9 := (eqB_iff s t).1 h; rw [h9, cmpT_self] at ha; omega
    rw [this]
  have R1 := fun w : World => mulT_ok s u w h1 h3
  have R2 := fun w : World => mulT_ok t u w h2 h3
  have okP : okT (mulT s u).1 := redT_okT hk
  have okQ : okT (mulT t u).1 := redT_okT hm
  have C5 := fun w : World => cmpT_ok (mulT s u).1 (mulT t u).1 w okP okQ
  rw [cmpT_mul h1 h2 h3 hk hm] at C5
  rw [ha] at C5
  clear okP okQ
  rw [ha] at C1
  simp only [ha] at C2
  generalize cmpT t u = c at *
  generalize cmpT s u = d at *
  generalize mulT s u = M at *
  generalize mulT t u = N at *
  obtain ⟨⟨p1, p2, p3, p4⟩, k⟩ := M
  obtain ⟨⟨q1, q2, q3, q4⟩, m⟩ := N
  dsimp only at *
  subst hk
  subst hm
  have H5 := Lib.hid C5
  clear C5
  have H1 := Lib.hid C1
  have H2 := Lib.hid C2
  have H3 := Lib.hid C3
  have H4 := Lib.hid C4
  have HR1 := Lib.hid R1
  have HR2 := Lib.hid R2
  clear C1 C2 C3 C4 R1 R2 h1 h2 h3 g1 g2 g3 hS hT hU ha
  have vs := Vals.newL w (w.heap.size) [.int .i64 s.a, .int .i64 s.b, .int .i64 s.c, .int .i64 s.d] 23 rfl
  have bb := below_alloc w (.cells #[.int .i64 s.a, .int .i64 s.b, .int .i64 s.c, .int .i64 s.d] 23)
  have B := bb
  have sz0 := World.size_alloc w (.cells #[.int .i64 s.a, .int .i64 s.b, .int .i64 s.c, .int .i64 s.d] 23)
  have sz := sz0
  clear sz0
  clear bb
  have vt := Vals.newL (w.alloc (.cells #[.int .i64 s.a, .int .i64 s.b, .int .i64 s.c, .int .i64 s.d] 23)) (w.heap.size + 1) [.int .i64 t.a, .int .i64 t.b, .int .i64 t.c, .int .i64 t.d] 23 sz.symm
  have bb := below_alloc (w.alloc (.cells #[.int .i64 s.a, .int .i64 s.b, .int .i64 s.c, .int .i64 s.d] 23)) (.cells #[.int .i64 t.a, .int .i64 t.b, .int .i64 t.c, .int .i64 t.d] 23)
  replace vs := vs.mono bb
  replace B := below_trans B bb
  clear bb
  have sz1 := World.size_alloc (w.alloc (.cells #[.int .i64 s.a, .int .i64 s.b, .int .i64 s.c, .int .i64 s.d] 23)) (.cells #[.int .i64 t.a, .int .i64 t.b, .int .i64 t.c, .int .i64 t.d] 23)
  rw [sz] at sz1
  clear sz
  have sz := sz1
  clear sz1
  have vu := Vals.newL ((w.alloc (.cells #[.int .i64 s.a, .int .i64 s.b, .int .i64 s.c, .int .i64 s.d] 23)).alloc (.cells #[.int .i64 t.a, .int .i64 t.b, .int .i64 t.c, .int .i64 t.d] 23)) (w.heap.size + 1 + 1) [.int .i64 u.a, .int .i64 u.b, .int .i64 u.c, .int .i64 u.d] 23 sz.symm
  have bb := below_alloc ((w.alloc (.cells #[.int .i64 s.a, .int .i64 s.b, .int .i64 s.c, .int .i64 s.d] 23)).alloc (.cells #[.int .i64 t.a, .int .i64 t.b, .int .i64 t.c, .int .i64 t.d] 23)) (.cells #[.int .i64 u.a, .int .i64 u.b, .int .i64 u.c, .int .i64 u.d] 23)
  replace vs := vs.mono bb
  replace vt := vt.mono bb
  replace B := below_trans B bb
  clear sz
  have bb0 := B
  clear bb
  go_enter Tryd.func13, Tryd.ntmps13
  go_wp2_with fail
  generalize (((w.alloc (.cells #[.int .i64 s.a, .int .i64 s.b, .int .i64 s.c, .int .i64 s.d] 23)).alloc (.cells #[.int .i64 t.a, .int .i64 t.b, .int .i64 t.c, .int .i64 t.d] 23)).alloc (.cells #[.int .i64 u.a, .int .i64 u.b, .int .i64 u.c, .int .i64 u.d] 23)) = w0 at *
  replace ht := ht.mono bb0
  clear bb0
  refine (HVs.out _).mono ?_
  rintro e w1 ⟨rfl, b1⟩
  replace vs := vs.mono b1
  replace vt := vt.mono b1
  replace vu := vu.mono b1
  replace ht := ht.mono b1
  replace B := below_trans B b1
  clear b1
  have cvt0 := vt.cell (i := 0) (by simp)
  have cvt1 := vt.cell (i := 1) (by simp)
  have cvt2 := vt.cell (i := 2) (by simp)
  have cvt3 := vt.cell (i := 3) (by simp)
  simp only [List.getD_cons_zero, List.getD_cons_succ] at cvt0 cvt1 cvt2 cvt3
  have ltvt := vt.lt
  go_wp2_with fail
  clear cvt0 cvt1 cvt2 cvt3 ltvt
  refine (HVt.out _).mono ?_
  rintro e w2 ⟨rfl, b2⟩
  replace vs := vs.mono b2
  replace vt := vt.mono b2
  replace vu := vu.mono b2
  replace ht := ht.mono b2
  replace B := below_trans B b2
  clear b2
  have cvu0 := vu.cell (i := 0) (by simp)
  have cvu1 := vu.cell (i := 1) (by simp)
  have cvu2 := vu.cell (i := 2) (by simp)
  have cvu3 := vu.cell (i := 3) (by simp)
  simp only [List.getD_cons_zero, List.getD_cons_succ] at cvu0 cvu1 cvu2 cvu3
  have ltvu := vu.lt
  go_wp2_with fail
  clear cvu0 cvu1 cvu2 cvu3 ltvu
  refine (HVu.out _).mono ?_
  rintro e w3 ⟨rfl, b3⟩
  replace vs := vs.mono b3
  replace vt := vt.mono b3
  replace vu := vu.mono b3
  replace ht := ht.mono b3
  replace B := below_trans B b3
  clear b3
  have cvs0 := vs.cell (i := 0) (by simp)
  have cvs1 := vs.cell (i := 1) (by simp)
  have cvs2 := vs.cell (i := 2) (by simp)
  have cvs3 := vs.cell (i := 3) (by simp)
  simp only [List.getD_cons_zero, List.getD_cons_succ] at cvs0 cvs1 cvs2 cvs3
  have ltvs := vs.lt
  go_wp2_with fail
  clear cvs0 cvs1 cvs2 cvs3 ltvs
  refine (HLs.out _).mono ?_
  rintro e w4 ⟨rfl, b4⟩
  replace vs := vs.mono b4
  replace vt := vt.mono b4
  replace vu := vu.mono b4
  replace ht := ht.mono b4
  replace B := below_trans B b4
  clear b4
  have cvt0 := vt.cell (i := 0) (by simp)
  have cvt1 := vt.cell (i := 1) (by simp)
  have cvt2 := vt.cell (i := 2) (by simp)
  have cvt3 := vt.cell (i := 3) (by simp)
  simp only [List.getD_cons_zero, List.getD_cons_succ] at cvt0 cvt1 cvt2 cvt3
  have ltvt := vt.lt
  go_wp2_with fail
  clear cvt0 cvt1 cvt2 cvt3 ltvt
  refine (HLt.out _).mono ?_
  rintro e w5 ⟨rfl, b5⟩
  replace vs := vs.mono b5
  replace vt := vt.mono b5
  replace vu := vu.mono b5
  replace ht := ht.mono b5
  replace B := below_trans B b5
  clear b5
  have cvu0 := vu.cell (i := 0) (by simp)
  have cvu1 := vu.cell (i := 1) (by simp)
  have cvu2 := vu.cell (i := 2) (by simp)
  have cvu3 := vu.cell (i := 3) (by simp)
  simp only [List.getD_cons_zero, List.getD_cons_succ] at cvu0 cvu1 cvu2 cvu3
  have ltvu := vu.lt
  go_wp2_with fail
  clear cvu0 cvu1 cvu2 cvu3 ltvu
  refine (HLu.out _).mono ?_
  rintro e w6 ⟨rfl, b6⟩
  replace vs := vs.mono b6
  replace vt := vt.mono b6
  replace vu := vu.mono b6
  replace ht := ht.mono b6
  replace B := below_trans B b6
  clear b6
  have cvs0 := vs.cell (i := 0) (by simp)
  have cvs1 := vs.cell (i := 1) (by simp)
  have cvs2 := vs.cell (i := 2) (by simp)
  have cvs3 := vs.cell (i := 3) (by simp)
  simp only [List.getD_cons_zero, List.getD_cons_succ] at cvs0 cvs1 cvs2 cvs3
  have ltvs := vs.lt
  have cvt0 := vt.cell (i := 0) (by simp)
  have cvt1 := vt.cell (i := 1) (by simp)
  have cvt2 := vt.cell (i := 2) (by simp)
  have cvt3 := vt.cell (i := 3) (by simp)
  simp only [List.getD_cons_zero, List.getD_cons_succ] at cvt0 cvt1 cvt2 cvt3
  have ltvt := vt.lt
  go_wp2_with fail
  clear cvs0 cvs1 cvs2 cvs3 ltvs cvt0 cvt1 cvt2 cvt3 ltvt
  refine (H1.out _).mono ?_
  rintro e w7 ⟨rfl, b7⟩
  replace vs := vs.mono b7
  replace vt := vt.mono b7
  replace vu := vu.mono b7
  replace ht := ht.mono b7
  replace B := below_trans B b7
  clear b7
  have cvt0 := vt.cell (i := 0) (by simp)
  have cvt1 := vt.cell (i := 1) (by simp)
  have cvt2 := vt.cell (i := 2) (by simp)
  have cvt3 := vt.cell (i := 3) (by simp)
  simp only [List.getD_cons_zero, List.getD_cons_succ] at cvt0 cvt1 cvt2 cvt3
  have ltvt := vt.lt
  have cvs0 := vs.cell (i := 0) (by simp)
  have cvs1 := vs.cell (i := 1) (by simp)
  have cvs2 := vs.cell (i := 2) (by simp)
  have cvs3 := vs.cell (i := 3) (by simp)
  simp only [List.getD_cons_zero, List.getD_cons_succ] at cvs0 cvs1 cvs2 cvs3
  have ltvs := vs.lt
  go_wp2_with fail
  clear cvt0 cvt1 cvt2 cvt3 ltvt cvs0 cvs1 cvs2 cvs3 ltvs
  refine (H2.out _).mono ?_
  rintro e w8 ⟨rfl, b8⟩
  replace vs := vs.mono b8
  replace vt := vt.mono b8
  replace vu := vu.mono b8
  replace ht := ht.mono b8
  replace B := below_trans B b8
  clear b8
  have cvt0 := vt.cell (i := 0) (by simp)
  have cvt1 := vt.cell (i := 1) (by simp)
  have cvt2 := vt.cell (i := 2) (by simp)
  have cvt3 := vt.cell (i := 3) (by simp)
  simp only [List.getD_cons_zero, List.getD_cons_succ] at cvt0 cvt1 cvt2 cvt3
  have ltvt := vt.lt
  have cvu0 := vu.cell (i := 0) (by simp)
  have cvu1 := vu.cell (i := 1) (by simp)
  have cvu2 := vu.cell (i := 2) (by simp)
  have cvu3 := vu.cell (i := 3) (by simp)
  simp only [List.getD_cons_zero, List.getD_cons_succ] at cvu0 cvu1 cvu2 cvu3
  have ltvu := vu.lt
  go_wp2_with fail
  clear cvt0 cvt1 cvt2 cvt3 ltvt cvu0 cvu1 cvu2 cvu3 ltvu
  refine (H3.out _).mono ?_
  rintro e w9 ⟨rfl, b9⟩
  replace vs := vs.mono b9
  replace vt := vt.mono b9
  replace vu := vu.mono b9
  replace ht := ht.mono b9
  replace B := below_trans B b9
  clear b9
  have cvs0 := vs.cell (i := 0) (by simp)
  have cvs1 := vs.cell (i := 1) (by simp)
  have cvs2 := vs.cell (i := 2) (by simp)
  have cvs3 := vs.cell (i := 3) (by simp)
  simp only [List.getD_cons_zero, List.getD_cons_succ] at cvs0 cvs1 cvs2 cvs3
  have ltvs := vs.lt
  have cvu0 := vu.cell (i := 0) (by simp)
  have cvu1 := vu.cell (i := 1) (by simp)
  have cvu2 := vu.cell (i := 2) (by simp)
  have cvu3 := vu.cell (i := 3) (by simp)
  simp only [List.getD_cons_zero, List.getD_cons_succ] at cvu0 cvu1 cvu2 cvu3
  have ltvu := vu.lt
  go_wp2_with fail
  clear cvs0 cvs1 cvs2 cvs3 ltvs cvu0 cvu1 cvu2 cvu3 ltvu
  refine (H4.out _).mono ?_
  rintro e w10 ⟨rfl, b10⟩
  replace vs := vs.mono b10
  replace vt := vt.mono b10
  replace vu := vu.mono b10
  replace ht := ht.mono b10
  replace B := below_trans B b10
  clear b10
  have cvs0 := vs.cell (i := 0) (by simp)
  have cvs1 := vs.cell (i := 1) (by simp)
  have cvs2 := vs.cell (i := 2) (by simp)
  have cvs3 := vs.cell (i := 3) (by simp)
  simp only [List.getD_cons_zero, List.getD_cons_succ] at cvs0 cvs1 cvs2 cvs3
  have ltvs := vs.lt
  have cvt0 := vt.cell (i := 0) (by simp)
  have cvt1 := vt.cell (i := 1) (by simp)
  have cvt2 := vt.cell (i := 2) (by simp)
  have cvt3 := vt.cell (i := 3) (by simp)
  simp only [List.getD_cons_zero, List.getD_cons_succ] at cvt0 cvt1 cvt2 cvt3
  have ltvt := vt.lt
  go_wp2_with fail
  clear cvs0 cvs1 cvs2 cvs3 ltvs cvt0 cvt1 cvt2 cvt3 ltvt
  refine (lives_calls _ ht).mono ?_
  rintro e w11 ⟨rfl, b11⟩
  replace vs := vs.mono b11
  replace vt := vt.mono b11
  replace vu := vu.mono b11
  replace ht := ht.mono b11
  replace B := below_trans B b11
  clear b11
  have cvs0 := vs.cell (i := 0) (by simp)
  have cvs1 := vs.cell (i := 1) (by simp)
  have cvs2 := vs.cell (i := 2) (by simp)
  have cvs3 := vs.cell (i := 3) (by simp)
  simp only [List.getD_cons_zero, List.getD_cons_succ] at cvs0 cvs1 cvs2 cvs3
  have ltvs := vs.lt
  have cvu0 := vu.cell (i := 0) (by simp)
  have cvu1 := vu.cell (i := 1) (by simp)
  have cvu2 := vu.cell (i := 2) (by simp)
  have cvu3 := vu.cell (i := 3) (by simp)
  simp only [List.getD_cons_zero, List.getD_cons_succ] at cvu0 cvu1 cvu2 cvu3
  have ltvu := vu.lt
  go_wp2_with fail
  clear cvs0 cvs1 cvs2 cvs3 ltvs cvu0 cvu1 cvu2 cvu3 ltvu
  refine (HR1.out _).mono ?_
  rintro e w12 ⟨rfl, b12⟩
  replace vs := vs.mono b12
  replace vt := vt.mono b12
  replace vu := vu.mono b12
  replace ht := ht.mono b12
  replace B := below_trans B b12
  clear b12
  have cvt0 := vt.cell (i := 0) (by simp)
  have cvt1 := vt.cell (i := 1) (by simp)
  have cvt2 := vt.cell (i := 2) (by simp)
  have cvt3 := vt.cell (i := 3) (by simp)
  simp only [List.getD_cons_zero, List.getD_cons_succ] at cvt0 cvt1 cvt2 cvt3
  have ltvt := vt.lt
  have cvu0 := vu.cell (i := 0) (by simp)
  have cvu1 := vu.cell (i := 1) (by simp)
  have cvu2 := vu.cell (i := 2) (by simp)
  have cvu3 := vu.cell (i := 3) (by simp)
  simp only [List.getD_cons_zero, List.getD_cons_succ] at cvu0 cvu1 cvu2 cvu3
  have ltvu := vu.lt
  go_wp2_with fail
  clear cvt0 cvt1 cvt2 cvt3 ltvt cvu0 cvu1 cvu2 cvu3 ltvu
  have v1 := Vals.newL w12 w12.heap.size [.int .i64 p1, .int .i64 p2, .int .i64 p3, .int .i64 p4] 23 rfl
  have bb := below_alloc w12 (.cells #[.int .i64 p1, .int .i64 p2, .int .i64 p3, .int .i64 p4] 23)
  replace vs := vs.mono bb
  replace vt := vt.mono bb
  replace vu := vu.mono bb
  replace ht := ht.mono bb
  replace B := below_trans B bb
  clear bb
  generalize w12.alloc (.cells #[.int .i64 p1, .int .i64 p2, .int .i64 p3, .int .i64 p4] 23) = w13 at *
  refine (HR2.out _).mono ?_
  rintro e w14 ⟨rfl, b14⟩
  replace vs := vs.mono b14
  replace vt := vt.mono b14
  replace vu := vu.mono b14
  replace ht := ht.mono b14
  replace v1 := v1.mono b14
  replace B := below_trans B b14
  clear b14
  have cv10 := v1.cell (i := 0) (by simp)
  have cv11 := v1.cell (i := 1) (by simp)
  have cv12 := v1.cell (i := 2) (by simp)
  have cv13 := v1.cell (i := 3) (by simp)
  simp only [List.getD_cons_zero, List.getD_cons_succ] at cv10 cv11 cv12 cv13
  have ltv1 := v1.lt
  go_wp2_with fail
  clear cv10 cv11 cv12 cv13 ltv1
  have v2 := Vals.newL w14 w14.heap.size [.int .i64 q1, .int .i64 q2, .int .i64 q3, .int .i64 q4] 23 rfl
  have bb := below_alloc w14 (.cells #[.int .i64 q1, .int .i64 q2, .int .i64 q3, .int .i64 q4] 23)
  replace vs := vs.mono bb
  replace vt := vt.mono bb
  replace vu := vu.mono bb
  replace ht := ht.mono bb
  replace v1 := v1.mono bb
  replace B := below_trans B bb
  clear bb
  generalize w14.alloc (.cells #[.int .i64 q1, .int .i64 q2, .int .i64 q3, .int .i64 q4] 23) = w15 at *
  refine (H5.out _).mono ?_
  rintro e w16 ⟨rfl, b16⟩
  replace vs := vs.mono b16
  replace vt := vt.mono b16
  replace vu := vu.mono b16
  replace ht := ht.mono b16
  replace v1 := v1.mono b16
  replace v2 := v2.mono b16
  replace B := below_trans B b16
  clear b16
  go_wp2
  go_ret
  exact ⟨rfl, B⟩

set_option maxRecDepth 100000 in
set_option maxHeartbeats 1000000 in
theorem order_0e1 (s t u : T4) (w : World) (hS : i64 s.a ∧ i64 s.b ∧ i64 s.c ∧ i64 s.d) (hT : i64 t.a ∧ i64 t.b ∧ i64 t.c ∧ i64 t.d) (hU : i64 u.a ∧ i64 u.b ∧ i64 u.c ∧ i64 u.d) (ht : Tab w) (h1 : validB s.a s.b s.c s.d = true) (h2 : validB t.a t.b t.c t.d = true) (h3 : validB u.a u.b u.c u.d = true) (g1 : -60 ≤ s.a ∧ s.a ≤ 60 ∧ -60 ≤ s.b ∧ s.b ≤ 60 ∧ -60 ≤ s.c ∧ s.c ≤ 60) (g2 : -60 ≤ t.a ∧ t.a ≤ 60 ∧ -60 ≤ t.b ∧ t.b ≤ 60 ∧ -60 ≤ t.c ∧ t.c ≤ 60) (g3 : -60 ≤ u.a ∧ u.a ≤ 60 ∧ -60 ≤ u.b ∧ u.b ≤ 60 ∧ -60 ≤ u.c ∧ u.c ≤ 60) (ha : cmpT s t = (-1)) (f0 : decide (cmpT t u ≤ 0) = true) (f1 : decide (0 < cmpT s u) = false) (hk : ((mulT s u).2 != 0) = true) :
    Calls Tryd.prog 13 #[.agg #[.int .i64 s.a, .int .i64 s.b, .int .i64 s.c, .int .i64 s.d], .agg #[.int .i64 t.a, .int .i64 t.b, .int .i64 t.c, .int .i64 t.d], .agg #[.int .i64 u.a, .int .i64 u.b, .int .i64 u.c, .int .i64 u.d]] w (RetTrue w) := by
  have Vs := fun w : World => rvalid_calls s w hS
  rw [h1] at Vs
  have HVs := Lib.hid Vs
  clear Vs
  have Vt := fun w : World => rvalid_calls t w hT
  rw [h2] at Vt
  have HVt := Lib.hid Vt
  clear Vt
  have Vu := fun w : World => rvalid_calls u w hU
  rw [h3] at Vu
  have HVu := Lib.hid Vu
  clear Vu
  have Ls := fun w : World => large_no s 60 w (by omega) (by omega) g1
  have HLs := Lib.hid Ls
  clear Ls
  have Lt := fun w : World => large_no t 60 w (by omega) (by omega) g2
  have HLt := Lib.hid Lt
  clear Lt
  have Lu := fun w : World => large_no u 60 w (by omega) (by omega) g3
  have HLu := Lib.hid Lu
  clear Lu
  have C1 := fun w : World => cmpT_ok s t w h1 h2
  have C2 := fun w : World => cmpT_ok t s w h2 h1
  have C3 := fun w : World => cmpT_ok t u w h2 h3
  have C4 := fun w : World => cmpT_ok s u w h1 h3
  simp only [cmpT_swap s t] at C2
  have he : ∀ w : World, (binOp .eql 23 (.agg #[.int .i64 s.a, .int .i64 s.b, .int .i64 s.c, .int .i64 s.d]) (.agg #[.int .i64 t.a, .int .i64 t.b, .int .i64 t.c, .int .i64 t.d])).run Tryd.prog w = .ok (.bool false) w := fun w => by
    rw [run_eql_tone s t]
    have : eqB s t = false := by
      rw [Bool.eq_false_iff]; intro h; have h9 := (eqB_iff s t).1 h; rw [h9, cmpT_self] at ha; omega
    rw [this]
  have R1 := fun w : World => mulT_ok s u w h1 h3
  have R2 := fun w : World => mulT_ok t u w h2 h3
  rw [ha] at C1
  simp only [ha] at C2
  generalize cmpT t u = c at *
  generalize cmpT s u = d at *
  generalize mulT s u = M at *
  generalize mulT t u = N at *
  obtain ⟨⟨p1, p2, p3, p4⟩, k⟩ := M
  obtain ⟨⟨q1, q2, q3, q4⟩, m⟩ := N
  dsimp only at *
  have H1 := Lib.hid C1
  have H2 := Lib.hid C2
  have H3 := Lib.hid C3
  have H4 := Lib.hid C4
  have HR1 := Lib.hid R1
  have HR2 := Lib.hid R2
  clear C1 C2 C3 C4 R1 R2 h1 h2 h3 g1 g2 g3 hS hT hU ha
  have vs := Vals.newL w (w.heap.size) [.int .i64 s.a, .int .i64 s.b, .int .i64 s.c, .int .i64 s.d] 23 rfl
  have bb := below_alloc w (.cells #[.int .i64 s.a, .int .i64 s.b, .int .i64 s.c, .int .i64 s.d] 23)
  have B := bb
  have sz0 := World.size_alloc w (.cells #[.int .i64 s.a, .int .i64 s.b, .int .i64 s.c, .int .i64 s.d] 23)
  have sz := sz0
  clear sz0
  clear bb
  have vt := Vals.newL (w.alloc (.cells #[.int .i64 s.a, .int .i64 s.b, .int .i64 s.c, .int .i64 s.d] 23)) (w.heap.size + 1) [.int .i64 t.a, .int .i64 t.b, .int .i64 t.c, .int .i64 t.d] 23 sz.symm
  have bb := below_alloc (w.alloc (.cells #[.int .i64 s.a, .int .i64 s.b, .int .i64 s.c, .int .i64 s.d] 23)) (.cells #[.int .i64 t.a, .int .i64 t.b, .int .i64 t.c, .int .i64 t.d] 23)
  replace vs := vs.mono bb
  replace B := below_trans B bb
  clear bb
  have sz1 := World.size_alloc (w.alloc (.cells #[.int .i64 s.a, .int .i64 s.b, .int .i64 s.c, .int .i64 s.d] 23)) (.cells #[.int .i64 t.a, .int .i64 t.b, .int .i64 t.c, .int .i64 t.d] 23)
  rw [sz] at sz1
  clear sz
  have sz := sz1
  clear sz1
  have vu := Vals.newL ((w.alloc (.cells #[.int .i64 s.a, .int .i64 s.b, .int .i64 s.c, .int .i64 s.d] 23)).alloc (.cells #[.int .i64 t.a, .int .i64 t.b, .int .i64 t.c, .int .i64 t.d] 23)) (w.heap.size + 1 + 1) [.int .i64 u.a, .int .i64 u.b, .int .i64 u.c, .int .i64 u.d] 23 sz.symm
  have bb := below_alloc ((w.alloc (.cells #[.int .i64 s.a, .int .i64 s.b, .int .i64 s.c, .int .i64 s.d] 23)).alloc (.cells #[.int .i64 t.a, .int .i64 t.b, .int .i64 t.c, .int .i64 t.d] 23)) (.cells #[.int .i64 u.a, .int .i64 u.b, .int .i64 u.c, .int .i64 u.d] 23)
  replace vs := vs.mono bb
  replace vt := vt.mono bb
  replace B := below_trans B bb
  clear sz
  have bb0 := B
  clear bb
  go_enter Tryd.func13, Tryd.ntmps13
  go_wp2_with fail
  generalize (((w.alloc (.cells #[.int .i64 s.a, .int .i64 s.b, .int .i64 s.c, .int .i64 s.d] 23)).alloc (.cells #[.int .i64 t.a, .int .i64 t.b, .int .i64 t.c, .int .i64 t.d] 23)).alloc (.cells #[.int .i64 u.a, .int .i64 u.b, .int .i64 u.c, .int .i64 u.d] 23)) = w0 at *
  replace ht := ht.mono bb0
  clear bb0
  refine (HVs.out _).mono ?_
  rintro e w1 ⟨rfl, b1⟩
  replace vs := vs.mono b1
  replace vt := vt.mono b1
  replace vu := vu.mono b1
  replace ht := ht.mono b1
  replace B := below_trans B b1
  clear b1
  have cvt0 := vt.cell (i := 0) (by simp)
  have cvt1 := vt.cell (i := 1) (by simp)
  have cvt2 := vt.cell (i := 2) (by simp)
  have cvt3 := vt.cell (i := 3) (by simp)
  simp only [List.getD_cons_zero, List.getD_cons_succ] at cvt0 cvt1 cvt2 cvt3
  have ltvt := vt.lt
  go_wp2_with fail
  clear cvt0 cvt1 cvt2 cvt3 ltvt
  refine (HVt.out _).mono ?_
  rintro e w2 ⟨rfl, b2⟩
  replace vs := vs.mono b2
  replace vt := vt.mono b2
  replace vu := vu.mono b2
  replace ht := ht.mono b2
  replace B := below_trans B b2
  clear b2
  have cvu0 := vu.cell (i := 0) (by simp)
  have cvu1 := vu.cell (i := 1) (by simp)
  have cvu2 := vu.cell (i := 2) (by simp)
  have cvu3 := vu.cell (i := 3) (by simp)
  simp only [List.getD_cons_zero, List.getD_cons_succ] at cvu0 cvu1 cvu2 cvu3
  have ltvu := vu.lt
  go_wp2_with fail
  clear cvu0 cvu1 cvu2 cvu3 ltvu
  refine (HVu.out _).mono ?_
  rintro e w3 ⟨rfl, b3⟩
  replace vs := vs.mono b3
  replace vt := vt.mono b3
  replace vu := vu.mono b3
  replace ht := ht.mono b3
  replace B := below_trans B b3
  clear b3
  have cvs0 := vs.cell (i := 0) (by simp)
  have cvs1 := vs.cell (i := 1) (by simp)
  have cvs2 := vs.cell (i := 2) (by simp)
  have cvs3 := vs.cell (i := 3) (by simp)
  simp only [List.getD_cons_zero, List.getD_cons_succ] at cvs0 cvs1 cvs2 cvs3
  have ltvs := vs.lt
  go_wp2_with fail
  clear cvs0 cvs1 cvs2 cvs3 ltvs
  refine (HLs.out _).mono ?_
  rintro e w4 ⟨rfl, b4⟩
  replace vs := vs.mono b4
  replace vt := vt.mono b4
  replace vu := vu.mono b4
  replace ht := ht.mono b4
  replace B := below_trans B b4
  clear b4
  have cvt0 := vt.cell (i := 0) (by simp)
  have cvt1 := vt.cell (i := 1) (by simp)
  have cvt2 := vt.cell (i := 2) (by simp)
  have cvt3 := vt.cell (i := 3) (by simp)
  simp only [List.getD_cons_zero, List.getD_cons_succ] at cvt0 cvt1 cvt2 cvt3
  have ltvt := vt.lt
  go_wp2_with fail
  clear cvt0 cvt1 cvt2 cvt3 ltvt
  refine (HLt.out _).mono ?_
  rintro e w5 ⟨rfl, b5⟩
  replace vs := vs.mono b5
  replace vt := vt.mono b5
  replace vu := vu.mono b5
  replace ht := ht.mono b5
  replace B := below_trans B b5
  clear b5
  have cvu0 := vu.cell (i := 0) (by simp)
  have cvu1 := vu.cell (i := 1) (by simp)
  have cvu2 := vu.cell (i := 2) (by simp)
  have cvu3 := vu.cell (i := 3) (by simp)
  simp only [List.getD_cons_zero, List.getD_cons_succ] at cvu0 cvu1 cvu2 cvu3
  have ltvu := vu.lt
  go_wp2_with fail
  clear cvu0 cvu1 cvu2 cvu3 ltvu
  refine (HLu.out _).mono ?_
  rintro e w6 ⟨rfl, b6⟩
  replace vs := vs.mono b6
  replace vt := vt.mono b6
  replace vu := vu.mono b6
  replace ht := ht.mono b6
  replace B := below_trans B b6
  clear b6
  have cvs0 := vs.cell (i := 0) (by simp)
  have cvs1 := vs.cell (i := 1) (by simp)
  have cvs2 := vs.cell (i := 2) (by simp)
  have cvs3 := vs.cell (i := 3) (by simp)
  simp only [List.getD_cons_zero, List.getD_cons_succ] at cvs0 cvs1 cvs2 cvs3
  have ltvs := vs.lt
  have cvt0 := vt.cell (i := 0) (by simp)
  have cvt1 := vt.cell (i := 1) (by simp)
  have cvt2 := vt.cell (i := 2) (by simp)
  have cvt3 := vt.cell (i := 3) (by simp)
  simp only [List.getD_cons_zero, List.getD_cons_succ] at cvt0 cvt1 cvt2 cvt3
  have ltvt := vt.lt
  go_wp2_with fail
  clear cvs0 cvs1 cvs2 cvs3 ltvs cvt0 cvt1 cvt2 cvt3 ltvt
  refine (H1.out _).mono ?_
  rintro e w7 ⟨rfl, b7⟩
  replace vs := vs.mono b7
  replace vt := vt.mono b7
  replace vu := vu.mono b7
  replace ht := ht.mono b7
  replace B := below_trans B b7
  clear b7
  have cvt0 := vt.cell (i := 0) (by simp)
  have cvt1 := vt.cell (i := 1) (by simp)
  have cvt2 := vt.cell (i := 2) (by simp)
  have cvt3 := vt.cell (i := 3) (by simp)
  simp only [List.getD_cons_zero, List.getD_cons_succ] at cvt0 cvt1 cvt2 cvt3
  have ltvt := vt.lt
  have cvs0 := vs.cell (i := 0) (by simp)
  have cvs1 := vs.cell (i := 1) (by simp)
  have cvs2 := vs.cell (i := 2) (by simp)
  have cvs3 := vs.cell (i := 3) (by simp)
  simp only [List.getD_cons_zero, List.getD_cons_succ] at cvs0 cvs1 cvs2 cvs3
  have ltvs := vs.lt
  go_wp2_with fail
  clear cvt0 cvt1 cvt2 cvt3 ltvt cvs0 cvs1 cvs2 cvs3 ltvs
  refine (H2.out _).mono ?_
  rintro e w8 ⟨rfl, b8⟩
  replace vs := vs.mono b8
  replace vt := vt.mono b8
  replace vu := vu.mono b8
  replace ht := ht.mono b8
  replace B := below_trans B b8
  clear b8
  have cvt0 := vt.cell (i := 0) (by simp)
  have cvt1 := vt.cell (i := 1) (by simp)
  have cvt2 := vt.cell (i := 2) (by simp)
  have cvt3 := vt.cell (i := 3) (by simp)
  simp only [List.getD_cons_zero, List.getD_cons_succ] at cvt0 cvt1 cvt2 cvt3
  have ltvt := vt.lt
  have cvu0 := vu.cell (i := 0) (by simp)
  have cvu1 := vu.cell (i := 1) (by simp)
  have cvu2 := vu.cell (i := 2) (by simp)
  have cvu3 := vu.cell (i := 3) (by simp)
  simp only [List.getD_cons_zero, List.getD_cons_succ] at cvu0 cvu1 cvu2 cvu3
  have ltvu := vu.lt
  go_wp2_with fail
  clear cvt0 cvt1 cvt2 cvt3 ltvt cvu0 cvu1 cvu2 cvu3 ltvu
  refine (H3.out _).mono ?_
  rintro e w9 ⟨rfl, b9⟩
  replace vs := vs.mono b9
  replace vt := vt.mono b9
  replace vu := vu.mono b9
  replace ht := ht.mono b9
  replace B := below_trans B b9
  clear b9
  have cvs0 := vs.cell (i := 0) (by simp)
  have cvs1 := vs.cell (i := 1) (by simp)
  have cvs2 := vs.cell (i := 2) (by simp)
  have cvs3 := vs.cell (i := 3) (by simp)
  simp only [List.getD_cons_zero, List.getD_cons_succ] at cvs0 cvs1 cvs2 cvs3
  have ltvs := vs.lt
  have cvu0 := vu.cell (i := 0) (by simp)
  have cvu1 := vu.cell (i := 1) (by simp)
  have cvu2 := vu.cell (i := 2) (by simp)
  have cvu3 := vu.cell (i := 3) (by simp)
  simp only [List.getD_cons_zero, List.getD_cons_succ] at cvu0 cvu1 cvu2 cvu3
  have ltvu := vu.lt
  go_wp2_with fail
  clear cvs0 cvs1 cvs2 cvs3 ltvs cvu0 cvu1 cvu2 cvu3 ltvu
  refine (H4.out _).mono ?_
  rintro e w10 ⟨rfl, b10⟩
  replace vs := vs.mono b10
  replace vt := vt.mono b10
  replace vu := vu.mono b10
  replace ht := ht.mono b10
  replace B := below_trans B b10
  clear b10
  have cvs0 := vs.cell (i := 0) (by simp)
  have cvs1 := vs.cell (i := 1) (by simp)
  have cvs2 := vs.cell (i := 2) (by simp)
  have cvs3 := vs.cell (i := 3) (by simp)
  simp only [List.getD_cons_zero, List.getD_cons_succ] at cvs0 cvs1 cvs2 cvs3
  have ltvs := vs.lt
  have cvt0 := vt.cell (i := 0) (by simp)
  have cvt1 := vt.cell (i := 1) (by simp)
  have cvt2 := vt.cell (i := 2) (by simp)
  have cvt3 := vt.cell (i := 3) (by simp)
  simp only [List.getD_cons_zero, List.getD_cons_succ] at cvt0 cvt1 cvt2 cvt3
  have ltvt := vt.lt
  go_wp2_with fail
  clear cvs0 cvs1 cvs2 cvs3 ltvs cvt0 cvt1 cvt2 cvt3 ltvt
  refine (lives_calls _ ht).mono ?_
  rintro e w11 ⟨rfl, b11⟩
  replace vs := vs.mono b11
  replace vt := vt.mono b11
  replace vu := vu.mono b11
  replace ht := ht.mono b11
  replace B := below_trans B b11
  clear b11
  have cvs0 := vs.cell (i := 0) (by simp)
  have cvs1 := vs.cell (i := 1) (by simp)
  have cvs2 := vs.cell (i := 2) (by simp)
  have cvs3 := vs.cell (i := 3) (by simp)
  simp only [List.getD_cons_zero, List.getD_cons_succ] at cvs0 cvs1 cvs2 cvs3
  have ltvs := vs.lt
  have cvu0 := vu.cell (i := 0) (by simp)
  have cvu1 := vu.cell (i := 1) (by simp)
  have cvu2 := vu.cell (i := 2) (by simp)
  have cvu3 := vu.cell (i := 3) (by simp)
  simp only [List.getD_cons_zero, List.getD_cons_succ] at cvu0 cvu1 cvu2 cvu3
  have ltvu := vu.lt
  go_wp2_with fail
  clear cvs0 cvs1 cvs2 cvs3 ltvs cvu0 cvu1 cvu2 cvu3 ltvu
  refine (HR1.out _).mono ?_
  rintro e w12 ⟨rfl, b12⟩
  replace vs := vs.mono b12
  replace vt := vt.mono b12
  replace vu := vu.mono b12
  replace ht := ht.mono b12
  replace B := below_trans B b12
  clear b12
  have cvt0 := vt.cell (i := 0) (by simp)
  have cvt1 := vt.cell (i := 1) (by simp)
  have cvt2 := vt.cell (i := 2) (by simp)
  have cvt3 := vt.cell (i := 3) (by simp)
  simp only [List.getD_cons_zero, List.getD_cons_succ] at cvt0 cvt1 cvt2 cvt3
  have ltvt := vt.lt
  have cvu0 := vu.cell (i := 0) (by simp)
  have cvu1 := vu.cell (i := 1) (by simp)
  have cvu2 := vu.cell (i := 2) (by simp)
  have cvu3 := vu.cell (i := 3) (by simp)
  simp only [List.getD_cons_zero, List.getD_cons_succ] at cvu0 cvu1 cvu2 cvu3
  have ltvu := vu.lt
  go_wp2_with fail
  clear cvt0 cvt1 cvt2 cvt3 ltvt cvu0 cvu1 cvu2 cvu3 ltvu
  have v1 := Vals.newL w12 w12.heap.size [.int .i64 p1, .int .i64 p2, .int .i64 p3, .int .i64 p4] 23 rfl
  have bb := below_alloc w12 (.cells #[.int .i64 p1, .int .i64 p2, .int .i64 p3, .int .i64 p4] 23)
  replace vs := vs.mono bb
  replace vt := vt.mono bb
  replace vu := vu.mono bb
  replace ht := ht.mono bb
  replace B := below_trans B bb
  clear bb
  generalize w12.alloc (.cells #[.int .i64 p1, .int .i64 p2, .int .i64 p3, .int .i64 p4] 23) = w13 at *
  refine (HR2.out _).mono ?_
  rintro e w14 ⟨rfl, b14⟩
  replace vs := vs.mono b14
  replace vt := vt.mono b14
  replace vu := vu.mono b14
  replace ht := ht.mono b14
  replace v1 := v1.mono b14
  replace B := below_trans B b14
  clear b14
  replace B := below_trans B (below_alloc _ (.cells #[.int .i64 q1, .int .i64 q2, .int .i64 q3, .int .i64 q4] 23))
  go_wp2
  go_ret
  exact ⟨rfl, B⟩

set_option maxRecDepth 100000 in
set_option maxHeartbeats 1000000 in
theorem order_0e2 (s t u : T4) (w : World) (hS : i64 s.a ∧ i64 s.b ∧ i64 s.c ∧ i64 s.d) (hT : i64 t.a ∧ i64 t.b ∧ i64 t.c ∧ i64 t.d) (hU : i64 u.a ∧ i64 u.b ∧ i64 u.c ∧ i64 u.d) (ht : Tab w) (h1 : validB s.a s.b s.c s.d = true) (h2 : validB t.a t.b t.c t.d = true) (h3 : validB u.a u.b u.c u.d = true) (g1 : -60 ≤ s.a ∧ s.a ≤ 60 ∧ -60 ≤ s.b ∧ s.b ≤ 60 ∧ -60 ≤ s.c ∧ s.c ≤ 60) (g2 : -60 ≤ t.a ∧ t.a ≤ 60 ∧ -60 ≤ t.b ∧ t.b ≤ 60 ∧ -60 ≤ t.c ∧ t.c ≤ 60) (g3 : -60 ≤ u.a ∧ u.a ≤ 60 ∧ -60 ≤ u.b ∧ u.b ≤ 60 ∧ -60 ≤ u.c ∧ u.c ≤ 60) (ha : cmpT s t = (-1)) (f0 : decide (cmpT t u ≤ 0) = true) (f1 : decide (0 < cmpT s u) = false) (hk : ((mulT s u).2 != 0) = false) (hm : ((mulT t u).2 != 0) = true) :
    Calls Tryd.prog 13 #[.agg #[.int .i64 s.a, .int .i64 s.b, .int .i64 s.c, .int .i64 s.d], .agg #[.int .i64 t.a, .int .i64 t.b, .int .i64 t.c, .int .i64 t.d], .agg #[.int .i64 u.a, .int .i64 u.b, .int .i64 u.c, .int .i64 u.d]] w (RetTrue w) := by
  have Vs := fun w : World => rvalid_calls s w hS
  rw [h1] at Vs
  have HVs := Lib.hid Vs
  clear Vs
  have Vt := fun w : World => rvalid_calls t w hT
  rw [h2] at Vt
  have HVt := Lib.hid Vt
  clear Vt
  have Vu := fun w : World => rvalid_calls u w hU
  rw [h3] at Vu
  have HVu := Lib.hid Vu
  clear Vu
  have Ls := fun w : World => large_no s 60 w (by omega) (by omega) g1
  have HLs := Lib.hid Ls
  clear Ls
  have Lt := fun w : World => large_no t 60 w (by omega) (by omega) g2
  have HLt := Lib.hid Lt
  clear Lt
  have Lu := fun w : World => large_no u 60 w (by omega) (by omega) g3
  have HLu := Lib.hid Lu
  clear Lu
  have C1 := fun w : World => cmpT_ok s t w h1 h2
  have C2 := fun w : World => cmpT_ok t s w h2 h1
  have C3 := fun w : World => cmpT_ok t u w h2 h3
  have C4 := fun w : World => cmpT_ok s u w h1 h3
  simp only [cmpT_swap s t] at C2
  have he : ∀ w : World, (binOp .eql 23 (.agg #[.int .i64 s.a, .int .i64 s.b, .int .i64 s.c, .int .i64 s.d]) (.agg #[.int .i64 t.a, .int .i64 t.b, .int .i64 t.c, .int .i64 t.d])).run Tryd.prog w = .ok (.bool false) w := fun w => by
    rw [run_eql_tone s t]
    have : eqB s t = false := by
      rw [Bool.eq_false_iff]; intro h; have h9 := (eqB_iff s t).1 h; rw [h9, cmpT_self] at ha; omega
    rw [this]
  have R1 := fun w : World => mulT_ok s u w h1 h3
  have R2 := fun w : World => mulT_ok t u w h2 h3
  rw [ha] at C1
  simp only [ha] at C2
  generalize cmpT t u = c at *
  generalize cmpT s u = d at *
  generalize mulT s u = M at *
  generalize mulT t u = N at *
  obtain ⟨⟨p1, p2, p3, p4⟩, k⟩ := M
  obtain ⟨⟨q1, q2, q3, q4⟩, m⟩ := N
  dsimp only at *
  have H1 := Lib.hid C1
  have H2 := Lib.hid C2
  have H3 := Lib.hid C3
  have H4 := Lib.hid C4
  have HR1 := Lib.hid R1
  have HR2 := Lib.hid R2
  clear C1 C2 C3 C4 R1 R2 h1 h2 h3 g1 g2 g3 hS hT hU ha
  have vs := Vals.newL w (w.heap.size) [.int .i64 s.a, .int .i64 s.b, .int .i64 s.c, .int .i64 s.d] 23 rfl
  have bb := below_alloc w (.cells #[.int .i64 s.a, .int .i64 s.b, .int .i64 s.c, .int .i64 s.d] 23)
  have B := bb
  have sz0 := World.size_alloc w (.cells #[.int .i64 s.a, .int .i64 s.b, .int .i64 s.c, .int .i64 s.d] 23)
  have sz := sz0
  clear sz0
  clear bb
  have vt := Vals.newL (w.alloc (.cells #[.int .i64 s.a, .int .i64 s.b, .int .i64 s.c, .int .i64 s.d] 23)) (w.heap.size + 1) [.int .i64 t.a, .int .i64 t.b, .int .i64 t.c, .int .i64 t.d] 23 sz.symm
  have bb := below_alloc (w.alloc (.cells #[.int .i64 s.a, .int .i64 s.b, .int .i64 s.c, .int .i64 s.d] 23)) (.cells #[.int .i64 t.a, .int .i64 t.b, .int .i64 t.c, .int .i64 t.d] 23)
  replace vs := vs.mono bb
  replace B := below_trans B bb
  clear bb
  have sz1 := World.size_alloc (w.alloc (.cells #[.int .i64 s.a, .int .i64 s.b, .int .i64 s.c, .int .i64 s.d] 23)) (.cells #[.int .i64 t.a, .int .i64 t.b, .int .i64 t.c, .int .i64 t.d] 23)
  rw [sz] at sz1
  clear sz
  have sz := sz1
  clear sz1
  have vu := Vals.newL ((w.alloc (.cells #[.int .i64 s.a, .int .i64 s.b, .int .i64 s.c, .int .i64 s.d] 23)).alloc (.cells #[.int .i64 t.a, .int .i64 t.b, .int .i64 t.c, .int .i64 t.d] 23)) (w.heap.size + 1 + 1) [.int .i64 u.a, .int .i64 u.b, .int .i64 u.c, .int .i64 u.d] 23 sz.symm
  have bb := below_alloc ((w.alloc (.cells #[.int .i64 s.a, .int .i64 s.b, .int .i64 s.c, .int .i64 s.d] 23)).alloc (.cells #[.int .i64 t.a, .int .i64 t.b, .int .i64 t.c, .int .i64 t.d] 23)) (.cells #[.int .i64 u.a, .int .i64 u.b, .int .i64 u.c, .int .i64 u.d] 23)
  replace vs := vs.mono bb
  replace vt := vt.mono bb
  replace B := below_trans B bb
  clear sz
  have bb0 := B
  clear bb
  go_enter Tryd.func13, Tryd.ntmps13
  go_wp2_with fail
  generalize (((w.alloc (.cells #[.int .i64 s.a, .int .i64 s.b, .int .i64 s.c, .int .i64 s.d] 23)).alloc (.cells #[.int .i64 t.a, .int .i64 t.b, .int .i64 t.c, .int .i64 t.d] 23)).alloc (.cells #[.int .i64 u.a, .int .i64 u.b, .int .i64 u.c, .int .i64 u.d] 23)) = w0 at *
  replace ht := ht.mono bb0
  clear bb0
  refine (HVs.out _).mono ?_
  rintro e w1 ⟨rfl, b1⟩
  replace vs := vs.mono b1
  replace vt := vt.mono b1
  replace vu := vu.mono b1
  replace ht := ht.mono b1
  replace B := below_trans B b1
  clear b1
  have cvt0 := vt.cell (i := 0) (by simp)
  have cvt1 := vt.cell (i := 1) (by simp)
  have cvt2 := vt.cell (i := 2) (by simp)
  have cvt3 := vt.cell (i := 3) (by simp)
  simp only [List.getD_cons_zero, List.getD_cons_succ] at cvt0 cvt1 cvt2 cvt3
  have ltvt := vt.lt
  go_wp2_with fail
  clear cvt0 cvt1 cvt2 cvt3 ltvt
  refine (HVt.out _).mono ?_
  rintro e w2 ⟨rfl, b2⟩
  replace vs := vs.mono b2
  replace vt := vt.mono b2
  replace vu := vu.mono b2
  replace ht := ht.mono b2
  replace B := below_trans B b2
  clear b2
  have cvu0 := vu.cell (i := 0) (by simp)
  have cvu1 := vu.cell (i := 1) (by simp)
  have cvu2 := vu.cell (i := 2) (by simp)
  have cvu3 := vu.cell (i := 3) (by simp)
  simp only [List.getD_cons_zero, List.getD_cons_succ] at cvu0 cvu1 cvu2 cvu3
  have ltvu := vu.lt
  go_wp2_with fail
  clear cvu0 cvu1 cvu2 cvu3 ltvu
  refine (HVu.out _).mono ?_
  rintro e w3 ⟨rfl, b3⟩
  replace vs := vs.mono b3
  replace vt := vt.mono b3
  replace vu := vu.mono b3
  replace ht := ht.mono b3
  replace B := below_trans B b3
  clear b3
  have cvs0 := vs.cell (i := 0) (by simp)
  have cvs1 := vs.cell (i := 1) (by simp)
  have cvs2 := vs.cell (i := 2) (by simp)
  have cvs3 := vs.cell (i := 3) (by simp)
  simp only [List.getD_cons_zero, List.getD_cons_succ] at cvs0 cvs1 cvs2 cvs3
  have ltvs := vs.lt
  go_wp2_with fail
  clear cvs0 cvs1 cvs2 cvs3 ltvs
  refine (HLs.out _).mono ?_
  rintro e w4 ⟨rfl, b4⟩
  replace vs := vs.mono b4
  replace vt := vt.mono b4
  replace vu := vu.mono b4
  replace ht := ht.mono b4
  replace B := below_trans B b4
  clear b4
  have cvt0 := vt.cell (i := 0) (by simp)
  have cvt1 := vt.cell (i := 1) (by simp)
  have cvt2 := vt.cell (i := 2) (by simp)
  have cvt3 := vt.cell (i := 3) (by simp)
  simp only [List.getD_cons_zero, List.getD_cons_succ] at cvt0 cvt1 cvt2 cvt3
  have ltvt := vt.lt
  go_wp2_with fail
  clear cvt0 cvt1 cvt2 cvt3 ltvt
  refine (HLt.out _).mono ?_
  rintro e w5 ⟨rfl, b5⟩
  replace vs := vs.mono b5
  replace vt := vt.mono b5
  replace vu := vu.mono b5
  replace ht := ht.mono b5
  replace B := below_trans B b5
  clear b5
  have cvu0 := vu.cell (i := 0) (by simp)
  have cvu1 := vu.cell (i := 1) (by simp)
  have cvu2 := vu.cell (i := 2) (by simp)
  have cvu3 := vu.cell (i := 3) (by simp)
  simp only [List.getD_cons_zero, List.getD_cons_succ] at cvu0 cvu1 cvu2 cvu3
  have ltvu := vu.lt
  go_wp2_with fail
  clear cvu0 cvu1 cvu2 cvu3 ltvu
  refine (HLu.out _).mono ?_
  rintro e w6 ⟨rfl, b6⟩
  replace vs := vs.mono b6
  replace vt := vt.mono b6
  replace vu := vu.mono b6
  replace ht := ht.mono b6
  replace B := below_trans B b6
  clear b6
  have cvs0 := vs.cell (i := 0) (by simp)
  have cvs1 := vs.cell (i := 1) (by simp)
  have cvs2 := vs.cell (i := 2) (by simp)
  have cvs3 := vs.cell (i := 3) (by simp)
  simp only [List.getD_cons_zero, List.getD_cons_succ] at cvs0 cvs1 cvs2 cvs3
  have ltvs := vs.lt
  have cvt0 := vt.cell (i := 0) (by simp)
  have cvt1 := vt.cell (i := 1) (by simp)
  have cvt2 := vt.cell (i := 2) (by simp)
  have cvt3 := vt.cell (i := 3) (by simp)
  simp only [List.getD_cons_zero, List.getD_cons_succ] at cvt0 cvt1 cvt2 cvt3
  have ltvt := vt.lt
  go_wp2_with fail
  clear cvs0 cvs1 cvs2 cvs3 ltvs cvt0 cvt1 cvt2 cvt3 ltvt
  refine (H1.out _).mono ?_
  rintro e w7 ⟨rfl, b7⟩
  replace vs := vs.mono b7
  replace vt := vt.mono b7
  replace vu := vu.mono b7
  replace ht := ht.mono b7
  replace B := below_trans B b7
  clear b7
  have cvt0 := vt.cell (i := 0) (by simp)
  have cvt1 := vt.cell (i := 1) (by simp)
  have cvt2 := vt.cell (i := 2) (by simp)
  have cvt3 := vt.cell (i := 3) (by simp)
  simp only [List.getD_cons_zero, List.getD_cons_succ] at cvt0 cvt1 cvt2 cvt3
  have ltvt := vt.lt
  have cvs0 := vs.cell (i := 0) (by simp)
  have cvs1 := vs.cell (i := 1) (by simp)
  have cvs2 := vs.cell (i := 2) (by simp)
  have cvs3 := vs.cell (i := 3) (by simp)
  simp only [List.getD_cons_zero, List.getD_cons_succ] at cvs0 cvs1 cvs2 cvs3
  have ltvs := vs.lt
  go_wp2_with fail
  clear cvt0 cvt1 cvt2 cvt3 ltvt cvs0 cvs1 cvs2 cvs3 ltvs
  refine (H2.out _).mono ?_
  rintro e w8 ⟨rfl, b8⟩
  replace vs := vs.mono b8
  replace vt := vt.mono b8
  replace vu := vu.mono b8
  replace ht := ht.mono b8
  replace B := below_trans B b8
  clear b8
  have cvt0 := vt.cell (i := 0) (by simp)
  have cvt1 := vt.cell (i := 1) (by simp)
  have cvt2 := vt.cell (i := 2) (by simp)
  have cvt3 := vt.cell (i := 3) (by simp)
  simp only [List.getD_cons_zero, List.getD_cons_succ] at cvt0 cvt1 cvt2 cvt3
  have ltvt := vt.lt
  have cvu0 := vu.cell (i := 0) (by simp)
  have cvu1 := vu.cell (i := 1) (by simp)
  have cvu2 := vu.cell (i := 2) (by simp)
  have cvu3 := vu.cell (i := 3) (by simp)
  simp only [List.getD_cons_zero, List.getD_cons_succ] at cvu0 cvu1 cvu2 cvu3
  have ltvu := vu.lt
  go_wp2_with fail
  clear cvt0 cvt1 cvt2 cvt3 ltvt cvu0 cvu1 cvu2 cvu3 ltvu
  refine (H3.out _).mono ?_
  rintro e w9 ⟨rfl, b9⟩
  replace vs := vs.mono b9
  replace vt := vt.mono b9
  replace vu := vu.mono b9
  replace ht := ht.mono b9
  replace B := below_trans B b9
  clear b9
  have cvs0 := vs.cell (i := 0) (by simp)
  have cvs1 := vs.cell (i := 1) (by simp)
  have cvs2 := vs.cell (i := 2) (by simp)
  have cvs3 := vs.cell (i := 3) (by simp)
  simp only [List.getD_cons_zero, List.getD_cons_succ] at cvs0 cvs1 cvs2 cvs3
  have ltvs := vs.lt
  have cvu0 := vu.cell (i := 0) (by simp)
  have cvu1 := vu.cell (i := 1) (by simp)
  have cvu2 := vu.cell (i := 2) (by simp)
  have cvu3 := vu.cell (i := 3) (by simp)
  simp only [List.getD_cons_zero, List.getD_cons_succ] at cvu0 cvu1 cvu2 cvu3
  have ltvu := vu.lt
  go_wp2_with fail
  clear cvs0 cvs1 cvs2 cvs3 ltvs cvu0 cvu1 cvu2 cvu3 ltvu
  refine (H4.out _).mono ?_
  rintro e w10 ⟨rfl, b10⟩
  replace vs := vs.mono b10
  replace vt := vt.mono b10
  replace vu := vu.mono b10
  replace ht := ht.mono b10
  replace B := below_trans B b10
  clear b10
  have cvs0 := vs.cell (i := 0) (by simp)
  have cvs1 := vs.cell (i := 1) (by simp)
  have cvs2 := vs.cell (i := 2) (by simp)
  have cvs3 := vs.cell (i := 3) (by simp)
  simp only [List.getD_cons_zero, List.getD_cons_succ] at cvs0 cvs1 cvs2 cvs3
  have ltvs := vs.lt
  have cvt0 := vt.cell (i := 0) (by simp)
  have cvt1 := vt.cell (i := 1) (by simp)
  have cvt2 := vt.cell (i := 2) (by simp)
  have cvt3 := vt.cell (i := 3) (by simp)
  simp only [List.getD_cons_zero, List.getD_cons_succ] at cvt0 cvt1 cvt2 cvt3
  have ltvt := vt.lt
  go_wp2_with fail
  clear cvs0 cvs1 cvs2 cvs3 ltvs cvt0 cvt1 cvt2 cvt3 ltvt
  refine (lives_calls _ ht).mono ?_
  rintro e w11 ⟨rfl, b11⟩
  replace vs := vs.mono b11
  replace vt := vt.mono b11
  replace vu := vu.mono b11
  replace ht := ht.mono b11
  replace B := below_trans B b11
  clear b11
  have cvs0 := vs.cell (i := 0) (by simp)
  have cvs1 := vs.cell (i := 1) (by simp)
  have cvs2 := vs.cell (i := 2) (by simp)
  have cvs3 := vs.cell (i := 3) (by simp)
  simp only [List.getD_cons_zero, List.getD_cons_succ] at cvs0 cvs1 cvs2 cvs3
  have ltvs := vs.lt
  have cvu0 := vu.cell (i := 0) (by simp)
  have cvu1 := vu.cell (i := 1) (by simp)
  have cvu2 := vu.cell (i := 2) (by simp)
  have cvu3 := vu.cell (i := 3) (by simp)
  simp only [List.getD_cons_zero, List.getD_cons_succ] at cvu0 cvu1 cvu2 cvu3
  have ltvu := vu.lt
  go_wp2_with fail
  clear cvs0 cvs1 cvs2 cvs3 ltvs cvu0 cvu1 cvu2 cvu3 ltvu
  refine (HR1.out _).mono ?_
  rintro e w12 ⟨rfl, b12⟩
  replace vs := vs.mono b12
  replace vt := vt.mono b12
  replace vu := vu.mono b12
  replace ht := ht.mono b12
  replace B := below_trans B b12
  clear b12
  have cvt0 := vt.cell (i := 0) (by simp)
  have cvt1 := vt.cell (i := 1) (by simp)
  have cvt2 := vt.cell (i := 2) (by simp)
  have cvt3 := vt.cell (i := 3) (by simp)
  simp only [List.getD_cons_zero, List.getD_cons_succ] at cvt0 cvt1 cvt2 cvt3
  have ltvt := vt.lt
  have cvu0 := vu.cell (i := 0) (by simp)
  have cvu1 := vu.cell (i := 1) (by simp)
  have cvu2 := vu.cell (i := 2) (by simp)
  have cvu3 := vu.cell (i := 3) (by simp)
  simp only [List.getD_cons_zero, List.getD_cons_succ] at cvu0 cvu1 cvu2 cvu3
  have ltvu := vu.lt
  go_wp2_with fail
  clear cvt0 cvt1 cvt2 cvt3 ltvt cvu0 cvu1 cvu2 cvu3 ltvu
  have v1 := Vals.newL w12 w12.heap.size [.int .i64 p1, .int .i64 p2, .int .i64 p3, .int .i64 p4] 23 rfl
  have bb := below_alloc w12 (.cells #[.int .i64 p1, .int .i64 p2, .int .i64 p3, .int .i64 p4] 23)
  replace vs := vs.mono bb
  replace vt := vt.mono bb
  replace vu := vu.mono bb
  replace ht := ht.mono bb
  replace B := below_trans B bb
  clear bb
  generalize w12.alloc (.cells #[.int .i64 p1, .int .i64 p2, .int .i64 p3, .int .i64 p4] 23) = w13 at *
  refine (HR2.out _).mono ?_
  rintro e w14 ⟨rfl, b14⟩
  replace vs := vs.mono b14
  replace vt := vt.mono b14
  replace vu := vu.mono b14
  replace ht := ht.mono b14
  replace v1 := v1.mono b14
  replace B := below_trans B b14
  clear b14
  replace B := below_trans B (below_alloc _ (.cells #[.int .i64 q1, .int .i64 q2, .int .i64 q3, .int .i64 q4] 23))
  go_wp2
  go_ret
  exact ⟨rfl, B⟩

set_option maxRecDepth 100000 in
set_option maxHeartbeats 1000000 in
theorem order_1ok (s t u : T4) (w : World) (hS : i64 s.a ∧ i64 s.b ∧ i64 s.c ∧ i64 s.d) (hT : i64 t.a ∧ i64 t.b ∧ i64 t.c ∧ i64 t.d) (hU : i64 u.a ∧ i64 u.b ∧ i64 u.c ∧ i64 u.d) (ht : Tab w) (h1 : validB s.a s.b s.c s.d = true) (h2 : validB t.a t.b t.c t.d = true) (h3 : validB u.a u.b u.c u.d = true) (g1 : -60 ≤ s.a ∧ s.a ≤ 60 ∧ -60 ≤ s.b ∧ s.b ≤ 60 ∧ -60 ≤ s.c ∧ s.c ≤ 60) (g2 : -60 ≤ t.a ∧ t.a ≤ 60 ∧ -60 ≤ t.b ∧ t.b ≤ 60 ∧ -60 ≤ t.c ∧ t.c ≤ 60) (g3 : -60 ≤ u.a ∧ u.a ≤ 60 ∧ -60 ≤ u.b ∧ u.b ≤ 60 ∧ -60 ≤ u.c ∧ u.c ≤ 60) (ha : cmpT s t = (-1)) (f0 : decide (cmpT t u ≤ 0) = false) (hk : (mulT s u).2 = 0) (hm : (mulT t u).2 = 0) :
    Calls Tryd.prog 13 #[.agg #[.int .i64 s.a, .int .i64 s.b, .int .i64 s.c, .int .i64 s.d], .agg #[.int .i64 t.a, .int .i64 t.b, .int .i64 t.c, .int .i64 t.d], .agg #[.int .i64 u.a, .int .i64 u.b, .int .i64 u.c, .int .i64 u.d]] w (RetTrue w) := by
  have Vs := fun w : World => rvalid_calls s w hS
  rw [h1] at Vs
  have HVs := Lib.hid Vs
  clear Vs
  have Vt := fun w : World => rvalid_calls t w hT
  rw [h2] at Vt
  have HVt := Lib.hid Vt
  clear Vt
  have Vu := fun w : World => rvalid_calls u w hU
  rw [h3] at Vu
  have HVu := Lib.hid Vu
  clear Vu
  have Ls := fun w : World => large_no s 60 w (by omega) (by omega) g1
  have HLs := Lib.hid Ls
  clear Ls
  have Lt := fun w : World => large_no t 60 w (by omega) (by omega) g2
  have HLt := Lib.hid Lt
  clear Lt
  have Lu := fun w : World => large_no u 60 w (by omega) (by omega) g3
  have HLu := Lib.hid Lu
  clear Lu
  have C1 := fun w : World => cmpT_ok s t w h1 h2
  have C2 := fun w : World => cmpT_ok t s w h2 h1
  have C3 := fun w : World => cmpT_ok t u w h2 h3
  have C4 := fun w : World => cmpT_ok s u w h1 h3
  simp only [cmpT_swap s t] at C2
  have he : ∀ w : World, (binOp .eql 23 (.agg #[.int .i64 s.a, .int .i64 s.b, .int .i64 s.c, .int .i64 s.d]) (.agg #[.int .i64 t.a, .int .i64 t.b, .int .i64 t.c, .int .i64 t.d])).run Tryd.prog w = .ok (.bool false) w := fun w => by
    rw [run_eql_tone s t]
    have : eqB s t = false := by
      rw [Bool.eq_false_iff]; intro h; have h9 := (eqB_iff s t).1 h; rw [h9, cmpT_self] at ha; omega
    rw [this]
  have R1 := fun w : World => mulT_ok s u w h1 h3
  have R2 := fun w : World => mulT_ok t u w h2 h3
  have okP : okT (mulT s u).1 := redT_okT hk
  have okQ : okT (mulT t u).1 := redT_okT hm
  have C5 := fun w : World => cmpT_ok (mulT s u).1 (mulT t u).1 w okP okQ
  rw [cmpT_mul h1 h2 h3 hk hm] at C5
  rw [ha] at C5
  clear okP okQ
  rw [ha] at C1
  simp only [ha] at C2
  generalize cmpT t u = c at *
  generalize cmpT s u = d at *
  generalize mulT s u = M at *
  generalize mulT t u = N at *
  obtain ⟨⟨p1, p2, p3, p4⟩, k⟩ := M
  obtain ⟨⟨q1, q2, q3, q4⟩, m⟩ := N
  dsimp only at *
  subst hk
  subst hm
  have H5 := Lib.hid C5
  clear C5
  have H1 := Lib.hid C1
  have H2 := Lib.hid C2
  have H3 := Lib.hid C3
  have H4 := Lib.hid C4
  have HR1 := Lib.hid R1
  have HR2 := Lib.hid R2
  clear C1 C2 C3 C4 R1 R2 h1 h2 h3 g1 g2 g3 hS hT hU ha
  have vs := Vals.newL w (w.heap.size) [.int .i64 s.a, .int .i64 s.b, .int .i64 s.c, .int .i64 s.d] 23 rfl
  have bb := below_alloc w (.cells #[.int .i64 s.a, .int .i64 s.b, .int .i64 s.c, .int .i64 s.d] 23)
  have B := bb
  have sz0 := World.size_alloc w (.cells #[.int .i64 s.a, .int .i64 s.b, .int .i64 s.c, .int .i64 s.d] 23)
  have sz := sz0
  clear sz0
  clear bb
  have vt := Vals.newL (w.alloc (.cells #[.int .i64 s.a, .int .i64 s.b, .int .i64 s.c, .int .i64 s.d] 23)) (w.heap.size + 1) [.int .i64 t.a, .int .i64 t.b, .int .i64 t.c, .int .i64 t.d] 23 sz.symm
  have bb := below_alloc (w.alloc (.cells #[.int .i64 s.a, .int .i64 s.b, .int .i64 s.c, .int .i64 s.d] 23)) (.cells #[.int .i64 t.a, .int .i64 t.b, .int .i64 t.c, .int .i64 t.d] 23)
  replace vs := vs.mono bb
  replace B := below_trans B bb
  clear bb
  have sz1 := World.size_alloc (w.alloc (.cells #[.int .i64 s.a, .int .i64 s.b, .int .i64 s.c, .int .i64 s.d] 23)) (.cells #[.int .i64 t.a, .int .i64 t.b, .int .i64 t.c, .int .i64 t.d] 23)
  rw [sz] at sz1
  clear sz
  have sz := sz1
  clear sz1
  have vu := Vals.newL ((w.alloc (.cells #[.int .i64 s.a, .int .i64 s.b, .int .i64 s.c, .int .i64 s.d] 23)).alloc (.cells #[.int .i64 t.a, .int .i64 t.b, .int .i64 t.c, .int .i64 t.d] 23)) (w.heap.size + 1 + 1) [.int .i64 u.a, .int .i64 u.b, .int .i64 u.c, .int .i64 u.d] 23 sz.symm
  have bb := below_alloc ((w.alloc (.cells #[.int .i64 s.a, .int .i64 s.b, .int .i64 s.c, .int .i64 s.d] 23)).alloc (.cells #[.int .i64 t.a, .int .i64 t.b, .int .i64 t.c, .int .i64 t.d] 23)) (.cells #[.int .i64 u.a, .int .i64 u.b, .int .i64 u.c, .int .i64 u.d] 23)
  replace vs := vs.mono bb
  replace vt := vt.mono bb
  replace B := below_trans B bb
  clear sz
  have bb0 := B
  clear bb
  go_enter Tryd.func13, Tryd.ntmps13
  go_wp2_with fail
  generalize (((w.alloc (.cells #[.int .i64 s.a, .int .i64 s.b, .int .i64 s.c, .int .i64 s.d] 23)).alloc (.cells #[.int .i64 t.a, .int .i64 t.b, .int .i64 t.c, .int .i64 t.d] 23)).alloc (.cells #[.int .i64 u.a, .int .i64 u.b, .int .i64 u.c, .int .i64 u.d] 23)) = w0 at *
  replace ht := ht.mono bb0
  clear bb0
  refine (HVs.out _).mono ?_
  rintro e w1 ⟨rfl, b1⟩
  replace vs := vs.mono b1
  replace vt := vt.mono b1
  replace vu := vu.mono b1
  replace ht := ht.mono b1
  replace B := below_trans B b1
  clear b1
  have cvt0 := vt.cell (i := 0) (by simp)
  have cvt1 := vt.cell (i := 1) (by simp)
  have cvt2 := vt.cell (i := 2) (by simp)
  have cvt3 := vt.cell (i := 3) (by simp)
  simp only [List.getD_cons_zero, List.getD_cons_succ] at cvt0 cvt1 cvt2 cvt3
  have ltvt := vt.lt
  go_wp2_with fail
  clear cvt0 cvt1 cvt2 cvt3 ltvt
  refine (HVt.out _).mono ?_
  rintro e w2 ⟨rfl, b2⟩
  replace vs := vs.mono b2
  replace vt := vt.mono b2
  replace vu := vu.mono b2
  replace ht := ht.mono b2
  replace B := below_trans B b2
  clear b2
  have cvu0 := vu.cell (i := 0) (by simp)
  have cvu1 := vu.cell (i := 1) (by simp)
  have cvu2 := vu.cell (i := 2) (by simp)
  have cvu3 := vu.cell (i := 3) (by simp)
  simp only [List.getD_cons_zero, List.getD_cons_succ] at cvu0 cvu1 cvu2 cvu3
  have ltvu := vu.lt
  go_wp2_with fail
  clear cvu0 cvu1 cvu2 cvu3 ltvu
  refine (HVu.out _).mono ?_
  rintro e w3 ⟨rfl, b3⟩
  replace vs := vs.mono b3
  replace vt := vt.mono b3
  replace vu := vu.mono b3
  replace ht := ht.mono b3
  replace B := below_trans B b3
  clear b3
  have cvs0 := vs.cell (i := 0) (by simp)
  have cvs1 := vs.cell (i := 1) (by simp)
  have cvs2 := vs.cell (i := 2) (by simp)
  have cvs3 := vs.cell (i := 3) (by simp)
  simp only [List.getD_cons_zero, List.getD_cons_succ] at cvs0 cvs1 cvs2 cvs3
  have ltvs := vs.lt
  go_wp2_with fail
  clear cvs0 cvs1 cvs2 cvs3 ltvs
  refine (HLs.out _).mono ?_
  rintro e w4 ⟨rfl, b4⟩
  replace vs := vs.mono b4
  replace vt := vt.mono b4
  replace vu := vu.mono b4
  replace ht := ht.mono b4
  replace B := below_trans B b4
  clear b4
  have cvt0 := vt.cell (i := 0) (by simp)
  have cvt1 := vt.cell (i := 1) (by simp)
  have cvt2 := vt.cell (i := 2) (by simp)
  have cvt3 := vt.cell (i := 3) (by simp)
  simp only [List.getD_cons_zero, List.getD_cons_succ] at cvt0 cvt1 cvt2 cvt3
  have ltvt := vt.lt
  go_wp2_with fail
  clear cvt0 cvt1 cvt2 cvt3 ltvt
  refine (HLt.out _).mono ?_
  rintro e w5 ⟨rfl, b5⟩
  replace vs := vs.mono b5
  replace vt := vt.mono b5
  replace vu := vu.mono b5
  replace ht := ht.mono b5
  replace B := below_trans B b5
  clear b5
  have cvu0 := vu.cell (i := 0) (by simp)
  have cvu1 := vu.cell (i := 1) (by simp)
  have cvu2 := vu.cell (i := 2) (by simp)
  have cvu3 := vu.cell (i := 3) (by simp)
  simp only [List.getD_cons_zero, List.getD_cons_succ] at cvu0 cvu1 cvu2 cvu3
  have ltvu := vu.lt
  go_wp2_with fail
  clear cvu0 cvu1 cvu2 cvu3 ltvu
  refine (HLu.out _).mono ?_
  rintro e w6 ⟨rfl, b6⟩
  replace vs := vs.mono b6
  replace vt := vt.mono b6
  replace vu := vu.mono b6
  replace ht := ht.mono b6
  replace B := below_trans B b6
  clear b6
  have cvs0 := vs.cell (i := 0) (by simp)
  have cvs1 := vs.cell (i := 1) (by simp)
  have cvs2 := vs.cell (i := 2) (by simp)
  have cvs3 := vs.cell (i := 3) (by simp)
  simp only [List.getD_cons_zero, List.getD_cons_succ] at cvs0 cvs1 cvs2 cvs3
  have ltvs := vs.lt
  have cvt0 := vt.cell (i := 0) (by simp)
  have cvt1 := vt.cell (i := 1) (by simp)
  have cvt2 := vt.cell (i := 2) (by simp)
  have cvt3 := vt.cell (i := 3) (by simp)
  simp only [List.getD_cons_zero, List.getD_cons_succ] at cvt0 cvt1 cvt2 cvt3
  have ltvt := vt.lt
  go_wp2_with fail
  clear cvs0 cvs1 cvs2 cvs3 ltvs cvt0 cvt1 cvt2 cvt3 ltvt
  refine (H1.out _).mono ?_
  rintro e w7 ⟨rfl, b7⟩
  replace vs := vs.mono b7
  replace vt := vt.mono b7
  replace vu := vu.mono b7
  replace ht := ht.mono b7
  replace B := below_trans B b7
  clear b7
  have cvt0 := vt.cell (i := 0) (by simp)
  have cvt1 := vt.cell (i := 1) (by simp)
  have cvt2 := vt.cell (i := 2) (by simp)
  have cvt3 := vt.cell (i := 3) (by simp)
  simp only [List.getD_cons_zero, List.getD_cons_succ] at cvt0 cvt1 cvt2 cvt3
  have ltvt := vt.lt
  have cvs0 := vs.cell (i := 0) (by simp)
  have cvs1 := vs.cell (i := 1) (by simp)
  have cvs2 := vs.cell (i := 2) (by simp)
  have cvs3 := vs.cell (i := 3) (by simp)
  simp only [List.getD_cons_zero, List.getD_cons_succ] at cvs0 cvs1 cvs2 cvs3
  have ltvs := vs.lt
  go_wp2_with fail
  clear cvt0 cvt1 cvt2 cvt3 ltvt cvs0 cvs1 cvs2 cvs3 ltvs
  refine (H2.out _).mono ?_
  rintro e w8 ⟨rfl, b8⟩
  replace vs := vs.mono b8
  replace vt := vt.mono b8
  replace vu := vu.mono b8
  replace ht := ht.mono b8
  replace B := below_trans B b8
  clear b8
  have cvt0 := vt.cell (i := 0) (by simp)
  have cvt1 := vt.cell (i := 1) (by simp)
  have cvt2 := vt.cell (i := 2) (by simp)
  have cvt3 := vt.cell (i := 3) (by simp)
  simp only [List.getD_cons_zero, List.getD_cons_succ] at cvt0 cvt1 cvt2 cvt3
  have ltvt := vt.lt
  have cvu0 := vu.cell (i := 0) (by simp)
  have cvu1 := vu.cell (i := 1) (by simp)
  have cvu2 := vu.cell (i := 2) (by simp)
  have cvu3 := vu.cell (i := 3) (by simp)
  simp only [List.getD_cons_zero, List.getD_cons_succ] at cvu0 cvu1 cvu2 cvu3
  have ltvu := vu.lt
  go_wp2_with fail
  clear cvt0 cvt1 cvt2 cvt3 ltvt cvu0 cvu1 cvu2 cvu3 ltvu
  refine (H3.out _).mono ?_
  rintro e w9 ⟨rfl, b9⟩
  replace vs := vs.mono b9
  replace vt := vt.mono b9
  replace vu := vu.mono b9
  replace ht := ht.mono b9
  replace B := below_trans B b9
  clear b9
  have cvs0 := vs.cell (i := 0) (by simp)
  have cvs1 := vs.cell (i := 1) (by simp)
  have cvs2 := vs.cell (i := 2) (by simp)
  have cvs3 := vs.cell (i := 3) (by simp)
  simp only [List.getD_cons_zero, List.getD_cons_succ] at cvs0 cvs1 cvs2 cvs3
  have ltvs := vs.lt
  have cvu0 := vu.cell (i := 0) (by simp)
  have cvu1 := vu.cell (i := 1) (by simp)
  have cvu2 := vu.cell (i := 2) (by simp)
  have cvu3 := vu.cell (i := 3) (by simp)
  simp only [List.getD_cons_zero, List.getD_cons_succ] at cvu0 cvu1 cvu2 cvu3
  have ltvu := vu.lt
  go_wp2_with fail
  clear cvs0 cvs1 cvs2 cvs3 ltvs cvu0 cvu1 cvu2 cvu3 ltvu
  refine (H4.out _).mono ?_
  rintro e w10 ⟨rfl, b10⟩
  replace vs := vs.mono b10
  replace vt := vt.mono b10
  replace vu := vu.mono b10
  replace ht := ht.mono b10
  replace B := below_trans B b10
  clear b10
  have cvs0 := vs.cell (i := 0) (by simp)
  have cvs1 := vs.cell (i := 1) (by simp)
  have cvs2 := vs.cell (i := 2) (by simp)
  have cvs3 := vs.cell (i := 3) (by simp)
  simp only [List.getD_cons_zero, List.getD_cons_succ] at cvs0 cvs1 cvs2 cvs3
  have ltvs := vs.lt
  have cvt0 := vt.cell (i := 0) (by simp)
  have cvt1 := vt.cell (i := 1) (by simp)
  have cvt2 := vt.cell (i := 2) (by simp)
  have cvt3 := vt.cell (i := 3) (by simp)
  simp only [List.getD_cons_zero, List.getD_cons_succ] at cvt0 cvt1 cvt2 cvt3
  have ltvt := vt.lt
  go_wp2_with fail
  clear cvs0 cvs1 cvs2 cvs3 ltvs cvt0 cvt1 cvt2 cvt3 ltvt
  refine (lives_calls _ ht).mono ?_
  rintro e w11 ⟨rfl, b11⟩
  replace vs := vs.mono b11
  replace vt := vt.mono b11
  replace vu := vu.mono b11
  replace ht := ht.mono b11
  replace B := below_trans B b11
  clear b11
  have cvs0 := vs.cell (i := 0) (by simp)
  have cvs1 := vs.cell (i := 1) (by simp)
  have cvs2 := vs.cell (i := 2) (by simp)
  have cvs3 := vs.cell (i := 3) (by simp)
  simp only [List.getD_cons_zero, List.getD_cons_succ] at cvs0 cvs1 cvs2 cvs3
  have ltvs := vs.lt
  have cvu0 := vu.cell (i := 0) (by simp)
  have cvu1 := vu.cell (i := 1) (by simp)
  have cvu2 := vu.cell (i := 2) (by simp)
  have cvu3 := vu.cell (i := 3) (by simp)
  simp only [List.getD_cons_zero, List.getD_cons_succ] at cvu0 cvu1 cvu2 cvu3
  have ltvu := vu.lt
  go_wp2_with fail
  clear cvs0 cvs1 cvs2 cvs3 ltvs cvu0 cvu1 cvu2 cvu3 ltvu
  refine (HR1.out _).mono ?_
  rintro e w12 ⟨rfl, b12⟩
  replace vs := vs.mono b12
  replace vt := vt.mono b12
  replace vu := vu.mono b12
  replace ht := ht.mono b12
  replace B := below_trans B b12
  clear b12
  have cvt0 := vt.cell (i := 0) (by simp)
  have cvt1 := vt.cell (i := 1) (by simp)
  have cvt2 := vt.cell (i := 2) (by simp)
  have cvt3 := vt.cell (i := 3) (by simp)
  simp only [List.getD_cons_zero, List.getD_cons_succ] at cvt0 cvt1 cvt2 cvt3
  have ltvt := vt.lt
  have cvu0 := vu.cell (i := 0) (by simp)
  have cvu1 := vu.cell (i := 1) (by simp)
  have cvu2 := vu.cell (i := 2) (by simp)
  have cvu3 := vu.cell (i := 3) (by simp)
  simp only [List.getD_cons_zero, List.getD_cons_succ] at cvu0 cvu1 cvu2 cvu3
  have ltvu := vu.lt
  go_wp2_with fail
  clear cvt0 cvt1 cvt2 cvt3 ltvt cvu0 cvu1 cvu2 cvu3 ltvu
  have v1 := Vals.newL w12 w12.heap.size [.int .i64 p1, .int .i64 p2, .int .i64 p3, .int .i64 p4] 23 rfl
  have bb := below_alloc w12 (.cells #[.int .i64 p1, .int .i64 p2, .int .i64 p3, .int .i64 p4] 23)
  replace vs := vs.mono bb
  replace vt := vt.mono bb
  replace vu := vu.mono bb
  replace ht := ht.mono bb
  replace B := below_trans B bb
  clear bb
  generalize w12.alloc (.cells #[.int .i64 p1, .int .i64 p2, .int .i64 p3, .int .i64 p4] 23) = w13 at *
  refine (HR2.out _).mono ?_
  rintro e w14 ⟨rfl, b14⟩
  replace vs := vs.mono b14
  replace vt := vt.mono b14
  replace vu := vu.mono b14
  replace ht := ht.mono b14
  replace v1 := v1.mono b14
  replace B := below_trans B b14
  clear b14
  have cv10 := v1.cell (i := 0) (by simp)
  have cv11 := v1.cell (i := 1) (by simp)
  have cv12 := v1.cell (i := 2) (by simp)
  have cv13 := v1.cell (i := 3) (by simp)
  simp only [List.getD_cons_zero, List.getD_cons_succ] at cv10 cv11 cv12 cv13
  have ltv1 := v1.lt
  go_wp2_with fail
  clear cv10 cv11 cv12 cv13 ltv1
  have v2 := Vals.newL w14 w14.heap.size [.int .i64 q1, .int .i64 q2, .int .i64 q3, .int .i64 q4] 23 rfl
  have bb := below_alloc w14 (.cells #[.int .i64 q1, .int .i64 q2, .int .i64 q3, .int .i64 q4] 23)
  replace vs := vs.mono bb
  replace vt := vt.mono bb
  replace vu := vu.mono bb
  replace ht := ht.mono bb
  replace v1 := v1.mono bb
  replace B := below_trans B bb
  clear bb
  generalize w14.alloc (.cells #[.int .i64 q1, .int .i64 q2, .int .i64 q3, .int .i64 q4] 23) = w15 at *
  refine (H5.out _).mono ?_
  rintro e w16 ⟨rfl, b16⟩
  replace vs := vs.mono b16
  replace vt := vt.mono b16
  replace vu := vu.mono b16
  replace ht := ht.mono b16
  replace v1 := v1.mono b16
  replace v2 := v2.mono b16
  replace B := below_trans B b16
  clear b16
  go_wp2
  go_ret
  exact ⟨rfl, B⟩

set_option maxRecDepth 100000 in
set_option maxHeartbeats 1000000 in
theorem order_1e1 (s t u : T4) (w : World) (hS : i64 s.a ∧ i64 s.b ∧ i64 s.c ∧ i64 s.d) (hT : i64 t.a ∧ i64 t.b ∧ i64 t.c ∧ i64 t.d) (hU : i64 u.a ∧ i64 u.b ∧ i64 u.c ∧ i64 u.d) (ht : Tab w) (h1 : validB s.a s.b s.c s.d = true) (h2 : validB t.a t.b t.c t.d = true) (h3 : validB u.a u.b u.c u.d = true) (g1 : -60 ≤ s.a ∧ s.a ≤ 60 ∧ -60 ≤ s.b ∧ s.b ≤ 60 ∧ -60 ≤ s.c ∧ s.c ≤ 60) (g2 : -60 ≤ t.a ∧ t.a ≤ 60 ∧ -60 ≤ t.b ∧ t.b ≤ 60 ∧ -60 ≤ t.c ∧ t.c ≤ 60) (g3 : -60 ≤ u.a ∧ u.a ≤ 60 ∧ -60 ≤ u.b ∧ u.b ≤ 60 ∧ -60 ≤ u.c ∧ u.c ≤ 60) (ha : cmpT s t = (-1)) (f0 : decide (cmpT t u ≤ 0) = false) (hk : ((mulT s u).2 != 0) = true) :
    Calls Tryd.prog 13 #[.agg #[.int .i64 s.a, .int .i64 s.b, .int .i64 s.c, .int .i64 s.d], .agg #[.int .i64 t.a, .int .i64 t.b, .int .i64 t.c, .int .i64 t.d], .agg #[.int .i64 u.a, .int .i64 u.b, .int .i64 u.c, .int .i64 u.d]] w (RetTrue w) := by
  have Vs := fun w : World => rvalid_calls s w hS
  rw [h1] at Vs
  have HVs := Lib.hid Vs
  clear Vs
  have Vt := fun w : World => rvalid_calls t w hT
  rw [h2] at Vt
  have HVt := Lib.hid Vt
  clear Vt
  have Vu := fun w : World => rvalid_calls u w hU
  rw [h3] at Vu
  have HVu := Lib.hid Vu
  clear Vu
  have Ls := fun w : World => large_no s 60 w (by omega) (by omega) g1
  have HLs := Lib.hid Ls
  clear Ls
  have Lt := fun w : World => large_no t 60 w (by omega) (by omega) g2
  have HLt := Lib.hid Lt
  clear Lt
  have Lu := fun w : World => large_no u 60 w (by omega) (by omega) g3
  have HLu := Lib.hid Lu
  clear Lu
  have C1 := fun w : World => cmpT_ok s t w h1 h2
  have C2 := fun w : World => cmpT_ok t s w h2 h1
  have C3 := fun w : World => cmpT_ok t u w h2 h3
  have C4 := fun w : World => cmpT_ok s u w h1 h3
  simp only [cmpT_swap s t] at C2
  have he : ∀ w : World, (binOp .eql 23 (.agg #[.int .i64 s.a, .int .i64 s.b, .int .i64 s.c, .int .i64 s.d]) (.agg #[.int .i64 t.a, .int .i64 t.b, .int .i64 t.c, .int .i64 t.d])).run Tryd.prog w = .ok (.bool false) w := fun w => by
    rw [run_eql_tone s t]
    have : eqB s t = false := by
      rw [Bool.eq_false_iff]; intro h; have h9 := (eqB_iff s t).1 h; rw [h9, cmpT_self] at ha; omega
    rw [this]
  have R1 := fun w : World => mulT_ok s u w h1 h3
  have R2 := fun w : World => mulT_ok t u w h2 h3
  rw [ha] at C1
  simp only [ha] at C2
  generalize cmpT t u = c at *
  generalize cmpT s u = d at *
  generalize mulT s u = M at *
  generalize mulT t u = N at *
  obtain ⟨⟨p1, p2, p3, p4⟩, k⟩ := M
  obtain ⟨⟨q1, q2, q3, q4⟩, m⟩ := N
  dsimp only at *
  have H1 := Lib.hid C1
  have H2 := Lib.hid C2
  have H3 := Lib.hid C3
  have H4 := Lib.hid C4
  have HR1 := Lib.hid R1
  have HR2 := Lib.hid R2
  clear C1 C2 C3 C4 R1 R2 h1 h2 h3 g1 g2 g3 hS hT hU ha
  have vs := Vals.newL w (w.heap.size) [.int .i64 s.a, .int .i64 s.b, .int .i64 s.c, .int .i64 s.d] 23 rfl
  have bb := below_alloc w (.cells #[.int .i64 s.a, .int .i64 s.b, .int .i64 s.c, .int .i64 s.d] 23)
  have B := bb
  have sz0 := World.size_alloc w (.cells #[.int .i64 s.a, .int .i64 s.b, .int .i64 s.c, .int .i64 s.d] 23)
  have sz := sz0
  clear sz0
  clear bb
  have vt := Vals.newL (w.alloc (.cells #[.int .i64 s.a, .int .i64 s.b, .int .i64 s.c, .int .i64 s.d] 23)) (w.heap.size + 1) [.int .i64 t.a, .int .i64 t.b, .int .i64 t.c, .int .i64 t.d] 23 sz.symm
  have bb := below_alloc (w.alloc (.cells #[.int .i64 s.a, .int .i64 s.b, .int .i64 s.c, .int .i64 s.d] 23)) (.cells #[.int .i64 t.a, .int .i64 t.b, .int .i64 t.c, .int .i64 t.d] 23)
  replace vs := vs.mono bb
  replace B := below_trans B bb
  clear bb
  have sz1 := World.size_alloc (w.alloc (.cells #[.int .i64 s.a, .int .i64 s.b, .int .i64 s.c, .int .i64 s.d] 23)) (.cells #[.int .i64 t.a, .int .i64 t.b, .int .i64 t.c, .int .i64 t.d] 23)
  rw [sz] at sz1
  clear sz
  have sz := sz1
  clear sz1
  have vu := Vals.newL ((w.alloc (.cells #[.int .i64 s.a, .int .i64 s.b, .int .i64 s.c, .int .i64 s.d] 23)).alloc (.cells #[.int .i64 t.a, .int .i64 t.b, .int .i64 t.c, .int .i64 t.d] 23)) (w.heap.size + 1 + 1) [.int .i64 u.a, .int .i64 u.b, .int .i64 u.c, .int .i64 u.d] 23 sz.symm
  have bb := below_alloc ((w.alloc (.cells #[.int .i64 s.a, .int .i64 s.b, .int .i64 s.c, .int .i64 s.d] 23)).alloc (.cells #[.int .i64 t.a, .int .i64 t.b, .int .i64 t.c, .int .i64 t.d] 23)) (.cells #[.int .i64 u.a, .int .i64 u.b, .int .i64 u.c, .int .i64 u.d] 23)
  replace vs := vs.mono bb
  replace vt := vt.mono bb
  replace B := below_trans B bb
  clear sz
  have bb0 := B
  clear bb
  go_enter Tryd.func13, Tryd.ntmps13
  go_wp2_with fail
  generalize (((w.alloc (.cells #[.int .i64 s.a, .int .i64 s.b, .int .i64 s.c, .int .i64 s.d] 23)).alloc (.cells #[.int .i64 t.a, .int .i64 t.b, .int .i64 t.c, .int .i64 t.d] 23)).alloc (.cells #[.int .i64 u.a, .int .i64 u.b, .int .i64 u.c, .int .i64 u.d] 23)) = w0 at *
  replace ht := ht.mono bb0
  clear bb0
  refine (HVs.out _).mono ?_
  rintro e w1 ⟨rfl, b1⟩
  replace vs := vs.mono b1
  replace vt := vt.mono b1
  replace vu := vu.mono b1
  replace ht := ht.mono b1
  replace B := below_trans B b1
  clear b1
  have cvt0 := vt.cell (i := 0) (by simp)
  have cvt1 := vt.cell (i := 1) (by simp)
  have cvt2 := vt.cell (i := 2) (by simp)
  have cvt3 := vt.cell (i := 3) (by simp)
  simp only [List.getD_cons_zero, List.getD_cons_succ] at cvt0 cvt1 cvt2 cvt3
  have ltvt := vt.lt
  go_wp2_with fail
  clear cvt0 cvt1 cvt2 cvt3 ltvt
  refine (HVt.out _).mono ?_
  rintro e w2 ⟨rfl, b2⟩
  replace vs := vs.mono b2
  replace vt := vt.mono b2
  replace vu := vu.mono b2
  replace ht := ht.mono b2
  replace B := below_trans B b2
  clear b2
  have cvu0 := vu.cell (i := 0) (by simp)
  have cvu1 := vu.cell (i := 1) (by simp)
  have cvu2 := vu.cell (i := 2) (by simp)
  have cvu3 := vu.cell (i := 3) (by simp)
  simp only [List.getD_cons_zero, List.getD_cons_succ] at cvu0 cvu1 cvu2 cvu3
  have ltvu := vu.lt
  go_wp2_with fail
  clear cvu0 cvu1 cvu2 cvu3 ltvu
  refine (HVu.out _).mono ?_
  rintro e w3 ⟨rfl, b3⟩
  replace vs := vs.mono b3
  replace vt := vt.mono b3
  replace vu := vu.mono b3
  replace ht := ht.mono b3
  replace B := below_trans B b3
  clear b3
  have cvs0 := vs.cell (i := 0) (by simp)
  have cvs1 := vs.cell (i := 1) (by simp)
  have cvs2 := vs.cell (i := 2) (by simp)
  have cvs3 := vs.cell (i := 3) (by simp)
  simp only [List.getD_cons_zero, List.getD_cons_succ] at cvs0 cvs1 cvs2 cvs3
  have ltvs := vs.lt
  go_wp2_with fail
  clear cvs0 cvs1 cvs2 cvs3 ltvs
  refine (HLs.out _).mono ?_
  rintro e w4 ⟨rfl, b4⟩
  replace vs := vs.mono b4
  replace vt := vt.mono b4
  replace vu := vu.mono b4
  replace ht := ht.mono b4
  replace B := below_trans B b4
  clear b4
  have cvt0 := vt.cell (i := 0) (by simp)
  have cvt1 := vt.cell (i := 1) (by simp)
  have cvt2 := vt.cell (i := 2) (by simp)
  have cvt3 := vt.cell (i := 3) (by simp)
  simp only [List.getD_cons_zero, List.getD_cons_succ] at cvt0 cvt1 cvt2 cvt3
  have ltvt := vt.lt
  go_wp2_with fail
  clear cvt0 cvt1 cvt2 cvt3 ltvt
  refine (HLt.out _).mono ?_
  rintro e w5 ⟨rfl, b5⟩
  replace vs := vs.mono b5
  replace vt := vt.mono b5
  replace vu := vu.mono b5
  replace ht := ht.mono b5
  replace B := below_trans B b5
  clear b5
  have cvu0 := vu.cell (i := 0) (by simp)
  have cvu1 := vu.cell (i := 1) (by simp)
  have cvu2 := vu.cell (i := 2) (by simp)
  have cvu3 := vu.cell (i := 3) (by simp)
  simp only [List.getD_cons_zero, List.getD_cons_succ] at cvu0 cvu1 cvu2 cvu3
  have ltvu := vu.lt
  go_wp2_with fail
  clear cvu0 cvu1 cvu2 cvu3 ltvu
  refine (HLu.out _).mono ?_
  rintro e w6 ⟨rfl, b6⟩
  replace vs := vs.mono b6
  replace vt := vt.mono b6
  replace vu := vu.mono b6
  replace ht := ht.mono b6
  replace B := below_trans B b6
  clear b6
  have cvs0 := vs.cell (i := 0) (by simp)
  have cvs1 := vs.cell (i := 1) (by simp)
  have cvs2 := vs.cell (i := 2) (by simp)
  have cvs3 := vs.cell (i := 3) (by simp)
  simp only [List.getD_cons_zero, List.getD_cons_succ] at cvs0 cvs1 cvs2 cvs3
  have ltvs := vs.lt
  have cvt0 := vt.cell (i := 0) (by simp)
  have cvt1 := vt.cell (i := 1) (by simp)
  have cvt2 := vt.cell (i := 2) (by simp)
  have cvt3 := vt.cell (i := 3) (by simp)
  simp only [List.getD_cons_zero, List.getD_cons_succ] at cvt0 cvt1 cvt2 cvt3
  have ltvt := vt.lt
  go_wp2_with fail
  clear cvs0 cvs1 cvs2 cvs3 ltvs cvt0 cvt1 cvt2 cvt3 ltvt
  refine (H1.out _).mono ?_
  rintro e w7 ⟨rfl, b7⟩
  replace vs := vs.mono b7
  replace vt := vt.mono b7
  replace vu := vu.mono b7
  replace ht := ht.mono b7
  replace B := below_trans B b7
  clear b7
  have cvt0 := vt.cell (i := 0) (by simp)
  have cvt1 := vt.cell (i := 1) (by simp)
  have cvt2 := vt.cell (i := 2) (by simp)
  have cvt3 := vt.cell (i := 3) (by simp)
  simp only [List.getD_cons_zero, List.getD_cons_succ] at cvt0 cvt1 cvt2 cvt3
  have ltvt := vt.lt
  have cvs0 := vs.cell (i := 0) (by simp)
  have cvs1 := vs.cell (i := 1) (by simp)
  have cvs2 := vs.cell (i := 2) (by simp)
  have cvs3 := vs.cell (i := 3) (by simp)
  simp only [List.getD_cons_zero, List.getD_cons_succ] at cvs0 cvs1 cvs2 cvs3
  have ltvs := vs.lt
  go_wp2_with fail
  clear cvt0 cvt1 cvt2 cvt3 ltvt cvs0 cvs1 cvs2 cvs3 ltvs
  refine (H2.out _).mono ?_
  rintro e w8 ⟨rfl, b8⟩
  replace vs := vs.mono b8
  replace vt := vt.mono b8
  replace vu := vu.mono b8
  replace ht := ht.mono b8
  replace B := below_trans B b8
  clear b8
  have cvt0 := vt.cell (i := 0) (by simp)
  have cvt1 := vt.cell (i := 1) (by simp)
  have cvt2 := vt.cell (i := 2) (by simp)
  have cvt3 := vt.cell (i := 3) (by simp)
  simp only [List.getD_cons_zero, List.getD_cons_succ] at cvt0 cvt1 cvt2 cvt3
  have ltvt := vt.lt
  have cvu0 := vu.cell (i := 0) (by simp)
  have cvu1 := vu.cell (i := 1) (by simp)
  have cvu2 := vu.cell (i := 2) (by simp)
  have cvu3 := vu.cell (i := 3) (by simp)
  simp only [List.getD_cons_zero, List.getD_cons_succ] at cvu0 cvu1 cvu2 cvu3
  have ltvu := vu.lt
  go_wp2_with fail
  clear cvt0 cvt1 cvt2 cvt3 ltvt cvu0 cvu1 cvu2 cvu3 ltvu
  refine (H3.out _).mono ?_
  rintro e w9 ⟨rfl, b9⟩
  replace vs := vs.mono b9
  replace vt := vt.mono b9
  replace vu := vu.mono b9
  replace ht := ht.mono b9
  replace B := below_trans B b9
  clear b9
  have cvs0 := vs.cell (i := 0) (by simp)
  have cvs1 := vs.cell (i := 1) (by simp)
  have cvs2 := vs.cell (i := 2) (by simp)
  have cvs3 := vs.cell (i := 3) (by simp)
  simp only [List.getD_cons_zero, List.getD_cons_succ] at cvs0 cvs1 cvs2 cvs3
  have ltvs := vs.lt
  have cvu0 := vu.cell (i := 0) (by simp)
  have cvu1 := vu.cell (i := 1) (by simp)
  have cvu2 := vu.cell (i := 2) (by simp)
  have cvu3 := vu.cell (i := 3) (by simp)
  simp only [List.getD_cons_zero, List.getD_cons_succ] at cvu0 cvu1 cvu2 cvu3
  have ltvu := vu.lt
  go_wp2_with fail
  clear cvs0 cvs1 cvs2 cvs3 ltvs cvu0 cvu1 cvu2 cvu3 ltvu
  refine (H4.out _).mono ?_
  rintro e w10 ⟨rfl, b10⟩
  replace vs := vs.mono b10
  replace vt := vt.mono b10
  replace vu := vu.mono b10
  replace ht := ht.mono b10
  replace B := below_trans B b10
  clear b10
  have cvs0 := vs.cell (i := 0) (by simp)
  have cvs1 := vs.cell (i := 1) (by simp)
  have cvs2 := vs.cell (i := 2) (by simp)
  have cvs3 := vs.cell (i := 3) (by simp)
  simp only [List.getD_cons_zero, List.getD_cons_succ] at cvs0 cvs1 cvs2 cvs3
  have ltvs := vs.lt
  have cvt0 := vt.cell (i := 0) (by simp)
  have cvt1 := vt.cell (i := 1) (by simp)
  have cvt2 := vt.cell (i := 2) (by simp)
  have cvt3 := vt.cell (i := 3) (by simp)
  simp only [List.getD_cons_zero, List.getD_cons_succ] at cvt0 cvt1 cvt2 cvt3
  have ltvt := vt.lt
  go_wp2_with fail
  clear cvs0 cvs1 cvs2 cvs3 ltvs cvt0 cvt1 cvt2 cvt3 ltvt
  refine (lives_calls _ ht).mono ?_
  rintro e w11 ⟨rfl, b11⟩
  replace vs := vs.mono b11
  replace vt := vt.mono b11
  replace vu := vu.mono b11
  replace ht := ht.mono b11
  replace B := below_trans B b11
  clear b11
  have cvs0 := vs.cell (i := 0) (by simp)
  have cvs1 := vs.cell (i := 1) (by simp)
  have cvs2 := vs.cell (i := 2) (by simp)
  have cvs3 := vs.cell (i := 3) (by simp)
  simp only [List.getD_cons_zero, List.getD_cons_succ] at cvs0 cvs1 cvs2 cvs3
  have ltvs := vs.lt
  have cvu0 := vu.cell (i := 0) (by simp)
  have cvu1 := vu.cell (i := 1) (by simp)
  have cvu2 := vu.cell (i := 2) (by simp)
  have cvu3 := vu.cell (i := 3) (by simp)
  simp only [List.getD_cons_zero, List.getD_cons_succ] at cvu0 cvu1 cvu2 cvu3
  have ltvu := vu.lt
  go_wp2_with fail
  clear cvs0 cvs1 cvs2 cvs3 ltvs cvu0 cvu1 cvu2 cvu3 ltvu
  refine (HR1.out _).mono ?_
  rintro e w12 ⟨rfl, b12⟩
  replace vs := vs.mono b12
  replace vt := vt.mono b12
  replace vu := vu.mono b12
  replace ht := ht.mono b12
  replace B := below_trans B b12
  clear b12
  have cvt0 := vt.cell (i := 0) (by simp)
  have cvt1 := vt.cell (i := 1) (by simp)
  have cvt2 := vt.cell (i := 2) (by simp)
  have cvt3 := vt.cell (i := 3) (by simp)
  simp only [List.getD_cons_zero, List.getD_cons_succ] at cvt0 cvt1 cvt2 cvt3
  have ltvt := vt.lt
  have cvu0 := vu.cell (i := 0) (by simp)
  have cvu1 := vu.cell (i := 1) (by simp)
  have cvu2 := vu.cell (i := 2) (by simp)
  have cvu3 := vu.cell (i := 3) (by simp)
  simp only [List.getD_cons_zero, List.getD_cons_succ] at cvu0 cvu1 cvu2 cvu3
  have ltvu := vu.lt
  go_wp2_with fail
  clear cvt0 cvt1 cvt2 cvt3 ltvt cvu0 cvu1 cvu2 cvu3 ltvu
  have v1 := Vals.newL w12 w12.heap.size [.int .i64 p1, .int .i64 p2, .int .i64 p3, .int .i64 p4] 23 rfl
  have bb := below_alloc w12 (.cells #[.int .i64 p1, .int .i64 p2, .int .i64 p3, .int .i64 p4] 23)
  replace vs := vs.mono bb
  replace vt := vt.mono bb
  replace vu := vu.mono bb
  replace ht := ht.mono bb
  replace B := below_trans B bb
  clear bb
  generalize w12.alloc (.cells #[.int .i64 p1, .int .i64 p2, .int .i64 p3, .int .i64 p4] 23) = w13 at *
  refine (HR2.out _).mono ?_
  rintro e w14 ⟨rfl, b14⟩
  replace vs := vs.mono b14
  replace vt := vt.mono b14
  replace vu := vu.mono b14
  replace ht := ht.mono b14
  replace v1 := v1.mono b14
  replace B := below_trans B b14
  clear b14
  replace B := below_trans B (below_alloc _ (.cells #[.int .i64 q1, .int .i64 q2, .int .i64 q3, .int .i64 q4] 23))
  go_wp2
  go_ret
  exact ⟨rfl, B⟩

set_option maxRecDepth 100000 in
set_option maxHeartbeats 1000000 in
theorem order_1e2 (s t u : T4) (w : World) (hS : i64 s.a ∧ i64 s.b ∧ i64 s.c ∧ i64 s.d) (hT : i64 t.a ∧ i64 t.b ∧ i64 t.c ∧ i64 t.d) (hU : i64 u.a ∧ i64 u.b ∧ i64 u.c ∧ i64 u.d) (ht : Tab w) (h1 : validB s.a s.b s.c s.d = true) (h2 : validB t.a t.b t.c t.d = true) (h3 : validB u.a u.b u.c u.d = true) (g1 : -60 ≤ s.a ∧ s.a ≤ 60 ∧ -60 ≤ s.b ∧ s.b ≤ 60 ∧ -60 ≤ s.c ∧ s.c ≤ 60) (g2 : -60 ≤ t.a ∧ t.a ≤ 60 ∧ -60 ≤ t.b ∧ t.b ≤ 60 ∧ -60 ≤ t.c ∧ t.c ≤ 60) (g3 : -60 ≤ u.a ∧ u.a ≤ 60 ∧ -60 ≤ u.b ∧ u.b ≤ 60 ∧ -60 ≤ u.c ∧ u.c ≤ 60) (ha : cmpT s t = (-1)) (f0 : decide (cmpT t u ≤ 0) = false) (hk : ((mulT s u).2 != 0) = false) (hm : ((mulT t u).2 != 0) = true) :
    Calls Tryd.prog 13 #[.agg #[.int .i64 s.a, .int .i64 s.b, .int .i64 s.c, .int .i64 s.d], .agg #[.int .i64 t.a, .int .i64 t.b, .int .i64 t.c, .int .i64 t.d], .agg #[.int .i64 u.a, .int .i64 u.b, .int .i64 u.c, .int .i64 u.d]] w (RetTrue w) := by
  have Vs := fun w : World => rvalid_calls s w hS
  rw [h1] at Vs
  have HVs := Lib.hid Vs
  clear Vs
  have Vt := fun w : World => rvalid_calls t w hT
  rw [h2] at Vt
  have HVt := Lib.hid Vt
  clear Vt
  have Vu := fun w : World => rvalid_calls u w hU
  rw [h3] at Vu
  have HVu := Lib.hid Vu
  clear Vu
  have Ls := fun w : World => large_no s 60 w (by omega) (by omega) g1
  have HLs := Lib.hid Ls
  clear Ls
  have Lt := fun w : World => large_no t 60 w (by omega) (by omega) g2
  have HLt := Lib.hid Lt
  clear Lt
  have Lu := fun w : World => large_no u 60 w (by omega) (by omega) g3
  have HLu := Lib.hid Lu
  clear Lu
  have C1 := fun w : World => cmpT_ok s t w h1 h2
  have C2 := fun w : World => cmpT_ok t s w h2 h1
  have C3 := fun w : World => cmpT_ok t u w h2 h3
  have C4 := fun w : World => cmpT_ok s u w h1 h3
  simp only [cmpT_swap s t] at C2
  have he : ∀ w : World, (binOp .eql 23 (.agg #[.int .i64 s.a, .int .i64 s.b, .int .i64 s.c, .int .i64 s.d]) (.agg #[.int .i64 t.a, .int .i64 t.b, .int .i64 t.c, .int .i64 t.d])).run Tryd.prog w = .ok (.bool false) w := fun w => by
    rw [run_eql_tone s t]
    have : eqB s t = false := by
      rw [Bool.eq_false_iff]; intro h; have h9 := (eqB_iff s t).1 h; rw [h9, cmpT_self] at ha; omega
    rw [this]
  have R1 := fun w : World => mulT_ok s u w h1 h3
  have R2 := fun w : World => mulT_ok t u w h2 h3
  rw [ha] at C1
  simp only [ha] at C2
  generalize cmpT t u = c at *
  generalize cmpT s u = d at *
  generalize mulT s u = M at *
  generalize mulT t u = N at *
  obtain ⟨⟨p1, p2, p3, p4⟩, k⟩ := M
  obtain ⟨⟨q1, q2, q3, q4⟩, m⟩ := N
  dsimp only at *
  have H1 := Lib.hid C1
  have H2 := Lib.hid C2
  have H3 := Lib.hid C3
  have H4 := Lib.hid C4
  have HR1 := Lib.hid R1
  have HR2 := Lib.hid R2
  clear C1 C2 C3 C4 R1 R2 h1 h2 h3 g1 g2 g3 hS hT hU ha
  have vs := Vals.newL w (w.heap.size) [.int .i64 s.a, .int .i64 s.b, .int .i64 s.c, .int .i64 s.d] 23 rfl
  have bb := below_alloc w (.cells #[.int .i64 s.a, .int .i64 s.b, .int .i64 s.c, .int .i64 s.d] 23)
  have B := bb
  have sz0 := World.size_alloc w (.cells #[.int .i64 s.a, .int .i64 s.b, .int .i64 s.c, .int .i64 s.d] 23)
  have sz := sz0
  clear sz0
  clear bb
  have vt := Vals.newL (w.alloc (.cells #[.int .i64 s.a, .int .i64 s.b, .int .i64 s.c, .int .i64 s.d] 23)) (w.heap.size + 1) [.int .i64 t.a, .int .i64 t.b, .int .i64 t.c, .int .i64 t.d] 23 sz.symm
  have bb := below_alloc (w.alloc (.cells #[.int .i64 s.a, .int .i64 s.b, .int .i64 s.c, .int .i64 s.d] 23)) (.cells #[.int .i64 t.a, .int .i64 t.b, .int .i64 t.c, .int .i64 t.d] 23)
  replace vs := vs.mono bb
  replace B := below_trans B bb
  clear bb
  have sz1 := World.size_alloc (w.alloc (.cells #[.int .i64 s.a, .int .i64 s.b, .int .i64 s.c, .int .i64 s.d] 23)) (.cells #[.int .i64 t.a, .int .i64 t.b, .int .i64 t.c, .int .i64 t.d] 23)
  rw [sz] at sz1
  clear sz
  have sz := sz1
  clear sz1
  have vu := Vals.newL ((w.alloc (.cells #[.int .i64 s.a, .int .i64 s.b, .int .i64 s.c, .int .i64 s.d] 23)).alloc (.cells #[.int .i64 t.a, .int .i64 t.b, .int .i64 t.c, .int .i64 t.d] 23)) (w.heap.size + 1 + 1) [.int .i64 u.a, .int .i64 u.b, .int .i64 u.c, .int .i64 u.d] 23 sz.symm
  have bb := below_alloc ((w.alloc (.cells #[.int .i64 s.a, .int .i64 s.b, .int .i64 s.c, .int .i64 s.d] 23)).alloc (.cells #[.int .i64 t.a, .int .i64 t.b, .int .i64 t.c, .int .i64 t.d] 23)) (.cells #[.int .i64 u.a, .int .i64 u.b, .int .i64 u.c, .int .i64 u.d] 23)
  replace vs := vs.mono bb
  replace vt := vt.mono bb
  replace B := below_trans B bb
  clear sz
  have bb0 := B
  clear bb
  go_enter Tryd.func13, Tryd.ntmps13
  go_wp2_with fail
  generalize (((w.alloc (.cells #[.int .i64 s.a, .int .i64 s.b, .int .i64 s.c, .int .i64 s.d] 23)).alloc (.cells #[.int .i64 t.a, .int .i64 t.b, .int .i64 t.c, .int .i64 t.d] 23)).alloc (.cells #[.int .i64 u.a, .int .i64 u.b, .int .i64 u.c, .int .i64 u.d] 23)) = w0 at *
  replace ht := ht.mono bb0
  clear bb0
  refine (HVs.out _).mono ?_
  rintro e w1 ⟨rfl, b1⟩
  replace vs := vs.mono b1
  replace vt := vt.mono b1
  replace vu := vu.mono b1
  replace ht := ht.mono b1
  replace B := below_trans B b1
  clear b1
  have cvt0 := vt.cell (i := 0) (by simp)
  have cvt1 := vt.cell (i := 1) (by simp)
  have cvt2 := vt.cell (i := 2) (by simp)
  have cvt3 := vt.cell (i := 3) (by simp)
  simp only [List.getD_cons_zero, List.getD_cons_succ] at cvt0 cvt1 cvt2 cvt3
  have ltvt := vt.lt
  go_wp2_with fail
  clear cvt0 cvt1 cvt2 cvt3 ltvt
  refine (HVt.out _).mono ?_
  rintro e w2 ⟨rfl, b2⟩
  replace vs := vs.mono b2
  replace vt := vt.mono b2
  replace vu := vu.mono b2
  replace ht := ht.mono b2
  replace B := below_trans B b2
  clear b2
  have cvu0 := vu.cell (i := 0) (by simp)
  have cvu1 := vu.cell (i := 1) (by simp)
  have cvu2 := vu.cell (i := 2) (by simp)
  have cvu3 := vu.cell (i := 3) (by simp)
  simp only [List.getD_cons_zero, List.getD_cons_succ] at cvu0 cvu1 cvu2 cvu3
  have ltvu := vu.lt
  go_wp2_with fail
  clear cvu0 cvu1 cvu2 cvu3 ltvu
  refine (HVu.out _).mono ?_
  rintro e w3 ⟨rfl, b3⟩
  replace vs := vs.mono b3
  replace vt := vt.mono b3
  replace vu := vu.mono b3
  replace ht := ht.mono b3
  replace B := below_trans B b3
  clear b3
  have cvs0 := vs.cell (i := 0) (by simp)
  have cvs1 := vs.cell (i := 1) (by simp)
  have cvs2 := vs.cell (i := 2) (by simp)
  have cvs3 := vs.cell (i := 3) (by simp)
  simp only [List.getD_cons_zero, List.getD_cons_succ] at cvs0 cvs1 cvs2 cvs3
  have ltvs := vs.lt
  go_wp2_with fail
  clear cvs0 cvs1 cvs2 cvs3 ltvs
  refine (HLs.out _).mono ?_
  rintro e w4 ⟨rfl, b4⟩
  replace vs := vs.mono b4
  replace vt := vt.mono b4
  replace vu := vu.mono b4
  replace ht := ht.mono b4
  replace B := below_trans B b4
  clear b4
  have cvt0 := vt.cell (i := 0) (by simp)
  have cvt1 := vt.cell (i := 1) (by simp)
  have cvt2 := vt.cell (i := 2) (by simp)
  have cvt3 := vt.cell (i := 3) (by simp)
  simp only [List.getD_cons_zero, List.getD_cons_succ] at cvt0 cvt1 cvt2 cvt3
  have ltvt := vt.lt
  go_wp2_with fail
  clear cvt0 cvt1 cvt2 cvt3 ltvt
  refine (HLt.out _).mono ?_
  rintro e w5 ⟨rfl, b5⟩
  replace vs := vs.mono b5
  replace vt := vt.mono b5
  replace vu := vu.mono b5
  replace ht := ht.mono b5
  replace B := below_trans B b5
  clear b5
  have cvu0 := vu.cell (i := 0) (by simp)
  have cvu1 := vu.cell (i := 1) (by simp)
  have cvu2 := vu.cell (i := 2) (by simp)
  have cvu3 := vu.cell (i := 3) (by simp)
  simp only [List.getD_cons_zero, List.getD_cons_succ] at cvu0 cvu1 cvu2 cvu3
  have ltvu := vu.lt
  go_wp2_with fail
  clear cvu0 cvu1 cvu2 cvu3 ltvu
  refine (HLu.out _).mono ?_
  rintro e w6 ⟨rfl, b6⟩
  replace vs := vs.mono b6
  replace vt := vt.mono b6
  replace vu := vu.mono b6
  replace ht := ht.mono b6
  replace B := below_trans B b6
  clear b6
  have cvs0 := vs.cell (i := 0) (by simp)
  have cvs1 := vs.cell (i := 1) (by simp)
  have cvs2 := vs.cell (i := 2) (by simp)
  have cvs3 := vs.cell (i := 3) (by simp)
  simp only [List.getD_cons_zero, List.getD_cons_succ] at cvs0 cvs1 cvs2 cvs3
  have ltvs := vs.lt
  have cvt0 := vt.cell (i := 0) (by simp)
  have cvt1 := vt.cell (i := 1) (by simp)
  have cvt2 := vt.cell (i := 2) (by simp)
  have cvt3 := vt.cell (i := 3) (by simp)
  simp only [List.getD_cons_zero, List.getD_cons_succ] at cvt0 cvt1 cvt2 cvt3
  have ltvt := vt.lt
  go_wp2_with fail
  clear cvs0 cvs1 cvs2 cvs3 ltvs cvt0 cvt1 cvt2 cvt3 ltvt
  refine (H1.out _).mono ?_
  rintro e w7 ⟨rfl, b7⟩
  replace vs := vs.mono b7
  replace vt := vt.mono b7
  replace vu := vu.mono b7
  replace ht := ht.mono b7
  replace B := below_trans B b7
  clear b7
  have cvt0 := vt.cell (i := 0) (by simp)
  have cvt1 := vt.cell (i := 1) (by simp)
  have cvt2 := vt.cell (i := 2) (by simp)
  have cvt3 := vt.cell (i := 3) (by simp)
  simp only [List.getD_cons_zero, List.getD_cons_succ] at cvt0 cvt1 cvt2 cvt3
  have ltvt := vt.lt
  have cvs0 := vs.cell (i := 0) (by simp)
  have cvs1 := vs.cell (i := 1) (by simp)
  have cvs2 := vs.cell (i := 2) (by simp)
  have cvs3 := vs.cell (i := 3) (by simp)
  simp only [List.getD_cons_zero, List.getD_cons_succ] at cvs0 cvs1 cvs2 cvs3
  have ltvs := vs.lt
  go_wp2_with fail
  clear cvt0 cvt1 cvt2 cvt3 ltvt cvs0 cvs1 cvs2 cvs3 ltvs
  refine (H2.out _).mono ?_
  rintro e w8 ⟨rfl, b8⟩
  replace vs := vs.mono b8
  replace vt := vt.mono b8
  replace vu := vu.mono b8
  replace ht := ht.mono b8
  replace B := below_trans B b8
  clear b8
  have cvt0 := vt.cell (i := 0) (by simp)
  have cvt1 := vt.cell (i := 1) (by simp)
  have cvt2 := vt.cell (i := 2) (by simp)
  have cvt3 := vt.cell (i := 3) (by simp)
  simp only [List.getD_cons_zero, List.getD_cons_succ] at cvt0 cvt1 cvt2 cvt3
  have ltvt := vt.lt
  have cvu0 := vu.cell (i := 0) (by simp)
  have cvu1 := vu.cell (i := 1) (by simp)
  have cvu2 := vu.cell (i := 2) (by simp)
  have cvu3 := vu.cell (i := 3) (by simp)
  simp only [List.getD_cons_zero, List.getD_cons_succ] at cvu0 cvu1 cvu2 cvu3
  have ltvu := vu.lt
  go_wp2_with fail
  clear cvt0 cvt1 cvt2 cvt3 ltvt cvu0 cvu1 cvu2 cvu3 ltvu
  refine (H3.out _).mono ?_
  rintro e w9 ⟨rfl, b9⟩
  replace vs := vs.mono b9
  replace vt := vt.mono b9
  replace vu := vu.mono b9
  replace ht := ht.mono b9
  replace B := below_trans B b9
  clear b9
  have cvs0 := vs.cell (i := 0) (by simp)
  have cvs1 := vs.cell (i := 1) (by simp)
  have cvs2 := vs.cell (i := 2) (by simp)
  have cvs3 := vs.cell (i := 3) (by simp)
  simp only [List.getD_cons_zero, List.getD_cons_succ] at cvs0 cvs1 cvs2 cvs3
  have ltvs := vs.lt
  have cvu0 := vu.cell (i := 0) (by simp)
  have cvu1 := vu.cell (i := 1) (by simp)
  have cvu2 := vu.cell (i := 2) (by simp)
  have cvu3 := vu.cell (i := 3) (by simp)
  simp only [List.getD_cons_zero, List.getD_cons_succ] at cvu0 cvu1 cvu2 cvu3
  have ltvu := vu.lt
  go_wp2_with fail
  clear cvs0 cvs1 cvs2 cvs3 ltvs cvu0 cvu1 cvu2 cvu3 ltvu
  refine (H4.out _).mono ?_
  rintro e w10 ⟨rfl, b10⟩
  replace vs := vs.mono b10
  replace vt := vt.mono b10
  replace vu := vu.mono b10
  replace ht := ht.mono b10
  replace B := below_trans B b10
  clear b10
  have cvs0 := vs.cell (i := 0) (by simp)
  have cvs1 := vs.cell (i := 1) (by simp)
  have cvs2 := vs.cell (i := 2) (by simp)
  have cvs3 := vs.cell (i := 3) (by simp)
  simp only [List.getD_cons_zero, List.getD_cons_succ] at cvs0 cvs1 cvs2 cvs3
  have ltvs := vs.lt
  have cvt0 := vt.cell (i := 0) (by simp)
  have cvt1 := vt.cell (i := 1) (by simp)
  have cvt2 := vt.cell (i := 2) (by simp)
  have cvt3 := vt.cell (i := 3) (by simp)
  simp only [List.getD_cons_zero, List.getD_cons_succ] at cvt0 cvt1 cvt2 cvt3
  have ltvt := vt.lt
  go_wp2_with fail
  clear cvs0 cvs1 cvs2 cvs3 ltvs cvt0 cvt1 cvt2 cvt3 ltvt
  refine (lives_calls _ ht).mono ?_
  rintro e w11 ⟨rfl, b11⟩
  replace vs := vs.mono b11
  replace vt := vt.mono b11
  replace vu := vu.mono b11
  replace ht := ht.mono b11
  replace B := below_trans B b11
  clear b11
  have cvs0 := vs.cell (i := 0) (by simp)
  have cvs1 := vs.cell (i := 1) (by simp)
  have cvs2 := vs.cell (i := 2) (by simp)
  have cvs3 := vs.cell (i := 3) (by simp)
  simp only [List.getD_cons_zero, List.getD_cons_succ] at cvs0 cvs1 cvs2 cvs3
  have ltvs := vs.lt
  have cvu0 := vu.cell (i := 0) (by simp)
  have cvu1 := vu.cell (i := 1) (by simp)
  have cvu2 := vu.cell (i := 2) (by simp)
  have cvu3 := vu.cell (i := 3) (by simp)
  simp only [List.getD_cons_zero, List.getD_cons_succ] at cvu0 cvu1 cvu2 cvu3
  have ltvu := vu.lt
  go_wp2_with fail
  clear cvs0 cvs1 cvs2 cvs3 ltvs cvu0 cvu1 cvu2 cvu3 ltvu
  refine (HR1.out _).mono ?_
  rintro e w12 ⟨rfl, b12⟩
  replace vs := vs.mono b12
  replace vt := vt.mono b12
  replace vu := vu.mono b12
  replace ht := ht.mono b12
  replace B := below_trans B b12
  clear b12
  have cvt0 := vt.cell (i := 0) (by simp)
  have cvt1 := vt.cell (i := 1) (by simp)
  have cvt2 := vt.cell (i := 2) (by simp)
  have cvt3 := vt.cell (i := 3) (by simp)
  simp only [List.getD_cons_zero, List.getD_cons_succ] at cvt0 cvt1 cvt2 cvt3
  have ltvt := vt.lt
  have cvu0 := vu.cell (i := 0) (by simp)
  have cvu1 := vu.cell (i := 1) (by simp)
  have cvu2 := vu.cell (i := 2) (by simp)
  have cvu3 := vu.cell (i := 3) (by simp)
  simp only [List.getD_cons_zero, List.getD_cons_succ] at cvu0 cvu1 cvu2 cvu3
  have ltvu := vu.lt
  go_wp2_with fail
  clear cvt0 cvt1 cvt2 cvt3 ltvt cvu0 cvu1 cvu2 cvu3 ltvu
  have v1 := Vals.newL w12 w12.heap.size [.int .i64 p1, .int .i64 p2, .int .i64 p3, .int .i64 p4] 23 rfl
  have bb := below_alloc w12 (.cells #[.int .i64 p1, .int .i64 p2, .int .i64 p3, .int .i64 p4] 23)
  replace vs := vs.mono bb
  replace vt := vt.mono bb
  replace vu := vu.mono bb
  replace ht := ht.mono bb
  replace B := below_trans B bb
  clear bb
  generalize w12.alloc (.cells #[.int .i64 p1, .int .i64 p2, .int .i64 p3, .int .i64 p4] 23) = w13 at *
  refine (HR2.out _).mono ?_
  rintro e w14 ⟨rfl, b14⟩
  replace vs := vs.mono b14
  replace vt := vt.mono b14
  replace vu := vu.mono b14
  replace ht := ht.mono b14
  replace v1 := v1.mono b14
  replace B := below_trans B b14
  clear b14
  replace B := below_trans B (below_alloc _ (.cells #[.int .i64 q1, .int .i64 q2, .int .i64 q3, .int .i64 q4] 23))
  go_wp2
  go_ret
  exact ⟨rfl, B⟩

set_option maxRecDepth 100000 in
set_option maxHeartbeats 1000000 in
theorem order_2ok (s t u : T4) (w : World) (hS : i64 s.a ∧ i64 s.b ∧ i64 s.c ∧ i64 s.d) (hT : i64 t.a ∧ i64 t.b ∧ i64 t.c ∧ i64 t.d) (hU : i64 u.a ∧ i64 u.b ∧ i64 u.c ∧ i64 u.d) (ht : Tab w) (h1 : validB s.a s.b s.c s.d = true) (h2 : validB t.a t.b t.c t.d = true) (h3 : validB u.a u.b u.c u.d = true) (g1 : -60 ≤ s.a ∧ s.a ≤ 60 ∧ -60 ≤ s.b ∧ s.b ≤ 60 ∧ -60 ≤ s.c ∧ s.c ≤ 60) (g2 : -60 ≤ t.a ∧ t.a ≤ 60 ∧ -60 ≤ t.b ∧ t.b ≤ 60 ∧ -60 ≤ t.c ∧ t.c ≤ 60) (g3 : -60 ≤ u.a ∧ u.a ≤ 60 ∧ -60 ≤ u.b ∧ u.b ≤ 60 ∧ -60 ≤ u.c ∧ u.c ≤ 60) (ha : cmpT s t = 0) (f0 : decide (cmpT t u ≤ 0) = true) (f1 : decide (0 ≤ cmpT t u) = false) (f2 : decide (0 < cmpT s u) = false) (hk : (mulT s u).2 = 0) (hm : (mulT t u).2 = 0) :
    Calls Tryd.prog 13 #[.agg #[.int .i64 s.a, .int .i64 s.b, .int .i64 s.c, .int .i64 s.d], .agg #[.int .i64 t.a, .int .i64 t.b, .int .i64 t.c, .int .i64 t.d], .agg #[.int .i64 u.a, .int .i64 u.b, .int .i64 u.c, .int .i64 u.d]] w (RetTrue w) := by
  have Vs := fun w : World => rvalid_calls s w hS
  rw [h1] at Vs
  have HVs := Lib.hid Vs
  clear Vs
  have Vt := fun w : World => rvalid_calls t w hT
  rw [h2] at Vt
  have HVt := Lib.hid Vt
  clear Vt
  have Vu := fun w : World => rvalid_calls u w hU
  rw [h3] at Vu
  have HVu := Lib.hid Vu
  clear Vu
  have Ls := fun w : World => large_no s 60 w (by omega) (by omega) g1
  have HLs := Lib.hid Ls
  clear Ls
  have Lt := fun w : World => large_no t 60 w (by omega) (by omega) g2
  have HLt := Lib.hid Lt
  clear Lt
  have Lu := fun w : World => large_no u 60 w (by omega) (by omega) g3
  have HLu := Lib.hid Lu
  clear Lu
  have C1 := fun w : World => cmpT_ok s t w h1 h2
  have C2 := fun w : World => cmpT_ok t s w h2 h1
  have C3 := fun w : World => cmpT_ok t u w h2 h3
  have C4 := fun w : World => cmpT_ok s u w h1 h3
  simp only [cmpT_swap s t] at C2
  have he : ∀ w : World, (binOp .eql 23 (.agg #[.int .i64 s.a, .int .i64 s.b, .int .i64 s.c, .int .i64 s.d]) (.agg #[.int .i64 t.a, .int .i64 t.b, .int .i64 t.c, .int .i64 t.d])).run Tryd.prog w = .ok (.bool true) w := fun w => by
    rw [run_eql_tone s t]
    have : eqB s t = true := by
      rw [eqB_iff]; exact cmpT_eq h1 h2 ha
    rw [this]
  have R1 := fun w : World => mulT_ok s u w h1 h3
  have R2 := fun w : World => mulT_ok t u w h2 h3
  have okP : okT (mulT s u).1 := redT_okT hk
  have okQ : okT (mulT t u).1 := redT_okT hm
  have C5 := fun w : World => cmpT_ok (mulT s u).1 (mulT t u).1 w okP okQ
  rw [cmpT_mul h1 h2 h3 hk hm] at C5
  rw [ha] at C5
  clear okP okQ
  rw [ha] at C1
  simp only [ha] at C2
  generalize cmpT t u = c at *
  generalize cmpT s u = d at *
  generalize mulT s u = M at *
  generalize mulT t u = N at *
  obtain ⟨⟨p1, p2, p3, p4⟩, k⟩ := M
  obtain ⟨⟨q1, q2, q3, q4⟩, m⟩ := N
  dsimp only at *
  subst hk
  subst hm
  have H5 := Lib.hid C5
  clear C5
  have H1 := Lib.hid C1
  have H2 := Lib.hid C2
  have H3 := Lib.hid C3
  have H4 := Lib.hid C4
  have HR1 := Lib.hid R1
  have HR2 := Lib.hid R2
  clear C1 C2 C3 C4 R1 R2 h1 h2 h3 g1 g2 g3 hS hT hU ha
  have vs := Vals.newL w (w.heap.size) [.int .i64 s.a, .int .i64 s.b, .int .i64 s.c, .int .i64 s.d] 23 rfl
  have bb := below_alloc w (.cells #[.int .i64 s.a, .int .i64 s.b, .int .i64 s.c, .int .i64 s.d] 23)
  have B := bb
  have sz0 := World.size_alloc w (.cells #[.int .i64 s.a, .int .i64 s.b, .int .i64 s.c, .int .i64 s.d] 23)
  have sz := sz0
  clear sz0
  clear bb
  have vt := Vals.newL (w.alloc (.cells #[.int .i64 s.a, .int .i64 s.b, .int .i64 s.c, .int .i64 s.d] 23)) (w.heap.size + 1) [.int .i64 t.a, .int .i64 t.b, .int .i64 t.c, .int .i64 t.d] 23 sz.symm
  have bb := below_alloc (w.alloc (.cells #[.int .i64 s.a, .int .i64 s.b, .int .i64 s.c, .int .i64 s.d] 23)) (.cells #[.int .i64 t.a, .int .i64 t.b, .int .i64 t.c, .int .i64 t.d] 23)
  replace vs := vs.mono bb
  replace B := below_trans B bb
  clear bb
  have sz1 := World.size_alloc (w.alloc (.cells #[.int .i64 s.a, .int .i64 s.b, .int .i64 s.c, .int .i64 s.d] 23)) (.cells #[.int .i64 t.a, .int .i64 t.b, .int .i64 t.c, .int .i64 t.d] 23)
  rw [sz] at sz1
  clear sz
  have sz := sz1
  clear sz1
  have vu := Vals.newL ((w.alloc (.cells #[.int .i64 s.a, .int .i64 s.b, .int .i64 s.c, .int .i64 s.d] 23)).alloc (.cells #[.int .i64 t.a, .int .i64 t.b, .int .i64 t.c, .int .i64 t.d] 23)) (w.heap.size + 1 + 1) [.int .i64 u.a, .int .i64 u.b, .int .i64 u.c, .int .i64 u.d] 23 sz.symm
  have bb := below_alloc ((w.alloc (.cells #[.int .i64 s.a, .int .i64 s.b, .int .i64 s.c, .int .i64 s.d] 23)).alloc (.cells #[.int .i64 t.a, .int .i64 t.b, .int .i64 t.c, .int .i64 t.d] 23)) (.cells #[.int .i64 u.a, .int .i64 u.b, .int .i64 u.c, .int .i64 u.d] 23)
  replace vs := vs.mono bb
  replace vt := vt.mono bb
  replace B := below_trans B bb
  clear sz
  have bb0 := B
  clear bb
  go_enter Tryd.func13, Tryd.ntmps13
  go_wp2_with fail
  generalize (((w.alloc (.cells #[.int .i64 s.a, .int .i64 s.b, .int .i64 s.c, .int .i64 s.d] 23)).alloc (.cells #[.int .i64 t.a, .int .i64 t.b, .int .i64 t.c, .int .i64 t.d] 23)).alloc (.cells #[.int .i64 u.a, .int .i64 u.b, .int .i64 u.c, .int .i64 u.d] 23)) = w0 at *
  replace ht := ht.mono bb0
  clear bb0
  refine (HVs.out _).mono ?_
  rintro e w1 ⟨rfl, b1⟩
  replace vs := vs.mono b1
  replace vt := vt.mono b1
  replace vu := vu.mono b1
  replace ht := ht.mono b1
  replace B := below_trans B b1
  clear b1
  have cvt0 := vt.cell (i := 0) (by simp)
  have cvt1 := vt.cell (i := 1) (by simp)
  have cvt2 := vt.cell (i := 2) (by simp)
  have cvt3 := vt.cell (i := 3) (by simp)
  simp only [List.getD_cons_zero, List.getD_cons_succ] at cvt0 cvt1 cvt2 cvt3
  have ltvt := vt.lt
  go_wp2_with fail
  clear cvt0 cvt1 cvt2 cvt3 ltvt
  refine (HVt.out _).mono ?_
  rintro e w2 ⟨rfl, b2⟩
  replace vs := vs.mono b2
  replace vt := vt.mono b2
  replace vu := vu.mono b2
  replace ht := ht.mono b2
  replace B := below_trans B b2
  clear b2
  have cvu0 := vu.cell (i := 0) (by simp)
  have cvu1 := vu.cell (i := 1) (by simp)
  have cvu2 := vu.cell (i := 2) (by simp)
  have cvu3 := vu.cell (i := 3) (by simp)
  simp only [List.getD_cons_zero, List.getD_cons_succ] at cvu0 cvu1 cvu2 cvu3
  have ltvu := vu.lt
  go_wp2_with fail
  clear cvu0 cvu1 cvu2 cvu3 ltvu
  refine (HVu.out _).mono ?_
  rintro e w3 ⟨rfl, b3⟩
  replace vs := vs.mono b3
  replace vt := vt.mono b3
  replace vu := vu.mono b3
  replace ht := ht.mono b3
  replace B := below_trans B b3
  clear b3
  have cvs0 := vs.cell (i := 0) (by simp)
  have cvs1 := vs.cell (i := 1) (by simp)
  have cvs2 := vs.cell (i := 2) (by simp)
  have cvs3 := vs.cell (i := 3) (by simp)
  simp only [List.getD_cons_zero, List.getD_cons_succ] at cvs0 cvs1 cvs2 cvs3
  have ltvs := vs.lt
  go_wp2_with fail
  clear cvs0 cvs1 cvs2 cvs3 ltvs
  refine (HLs.out _).mono ?_
  rintro e w4 ⟨rfl, b4⟩
  replace vs := vs.mono b4
  replace vt := vt.mono b4
  replace vu := vu.mono b4
  replace ht := ht.mono b4
  replace B := below_trans B b4
  clear b4
  have cvt0 := vt.cell (i := 0) (by simp)
  have cvt1 := vt.cell (i := 1) (by simp)
  have cvt2 := vt.cell (i := 2) (by simp)
  have cvt3 := vt.cell (i := 3) (by simp)
  simp only [List.getD_cons_zero, List.getD_cons_succ] at cvt0 cvt1 cvt2 cvt3
  have ltvt := vt.lt
  go_wp2_with fail
  clear cvt0 cvt1 cvt2 cvt3 ltvt
  refine (HLt.out _).mono ?_
  rintro e w5 ⟨rfl, b5⟩
  replace vs := vs.mono b5
  replace vt := vt.mono b5
  replace vu := vu.mono b5
  replace ht := ht.mono b5
  replace B := below_trans B b5
  clear b5
  have cvu0 := vu.cell (i := 0) (by simp)
  have cvu1 := vu.cell (i := 1) (by simp)
  have cvu2 := vu.cell (i := 2) (by simp)
  have cvu3 := vu.cell (i := 3) (by simp)
  simp only [List.getD_cons_zero, List.getD_cons_succ] at cvu0 cvu1 cvu2 cvu3
  have ltvu := vu.lt
  go_wp2_with fail
  clear cvu0 cvu1 cvu2 cvu3 ltvu
  refine (HLu.out _).mono ?_
  rintro e w6 ⟨rfl, b6⟩
  replace vs := vs.mono b6
  replace vt := vt.mono b6
  replace vu := vu.mono b6
  replace ht := ht.mono b6
  replace B := below_trans B b6
  clear b6
  have cvs0 := vs.cell (i := 0) (by simp)
  have cvs1 := vs.cell (i := 1) (by simp)
  have cvs2 := vs.cell (i := 2) (by simp)
  have cvs3 := vs.cell (i := 3) (by simp)
  simp only [List.getD_cons_zero, List.getD_cons_succ] at cvs0 cvs1 cvs2 cvs3
  have ltvs := vs.lt
  have cvt0 := vt.cell (i := 0) (by simp)
  have cvt1 := vt.cell (i := 1) (by simp)
  have cvt2 := vt.cell (i := 2) (by simp)
  have cvt3 := vt.cell (i := 3) (by simp)
  simp only [List.getD_cons_zero, List.getD_cons_succ] at cvt0 cvt1 cvt2 cvt3
  have ltvt := vt.lt
  go_wp2_with fail
  clear cvs0 cvs1 cvs2 cvs3 ltvs cvt0 cvt1 cvt2 cvt3 ltvt
  refine (H1.out _).mono ?_
  rintro e w7 ⟨rfl, b7⟩
  replace vs := vs.mono b7
  replace vt := vt.mono b7
  replace vu := vu.mono b7
  replace ht := ht.mono b7
  replace B := below_trans B b7
  clear b7
  have cvt0 := vt.cell (i := 0) (by simp)
  have cvt1 := vt.cell (i := 1) (by simp)
  have cvt2 := vt.cell (i := 2) (by simp)
  have cvt3 := vt.cell (i := 3) (by simp)
  simp only [List.getD_cons_zero, List.getD_cons_succ] at cvt0 cvt1 cvt2 cvt3
  have ltvt := vt.lt
  have cvs0 := vs.cell (i := 0) (by simp)
  have cvs1 := vs.cell (i := 1) (by simp)
  have cvs2 := vs.cell (i := 2) (by simp)
  have cvs3 := vs.cell (i := 3) (by simp)
  simp only [List.getD_cons_zero, List.getD_cons_succ] at cvs0 cvs1 cvs2 cvs3
  have ltvs := vs.lt
  go_wp2_with fail
  clear cvt0 cvt1 cvt2 cvt3 ltvt cvs0 cvs1 cvs2 cvs3 ltvs
  refine (H2.out _).mono ?_
  rintro e w8 ⟨rfl, b8⟩
  replace vs := vs.mono b8
  replace vt := vt.mono b8
  replace vu := vu.mono b8
  replace ht := ht.mono b8
  replace B := below_trans B b8
  clear b8
  have cvt0 := vt.cell (i := 0) (by simp)
  have cvt1 := vt.cell (i := 1) (by simp)
  have cvt2 := vt.cell (i := 2) (by simp)
  have cvt3 := vt.cell (i := 3) (by simp)
  simp only [List.getD_cons_zero, List.getD_cons_succ] at cvt0 cvt1 cvt2 cvt3
  have ltvt := vt.lt
  have cvu0 := vu.cell (i := 0) (by simp)
  have cvu1 := vu.cell (i := 1) (by simp)
  have cvu2 := vu.cell (i := 2) (by simp)
  have cvu3 := vu.cell (i := 3) (by simp)
  simp only [List.getD_cons_zero, List.getD_cons_succ] at cvu0 cvu1 cvu2 cvu3
  have ltvu := vu.lt
  go_wp2_with fail
  clear cvt0 cvt1 cvt2 cvt3 ltvt cvu0 cvu1 cvu2 cvu3 ltvu
  refine (H3.out _).mono ?_
  rintro e w9 ⟨rfl, b9⟩
  replace vs := vs.mono b9
  replace vt := vt.mono b9
  replace vu := vu.mono b9
  replace ht := ht.mono b9
  replace B := below_trans B b9
  clear b9
  have cvs0 := vs.cell (i := 0) (by simp)
  have cvs1 := vs.cell (i := 1) (by simp)
  have cvs2 := vs.cell (i := 2) (by simp)
  have cvs3 := vs.cell (i := 3) (by simp)
  simp only [List.getD_cons_zero, List.getD_cons_succ] at cvs0 cvs1 cvs2 cvs3
  have ltvs := vs.lt
  have cvu0 := vu.cell (i := 0) (by simp)
  have cvu1 := vu.cell (i := 1) (by simp)
  have cvu2 := vu.cell (i := 2) (by simp)
  have cvu3 := vu.cell (i := 3) (by simp)
  simp only [List.getD_cons_zero, List.getD_cons_succ] at cvu0 cvu1 cvu2 cvu3
  have ltvu := vu.lt
  go_wp2_with fail
  clear cvs0 cvs1 cvs2 cvs3 ltvs cvu0 cvu1 cvu2 cvu3 ltvu
  refine (H4.out _).mono ?_
  rintro e w10 ⟨rfl, b10⟩
  replace vs := vs.mono b10
  replace vt := vt.mono b10
  replace vu := vu.mono b10
  replace ht := ht.mono b10
  replace B := below_trans B b10
  clear b10
  have cvs0 := vs.cell (i := 0) (by simp)
  have cvs1 := vs.cell (i := 1) (by simp)
  have cvs2 := vs.cell (i := 2) (by simp)
  have cvs3 := vs.cell (i := 3) (by simp)
  simp only [List.getD_cons_zero, List.getD_cons_succ] at cvs0 cvs1 cvs2 cvs3
  have ltvs := vs.lt
  have cvt0 := vt.cell (i := 0) (by simp)
  have cvt1 := vt.cell (i := 1) (by simp)
  have cvt2 := vt.cell (i := 2) (by simp)
  have cvt3 := vt.cell (i := 3) (by simp)
  simp only [List.getD_cons_zero, List.getD_cons_succ] at cvt0 cvt1 cvt2 cvt3
  have ltvt := vt.lt
  go_wp2_with fail
  clear cvs0 cvs1 cvs2 cvs3 ltvs cvt0 cvt1 cvt2 cvt3 ltvt
  refine (lives_calls _ ht).mono ?_
  rintro e w11 ⟨rfl, b11⟩
  replace vs := vs.mono b11
  replace vt := vt.mono b11
  replace vu := vu.mono b11
  replace ht := ht.mono b11
  replace B := below_trans B b11
  clear b11
  have cvs0 := vs.cell (i := 0) (by simp)
  have cvs1 := vs.cell (i := 1) (by simp)
  have cvs2 := vs.cell (i := 2) (by simp)
  have cvs3 := vs.cell (i := 3) (by simp)
  simp only [List.getD_cons_zero, List.getD_cons_succ] at cvs0 cvs1 cvs2 cvs3
  have ltvs := vs.lt
  have cvu0 := vu.cell (i := 0) (by simp)
  have cvu1 := vu.cell (i := 1) (by simp)
  have cvu2 := vu.cell (i := 2) (by simp)
  have cvu3 := vu.cell (i := 3) (by simp)
  simp only [List.getD_cons_zero, List.getD_cons_succ] at cvu0 cvu1 cvu2 cvu3
  have ltvu := vu.lt
  go_wp2_with fail
  clear cvs0 cvs1 cvs2 cvs3 ltvs cvu0 cvu1 cvu2 cvu3 ltvu
  refine (HR1.out _).mono ?_
  rintro e w12 ⟨rfl, b12⟩
  replace vs := vs.mono b12
  replace vt := vt.mono b12
  replace vu := vu.mono b12
  replace ht := ht.mono b12
  replace B := below_trans B b12
  clear b12
  have cvt0 := vt.cell (i := 0) (by simp)
  have cvt1 := vt.cell (i := 1) (by simp)
  have cvt2 := vt.cell (i := 2) (by simp)
  have cvt3 := vt.cell (i := 3) (by simp)
  simp only [List.getD_cons_zero, List.getD_cons_succ] at cvt0 cvt1 cvt2 cvt3
  have ltvt := vt.lt
  have cvu0 := vu.cell (i := 0) (by simp)
  have cvu1 := vu.cell (i := 1) (by simp)
  have cvu2 := vu.cell (i := 2) (by simp)
  have cvu3 := vu.cell (i := 3) (by simp)
  simp only [List.getD_cons_zero, List.getD_cons_succ] at cvu0 cvu1 cvu2 cvu3
  have ltvu := vu.lt
  go_wp2_with fail
  clear cvt0 cvt1 cvt2 cvt3 ltvt cvu0 cvu1 cvu2 cvu3 ltvu
  have v1 := Vals.newL w12 w12.heap.size [.int .i64 p1, .int .i64 p2, .int .i64 p3, .int .i64 p4] 23 rfl
  have bb := below_alloc w12 (.cells #[.int .i64 p1, .int .i64 p2, .int .i64 p3, .int .i64 p4] 23)
  replace vs := vs.mono bb
  replace vt := vt.mono bb
  replace vu := vu.mono bb
  replace ht := ht.mono bb
  replace B := below_trans B bb
  clear bb
  generalize w12.alloc (.cells #[.int .i64 p1, .int .i64 p2, .int .i64 p3, .int .i64 p4] 23) = w13 at *
  refine (HR2.out _).mono ?_
  rintro e w14 ⟨rfl, b14⟩
  replace vs := vs.mono b14
  replace vt := vt.mono b14
  replace vu := vu.mono b14
  replace ht := ht.mono b14
  replace v1 := v1.mono b14
  replace B := below_trans B b14
  clear b14
  have cv10 := v1.cell (i := 0) (by simp)
  have cv11 := v1.cell (i := 1) (by simp)
  have cv12 := v1.cell (i := 2) (by simp)
  have cv13 := v1.cell (i := 3) (by simp)
  simp only [List.getD_cons_zero, List.getD_cons_succ] at cv10 cv11 cv12 cv13
  have ltv1 := v1.lt
  go_wp2_with fail
  clear cv10 cv11 cv12 cv13 ltv1
  have v2 := Vals.newL w14 w14.heap.size [.int .i64 q1, .int .i64 q2, .int .i64 q3, .int .i64 q4] 23 rfl
  have bb := below_alloc w14 (.cells #[.int .i64 q1, .int .i64 q2, .int .i64 q3, .int .i64 q4] 23)
  replace vs := vs.mono bb
  replace vt := vt.mono bb
  replace vu := vu.mono bb
  replace ht := ht.mono bb
  replace v1 := v1.mono bb
  replace B := below_trans B bb
  clear bb
  generalize w14.alloc (.cells #[.int .i64 q1, .int .i64 q2, .int .i64 q3, .int .i64 q4] 23) = w15 at *
  refine (H5.out _).mono ?_
  rintro e w16 ⟨rfl, b16⟩
  replace vs := vs.mono b16
  replace vt := vt.mono b16
  replace vu := vu.mono b16
  replace ht := ht.mono b16
  replace v1 := v1.mono b16
  replace v2 := v2.mono b16
  replace B := below_trans B b16
  clear b16
  go_wp2
  go_ret
  exact ⟨rfl, B⟩

end Go.Proofs
