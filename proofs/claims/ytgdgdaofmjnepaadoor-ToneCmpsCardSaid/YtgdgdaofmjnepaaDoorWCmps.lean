/- The walk of ToneCmps: whatever comes in, it returns true and changes nothing that was there. -/
import Derived.Test.YtgdgdaofmjnepaaDoorTRef
import Derived.Test.YtgdgdaofmjnepaaDoorTone8
import Derived.Test.YtgdgdaofmjnepaaDoorToneB
import Derived.Test.YtgdgdaofmjnepaaDoorTRef6
open Go.RowKit Go.Deep
namespace Go.Proofs
set_option linter.unusedVariables false

set_option maxRecDepth 100000 in
set_option maxHeartbeats 1000000 in
theorem cmps_b0 (s t : T4) (w : World) (hS : i64 s.a ∧ i64 s.b ∧ i64 s.c ∧ i64 s.d) (hT : i64 t.a ∧ i64 t.b ∧ i64 t.c ∧ i64 t.d) (ht : Tab w) (h1 : validB s.a s.b s.c s.d = false) :
    Calls Tryd.prog 9 #[.agg #[.int .i64 s.a, .int .i64 s.b, .int .i64 s.c, .int .i64 s.d], .agg #[.int .i64 t.a, .int .i64 t.b, .int .i64 t.c, .int .i64 t.d]] w (RetTrue w) := by
  have F := fun w : World => form_0 s t w hS hT h1
  have HF := Lib.hid F
  clear F
  have C := fun w : World => cmpT_bad s t w hS hT (fun x => by rw [h1] at x; cases x.1)
  have HC := Lib.hid C
  clear C
  clear hS hT h1
  have vs := Vals.newL w (w.heap.size) [.int .i64 s.a, .int .i64 s.b, .int .i64 s.c, .int .i64 s.d] 23 rfl
  have bb := below_alloc w (.cells #[.int .i64 s.a, .int .i64 s.b, .int .i64 s.c, .int .i64 s.d] 23)
  have B := bb
  have sz0 := World.size_alloc w (.cells #[.int .i64 s.a, .int .i64 s.b, .int .i64 s.c, .int .i64 s.d] 23)
  have sz := sz0
  clear sz0
  clear bb
  have vt := Vals.newL (w.alloc (.cells #[.int .i64 s.a, .int .i64 s.b, .int .i64 s.c, .int .i64 s.d] 23)) (w.heap.size + 1) [.int .i64 t.a, .int .i64 t.b, .int .i64 t.c, .int .i64 t.d] 23 sz.symm
  have bb := below_alloc (w.alloc (.cells #[.int .i64 s.a, .int .i64 s.b, .int .i64 s.c, .int .i64 s.d] 23)) (.cells #[.int .i64 t.a, .int .i64 t.b, .int .i64 t.c, .int .i64 t.d] 23)
  replace vs := vs.mono bb
  replace B := below_trans B bb
  clear sz
  have bb0 := B
  clear bb
  go_enter Tryd.func9, Tryd.ntmps9
  go_wp2_with fail
  generalize ((w.alloc (.cells #[.int .i64 s.a, .int .i64 s.b, .int .i64 s.c, .int .i64 s.d] 23)).alloc (.cells #[.int .i64 t.a, .int .i64 t.b, .int .i64 t.c, .int .i64 t.d] 23)) = w0 at *
  replace ht := ht.mono bb0
  clear bb0
  refine (HF.out _).mono ?_
  rintro e w1 ⟨rfl, b1⟩
  replace vs := vs.mono b1
  replace vt := vt.mono b1
  replace ht := ht.mono b1
  replace B := below_trans B b1
  clear b1
  have cvs0 := vs.cell (i := 0) (by simp)
  have cvs1 := vs.cell (i := 1) (by simp)
  have cvs2 := vs.cell (i := 2) (by simp)
  have cvs3 := vs.cell (i := 3) (by simp)
  simp only [List.getD_cons_zero, List.getD_cons_succ] at cvs0 cvs1 cvs2 cvs3
  have ltvs := vs.lt
  have cvt0 := vt.cell (i := 0) (by simp)
  have cvt1 := vt.cell (i := 1) (by simp)
  have cvt2 := vt.cell (i := 2) (by simp)
  have cvt3 := vt.cell (i := 3) (by simp)
  simp only [List.getD_cons_zero, List.getD_cons_succ] at cvt0 cvt1 cvt2 cvt3
  have ltvt := vt.lt
  go_wp2_with fail
  clear cvs0 cvs1 cvs2 cvs3 ltvs cvt0 cvt1 cvt2 cvt3 ltvt
  refine (HC.out _).mono ?_
  rintro e w2 ⟨rfl, b2⟩
  replace vs := vs.mono b2
  replace vt := vt.mono b2
  replace ht := ht.mono b2
  replace B := below_trans B b2
  clear b2
  go_wp2_with fail
  refine (lives_calls _ ht).mono ?_
  rintro e w3 ⟨rfl, b3⟩
  replace vs := vs.mono b3
  replace vt := vt.mono b3
  replace ht := ht.mono b3
  replace B := below_trans B b3
  clear b3
  go_wp2
  go_ret
  exact ⟨rfl, B⟩

set_option maxRecDepth 100000 in
set_option maxHeartbeats 1000000 in
theorem cmps_b1 (s t : T4) (w : World) (hS : i64 s.a ∧ i64 s.b ∧ i64 s.c ∧ i64 s.d) (hT : i64 t.a ∧ i64 t.b ∧ i64 t.c ∧ i64 t.d) (ht : Tab w) (h1 : validB s.a s.b s.c s.d = true) (h2 : validB t.a t.b t.c t.d = false) :
    Calls Tryd.prog 9 #[.agg #[.int .i64 s.a, .int .i64 s.b, .int .i64 s.c, .int .i64 s.d], .agg #[.int .i64 t.a, .int .i64 t.b, .int .i64 t.c, .int .i64 t.d]] w (RetTrue w) := by
  have F := fun w : World => form_1 s t w hS hT h1 h2
  have HF := Lib.hid F
  clear F
  have C := fun w : World => cmpT_bad s t w hS hT (fun x => by rw [h2] at x; cases x.2)
  have HC := Lib.hid C
  clear C
  clear hS hT h1 h2
  have vs := Vals.newL w (w.heap.size) [.int .i64 s.a, .int .i64 s.b, .int .i64 s.c, .int .i64 s.d] 23 rfl
  have bb := below_alloc w (.cells #[.int .i64 s.a, .int .i64 s.b, .int .i64 s.c, .int .i64 s.d] 23)
  have B := bb
  have sz0 := World.size_alloc w (.cells #[.int .i64 s.a, .int .i64 s.b, .int .i64 s.c, .int .i64 s.d] 23)
  have sz := sz0
  clear sz0
  clear bb
  have vt := Vals.newL (w.alloc (.cells #[.int .i64 s.a, .int .i64 s.b, .int .i64 s.c, .int .i64 s.d] 23)) (w.heap.size + 1) [.int .i64 t.a, .int .i64 t.b, .int .i64 t.c, .int .i64 t.d] 23 sz.symm
  have bb := below_alloc (w.alloc (.cells #[.int .i64 s.a, .int .i64 s.b, .int .i64 s.c, .int .i64 s.d] 23)) (.cells #[.int .i64 t.a, .int .i64 t.b, .int .i64 t.c, .int .i64 t.d] 23)
  replace vs := vs.mono bb
  replace B := below_trans B bb
  clear sz
  have bb0 := B
  clear bb
  go_enter Tryd.func9, Tryd.ntmps9
  go_wp2_with fail
  generalize ((w.alloc (.cells #[.int .i64 s.a, .int .i64 s.b, .int .i64 s.c, .int .i64 s.d] 23)).alloc (.cells #[.int .i64 t.a, .int .i64 t.b, .int .i64 t.c, .int .i64 t.d] 23)) = w0 at *
  replace ht := ht.mono bb0
  clear bb0
  refine (HF.out _).mono ?_
  rintro e w1 ⟨rfl, b1⟩
  replace vs := vs.mono b1
  replace vt := vt.mono b1
  replace ht := ht.mono b1
  replace B := below_trans B b1
  clear b1
  have cvs0 := vs.cell (i := 0) (by simp)
  have cvs1 := vs.cell (i := 1) (by simp)
  have cvs2 := vs.cell (i := 2) (by simp)
  have cvs3 := vs.cell (i := 3) (by simp)
  simp only [List.getD_cons_zero, List.getD_cons_succ] at cvs0 cvs1 cvs2 cvs3
  have ltvs := vs.lt
  have cvt0 := vt.cell (i := 0) (by simp)
  have cvt1 := vt.cell (i := 1) (by simp)
  have cvt2 := vt.cell (i := 2) (by simp)
  have cvt3 := vt.cell (i := 3) (by simp)
  simp only [List.getD_cons_zero, List.getD_cons_succ] at cvt0 cvt1 cvt2 cvt3
  have ltvt := vt.lt
  go_wp2_with fail
  clear cvs0 cvs1 cvs2 cvs3 ltvs cvt0 cvt1 cvt2 cvt3 ltvt
  refine (HC.out _).mono ?_
  rintro e w2 ⟨rfl, b2⟩
  replace vs := vs.mono b2
  replace vt := vt.mono b2
  replace ht := ht.mono b2
  replace B := below_trans B b2
  clear b2
  go_wp2_with fail
  refine (lives_calls _ ht).mono ?_
  rintro e w3 ⟨rfl, b3⟩
  replace vs := vs.mono b3
  replace vt := vt.mono b3
  replace ht := ht.mono b3
  replace B := below_trans B b3
  clear b3
  go_wp2
  go_ret
  exact ⟨rfl, B⟩

set_option maxRecDepth 100000 in
set_option maxHeartbeats 1000000 in
theorem cmps_l0 (s t : T4) (w : World) (hS : i64 s.a ∧ i64 s.b ∧ i64 s.c ∧ i64 s.d) (hT : i64 t.a ∧ i64 t.b ∧ i64 t.c ∧ i64 t.d) (ht : Tab w) (h1 : validB s.a s.b s.c s.d = true) (h2 : validB t.a t.b t.c t.d = true) (g1 : ¬ (-96 ≤ s.a ∧ s.a ≤ 96 ∧ -96 ≤ s.b ∧ s.b ≤ 96 ∧ -96 ≤ s.c ∧ s.c ≤ 96)) :
    Calls Tryd.prog 9 #[.agg #[.int .i64 s.a, .int .i64 s.b, .int .i64 s.c, .int .i64 s.d], .agg #[.int .i64 t.a, .int .i64 t.b, .int .i64 t.c, .int .i64 t.d]] w (RetTrue w) := by
  have F := fun w : World => form_2 s t w hS hT h1 h2
  have HF := Lib.hid F
  clear F
  have Ls := fun w : World => large_yes s 96 w (by omega) (by omega) g1
  have HLs := Lib.hid Ls
  clear Ls
  clear hS hT h1 h2 g1
  have vs := Vals.newL w (w.heap.size) [.int .i64 s.a, .int .i64 s.b, .int .i64 s.c, .int .i64 s.d] 23 rfl
  have bb := below_alloc w (.cells #[.int .i64 s.a, .int .i64 s.b, .int .i64 s.c, .int .i64 s.d] 23)
  have B := bb
  have sz0 := World.size_alloc w (.cells #[.int .i64 s.a, .int .i64 s.b, .int .i64 s.c, .int .i64 s.d] 23)
  have sz := sz0
  clear sz0
  clear bb
  have vt := Vals.newL (w.alloc (.cells #[.int .i64 s.a, .int .i64 s.b, .int .i64 s.c, .int .i64 s.d] 23)) (w.heap.size + 1) [.int .i64 t.a, .int .i64 t.b, .int .i64 t.c, .int .i64 t.d] 23 sz.symm
  have bb := below_alloc (w.alloc (.cells #[.int .i64 s.a, .int .i64 s.b, .int .i64 s.c, .int .i64 s.d] 23)) (.cells #[.int .i64 t.a, .int .i64 t.b, .int .i64 t.c, .int .i64 t.d] 23)
  replace vs := vs.mono bb
  replace B := below_trans B bb
  clear sz
  have bb0 := B
  clear bb
  go_enter Tryd.func9, Tryd.ntmps9
  go_wp2_with fail
  generalize ((w.alloc (.cells #[.int .i64 s.a, .int .i64 s.b, .int .i64 s.c, .int .i64 s.d] 23)).alloc (.cells #[.int .i64 t.a, .int .i64 t.b, .int .i64 t.c, .int .i64 t.d] 23)) = w0 at *
  replace ht := ht.mono bb0
  clear bb0
  refine (HF.out _).mono ?_
  rintro e w1 ⟨rfl, b1⟩
  replace vs := vs.mono b1
  replace vt := vt.mono b1
  replace ht := ht.mono b1
  replace B := below_trans B b1
  clear b1
  have cvs0 := vs.cell (i := 0) (by simp)
  have cvs1 := vs.cell (i := 1) (by simp)
  have cvs2 := vs.cell (i := 2) (by simp)
  have cvs3 := vs.cell (i := 3) (by simp)
  simp only [List.getD_cons_zero, List.getD_cons_succ] at cvs0 cvs1 cvs2 cvs3
  have ltvs := vs.lt
  go_wp2_with fail
  clear cvs0 cvs1 cvs2 cvs3 ltvs
  refine (HLs.out _).mono ?_
  rintro e w2 ⟨rfl, b2⟩
  replace vs := vs.mono b2
  replace vt := vt.mono b2
  replace ht := ht.mono b2
  replace B := below_trans B b2
  clear b2
  go_wp2_with fail
  refine (lives_calls _ ht).mono ?_
  rintro e w3 ⟨rfl, b3⟩
  replace vs := vs.mono b3
  replace vt := vt.mono b3
  replace ht := ht.mono b3
  replace B := below_trans B b3
  clear b3
  go_wp2
  go_ret
  exact ⟨rfl, B⟩

set_option maxRecDepth 100000 in
set_option maxHeartbeats 1000000 in
theorem cmps_l1 (s t : T4) (w : World) (hS : i64 s.a ∧ i64 s.b ∧ i64 s.c ∧ i64 s.d) (hT : i64 t.a ∧ i64 t.b ∧ i64 t.c ∧ i64 t.d) (ht : Tab w) (h1 : validB s.a s.b s.c s.d = true) (h2 : validB t.a t.b t.c t.d = true) (g1 : -96 ≤ s.a ∧ s.a ≤ 96 ∧ -96 ≤ s.b ∧ s.b ≤ 96 ∧ -96 ≤ s.c ∧ s.c ≤ 96) (g2 : ¬ (-96 ≤ t.a ∧ t.a ≤ 96 ∧ -96 ≤ t.b ∧ t.b ≤ 96 ∧ -96 ≤ t.c ∧ t.c ≤ 96)) :
    Calls Tryd.prog 9 #[.agg #[.int .i64 s.a, .int .i64 s.b, .int .i64 s.c, .int .i64 s.d], .agg #[.int .i64 t.a, .int .i64 t.b, .int .i64 t.c, .int .i64 t.d]] w (RetTrue w) := by
  have F := fun w : World => form_2 s t w hS hT h1 h2
  have HF := Lib.hid F
  clear F
  have Ls := fun w : World => large_no s 96 w (by omega) (by omega) g1
  have HLs := Lib.hid Ls
  clear Ls
  have Lt := fun w : World => large_yes t 96 w (by omega) (by omega) g2
  have HLt := Lib.hid Lt
  clear Lt
  clear hS hT h1 h2 g1 g2
  have vs := Vals.newL w (w.heap.size) [.int .i64 s.a, .int .i64 s.b, .int .i64 s.c, .int .i64 s.d] 23 rfl
  have bb := below_alloc w (.cells #[.int .i64 s.a, .int .i64 s.b, .int .i64 s.c, .int .i64 s.d] 23)
  have B := bb
  have sz0 := World.size_alloc w (.cells #[.int .i64 s.a, .int .i64 s.b, .int .i64 s.c, .int .i64 s.d] 23)
  have sz := sz0
  clear sz0
  clear bb
  have vt := Vals.newL (w.alloc (.cells #[.int .i64 s.a, .int .i64 s.b, .int .i64 s.c, .int .i64 s.d] 23)) (w.heap.size + 1) [.int .i64 t.a, .int .i64 t.b, .int .i64 t.c, .int .i64 t.d] 23 sz.symm
  have bb := below_alloc (w.alloc (.cells #[.int .i64 s.a, .int .i64 s.b, .int .i64 s.c, .int .i64 s.d] 23)) (.cells #[.int .i64 t.a, .int .i64 t.b, .int .i64 t.c, .int .i64 t.d] 23)
  replace vs := vs.mono bb
  replace B := below_trans B bb
  clear sz
  have bb0 := B
  clear bb
  go_enter Tryd.func9, Tryd.ntmps9
  go_wp2_with fail
  generalize ((w.alloc (.cells #[.int .i64 s.a, .int .i64 s.b, .int .i64 s.c, .int .i64 s.d] 23)).alloc (.cells #[.int .i64 t.a, .int .i64 t.b, .int .i64 t.c, .int .i64 t.d] 23)) = w0 at *
  replace ht := ht.mono bb0
  clear bb0
  refine (HF.out _).mono ?_
  rintro e w1 ⟨rfl, b1⟩
  replace vs := vs.mono b1
  replace vt := vt.mono b1
  replace ht := ht.mono b1
  replace B := below_trans B b1
  clear b1
  have cvs0 := vs.cell (i := 0) (by simp)
  have cvs1 := vs.cell (i := 1) (by simp)
  have cvs2 := vs.cell (i := 2) (by simp)
  have cvs3 := vs.cell (i := 3) (by simp)
  simp only [List.getD_cons_zero, List.getD_cons_succ] at cvs0 cvs1 cvs2 cvs3
  have ltvs := vs.lt
  go_wp2_with fail
  clear cvs0 cvs1 cvs2 cvs3 ltvs
  refine (HLs.out _).mono ?_
  rintro e w2 ⟨rfl, b2⟩
  replace vs := vs.mono b2
  replace vt := vt.mono b2
  replace ht := ht.mono b2
  replace B := below_trans B b2
  clear b2
  have cvt0 := vt.cell (i := 0) (by simp)
  have cvt1 := vt.cell (i := 1) (by simp)
  have cvt2 := vt.cell (i := 2) (by simp)
  have cvt3 := vt.cell (i := 3) (by simp)
  simp only [List.getD_cons_zero, List.getD_cons_succ] at cvt0 cvt1 cvt2 cvt3
  have ltvt := vt.lt
  go_wp2_with fail
  clear cvt0 cvt1 cvt2 cvt3 ltvt
  refine (HLt.out _).mono ?_
  rintro e w3 ⟨rfl, b3⟩
  replace vs := vs.mono b3
  replace vt := vt.mono b3
  replace ht := ht.mono b3
  replace B := below_trans B b3
  clear b3
  go_wp2_with fail
  refine (lives_calls _ ht).mono ?_
  rintro e w4 ⟨rfl, b4⟩
  replace vs := vs.mono b4
  replace vt := vt.mono b4
  replace ht := ht.mono b4
  replace B := below_trans B b4
  clear b4
  go_wp2
  go_ret
  exact ⟨rfl, B⟩

set_option maxRecDepth 100000 in
set_option maxHeartbeats 1000000 in
theorem cmps_ok (s t : T4) (w : World) (hS : i64 s.a ∧ i64 s.b ∧ i64 s.c ∧ i64 s.d) (hT : i64 t.a ∧ i64 t.b ∧ i64 t.c ∧ i64 t.d) (ht : Tab w) (h1 : validB s.a s.b s.c s.d = true) (h2 : validB t.a t.b t.c t.d = true) (g1 : -96 ≤ s.a ∧ s.a ≤ 96 ∧ -96 ≤ s.b ∧ s.b ≤ 96 ∧ -96 ≤ s.c ∧ s.c ≤ 96) (g2 : -96 ≤ t.a ∧ t.a ≤ 96 ∧ -96 ≤ t.b ∧ t.b ≤ 96 ∧ -96 ≤ t.c ∧ t.c ≤ 96) :
    Calls Tryd.prog 9 #[.agg #[.int .i64 s.a, .int .i64 s.b, .int .i64 s.c, .int .i64 s.d], .agg #[.int .i64 t.a, .int .i64 t.b, .int .i64 t.c, .int .i64 t.d]] w (RetTrue w) := by
  have F := fun w : World => form_2 s t w hS hT h1 h2
  have HF := Lib.hid F
  clear F
  have Ls := fun w : World => large_no s 96 w (by omega) (by omega) g1
  have HLs := Lib.hid Ls
  clear Ls
  have Lt := fun w : World => large_no t 96 w (by omega) (by omega) g2
  have HLt := Lib.hid Lt
  clear Lt
  have C := fun w : World => cmpT_ok s t w h1 h2
  have R := fun w : World => rcmpT_ok s t w h1 h2
  generalize cmpT s t = c at *
  have HC := Lib.hid C
  have HR := Lib.hid R
  clear C R
  clear hS hT h1 h2 g1 g2
  have vs := Vals.newL w (w.heap.size) [.int .i64 s.a, .int .i64 s.b, .int .i64 s.c, .int .i64 s.d] 23 rfl
  have bb := below_alloc w (.cells #[.int .i64 s.a, .int .i64 s.b, .int .i64 s.c, .int .i64 s.d] 23)
  have B := bb
  have sz0 := World.size_alloc w (.cells #[.int .i64 s.a, .int .i64 s.b, .int .i64 s.c, .int .i64 s.d] 23)
  have sz := sz0
  clear sz0
  clear bb
  have vt := Vals.newL (w.alloc (.cells #[.int .i64 s.a, .int .i64 s.b, .int .i64 s.c, .int .i64 s.d] 23)) (w.heap.size + 1) [.int .i64 t.a, .int .i64 t.b, .int .i64 t.c, .int .i64 t.d] 23 sz.symm
  have bb := below_alloc (w.alloc (.cells #[.int .i64 s.a, .int .i64 s.b, .int .i64 s.c, .int .i64 s.d] 23)) (.cells #[.int .i64 t.a, .int .i64 t.b, .int .i64 t.c, .int .i64 t.d] 23)
  replace vs := vs.mono bb
  replace B := below_trans B bb
  clear sz
  have bb0 := B
  clear bb
  go_enter Tryd.func9, Tryd.ntmps9
  go_wp2_with fail
  generalize ((w.alloc (.cells #[.int .i64 s.a, .int .i64 s.b, .int .i64 s.c, .int .i64 s.d] 23)).alloc (.cells #[.int .i64 t.a, .int .i64 t.b, .int .i64 t.c, .int .i64 t.d] 23)) = w0 at *
  replace ht := ht.mono bb0
  clear bb0
  refine (HF.out _).mono ?_
  rintro e w1 ⟨rfl, b1⟩
  replace vs := vs.mono b1
  replace vt := vt.mono b1
  replace ht := ht.mono b1
  replace B := below_trans B b1
  clear b1
  have cvs0 := vs.cell (i := 0) (by simp)
  have cvs1 := vs.cell (i := 1) (by simp)
  have cvs2 := vs.cell (i := 2) (by simp)
  have cvs3 := vs.cell (i := 3) (by simp)
  simp only [List.getD_cons_zero, List.getD_cons_succ] at cvs0 cvs1 cvs2 cvs3
  have ltvs := vs.lt
  go_wp2_with fail
  clear cvs0 cvs1 cvs2 cvs3 ltvs
  refine (HLs.out _).mono ?_
  rintro e w2 ⟨rfl, b2⟩
  replace vs := vs.mono b2
  replace vt := vt.mono b2
  replace ht := ht.mono b2
  replace B := below_trans B b2
  clear b2
  have cvt0 := vt.cell (i := 0) (by simp)
  have cvt1 := vt.cell (i := 1) (by simp)
  have cvt2 := vt.cell (i := 2) (by simp)
  have cvt3 := vt.cell (i := 3) (by simp)
  simp only [List.getD_cons_zero, List.getD_cons_succ] at cvt0 cvt1 cvt2 cvt3
  have ltvt := vt.lt
  go_wp2_with fail
  clear cvt0 cvt1 cvt2 cvt3 ltvt
  refine (HLt.out _).mono ?_
  rintro e w3 ⟨rfl, b3⟩
  replace vs := vs.mono b3
  replace vt := vt.mono b3
  replace ht := ht.mono b3
  replace B := below_trans B b3
  clear b3
  have cvs0 := vs.cell (i := 0) (by simp)
  have cvs1 := vs.cell (i := 1) (by simp)
  have cvs2 := vs.cell (i := 2) (by simp)
  have cvs3 := vs.cell (i := 3) (by simp)
  simp only [List.getD_cons_zero, List.getD_cons_succ] at cvs0 cvs1 cvs2 cvs3
  have ltvs := vs.lt
  have cvt0 := vt.cell (i := 0) (by simp)
  have cvt1 := vt.cell (i := 1) (by simp)
  have cvt2 := vt.cell (i := 2) (by simp)
  have cvt3 := vt.cell (i := 3) (by simp)
  simp only [List.getD_cons_zero, List.getD_cons_succ] at cvt0 cvt1 cvt2 cvt3
  have ltvt := vt.lt
  go_wp2_with fail
  clear cvs0 cvs1 cvs2 cvs3 ltvs cvt0 cvt1 cvt2 cvt3 ltvt
  refine (HC.out _).mono ?_
  rintro e w4 ⟨rfl, b4⟩
  replace vs := vs.mono b4
  replace vt := vt.mono b4
  replace ht := ht.mono b4
  replace B := below_trans B b4
  clear b4
  have cvs0 := vs.cell (i := 0) (by simp)
  have cvs1 := vs.cell (i := 1) (by simp)
  have cvs2 := vs.cell (i := 2) (by simp)
  have cvs3 := vs.cell (i := 3) (by simp)
  simp only [List.getD_cons_zero, List.getD_cons_succ] at cvs0 cvs1 cvs2 cvs3
  have ltvs := vs.lt
  have cvt0 := vt.cell (i := 0) (by simp)
  have cvt1 := vt.cell (i := 1) (by simp)
  have cvt2 := vt.cell (i := 2) (by simp)
  have cvt3 := vt.cell (i := 3) (by simp)
  simp only [List.getD_cons_zero, List.getD_cons_succ] at cvt0 cvt1 cvt2 cvt3
  have ltvt := vt.lt
  go_wp2_with fail
  clear cvs0 cvs1 cvs2 cvs3 ltvs cvt0 cvt1 cvt2 cvt3 ltvt
  refine (HR.out _).mono ?_
  rintro e w5 ⟨rfl, b5⟩
  replace vs := vs.mono b5
  replace vt := vt.mono b5
  replace ht := ht.mono b5
  replace B := below_trans B b5
  clear b5
  go_wp2_with fail
  refine (lives_calls _ ht).mono ?_
  rintro e w6 ⟨rfl, b6⟩
  replace vs := vs.mono b6
  replace vt := vt.mono b6
  replace ht := ht.mono b6
  replace B := below_trans B b6
  clear b6
  go_wp2
  go_ret
  exact ⟨rfl, B⟩

set_option maxRecDepth 100000 in
set_option maxHeartbeats 1000000 in
theorem walk_cmps (s t : T4) (w : World) (hS : i64 s.a ∧ i64 s.b ∧ i64 s.c ∧ i64 s.d) (hT : i64 t.a ∧ i64 t.b ∧ i64 t.c ∧ i64 t.d) (ht : Tab w)  :
    Calls Tryd.prog 9 #[.agg #[.int .i64 s.a, .int .i64 s.b, .int .i64 s.c, .int .i64 s.d], .agg #[.int .i64 t.a, .int .i64 t.b, .int .i64 t.c, .int .i64 t.d]] w (RetTrue w) := by
  cases h1 : validB s.a s.b s.c s.d
  · exact cmps_b0 s t w hS hT ht h1
  cases h2 : validB t.a t.b t.c t.d
  · exact cmps_b1 s t w hS hT ht h1 h2
  by_cases g1 : -96 ≤ s.a ∧ s.a ≤ 96 ∧ -96 ≤ s.b ∧ s.b ≤ 96 ∧ -96 ≤ s.c ∧ s.c ≤ 96
  case neg => exact cmps_l0 s t w hS hT ht h1 h2 g1
  by_cases g2 : -96 ≤ t.a ∧ t.a ≤ 96 ∧ -96 ≤ t.b ∧ t.b ≤ 96 ∧ -96 ≤ t.c ∧ t.c ≤ 96
  case neg => exact cmps_l1 s t w hS hT ht h1 h2 g1 g2
  exact cmps_ok s t w hS hT ht h1 h2 g1 g2

end Go.Proofs
