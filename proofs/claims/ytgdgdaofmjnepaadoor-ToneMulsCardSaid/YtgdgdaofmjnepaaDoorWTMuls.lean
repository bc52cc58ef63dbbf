/- The walk of ToneMuls: whatever comes in, it returns true and changes nothing that was there. -/
import Derived.Test.YtgdgdaofmjnepaaDoorTRef
import Derived.Test.YtgdgdaofmjnepaaDoorTone8
import Derived.Test.YtgdgdaofmjnepaaDoorToneB
import Derived.Test.YtgdgdaofmjnepaaDoorTRef9
import Derived.Deep.RegionHeld3
open Go.RowKit Go.Deep
namespace Go.Proofs
set_option linter.unusedVariables false

set_option maxRecDepth 100000 in
set_option maxHeartbeats 1000000 in
theorem tmuls_b0 (s t : T4) (w : World) (hS : i64 s.a ∧ i64 s.b ∧ i64 s.c ∧ i64 s.d) (hT : i64 t.a ∧ i64 t.b ∧ i64 t.c ∧ i64 t.d) (ht : Tab w) (h1 : validB s.a s.b s.c s.d = false) :
    Calls Tryd.prog 7 #[.agg #[.int .i64 s.a, .int .i64 s.b, .int .i64 s.c, .int .i64 s.d], .agg #[.int .i64 t.a, .int .i64 t.b, .int .i64 t.c, .int .i64 t.d]] w (RetTrue w) := by
  have F := fun w : World => form_0 s t w hS hT h1
  have P := fun w : World => mulT_bad s t w hS hT (fun x => by rw [h1] at x; cases x.1)
  have Q := fun w : World => divT_bad s t w hS hT (fun x => by rw [h1] at x; cases x.1)
  have HF := Lib.hid F
  have HP := Lib.hid P
  have HQ := Lib.hid Q
  clear F P Q
  clear hS hT h1
  have vs := Vals.newL w (w.heap.size) [.int .i64 s.a, .int .i64 s.b, .int .i64 s.c, .int .i64 s.d] 23 rfl
  have bb := below_alloc w (.cells #[.int .i64 s.a, .int .i64 s.b, .int .i64 s.c, .int .i64 s.d] 23)
  have B := bb
  have sz0 := World.size_alloc w (.cells #[.int .i64 s.a, .int .i64 s.b, .int .i64 s.c, .int .i64 s.d] 23)
  have sz := sz0
  clear sz0
  clear bb
  have vt := Vals.newL (w.alloc (.cells #[.int .i64 s.a, .int .i64 s.b, .int .i64 s.c, .int .i64 s.d] 23)) (w.heap.size + 1) [.int .i64 t.a, .int .i64 t.b, .int .i64 t.c, .int .i64 t.d] 23 sz.symm
  have bb := below_alloc (w.alloc (.cells #[.int .i64 s.a, .int .i64 s.b, .int .i64 s.c, .int .i64 s.d] 23)) (.cells #[.int .i64 t.a, .int .i64 t.b, .int .i64 t.c, .int .i64 t.d] 23)
  replace vs := vs.mono bb
  replace B := below_trans B bb
  clear sz
  have bb0 := B
  clear bb
  go_enter Tryd.func7, Tryd.ntmps7
  go_wp2_with fail
  generalize ((w.alloc (.cells #[.int .i64 s.a, .int .i64 s.b, .int .i64 s.c, .int .i64 s.d] 23)).alloc (.cells #[.int .i64 t.a, .int .i64 t.b, .int .i64 t.c, .int .i64 t.d] 23)) = w0 at *
  replace ht := ht.mono bb0
  clear bb0
  refine (HP.out _).mono ?_
  rintro e w1 ⟨rfl, b1⟩
  replace vs := vs.mono b1
  replace vt := vt.mono b1
  replace ht := ht.mono b1
  replace B := below_trans B b1
  clear b1
  have cvs0 := vs.cell (i := 0) (by simp)
  have cvs1 := vs.cell (i := 1) (by simp)
  have cvs2 := vs.cell (i := 2) (by simp)
  have cvs3 := vs.cell (i := 3) (by simp)
  simp only [List.getD_cons_zero, List.getD_cons_succ] at cvs0 cvs1 cvs2 cvs3
  have ltvs := vs.lt
  have cvt0 := vt.cell (i := 0) (by simp)
  have cvt1 := vt.cell (i := 1) (by simp)
  have cvt2 := vt.cell (i := 2) (by simp)
  have cvt3 := vt.cell (i := 3) (by simp)
  simp only [List.getD_cons_zero, List.getD_cons_succ] at cvt0 cvt1 cvt2 cvt3
  have ltvt := vt.lt
  try go_wp2_with fail
  clear cvs0 cvs1 cvs2 cvs3 ltvs cvt0 cvt1 cvt2 cvt3 ltvt
  have v1 := Vals.newL w1 w1.heap.size [.int .i64 0, .int .i64 0, .int .i64 0, .int .i64 0] 23 rfl
  have bb := below_alloc w1 (.cells #[.int .i64 0, .int .i64 0, .int .i64 0, .int .i64 0] 23)
  replace vs := vs.mono bb
  replace vt := vt.mono bb
  replace ht := ht.mono bb
  replace B := below_trans B bb
  clear bb
  generalize w1.alloc (.cells #[.int .i64 0, .int .i64 0, .int .i64 0, .int .i64 0] 23) = w2 at *
  refine (HQ.out _).mono ?_
  rintro e w3 ⟨rfl, b3⟩
  replace vs := vs.mono b3
  replace vt := vt.mono b3
  replace ht := ht.mono b3
  replace v1 := v1.mono b3
  replace B := below_trans B b3
  clear b3
  have cvs0 := vs.cell (i := 0) (by simp)
  have cvs1 := vs.cell (i := 1) (by simp)
  have cvs2 := vs.cell (i := 2) (by simp)
  have cvs3 := vs.cell (i := 3) (by simp)
  simp only [List.getD_cons_zero, List.getD_cons_succ] at cvs0 cvs1 cvs2 cvs3
  have ltvs := vs.lt
  have cvt0 := vt.cell (i := 0) (by simp)
  have cvt1 := vt.cell (i := 1) (by simp)
  have cvt2 := vt.cell (i := 2) (by simp)
  have cvt3 := vt.cell (i := 3) (by simp)
  simp only [List.getD_cons_zero, List.getD_cons_succ] at cvt0 cvt1 cvt2 cvt3
  have ltvt := vt.lt
  try go_wp2_with fail
  clear cvs0 cvs1 cvs2 cvs3 ltvs cvt0 cvt1 cvt2 cvt3 ltvt
  have v2 := Vals.newL w3 w3.heap.size [.int .i64 0, .int .i64 0, .int .i64 0, .int .i64 0] 23 rfl
  have bb := below_alloc w3 (.cells #[.int .i64 0, .int .i64 0, .int .i64 0, .int .i64 0] 23)
  replace vs := vs.mono bb
  replace vt := vt.mono bb
  replace ht := ht.mono bb
  replace v1 := v1.mono bb
  replace B := below_trans B bb
  clear bb
  generalize w3.alloc (.cells #[.int .i64 0, .int .i64 0, .int .i64 0, .int .i64 0] 23) = w4 at *
  refine (HF.out _).mono ?_
  rintro e w5 ⟨rfl, b5⟩
  replace vs := vs.mono b5
  replace vt := vt.mono b5
  replace ht := ht.mono b5
  replace v1 := v1.mono b5
  replace v2 := v2.mono b5
  replace B := below_trans B b5
  clear b5
  have cv10 := v1.cell (i := 0) (by simp)
  have cv11 := v1.cell (i := 1) (by simp)
  have cv12 := v1.cell (i := 2) (by simp)
  have cv13 := v1.cell (i := 3) (by simp)
  simp only [List.getD_cons_zero, List.getD_cons_succ] at cv10 cv11 cv12 cv13
  have ltv1 := v1.lt
  have cv20 := v2.cell (i := 0) (by simp)
  have cv21 := v2.cell (i := 1) (by simp)
  have cv22 := v2.cell (i := 2) (by simp)
  have cv23 := v2.cell (i := 3) (by simp)
  simp only [List.getD_cons_zero, List.getD_cons_succ] at cv20 cv21 cv22 cv23
  have ltv2 := v2.lt
  go_wp2_with fail
  clear cv10 cv11 cv12 cv13 ltv1 cv20 cv21 cv22 cv23 ltv2
  refine (lives_calls _ ht).mono ?_
  rintro e w6 ⟨rfl, b6⟩
  replace vs := vs.mono b6
  replace vt := vt.mono b6
  replace ht := ht.mono b6
  replace v1 := v1.mono b6
  replace v2 := v2.mono b6
  replace B := below_trans B b6
  clear b6
  go_wp2
  go_ret
  exact ⟨rfl, B⟩

set_option maxRecDepth 100000 in
set_option maxHeartbeats 1000000 in
theorem tmuls_b1 (s t : T4) (w : World) (hS : i64 s.a ∧ i64 s.b ∧ i64 s.c ∧ i64 s.d) (hT : i64 t.a ∧ i64 t.b ∧ i64 t.c ∧ i64 t.d) (ht : Tab w) (h1 : validB s.a s.b s.c s.d = true) (h2 : validB t.a t.b t.c t.d = false) :
    Calls Tryd.prog 7 #[.agg #[.int .i64 s.a, .int .i64 s.b, .int .i64 s.c, .int .i64 s.d], .agg #[.int .i64 t.a, .int .i64 t.b, .int .i64 t.c, .int .i64 t.d]] w (RetTrue w) := by
  have F := fun w : World => form_1 s t w hS hT h1 h2
  have P := fun w : World => mulT_bad s t w hS hT (fun x => by rw [h2] at x; cases x.2)
  have Q := fun w : World => divT_bad s t w hS hT (fun x => by rw [h2] at x; cases x.2)
  have HF := Lib.hid F
  have HP := Lib.hid P
  have HQ := Lib.hid Q
  clear F P Q
  clear hS hT h1 h2
  have vs := Vals.newL w (w.heap.size) [.int .i64 s.a, .int .i64 s.b, .int .i64 s.c, .int .i64 s.d] 23 rfl
  have bb := below_alloc w (.cells #[.int .i64 s.a, .int .i64 s.b, .int .i64 s.c, .int .i64 s.d] 23)
  have B := bb
  have sz0 := World.size_alloc w (.cells #[.int .i64 s.a, .int .i64 s.b, .int .i64 s.c, .int .i64 s.d] 23)
  have sz := sz0
  clear sz0
  clear bb
  have vt := Vals.newL (w.alloc (.cells #[.int .i64 s.a, .int .i64 s.b, .int .i64 s.c, .int .i64 s.d] 23)) (w.heap.size + 1) [.int .i64 t.a, .int .i64 t.b, .int .i64 t.c, .int .i64 t.d] 23 sz.symm
  have bb := below_alloc (w.alloc (.cells #[.int .i64 s.a, .int .i64 s.b, .int .i64 s.c, .int .i64 s.d] 23)) (.cells #[.int .i64 t.a, .int .i64 t.b, .int .i64 t.c, .int .i64 t.d] 23)
  replace vs := vs.mono bb
  replace B := below_trans B bb
  clear sz
  have bb0 := B
  clear bb
  go_enter Tryd.func7, Tryd.ntmps7
  go_wp2_with fail
  generalize ((w.alloc (.cells #[.int .i64 s.a, .int .i64 s.b, .int .i64 s.c, .int .i64 s.d] 23)).alloc (.cells #[.int .i64 t.a, .int .i64 t.b, .int .i64 t.c, .int .i64 t.d] 23)) = w0 at *
  replace ht := ht.mono bb0
  clear bb0
  refine (HP.out _).mono ?_
  rintro e w1 ⟨rfl, b1⟩
  replace vs := vs.mono b1
  replace vt := vt.mono b1
  replace ht := ht.mono b1
  replace B := below_trans B b1
  clear b1
  have cvs0 := vs.cell (i := 0) (by simp)
  have cvs1 := vs.cell (i := 1) (by simp)
  have cvs2 := vs.cell (i := 2) (by simp)
  have cvs3 := vs.cell (i := 3) (by simp)
  simp only [List.getD_cons_zero, List.getD_cons_succ] at cvs0 cvs1 cvs2 cvs3
  have ltvs := vs.lt
  have cvt0 := vt.cell (i := 0) (by simp)
  have cvt1 := vt.cell (i := 1) (by simp)
  have cvt2 := vt.cell (i := 2) (by simp)
  have cvt3 := vt.cell (i := 3) (by simp)
  simp only [List.getD_cons_zero, List.getD_cons_succ] at cvt0 cvt1 cvt2 cvt3
  have ltvt := vt.lt
  try go_wp2_with fail
  clear cvs0 cvs1 cvs2 cvs3 ltvs cvt0 cvt1 cvt2 cvt3 ltvt
  have v1 := Vals.newL w1 w1.heap.size [.int .i64 0, .int .i64 0, .int .i64 0, .int .i64 0] 23 rfl
  have bb := below_alloc w1 (.cells #[.int .i64 0, .int .i64 0, .int .i64 0, .int .i64 0] 23)
  replace vs := vs.mono bb
  replace vt := vt.mono bb
  replace ht := ht.mono bb
  replace B := below_trans B bb
  clear bb
  generalize w1.alloc (.cells #[.int .i64 0, .int .i64 0, .int .i64 0, .int .i64 0] 23) = w2 at *
  refine (HQ.out _).mono ?_
  rintro e w3 ⟨rfl, b3⟩
  replace vs := vs.mono b3
  replace vt := vt.mono b3
  replace ht := ht.mono b3
  replace v1 := v1.mono b3
  replace B := below_trans B b3
  clear b3
  have cvs0 := vs.cell (i := 0) (by simp)
  have cvs1 := vs.cell (i := 1) (by simp)
  have cvs2 := vs.cell (i := 2) (by simp)
  have cvs3 := vs.cell (i := 3) (by simp)
  simp only [List.getD_cons_zero, List.getD_cons_succ] at cvs0 cvs1 cvs2 cvs3
  have ltvs := vs.lt
  have cvt0 := vt.cell (i := 0) (by simp)
  have cvt1 := vt.cell (i := 1) (by simp)
  have cvt2 := vt.cell (i := 2) (by simp)
  have cvt3 := vt.cell (i := 3) (by simp)
  simp only [List.getD_cons_zero, List.getD_cons_succ] at cvt0 cvt1 cvt2 cvt3
  have ltvt := vt.lt
  try go_wp2_with fail
  clear cvs0 cvs1 cvs2 cvs3 ltvs cvt0 cvt1 cvt2 cvt3 ltvt
  have v2 := Vals.newL w3 w3.heap.size [.int .i64 0, .int .i64 0, .int .i64 0, .int .i64 0] 23 rfl
  have bb := below_alloc w3 (.cells #[.int .i64 0, .int .i64 0, .int .i64 0, .int .i64 0] 23)
  replace vs := vs.mono bb
  replace vt := vt.mono bb
  replace ht := ht.mono bb
  replace v1 := v1.mono bb
  replace B := below_trans B bb
  clear bb
  generalize w3.alloc (.cells #[.int .i64 0, .int .i64 0, .int .i64 0, .int .i64 0] 23) = w4 at *
  refine (HF.out _).mono ?_
  rintro e w5 ⟨rfl, b5⟩
  replace vs := vs.mono b5
  replace vt := vt.mono b5
  replace ht := ht.mono b5
  replace v1 := v1.mono b5
  replace v2 := v2.mono b5
  replace B := below_trans B b5
  clear b5
  have cv10 := v1.cell (i := 0) (by simp)
  have cv11 := v1.cell (i := 1) (by simp)
  have cv12 := v1.cell (i := 2) (by simp)
  have cv13 := v1.cell (i := 3) (by simp)
  simp only [List.getD_cons_zero, List.getD_cons_succ] at cv10 cv11 cv12 cv13
  have ltv1 := v1.lt
  have cv20 := v2.cell (i := 0) (by simp)
  have cv21 := v2.cell (i := 1) (by simp)
  have cv22 := v2.cell (i := 2) (by simp)
  have cv23 := v2.cell (i := 3) (by simp)
  simp only [List.getD_cons_zero, List.getD_cons_succ] at cv20 cv21 cv22 cv23
  have ltv2 := v2.lt
  go_wp2_with fail
  clear cv10 cv11 cv12 cv13 ltv1 cv20 cv21 cv22 cv23 ltv2
  refine (lives_calls _ ht).mono ?_
  rintro e w6 ⟨rfl, b6⟩
  replace vs := vs.mono b6
  replace vt := vt.mono b6
  replace ht := ht.mono b6
  replace v1 := v1.mono b6
  replace v2 := v2.mono b6
  replace B := below_trans B b6
  clear b6
  go_wp2
  go_ret
  exact ⟨rfl, B⟩

set_option maxRecDepth 100000 in
set_option maxHeartbeats 1000000 in
theorem tmuls_ok (s t : T4) (w : World) (hS : i64 s.a ∧ i64 s.b ∧ i64 s.c ∧ i64 s.d) (hT : i64 t.a ∧ i64 t.b ∧ i64 t.c ∧ i64 t.d) (ht : Tab w) (h1 : validB s.a s.b s.c s.d = true) (h2 : validB t.a t.b t.c t.d = true) :
    Calls Tryd.prog 7 #[.agg #[.int .i64 s.a, .int .i64 s.b, .int .i64 s.c, .int .i64 s.d], .agg #[.int .i64 t.a, .int .i64 t.b, .int .i64 t.c, .int .i64 t.d]] w (RetTrue w) := by
  have F := fun w : World => form_2 s t w hS hT h1 h2
  have P := fun w : World => mulT_ok s t w h1 h2
  have Q := fun w : World => divT_ok s t w h1 h2
  have P2 := fun w : World => rmulT_ok s t w h1 h2
  have Q2 := fun w : World => rdivT_ok s t w h1 h2
  generalize mulT s t = r at *
  generalize divT s t = q at *
  obtain ⟨⟨p1, p2, p3, p4⟩, kp⟩ := r
  try dsimp only at *
  obtain ⟨⟨q1, q2, q3, q4⟩, kq⟩ := q
  try dsimp only at *
  have he : ∀ w : World, (binOp .eql 23 (.agg #[.int .i64 p1, .int .i64 p2, .int .i64 p3, .int .i64 p4]) (.agg #[.int .i64 p1, .int .i64 p2, .int .i64 p3, .int .i64 p4])).run Tryd.prog w = .ok (.bool true) w := fun w => by
    rw [run_eql_tone ⟨p1, p2, p3, p4⟩ ⟨p1, p2, p3, p4⟩]
    have : eqB ⟨p1, p2, p3, p4⟩ ⟨p1, p2, p3, p4⟩ = true := (eqB_iff _ _).2 rfl
    rw [this]
  have hf : ∀ w : World, (binOp .eql 23 (.agg #[.int .i64 q1, .int .i64 q2, .int .i64 q3, .int .i64 q4]) (.agg #[.int .i64 q1, .int .i64 q2, .int .i64 q3, .int .i64 q4])).run Tryd.prog w = .ok (.bool true) w := fun w => by
    rw [run_eql_tone ⟨q1, q2, q3, q4⟩ ⟨q1, q2, q3, q4⟩]
    have : eqB ⟨q1, q2, q3, q4⟩ ⟨q1, q2, q3, q4⟩ = true := (eqB_iff _ _).2 rfl
    rw [this]
  have HF := Lib.hid F
  have HP := Lib.hid P
  have HQ := Lib.hid Q
  have HP2 := Lib.hid P2
  have HQ2 := Lib.hid Q2
  clear F P Q P2 Q2
  clear hS hT h1 h2
  have vs := Vals.newL w (w.heap.size) [.int .i64 s.a, .int .i64 s.b, .int .i64 s.c, .int .i64 s.d] 23 rfl
  have bb := below_alloc w (.cells #[.int .i64 s.a, .int .i64 s.b, .int .i64 s.c, .int .i64 s.d] 23)
  have B := bb
  have sz0 := World.size_alloc w (.cells #[.int .i64 s.a, .int .i64 s.b, .int .i64 s.c, .int .i64 s.d] 23)
  have sz := sz0
  clear sz0
  clear bb
  have vt := Vals.newL (w.alloc (.cells #[.int .i64 s.a, .int .i64 s.b, .int .i64 s.c, .int .i64 s.d] 23)) (w.heap.size + 1) [.int .i64 t.a, .int .i64 t.b, .int .i64 t.c, .int .i64 t.d] 23 sz.symm
  have bb := below_alloc (w.alloc (.cells #[.int .i64 s.a, .int .i64 s.b, .int .i64 s.c, .int .i64 s.d] 23)) (.cells #[.int .i64 t.a, .int .i64 t.b, .int .i64 t.c, .int .i64 t.d] 23)
  replace vs := vs.mono bb
  replace B := below_trans B bb
  clear sz
  have bb0 := B
  clear bb
  go_enter Tryd.func7, Tryd.ntmps7
  go_wp2_with fail
  generalize ((w.alloc (.cells #[.int .i64 s.a, .int .i64 s.b, .int .i64 s.c, .int .i64 s.d] 23)).alloc (.cells #[.int .i64 t.a, .int .i64 t.b, .int .i64 t.c, .int .i64 t.d] 23)) = w0 at *
  replace ht := ht.mono bb0
  clear bb0
  refine (HP.out _).mono ?_
  rintro e w1 ⟨rfl, b1⟩
  replace vs := vs.mono b1
  replace vt := vt.mono b1
  replace ht := ht.mono b1
  replace B := below_trans B b1
  clear b1
  have cvs0 := vs.cell (i := 0) (by simp)
  have cvs1 := vs.cell (i := 1) (by simp)
  have cvs2 := vs.cell (i := 2) (by simp)
  have cvs3 := vs.cell (i := 3) (by simp)
  simp only [List.getD_cons_zero, List.getD_cons_succ] at cvs0 cvs1 cvs2 cvs3
  have ltvs := vs.lt
  have cvt0 := vt.cell (i := 0) (by simp)
  have cvt1 := vt.cell (i := 1) (by simp)
  have cvt2 := vt.cell (i := 2) (by simp)
  have cvt3 := vt.cell (i := 3) (by simp)
  simp only [List.getD_cons_zero, List.getD_cons_succ] at cvt0 cvt1 cvt2 cvt3
  have ltvt := vt.lt
  try go_wp2_with fail
  clear cvs0 cvs1 cvs2 cvs3 ltvs cvt0 cvt1 cvt2 cvt3 ltvt
  have v1 := Vals.newL w1 w1.heap.size [.int .i64 p1, .int .i64 p2, .int .i64 p3, .int .i64 p4] 23 rfl
  have bb := below_alloc w1 (.cells #[.int .i64 p1, .int .i64 p2, .int .i64 p3, .int .i64 p4] 23)
  replace vs := vs.mono bb
  replace vt := vt.mono bb
  replace ht := ht.mono bb
  replace B := below_trans B bb
  clear bb
  generalize w1.alloc (.cells #[.int .i64 p1, .int .i64 p2, .int .i64 p3, .int .i64 p4] 23) = w2 at *
  refine (HQ.out _).mono ?_
  rintro e w3 ⟨rfl, b3⟩
  replace vs := vs.mono b3
  replace vt := vt.mono b3
  replace ht := ht.mono b3
  replace v1 := v1.mono b3
  replace B := below_trans B b3
  clear b3
  have cvs0 := vs.cell (i := 0) (by simp)
  have cvs1 := vs.cell (i := 1) (by simp)
  have cvs2 := vs.cell (i := 2) (by simp)
  have cvs3 := vs.cell (i := 3) (by simp)
  simp only [List.getD_cons_zero, List.getD_cons_succ] at cvs0 cvs1 cvs2 cvs3
  have ltvs := vs.lt
  have cvt0 := vt.cell (i := 0) (by simp)
  have cvt1 := vt.cell (i := 1) (by simp)
  have cvt2 := vt.cell (i := 2) (by simp)
  have cvt3 := vt.cell (i := 3) (by simp)
  simp only [List.getD_cons_zero, List.getD_cons_succ] at cvt0 cvt1 cvt2 cvt3
  have ltvt := vt.lt
  try go_wp2_with fail
  clear cvs0 cvs1 cvs2 cvs3 ltvs cvt0 cvt1 cvt2 cvt3 ltvt
  have v2 := Vals.newL w3 w3.heap.size [.int .i64 q1, .int .i64 q2, .int .i64 q3, .int .i64 q4] 23 rfl
  have bb := below_alloc w3 (.cells #[.int .i64 q1, .int .i64 q2, .int .i64 q3, .int .i64 q4] 23)
  replace vs := vs.mono bb
  replace vt := vt.mono bb
  replace ht := ht.mono bb
  replace v1 := v1.mono bb
  replace B := below_trans B bb
  clear bb
  generalize w3.alloc (.cells #[.int .i64 q1, .int .i64 q2, .int .i64 q3, .int .i64 q4] 23) = w4 at *
  refine (HF.out _).mono ?_
  rintro e w5 ⟨rfl, b5⟩
  replace vs := vs.mono b5
  replace vt := vt.mono b5
  replace ht := ht.mono b5
  replace v1 := v1.mono b5
  replace v2 := v2.mono b5
  replace B := below_trans B b5
  clear b5
  have cvs0 := vs.cell (i := 0) (by simp)
  have cvs1 := vs.cell (i := 1) (by simp)
  have cvs2 := vs.cell (i := 2) (by simp)
  have cvs3 := vs.cell (i := 3) (by simp)
  simp only [List.getD_cons_zero, List.getD_cons_succ] at cvs0 cvs1 cvs2 cvs3
  have ltvs := vs.lt
  have cvt0 := vt.cell (i := 0) (by simp)
  have cvt1 := vt.cell (i := 1) (by simp)
  have cvt2 := vt.cell (i := 2) (by simp)
  have cvt3 := vt.cell (i := 3) (by simp)
  simp only [List.getD_cons_zero, List.getD_cons_succ] at cvt0 cvt1 cvt2 cvt3
  have ltvt := vt.lt
  try go_wp2_with fail
  clear cvs0 cvs1 cvs2 cvs3 ltvs cvt0 cvt1 cvt2 cvt3 ltvt
  refine (HP2.out _).mono ?_
  rintro e w6 ⟨rfl, b6⟩
  replace vs := vs.mono b6
  replace vt := vt.mono b6
  replace ht := ht.mono b6
  replace v1 := v1.mono b6
  replace v2 := v2.mono b6
  replace B := below_trans B b6
  clear b6
  have cvs0 := vs.cell (i := 0) (by simp)
  have cvs1 := vs.cell (i := 1) (by simp)
  have cvs2 := vs.cell (i := 2) (by simp)
  have cvs3 := vs.cell (i := 3) (by simp)
  simp only [List.getD_cons_zero, List.getD_cons_succ] at cvs0 cvs1 cvs2 cvs3
  have ltvs := vs.lt
  have cvt0 := vt.cell (i := 0) (by simp)
  have cvt1 := vt.cell (i := 1) (by simp)
  have cvt2 := vt.cell (i := 2) (by simp)
  have cvt3 := vt.cell (i := 3) (by simp)
  simp only [List.getD_cons_zero, List.getD_cons_succ] at cvt0 cvt1 cvt2 cvt3
  have ltvt := vt.lt
  try go_wp2_with fail
  clear cvs0 cvs1 cvs2 cvs3 ltvs cvt0 cvt1 cvt2 cvt3 ltvt
  have v3 := Vals.newL w6 w6.heap.size [.int .i64 p1, .int .i64 p2, .int .i64 p3, .int .i64 p4] 23 rfl
  have bb := below_alloc w6 (.cells #[.int .i64 p1, .int .i64 p2, .int .i64 p3, .int .i64 p4] 23)
  replace vs := vs.mono bb
  replace vt := vt.mono bb
  replace ht := ht.mono bb
  replace v1 := v1.mono bb
  replace v2 := v2.mono bb
  replace B := below_trans B bb
  clear bb
  generalize w6.alloc (.cells #[.int .i64 p1, .int .i64 p2, .int .i64 p3, .int .i64 p4] 23) = w7 at *
  refine (HQ2.out _).mono ?_
  rintro e w8 ⟨rfl, b8⟩
  replace vs := vs.mono b8
  replace vt := vt.mono b8
  replace ht := ht.mono b8
  replace v1 := v1.mono b8
  replace v2 := v2.mono b8
  replace v3 := v3.mono b8
  replace B := below_trans B b8
  clear b8
  go_upto_region 8 with (fail)
  have v4 := Vals.newL w8 w8.heap.size [.int .i64 q1, .int .i64 q2, .int .i64 q3, .int .i64 q4] 23 rfl
  have bb := below_alloc w8 (.cells #[.int .i64 q1, .int .i64 q2, .int .i64 q3, .int .i64 q4] 23)
  replace vs := vs.mono bb
  replace vt := vt.mono bb
  replace ht := ht.mono bb
  replace v1 := v1.mono bb
  replace v2 := v2.mono bb
  replace v3 := v3.mono bb
  replace B := below_trans B bb
  clear bb
  generalize w8.alloc (.cells #[.int .i64 q1, .int .i64 q2, .int .i64 q3, .int .i64 q4] 23) = w9 at *
  have cv10 := v1.cell (i := 0) (by simp)
  have cv11 := v1.cell (i := 1) (by simp)
  have cv12 := v1.cell (i := 2) (by simp)
  have cv13 := v1.cell (i := 3) (by simp)
  simp only [List.getD_cons_zero, List.getD_cons_succ] at cv10 cv11 cv12 cv13
  have ltv1 := v1.lt
  have cv20 := v2.cell (i := 0) (by simp)
  have cv21 := v2.cell (i := 1) (by simp)
  have cv22 := v2.cell (i := 2) (by simp)
  have cv23 := v2.cell (i := 3) (by simp)
  simp only [List.getD_cons_zero, List.getD_cons_succ] at cv20 cv21 cv22 cv23
  have ltv2 := v2.lt
  have cv30 := v3.cell (i := 0) (by simp)
  have cv31 := v3.cell (i := 1) (by simp)
  have cv32 := v3.cell (i := 2) (by simp)
  have cv33 := v3.cell (i := 3) (by simp)
  simp only [List.getD_cons_zero, List.getD_cons_succ] at cv30 cv31 cv32 cv33
  have ltv3 := v3.lt
  have cv40 := v4.cell (i := 0) (by simp)
  have cv41 := v4.cell (i := 1) (by simp)
  have cv42 := v4.cell (i := 2) (by simp)
  have cv43 := v4.cell (i := 3) (by simp)
  simp only [List.getD_cons_zero, List.getD_cons_succ] at cv40 cv41 cv42 cv43
  have ltv4 := v4.lt
  go_wp2_with fail
  clear cv10 cv11 cv12 cv13 ltv1 cv20 cv21 cv22 cv23 ltv2 cv30 cv31 cv32 cv33 ltv3 cv40 cv41 cv42 cv43 ltv4
  refine (lives_calls _ ht).mono ?_
  rintro e w10 ⟨rfl, b10⟩
  replace vs := vs.mono b10
  replace vt := vt.mono b10
  replace ht := ht.mono b10
  replace v1 := v1.mono b10
  replace v2 := v2.mono b10
  replace v3 := v3.mono b10
  replace v4 := v4.mono b10
  replace B := below_trans B b10
  clear b10
  go_wp2
  go_ret
  exact ⟨rfl, B⟩

set_option maxRecDepth 100000 in
set_option maxHeartbeats 1000000 in
theorem walk_tmuls (s t : T4) (w : World) (hS : i64 s.a ∧ i64 s.b ∧ i64 s.c ∧ i64 s.d) (hT : i64 t.a ∧ i64 t.b ∧ i64 t.c ∧ i64 t.d) (ht : Tab w)  :
    Calls Tryd.prog 7 #[.agg #[.int .i64 s.a, .int .i64 s.b, .int .i64 s.c, .int .i64 s.d], .agg #[.int .i64 t.a, .int .i64 t.b, .int .i64 t.c, .int .i64 t.d]] w (RetTrue w) := by
  cases h1 : validB s.a s.b s.c s.d
  · exact tmuls_b0 s t w hS hT ht h1
  cases h2 : validB t.a t.b t.c t.d
  · exact tmuls_b1 s t w hS hT ht h1 h2
  · exact tmuls_ok s t w hS hT ht h1 h2

end Go.Proofs
