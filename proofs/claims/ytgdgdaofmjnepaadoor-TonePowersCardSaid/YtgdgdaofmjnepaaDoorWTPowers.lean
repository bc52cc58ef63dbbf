/- The walk of TonePowers: whatever comes in, it returns true and changes nothing that was there. -/
import Derived.Test.YtgdgdaofmjnepaaDoorTRef
import Derived.Test.YtgdgdaofmjnepaaDoorTone8
import Derived.Test.YtgdgdaofmjnepaaDoorToneB
import Derived.Test.YtgdgdaofmjnepaaDoorTRef10
import Derived.Deep.RegionHeld3
open Go.RowKit Go.Deep
namespace Go.Proofs
set_option linter.unusedVariables false

set_option maxRecDepth 100000 in
set_option maxHeartbeats 1000000 in
theorem tpowers_bad (s : T4) (n d : Int) (w : World) (hS : i64 s.a ∧ i64 s.b ∧ i64 s.c ∧ i64 s.d) (ht : Tab w) (hn : i64 n) (hd : i64 d) (h1 : validB s.a s.b s.c s.d = false) :
    Calls Tryd.prog 3 #[.agg #[.int .i64 s.a, .int .i64 s.b, .int .i64 s.c, .int .i64 s.d], .int .i64 n, .int .i64 d] w (RetTrue w) := by
  have F := fun w : World => form_0 s s w hS hS h1
  have P := fun w : World => power_form s n d w hS h1
  have HF := Lib.hid F
  have HP := Lib.hid P
  clear F P
  clear hS h1 hn hd
  have vs := Vals.newL w (w.heap.size) [.int .i64 s.a, .int .i64 s.b, .int .i64 s.c, .int .i64 s.d] 23 rfl
  have bb := below_alloc w (.cells #[.int .i64 s.a, .int .i64 s.b, .int .i64 s.c, .int .i64 s.d] 23)
  have B := bb
  have bb0 := B
  clear bb
  go_enter Tryd.func3, Tryd.ntmps3
  go_wp2_with fail
  generalize (w.alloc (.cells #[.int .i64 s.a, .int .i64 s.b, .int .i64 s.c, .int .i64 s.d] 23)) = w0 at *
  replace ht := ht.mono bb0
  clear bb0
  refine (HP.out _).mono ?_
  rintro e w1 ⟨rfl, b1⟩
  replace vs := vs.mono b1
  replace ht := ht.mono b1
  replace B := below_trans B b1
  clear b1
  have cvs0 := vs.cell (i := 0) (by simp)
  have cvs1 := vs.cell (i := 1) (by simp)
  have cvs2 := vs.cell (i := 2) (by simp)
  have cvs3 := vs.cell (i := 3) (by simp)
  simp only [List.getD_cons_zero, List.getD_cons_succ] at cvs0 cvs1 cvs2 cvs3
  have ltvs := vs.lt
  try go_wp2_with fail
  clear cvs0 cvs1 cvs2 cvs3 ltvs
  have v1 := Vals.newL w1 w1.heap.size [.int .i64 0, .int .i64 0, .int .i64 0, .int .i64 0] 23 rfl
  have bb := below_alloc w1 (.cells #[.int .i64 0, .int .i64 0, .int .i64 0, .int .i64 0] 23)
  replace vs := vs.mono bb
  replace ht := ht.mono bb
  replace B := below_trans B bb
  clear bb
  generalize w1.alloc (.cells #[.int .i64 0, .int .i64 0, .int .i64 0, .int .i64 0] 23) = w2 at *
  refine (HF.out _).mono ?_
  rintro e w3 ⟨rfl, b3⟩
  replace vs := vs.mono b3
  replace ht := ht.mono b3
  replace v1 := v1.mono b3
  replace B := below_trans B b3
  clear b3
  have cv10 := v1.cell (i := 0) (by simp)
  have cv11 := v1.cell (i := 1) (by simp)
  have cv12 := v1.cell (i := 2) (by simp)
  have cv13 := v1.cell (i := 3) (by simp)
  simp only [List.getD_cons_zero, List.getD_cons_succ] at cv10 cv11 cv12 cv13
  have ltv1 := v1.lt
  go_wp2_with fail
  clear cv10 cv11 cv12 cv13 ltv1
  refine (lives_calls _ ht).mono ?_
  rintro e w4 ⟨rfl, b4⟩
  replace vs := vs.mono b4
  replace ht := ht.mono b4
  replace v1 := v1.mono b4
  replace B := below_trans B b4
  clear b4
  go_wp2
  go_ret
  exact ⟨rfl, B⟩

set_option maxRecDepth 100000 in
set_option maxHeartbeats 1000000 in
theorem tpowers_arg (s : T4) (n d : Int) (w : World) (hS : i64 s.a ∧ i64 s.b ∧ i64 s.c ∧ i64 s.d) (ht : Tab w) (hn : i64 n) (hd : i64 d) (h1 : validB s.a s.b s.c s.d = true) (h2 : d < 1) :
    Calls Tryd.prog 3 #[.agg #[.int .i64 s.a, .int .i64 s.b, .int .i64 s.c, .int .i64 s.d], .int .i64 n, .int .i64 d] w (RetTrue w) := by
  have F := fun w : World => form_2 s s w hS hS h1 h1
  have P := fun w : World => power_arg s n d w hS h1 h2
  have Q := fun w : World => rpowerT_arg s n d w h2
  have HF := Lib.hid F
  have HP := Lib.hid P
  have HQ := Lib.hid Q
  clear F P Q
  clear hS h1 hn hd h2
  have vs := Vals.newL w (w.heap.size) [.int .i64 s.a, .int .i64 s.b, .int .i64 s.c, .int .i64 s.d] 23 rfl
  have bb := below_alloc w (.cells #[.int .i64 s.a, .int .i64 s.b, .int .i64 s.c, .int .i64 s.d] 23)
  have B := bb
  have bb0 := B
  clear bb
  go_enter Tryd.func3, Tryd.ntmps3
  go_wp2_with fail
  generalize (w.alloc (.cells #[.int .i64 s.a, .int .i64 s.b, .int .i64 s.c, .int .i64 s.d] 23)) = w0 at *
  replace ht := ht.mono bb0
  clear bb0
  refine (HP.out _).mono ?_
  rintro e w1 ⟨rfl, b1⟩
  replace vs := vs.mono b1
  replace ht := ht.mono b1
  replace B := below_trans B b1
  clear b1
  have cvs0 := vs.cell (i := 0) (by simp)
  have cvs1 := vs.cell (i := 1) (by simp)
  have cvs2 := vs.cell (i := 2) (by simp)
  have cvs3 := vs.cell (i := 3) (by simp)
  simp only [List.getD_cons_zero, List.getD_cons_succ] at cvs0 cvs1 cvs2 cvs3
  have ltvs := vs.lt
  try go_wp2_with fail
  clear cvs0 cvs1 cvs2 cvs3 ltvs
  have v1 := Vals.newL w1 w1.heap.size [.int .i64 0, .int .i64 0, .int .i64 0, .int .i64 0] 23 rfl
  have bb := below_alloc w1 (.cells #[.int .i64 0, .int .i64 0, .int .i64 0, .int .i64 0] 23)
  replace vs := vs.mono bb
  replace ht := ht.mono bb
  replace B := below_trans B bb
  clear bb
  generalize w1.alloc (.cells #[.int .i64 0, .int .i64 0, .int .i64 0, .int .i64 0] 23) = w2 at *
  refine (HF.out _).mono ?_
  rintro e w3 ⟨rfl, b3⟩
  replace vs := vs.mono b3
  replace ht := ht.mono b3
  replace v1 := v1.mono b3
  replace B := below_trans B b3
  clear b3
  have cvs0 := vs.cell (i := 0) (by simp)
  have cvs1 := vs.cell (i := 1) (by simp)
  have cvs2 := vs.cell (i := 2) (by simp)
  have cvs3 := vs.cell (i := 3) (by simp)
  simp only [List.getD_cons_zero, List.getD_cons_succ] at cvs0 cvs1 cvs2 cvs3
  have ltvs := vs.lt
  try go_wp2_with fail
  clear cvs0 cvs1 cvs2 cvs3 ltvs
  refine (HQ.out _).mono ?_
  rintro e w4 ⟨rfl, b4⟩
  replace vs := vs.mono b4
  replace ht := ht.mono b4
  replace v1 := v1.mono b4
  replace B := below_trans B b4
  clear b4
  go_upto_region 6 with (fail)
  have v2 := Vals.newL w4 w4.heap.size [.int .i64 0, .int .i64 0, .int .i64 0, .int .i64 0] 23 rfl
  have bb := below_alloc w4 (.cells #[.int .i64 0, .int .i64 0, .int .i64 0, .int .i64 0] 23)
  replace vs := vs.mono bb
  replace ht := ht.mono bb
  replace v1 := v1.mono bb
  replace B := below_trans B bb
  clear bb
  generalize w4.alloc (.cells #[.int .i64 0, .int .i64 0, .int .i64 0, .int .i64 0] 23) = w5 at *
  have cv10 := v1.cell (i := 0) (by simp)
  have cv11 := v1.cell (i := 1) (by simp)
  have cv12 := v1.cell (i := 2) (by simp)
  have cv13 := v1.cell (i := 3) (by simp)
  simp only [List.getD_cons_zero, List.getD_cons_succ] at cv10 cv11 cv12 cv13
  have ltv1 := v1.lt
  have cv20 := v2.cell (i := 0) (by simp)
  have cv21 := v2.cell (i := 1) (by simp)
  have cv22 := v2.cell (i := 2) (by simp)
  have cv23 := v2.cell (i := 3) (by simp)
  simp only [List.getD_cons_zero, List.getD_cons_succ] at cv20 cv21 cv22 cv23
  have ltv2 := v2.lt
  go_wp2_with fail
  clear cv10 cv11 cv12 cv13 ltv1 cv20 cv21 cv22 cv23 ltv2
  refine (lives_calls _ ht).mono ?_
  rintro e w6 ⟨rfl, b6⟩
  replace vs := vs.mono b6
  replace ht := ht.mono b6
  replace v1 := v1.mono b6
  replace v2 := v2.mono b6
  replace B := below_trans B b6
  clear b6
  go_wp2
  go_ret
  exact ⟨rfl, B⟩

set_option maxRecDepth 100000 in
set_option maxHeartbeats 1000000 in
theorem tpowers_ok (s : T4) (n d : Int) (w : World) (hS : i64 s.a ∧ i64 s.b ∧ i64 s.c ∧ i64 s.d) (ht : Tab w) (hn : i64 n) (hd : i64 d) (h1 : validB s.a s.b s.c s.d = true) (h2 : 1 ≤ d) :
    Calls Tryd.prog 3 #[.agg #[.int .i64 s.a, .int .i64 s.b, .int .i64 s.c, .int .i64 s.d], .int .i64 n, .int .i64 d] w (RetTrue w) := by
  have F := fun w : World => form_2 s s w hS hS h1 h1
  have P := fun w : World => powerT_ok s n d w h1 hn hd h2
  have Q := fun w : World => rpowerT_ok s n d w h1 hn hd h2
  generalize powT s n d = r at *
  obtain ⟨⟨p1, p2, p3, p4⟩, kp⟩ := r
  try dsimp only at *
  have he : ∀ w : World, (binOp .eql 23 (.agg #[.int .i64 p1, .int .i64 p2, .int .i64 p3, .int .i64 p4]) (.agg #[.int .i64 p1, .int .i64 p2, .int .i64 p3, .int .i64 p4])).run Tryd.prog w = .ok (.bool true) w := fun w => by
    rw [run_eql_tone ⟨p1, p2, p3, p4⟩ ⟨p1, p2, p3, p4⟩]
    have : eqB ⟨p1, p2, p3, p4⟩ ⟨p1, p2, p3, p4⟩ = true := (eqB_iff _ _).2 rfl
    rw [this]
  have HF := Lib.hid F
  have HP := Lib.hid P
  have HQ := Lib.hid Q
  clear F P Q
  clear hS h1 hn hd h2
  have vs := Vals.newL w (w.heap.size) [.int .i64 s.a, .int .i64 s.b, .int .i64 s.c, .int .i64 s.d] 23 rfl
  have bb := below_alloc w (.cells #[.int .i64 s.a, .int .i64 s.b, .int .i64 s.c, .int .i64 s.d] 23)
  have B := bb
  have bb0 := B
  clear bb
  go_enter Tryd.func3, Tryd.ntmps3
  go_wp2_with fail
  generalize (w.alloc (.cells #[.int .i64 s.a, .int .i64 s.b, .int .i64 s.c, .int .i64 s.d] 23)) = w0 at *
  replace ht := ht.mono bb0
  clear bb0
  refine (HP.out _).mono ?_
  rintro e w1 ⟨rfl, b1⟩
  replace vs := vs.mono b1
  replace ht := ht.mono b1
  replace B := below_trans B b1
  clear b1
  have cvs0 := vs.cell (i := 0) (by simp)
  have cvs1 := vs.cell (i := 1) (by simp)
  have cvs2 := vs.cell (i := 2) (by simp)
  have cvs3 := vs.cell (i := 3) (by simp)
  simp only [List.getD_cons_zero, List.getD_cons_succ] at cvs0 cvs1 cvs2 cvs3
  have ltvs := vs.lt
  try go_wp2_with fail
  clear cvs0 cvs1 cvs2 cvs3 ltvs
  have v1 := Vals.newL w1 w1.heap.size [.int .i64 p1, .int .i64 p2, .int .i64 p3, .int .i64 p4] 23 rfl
  have bb := below_alloc w1 (.cells #[.int .i64 p1, .int .i64 p2, .int .i64 p3, .int .i64 p4] 23)
  replace vs := vs.mono bb
  replace ht := ht.mono bb
  replace B := below_trans B bb
  clear bb
  generalize w1.alloc (.cells #[.int .i64 p1, .int .i64 p2, .int .i64 p3, .int .i64 p4] 23) = w2 at *
  refine (HF.out _).mono ?_
  rintro e w3 ⟨rfl, b3⟩
  replace vs := vs.mono b3
  replace ht := ht.mono b3
  replace v1 := v1.mono b3
  replace B := below_trans B b3
  clear b3
  have cvs0 := vs.cell (i := 0) (by simp)
  have cvs1 := vs.cell (i := 1) (by simp)
  have cvs2 := vs.cell (i := 2) (by simp)
  have cvs3 := vs.cell (i := 3) (by simp)
  simp only [List.getD_cons_zero, List.getD_cons_succ] at cvs0 cvs1 cvs2 cvs3
  have ltvs := vs.lt
  try go_wp2_with fail
  clear cvs0 cvs1 cvs2 cvs3 ltvs
  refine (HQ.out _).mono ?_
  rintro e w4 ⟨rfl, b4⟩
  replace vs := vs.mono b4
  replace ht := ht.mono b4
  replace v1 := v1.mono b4
  replace B := below_trans B b4
  clear b4
  go_upto_region 6 with (fail)
  have v2 := Vals.newL w4 w4.heap.size [.int .i64 p1, .int .i64 p2, .int .i64 p3, .int .i64 p4] 23 rfl
  have bb := below_alloc w4 (.cells #[.int .i64 p1, .int .i64 p2, .int .i64 p3, .int .i64 p4] 23)
  replace vs := vs.mono bb
  replace ht := ht.mono bb
  replace v1 := v1.mono bb
  replace B := below_trans B bb
  clear bb
  generalize w4.alloc (.cells #[.int .i64 p1, .int .i64 p2, .int .i64 p3, .int .i64 p4] 23) = w5 at *
  have cv10 := v1.cell (i := 0) (by simp)
  have cv11 := v1.cell (i := 1) (by simp)
  have cv12 := v1.cell (i := 2) (by simp)
  have cv13 := v1.cell (i := 3) (by simp)
  simp only [List.getD_cons_zero, List.getD_cons_succ] at cv10 cv11 cv12 cv13
  have ltv1 := v1.lt
  have cv20 := v2.cell (i := 0) (by simp)
  have cv21 := v2.cell (i := 1) (by simp)
  have cv22 := v2.cell (i := 2) (by simp)
  have cv23 := v2.cell (i := 3) (by simp)
  simp only [List.getD_cons_zero, List.getD_cons_succ] at cv20 cv21 cv22 cv23
  have ltv2 := v2.lt
  go_wp2_with fail
  clear cv10 cv11 cv12 cv13 ltv1 cv20 cv21 cv22 cv23 ltv2
  refine (lives_calls _ ht).mono ?_
  rintro e w6 ⟨rfl, b6⟩
  replace vs := vs.mono b6
  replace ht := ht.mono b6
  replace v1 := v1.mono b6
  replace v2 := v2.mono b6
  replace B := below_trans B b6
  clear b6
  go_wp2
  go_ret
  exact ⟨rfl, B⟩

theorem walk_tpowers (s : T4) (n d : Int) (w : World) (hS : i64 s.a ∧ i64 s.b ∧ i64 s.c ∧ i64 s.d) (hn : i64 n) (hd : i64 d) (ht : Tab w) :
    Calls Tryd.prog 3 #[.agg #[.int .i64 s.a, .int .i64 s.b, .int .i64 s.c, .int .i64 s.d], .int .i64 n, .int .i64 d] w (RetTrue w) := by
  cases h1 : validB s.a s.b s.c s.d
  · exact tpowers_bad s n d w hS ht hn hd h1
  by_cases h2 : 1 ≤ d
  · exact tpowers_ok s n d w hS ht hn hd h1 h2
  · exact tpowers_arg s n d w hS ht hn hd h1 (by omega)

end Go.Proofs
