/- The walk of ToneSizes: whatever comes in, it returns true and changes nothing that was there. -/
import Derived.Test.YtgdgdaofmjnepaaDoorTRef
import Derived.Test.YtgdgdaofmjnepaaDoorTone8
import Derived.Test.YtgdgdaofmjnepaaDoorToneB
import Derived.Test.YtgdgdaofmjnepaaDoorTRef6
open Go.RowKit Go.Deep
namespace Go.Proofs
set_option linter.unusedVariables false

set_option maxRecDepth 100000 in
set_option maxHeartbeats 1000000 in
theorem sizes_b0 (s : T4) (w : World) (hS : i64 s.a ∧ i64 s.b ∧ i64 s.c ∧ i64 s.d) (ht : Tab w) (h1 : validB s.a s.b s.c s.d = false) :
    Calls Tryd.prog 4 #[.agg #[.int .i64 s.a, .int .i64 s.b, .int .i64 s.c, .int .i64 s.d]] w (RetTrue w) := by
  have F := fun w : World => form_0 s s w hS hS h1
  have HF := Lib.hid F
  clear F
  have C := fun w : World => cents_bad s w hS h1
  have HC := Lib.hid C
  clear C
  clear hS h1
  have vs := Vals.newL w (w.heap.size) [.int .i64 s.a, .int .i64 s.b, .int .i64 s.c, .int .i64 s.d] 23 rfl
  have bb := below_alloc w (.cells #[.int .i64 s.a, .int .i64 s.b, .int .i64 s.c, .int .i64 s.d] 23)
  have B := bb
  have bb0 := B
  clear bb
  go_enter Tryd.func4, Tryd.ntmps4
  go_wp2_with fail
  generalize (w.alloc (.cells #[.int .i64 s.a, .int .i64 s.b, .int .i64 s.c, .int .i64 s.d] 23)) = w0 at *
  replace ht := ht.mono bb0
  clear bb0
  refine (HF.out _).mono ?_
  rintro e w1 ⟨rfl, b1⟩
  replace vs := vs.mono b1
  replace ht := ht.mono b1
  replace B := below_trans B b1
  clear b1
  have cvs0 := vs.cell (i := 0) (by simp)
  have cvs1 := vs.cell (i := 1) (by simp)
  have cvs2 := vs.cell (i := 2) (by simp)
  have cvs3 := vs.cell (i := 3) (by simp)
  simp only [List.getD_cons_zero, List.getD_cons_succ] at cvs0 cvs1 cvs2 cvs3
  have ltvs := vs.lt
  go_wp2_with fail
  clear cvs0 cvs1 cvs2 cvs3 ltvs
  refine (HC.out _).mono ?_
  rintro e w2 ⟨rfl, b2⟩
  replace vs := vs.mono b2
  replace ht := ht.mono b2
  replace B := below_trans B b2
  clear b2
  go_wp2_with fail
  refine (lives_calls _ ht).mono ?_
  rintro e w3 ⟨rfl, b3⟩
  replace vs := vs.mono b3
  replace ht := ht.mono b3
  replace B := below_trans B b3
  clear b3
  go_wp2
  go_ret
  exact ⟨rfl, B⟩

set_option maxRecDepth 100000 in
set_option maxHeartbeats 1000000 in
theorem sizes_l0 (s : T4) (w : World) (hS : i64 s.a ∧ i64 s.b ∧ i64 s.c ∧ i64 s.d) (ht : Tab w) (h1 : validB s.a s.b s.c s.d = true) (g1 : ¬ (-16 ≤ s.a ∧ s.a ≤ 16 ∧ -16 ≤ s.b ∧ s.b ≤ 16 ∧ -16 ≤ s.c ∧ s.c ≤ 16)) :
    Calls Tryd.prog 4 #[.agg #[.int .i64 s.a, .int .i64 s.b, .int .i64 s.c, .int .i64 s.d]] w (RetTrue w) := by
  have F := fun w : World => form_2 s s w hS hS h1 h1
  have HF := Lib.hid F
  clear F
  have Ls := fun w : World => large_yes s 16 w (by omega) (by omega) g1
  have HLs := Lib.hid Ls
  clear Ls
  clear hS h1 g1
  have vs := Vals.newL w (w.heap.size) [.int .i64 s.a, .int .i64 s.b, .int .i64 s.c, .int .i64 s.d] 23 rfl
  have bb := below_alloc w (.cells #[.int .i64 s.a, .int .i64 s.b, .int .i64 s.c, .int .i64 s.d] 23)
  have B := bb
  have bb0 := B
  clear bb
  go_enter Tryd.func4, Tryd.ntmps4
  go_wp2_with fail
  generalize (w.alloc (.cells #[.int .i64 s.a, .int .i64 s.b, .int .i64 s.c, .int .i64 s.d] 23)) = w0 at *
  replace ht := ht.mono bb0
  clear bb0
  refine (HF.out _).mono ?_
  rintro e w1 ⟨rfl, b1⟩
  replace vs := vs.mono b1
  replace ht := ht.mono b1
  replace B := below_trans B b1
  clear b1
  have cvs0 := vs.cell (i := 0) (by simp)
  have cvs1 := vs.cell (i := 1) (by simp)
  have cvs2 := vs.cell (i := 2) (by simp)
  have cvs3 := vs.cell (i := 3) (by simp)
  simp only [List.getD_cons_zero, List.getD_cons_succ] at cvs0 cvs1 cvs2 cvs3
  have ltvs := vs.lt
  go_wp2_with fail
  clear cvs0 cvs1 cvs2 cvs3 ltvs
  refine (HLs.out _).mono ?_
  rintro e w2 ⟨rfl, b2⟩
  replace vs := vs.mono b2
  replace ht := ht.mono b2
  replace B := below_trans B b2
  clear b2
  go_wp2_with fail
  refine (lives_calls _ ht).mono ?_
  rintro e w3 ⟨rfl, b3⟩
  replace vs := vs.mono b3
  replace ht := ht.mono b3
  replace B := below_trans B b3
  clear b3
  go_wp2
  go_ret
  exact ⟨rfl, B⟩

set_option maxRecDepth 100000 in
set_option maxHeartbeats 1000000 in
theorem sizes_ok (s : T4) (w : World) (hS : i64 s.a ∧ i64 s.b ∧ i64 s.c ∧ i64 s.d) (ht : Tab w) (h1 : validB s.a s.b s.c s.d = true) (g1 : -16 ≤ s.a ∧ s.a ≤ 16 ∧ -16 ≤ s.b ∧ s.b ≤ 16 ∧ -16 ≤ s.c ∧ s.c ≤ 16) :
    Calls Tryd.prog 4 #[.agg #[.int .i64 s.a, .int .i64 s.b, .int .i64 s.c, .int .i64 s.d]] w (RetTrue w) := by
  have F := fun w : World => form_2 s s w hS hS h1 h1
  have HF := Lib.hid F
  clear F
  have Ls := fun w : World => large_no s 16 w (by omega) (by omega) g1
  have HLs := Lib.hid Ls
  clear Ls
  have C := fun w : World => cents_ok s w h1
  have R := fun w : World => rcents_ok s w h1
  generalize centsT s = c at *
  have HC := Lib.hid C
  have HR := Lib.hid R
  clear C R
  clear hS h1 g1
  have vs := Vals.newL w (w.heap.size) [.int .i64 s.a, .int .i64 s.b, .int .i64 s.c, .int .i64 s.d] 23 rfl
  have bb := below_alloc w (.cells #[.int .i64 s.a, .int .i64 s.b, .int .i64 s.c, .int .i64 s.d] 23)
  have B := bb
  have bb0 := B
  clear bb
  go_enter Tryd.func4, Tryd.ntmps4
  go_wp2_with fail
  generalize (w.alloc (.cells #[.int .i64 s.a, .int .i64 s.b, .int .i64 s.c, .int .i64 s.d] 23)) = w0 at *
  replace ht := ht.mono bb0
  clear bb0
  refine (HF.out _).mono ?_
  rintro e w1 ⟨rfl, b1⟩
  replace vs := vs.mono b1
  replace ht := ht.mono b1
  replace B := below_trans B b1
  clear b1
  have cvs0 := vs.cell (i := 0) (by simp)
  have cvs1 := vs.cell (i := 1) (by simp)
  have cvs2 := vs.cell (i := 2) (by simp)
  have cvs3 := vs.cell (i := 3) (by simp)
  simp only [List.getD_cons_zero, List.getD_cons_succ] at cvs0 cvs1 cvs2 cvs3
  have ltvs := vs.lt
  go_wp2_with fail
  clear cvs0 cvs1 cvs2 cvs3 ltvs
  refine (HLs.out _).mono ?_
  rintro e w2 ⟨rfl, b2⟩
  replace vs := vs.mono b2
  replace ht := ht.mono b2
  replace B := below_trans B b2
  clear b2
  have cvs0 := vs.cell (i := 0) (by simp)
  have cvs1 := vs.cell (i := 1) (by simp)
  have cvs2 := vs.cell (i := 2) (by simp)
  have cvs3 := vs.cell (i := 3) (by simp)
  simp only [List.getD_cons_zero, List.getD_cons_succ] at cvs0 cvs1 cvs2 cvs3
  have ltvs := vs.lt
  go_wp2_with fail
  clear cvs0 cvs1 cvs2 cvs3 ltvs
  refine (HC.out _).mono ?_
  rintro e w3 ⟨rfl, b3⟩
  replace vs := vs.mono b3
  replace ht := ht.mono b3
  replace B := below_trans B b3
  clear b3
  have cvs0 := vs.cell (i := 0) (by simp)
  have cvs1 := vs.cell (i := 1) (by simp)
  have cvs2 := vs.cell (i := 2) (by simp)
  have cvs3 := vs.cell (i := 3) (by simp)
  simp only [List.getD_cons_zero, List.getD_cons_succ] at cvs0 cvs1 cvs2 cvs3
  have ltvs := vs.lt
  go_wp2_with fail
  clear cvs0 cvs1 cvs2 cvs3 ltvs
  refine (HR.out _).mono ?_
  rintro e w4 ⟨rfl, b4⟩
  replace vs := vs.mono b4
  replace ht := ht.mono b4
  replace B := below_trans B b4
  clear b4
  go_wp2_with fail
  refine (lives_calls _ ht).mono ?_
  rintro e w5 ⟨rfl, b5⟩
  replace vs := vs.mono b5
  replace ht := ht.mono b5
  replace B := below_trans B b5
  clear b5
  go_wp2
  go_ret
  exact ⟨rfl, B⟩

set_option maxRecDepth 100000 in
set_option maxHeartbeats 1000000 in
theorem walk_sizes (s : T4) (w : World) (hS : i64 s.a ∧ i64 s.b ∧ i64 s.c ∧ i64 s.d) (ht : Tab w)  :
    Calls Tryd.prog 4 #[.agg #[.int .i64 s.a, .int .i64 s.b, .int .i64 s.c, .int .i64 s.d]] w (RetTrue w) := by
  cases h1 : validB s.a s.b s.c s.d
  · exact sizes_b0 s w hS ht h1
  by_cases g1 : -16 ≤ s.a ∧ s.a ≤ 16 ∧ -16 ≤ s.b ∧ s.b ≤ 16 ∧ -16 ≤ s.c ∧ s.c ≤ 16
  case neg => exact sizes_l0 s w hS ht h1 g1
  exact sizes_ok s w hS ht h1 g1

end Go.Proofs
