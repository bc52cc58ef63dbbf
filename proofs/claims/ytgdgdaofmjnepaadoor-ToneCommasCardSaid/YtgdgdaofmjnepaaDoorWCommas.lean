/- The walk of ToneCommas: whatever comes in, it returns true and changes nothing that was there. -/
import Derived.Test.YtgdgdaofmjnepaaDoorTRef1
import Derived.Test.YtgdgdaofmjnepaaDoorTone8
open Go.RowKit Go.Deep
namespace Go.Proofs
set_option linter.unusedVariables false

set_option maxRecDepth 100000 in
theorem walk_commas (z : Int) (w : World) (ht : Tab w) : Calls Tryd.prog 12 #[.int .i64 z] w (RetTrue w) := by
  have C1 := fun w : World => comma_calls z w
  have C2 := fun w : World => rcomma_calls z w
  generalize commaT z = r at *
  obtain ⟨⟨x, y, u, t⟩, k⟩ := r
  have H1 := Lib.hid C1
  have H2 := Lib.hid C2
  clear C1 C2
  go_enter Tryd.func12, Tryd.ntmps12
  go_wp2_with fail
  refine (H1.out _).mono ?_
  rintro e w1 ⟨rfl, b1⟩
  replace ht := ht.mono b1
  have B := b1
  clear b1
  go_wp2_with fail
  have v1 := Vals.newL w1 w1.heap.size [.int .i64 x, .int .i64 y, .int .i64 u, .int .i64 t] 23 rfl
  have bb := below_alloc w1 (.cells #[.int .i64 x, .int .i64 y, .int .i64 u, .int .i64 t] 23)
  replace ht := ht.mono bb
  replace B := below_trans B bb
  clear bb
  generalize w1.alloc (.cells #[.int .i64 x, .int .i64 y, .int .i64 u, .int .i64 t] 23) = w2 at *
  refine (H2.out _).mono ?_
  rintro e w3 ⟨rfl, b3⟩
  replace ht := ht.mono b3
  replace v1 := v1.mono b3
  replace B := below_trans B b3
  clear b3
  have cv10 := v1.cell (i := 0) (by simp)
  have cv11 := v1.cell (i := 1) (by simp)
  have cv12 := v1.cell (i := 2) (by simp)
  have cv13 := v1.cell (i := 3) (by simp)
  simp only [List.getD_cons_zero, List.getD_cons_succ] at cv10 cv11 cv12 cv13
  have ltv1 := v1.lt
  go_wp2_with fail
  clear cv10 cv11 cv12 cv13 ltv1
  have v2 := Vals.newL w3 w3.heap.size [.int .i64 x, .int .i64 y, .int .i64 u, .int .i64 t] 23 rfl
  have bb := below_alloc w3 (.cells #[.int .i64 x, .int .i64 y, .int .i64 u, .int .i64 t] 23)
  replace ht := ht.mono bb
  replace v1 := v1.mono bb
  replace B := below_trans B bb
  clear bb
  generalize w3.alloc (.cells #[.int .i64 x, .int .i64 y, .int .i64 u, .int .i64 t] 23) = w4 at *
  refine (lives_calls _ ht).mono ?_
  rintro e w5 ⟨rfl, b5⟩
  replace ht := ht.mono b5
  replace v1 := v1.mono b5
  replace v2 := v2.mono b5
  replace B := below_trans B b5
  clear b5
  go_wp2
  go_ret
  exact ⟨rfl, B⟩

end Go.Proofs
