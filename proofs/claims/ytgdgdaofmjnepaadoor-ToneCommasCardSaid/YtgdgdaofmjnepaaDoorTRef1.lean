/- Comma of the program and of the reference. -/
import Derived.Test.YtgdgdaofmjnepaaDoorTone3
open Go.RowKit Go.Deep
namespace Go.Proofs
set_option linter.unusedVariables false

def commaT (z : Int) : T4 × Int :=
  if z = 0 then (⟨-19, 12, 0, 1⟩, 0) else if z = 1 then (⟨-4, 4, -1, 1⟩, 0) else if z = 2 then (⟨-15, 8, 1, 1⟩, 0) else if z = 3 then (⟨7, 0, -3, 1⟩, 0) else (⟨0, 0, 0, 0⟩, 1)

theorem rcomma_0 (z : Int) (w : World) (hz : z = 0) :
    Calls Tryd.prog 43 #[.int .i64 z] w (RetT w (⟨(-19), 12, 0, 1⟩, 0)) := by
  have t0 : (z == 0) = true := by rw [beq_iff_eq]; omega
  have t1 : (z == 1) = false := by rw [beq_eq_false_iff_ne]; omega
  have t2 : (z == 2) = false := by rw [beq_eq_false_iff_ne]; omega
  have t3 : (z == 3) = false := by rw [beq_eq_false_iff_ne]; omega
  subst hz
  clear t0 t1 t2 t3
  have vr := Vals.newL w w.heap.size [.int .i64 (-19), .int .i64 12, .int .i64 0, .int .i64 1] 23 rfl
  have B := below_alloc w (.cells #[.int .i64 (-19), .int .i64 12, .int .i64 0, .int .i64 1] 23)
  go_enter Tryd.func43, Tryd.ntmps43
  go_wp2
  obtain ⟨te, hg⟩ := vr
  refine bodyPost_ret_by (results_cell_tmp rfl _ _ (w.heap.size) te _ (0, 0) _ rfl hg Tryd.underlying23 rfl (by kernel_rfl) (.int .i64 0) rfl) rfl ?_
  exact ⟨rfl, B⟩

theorem rcomma_1 (z : Int) (w : World) (hz : z = 1) :
    Calls Tryd.prog 43 #[.int .i64 z] w (RetT w (⟨(-4), 4, (-1), 1⟩, 0)) := by
  have t0 : (z == 0) = false := by rw [beq_eq_false_iff_ne]; omega
  have t1 : (z == 1) = true := by rw [beq_iff_eq]; omega
  have t2 : (z == 2) = false := by rw [beq_eq_false_iff_ne]; omega
  have t3 : (z == 3) = false := by rw [beq_eq_false_iff_ne]; omega
  subst hz
  clear t0 t1 t2 t3
  have vr := Vals.newL w w.heap.size [.int .i64 (-4), .int .i64 4, .int .i64 (-1), .int .i64 1] 23 rfl
  have B := below_alloc w (.cells #[.int .i64 (-4), .int .i64 4, .int .i64 (-1), .int .i64 1] 23)
  go_enter Tryd.func43, Tryd.ntmps43
  go_wp2
  obtain ⟨te, hg⟩ := vr
  refine bodyPost_ret_by (results_cell_tmp rfl _ _ (w.heap.size) te _ (0, 0) _ rfl hg Tryd.underlying23 rfl (by kernel_rfl) (.int .i64 0) rfl) rfl ?_
  exact ⟨rfl, B⟩

theorem rcomma_2 (z : Int) (w : World) (hz : z = 2) :
    Calls Tryd.prog 43 #[.int .i64 z] w (RetT w (⟨(-15), 8, 1, 1⟩, 0)) := by
  have t0 : (z == 0) = false := by rw [beq_eq_false_iff_ne]; omega
  have t1 : (z == 1) = false := by rw [beq_eq_false_iff_ne]; omega
  have t2 : (z == 2) = true := by rw [beq_iff_eq]; omega
  have t3 : (z == 3) = false := by rw [beq_eq_false_iff_ne]; omega
  subst hz
  clear t0 t1 t2 t3
  have vr := Vals.newL w w.heap.size [.int .i64 (-15), .int .i64 8, .int .i64 1, .int .i64 1] 23 rfl
  have B := below_alloc w (.cells #[.int .i64 (-15), .int .i64 8, .int .i64 1, .int .i64 1] 23)
  go_enter Tryd.func43, Tryd.ntmps43
  go_wp2
  obtain ⟨te, hg⟩ := vr
  refine bodyPost_ret_by (results_cell_tmp rfl _ _ (w.heap.size) te _ (0, 0) _ rfl hg Tryd.underlying23 rfl (by kernel_rfl) (.int .i64 0) rfl) rfl ?_
  exact ⟨rfl, B⟩

theorem rcomma_3 (z : Int) (w : World) (hz : z = 3) :
    Calls Tryd.prog 43 #[.int .i64 z] w (RetT w (⟨7, 0, (-3), 1⟩, 0)) := by
  have t0 : (z == 0) = false := by rw [beq_eq_false_iff_ne]; omega
  have t1 : (z == 1) = false := by rw [beq_eq_false_iff_ne]; omega
  have t2 : (z == 2) = false := by rw [beq_eq_false_iff_ne]; omega
  have t3 : (z == 3) = true := by rw [beq_iff_eq]; omega
  subst hz
  clear t0 t1 t2 t3
  have vr := Vals.newL w w.heap.size [.int .i64 7, .int .i64 0, .int .i64 (-3), .int .i64 1] 23 rfl
  have B := below_alloc w (.cells #[.int .i64 7, .int .i64 0, .int .i64 (-3), .int .i64 1] 23)
  go_enter Tryd.func43, Tryd.ntmps43
  go_wp2
  obtain ⟨te, hg⟩ := vr
  refine bodyPost_ret_by (results_cell_tmp rfl _ _ (w.heap.size) te _ (0, 0) _ rfl hg Tryd.underlying23 rfl (by kernel_rfl) (.int .i64 0) rfl) rfl ?_
  exact ⟨rfl, B⟩

theorem rcomma_4 (z : Int) (w : World) (hz : z < 0 ∨ 3 < z) :
    Calls Tryd.prog 43 #[.int .i64 z] w (RetT w (⟨0, 0, 0, 0⟩, 1)) := by
  have t0 : (z == 0) = false := by rw [beq_eq_false_iff_ne]; omega
  have t1 : (z == 1) = false := by rw [beq_eq_false_iff_ne]; omega
  have t2 : (z == 2) = false := by rw [beq_eq_false_iff_ne]; omega
  have t3 : (z == 3) = false := by rw [beq_eq_false_iff_ne]; omega
  clear hz
  have vr := Vals.newL w w.heap.size [.int .i64 0, .int .i64 0, .int .i64 0, .int .i64 0] 23 rfl
  have B := below_alloc w (.cells #[.int .i64 0, .int .i64 0, .int .i64 0, .int .i64 0] 23)
  go_enter Tryd.func43, Tryd.ntmps43
  go_wp2
  obtain ⟨te, hg⟩ := vr
  refine bodyPost_ret_by (results_cell_tmp rfl _ _ (w.heap.size) te _ (0, 0) _ rfl hg Tryd.underlying23 rfl (by kernel_rfl) (.int .i64 1) rfl) rfl ?_
  exact ⟨rfl, B⟩

theorem comma_calls (z : Int) (w : World) : Calls Tryd.prog 42 #[.int .i64 z] w (RetT w (commaT z)) := by
  unfold commaT
  by_cases h0 : z = 0
  · rw [if_pos h0]; exact comma_0 z w h0
  rw [if_neg h0]
  by_cases h1 : z = 1
  · rw [if_pos h1]; exact comma_1 z w h1
  rw [if_neg h1]
  by_cases h2 : z = 2
  · rw [if_pos h2]; exact comma_2 z w h2
  rw [if_neg h2]
  by_cases h3 : z = 3
  · rw [if_pos h3]; exact comma_3 z w h3
  rw [if_neg h3]
  exact comma_4 z w (by omega)

theorem rcomma_calls (z : Int) (w : World) : Calls Tryd.prog 43 #[.int .i64 z] w (RetT w (commaT z)) := by
  unfold commaT
  by_cases h0 : z = 0
  · rw [if_pos h0]; exact rcomma_0 z w h0
  rw [if_neg h0]
  by_cases h1 : z = 1
  · rw [if_pos h1]; exact rcomma_1 z w h1
  rw [if_neg h1]
  by_cases h2 : z = 2
  · rw [if_pos h2]; exact rcomma_2 z w h2
  rw [if_neg h2]
  by_cases h3 : z = 3
  · rw [if_pos h3]; exact rcomma_3 z w h3
  rw [if_neg h3]
  exact rcomma_4 z w (by omega)

end Go.Proofs
