/- clavecintop: tempers. -/
import Derived.Test.YthkeekoljediiaaTemper1
open Go.RowKit Go.Deep
namespace Go.Proofs
set_option linter.unusedVariables false
set_option linter.unusedSimpArgs false

/-- the law's call returned true, and changed nothing that was there -/
def RetTrueQ (w : World) (e : Ending) (w' : World) : Prop := e = .returned (.bool true) ∧ Below w.heap.size w w'
/-- twelve equal integers as a block of their own -/
def twelveL (s : Int) : List Value := [.int .i64 s, .int .i64 s, .int .i64 s, .int .i64 s, .int .i64 s, .int .i64 s, .int .i64 s, .int .i64 s, .int .i64 s, .int .i64 s, .int .i64 s, .int .i64 s]
theorem twelve_new (w : World) (s : Int) (e : TypeId) : Twelve (w.alloc (.cells (twelveL s).toArray e)) w.heap.size s ∧ Below w.heap.size w (w.alloc (.cells (twelveL s).toArray e)) := by
  refine ⟨?_, below_alloc w _⟩
  have v := Vals.newL w w.heap.size (twelveL s) e rfl
  intro i hi
  have c := v.cell (i := i) (by exact hi)
  rw [c]
  match i, hi with
  | 0, _ => rfl
  | 1, _ => rfl
  | 2, _ => rfl
  | 3, _ => rfl
  | 4, _ => rfl
  | 5, _ => rfl
  | 6, _ => rfl
  | 7, _ => rfl
  | 8, _ => rfl
  | 9, _ => rfl
  | 10, _ => rfl
  | 11, _ => rfl

set_option maxRecDepth 100000 in
theorem tempers_calls (w : World) : Calls Try.prog 6 #[] w (RetTrueQ w) := by
  have H1 := Lib.hid (fun (b : Nat) (w : World) (hv : Twelve w b 1) => closes_1 b w hv)
  have H0 := Lib.hid (fun (b : Nat) (w : World) (hv : Twelve w b 0) => closes_0 b w hv)
  have t1 : Twelve (w.alloc (.cells #[.int .i64 1, .int .i64 1, .int .i64 1, .int .i64 1, .int .i64 1, .int .i64 1, .int .i64 1, .int .i64 1, .int .i64 1, .int .i64 1, .int .i64 1, .int .i64 1] 3)) w.heap.size 1 := (twelve_new w 1 3).1
  have b1 := below_alloc w (.cells #[.int .i64 1, .int .i64 1, .int .i64 1, .int .i64 1, .int .i64 1, .int .i64 1, .int .i64 1, .int .i64 1, .int .i64 1, .int .i64 1, .int .i64 1, .int .i64 1] 3)
  have T1 := Lib.hid t1
  have B1 := Lib.hid b1
  clear t1 b1
  go_enter Try.func6, Try.ntmps6
  go_wp2_with fail
  generalize w.alloc (.cells #[.int .i64 1, .int .i64 1, .int .i64 1, .int .i64 1, .int .i64 1, .int .i64 1, .int .i64 1, .int .i64 1, .int .i64 1, .int .i64 1, .int .i64 1, .int .i64 1] 3) = w1 at *
  refine (H1.out _ _ T1.out).mono ?_
  rintro e w1' ⟨rfl, rfl⟩
  have t2 : Twelve (w1.alloc (.cells #[.int .i64 0, .int .i64 0, .int .i64 0, .int .i64 0, .int .i64 0, .int .i64 0, .int .i64 0, .int .i64 0, .int .i64 0, .int .i64 0, .int .i64 0, .int .i64 0] 3)) w1.heap.size 0 := (twelve_new w1 0 3).1
  have b2 := below_trans B1.out (below_alloc w1 (.cells #[.int .i64 0, .int .i64 0, .int .i64 0, .int .i64 0, .int .i64 0, .int .i64 0, .int .i64 0, .int .i64 0, .int .i64 0, .int .i64 0, .int .i64 0, .int .i64 0] 3))
  have T2 := Lib.hid t2
  have B2 := Lib.hid b2
  clear t2 b2 T1 B1
  go_wp2_with fail
  generalize w1.alloc (.cells #[.int .i64 0, .int .i64 0, .int .i64 0, .int .i64 0, .int .i64 0, .int .i64 0, .int .i64 0, .int .i64 0, .int .i64 0, .int .i64 0, .int .i64 0, .int .i64 0] 3) = w2 at *
  refine (H0.out _ _ T2.out).mono ?_
  rintro e w2' ⟨rfl, rfl⟩
  go_wp2
  go_ret
  exact ⟨rfl, B2.out⟩

end Go.Proofs
