/- the law's 'lives' of layer 4. -/
import Derived.Test.YtmnalmmffphnpaaDoorCoils2
import Derived.Test.YtmnalmmffphnpaaDoorNatA
open Go.RowKit Go.Deep
namespace Go.Proofs
set_option linter.unusedVariables false
set_option linter.unusedSimpArgs false

/-- true, and nothing that was there is changed -/
def RetTrue (w : World) (e : Ending) (w' : World) : Prop := e = .returned (.bool true) ∧ Below w.heap.size w w'

set_option maxRecDepth 100000 in
theorem same_ints (b1 b2 n c1 c2 : Nat) (ns : List Nat) (w : World) (hn : n = ns.length) (hl : ns.length ≤ 100000) (h1 : CellI w b1 ns) (h2 : CellI w b2 ns) :
    Calls Tryd.prog 28 #[.slice (some ⟨b1, 0, none⟩) n c1, .slice (some ⟨b2, 0, none⟩) n c2] w (RetTrue w) := by
  have HN := Lib.hid hn
  have hn5 : n ≤ 100000 := by omega
  clear hn
  have t0 : ((n : Int) != (n : Int)) = false := by simp
  go_enter Tryd.func28, Tryd.ntmps28
  go_wp2
  go_loopw [5] (fun iv wr => ∃ i : Nat, i ≤ n ∧ iv = .int .i64 i ∧ CellI wr b1 ns ∧ CellI wr b2 ns ∧ Below w.heap.size w wr) (fun iv _ => n - (intOf iv).toNat)
  case atStart => exact ⟨0, by omega, rfl, h1, h2, Below.refl _ _⟩
  case round =>
    obtain ⟨i, hi, rfl, k1, k2, hb⟩ := hrel
    by_cases hlt : i < n
    · have a1 := (k1.2 i (by have := HN.out; omega)).1
      have a2 := (k2.2 i (by have := HN.out; omega)).1
      have t1 : (i : Int) < (n : Int) := by omega
      generalize ns.getD i 0 = x at *
      go_wp2_with fail
      go_quiet (fail)
      have bq := below_drewN' wr nq
      replace k1 := k1.mono bq
      replace k2 := k2.mono bq
      replace hb := below_trans hb bq
      clear a1 a2 bq
      go_wp2
      go_roundw
      case rel => exact ⟨i + 1, by omega, by go_num, k1, k2, hb⟩
      case measure => simp [intOf]; omega
    · obtain rfl : i = n := by omega
      have t1 : ¬ (i : Int) < (i : Int) := by omega
      clear hlt
      go_wp2
      go_ret
      exact ⟨rfl, hb⟩

theorem tension_lives (w : World) : Calls Tryd.prog 26 #[.int .i64 7800, .int .i64 300, .int .i64 3000, .int .i64 440000] w fun e w' => e = .returned (.tuple #[.int .i64 38426, .int .i64 0]) ∧ Below w.heap.size w w' := by
  have h := tension_in 7800 300 3000 440000 w (by omega) (by omega) (by omega) (by omega)
  rw [show pullN 7800 300 3000 440000 = 38426 from by decide] at h
  exact h

theorem vals_ints {w : World} {g : Nat} {vs : List Value} {ns : List Nat} (h : Vals w g vs) (hv : vs = ns.map fun (n : Nat) => Value.int .i64 (n : Int)) : CellI w g ns := by
  subst hv
  refine ⟨h.lt, fun i hi => ⟨?_, h.frozen i⟩⟩
  rw [h.cell (by simpa using hi)]
  simp [List.getD, hi]

set_option maxRecDepth 100000 in
theorem lives_calls (w : World) : Calls Tryd.prog 10 #[] w (RetTrue w) := by
  go_enter Tryd.func10, Tryd.ntmps10
  go_wp2_with fail
  refine (tension_lives w).mono ?_
  rintro e w1 ⟨rfl, b1⟩
  have hp := cellI_new w1 P4 #[.int .i64 6, .int .i64 4, .int .i64 5, .int .i64 5] 3 rfl
  have b2 := below_trans b1 (below_alloc w1 (.cells #[.int .i64 6, .int .i64 4, .int .i64 5, .int .i64 5] 3))
  clear b1
  go_wp2_with fail
  refine (coils4 w1.heap.size 4 _ hp).mono ?_
  rintro e w2 ⟨g, rfl, hg, vg, b3⟩
  replace b3 := below_trans b2 b3
  have hn := cellI_new w2 [0, 0, 1, 1] #[.int .i64 0, .int .i64 0, .int .i64 1, .int .i64 1] 3 rfl
  have b4 := below_alloc w2 (.cells #[.int .i64 0, .int .i64 0, .int .i64 1, .int .i64 1] 3)
  have hg4 := (vals_ints (ns := [0, 0, 1, 1]) vg rfl).mono b4
  replace b4 := below_trans b3 b4
  clear b2 b3 vg hp
  go_wp2_with fail
  refine (same_ints g w2.heap.size 4 4 4 [0, 0, 1, 1] _ rfl (by simp) hg4 hn).mono ?_
  rintro e w3 ⟨rfl, b5⟩
  go_wp2
  go_ret
  exact ⟨rfl, below_trans b4 b5⟩

end Go.Proofs
