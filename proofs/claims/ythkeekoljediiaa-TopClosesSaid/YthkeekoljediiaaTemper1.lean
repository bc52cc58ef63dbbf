/- temper: what TopEqual needs of within, right, Closes, fifth, stepped. -/
import Derived.Test.YthkeekoljediiaaTone4
import Derived.Test.YthkeekoljediiaaTone9
open Go.RowKit Go.Deep
namespace Go.Proofs
set_option linter.unusedVariables false
set_option linter.unusedSimpArgs false

/-- twelve equal integers that can be read -/
def Twelve (w : World) (b : Nat) (s : Int) : Prop := ∀ i, i < 12 → w.cell? ⟨b, i, none⟩ = some (.int .i64 s)
theorem Twelve.lt {w : World} {b : Nat} {s : Int} (h : Twelve w b s) : b < w.heap.size := by
  have h0 := h 0 (by omega)
  by_cases hb : b < w.heap.size
  · exact hb
  · have e : w.heap[b]? = none := by simp; omega
    simp [World.cell?, e] at h0
theorem Twelve.mono {w w' : World} {b : Nat} {s : Int} (h : Twelve w b s) (hb : Below w.heap.size w w') : Twelve w' b s :=
  fun i hi => (hb.cell (p := ⟨b, i, none⟩) h.lt).trans (h i hi)
theorem Twelve.drew {w : World} {b : Nat} {s : Int} (h : Twelve w b s) : Twelve w.drew b s := h

theorem within_calls (n lo hi : Int) (w : World) (h1 : lo ≤ n) (h2 : n ≤ hi) : Calls Try.prog 38 #[.int .i64 n, .int .i64 lo, .int .i64 hi] w fun e w' => e = .returned (.bool true) ∧ w = w' := by
  go_enter Try.func38, Try.ntmps38
  go_wp2
  go_ret
  exact ⟨rfl, rfl⟩

set_option maxRecDepth 100000 in
theorem right_calls (s : Int) (b : Nat) (w : World) (h1 : -12 ≤ s) (h2 : s ≤ 12) (hv : Twelve w b s) : Calls Try.prog 22 #[.slice (some ⟨b, 0, none⟩) 12 12, .int .i64 12] w fun e w' => e = .returned (.bool true) ∧ w = w' := by
  have HW := Lib.hid (fun w : World => within_calls s (-12) 12 w h1 h2)
  have HW2 := Lib.hid (fun w : World => within_calls 12 1 24 w (by omega) (by omega))
  clear h1 h2
  go_enter Try.func22, Try.ntmps22
  go_wp2
  go_loopw [9] (fun iv wr => ∃ i : Nat, i ≤ 12 ∧ iv = .int .i64 (i : Int) ∧ wr = w) (fun iv _ => (12 - intOf iv).toNat)
  case atStart => exact ⟨0, by omega, rfl, rfl⟩
  case round =>
    obtain ⟨i, hi, rfl, rfl⟩ := hrel
    by_cases h12 : i < 12
    · have t1 : (i : Int) < 12 := by omega
      have ce := hv i h12
      go_wp2_with fail
      refine (HW.out _).mono ?_
      rintro e w' ⟨rfl, rfl⟩
      go_wp2
      go_roundw
      case rel => exact ⟨i + 1, by omega, by go_num, trivial⟩
      case measure => simp [intOf]; omega
    · obtain rfl : i = 12 := by omega
      go_wp2_with fail
      refine (HW2.out _).mono ?_
      rintro e w' ⟨rfl, rfl⟩
      go_wp2_with fail
      refine (HW2.out _).mono ?_
      rintro e w' ⟨rfl, rfl⟩
      go_wp2
      go_ret
      exact ⟨rfl, rfl⟩

set_option maxRecDepth 100000 in
theorem closes_1 (b : Nat) (w : World) (hv : Twelve w b 1) : Calls Try.prog 8 #[.slice (some ⟨b, 0, none⟩) 12 12, .int .i64 12] w fun e w' => e = .returned (.tuple #[.bool true, .int .i64 0]) ∧ w = w' := by
  have HR := Lib.hid (right_calls 1 b w (by omega) (by omega) hv)
  go_enter Try.func8, Try.ntmps8
  go_wp2_with fail
  refine HR.out.mono ?_
  rintro e w' ⟨rfl, rfl⟩
  go_wp2
  go_loopw [6, 7, 16] (fun av bv iv wr => ∃ i : Nat, i ≤ 12 ∧ iv = .int .i64 (i : Int) ∧ av = .int .i64 (7 * (i : Int)) ∧ bv = .int .i64 (0 * (i : Int)) ∧ wr = w) (fun _ _ iv _ => (12 - intOf iv).toNat)
  case atStart => exact ⟨0, by omega, rfl, rfl, rfl, rfl⟩
  case round =>
    obtain ⟨i, hi, rfl, rfl, rfl, rfl⟩ := hrel
    by_cases h12 : i < 12
    · have t1 : (i : Int) < 12 := by omega
      have ce := hv i h12
      go_wp2
      go_roundw
      case rel => exact ⟨i + 1, by omega, by go_num, by go_num, by go_num, trivial⟩
      case measure => simp [intOf]; omega
    · obtain rfl : i = 12 := by omega
      go_wp2
      go_ret2
      exact ⟨rfl, rfl⟩

set_option maxRecDepth 100000 in
theorem closes_0 (b : Nat) (w : World) (hv : Twelve w b 0) : Calls Try.prog 8 #[.slice (some ⟨b, 0, none⟩) 12 12, .int .i64 12] w fun e w' => e = .returned (.tuple #[.bool false, .int .i64 0]) ∧ w = w' := by
  have HR := Lib.hid (right_calls 0 b w (by omega) (by omega) hv)
  go_enter Try.func8, Try.ntmps8
  go_wp2_with fail
  refine HR.out.mono ?_
  rintro e w' ⟨rfl, rfl⟩
  go_wp2
  go_loopw [6, 7, 16] (fun av bv iv wr => ∃ i : Nat, i ≤ 12 ∧ iv = .int .i64 (i : Int) ∧ av = .int .i64 (-12 * (i : Int)) ∧ bv = .int .i64 (12 * (i : Int)) ∧ wr = w) (fun _ _ iv _ => (12 - intOf iv).toNat)
  case atStart => exact ⟨0, by omega, rfl, rfl, rfl, rfl⟩
  case round =>
    obtain ⟨i, hi, rfl, rfl, rfl, rfl⟩ := hrel
    by_cases h12 : i < 12
    · have t1 : (i : Int) < 12 := by omega
      have ce := hv i h12
      go_wp2
      go_roundw
      case rel => exact ⟨i + 1, by omega, by go_num, by go_num, by go_num, trivial⟩
      case measure => simp [intOf]; omega
    · obtain rfl : i = 12 := by omega
      go_wp2
      go_ret2
      exact ⟨rfl, rfl⟩

end Go.Proofs
