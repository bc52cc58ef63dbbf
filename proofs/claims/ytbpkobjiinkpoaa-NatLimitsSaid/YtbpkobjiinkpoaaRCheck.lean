/- The reference: Check, Both, Same; and what the law's is and cut return. -/
import Derived.Test.YtbpkobjiinkpoaaGrow
import Derived.Test.YtbpkobjiinkpoaaNatA
open Go.RowKit
namespace Go.Proofs
set_option linter.unusedVariables false
set_option linter.unusedSimpArgs false

theorem last_getD (xs : List Nat) (h : 0 < xs.length) : xs.getLast? = some (xs.getD (xs.length - 1) 0) := by
  rw [List.getLast?_eq_getElem?]
  simp [List.getD, show xs.length - 1 < xs.length by omega]

theorem rcheck_calls (v : Value) (xs : List Nat) (w : World) (hv : Raw w v xs) :
    Calls Try.prog 8 #[v] w fun e w' => e = .returned (.int .i64 (chk xs)) ∧ w = w' := by
  obtain ⟨ad, c, rfl, hs⟩ := hv
  have hc := hs.1
  have hcm := hs.2.1
  unfold maxLen at hcm
  by_cases hl : 262144 < xs.length
  · have e : chk xs = 3 := by unfold chk; rw [if_pos hl]
    rw [e]
    clear e
    go_enter Try.func8, Try.ntmps8
    go_wp2
    go_ret
    exact ⟨rfl, rfl⟩
  · by_cases h0 : 0 < xs.length
    · obtain ⟨b, o, rfl, hbs, hcell, hfr⟩ := hs.open (i := xs.length - 1) (by omega)
      have hlast := last_getD xs h0
      obtain ⟨x, ex⟩ : ∃ x, xs.getD (xs.length - 1) 0 = x := ⟨_, rfl⟩
      rw [ex] at hcell hlast
      have t0 : (0 : Int) < (xs.length : Int) := by omega
      by_cases hx : x = 0
      · subst hx
        have e : chk xs = 2 := by unfold chk; rw [if_neg hl, if_pos hlast]
        rw [e]
        clear e hlast ex
        go_enter Try.func8, Try.ntmps8
        go_wp2
        go_ret
        exact ⟨rfl, rfl⟩
      · have e : chk xs = 0 := by unfold chk; rw [if_neg hl, if_neg (by rw [hlast]; intro h; cases h; exact hx rfl)]
        have t1 : ((x : Int) == 0) = false := by rw [beq_eq_false_iff_ne]; omega
        rw [e]
        clear e hlast ex
        go_enter Try.func8, Try.ntmps8
        go_wp2
        go_ret
        exact ⟨rfl, rfl⟩
    · have hx : xs = [] := List.eq_nil_of_length_eq_zero (by omega)
      subst hx
      have e : chk [] = 0 := rfl
      rw [e]
      clear e
      go_enter Try.func8, Try.ntmps8
      go_wp2
      go_ret
      exact ⟨rfl, rfl⟩

set_option maxRecDepth 100000 in
/-- Same, of two slices that hold the same -/
theorem same_calls (v1 v2 : Value) (xs : List Nat) (w : World) (h1 : Raw w v1 xs) (h2 : Raw w v2 xs) :
    Calls Try.prog 11 #[v1, v2] w fun e w' => e = .returned (.bool true) ∧ Below w.heap.size w w' := by
  obtain ⟨ad1, c1, rfl, s1⟩ := h1
  obtain ⟨ad2, c2, rfl, s2⟩ := h2
  have hc := s1.1
  have hcm := s1.2.1
  unfold maxLen at hcm
  go_enter Try.func11, Try.ntmps11
  go_wp2
  go_loopw [5] (fun iv wr => ∃ i : Nat, i ≤ xs.length ∧ iv = .int .i64 i ∧ Below w.heap.size w wr) (fun iv _ => xs.length - (intOf iv).toNat)
  case atStart => exact ⟨0, Nat.zero_le _, rfl, Below.refl _ _⟩
  case round =>
    obtain ⟨i, hi, rfl, hbel⟩ := hrel
    by_cases hlt : i < xs.length
    · obtain ⟨b1, o1, rfl, hb1, hcell1, _⟩ := s1.open hlt
      obtain ⟨b2, o2, rfl, hb2, hcell2, _⟩ := s2.open hlt
      obtain ⟨x, ex⟩ : ∃ x, xs.getD i 0 = x := ⟨_, rfl⟩
      rw [ex] at hcell1 hcell2
      have hcell1' := (hbel.cell (p := ⟨b1, o1 + i, none⟩) hb1).trans hcell1
      have hcell2' := (hbel.cell (p := ⟨b2, o2 + i, none⟩) hb2).trans hcell2
      clear hcell1 hcell2 ex
      have q1 : ((x : Int) != (x : Int)) = false := bne_self_eq_false _
      go_wp2_with (go_quiet (fail))
      go_roundw
      case rel => exact ⟨i + 1, by omega, by go_num, below_drewN hbel _⟩
      case measure => simp [intOf]; omega
    · obtain rfl : i = xs.length := by omega
      go_wp2
      go_ret
      exact ⟨rfl, hbel⟩

end Go.Proofs
