/- nat.raise: a power. -/
import Derived.Test.YtgdgdaofmjnepaaDoorTimes
open Go.RowKit
namespace Go.Proofs
set_option linter.unusedVariables false

set_option maxRecDepth 100000 in
theorem raise_calls (v : Value) (m n : Nat) (z : Int) (w : World) (hv : Num w v m) (hz : z = (n : Int)) (hb : (limbs m).length * n ≤ 400000000) (hl : (limbs m).length ≤ 400000000) (hn : n ≤ 1000000000) :
    Calls Tryd.prog 123 #[v, .int .i64 z] w (RetNum w (m ^ n)) := by
  subst hz
  have h1 := num_one w 102
  have hb1 := below_alloc w (.cells #[Value.int .u32 1] 102)
  go_enter Tryd.func123, Tryd.ntmps123
  go_wp2_with fail
  obtain ⟨w1, hw1⟩ : ∃ w1 : World, w1 = w.alloc (.cells #[Value.int .u32 1] 102) := ⟨_, rfl⟩
  rw [← hw1] at h1 hb1 ⊢
  have hv1 := hv.mono hb1
  clear hw1
  go_loopw [0, 1, 5] (fun av nv ov wr => ∃ (j t k : Nat), nv = .int .i64 k ∧ j + t * k = n ∧ (1 ≤ k → t ≤ n) ∧ Num wr av (m ^ t) ∧ Num wr ov (m ^ j) ∧ Fresh w.heap.size ov ∧ Below w.heap.size w wr ∧ k ≤ n)
    (fun _ nv _ _ => (intOf nv).toNat)
  case atStart => exact ⟨0, 1, n, rfl, by omega, fun h => h, by rw [Nat.pow_one]; exact hv1, by rw [Nat.pow_zero]; exact h1, Nat.le_refl _, hb1, Nat.le_refl _⟩
  case round =>
    obtain ⟨j, t, k, rfl, hjt, htn, hav, hov, hfr, hbel, hkn⟩ := hrel
    have Hjt := Lib.hid hjt
    have Htn := Lib.hid htn
    clear hjt htn
    by_cases h0 : 0 < k
    · have htn := Htn.out h0
      have hjn : j ≤ n := by have := Hjt.out; omega
      have lt1 : (limbs (m ^ t)).length ≤ 1000000000 := by
        have h1 := limbs_length_pow m t
        have h2 := Nat.mul_le_mul_left (limbs m).length htn
        omega
      have lj1 : (limbs (m ^ j)).length ≤ 1000000000 := by
        have h1 := limbs_length_pow m j
        have h2 := Nat.mul_le_mul_left (limbs m).length hjn
        omega
      have e1 := and_one_i64 k (by omega)
      have hk2 : (k : Int) / 2 = ((k / 2 : Nat) : Int) := by omega
      have hdm := Nat.div_add_mod k 2
      have hmp : m ^ t * m ^ t = m ^ (2 * t) := by rw [← Nat.pow_add, Nat.two_mul]
      have hop : m ^ j * m ^ t = m ^ (j + t) := by rw [← Nat.pow_add]
      have Hmp := Lib.hid hmp
      have Hop := Lib.hid hop
      have Hk2 := Lib.hid hk2
      clear hmp hop hk2 htn
      rcases Nat.mod_two_eq_zero_or_one k with hpar | hpar
      · rw [hpar] at e1
        have hk1 : 1 < k := by omega
        have hrel : j + 2 * t * (k / 2) = n := by rw [← Hjt.out, Nat.mul_comm 2 t, Nat.mul_assoc, show 2 * (k / 2) = k by omega]
        have htn2 : 2 * t ≤ n := by
          have := Nat.le_mul_of_pos_right (2 * t) (show 0 < k / 2 by omega)
          omega
        have Hrel := Lib.hid hrel
        clear hrel hpar hdm
        go_wp2_with (go_at_call 118; refine (times_calls _ _ _ _ _ hav hav lt1 lt1).mono ?_; rintro e w2 ⟨v2, rfl, hv2, hf2, hb2⟩)
        go_roundw
        case rel => exact ⟨j, 2 * t, k / 2, congrArg (Value.int .i64) (by omega), Hrel.out, fun _ => htn2, by rw [← Hmp.out]; exact hv2, hov.mono hb2, hfr, below_trans hbel hb2, by omega⟩
        case measure => simp [intOf]; omega
      · rw [hpar] at e1
        by_cases hk1 : 1 < k
        · have hrel : j + t + 2 * t * (k / 2) = n := by
            rw [← Hjt.out, Nat.mul_comm 2 t, Nat.mul_assoc, Nat.add_assoc]
            congr 1
            have : t * k = t * (2 * (k / 2) + 1) := by congr 1; omega
            rw [this, Nat.mul_add]; omega
          have htn2 : 2 * t ≤ n := by
            have := Nat.le_mul_of_pos_right (2 * t) (show 0 < k / 2 by omega)
            omega
          have Hrel := Lib.hid hrel
          clear hrel hpar hdm
          go_wp2_with fail
          refine (times_calls _ _ _ _ _ hov hav lj1 lt1).mono ?_
          rintro e w2 ⟨v2, rfl, hv2, hf2, hb2⟩
          have hav2 := hav.mono hb2
          go_wp2_with fail
          refine (times_calls _ _ _ _ _ hav2 hav2 lt1 lt1).mono ?_
          rintro e w3 ⟨v3, rfl, hv3, hf3, hb3⟩
          go_wp2
          go_roundw
          case rel => exact ⟨j + t, 2 * t, k / 2, congrArg (Value.int .i64) (by omega), Hrel.out, fun _ => htn2, by rw [← Hmp.out]; exact hv3, by rw [← Hop.out]; exact hv2.mono hb3, hf2.mono hbel.size, below_trans (below_trans hbel hb2) hb3, by omega⟩
          case measure => simp [intOf]; omega
        · obtain rfl : k = 1 := by omega
          have hrel : j + t + t * 0 = n := by rw [← Hjt.out]; omega
          have Hrel := Lib.hid hrel
          clear hrel hpar hdm
          go_wp2_with (go_at_call 118; refine (times_calls _ _ _ _ _ hov hav lj1 lt1).mono ?_; rintro e w2 ⟨v2, rfl, hv2, hf2, hb2⟩)
          go_roundw
          case rel => exact ⟨j + t, t, 0, rfl, Hrel.out, fun h => (Nat.not_lt_zero 0 h).elim, hav.mono hb2, by rw [← Hop.out]; exact hv2, hf2.mono hbel.size, below_trans hbel hb2, by omega⟩
          case measure => simp [intOf]
    · obtain rfl : k = 0 := by omega
      have hj : j = n := by have := Hjt.out; omega
      have Hj := Lib.hid hj
      clear hj
      go_wp2
      go_ret
      rw [Hj.out] at hov
      exact ⟨_, rfl, hov, hfr, hbel⟩

end Go.Proofs
