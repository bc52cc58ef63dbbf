/- The reference: Bits, Bit. -/
import Derived.Test.YtgdgdaofmjnepaaDoorLen
open Go.RowKit
namespace Go.Proofs
set_option linter.unusedVariables false

theorem bitlen_le_limbs (a : Nat) : bitlen a ≤ 32 * (limbs a).length := by
  refine bitlen_of_lt ?_
  rw [Nat.pow_mul]
  exact lt_pow_length a

theorem bitlen_half {x : Nat} (h : x ≠ 0) : bitlen x = bitlen (x / 2) + 1 := by
  have hs := bitlen_spec h
  by_cases h1 : x / 2 = 0
  · have : x = 1 := by omega
    subst this
    decide
  · have hs2 := bitlen_spec h1
    have hb2 : bitlen (x / 2) ≠ 0 := by
      intro e
      rw [e] at hs2
      simp at hs2
      omega
    refine bitlen_unique ?_ ?_
    · have h3 : 2 ^ (bitlen (x / 2)) = 2 * 2 ^ (bitlen (x / 2) - 1) := by
        rw [← Nat.pow_succ', Nat.succ_eq_add_one, show bitlen (x / 2) - 1 + 1 = bitlen (x / 2) by omega]
      rw [h3]
      omega
    · rw [Nat.pow_succ]
      omega

set_option maxRecDepth 100000 in
theorem rbits_calls (v : Value) (n : Nat) (w : World) (hv : Num w v n) (hb : (limbs n).length ≤ 400000000) :
    Calls Tryd.prog 105 #[v] w fun e w' => e = .returned (.int .i64 (bitlen n)) ∧ w = w' := by
  obtain ⟨ad, c, rfl, hs⟩ := hv
  have hc := hs.1
  have hcm := hs.2.1
  unfold maxLen at hcm
  by_cases h0 : n = 0
  · subst h0
    rw [limbs_zero]
    go_enter Tryd.func105, Tryd.ntmps105
    go_wp2
    go_ret
    exact ⟨rfl, rfl⟩
  · have hne : limbs n ≠ [] := fun e => h0 (limbs_eq_nil.1 e)
    have hlen : 0 < (limbs n).length := List.length_pos_iff.2 hne
    have e := bitlen_limbs h0
    obtain ⟨b, o, rfl, hbs, hcell, hfr⟩ := hs.open (i := (limbs n).length - 1) (by omega)
    have hx1 := hs.lt ((limbs n).length - 1)
    generalize (limbs n).getD ((limbs n).length - 1) 0 = t at *
    have hbt : bitlen t ≤ 32 := bitlen_of_lt (by omega)
    have t1 : (((limbs n).length : Int) == 0) = false := by simp; omega
    have He := Lib.hid e
    clear e hfr hs hne h0
    generalize limbs n = xs at *
    go_enter Tryd.func105, Tryd.ntmps105
    go_wp2_with fail
    go_loop [3, 4] (fun kv vv => ∃ k x : Nat, kv = .int .i64 k ∧ vv = .int .u32 x ∧ x < 4294967296 ∧ bitlen t = k + bitlen x) (fun _ vv => (intOf vv).toNat)
    case atStart => exact ⟨0, t, rfl, rfl, hx1, by omega⟩
    case round =>
      obtain ⟨k, x, rfl, rfl, hx, hk⟩ := hrel
      by_cases hx0 : x = 0
      · subst hx0
        have hkt : bitlen t = k := by rw [hk, bitlen_zero]; rfl
        have Hk := Lib.hid hkt
        have hk32 : k ≤ 32 := by omega
        clear hk hkt hbt
        go_wp2
        go_ret
        refine ⟨?_, rfl⟩
        rw [He.out, Hk.out]
        exact congrArg (fun z : Int => Ending.returned (.int .i64 z)) (by omega)
      · have hh := bitlen_half hx0
        have hk2 : bitlen t = k + 1 + bitlen (x / 2) := by omega
        have hk32 : k ≤ 32 := by omega
        have Hk := Lib.hid hk2
        have t2 : (0 : Int) < (x : Int) := by omega
        clear hk hk2 hh
        go_wp2
        go_round
        case rel => exact ⟨k + 1, x / 2, by go_num, congrArg (Value.int .u32) (by omega), by omega, Hk.out⟩
        case measure => simp [intOf]; omega

theorem limb_at : ∀ (k n : Nat), (limbs n).getD k 0 = n / 4294967296 ^ k % 4294967296 := by
  intro k
  induction k with
  | zero =>
    intro n
    by_cases h : n = 0
    · subst h; rw [limbs_zero]; rfl
    · rw [limbs_pos h]; simp
  | succ k ih =>
    intro n
    by_cases h : n = 0
    · subst h; rw [limbs_zero]; simp
    · rw [limbs_pos h]
      have := ih (n / 4294967296)
      rw [Nat.div_div_eq_div_mul, Nat.mul_comm, ← Nat.pow_succ] at this
      simpa [List.getD] using this

theorem mod_bit (x r : Nat) (hr : r < 32) : x % 4294967296 / 2 ^ r % 2 = x / 2 ^ r % 2 := by
  have e : (4294967296 : Nat) = 2 ^ r * (2 * 2 ^ (31 - r)) := by
    rw [← Nat.pow_succ', ← Nat.pow_add, show r + (31 - r).succ = 32 by omega]
  have h := Nat.div_add_mod x 4294967296
  generalize x % 4294967296 = s at *
  generalize x / 4294967296 = q at *
  rw [← h, e, Nat.mul_assoc, Nat.mul_add_div (Nat.two_pow_pos r), Nat.mul_assoc, Nat.mul_add_mod]

theorem limb_bit (n i : Nat) : (limbs n).getD (i / 32) 0 / 2 ^ (i % 32) % 2 = n / 2 ^ i % 2 := by
  rw [limb_at, mod_bit _ _ (Nat.mod_lt _ (by omega)), Nat.div_div_eq_div_mul]
  have e : (4294967296 : Nat) ^ (i / 32) * 2 ^ (i % 32) = 2 ^ i := by
    rw [show (4294967296 : Nat) = 2 ^ 32 by rfl, ← Nat.pow_mul, ← Nat.pow_add]
    congr 1
    omega
  rw [e]

set_option maxRecDepth 100000 in
theorem rbit_calls (v : Value) (n i : Nat) (z : Int) (w : World) (hv : Num w v n) (hz : z = (i : Int)) (hi : i < 9223372036854775808) :
    Calls Tryd.prog 113 #[v, .int .i64 z] w fun e w' => e = .returned (.int .u32 ((n / 2 ^ i % 2 : Nat) : Int)) ∧ w = w' := by
  subst hz
  have hlb := limb_bit n i
  obtain ⟨bt, ebt⟩ : ∃ b, n / 2 ^ i % 2 = b := ⟨_, rfl⟩
  rw [ebt] at hlb ⊢
  clear ebt
  obtain ⟨ad, c, rfl, hs⟩ := hv
  have hc := hs.1
  have hcm := hs.2.1
  unfold maxLen at hcm
  by_cases hl : i / 32 < (limbs n).length
  · obtain ⟨b, o, rfl, hbs, hcell, hfr⟩ := hs.open hl
    have hx1 := hs.lt (i / 32)
    generalize (limbs n).getD (i / 32) 0 = t at *
    have Hlb := Lib.hid hlb
    have k1 : ((i : Int) / 32).toNat = i / 32 := by omega
    clear hlb hfr
    generalize limbs n = xs at *
    go_enter Tryd.func113, Tryd.ntmps113
    go_wp2_with fail
    go_loop [5, 6] (fun vv kv => ∃ k x : Nat, kv = .int .i64 k ∧ vv = .int .u32 x ∧ k ≤ i % 32 ∧ x < 4294967296 ∧ x = t / 2 ^ k) (fun _ kv => i % 32 - (intOf kv).toNat)
    case atStart => exact ⟨0, t, rfl, rfl, Nat.zero_le _, hx1, by simp⟩
    case round =>
      obtain ⟨k, x, rfl, rfl, hk, hx, hxe⟩ := hrel
      have Hxe := Lib.hid hxe
      clear hxe
      by_cases hlt : k < i % 32
      · have t2 : (k : Int) < (i : Int) % 32 := by omega
        go_wp2
        go_round
        case rel => exact ⟨k + 1, x / 2, by go_num, congrArg (Value.int .u32) (by omega), by omega, by omega, by rw [Hxe.out, Nat.pow_succ, Nat.div_div_eq_div_mul]⟩
        case measure => simp [intOf]; omega
      · have t2 : ¬ (k : Int) < (i : Int) % 32 := by omega
        have hres : x % 2 = bt := by rw [Hxe.out, ← Hlb.out, show k = i % 32 by omega]
        have Hres := Lib.hid hres
        clear hres
        go_wp2
        go_ret
        refine ⟨?_, rfl⟩
        rw [← Hres.out]
        exact congrArg (fun z : Int => Ending.returned (.int .u32 z)) (by omega)
  · have e : bt = 0 := by
      rw [← hlb]
      simp [List.getD, show (limbs n).length ≤ i / 32 by omega]
    have E := Lib.hid e
    have t1 : ((limbs n).length : Int) ≤ (i : Int) / 32 := by omega
    clear e hlb
    go_enter Tryd.func113, Tryd.ntmps113
    go_wp2
    go_ret
    exact ⟨by rw [E.out]; rfl, rfl⟩

end Go.Proofs
