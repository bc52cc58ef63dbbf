/- math/bits.Len32, LeadingZeros32; nat.length (the walk of Len32 is turned from the kit's worked text on bits.Len32). -/
import Derived.Test.YtgdgdaofmjnepaaDoorBits
import Derived.Lib.BitFns
import Derived.Lib.Strings
import Derived.Lib.Slices
import Derived.Lib.Small
import Derived.Lib.Walk
open Go.RowKit
namespace Go.Proofs
set_option linter.unusedVariables false

theorem len8_get (b : Int) (h0 : 0 ≤ b) (h1 : b ≤ 255) (h : b.toNat < Lib.len8tab.size) : (((Lib.len8tab[b.toNat]'h).toNat : Nat) : Int) = Lib.bitLen b.toNat := by
  rw [← Lib.len8_of b h0 h1]
  unfold Lib.len8
  simp [h]

theorem wrap_two (a b : Int) (h0 : 0 ≤ a) (h1 : a ≤ 255) (h2 : 0 ≤ b) (h3 : b ≤ 255) : wrap64 (a + wrap64 b) = a + b := by
  rw [IntWalk.wrap64_in b ⟨by omega, by omega⟩, IntWalk.wrap64_in _ ⟨by omega, by omega⟩]

set_option maxHeartbeats 4000000 in
set_option maxRecDepth 100000 in
theorem len32_calls (x : Int) (w : World) (h0 : 0 ≤ x) (h1 : x ≤ 4294967295) :
    Calls Tryd.prog 109 #[.int .u32 x] w fun e w' => e = .returned (.int .i64 (Lib.bitLen x.toNat)) ∧ w = w' := by
  have hsz := Lib.len8tab_size
  go_enter Tryd.func109, Tryd.ntmps109
  go_wp2
  all_goals (go_ret; refine ⟨congrArg Ending.returned (congrArg (Value.int IntKind.i64) ?_), rfl⟩)
  · have l := Lib.bitLen_le8' (x / 65536 / 256) (by omega) (by omega)
    have s := Lib.bitLen_shift24 x.toNat (by omega) (by omega)
    have e : (x / 65536 / 256).toNat = x.toNat / 16777216 := by omega
    rw [len8_get _ (by omega) (by omega), wrap_two _ _ (by omega) (by omega) (by omega) (by omega)]
    rw [e] at l ⊢
    omega
  · have l := Lib.bitLen_le8' (x / 65536) (by omega) (by omega)
    have s := Lib.bitLen_shift16 x.toNat (by omega) (by omega)
    have e : (x / 65536).toNat = x.toNat / 65536 := by omega
    rw [len8_get _ (by omega) (by omega), wrap_two _ _ (by omega) (by omega) (by omega) (by omega)]
    rw [e] at l ⊢
    omega
  · have l := Lib.bitLen_le8' (x / 256) (by omega) (by omega)
    have s := Lib.bitLen_shift8 x.toNat (by omega) (by omega)
    have e : (x / 256).toNat = x.toNat / 256 := by omega
    rw [len8_get _ (by omega) (by omega), wrap_two _ _ (by omega) (by omega) (by omega) (by omega)]
    rw [e] at l ⊢
    omega
  · have l := Lib.bitLen_le8' x (by omega) (by omega)
    have := wrap_two 0 (Lib.bitLen x.toNat) (by omega) (by omega) (by omega) (by omega)
    rw [len8_get _ (by omega) (by omega)]
    simpa using this

/-- the number of binary digits -/
def bitlen (n : Nat) : Nat := if n = 0 then 0 else n.log2 + 1

theorem bitlen_spec {n : Nat} (h : n ≠ 0) : 2 ^ (bitlen n - 1) ≤ n ∧ n < 2 ^ bitlen n := by
  unfold bitlen
  rw [if_neg h]
  exact ⟨Nat.log2_self_le h, Nat.lt_log2_self⟩

theorem bitlen_unique {n k : Nat} (h1 : 2 ^ k ≤ n) (h2 : n < 2 ^ (k + 1)) : bitlen n = k + 1 := by
  have h0 : n ≠ 0 := by have := Nat.two_pow_pos k; omega
  unfold bitlen
  rw [if_neg h0, (Nat.log2_eq_iff h0).2 ⟨h1, h2⟩]

theorem bitlen_zero : bitlen 0 = 0 := rfl

theorem bitlen_of_lt {n k : Nat} (h : n < 2 ^ k) : bitlen n ≤ k := by
  by_cases h0 : n = 0
  · subst h0; exact Nat.zero_le _
  · have h1 := (bitlen_spec h0).1
    have : 2 ^ (bitlen n - 1) < 2 ^ k := Nat.lt_of_le_of_lt h1 h
    have := (Nat.pow_lt_pow_iff_right (by omega : 1 < 2)).1 this
    omega

theorem lib_bitlen (x : Nat) (h : x < 2 ^ 64) : Lib.bitLen x = bitlen x := by
  have key : ∀ k x : Nat, x < 2 ^ k → k ≤ 64 → Lib.bitLen x = bitlen x := by
    intro k
    induction k with
    | zero => intro x hx _; obtain rfl : x = 0 := by simpa using hx
              rfl
    | succ k ih =>
      intro x hx hk
      by_cases h0 : x = 0
      · subst h0; rfl
      · have hp : (2 : Nat) ^ (k + 1) ≤ 2 ^ 64 := Nat.pow_le_pow_right (by omega) hk
        rw [Lib.bitLen_half x h0 (by omega), ih (x / 2) (by rw [Nat.pow_succ] at hx; omega) (by omega)]
        by_cases h1 : x = 1
        · subst h1; decide
        · have h2 := bitlen_spec (n := x / 2) (by omega)
          have h3 : bitlen (x / 2) ≠ 0 := by
            intro e; rw [e] at h2; omega
          obtain ⟨j, hj⟩ : ∃ j, bitlen (x / 2) = j + 1 := ⟨bitlen (x / 2) - 1, by omega⟩
          rw [hj] at h2 ⊢
          rw [bitlen_unique (n := x) (k := j + 1)]
          · omega
          · rw [Nat.pow_succ]; have := h2.1; simp at this; omega
          · rw [Nat.pow_succ]; omega
  exact key 64 x h (Nat.le_refl _)


theorem lz32_calls (x : Int) (w : World) (h0 : 0 ≤ x) (h1 : x ≤ 4294967295) :
    Calls Tryd.prog 140 #[.int .u32 x] w fun e w' => e = .returned (.int .i64 (32 - (bitlen x.toNat : Int))) ∧ w = w' := by
  have hb : bitlen x.toNat ≤ 32 := bitlen_of_lt (by omega)
  have hl := lib_bitlen x.toNat (by omega)
  go_enter Tryd.func140, Tryd.ntmps140
  have HL := Lib.hid hl
  clear hl
  go_wp2_with (go_at_call 109; refine (len32_calls x _ h0 h1).mono ?_; rw [HL.out]; rintro e w' ⟨rfl, rfl⟩)
  go_ret
  exact ⟨rfl, rfl⟩

theorem bitlen_limbs {n : Nat} (h : n ≠ 0) : bitlen n = 32 * ((limbs n).length - 1) + bitlen ((limbs n).getD ((limbs n).length - 1) 0) := by
  obtain ⟨lo, e, hlo, ht⟩ := limbs_top h
  generalize (limbs n).getD ((limbs n).length - 1) 0 = t at *
  generalize (limbs n).length - 1 = k at *
  have hs := bitlen_spec ht
  have hb : bitlen t ≠ 0 := by intro e; rw [e] at hs; simp at hs; omega
  obtain ⟨j, hj⟩ : ∃ j, bitlen t = j + 1 := ⟨bitlen t - 1, by omega⟩
  rw [hj] at hs ⊢
  simp only [Nat.add_sub_cancel] at hs
  have hp : (4294967296 : Nat) ^ k = 2 ^ (32 * k) := by rw [Nat.pow_mul]
  rw [hp] at e hlo
  have hpos := Nat.two_pow_pos (32 * k)
  refine bitlen_unique (k := 32 * k + j) ?_ ?_
  · rw [Nat.pow_add, e]
    have := Nat.mul_le_mul_left (2 ^ (32 * k)) hs.1
    omega
  · rw [show 32 * k + j + 1 = 32 * k + (j + 1) by omega, Nat.pow_add, e]
    have : 2 ^ (32 * k) * (t + 1) ≤ 2 ^ (32 * k) * 2 ^ (j + 1) := Nat.mul_le_mul_left _ hs.2
    rw [Nat.mul_add, Nat.mul_one] at this
    omega

/-- nat.length returns the number of binary digits. -/
theorem length_calls (v : Value) (n : Nat) (w : World) (hv : Num w v n) (hb : (limbs n).length ≤ 4000000000) :
    Calls Tryd.prog 121 #[v] w fun e w' => e = .returned (.int .i64 (bitlen n)) ∧ w = w' := by
  obtain ⟨ad, c, rfl, hs⟩ := hv
  by_cases h0 : n = 0
  · subst h0
    rw [limbs_zero]
    go_enter Tryd.func121, Tryd.ntmps121
    go_wp2
    go_ret
    exact ⟨rfl, rfl⟩
  · have hne : limbs n ≠ [] := fun e => h0 (limbs_eq_nil.1 e)
    have hlen : 0 < (limbs n).length := List.length_pos_iff.2 hne
    have e := bitlen_limbs h0
    obtain ⟨b, o, rfl, hbs, hcell, hfr⟩ := hs.open (i := (limbs n).length - 1) (by omega)
    have hx1 := hs.lt ((limbs n).length - 1)
    generalize (limbs n).getD ((limbs n).length - 1) 0 = t at *
    have hbt : bitlen t ≤ 32 := bitlen_of_lt (by omega)
    have hl := lib_bitlen t (by omega)
    have t1 : (((limbs n).length : Int) == 0) = false := by simp; omega
    have He := Lib.hid e
    have HL := Lib.hid hl
    clear e hl hfr hs hne h0
    generalize limbs n = xs at *
    go_enter Tryd.func121, Tryd.ntmps121
    go_wp2_with (go_at_call 109; refine (len32_calls t _ (by omega) (by omega)).mono ?_; rw [Int.toNat_natCast, HL.out]; rintro e w' ⟨rfl, rfl⟩)
    go_ret
    refine ⟨?_, rfl⟩
    rw [He.out]
    exact congrArg (fun z : Int => Ending.returned (.int .i64 z)) (by omega)

end Go.Proofs
