/- tone: floor. -/
import Derived.Test.YtgdgdaofmjnepaaDoorTone5
open Go.RowKit Go.Deep
namespace Go.Proofs
set_option linter.unusedVariables false

theorem limbs_bitlen {x k : Nat} (h : x < 2 ^ k) : (limbs x).length ≤ k / 32 + 1 :=
  limbs_bits (Nat.lt_of_lt_of_le h (Nat.pow_le_pow_right (by omega) (by omega)))

theorem bitlen_lt {x : Nat} : x < 2 ^ bitlen x := by
  by_cases h : x = 0
  · subst h; decide
  · exact (bitlen_spec h).2

/-- the comparison that floor does -/
theorem flr_cmp (A B : Nat) : flr A B = if cmpInt (A * 2 ^ (-((bitlen A : Int) - bitlen B)).toNat) (B * 2 ^ ((bitlen A : Int) - bitlen B).toNat) < 0 then (bitlen A : Int) - bitlen B - 1 else (bitlen A : Int) - bitlen B := by
  unfold flr
  by_cases h : leP A B ((bitlen A : Int) - bitlen B)
  · rw [if_pos h, if_neg (by rw [leP_cmp] at h; omega)]
  · rw [if_neg h, if_pos (by rw [leP_cmp] at h; omega)]

set_option maxRecDepth 100000 in
theorem floor_calls (v1 v2 : Value) (A B : Nat) (w : World) (h1 : Num w v1 A) (h2 : Num w v2 B) (hA : A ≠ 0) (hB : B ≠ 0) (lA : (limbs A).length ≤ 262000) (lB : (limbs B).length ≤ 262000) :
    Calls Tryd.prog 70 #[v1, v2] w fun e w' => e = .returned (.int .i64 (flr A B)) ∧ Below w.heap.size w w' := by
  have hf := flr_cmp A B
  have bA := bitlen_le_limbs A
  have bB := bitlen_le_limbs B
  have uA := bitlen_lt (x := A)
  have uB := bitlen_lt (x := B)
  obtain ⟨F, eF⟩ : ∃ F, flr A B = F := ⟨_, rfl⟩
  rw [eF] at hf ⊢
  have L1 := fun (v : Value) (w : World) (h : Num w v A) => bits_ok v A w h (by omega)
  have L2 := fun (v : Value) (w : World) (h : Num w v B) => bits_ok v B w h (by omega)
  generalize bitlen A = m at *
  generalize bitlen B = n at *
  have HL1 := Lib.hid L1
  have HL2 := Lib.hid L2
  clear L1 L2 eF
  by_cases hk : 0 ≤ (m : Int) - n
  · obtain ⟨k, hk2⟩ : ∃ k : Nat, (m : Int) - n = k := ⟨((m : Int) - n).toNat, by omega⟩
    rw [hk2] at hf
    rw [show (-(k : Int)).toNat = 0 by omega, Int.toNat_natCast, Nat.pow_zero, Nat.mul_one] at hf
    have uk : B * 2 ^ k < 2 ^ m := by
      have h3 : B * 2 ^ k < 2 ^ n * 2 ^ k := Nat.mul_lt_mul_of_pos_right uB (Nat.two_pow_pos k)
      rw [← Nat.pow_add, show n + k = m by omega] at h3
      exact h3
    have lk := limbs_bitlen uk
    have hk3 : (k : Int) ≤ 8388608 := by omega
    have SH := fun (v : Value) (w : World) (z : Int) (h : Num w v B) (hz : z = (k : Int)) => shift_up v B k z w h hz hB (by omega) (by omega) (by omega)
    have CM := fun (va vb : Value) (w : World) (ha : Num w va A) (hb : Num w vb (B * 2 ^ k)) => cmp_ok va vb A (B * 2 ^ k) w ha hb ⟨by omega, by omega⟩
    have HK := Lib.hid hk2
    have HSH := Lib.hid SH
    have HCM := Lib.hid CM
    obtain ⟨c, ec⟩ : ∃ c, cmpInt A (B * 2 ^ k) = c := ⟨_, rfl⟩
    rw [ec] at hf HCM
    have m0 : (0 : Int) ≤ (m : Int) - n := hk
    have m1 : (m : Int) ≤ 8388608 := by omega
    have n1 : (n : Int) ≤ 8388608 := by omega
    clear hk hk2 uk lk SH CM ec uA uB bA bB
    by_cases hc : c < 0
    all_goals
      first | rw [if_pos hc] at hf | rw [if_neg hc] at hf
      have HF := Lib.hid hf
      clear hf
      go_enter Tryd.func70, Tryd.ntmps70
      go_wp2_with fail
      refine (HL1.out _ _ h1).mono ?_
      rintro e w1 ⟨rfl, b1⟩
      have h1' := h1.mono b1
      have h2' := h2.mono b1
      go_wp2_with fail
      refine (HL2.out _ _ h2').mono ?_
      rintro e w2 ⟨rfl, b2⟩
      replace h1' := h1'.mono b2
      replace h2' := h2'.mono b2
      have BB := below_trans b1 b2
      clear b1 b2
      go_wp2_with fail
      refine (HSH.out _ _ _ h2' HK.out).mono ?_
      rintro e w3 ⟨v3, rfl, h3, _, b3⟩
      replace h1' := h1'.mono b3
      replace BB := below_trans BB b3
      clear b3
      go_wp2_with fail
      refine (HCM.out _ _ _ h1' h3).mono ?_
      rintro e w4 ⟨rfl, b4⟩
      go_wp2
      go_ret
      exact ⟨ret_num (by rw [HF.out, HK.out]), below_trans BB b4⟩
  · obtain ⟨k, hk2⟩ : ∃ k : Nat, (m : Int) - n = -(k : Int) := ⟨(n - m : Nat), by omega⟩
    rw [hk2] at hf
    rw [show (-(k : Int)).toNat = 0 by omega, Int.neg_neg, Int.toNat_natCast, Nat.pow_zero, Nat.mul_one] at hf
    have uk : A * 2 ^ k < 2 ^ n := by
      have h3 : A * 2 ^ k < 2 ^ m * 2 ^ k := Nat.mul_lt_mul_of_pos_right uA (Nat.two_pow_pos k)
      rw [← Nat.pow_add, show m + k = n by omega] at h3
      exact h3
    have lk := limbs_bitlen uk
    have hk3 : (k : Int) ≤ 8388608 := by omega
    have SH := fun (v : Value) (w : World) (z : Int) (h : Num w v A) (hz : z = (k : Int)) => shift_up v A k z w h hz hA (by omega) (by omega) (by omega)
    have CM := fun (va vb : Value) (w : World) (ha : Num w va (A * 2 ^ k)) (hb : Num w vb B) => cmp_ok va vb (A * 2 ^ k) B w ha hb ⟨by omega, by omega⟩
    have HK := Lib.hid hk2
    have HSH := Lib.hid SH
    have HCM := Lib.hid CM
    obtain ⟨c, ec⟩ : ∃ c, cmpInt (A * 2 ^ k) B = c := ⟨_, rfl⟩
    rw [ec] at hf HCM
    have m0 : (m : Int) - n < 0 := by omega
    have m9 : ¬ 0 ≤ (m : Int) - n := by omega
    have m1 : (m : Int) ≤ 8388608 := by omega
    have n1 : (n : Int) ≤ 8388608 := by omega
    clear hk hk2 uk lk SH CM ec uA uB bA bB
    by_cases hc : c < 0
    all_goals
      first | rw [if_pos hc] at hf | rw [if_neg hc] at hf
      have HF := Lib.hid hf
      clear hf
      go_enter Tryd.func70, Tryd.ntmps70
      go_wp2_with fail
      refine (HL1.out _ _ h1).mono ?_
      rintro e w1 ⟨rfl, b1⟩
      have h1' := h1.mono b1
      have h2' := h2.mono b1
      go_wp2_with fail
      refine (HL2.out _ _ h2').mono ?_
      rintro e w2 ⟨rfl, b2⟩
      replace h1' := h1'.mono b2
      replace h2' := h2'.mono b2
      have BB := below_trans b1 b2
      clear b1 b2
      go_wp2_with fail
      refine (HSH.out _ _ _ h1' (by have := HK.out; omega)).mono ?_
      rintro e w3 ⟨v3, rfl, h3, _, b3⟩
      replace h2' := h2'.mono b3
      replace BB := below_trans BB b3
      clear b3
      go_wp2_with fail
      refine (HCM.out _ _ _ h3 h2').mono ?_
      rintro e w4 ⟨rfl, b4⟩
      go_wp2
      go_ret
      exact ⟨ret_num (by rw [HF.out, HK.out]), below_trans BB b4⟩

end Go.Proofs
