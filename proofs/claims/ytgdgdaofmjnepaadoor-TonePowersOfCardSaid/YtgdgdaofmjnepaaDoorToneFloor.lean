/- plain facts: the greatest power of 2 that is not above a fraction. -/
import Derived.Test.YtgdgdaofmjnepaaDoorLen
import Derived.Test.YtgdgdaofmjnepaaDoorCompare
namespace Go.Proofs
set_option linter.unusedVariables false

/-- 2^m is not above A/B -/
def leP (A B : Nat) (m : Int) : Prop := B * 2 ^ m.toNat ≤ A * 2 ^ (-m).toNat
instance (A B : Nat) (m : Int) : Decidable (leP A B m) := by unfold leP; infer_instance

theorem leP_step {A B : Nat} {m : Int} (h : leP A B (m + 1)) : leP A B m := by
  unfold leP at *
  by_cases hm : 0 ≤ m
  · obtain ⟨k, rfl⟩ : ∃ k : Nat, m = (k : Int) := ⟨m.toNat, by omega⟩
    have e1 : ((k : Int) + 1).toNat = k + 1 := by omega
    have e2 : (-((k : Int) + 1)).toNat = 0 := by omega
    have e3 : ((k : Int)).toNat = k := by omega
    have e4 : (-(k : Int)).toNat = 0 := by omega
    rw [e1, e2] at h
    rw [e3, e4]
    have : B * 2 ^ k ≤ B * 2 ^ (k + 1) := Nat.mul_le_mul_left _ (Nat.pow_le_pow_right (by omega) (by omega))
    omega
  · obtain ⟨k, rfl⟩ : ∃ k : Nat, m = -((k : Int) + 1) := ⟨(-m - 1).toNat, by omega⟩
    have e1 : (-((k : Int) + 1) + 1).toNat = 0 := by omega
    have e2 : (-(-((k : Int) + 1) + 1)).toNat = k := by omega
    have e3 : (-((k : Int) + 1)).toNat = 0 := by omega
    have e4 : (-(-((k : Int) + 1))).toNat = k + 1 := by omega
    rw [e1, e2] at h
    rw [e3, e4]
    have : A * 2 ^ k ≤ A * 2 ^ (k + 1) := Nat.mul_le_mul_left _ (Nat.pow_le_pow_right (by omega) (by omega))
    omega

theorem leP_down {A B : Nat} {m : Int} : ∀ (k : Nat), leP A B (m + k) → leP A B m
  | 0, h => by simpa using h
  | k + 1, h => leP_down k (leP_step (by rw [show m + (k : Int) + 1 = m + ((k + 1 : Nat) : Int) by omega]; exact h))

theorem leP_mono {A B : Nat} {m m' : Int} (h : leP A B m) (hm : m' ≤ m) : leP A B m' :=
  leP_down (m - m').toNat (by rw [show m' + ((m - m').toNat : Int) = m by omega]; exact h)

theorem leP_low {A B x y : Nat} (h1 : 2 ^ x ≤ A) (h4 : B < 2 ^ (y + 1)) : leP A B ((x : Int) - y - 1) := by
  unfold leP
  by_cases h : y + 1 ≤ x
  · obtain ⟨k, rfl⟩ : ∃ k, x = y + 1 + k := ⟨x - (y + 1), by omega⟩
    rw [show (((y + 1 + k : Nat) : Int) - y - 1).toNat = k by omega, show (-(((y + 1 + k : Nat) : Int) - y - 1)).toNat = 0 by omega]
    rw [Nat.pow_add] at h1
    have : B * 2 ^ k ≤ 2 ^ (y + 1) * 2 ^ k := Nat.mul_le_mul_right _ (Nat.le_of_lt h4)
    omega
  · obtain ⟨k, hk⟩ : ∃ k, y + 1 = x + k := ⟨y + 1 - x, by omega⟩
    rw [show ((x : Int) - y - 1).toNat = 0 by omega, show (-((x : Int) - y - 1)).toNat = k by omega]
    rw [hk, Nat.pow_add] at h4
    have : 2 ^ x * 2 ^ k ≤ A * 2 ^ k := Nat.mul_le_mul_right _ h1
    omega

theorem leP_high {A B x y : Nat} (h2 : A < 2 ^ (x + 1)) (h3 : 2 ^ y ≤ B) : ¬ leP A B ((x : Int) - y + 1) := by
  unfold leP
  by_cases h : y ≤ x + 1
  · obtain ⟨k, hk⟩ : ∃ k, x + 1 = y + k := ⟨x + 1 - y, by omega⟩
    rw [show ((x : Int) - y + 1).toNat = k by omega, show (-((x : Int) - y + 1)).toNat = 0 by omega]
    rw [hk, Nat.pow_add] at h2
    have : 2 ^ y * 2 ^ k ≤ B * 2 ^ k := Nat.mul_le_mul_right _ h3
    omega
  · obtain ⟨k, rfl⟩ : ∃ k, y = x + 1 + k := ⟨y - (x + 1), by omega⟩
    rw [show ((x : Int) - ((x + 1 + k : Nat) : Int) + 1).toNat = 0 by omega, show (-((x : Int) - ((x + 1 + k : Nat) : Int) + 1)).toNat = k by omega]
    rw [Nat.pow_add] at h3
    have h5 : A * 2 ^ k < 2 ^ (x + 1) * 2 ^ k := Nat.mul_lt_mul_of_pos_right h2 (Nat.two_pow_pos k)
    omega

/-- the exponent of the greatest power of 2 that is not above A/B -/
def flr (A B : Nat) : Int := if leP A B ((bitlen A : Int) - bitlen B) then (bitlen A : Int) - bitlen B else (bitlen A : Int) - bitlen B - 1

theorem flr_spec {A B : Nat} (hA : A ≠ 0) (hB : B ≠ 0) : leP A B (flr A B) ∧ ¬ leP A B (flr A B + 1) ∧ (bitlen A : Int) - bitlen B - 1 ≤ flr A B := by
  obtain ⟨a1, a2⟩ := bitlen_spec hA
  obtain ⟨b1, b2⟩ := bitlen_spec hB
  have ha : 1 ≤ bitlen A := by
    rcases Nat.eq_zero_or_pos (bitlen A) with h | h
    · rw [h] at a2; omega
    · exact h
  have hb : 1 ≤ bitlen B := by
    rcases Nat.eq_zero_or_pos (bitlen B) with h | h
    · rw [h] at b2; omega
    · exact h
  unfold flr
  obtain ⟨x, hx⟩ : ∃ x, bitlen A = x + 1 := ⟨bitlen A - 1, by omega⟩
  obtain ⟨y, hy⟩ : ∃ y, bitlen B = y + 1 := ⟨bitlen B - 1, by omega⟩
  rw [hx] at a1 a2
  rw [hy] at b1 b2
  rw [Nat.add_sub_cancel] at a1 b1
  have L := leP_low a1 b2
  have H := leP_high a2 b1
  rw [hx, hy]
  rw [show ((x + 1 : Nat) : Int) - ((y + 1 : Nat) : Int) = (x : Int) - y by omega]
  split
  · rename_i h
    exact ⟨h, H, by omega⟩
  · rename_i h
    exact ⟨L, by rw [show (x : Int) - y - 1 + 1 = (x : Int) - y by omega]; exact h, by omega⟩

theorem leP_iff {A B : Nat} (hA : A ≠ 0) (hB : B ≠ 0) (m : Int) : leP A B m ↔ m ≤ flr A B := by
  obtain ⟨h1, h2, _⟩ := flr_spec hA hB
  constructor
  · intro h
    by_cases hm : m ≤ flr A B
    · exact hm
    · exact absurd (leP_mono h (by omega)) h2
  · exact fun h => leP_mono h1 h

theorem leP_cmp (A B : Nat) (m : Int) : leP A B m ↔ 0 ≤ cmpInt (A * 2 ^ (-m).toNat) (B * 2 ^ m.toNat) := by
  unfold leP cmpInt
  split
  · omega
  · split <;> omega

/-- division that rounds down -/
theorem parted_eq (a b : Int) (hb : 0 < b) : (if a.tmod b < 0 then a.tdiv b - 1 else a.tdiv b) = a / b := by
  obtain ⟨q, hq⟩ : ∃ q, a / b = q := ⟨_, rfl⟩
  have h1 := Int.mul_tdiv_add_tmod a b
  have h2 := Int.tmod_lt_of_pos a hb
  by_cases ha : 0 ≤ a
  · rw [if_neg (by have := Int.tmod_nonneg b ha; omega), Int.tdiv_eq_ediv_of_nonneg ha]
  · obtain ⟨n, rfl⟩ : ∃ n : Int, a = -n := ⟨-a, by omega⟩
    rw [Int.neg_tdiv, Int.neg_tmod, Int.tdiv_eq_ediv_of_nonneg (by omega), Int.tmod_eq_emod_of_nonneg (by omega)]
    have h3 := Int.emod_add_mul_ediv n b
    have h4 := Int.emod_nonneg n (show b ≠ 0 by omega)
    have h5 := Int.emod_lt_of_pos n hb
    have h6 := Int.emod_add_mul_ediv (-n) b
    have h7 := Int.emod_nonneg (-n) (show b ≠ 0 by omega)
    have h8 := Int.emod_lt_of_pos (-n) hb
    by_cases hz : n % b = 0
    · rw [hz] at h3 ⊢
      rw [if_neg (by omega)]
      have : b * ((-n) / b + n / b) = - ((-n) % b) := by rw [Int.mul_add]; omega
      have h9 : (-n) / b + n / b = 0 := by
        rcases Int.lt_trichotomy ((-n) / b + n / b) 0 with h | h | h
        · have := Int.mul_le_mul_of_nonneg_left (show (-n) / b + n / b ≤ -1 by omega) (show 0 ≤ b by omega)
          omega
        · exact h
        · have := Int.mul_le_mul_of_nonneg_left (show 1 ≤ (-n) / b + n / b by omega) (show 0 ≤ b by omega)
          omega
      omega
    · rw [if_pos (by omega)]
      have : b * ((-n) / b + n / b) = - ((-n) % b) - n % b := by rw [Int.mul_add]; omega
      have h9 : (-n) / b + n / b = -1 := by
        rcases Int.lt_trichotomy ((-n) / b + n / b) (-1) with h | h | h
        · have := Int.mul_le_mul_of_nonneg_left (show (-n) / b + n / b ≤ -2 by omega) (show 0 ≤ b by omega)
          omega
        · exact h
        · have := Int.mul_le_mul_of_nonneg_left (show 0 ≤ (-n) / b + n / b by omega) (show 0 ≤ b by omega)
          omega
      omega

/-- the numbers of a tone's fraction -/
def overN (a b c : Int) : Nat := 2 ^ a.toNat * (3 ^ b.toNat * 5 ^ c.toNat)
def underN (a b c : Int) : Nat := 2 ^ (-a).toNat * (3 ^ (-b).toNat * 5 ^ (-c).toNat)

end Go.Proofs
