/- The reference: DivMod, bit by bit; Gcd. The reference: Left, Right. The reference: Pow, PowMod. The reference: Root, bit by bit. -/
import Derived.Test.YthkeekoljediiaaRefA
import Derived.Test.YthkeekoljediiaaNatB
import Derived.Test.YthkeekoljediiaaRootLaw
import Derived.Test.YthkeekoljediiaaNatC
open Go.RowKit
namespace Go.Proofs
set_option linter.unusedVariables false
set_option linter.unusedSimpArgs false

theorem u32_pow_lt {k : Nat} (h : k < 32) : 2 ^ k < 4294967296 := by
  have := Nat.pow_lt_pow_right (show 1 < 2 by omega) h
  omega
theorem u31_pow_lt {k : Nat} (h : k < 31) : 2 ^ k * 2 < 4294967296 := by
  have := u32_pow_lt (show k + 1 < 32 by omega)
  rwa [Nat.pow_succ] at this

theorem getD_val : ∀ (xs : List Nat) (k : Nat), (∀ x ∈ xs, x < 4294967296) → xs.getD k 0 = val xs / 4294967296 ^ k % 4294967296 := by
  intro xs
  induction xs with
  | nil => intro k _; simp [val, List.getD]
  | cons x xs ih =>
    intro k h
    have hx := h x (by simp)
    cases k with
    | zero => simp only [val, Nat.pow_zero, Nat.div_one]; simp only [List.getD_cons_zero]; omega
    | succ k =>
      have e := ih k (fun y hy => h y (by simp [hy]))
      have e2 : val (x :: xs) / 4294967296 ^ (k + 1) = val xs / 4294967296 ^ k := by
        rw [Nat.pow_succ, Nat.mul_comm, ← Nat.div_div_eq_div_mul]
        congr 1
        simp only [val]
        omega
      rw [e2, ← e]
      simp

theorem limb_room (R : List Nat) (hR : ∀ x ∈ R, x < 4294967296) (i t : Nat) (h : val R = t * 2 ^ (i + 1)) : R.getD (i / 32) 0 + 2 ^ (i % 32) < 4294967296 := by
  have hr : i % 32 < 32 := Nat.mod_lt _ (by omega)
  rw [getD_val R _ hR, h]
  have e1 : (2 : Nat) ^ (i + 1) = 4294967296 ^ (i / 32) * 2 ^ (i % 32 + 1) := by
    rw [show (4294967296 : Nat) = 2 ^ 32 by rfl, ← Nat.pow_mul, ← Nat.pow_add]
    congr 1
    omega
  have e2 : (4294967296 : Nat) = 2 ^ (i % 32 + 1) * 2 ^ (31 - i % 32) := by
    rw [← Nat.pow_add, show i % 32 + 1 + (31 - i % 32) = 32 by omega]
  rw [e1, Nat.mul_left_comm, Nat.mul_div_cancel_left _ (by exact Nat.pow_pos (by omega)), Nat.mul_comm t]
  have hp : 0 < 2 ^ (31 - i % 32) := Nat.two_pow_pos _
  have hp2 : 0 < 2 ^ (i % 32) := Nat.two_pow_pos _
  have e3 : 2 ^ (i % 32 + 1) * t % 4294967296 = 2 ^ (i % 32 + 1) * (t % 2 ^ (31 - i % 32)) := by
    rw [e2, Nat.mul_mod_mul_left]
  rw [e3, Nat.pow_succ]
  have hm := Nat.mod_lt t hp
  have hle : 2 ^ (i % 32) * 2 * (t % 2 ^ (31 - i % 32) + 1) ≤ 2 ^ (i % 32) * 2 * 2 ^ (31 - i % 32) := Nat.mul_le_mul_left _ hm
  rw [Nat.pow_succ] at e2
  rw [← e2, Nat.mul_add] at hle
  omega

theorem pow_limb (i : Nat) : 4294967296 ^ (i / 32) * 2 ^ (i % 32) = 2 ^ i := by
  rw [show (4294967296 : Nat) = 2 ^ 32 by rfl, ← Nat.pow_mul, ← Nat.pow_add]
  congr 1
  omega

theorem bit_step (m i : Nat) : m / 2 ^ i = 2 * (m / 2 ^ (i + 1)) + m / 2 ^ i % 2 := by
  rw [Nat.pow_succ, ← Nat.div_div_eq_div_mul]
  omega

/-- long division by two: the next bit -/
theorem div_step (M bit b : Nat) (hb : b ≠ 0) (hbit : bit < 2) :
    (2 * (M % b) + bit < b → (2 * M + bit) / b = 2 * (M / b) ∧ (2 * M + bit) % b = 2 * (M % b) + bit) ∧
    (b ≤ 2 * (M % b) + bit → (2 * M + bit) / b = 2 * (M / b) + 1 ∧ (2 * M + bit) % b = 2 * (M % b) + bit - b) := by
  have h1 := Nat.div_add_mod M b
  have h2 := Nat.mod_lt M (show 0 < b by omega)
  generalize M / b = q at *
  generalize M % b = r at *
  constructor
  · intro h
    have e : 2 * M + bit = b * (2 * q) + (2 * r + bit) := by rw [← h1]; grind
    rw [e]
    constructor
    · rw [Nat.mul_add_div (by omega), Nat.div_eq_of_lt h, Nat.add_zero]
    · rw [Nat.mul_add_mod, Nat.mod_eq_of_lt h]
  · intro h
    have e : 2 * M + bit = b * (2 * q + 1) + (2 * r + bit - b) := by
      have : b * (2 * q + 1) = 2 * (b * q) + b := by grind
      omega
    rw [e]
    constructor
    · rw [Nat.mul_add_div (by omega), Nat.div_eq_of_lt (by omega), Nat.add_zero]
    · rw [Nat.mul_add_mod, Nat.mod_eq_of_lt (by omega)]

theorem set_quo (R : List Nat) (i Q : Nat) (h : val R = Q * 2 ^ (i + 1)) (hi : i / 32 < R.length) :
    val (R.set (i / 32) (R.getD (i / 32) 0 + 2 ^ (i % 32))) = (2 * Q + 1) * 2 ^ i := by
  have hs := val_set R (i / 32) (R.getD (i / 32) 0 + 2 ^ (i % 32)) hi
  rw [Nat.mul_add, pow_limb, h, Nat.pow_succ] at hs
  generalize 4294967296 ^ (i / 32) * R.getD (i / 32) 0 = y at *
  generalize 2 ^ i = p at *
  have e : (2 * Q + 1) * p = Q * (p * 2) + p := by grind
  omega

theorem num_empty {B : Nat} {w : World} {v : Value} (h : Own B w v []) : Num w v 0 := by
  have := h.num (by rw [show val [] = 0 by rfl, limbs_zero])
  exact this.1


end Go.Proofs

open Go.RowKit
namespace Go.Proofs
set_option linter.unusedVariables false
set_option linter.unusedSimpArgs false

theorem pow_lt_u32 {k : Nat} (h : k < 32) : 2 ^ k < 4294967296 := by
  have := Nat.pow_lt_pow_right (show 1 < 2 by omega) h
  omega
theorem pow_lt_u31 {k : Nat} (h : k < 31) : 2 ^ k * 2 < 4294967296 := by
  have := pow_lt_u32 (show k + 1 < 32 by omega)
  rwa [Nat.pow_succ] at this

theorem val_zeros_append (k : Nat) (xs : List Nat) : val (List.replicate k 0 ++ xs) = 4294967296 ^ k * val xs := by
  rw [val_append, val_replicate, List.length_replicate, Nat.zero_add]

theorem left_val (m n : Nat) : 4294967296 ^ (n / 32) * m * 2 ^ (n % 32) = m * 2 ^ n := by
  have e : (4294967296 : Nat) ^ (n / 32) * 2 ^ (n % 32) = 2 ^ n := by
    rw [show (4294967296 : Nat) = 2 ^ 32 by rfl, ← Nat.pow_mul, ← Nat.pow_add]
    congr 1
    omega
  rw [← e]
  generalize 4294967296 ^ (n / 32) = p
  generalize 2 ^ (n % 32) = q
  grind



end Go.Proofs

open Go.RowKit
namespace Go.Proofs
set_option linter.unusedVariables false
set_option linter.unusedSimpArgs false



end Go.Proofs

open Go.RowKit
namespace Go.Proofs
set_option linter.unusedVariables false
set_option linter.unusedSimpArgs false

end Go.Proofs
