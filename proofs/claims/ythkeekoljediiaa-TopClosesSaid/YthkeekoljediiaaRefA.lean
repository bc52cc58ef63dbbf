/- The reference: trim returns a new slice of the limbs of a number. The reference: Cmp. The reference: Bits, Bit. The reference: Mul is the product, limb by limb. The reference: at, Of, Add, Sub. The reference: Over, Times. -/
import Derived.Test.YthkeekoljediiaaGrow
import Derived.Test.YthkeekoljediiaaNatA
open Go.RowKit
namespace Go.Proofs
set_option linter.unusedVariables false
set_option linter.unusedSimpArgs false

end Go.Proofs

open Go.RowKit
namespace Go.Proofs
set_option linter.unusedVariables false
set_option linter.unusedSimpArgs false


end Go.Proofs

open Go.RowKit
namespace Go.Proofs
set_option linter.unusedVariables false
set_option linter.unusedSimpArgs false

theorem bitlen_le_limbs (a : Nat) : bitlen a ≤ 32 * (limbs a).length := by
  refine bitlen_of_lt ?_
  rw [Nat.pow_mul]
  exact lt_pow_length a

theorem bitlen_half {x : Nat} (h : x ≠ 0) : bitlen x = bitlen (x / 2) + 1 := by
  have hs := bitlen_spec h
  by_cases h1 : x / 2 = 0
  · have : x = 1 := by omega
    subst this
    decide
  · have hs2 := bitlen_spec h1
    have hb2 : bitlen (x / 2) ≠ 0 := by
      intro e
      rw [e] at hs2
      simp at hs2
      omega
    refine bitlen_unique ?_ ?_
    · have h3 : 2 ^ (bitlen (x / 2)) = 2 * 2 ^ (bitlen (x / 2) - 1) := by
        rw [← Nat.pow_succ', Nat.succ_eq_add_one, show bitlen (x / 2) - 1 + 1 = bitlen (x / 2) by omega]
      rw [h3]
      omega
    · rw [Nat.pow_succ]
      omega


theorem limb_at : ∀ (k n : Nat), (limbs n).getD k 0 = n / 4294967296 ^ k % 4294967296 := by
  intro k
  induction k with
  | zero =>
    intro n
    by_cases h : n = 0
    · subst h; rw [limbs_zero]; rfl
    · rw [limbs_pos h]; simp
  | succ k ih =>
    intro n
    by_cases h : n = 0
    · subst h; rw [limbs_zero]; simp
    · rw [limbs_pos h]
      have := ih (n / 4294967296)
      rw [Nat.div_div_eq_div_mul, Nat.mul_comm, ← Nat.pow_succ] at this
      simpa [List.getD] using this

theorem mod_bit (x r : Nat) (hr : r < 32) : x % 4294967296 / 2 ^ r % 2 = x / 2 ^ r % 2 := by
  have e : (4294967296 : Nat) = 2 ^ r * (2 * 2 ^ (31 - r)) := by
    rw [← Nat.pow_succ', ← Nat.pow_add, show r + (31 - r).succ = 32 by omega]
  have h := Nat.div_add_mod x 4294967296
  generalize x % 4294967296 = s at *
  generalize x / 4294967296 = q at *
  rw [← h, e, Nat.mul_assoc, Nat.mul_add_div (Nat.two_pow_pos r), Nat.mul_assoc, Nat.mul_add_mod]

theorem limb_bit (n i : Nat) : (limbs n).getD (i / 32) 0 / 2 ^ (i % 32) % 2 = n / 2 ^ i % 2 := by
  rw [limb_at, mod_bit _ _ (Nat.mod_lt _ (by omega)), Nat.div_div_eq_div_mul]
  have e : (4294967296 : Nat) ^ (i / 32) * 2 ^ (i % 32) = 2 ^ i := by
    rw [show (4294967296 : Nat) = 2 ^ 32 by rfl, ← Nat.pow_mul, ← Nat.pow_add]
    congr 1
    omega
  rw [e]


end Go.Proofs

open Go.RowKit
namespace Go.Proofs
set_option linter.unusedVariables false
set_option linter.unusedSimpArgs false

theorem rmul_step (p pi x y o c vr vz q r : Nat) (v0 vs : Nat) (hs : vs + (p * pi) * o = vr + (p * pi) * r) (hi : vr + c * (p * pi) = v0 + pi * (x * vz)) (hq : 4294967296 * q + r = x * y + o + c) :
    vs + q * (p * 4294967296 * pi) = v0 + pi * (x * (vz + p * y)) := by
  grind

theorem rmul_row (pi pl x c vr v0 vs vz va : Nat) (h : vr + c * (pl * pi) = v0 + pi * (x * vz)) (hs : vs + pl * pi * 0 = vr + pl * pi * c) (h0 : v0 = va * vz) : vs = (va + pi * x) * vz := by
  grind

end Go.Proofs

open Go.RowKit
namespace Go.Proofs
set_option linter.unusedVariables false
set_option linter.unusedSimpArgs false



theorem val_take_getD (xs : List Nat) (i : Nat) : val (xs.take (i + 1)) = val (xs.take i) + 4294967296 ^ i * xs.getD i 0 := by
  by_cases hi : i < xs.length
  · exact val_take_succ xs i hi
  · rw [val_take_of_le xs i (by omega), show xs.getD i 0 = 0 by simp [List.getD, show xs.length ≤ i by omega]]
    omega

theorem radd_step (p o c m n x y d q : Nat) (h : o + c * p = m + n) (hd : 4294967296 * q + d = x + y + c) : o + p * d + q * (p * 4294967296) = m + p * x + (n + p * y) := by
  grind


theorem rsub_step (p o m n b x y d q : Nat) (h : o + n = m + b * p) (hd : 4294967296 * q + d + y + b = 4294967296 + x) (hq : q ≤ 1) : o + p * d + (n + p * y) = m + p * x + (1 - q) * (p * 4294967296) := by
  obtain ⟨t, ht⟩ : ∃ t, t + q = 1 := ⟨1 - q, by omega⟩
  rw [show 1 - q = t by omega]
  have e : d + y + b = x + 4294967296 * t := by omega
  have e2 : p * (d + y + b) = p * (x + 4294967296 * t) := by rw [e]
  grind


end Go.Proofs

open Go.RowKit
namespace Go.Proofs
set_option linter.unusedVariables false
set_option linter.unusedSimpArgs false



end Go.Proofs
