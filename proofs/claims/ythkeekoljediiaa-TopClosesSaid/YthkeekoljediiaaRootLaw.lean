/- Plain arithmetic: what Newton's method from above finds is the integer part of the root. -/
import Derived.Test.YthkeekoljediiaaNum
import Derived.Test.YthkeekoljediiaaBase
open Go.RowKit
namespace Go.Proofs
set_option linter.unusedVariables false
set_option linter.unusedSimpArgs false

theorem pow_lt_of_lt {x y n : Nat} (h : x < y) (hn : n ≠ 0) : x ^ n < y ^ n := Nat.pow_lt_pow_left h hn
theorem le_of_pow_lt {x y n : Nat} (h : x ^ n < (y + 1) ^ n) : x ≤ y := by
  by_cases hx : x ≤ y
  · exact hx
  · have := Nat.pow_le_pow_left (show y + 1 ≤ x by omega) n
    omega

/-- r is the integer part of the n-th root of a -/
def IsRoot (a n r : Nat) : Prop := r ^ n ≤ a ∧ a < (r + 1) ^ n

theorem IsRoot.unique {a n r s : Nat} (h : IsRoot a n r) (k : IsRoot a n s) : r = s := by
  have h1 := le_of_pow_lt (Nat.lt_of_le_of_lt h.1 k.2)
  have h2 := le_of_pow_lt (Nat.lt_of_le_of_lt k.1 h.2)
  omega

theorem root_exists (n : Nat) (hn : n ≠ 0) : ∀ a, ∃ r, IsRoot a n r := by
  intro a
  induction a with
  | zero => exact ⟨0, by rw [Nat.zero_pow (by omega)]; exact Nat.le_refl _, by simp⟩
  | succ a ih =>
    obtain ⟨r, h1, h2⟩ := ih
    by_cases h : (r + 1) ^ n ≤ a + 1
    · exact ⟨r + 1, h, Nat.lt_of_le_of_lt (by omega) (pow_lt_of_lt (show r + 1 < r + 1 + 1 by omega) hn)⟩
    · exact ⟨r, by omega, by omega⟩

theorem root_one (a : Nat) : IsRoot a 1 a := by simp [IsRoot]
theorem root_zero (n : Nat) (hn : n ≠ 0) : IsRoot 0 n 0 := ⟨by rw [Nat.zero_pow (by omega)]; exact Nat.le_refl _, by simp⟩

theorem sq_two (r x : Nat) : 2 * r * x ≤ r * r + x * x := by
  rcases Nat.le_total r x with h | h
  · obtain ⟨d, rfl⟩ := Nat.exists_eq_add_of_le h
    have : r * r + (r + d) * (r + d) = 2 * r * (r + d) + d * d := by grind
    omega
  · obtain ⟨d, rfl⟩ := Nat.exists_eq_add_of_le h
    have : (x + d) * (x + d) + x * x = 2 * (x + d) * x + d * d := by grind
    omega

/-- the means' inequality -/
theorem means (r x : Nat) : ∀ k, (k + 1) * r * x ^ k ≤ r ^ (k + 1) + k * x ^ (k + 1) := by
  intro k
  induction k with
  | zero => simp
  | succ k ih =>
    have h1 := Nat.mul_le_mul_left r ih
    have h2 := Nat.mul_le_mul_left ((k + 1) * x ^ k) (sq_two r x)
    have e1 : (k + 1 + 1) * r * x ^ (k + 1) + (r * ((k + 1) * r * x ^ k) + k * r * x ^ (k + 1)) = (k + 1) * x ^ k * (r * r) + ((k + 1) * x ^ k * (2 * r * x)) := by
      rw [Nat.pow_succ]; generalize x ^ k = p; grind
    have e2 : r * (r ^ (k + 1) + k * x ^ (k + 1)) = r ^ (k + 1 + 1) + k * r * x ^ (k + 1) := by
      rw [Nat.pow_succ r (k + 1)]; generalize x ^ (k + 1) = p; generalize r ^ (k + 1) = q; grind
    have e3 : (k + 1) * x ^ k * (r * r + x * x) = (k + 1) * x ^ k * (r * r) + (k + 1) * x ^ (k + 1 + 1) := by
      rw [Nat.pow_succ x (k + 1), Nat.pow_succ x k]; generalize x ^ k = p; grind
    have e4 : r * ((k + 1) * r * x ^ k) = (k + 1) * x ^ k * (r * r) := by
      generalize x ^ k = p; grind
    omega

/-- a step of Newton's method does not go below the root -/
theorem newton_above {a r x k : Nat} (h : r ^ (k + 1) ≤ a) (hx : 0 < x) : r ≤ (x * k + a / x ^ k) / (k + 1) := by
  rw [Nat.le_div_iff_mul_le (by omega)]
  have hp : 0 < x ^ k := Nat.pow_pos hx
  by_cases hs : r * (k + 1) ≤ x * k
  · exact Nat.le_trans hs (Nat.le_add_right _ _)
  · have hm := means r x k
    have h1 : (r * (k + 1) - x * k) * x ^ k ≤ a := by
      rw [Nat.sub_mul]
      have e1 : r * (k + 1) * x ^ k = (k + 1) * r * x ^ k := by rw [Nat.mul_comm r]
      have e2 : x * k * x ^ k = k * x ^ (k + 1) := by rw [Nat.pow_succ]; generalize x ^ k = p; grind
      omega
    have h2 := (Nat.le_div_iff_mul_le hp).mpr h1
    generalize a / x ^ k = Q at h2 ⊢
    omega

/-- where it does not fall it is the root -/
theorem newton_stop {a r x k : Nat} (h : IsRoot a (k + 1) r) (hx : 0 < x) (hr : r ≤ x) (hstop : x ≤ (x * k + a / x ^ k) / (k + 1)) : x = r := by
  rw [Nat.le_div_iff_mul_le (by omega)] at hstop
  have hp : 0 < x ^ k := Nat.pow_pos hx
  have e : x * (k + 1) = x * k + x := by rw [Nat.mul_add, Nat.mul_one]
  have h1 : x ≤ a / x ^ k := by omega
  have h2 := (Nat.le_div_iff_mul_le hp).mp h1
  have h3 : x ^ (k + 1) ≤ a := by rw [Nat.pow_succ, Nat.mul_comm]; exact h2
  have := le_of_pow_lt (Nat.lt_of_le_of_lt h3 h.2)
  omega

theorem newton_start {a b n : Nat} (h : a < 2 ^ b) (hn : n ≠ 0) : a < (2 ^ ((b + n - 1) / n)) ^ n := by
  rw [← Nat.pow_mul]
  refine Nat.lt_of_lt_of_le h (Nat.pow_le_pow_right (by omega) ?_)
  have h1 := Nat.div_add_mod (b + n - 1) n
  have h2 := Nat.mod_lt (b + n - 1) (show 0 < n by omega)
  rw [Nat.mul_comm] at h1
  omega

theorem Num.inj {w : World} {v : Value} {m n : Nat} (h : Num w v m) (k : Num w v n) : m = n := by
  obtain ⟨ad, c, rfl, hs⟩ := h
  obtain ⟨ad', c', e, ks⟩ := k
  obtain ⟨rfl, hl, rfl⟩ := Value.slice.inj e
  apply limbs_inj
  apply List.ext_getElem hl
  intro i h1 h2
  obtain ⟨b, o, e1, _, g1, _⟩ := hs.open h1
  obtain ⟨b', o', e2, _, g2, _⟩ := ks.open h2
  rw [e1] at e2
  cases e2
  rw [g1] at g2
  simp only [Option.some.injEq, Value.int.injEq, true_and] at g2
  simp only [List.getD, List.getElem?_eq_getElem h1, List.getElem?_eq_getElem h2, Option.getD_some] at g2
  omega

/-- the number that a value holds -/
noncomputable def numOf (w : World) (v : Value) : Nat := Classical.epsilon (fun n => Num w v n)
theorem numOf_eq {w : World} {v : Value} {n : Nat} (h : Num w v n) : numOf w v = n := by
  exact (Classical.epsilon_spec (p := fun n => Num w v n) ⟨n, h⟩).inj h

end Go.Proofs
