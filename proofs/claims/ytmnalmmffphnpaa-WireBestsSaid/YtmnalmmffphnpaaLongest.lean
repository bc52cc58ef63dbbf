/- wire.Longest in range and out of range; plain facts: a string holds just up to a root. -/
import Derived.Test.YtmnalmmffphnpaaWire
import Derived.Test.YtmnalmmffphnpaaNatD
open Go.RowKit
namespace Go.Proofs
set_option linter.unusedVariables false
set_option linter.unusedSimpArgs false

/-- the greatest square below -/
def quoN (d s f y : Nat) : Nat := 10 ^ 20 * (y * s) / (400 * d * f * f)

theorem prod4 (a b c d : Nat) : 10 ^ 0 * prodTo [a, b, c, d] [a, b, c, d].length = a * b * c * d := by
  simp [prodTo, List.getD]

theorem le_root {r q l : Nat} (h1 : r ^ 2 ≤ q) (h2 : q < (r + 1) ^ 2) : l * l ≤ q ↔ l ≤ r := by
  rw [Nat.pow_two] at h1 h2
  constructor
  · intro h
    rcases Nat.lt_or_ge r l with h3 | h3
    · have := Nat.mul_le_mul (show r + 1 ≤ l by omega) (show r + 1 ≤ l by omega)
      omega
    · exact h3
  · intro h
    exact Nat.le_trans (Nat.mul_le_mul h h) h1

theorem holds_root {d s l f y r : Nat} (hd : 1 ≤ d) (hf : 1 ≤ f) (h1 : r ^ 2 ≤ quoN d s f y) (h2 : quoN d s f y < (r + 1) ^ 2) : holdsB d s l f y = decide (l ≤ r) := by
  unfold holdsB
  rw [decide_eq_decide, ← le_root h1 h2]
  unfold quoN
  have hpos : 0 < 400 * d * f * f := Nat.mul_pos (Nat.mul_pos (Nat.mul_pos (by omega) hd) hf) hf
  rw [Nat.le_div_iff_mul_le hpos]
  have : l * l * (400 * d * f * f) = 400 * d * l * l * f * f := by grind
  rw [this]

theorem quoN_bound {d s f y : Nat} (hd : 1 ≤ d) (hf : 1 ≤ f) (hs : s ≤ 100000) (hy : y ≤ 100) : quoN d s f y ≤ 10 ^ 27 := by
  unfold quoN
  have h1 : y * s ≤ 100 * 100000 := Nat.mul_le_mul hy hs
  exact Nat.le_trans (Nat.div_le_self _ _) (by omega)

theorem root_bound {r q : Nat} (h1 : r ^ 2 ≤ q) (h2 : q ≤ 10 ^ 27) : r < 100000000000000 := by
  rcases Nat.lt_or_ge r 100000000000000 with h | h
  · exact h
  · have := Nat.mul_le_mul h h
    rw [Nat.pow_two] at h1
    omega

end Go.Proofs
