/- Plain facts: the digits of a number in a base; no program in sight. -/
import Derived.Test.YtpflnpekcdjheaaGreatDoorNum
namespace Go.Proofs
set_option linter.unusedVariables false
set_option linter.unusedSimpArgs false

/-- a digit in the base d -/
abbrev Dg (d : Nat) := { x : Nat // x < d }

/-- the digits of m in the base d, the least one first -/
def digs (d : Nat) (m : Nat) : List (Dg d) := if h : m = 0 ∨ d < 2 then [] else ⟨m % d, Nat.mod_lt _ (by omega)⟩ :: digs d (m / d)
termination_by m
decreasing_by exact Nat.div_lt_self (by omega) (by omega)

theorem digs_zero (d : Nat) : digs d 0 = [] := by rw [digs]; simp
theorem digs_low (d m : Nat) (h : d < 2) : digs d m = [] := by rw [digs]; simp [h]
theorem digs_pos {d m : Nat} (h : m ≠ 0) (hd : 2 ≤ d) : digs d m = ⟨m % d, Nat.mod_lt _ (by omega)⟩ :: digs d (m / d) := by
  rw [digs, dif_neg (by omega)]

/-- how many digits there are -/
theorem digs_length (d : Nat) : ∀ (k m : Nat), m < 2 ^ k → (digs d m).length ≤ k := by
  intro k
  induction k with
  | zero =>
    intro m h
    obtain rfl : m = 0 := by simpa using h
    rw [digs_zero]; exact Nat.le_refl _
  | succ k ih =>
    intro m h
    by_cases h0 : m = 0 ∨ d < 2
    · rw [digs, dif_pos h0]; exact Nat.zero_le _
    · rw [digs_pos (by omega) (by omega), List.length_cons]
      have h2 : m / d ≤ m / 2 := Nat.div_le_div_left (by omega) (by omega)
      have h3 : m / 2 < 2 ^ k := by rw [Nat.pow_succ] at h; omega
      have := ih (m / d) (by omega)
      omega

theorem digs_room (d m k : Nat) (h : (limbs m).length ≤ k) : (digs d m).length ≤ 32 * k := by
  refine digs_length d _ m ?_
  rw [Nat.pow_mul]
  exact limbs_length_le_iff.1 h

/-- the digits as numbers -/
def dign (d m : Nat) : List Nat := (digs d m).map (·.1)

theorem dign_zero (d : Nat) : dign d 0 = [] := by simp [dign, digs_zero]
theorem dign_pos {d m : Nat} (h : m ≠ 0) (hd : 2 ≤ d) : dign d m = (m % d) :: dign d (m / d) := by simp [dign, digs_pos h hd]

end Go.Proofs
