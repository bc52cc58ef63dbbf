/- Plain facts on decimal texts; no program in sight. -/
import Derived.Lib.Strings
namespace Go.Proofs
set_option linter.unusedVariables false
set_option linter.unusedSimpArgs false

/-- byte i of a string -/
def byteAt (s : ByteArray) (i : Nat) : Nat := if h : i < s.size then s[i].toNat else 0

theorem byteAt_eq {s : ByteArray} {i : Nat} (h : i < s.size) : s[i].toNat = byteAt s i := by simp [byteAt, h]
theorem byteAt_lt (s : ByteArray) (i : Nat) : byteAt s i < 256 := by
  unfold byteAt
  split
  · exact UInt8.toNat_lt _
  · omega

/-- the number that the first i bytes say -/
def dec (s : ByteArray) : Nat → Nat
  | 0 => 0
  | i + 1 => 10 * dec s i + (byteAt s i - 48)

/-- the first i bytes are decimal digits -/
def Digi (s : ByteArray) (n : Nat) : Prop := ∀ i, i < n → 48 ≤ byteAt s i ∧ byteAt s i ≤ 57

theorem byteAt_extract (s : ByteArray) (n i : Nat) (h : n + i < s.size) : byteAt (s.extract n s.size) i = byteAt s (n + i) := by
  have h1 : (s.extract n s.size).size = s.size - n := by rw [ByteArray.size_extract]; omega
  have h2 : i < (s.extract n s.size).size := by omega
  rw [← byteAt_eq h2, ← byteAt_eq h]
  rw [ByteArray.getElem_extract]

theorem dec_split (s : ByteArray) (n : Nat) (hn : n ≤ s.size) : ∀ k, n + k ≤ s.size → dec s (n + k) = dec s n * 10 ^ k + dec (s.extract n s.size) k := by
  intro k
  induction k with
  | zero => intro _; simp [dec]
  | succ k ih =>
    intro h
    rw [← Nat.add_assoc, dec, dec, ih (by omega), byteAt_extract s n k (by omega), Nat.pow_succ]
    have : dec s n * (10 ^ k * 10) = 10 * (dec s n * 10 ^ k) := by rw [Nat.mul_comm (10 ^ k) 10, Nat.mul_left_comm]
    omega

theorem dec_lt (s : ByteArray) : ∀ n, Digi s n → dec s n < 10 ^ n := by
  intro n
  induction n with
  | zero => intro _; simp [dec]
  | succ n ih =>
    intro h
    have h1 := ih (fun i hi => h i (by omega))
    have h2 := h n (by omega)
    rw [dec, Nat.pow_succ]
    omega

/-- a text of a number -/
def TextOk (s : ByteArray) : Prop := 0 < s.size ∧ (1 < s.size → byteAt s 0 ≠ 48) ∧ Digi s s.size

instance (s : ByteArray) (n : Nat) : Decidable (Digi s n) := inferInstanceAs (Decidable (∀ i, i < n → 48 ≤ byteAt s i ∧ byteAt s i ≤ 57))
instance (s : ByteArray) : Decidable (TextOk s) := inferInstanceAs (Decidable (_ ∧ _ ∧ _))

end Go.Proofs
