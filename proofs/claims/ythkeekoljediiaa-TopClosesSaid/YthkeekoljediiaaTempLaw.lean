/- The plain law of TopEqual: twelve steps of a twelfth of the comma are the twelve roots of 2; a sorted row. -/
import Derived.Test.YthkeekoljediiaaTone10
namespace Go.Proofs
set_option linter.unusedVariables false
set_option linter.unusedSimpArgs false

/-- the k-th step of equal temperament -/
def tq : Nat → T4
  | 0 => ⟨0, 0, 0, 1⟩ | 1 => ⟨1, 0, 0, 12⟩ | 2 => ⟨1, 0, 0, 6⟩ | 3 => ⟨1, 0, 0, 4⟩ | 4 => ⟨1, 0, 0, 3⟩ | 5 => ⟨5, 0, 0, 12⟩
  | 6 => ⟨1, 0, 0, 2⟩ | 7 => ⟨7, 0, 0, 12⟩ | 8 => ⟨2, 0, 0, 3⟩ | 9 => ⟨3, 0, 0, 4⟩ | 10 => ⟨5, 0, 0, 6⟩ | _ => ⟨11, 0, 0, 12⟩
/-- its root's degree times what makes it a twelfth -/
def tw : Nat → Nat
  | 0 => 12 | 1 => 1 | 2 => 2 | 3 => 3 | 4 => 4 | 5 => 1 | 6 => 6 | 7 => 1 | 8 => 4 | 9 => 3 | 10 => 2 | _ => 1
theorem twelve_cases {k : Nat} {p : Nat → Prop} (hk : k < 12) (h0 : p 0) (h1 : p 1) (h2 : p 2) (h3 : p 3) (h4 : p 4) (h5 : p 5) (h6 : p 6) (h7 : p 7) (h8 : p 8) (h9 : p 9) (h10 : p 10) (h11 : p 11) : p k := by
  rcases (show k = 0 ∨ k = 1 ∨ k = 2 ∨ k = 3 ∨ k = 4 ∨ k = 5 ∨ k = 6 ∨ k = 7 ∨ k = 8 ∨ k = 9 ∨ k = 10 ∨ k = 11 by omega) with rfl | rfl | rfl | rfl | rfl | rfl | rfl | rfl | rfl | rfl | rfl | rfl <;> assumption
theorem tq_valid (k : Nat) (hk : k < 12) : validB (tq k).a (tq k).b (tq k).c (tq k).d = true := by
  refine twelve_cases (p := fun k => validB (tq k).a (tq k).b (tq k).c (tq k).d = true) hk ?_ ?_ ?_ ?_ ?_ ?_ ?_ ?_ ?_ ?_ ?_ ?_ <;> decide
theorem tq_make (k : Nat) (hk : k < 12) : redT (k : Int) 0 0 12 = (tq k, 0) := by
  refine twelve_cases (p := fun k => redT (k : Int) 0 0 12 = (tq k, 0)) hk ?_ ?_ ?_ ?_ ?_ ?_ ?_ ?_ ?_ ?_ ?_ ?_ <;> kernel_rfl
theorem tq_step (k : Nat) (hk : k < 12) : (mulT (tq k) (tq 7)).2 = 0 ∧ validB (mulT (tq k) (tq 7)).1.a (mulT (tq k) (tq 7)).1.b (mulT (tq k) (tq 7)).1.c (mulT (tq k) (tq 7)).1.d = true ∧ foldT (mulT (tq k) (tq 7)).1 = (tq ((k + 7) % 12), 0) := by
  refine twelve_cases (p := fun k => (mulT (tq k) (tq 7)).2 = 0 ∧ validB (mulT (tq k) (tq 7)).1.a (mulT (tq k) (tq 7)).1.b (mulT (tq k) (tq 7)).1.c (mulT (tq k) (tq 7)).1.d = true ∧ foldT (mulT (tq k) (tq 7)).1 = (tq ((k + 7) % 12), 0)) hk ?_ ?_ ?_ ?_ ?_ ?_ ?_ ?_ ?_ ?_ ?_ ?_ <;> exact ⟨by kernel_rfl, by kernel_rfl, by kernel_rfl⟩
theorem fifth_pow' : powT ⟨-19, 12, 0, 1⟩ 1 12 = (⟨-19, 12, 0, 12⟩, 0) := by kernel_rfl
theorem fifth_div : divT ⟨-1, 1, 0, 1⟩ ⟨-19, 12, 0, 12⟩ = (tq 7, 0) := by kernel_rfl

/-- the frequency of a step is a twelfth root -/
theorem root_twelve {base k r : Nat} (hk : k < 12) (h : IsRoot (freqQ base (tq k)) (tq k).d.toNat r) : IsRoot (base ^ 12 * 2 ^ k) 12 r := by
  have key : ∀ (d a m : Nat), d * m = 12 → a * m = k → 1 ≤ m → IsRoot (base ^ d * 2 ^ a) d r → IsRoot (base ^ 12 * 2 ^ k) 12 r := by
    intro d a m h1 h2 h3 ⟨h4, h5⟩
    have e : base ^ 12 * 2 ^ k = (base ^ d * 2 ^ a) ^ m := by rw [Nat.mul_pow, ← Nat.pow_mul, ← Nat.pow_mul, h1, h2]
    refine ⟨?_, ?_⟩
    · rw [e, ← h1, Nat.pow_mul]
      exact Nat.pow_le_pow_left h4 m
    · rw [e, ← h1, Nat.pow_mul]
      exact Nat.pow_lt_pow_left h5 (by omega)
  have q : ∀ (d a : Nat), freqQ base ⟨(a : Int), 0, 0, (d : Int)⟩ = base ^ d * 2 ^ a := by
    intro d a
    unfold freqQ overN underN
    simp
  revert h
  refine twelve_cases (p := fun j => k = j → IsRoot (freqQ base (tq j)) (tq j).d.toNat r → IsRoot (base ^ 12 * 2 ^ k) 12 r) hk ?_ ?_ ?_ ?_ ?_ ?_ ?_ ?_ ?_ ?_ ?_ ?_ rfl
  · intro e h; exact key 1 0 12 rfl (by omega) (by omega) (by have := q 1 0; exact this ▸ h)
  · intro e h; exact key 12 1 1 rfl (by omega) (by omega) (by have := q 12 1; exact this ▸ h)
  · intro e h; exact key 6 1 2 rfl (by omega) (by omega) (by have := q 6 1; exact this ▸ h)
  · intro e h; exact key 4 1 3 rfl (by omega) (by omega) (by have := q 4 1; exact this ▸ h)
  · intro e h; exact key 3 1 4 rfl (by omega) (by omega) (by have := q 3 1; exact this ▸ h)
  · intro e h; exact key 12 5 1 rfl (by omega) (by omega) (by have := q 12 5; exact this ▸ h)
  · intro e h; exact key 2 1 6 rfl (by omega) (by omega) (by have := q 2 1; exact this ▸ h)
  · intro e h; exact key 12 7 1 rfl (by omega) (by omega) (by have := q 12 7; exact this ▸ h)
  · intro e h; exact key 3 2 4 rfl (by omega) (by omega) (by have := q 3 2; exact this ▸ h)
  · intro e h; exact key 4 3 3 rfl (by omega) (by omega) (by have := q 4 3; exact this ▸ h)
  · intro e h; exact key 6 5 2 rfl (by omega) (by omega) (by have := q 6 5; exact this ▸ h)
  · intro e h; exact key 12 11 1 rfl (by omega) (by omega) (by have := q 12 11; exact this ▸ h)
theorem root_mono {base j k r s : Nat} (hk : k < 12) (hj : j ≤ k) (hr : IsRoot (freqQ base (tq j)) (tq j).d.toNat r) (hs : IsRoot (freqQ base (tq k)) (tq k).d.toNat s) : r ≤ s := by
  have h1 := root_twelve (by omega) hr
  have h2 := root_twelve hk hs
  have h3 : base ^ 12 * 2 ^ j ≤ base ^ 12 * 2 ^ k := Nat.mul_le_mul_left _ (Nat.pow_le_pow_right (by omega) hj)
  exact le_of_pow_lt (Nat.lt_of_le_of_lt (Nat.le_trans h1.1 h3) h2.2)
theorem root_small {base k r : Nat} (hb : base ≤ 2 ^ 57) (hk : k < 12) (hr : IsRoot (freqQ base (tq k)) (tq k).d.toNat r) : r < 9223372036854775808 := by
  have h1 := (root_twelve hk hr).1
  have h2 : r ^ 12 < (2 * base + 1) ^ 12 := by
    have h3 : (2 : Nat) ^ k ≤ 2 ^ 12 := Nat.pow_le_pow_right (by omega) (by omega)
    have h4 : base ^ 12 * 2 ^ k ≤ (2 * base) ^ 12 := by rw [Nat.mul_pow, Nat.mul_comm]; exact Nat.mul_le_mul_right _ h3
    have h5 : (2 * base) ^ 12 < (2 * base + 1) ^ 12 := Nat.pow_lt_pow_left (by omega) (by omega)
    omega
  have h6 := le_of_pow_lt h2
  have h7 : (2 : Nat) ^ 57 = 144115188075855872 := by decide
  omega

/-! ### insertion sort of a row -/
/-- behind the step at j of round i: every pair up to i is in order, but those whose later number is j -/
def InsInv (ys : List Nat) (i j : Nat) : Prop := ∀ a b, a < b → b ≤ i → b ≠ j → ys.getD a 0 ≤ ys.getD b 0
theorem swap_getD (ys : List Nat) (j k : Nat) (hj : j < ys.length) (hjk : k < j) (a : Nat) :
    ((ys.set j (ys.getD k 0)).set k (ys.getD j 0)).getD a 0 = if a = k then ys.getD j 0 else if a = j then ys.getD k 0 else ys.getD a 0 := by
  by_cases h1 : a = k
  · subst h1
    rw [if_pos rfl]
    simp [List.getD, List.getElem?_set, show a < ys.length by omega]
  · rw [if_neg h1]
    by_cases h2 : a = j
    · subst h2
      rw [if_pos rfl]
      simp only [List.getD, List.getElem?_set, if_neg (Ne.symm h1)]
      simp [hj]
    · rw [if_neg h2]
      simp only [List.getD, List.getElem?_set, if_neg (Ne.symm h1), if_neg (Ne.symm h2)]
theorem swap_perm (ys : List Nat) (j k : Nat) (hj : j < ys.length) (hjk : k < j) : ((ys.set j (ys.getD k 0)).set k (ys.getD j 0)).Perm ys := by
  have e1 : ys.getD k 0 = ys[k]'(by omega) := by simp [List.getD, show k < ys.length by omega]
  have e2 : ys.getD j 0 = ys[j] := by simp [List.getD, hj]
  rw [e1, e2]
  have h := Array.swap_perm (xs := ys.toArray) (i := j) (j := k) (by simpa using hj) (by simp; omega)
  have h2 := h.toList
  rw [Array.swap_def] at h2
  simpa using h2
theorem ins_swap {ys : List Nat} {i j : Nat} (h : InsInv ys i (j + 1)) (hi : i < ys.length) (hj : j + 1 ≤ i) (hlt : ys.getD (j + 1) 0 < ys.getD j 0) :
    InsInv ((ys.set (j + 1) (ys.getD j 0)).set j (ys.getD (j + 1) 0)) i j := by
  intro a b hab hb hbj
  rw [swap_getD ys (j + 1) j (by omega) (by omega) a, swap_getD ys (j + 1) j (by omega) (by omega) b]
  rw [if_neg hbj]
  by_cases ha : a = j
  · rw [if_pos ha]
    by_cases hb2 : b = j + 1
    · rw [if_pos hb2]; omega
    · rw [if_neg hb2]
      exact h (j + 1) b (by omega) hb (by omega)
  · rw [if_neg ha]
    by_cases hb2 : b = j + 1
    · rw [if_pos hb2, if_neg (by omega)]
      exact h a j (by omega) (by omega) (by omega)
    · rw [if_neg hb2]
      by_cases ha2 : a = j + 1
      · rw [if_pos ha2]
        exact h j b (by omega) hb (by omega)
      · rw [if_neg ha2]
        exact h a b hab hb (by omega)
theorem ins_start {ys : List Nat} {i : Nat} (h : ∀ a b, a < b → b < i → ys.getD a 0 ≤ ys.getD b 0) : InsInv ys i i := fun a b hab hb hne => h a b hab (by omega)
theorem ins_stop {ys : List Nat} {i j : Nat} (h : InsInv ys i j) (hj : j ≤ i) (he : j = 0 ∨ ys.getD (j - 1) 0 ≤ ys.getD j 0) : ∀ a b, a < b → b < i + 1 → ys.getD a 0 ≤ ys.getD b 0 := by
  intro a b hab hb
  by_cases e : b = j
  · subst e
    rcases he with he | he
    · omega
    · by_cases e2 : a = b - 1
      · rw [e2]; exact he
      · exact Nat.le_trans (h a (b - 1) (by omega) (by omega) (by omega)) he
  · exact h a b hab (by omega) e
theorem sorted_eq {xs ys : List Nat} (hp : xs.Perm ys) (hx : ∀ a b, a < b → b < xs.length → xs.getD a 0 ≤ xs.getD b 0) (hy : ∀ a b, a < b → b < ys.length → ys.getD a 0 ≤ ys.getD b 0) : xs = ys := by
  have pw : ∀ zs : List Nat, (∀ a b, a < b → b < zs.length → zs.getD a 0 ≤ zs.getD b 0) → zs.Pairwise (· ≤ ·) := by
    intro zs h
    refine List.pairwise_iff_getElem.2 fun i j hi hj hij => ?_
    have h1 := h i j hij hj
    simpa [List.getD, hi, hj] using h1
  exact List.Perm.eq_of_pairwise (fun a b _ _ h1 h2 => Nat.le_antisymm h1 h2) (pw xs hx) (pw ys hy) hp

end Go.Proofs
