/- Plain facts on lists of limbs to the base 2^32; no program in sight. World predicates and laws that speak of no program: slices of 32-bit limbs, rows of cells that the call made. -/
import Derived.WalkKit
import Derived.WalkLawsBesides
import Derived.WalkSpells
import Derived.Deep.QuietTactic
import Derived.BigQuiet
import Derived.Handy
import Derived.Outline
import Derived.Lib.Hide
import Derived.Laws.AppendOwnNone
import Derived.Laws.CopyOwn

section
namespace Go.Proofs
set_option linter.unusedVariables false
set_option linter.unusedSimpArgs false

/-- the value of a list of limbs, the least one first -/
def val : List Nat → Nat
  | [] => 0
  | x :: xs => x + 4294967296 * val xs

/-- the limbs of a number, without zeros at the end -/
def limbs (n : Nat) : List Nat := if h : n = 0 then [] else (n % 4294967296) :: limbs (n / 4294967296)
termination_by n
decreasing_by omega

theorem limbs_zero : limbs 0 = [] := by rw [limbs]; simp
theorem limbs_pos {n : Nat} (h : n ≠ 0) : limbs n = (n % 4294967296) :: limbs (n / 4294967296) := by rw [limbs]; simp [h]

theorem val_limbs (n : Nat) : val (limbs n) = n := by
  induction n using Nat.strongRecOn with
  | _ n ih =>
    by_cases h : n = 0
    · subst h; rw [limbs_zero]; rfl
    · rw [limbs_pos h, val, ih _ (by omega)]; omega

theorem limbs_lt (n : Nat) : ∀ x ∈ limbs n, x < 4294967296 := by
  induction n using Nat.strongRecOn with
  | _ n ih =>
    by_cases h : n = 0
    · subst h; rw [limbs_zero]; intro x hx; cases hx
    · rw [limbs_pos h]
      intro x hx
      rcases List.mem_cons.1 hx with rfl | hx
      · omega
      · exact ih _ (by omega) x hx

theorem limbs_inj {m n : Nat} (h : limbs m = limbs n) : m = n := by
  have := congrArg val h
  rwa [val_limbs, val_limbs] at this

theorem limbs_eq_nil {n : Nat} : limbs n = [] ↔ n = 0 := by
  constructor
  · intro h
    exact limbs_inj (h.trans limbs_zero.symm)
  · intro h; rw [h, limbs_zero]

theorem val_append (xs ys : List Nat) : val (xs ++ ys) = val xs + 4294967296 ^ xs.length * val ys := by
  induction xs with
  | nil => simp [val]
  | cons x xs ih =>
    rw [List.cons_append, val, ih, val, List.length_cons, Nat.pow_succ]
    have : 4294967296 * (4294967296 ^ xs.length * val ys) = 4294967296 ^ xs.length * 4294967296 * val ys := by
      rw [← Nat.mul_assoc, Nat.mul_comm 4294967296 (4294967296 ^ xs.length)]
    rw [Nat.mul_add, this]; omega

theorem val_snoc (xs : List Nat) (y : Nat) : val (xs ++ [y]) = val xs + 4294967296 ^ xs.length * y := by
  rw [val_append]; simp [val]

theorem val_lt (xs : List Nat) (h : ∀ x ∈ xs, x < 4294967296) : val xs < 4294967296 ^ xs.length := by
  induction xs with
  | nil => simp [val]
  | cons x xs ih =>
    have h1 := h x (by simp)
    have h2 := ih fun y hy => h y (by simp [hy])
    rw [val, List.length_cons, Nat.pow_succ]
    omega

theorem val_replicate (k : Nat) : val (List.replicate k 0) = 0 := by
  induction k with
  | zero => rfl
  | succ k ih => rw [List.replicate_succ, val, ih]

theorem val_take_succ (xs : List Nat) (i : Nat) (h : i < xs.length) : val (xs.take (i + 1)) = val (xs.take i) + 4294967296 ^ i * xs.getD i 0 := by
  rw [List.take_succ_eq_append_getElem h, val_snoc]
  simp [List.getD, h, Nat.min_eq_left (Nat.le_of_lt h)]

theorem val_take_of_le (xs : List Nat) (i : Nat) (h : xs.length ≤ i) : val (xs.take (i + 1)) = val (xs.take i) := by
  rw [List.take_of_length_le h, List.take_of_length_le (by omega)]

theorem val_take_drop (xs : List Nat) (i : Nat) (h : i ≤ xs.length) : val xs = val (xs.take i) + 4294967296 ^ i * val (xs.drop i) := by
  conv => lhs; rw [← List.take_append_drop i xs]
  rw [val_append]; simp [Nat.min_eq_left h]

/-- the limbs of a value whose list ends in no zero -/
theorem limbs_val_last : ∀ (xs : List Nat), (∀ x ∈ xs, x < 4294967296) → (∀ x, xs.getLast? = some x → x ≠ 0) → limbs (val xs) = xs
  | [], _, _ => by rw [val, limbs_zero]
  | [x], h, hl => by
    have h1 := h x (by simp)
    have h2 := hl x (by simp)
    rw [val, val, limbs_pos (by omega)]
    have e1 : (x + 4294967296 * 0) % 4294967296 = x := by omega
    have e2 : (x + 4294967296 * 0) / 4294967296 = 0 := by omega
    rw [e1, e2, limbs_zero]
  | x :: y :: xs, h, hl => by
    have ih := limbs_val_last (y :: xs) (fun z hz => h z (List.mem_cons_of_mem _ hz)) (fun z hz => hl z (by simpa using hz))
    have h1 := h x (by simp)
    have hne : val (y :: xs) ≠ 0 := by
      intro e
      rw [e, limbs_zero] at ih
      cases ih
    rw [val, limbs_pos (by omega)]
    have e1 : (x + 4294967296 * val (y :: xs)) % 4294967296 = x := by omega
    have e2 : (x + 4294967296 * val (y :: xs)) / 4294967296 = val (y :: xs) := by omega
    rw [e1, e2, ih]

theorem limbs_last (n : Nat) : ∀ x, (limbs n).getLast? = some x → x ≠ 0 := by
  induction n using Nat.strongRecOn with
  | _ n ih =>
    by_cases h : n = 0
    · subst h; rw [limbs_zero]; intro x hx; cases hx
    · rw [limbs_pos h]
      intro x hx
      by_cases h2 : n / 4294967296 = 0
      · rw [h2, limbs_zero] at hx
        simp at hx
        omega
      · have hne : limbs (n / 4294967296) ≠ [] := fun e => h2 (limbs_eq_nil.1 e)
        rw [List.getLast?_cons_of_ne_nil hne] at hx
        exact ih _ (by omega) x hx

/-- a prefix that bears the whole value and ends in no zero is the limbs -/
theorem limbs_of_take (xs : List Nat) (m : Nat) (hm : m ≤ xs.length) (h : ∀ x ∈ xs, x < 4294967296) (hv : val (xs.take m) = val xs) (hl : m = 0 ∨ xs.getD (m - 1) 0 ≠ 0) :
    limbs (val xs) = xs.take m := by
  rw [← hv]
  refine limbs_val_last _ (fun x hx => h x (List.mem_of_mem_take hx)) fun x hx => ?_
  rcases hl with rfl | hl
  · simp at hx
  · by_cases h0 : m = 0
    · subst h0; simp at hx
    · have e : (xs.take m).getLast? = some (xs.getD (m - 1) 0) := by
        rw [List.getLast?_eq_getElem?]
        have e2 : (xs.take m).length = m := by simp; omega
        rw [e2, List.getElem?_take, if_pos (by omega)]
        simp [List.getD, show m - 1 < xs.length by omega]
      rw [e] at hx
      cases hx
      exact hl

theorem val_take_pred (xs : List Nat) (m : Nat) (h0 : 0 < m) (hm : m ≤ xs.length) (hx : xs.getD (m - 1) 0 = 0) : val (xs.take (m - 1)) = val (xs.take m) := by
  have h := val_take_succ xs (m - 1) (by omega)
  rw [hx, Nat.mul_zero, Nat.add_zero, Nat.sub_add_cancel h0] at h
  exact h.symm

theorem limbs_prefix_of (xs : List Nat) (h : ∀ x ∈ xs, x < 4294967296) : ∀ k, k ≤ xs.length → val (xs.take k) = val xs → ∃ m, limbs (val xs) = xs.take m := by
  intro k
  induction k with
  | zero => exact fun hk hv => ⟨0, limbs_of_take xs 0 hk h hv (.inl rfl)⟩
  | succ k ih =>
    intro hk hv
    by_cases hx : xs.getD k 0 = 0
    · exact ih (by omega) ((val_take_pred xs (k + 1) (by omega) hk hx).trans hv)
    · exact ⟨k + 1, limbs_of_take xs (k + 1) hk h hv (.inr hx)⟩

/-- the limbs of a value are a prefix of the list -/
theorem limbs_prefix (xs : List Nat) (h : ∀ x ∈ xs, x < 4294967296) : ∃ m, limbs (val xs) = xs.take m :=
  limbs_prefix_of xs h xs.length (Nat.le_refl _) (by simp)

theorem limbs_length_le {n k : Nat} (h : n < 4294967296 ^ k) : (limbs n).length ≤ k := by
  induction k generalizing n with
  | zero =>
    have : n = 0 := by simpa using h
    subst this; rw [limbs_zero]; exact Nat.le_refl _
  | succ k ih =>
    by_cases h0 : n = 0
    · subst h0; rw [limbs_zero]; exact Nat.zero_le _
    · rw [limbs_pos h0, List.length_cons]
      have : n / 4294967296 < 4294967296 ^ k := by
        rw [Nat.pow_succ] at h
        exact Nat.div_lt_of_lt_mul (by rw [Nat.mul_comm]; exact h)
      have := ih this
      omega

theorem lt_pow_length (n : Nat) : n < 4294967296 ^ (limbs n).length := by
  have := val_lt _ (limbs_lt n)
  rwa [val_limbs] at this

theorem pow_length_le {n : Nat} (h : n ≠ 0) : 4294967296 ^ ((limbs n).length - 1) ≤ n := by
  rcases Nat.lt_or_ge n (4294967296 ^ ((limbs n).length - 1)) with h1 | h1
  · have := limbs_length_le h1
    have h2 : limbs n ≠ [] := fun e => h (limbs_eq_nil.1 e)
    have h3 : 0 < (limbs n).length := List.length_pos_iff.2 h2
    omega
  · exact h1

theorem limbs_length_le_iff {n k : Nat} : (limbs n).length ≤ k ↔ n < 4294967296 ^ k := by
  constructor
  · intro h
    exact Nat.lt_of_lt_of_le (lt_pow_length n) (Nat.pow_le_pow_right (by omega) h)
  · exact limbs_length_le

theorem limbs_length_mono {m n : Nat} (h : m ≤ n) : (limbs m).length ≤ (limbs n).length :=
  limbs_length_le (Nat.lt_of_le_of_lt h (lt_pow_length n))

theorem limbs_length_add (m n : Nat) : (limbs (m + n)).length ≤ max (limbs m).length (limbs n).length + 1 := by
  refine limbs_length_le ?_
  have h1 := lt_pow_length m
  have h2 := lt_pow_length n
  have h3 : 4294967296 ^ (limbs m).length ≤ 4294967296 ^ (max (limbs m).length (limbs n).length) := Nat.pow_le_pow_right (by omega) (Nat.le_max_left _ _)
  have h4 : 4294967296 ^ (limbs n).length ≤ 4294967296 ^ (max (limbs m).length (limbs n).length) := Nat.pow_le_pow_right (by omega) (Nat.le_max_right _ _)
  rw [Nat.pow_succ]
  omega

theorem limbs_length_mul (m n : Nat) : (limbs (m * n)).length ≤ (limbs m).length + (limbs n).length := by
  refine limbs_length_le ?_
  have h1 := lt_pow_length m
  have h2 := lt_pow_length n
  rw [Nat.pow_add]
  exact Nat.mul_lt_mul'' h1 h2

/-- the length tells the greater of two numbers -/
theorem lt_of_length_lt {m n : Nat} (h : (limbs m).length < (limbs n).length) : m < n := by
  rcases Nat.lt_or_ge m n with h1 | h1
  · exact h1
  · have := limbs_length_mono h1
    omega

/-- a number by its greatest limb -/
theorem limbs_top {n : Nat} (h : n ≠ 0) : ∃ lo, n = lo + 4294967296 ^ ((limbs n).length - 1) * (limbs n).getD ((limbs n).length - 1) 0 ∧ lo < 4294967296 ^ ((limbs n).length - 1) ∧ (limbs n).getD ((limbs n).length - 1) 0 ≠ 0 := by
  have hne : limbs n ≠ [] := fun e => h (limbs_eq_nil.1 e)
  have hlen : 0 < (limbs n).length := List.length_pos_iff.2 hne
  refine ⟨val ((limbs n).take ((limbs n).length - 1)), ?_, ?_, ?_⟩
  · have := val_take_succ (limbs n) ((limbs n).length - 1) (by omega)
    rw [Nat.sub_add_cancel hlen, List.take_of_length_le (Nat.le_refl _), val_limbs] at this
    exact this
  · have := val_lt ((limbs n).take ((limbs n).length - 1)) fun x hx => limbs_lt n x (List.mem_of_mem_take hx)
    rwa [List.length_take, Nat.min_eq_left (by omega)] at this
  · refine limbs_last n _ ?_
    rw [List.getLast?_eq_getElem?]
    simp [List.getD, show (limbs n).length - 1 < (limbs n).length by omega]

theorem val_set : ∀ (xs : List Nat) (k v : Nat), k < xs.length → val (xs.set k v) + 4294967296 ^ k * xs.getD k 0 = val xs + 4294967296 ^ k * v
  | [], k, v, h => by simp at h
  | x :: xs, 0, v, h => by simp [val]; omega
  | x :: xs, k + 1, v, h => by
    have ih := val_set xs k v (by simpa using h)
    have e : (x :: xs).getD (k + 1) 0 = xs.getD k 0 := by simp [List.getD]
    rw [List.set_cons_succ, val, val, e, Nat.pow_succ]
    have h1 : 4294967296 ^ k * 4294967296 * xs.getD k 0 = 4294967296 * (4294967296 ^ k * xs.getD k 0) := by grind
    have h2 : 4294967296 ^ k * 4294967296 * v = 4294967296 * (4294967296 ^ k * v) := by grind
    rw [h1, h2]
    omega

theorem getD_set_ne (xs : List Nat) {k j : Nat} (v : Nat) (h : k ≠ j) : (xs.set k v).getD j 0 = xs.getD j 0 := by
  simp [List.getD, List.getElem?_set_ne h]

theorem getD_set_eq (xs : List Nat) {k : Nat} (v : Nat) (h : k < xs.length) : (xs.set k v).getD k 0 = v := by
  simp [List.getD, h]

theorem getD_lt_of {xs : List Nat} (h : ∀ x ∈ xs, x < 4294967296) (i : Nat) : xs.getD i 0 < 4294967296 := by
  by_cases hi : i < xs.length
  · have := h xs[i] (List.getElem_mem hi)
    simpa [List.getD, hi] using this
  · simp [List.getD, hi]

/-- one limb decides where all above are alike -/
theorem val_lt_of_limb {xs ys : List Nat} {i : Nat} (hx : ∀ x ∈ xs, x < 4294967296) (hl : xs.length = ys.length) (hi : i < xs.length)
    (htop : xs.drop (i + 1) = ys.drop (i + 1)) (h : xs.getD i 0 < ys.getD i 0) : val xs < val ys := by
  have e1 := val_take_drop xs (i + 1) (by omega)
  have e2 := val_take_drop ys (i + 1) (by omega)
  have t1 := val_take_succ xs i hi
  have t2 := val_take_succ ys i (by omega)
  have b1 : val (xs.take i) < 4294967296 ^ i := by
    have := val_lt (xs.take i) fun x h => hx x (List.mem_of_mem_take h)
    rwa [List.length_take, Nat.min_eq_left (by omega)] at this
  rw [e1, e2, htop, t1, t2]
  have : 4294967296 ^ i * (xs.getD i 0 + 1) ≤ 4294967296 ^ i * ys.getD i 0 := Nat.mul_le_mul_left _ h
  rw [Nat.mul_add, Nat.mul_one] at this
  omega

theorem limbs_drop {m n : Nat} (h : n < (limbs m).length) : limbs (m / 4294967296 ^ n) = (limbs m).drop n := by
  have e := val_take_drop (limbs m) n (by omega)
  rw [val_limbs] at e
  have hlt : val ((limbs m).take n) < 4294967296 ^ n := by
    have := val_lt ((limbs m).take n) fun x hx => limbs_lt m x (List.mem_of_mem_take hx)
    rwa [List.length_take, Nat.min_eq_left (by omega)] at this
  have hdiv : m / 4294967296 ^ n = val ((limbs m).drop n) := by
    conv => lhs; rw [e]
    rw [Nat.add_mul_div_left _ _ (Nat.pow_pos (by omega)), Nat.div_eq_of_lt hlt, Nat.zero_add]
  rw [hdiv]
  refine limbs_val_last _ (fun x hx => limbs_lt m x (List.mem_of_mem_drop hx)) fun x hx => ?_
  refine limbs_last m x ?_
  rw [List.getLast?_drop] at hx
  rw [if_neg (by omega)] at hx
  exact hx

theorem val_take_mod (m n : Nat) (h : n ≤ (limbs m).length) : val ((limbs m).take n) = m % 4294967296 ^ n := by
  have e := val_take_drop (limbs m) n h
  rw [val_limbs] at e
  have hlt : val ((limbs m).take n) < 4294967296 ^ n := by
    have := val_lt ((limbs m).take n) fun x hx => limbs_lt m x (List.mem_of_mem_take hx)
    rwa [List.length_take, Nat.min_eq_left (by omega)] at this
  conv => rhs; rw [e]
  rw [Nat.add_mul_mod_self_left, Nat.mod_eq_of_lt hlt]

theorem room_of_val {k n N : Nat} (hk : k ≤ N) (h : 4294967296 ^ k * n < 4294967296 ^ N) : k + (limbs n).length ≤ N := by
  have h2 : n < 4294967296 ^ (N - k) := by
    have e : 4294967296 ^ N = 4294967296 ^ k * 4294967296 ^ (N - k) := by rw [← Nat.pow_add]; congr 1; omega
    rw [e] at h
    exact Nat.lt_of_mul_lt_mul_left h
  have := limbs_length_le h2
  omega

theorem val_take_le (xs : List Nat) (k : Nat) : val (xs.take k) ≤ val xs := by
  by_cases h : k ≤ xs.length
  · rw [val_take_drop xs k h]; omega
  · rw [List.take_of_length_le (by omega)]; exact Nat.le_refl _

theorem limbs_length_val (xs : List Nat) (h : ∀ x ∈ xs, x < 4294967296) : (limbs (val xs)).length ≤ xs.length :=
  limbs_length_le (val_lt xs h)

theorem val_drop_cons (xs : List Nat) (i : Nat) (h : i < xs.length) : val (xs.drop i) = xs.getD i 0 + 4294967296 * val (xs.drop (i + 1)) := by
  rw [List.drop_eq_getElem_cons h, val]
  simp [List.getD, h]

theorem drop_set_succ (xs : List Nat) (i v : Nat) : (xs.set i v).drop (i + 1) = xs.drop (i + 1) := by
  rw [List.drop_set_of_lt (by omega)]

theorem val_drop_set (xs : List Nat) (i v : Nat) (h : i < xs.length) : val ((xs.set i v).drop i) = v + 4294967296 * val (xs.drop (i + 1)) := by
  rw [val_drop_cons _ _ (by simpa using h), drop_set_succ, getD_set_eq _ _ h]

theorem getD_replicate (n i : Nat) : (List.replicate n 0).getD i 0 = 0 := by
  simp [List.getD, List.getElem?_replicate]; split <;> rfl

/-- one digit of a number moved down by r bits -/
theorem down_digit (z v r : Nat) (hr : r ≤ 32) (hz : z < 4294967296) : (z + 4294967296 * v) / 2 ^ r = (z + 4294967296 * (v % 4294967296)) / 2 ^ r % 4294967296 + 4294967296 * (v / 2 ^ r) := by
  have hp := Nat.two_pow_pos r
  have e : (4294967296 : Nat) = 2 ^ r * 2 ^ (32 - r) := by
    rw [← Nat.pow_add, show r + (32 - r) = 32 by omega]
  have h1 : (z + 4294967296 * v) / 2 ^ r / 4294967296 = v / 2 ^ r := by
    rw [Nat.div_div_eq_div_mul, Nat.mul_comm (2 ^ r) 4294967296, ← Nat.div_div_eq_div_mul, Nat.add_mul_div_left _ _ (by omega), Nat.div_eq_of_lt hz, Nat.zero_add]
  have h2 : (z + 4294967296 * v) / 2 ^ r = (z + 4294967296 * (v % 4294967296)) / 2 ^ r + 4294967296 * (2 ^ (32 - r) * (v / 4294967296)) := by
    have e2 : z + 4294967296 * v = (z + 4294967296 * (v % 4294967296)) + 2 ^ r * (4294967296 * (2 ^ (32 - r) * (v / 4294967296))) := by
      have h3 := Nat.div_add_mod v 4294967296
      have h4 : 2 ^ r * (4294967296 * (2 ^ (32 - r) * (v / 4294967296))) = 4294967296 * ((2 ^ r * 2 ^ (32 - r)) * (v / 4294967296)) := by grind
      rw [h4, ← e]
      omega
    rw [e2, Nat.add_mul_div_left _ _ hp]
  have h3 : (z + 4294967296 * v) / 2 ^ r % 4294967296 = (z + 4294967296 * (v % 4294967296)) / 2 ^ r % 4294967296 := by
    rw [h2, Nat.add_mul_mod_self_left]
  have h4 := Nat.div_add_mod ((z + 4294967296 * v) / 2 ^ r) 4294967296
  rw [h3, h1] at h4
  omega

theorem limbs_length_pow (m n : Nat) : (limbs (m ^ n)).length ≤ (limbs m).length * n + 1 := by
  refine limbs_length_le ?_
  have h : m ^ n ≤ (4294967296 ^ (limbs m).length) ^ n := Nat.pow_le_pow_left (Nat.le_of_lt (lt_pow_length m)) n
  rw [← Nat.pow_mul] at h
  have h2 : 4294967296 ^ ((limbs m).length * n) < 4294967296 ^ ((limbs m).length * n + 1) := Nat.pow_lt_pow_right (by omega) (by omega)
  omega

theorem limbs_one : limbs 1 = [1] := by
  rw [limbs_pos (by omega)]; simp [limbs_zero]

end Go.Proofs
end

section
open Go.RowKit
namespace Go.Proofs
set_option linter.unusedVariables false
set_option linter.unusedSimpArgs false

/-- w' has all blocks of w unchanged, but for block r. -/
structure Only (r : Nat) (w w' : World) : Prop where
  os : w'.os = w.os
  tape : w'.tape = w.tape
  output : w'.output = w.output
  size : w.heap.size ≤ w'.heap.size
  block : ∀ k, k < w.heap.size → k ≠ r → w'.heap[k]? = w.heap[k]?


/-- A slice of u32 that reads as xs, in a block that is there, not frozen. -/
def Sl (w : World) (ad : Option Addr) (c : Nat) (xs : List Nat) : Prop :=
  xs.length ≤ c ∧ c ≤ maxLen ∧ (∀ x ∈ xs, x < 4294967296) ∧
  ((ad = none ∧ c = 0) ∨ ∃ b o, ad = some ⟨b, o, none⟩ ∧ b < w.heap.size ∧
    ∀ i, i < xs.length → w.cell? ⟨b, o + i, none⟩ = some (.int .u32 (xs.getD i 0)) ∧ w.frozen? ⟨b, o + i, none⟩ = false)

theorem Sl.open {w ad c xs} (h : Sl w ad c xs) {i : Nat} (hi : i < xs.length) :
    ∃ b o, ad = some ⟨b, o, none⟩ ∧ b < w.heap.size ∧ w.cell? ⟨b, o + i, none⟩ = some (.int .u32 (xs.getD i 0)) ∧ w.frozen? ⟨b, o + i, none⟩ = false := by
  obtain ⟨h1, _, _, h | ⟨b, o, ha, hb, hc⟩⟩ := h
  · omega
  · exact ⟨b, o, ha, hb, hc i hi⟩

theorem Sl.lt {w ad c xs} (h : Sl w ad c xs) (i : Nat) : xs.getD i 0 < 4294967296 := by
  by_cases hi : i < xs.length
  · have := h.2.2.1 xs[i] (List.getElem_mem hi)
    simpa [List.getD, hi] using this
  · simp [List.getD, hi]

theorem Sl.mono {w w' : World} {ad c xs} (h : Sl w ad c xs) {B : Nat} (hB : w.heap.size ≤ B) (hb : Below B w w') : Sl w' ad c xs := by
  obtain ⟨h1, h2, h3, h | ⟨b, o, ha, hl, hc⟩⟩ := h
  · exact ⟨h1, h2, h3, .inl h⟩
  · exact ⟨h1, h2, h3, .inr ⟨b, o, ha, Nat.lt_of_lt_of_le hl hb.size, fun i hi => by
      rw [hb.cell (p := ⟨b, o + i, none⟩) (Nat.lt_of_lt_of_le hl hB), hb.frozen (p := ⟨b, o + i, none⟩) (Nat.lt_of_lt_of_le hl hB)]
      exact hc i hi⟩⟩

def lims (xs : List Nat) : List Value := xs.map fun (x : Nat) => Value.int .u32 (x : Int)
/-- A block whose cells are the numbers xs. -/
def Row (w : World) (b : Nat) (xs : List Nat) : Prop :=
  (∀ x ∈ xs, x < 4294967296) ∧ ∃ e, w.heap[b]? = some (.cells (lims xs).toArray e (0, 0))

theorem Row.lt {w b xs} (h : Row w b xs) : b < w.heap.size := by
  obtain ⟨_, e, h⟩ := h
  exact lt_of_block h

theorem Row.cell {w b xs} (h : Row w b xs) {i : Nat} (hi : i < xs.length) : w.cell? ⟨b, i, none⟩ = some (.int .u32 (xs.getD i 0)) := by
  obtain ⟨_, e, h⟩ := h
  simp [World.cell?, h, hi, lims]

theorem Row.free {w b xs} (h : Row w b xs) (i : Nat) : w.frozen? ⟨b, i, none⟩ = false := by
  obtain ⟨_, e, h⟩ := h
  simp [World.frozen?, h]

theorem Row.set {w b xs} (h : Row w b xs) (i v : Nat) (hv : v < 4294967296) : Row (w.setCell ⟨b, i, none⟩ (.int .u32 v)) b (xs.set i v) := by
  have hlt := h.lt
  obtain ⟨h0, e, h⟩ := h
  refine ⟨?_, e, ?_⟩
  · intro x hx
    rcases List.mem_or_eq_of_mem_set hx with hx | rfl
    · exact h0 x hx
    · exact hv
  · have h' : w.heap[b] = .cells (lims xs).toArray e (0, 0) := by simpa [Array.getElem?_eq_getElem hlt] using h
    show (w.heap.modify b _)[b]? = _
    rw [Array.getElem?_eq_getElem (by simpa using hlt), Array.getElem_modify_self, h']
    simp [lims, List.map_set]

theorem Row.put {w b xs} (h : Row w b xs) (i v : Nat) (hv : v < 4294967296) (z : Int) (hz : z = (v : Int)) : Row (w.setCell ⟨b, i, none⟩ (.int .u32 z)) b (xs.set i v) := by
  subst hz
  exact h.set i v hv

/-- A digit is written behind those that stand. -/
theorem Row.push {w b ys n i} (h : Row w b (ys ++ List.replicate (n - i) 0)) (hl : ys.length = i) (hi : i < n) (v : Nat) (hv : v < 4294967296) (z : Int) (hz : z = (v : Int)) :
    Row (w.setCell ⟨b, i, none⟩ (.int .u32 z)) b ((ys ++ [v]) ++ List.replicate (n - (i + 1)) 0) := by
  subst hz
  have h' := h.set i v hv
  have e : (ys ++ List.replicate (n - i) 0).set i v = (ys ++ [v]) ++ List.replicate (n - (i + 1)) 0 := by
    obtain ⟨k, hk⟩ : ∃ k, n - i = k + 1 := ⟨n - i - 1, by omega⟩
    rw [hk, List.replicate_succ, List.set_append_right _ _ (by omega), show n - (i + 1) = k by omega]
    simp [hl]
  rwa [e] at h'

theorem Row.sl {w b xs} (h : Row w b xs) (o n c : Nat) (hn : o + n ≤ xs.length) (hc : n ≤ c) (hm : c ≤ maxLen) : Sl w (some ⟨b, o, none⟩) c ((xs.drop o).take n) := by
  have hl : ((xs.drop o).take n).length = n := by simp; omega
  refine ⟨by omega, hm, fun x hx => h.1 x (List.mem_of_mem_drop (List.mem_of_mem_take hx)), .inr ⟨b, o, rfl, h.lt, fun i hi => ⟨?_, h.free _⟩⟩⟩
  rw [h.cell (i := o + i) (by omega)]
  have : ((xs.drop o).take n).getD i 0 = xs.getD (o + i) 0 := by
    simp [List.getD, show i < n by omega]
  rw [this]

theorem Row.below {w w' b xs} (h : Row w b xs) {B} (hb : Below B w w') (hB : b < B) : Row w' b xs := by
  obtain ⟨h0, e, h⟩ := h
  exact ⟨h0, e, by rw [hb.block b hB]; exact h⟩

theorem below_alloc (w : World) (o : Obj) : Below w.heap.size w (w.alloc o) := (Below.refl _ _).alloc (Nat.le_refl _) o

theorem row_made {P : Program} {w : World} {i : TypeInfo} {n : Nat} {e : TypeId} (z1 : i.size = 1) : Row (w.alloc (.cells (madeCells (Value.int .u32 0).cells (n * i.size)) e)) w.heap.size (List.replicate n 0) := by
  refine ⟨fun x hx => by rw [(List.mem_replicate.1 hx).2]; omega, e, ?_⟩
  rw [heap_alloc_new, z1]
  congr 2
  apply Array.ext
  · simp [size_madeCells, lims]
  · intro j h1 h2
    simp [madeCells, lims, Value.cells, Nat.mod_one]

/-- make([]uint32, n): a new block of n zeros. -/
theorem wpList_make_nums {P : Program} (w : World) {ops : Array Oper} {rest : List Oper} {o : Oper} {a : Act} {Q : Exit → Act → World → Prop}
    (hg : o.guard = none) (l c : Operand) (t : TypeId) (hop : o.op = Op.makeSlice t l c)
    (e : TypeId) (h1 : P.underlying t = some (.slice e)) (h2 : (P.info? e).map (fun i => (i.zero, i.size, i.bytes)) = some (some (.int .u32 0), 1, 4))
    (kl kc : IntKind) (L C : Int) (n : Nat) (hl : a.eval l = .int kl L) (hc : a.eval c = .int kc C) (hL : L = (n : Int)) (hC : C = (n : Int)) (hn : n ≤ 1099511627776)
    (hK : ∀ w', Row w' w.heap.size (List.replicate n 0) → Below w.heap.size w w' → w.heap.size < w'.heap.size → wpList P ops Q rest (a.put o.dst (.slice (some ⟨w.heap.size, 0, none⟩) n n)) w') :
    wpList P ops Q (o :: rest) a w := by
  refine wpList_plain hg fun K hK' => ?_
  obtain ⟨i, hi, z0, z1, z2⟩ := info_parts h2
  subst hL
  subst hC
  have hr := run_make (P := P) w t e i _ h1 hi z0 kl kc n n (by omega) (Int.le_refl _) (by rw [z2]; omega) (by omega)
  simp only [Int.toNat_natCast] at hr
  unfold Oper.wp
  simp [execOp, hop, hl, hc, hr, Result.andThen]
  refine hK' _ _ (hK _ (row_made (P := P) z1) (below_alloc _ _) (by simp))

/-- The length of a slice, for a loop's measure. -/
def lenOf : Value → Nat | .slice _ n _ => n | _ => 0

/-- A value that is a slice of the limbs of n. -/
def Num (w : World) (v : Value) (n : Nat) : Prop := ∃ ad c, v = .slice ad (limbs n).length c ∧ Sl w ad c (limbs n)

/-- A slice that leads to no block below B. -/
def Fresh (B : Nat) : Value → Prop
  | .slice (some a) _ _ => B ≤ a.block
  | _ => True

/-- The call returns a new slice of the limbs of n, and changes nothing that was there. -/
def RetNum (w : World) (n : Nat) (e : Ending) (w' : World) : Prop :=
  ∃ v, e = .returned v ∧ Num w' v n ∧ Fresh w.heap.size v ∧ Below w.heap.size w w'

theorem Num.slice {w v n} (h : Num w v n) : ∃ ad c, v = .slice ad (limbs n).length c ∧ Sl w ad c (limbs n) := h

theorem Num.mono {w w' : World} {v : Value} {n : Nat} (h : Num w v n) (hb : Below w.heap.size w w') : Num w' v n := by
  obtain ⟨ad, c, rfl, hs⟩ := h
  exact ⟨ad, c, rfl, hs.mono (Nat.le_refl _) hb⟩

theorem Fresh.mono {B B' : Nat} {v : Value} (h : Fresh B v) (hB : B' ≤ B) : Fresh B' v := by
  unfold Fresh at h ⊢
  split at h
  · exact Nat.le_trans hB h
  · trivial

theorem Sl.take {w ad c xs} (h : Sl w ad c xs) (m : Nat) : Sl w ad c (xs.take m) := by
  obtain ⟨h1, h2, h3, h4⟩ := h
  refine ⟨by rw [List.length_take]; omega, h2, fun x hx => h3 x (List.mem_of_mem_take hx), ?_⟩
  rcases h4 with h4 | ⟨b, o, ha, hb, hc⟩
  · exact .inl h4
  · refine .inr ⟨b, o, ha, hb, fun i hi => ?_⟩
    have hi' : i < m ∧ i < xs.length := by rw [List.length_take] at hi; omega
    rw [show (xs.take m).getD i 0 = xs.getD i 0 by simp [List.getD, hi'.1]]
    exact hc i hi'.2

/-- A row that the call made, as a slice from its head. -/
theorem Row.whole {w b xs} (h : Row w b xs) (hm : xs.length ≤ maxLen) : Sl w (some ⟨b, 0, none⟩) xs.length xs := by
  have := h.sl 0 xs.length xs.length (by omega) (Nat.le_refl _) hm
  simpa using this

/-- What trim leaves is the limbs of the value, in the same place. -/
theorem Sl.trimmed {w ad c xs} (h : Sl w ad c xs) : Sl w ad c (limbs (val xs)) := by
  obtain ⟨m, hm⟩ := limbs_prefix xs h.2.2.1
  rw [hm]; exact h.take m

theorem Num.nil (w : World) : Num w (.slice none 0 0) 0 := by
  refine ⟨none, 0, by rw [limbs_zero]; rfl, ?_⟩
  rw [limbs_zero]
  exact ⟨Nat.le_refl _, by unfold maxLen; omega, (by intro x hx; cases hx), .inl ⟨rfl, rfl⟩⟩

theorem Num.nilOff {w : World} {b o c : Nat} (hb : b < w.heap.size) (hc : c ≤ maxLen) : Num w (.slice (some ⟨b, o, none⟩) 0 c) 0 := by
  refine ⟨_, c, by rw [limbs_zero]; rfl, ?_⟩
  rw [limbs_zero]
  exact ⟨Nat.zero_le _, hc, (by intro x hx; cases hx), .inr ⟨b, o, rfl, hb, by intro i hi; exact (Nat.not_lt_zero _ hi).elim⟩⟩

theorem below_trans {a b c : World} (h : Below a.heap.size a b) (k : Below b.heap.size b c) : Below a.heap.size a c := h.trans (k.mono h.size)

/-- Below, from a world's own size on, over a store into a block from B on -/
theorem Row.only {w w' : World} {b B : Nat} {xs} (h : Row w b xs) (ho : Only B w w') (hb : b ≠ B) : Row w' b xs := by
  have hl := h.lt
  obtain ⟨h0, e, h'⟩ := h
  exact ⟨h0, e, by rw [ho.block b hl hb]; exact h'⟩

theorem Only.refl (B : Nat) (w : World) : Only B w w := ⟨rfl, rfl, rfl, Nat.le_refl _, fun _ _ _ => rfl⟩
theorem Only.trans {B : Nat} {a b c : World} (h : Only B a b) (k : Only B b c) : Only B a c :=
  ⟨k.os.trans h.os, k.tape.trans h.tape, k.output.trans h.output, Nat.le_trans h.size k.size, fun i hi hB => (k.block i (Nat.lt_of_lt_of_le hi h.size) hB).trans (h.block i hi hB)⟩
theorem Only.setCell {B : Nat} {a w : World} (h : Only B a w) {p : Addr} (hp : p.block = B) (u : Value) : Only B a (w.setCell p u) :=
  h.trans ⟨rfl, rfl, rfl, by simp [World.setCell], fun k hk hB => Below.heap_setCell _ _ _ _ (by omega)⟩
theorem Only.drew {B : Nat} {a w : World} (h : Only B a w) : Only B a w.drew := ⟨h.os, h.tape, h.output, h.size, h.block⟩
theorem Only.drewN {B : Nat} {a w : World} (h : Only B a w) (n : Nat) : Only B a (w.drewN n) := h.trans ⟨rfl, rfl, rfl, Nat.le_refl _, fun _ _ _ => rfl⟩
theorem Only.cell {B : Nat} {w w' : World} (h : Only B w w') {p : Addr} (hp : p.block < w.heap.size) (hB : p.block ≠ B) : w'.cell? p = w.cell? p := World.cell?_of_block (w := w) (h.block p.block hp hB)
theorem Only.frozen {B : Nat} {w w' : World} (h : Only B w w') {p : Addr} (hp : p.block < w.heap.size) (hB : p.block ≠ B) : w'.frozen? p = w.frozen? p := World.frozen?_of_block (w := w) (h.block p.block hp hB)
theorem below_toOnly {w w' : World} (h : Below w.heap.size w w') (B : Nat) : Only B w w' := ⟨h.os, h.tape, h.output, h.size, fun k hk _ => h.block k hk⟩
/-- what a call of ours did to a block of our own is nothing to what was there before -/
theorem below_only {B : Nat} {a b c : World} {r : Nat} (h : Below B a b) (k : Only r b c) (hr : B ≤ r) (hB : B ≤ b.heap.size) : Below B a c :=
  h.trans ⟨k.os, k.tape, k.output, k.size, fun i hi => k.block i (by omega) (by omega)⟩

/-- The slice does not lie in block B. -/
def Apart (B : Nat) : Value → Prop
  | .slice (some a) _ _ => a.block ≠ B
  | _ => True

theorem Sl.only {w w' : World} {ad c xs B} (h : Sl w ad c xs) (ho : Only B w w') (hB : ∀ a, ad = some a → a.block ≠ B) : Sl w' ad c xs := by
  obtain ⟨h1, h2, h3, h | ⟨b, o, ha, hl, hc⟩⟩ := h
  · exact ⟨h1, h2, h3, .inl h⟩
  · have hb := hB _ ha
    exact ⟨h1, h2, h3, .inr ⟨b, o, ha, Nat.lt_of_lt_of_le hl ho.size, fun i hi => by
      rw [ho.cell (p := ⟨b, o + i, none⟩) hl hb, ho.frozen (p := ⟨b, o + i, none⟩) hl hb]
      exact hc i hi⟩⟩

theorem Num.only {w w' : World} {v : Value} {n B : Nat} (h : Num w v n) (ho : Only B w w') (hB : Apart B v) : Num w' v n := by
  obtain ⟨ad, c, rfl, hs⟩ := h
  exact ⟨ad, c, rfl, hs.only ho (fun a ha => by subst ha; exact hB)⟩

theorem Fresh.apart {B r : Nat} {v : Value} (h : Fresh B v) (hr : r < B) : Apart r v := by
  unfold Fresh at h
  unfold Apart
  split at h
  · show _ ≠ r
    omega
  · trivial

theorem Row.drewN {w b xs} (h : Row w b xs) (n : Nat) : Row (w.drewN n) b xs := h
theorem Row.drew {w b xs} (h : Row w b xs) : Row w.drew b xs := h

theorem Num.apart_new {w : World} {v : Value} {n B : Nat} (h : Num w v n) (hB : w.heap.size ≤ B) : Apart B v := by
  obtain ⟨ad, c, rfl, _, _, _, h | ⟨b, o, rfl, hb, _⟩⟩ := h
  · obtain ⟨rfl, _⟩ := h
    trivial
  · show b ≠ B
    omega

theorem Sl.drop {w ad c xs} (h : Sl w ad c xs) (b o n : Nat) (ha : ad = some ⟨b, o, none⟩) (hn : n ≤ xs.length) : Sl w (some ⟨b, o + n, none⟩) (c - n) (xs.drop n) := by
  obtain ⟨h1, h2, h3, h4⟩ := h
  refine ⟨by rw [List.length_drop]; omega, by omega, fun x hx => h3 x (List.mem_of_mem_drop hx), ?_⟩
  rcases h4 with h4 | ⟨b', o', ha', hb, hc⟩
  · rw [ha] at h4; cases h4.1
  · rw [ha] at ha'
    cases ha'
    refine .inr ⟨b, o + n, rfl, hb, fun i hi => ?_⟩
    rw [List.length_drop] at hi
    have := hc (n + i) (by omega)
    rw [show o + n + i = o + (n + i) by omega, show (xs.drop n).getD i 0 = xs.getD (n + i) 0 by simp [List.getD]]
    exact this

/-- what an owned row of numbers is, as a slice -/
theorem owns_sl {w : World} {B e : Nat} {v : Value} {n : Nat} {xs : List Nat} (h : w.ownsRow B e 1 v n (lims xs)) (hd : ∀ x ∈ xs, x < 4294967296) :
    ∃ ad c, v = .slice ad xs.length c ∧ Sl w ad c xs ∧ ∀ a, ad = some a → B ≤ a.block := by
  obtain ⟨hl, h⟩ := h
  have hn : xs.length = n := by simpa [lims] using hl
  subst hn
  rcases h with ⟨rfl, h0⟩ | ⟨g, cap, cur, rfl, hg, hh, hnc, hcm, hcs, htake⟩
  · have : xs = [] := List.eq_nil_of_length_eq_zero h0
    subst this
    exact ⟨none, 0, rfl, ⟨Nat.le_refl _, by unfold maxLen; omega, (by intro x hx; cases hx), .inl ⟨rfl, rfl⟩⟩, by intro a ha; cases ha⟩
  · refine ⟨some ⟨g, 0, none⟩, cap, rfl, ⟨hnc, hcm, hd, .inr ⟨g, 0, rfl, lt_of_block hh, fun i hi => ⟨?_, ?_⟩⟩⟩, by intro a ha; cases ha; exact hg⟩
    · have e : cur[i]? = some (.int .u32 (xs.getD i 0)) := by
        have h1 : (cur.toList.take (xs.length * 1))[i]? = (lims xs)[i]? := by rw [htake]
        rw [List.getElem?_take, if_pos (by omega)] at h1
        rw [← Array.getElem?_toList, h1]
        simp [lims, hi]
      simp [World.cell?, hh, e]
    · simp [World.frozen?, hh]

/-- append([]uint32(nil), x...): a copy. -/
theorem wpList_append_copy {P : Program} {w : World} {ops : Array Oper} {rest : List Oper} {o : Oper} {a : Act} {Q : Exit → Act → World → Prop} (hgd : o.guard = none) (x : Operand) (t : TypeId)
    (ho : o.op = .call { callee := .builtin .append, args := #[.const (.slice none 0 0), x], argTypes := #[t, t] })
    (e : TypeId) (ht : P.underlying t = some (.slice e)) (h2 : (P.info? e).map (fun i => (i.zero, i.size, i.bytes)) = some (some (.int .u32 0), 1, 4))
    (ad : Option Addr) (n c : Nat) (xs : List Nat) (hx : a.eval x = .slice ad n c) (hn : n = xs.length) (hs : Sl w ad c xs) (hl : xs.length ≤ 1099511627776)
    (h : ∀ ad' c' w', Sl w' ad' c' xs → (∀ a, ad' = some a → w.heap.size ≤ a.block) → Below w.heap.size w w' → wpList P ops Q rest (a.put o.dst (.slice ad' n c')) w') : wpList P ops Q (o :: rest) a w := by
  subst hn
  obtain ⟨i, hi, z0, z1, z2⟩ := info_parts h2
  have hd := hs.2.2.1
  rcases hs.2.2.2 with ⟨rfl, rfl⟩ | ⟨b, off, rfl, hb, hc⟩
  · have h0 : xs = [] := List.eq_nil_of_length_eq_zero (by have := hs.1; omega)
    subst h0
    exact wpList_append_own_none hgd (.const (.slice none 0 0)) x t ho 0 e i 1 ht hi (.slice none 0 0) 0 [] rfl (World.ownsRow_nil _ _ _ _) hx (h none 0 w hs (by intro a ha; cases ha) (Below.refl _ _))
  · refine wpList_append_own w hgd (.const (.slice none 0 0)) x t ho w.heap.size e i (.int .u32 0) 1 4 ht hi z0 z1 z2 rfl (by decide) (.slice none 0 0) 0 [] rfl (World.ownsRow_nil _ _ _ _)
      ⟨b, off, none⟩ xs.length c (lims xs) hx (by simp [lims]) (fun j u hj => ?_) (fun u hu => ?_) (by unfold maxLen; omega) (by omega) (Nat.le_refl _) ?_
    · have hj' : j < xs.length := by
        have := (List.getElem?_eq_some_iff.1 hj).1
        simpa [lims] using this
      have hv : u = .int .u32 (xs.getD j 0) := by
        simp [lims, hj'] at hj
        simp [List.getD, hj', ← hj]
      rw [hv, ← (hc j hj').1]
      unfold Addr.add
      split
      · subst_vars; rfl
      · rfl
    · obtain ⟨y, _, rfl⟩ := List.mem_map.1 hu
      rfl
    · intro v' w' hown hgrow _
      rw [Nat.zero_add, List.nil_append] at hown
      obtain ⟨ad', c', rfl, hs', hf⟩ := owns_sl hown hd
      exact h ad' c' w' hs' hf ((Below.refl _ _).grown hgrow (Nat.le_refl _) (by intro k hk; cases hk))

theorem fresh_of {B : Nat} {ad : Option Addr} {n c : Nat} (h : ∀ a, ad = some a → B ≤ a.block) : Fresh B (.slice ad n c) := by
  cases ad with
  | none => trivial
  | some a => exact h a rfl

/-- two limbs put together -/
theorem or_limbs (r x : Nat) (hr : r < 4294967296) (hx : x < 4294967296) : bits BinOp.or IntKind.u64 ((r : Int) * 4294967296) (x : Int) = ((r * 4294967296 + x : Nat) : Int) := by
  have hk : ∀ n : Int, 0 ≤ n → n < 2 ^ 64 → IntKind.u64.wrap n = n := fun n h0 h1 => by rw [IntKind.wrap_u64]; omega
  have e : (2 : Int) ^ 32 = 4294967296 := by decide
  have e2 : (2 : Int) ^ 64 = 18446744073709551616 := by decide
  have h := bits_join .u64 64 (by simp [IntKind.bits]) hk 32 ((r : Int) * 4294967296) (x : Int) (by omega) (by rw [e]; omega) (by rw [e2]; omega) (by omega) (by rw [e]; omega) (by rw [e2]; omega)
  rw [h]
  omega

/-- a limb of a slice is written -/
theorem Sl.set {w b o c xs} (h : Sl w (some ⟨b, o, none⟩) c xs) (i v : Nat) (hi : i < xs.length) (hv : v < 4294967296) (z : Int) (hz : z = (v : Int)) : Sl (w.setCell ⟨b, o + i, none⟩ (.int .u32 z)) (some ⟨b, o, none⟩) c (xs.set i v) := by
  subst hz
  obtain ⟨h1, h2, h3, h4⟩ := h
  refine ⟨by rw [List.length_set]; exact h1, h2, fun x hx => ?_, ?_⟩
  · rcases List.mem_or_eq_of_mem_set hx with hx | rfl
    · exact h3 x hx
    · exact hv
  · rcases h4 with h4 | ⟨b', o', ha, hb, hc⟩
    · cases h4.1
    · cases ha
      refine .inr ⟨b, o, rfl, by simpa [World.setCell] using hb, fun j hj => ?_⟩
      rw [List.length_set] at hj
      have hcj := hc j hj
      constructor
      · by_cases e : j = i
        · subst e
          rw [getD_set_eq _ _ hj]
          exact World.cell?_setCell_same _ _ _ (hc j hj).1
        · rw [getD_set_ne _ _ (Ne.symm e), ← hcj.1]
          exact World.cell?_setCell_other w ⟨b, o + i, none⟩ ⟨b, o + j, none⟩ _ (by intro h; apply e; injection h with h1 h2; omega)
      · rw [World.frozen?_setCell]
        exact hcj.2

theorem bits_or_comm (k : IntKind) (a b : Int) : bits BinOp.or k a b = bits BinOp.or k b a := by
  simp only [bits, BitVec.or_comm]

theorem or_limbs' (r x : Nat) (hr : r < 4294967296) (hx : x < 4294967296) : bits BinOp.or IntKind.u64 (x : Int) ((r : Int) * 4294967296) = ((r * 4294967296 + x : Nat) : Int) := by
  rw [bits_or_comm]
  exact or_limbs r x hr hx

theorem getD_mid (L us T : List Nat) (i : Nat) (hi : i < us.length) : (L ++ us ++ T).getD (L.length + i) 0 = us.getD i 0 := by
  rw [List.append_assoc]
  simp [List.getD, List.getElem?_append_right, List.getElem?_append_left, hi]

theorem set_mid (L us T : List Nat) (i v : Nat) (hi : i < us.length) : (L ++ us ++ T).set (L.length + i) v = L ++ us.set i v ++ T := by
  rw [List.append_assoc, List.append_assoc, List.set_append_right _ _ (by omega), Nat.add_sub_cancel_left, List.set_append_left _ _ hi]

/-- a window in a row -/
theorem Row.midCell {w b L us T o} (h : Row w b (L ++ us ++ T)) (ho : L.length = o) {i : Nat} (hi : i < us.length) : w.cell? ⟨b, o + i, none⟩ = some (.int .u32 (us.getD i 0)) := by
  subst ho
  rw [h.cell (by simp only [List.length_append]; omega), getD_mid _ _ _ _ hi]

theorem Row.midPut {w b L us T o} (h : Row w b (L ++ us ++ T)) (ho : L.length = o) (i v : Nat) (hi : i < us.length) (hv : v < 4294967296) (z : Int) (hz : z = (v : Int)) :
    Row (w.setCell ⟨b, o + i, none⟩ (.int .u32 z)) b (L ++ us.set i v ++ T) := by
  subst ho
  have := h.put (L.length + i) v hv z hz
  rwa [set_mid _ _ _ _ _ hi] at this

theorem Row.midLt {w b L us T} (h : Row w b (L ++ us ++ T)) : ∀ x ∈ us, x < 4294967296 := fun x hx => h.1 x (by simp [hx])

/-- copy(u, x): the numbers are laid at the row's head. -/
theorem wpList_copy_nums {P : Program} {w : World} {ops : Array Oper} {rest : List Oper} {o : Oper} {a : Act} {Q : Exit → Act → World → Prop} (hgd : o.guard = none) (d s : Operand) (dT sT : TypeId)
    (ho : o.op = .call { callee := .builtin .copy, args := #[d, s], argTypes := #[dT, sT] }) (elem : TypeId) (hu : P.underlying dT = some (.slice elem)) (h2 : (P.info? elem).map (fun i => (i.zero, i.size, i.bytes)) = some (some (.int .u32 0), 1, 4))
    (g N : Nat) (R : List Nat) (hR : Row w g R) (hN : R.length = N) (ad : Option Addr) (n c : Nat) (xs : List Nat) (hs : Sl w ad c xs) (hn : n = xs.length) (hle : xs.length ≤ N)
    (hd : a.eval d = .slice (some ⟨g, 0, none⟩) N N) (hx : a.eval s = .slice ad n c)
    (h : ∀ w', Row w' g (xs ++ R.drop xs.length) → Below g w w' → wpList P ops Q rest (a.put o.dst (goInt xs.length)) w') : wpList P ops Q (o :: rest) a w := by
  subst hn
  obtain ⟨hd0, e, hg⟩ := hR
  have hsz : (P.info? elem).map (·.size) = some 1 := by
    obtain ⟨i, hi, _, h4, _⟩ := info_parts h2
    rw [hi]; simp [h4]
  have hl : (lims xs).length = xs.length := by simp [lims]
  refine wpList_copy_splice hgd d s dT sT ho elem hu hsz (some ⟨g, 0, none⟩) ad N N xs.length c hd hx g 0 (lims R) e hg (lims xs) ?_ ?_ ?_ ?_ g w (Below.refl _ _) (Nat.le_refl _) ?_
  · rw [hl]; exact (Nat.min_eq_left hle).symm
  · intro hpos
    refine ⟨rfl, ?_⟩
    rw [hl] at hpos
    obtain ⟨b, off, rfl, hb, hc⟩ : ∃ b o, ad = some ⟨b, o, none⟩ ∧ b < w.heap.size ∧ ∀ i, i < xs.length → w.cell? ⟨b, o + i, none⟩ = some (.int .u32 (xs.getD i 0)) := by
      obtain ⟨h1, _, _, h3 | ⟨b, o, ha, hb, hc⟩⟩ := hs
      · omega
      · exact ⟨b, o, ha, hb, fun i hi => (hc i hi).1⟩
    refine ⟨_, rfl, fun j u hj => ?_⟩
    have hj' : j < xs.length := by
      have := (List.getElem?_eq_some_iff.1 hj).1
      rwa [hl] at this
    have hv : u = .int .u32 (xs.getD j 0) := by
      simp [lims, hj'] at hj
      simp [List.getD, hj', ← hj]
    rw [hv, ← hc j hj']
    unfold Addr.add
    split
    · subst_vars; rfl
    · rfl
  · simp [lims]; omega
  · intro u hu
    obtain ⟨y, _, rfl⟩ := List.mem_map.1 hu
    rfl
  · intro w' hh hb
    rw [hl]
    refine h w' ⟨fun x hx => ?_, e, ?_⟩ hb
    · rcases List.mem_append.1 hx with hx | hx
      · exact hs.2.2.1 x hx
      · exact hd0 x (List.mem_of_mem_drop hx)
    · have := hh.out
      have e2 : splice (lims R) 0 (lims xs) = lims (xs ++ R.drop xs.length) := by
        simp [splice, lims, List.map_drop]
      rwa [e2] at this

theorem only_set (w : World) (p : Addr) (u : Value) : Only p.block w (w.setCell p u) := (Only.refl _ _).setCell rfl u

theorem Row.only_set {w b xs} (h : Row w b xs) (B : Nat) (hB : B ≠ b) (i : Nat) (u : Value) : Row (w.setCell ⟨B, i, none⟩ u) b xs := h.only (Go.Proofs.only_set w ⟨B, i, none⟩ u) (Ne.symm hB)

/-- k & 1 -/
theorem and_one_i64 (k : Nat) (h : k < 9223372036854775808) : bits BinOp.and IntKind.i64 (k : Int) 1 = ((k % 2 : Nat) : Int) := by
  have hk : ∀ n : Int, 0 ≤ n → n < 2 ^ 63 → IntKind.i64.wrap n = n := fun n h0 h1 => by rw [IntKind.wrap_i64]; omega
  have h1 := bits_mask .i64 63 (by simp [IntKind.bits]) hk 1 (by omega) (k : Int) (by omega) (by rw [show (2 : Int) ^ 63 = 9223372036854775808 from by decide]; omega)
  have e2 : (2 : Int) ^ 1 = 2 := by decide
  rw [e2] at h1
  have e3 : (2 : Int) - 1 = 1 := by decide
  rw [e3] at h1
  rw [h1]
  omega

/-- a new block of one limb -/
theorem row_one (w : World) (x : Nat) (e : Nat) (hx : x < 4294967296) : Row (w.alloc (.cells #[Value.int .u32 (x : Int)] e)) w.heap.size [x] := by
  refine ⟨by intro y hy; simp at hy; omega, e, ?_⟩
  rw [heap_alloc_new]; rfl

theorem num_one (w : World) (e : Nat) : Num (w.alloc (.cells #[Value.int .u32 1] e)) (.slice (some ⟨w.heap.size, 0, none⟩) 1 1) 1 := by
  have h := (row_one w 1 e (by omega)).whole (by simp [maxLen])
  refine ⟨_, 1, by rw [limbs_one]; rfl, ?_⟩
  rw [limbs_one]
  exact h

/-- A value that is a slice of these limbs, whatever they are. -/
def Raw (w : World) (v : Value) (xs : List Nat) : Prop := ∃ ad c, v = .slice ad xs.length c ∧ Sl w ad c xs

theorem Num.raw {w v n} (h : Num w v n) : Raw w v (limbs n) := h
theorem Raw.mono {w w' : World} {v : Value} {xs : List Nat} (h : Raw w v xs) (hb : Below w.heap.size w w') : Raw w' v xs := by
  obtain ⟨ad, c, rfl, hs⟩ := h
  exact ⟨ad, c, rfl, hs.mono (Nat.le_refl _) hb⟩

/-- the error that Check returns -/
def chk (xs : List Nat) : Int := if 262144 < xs.length then 3 else if xs.getLast? = some 0 then 2 else 0

theorem chk_num {xs : List Nat} (h : chk xs = 0) (hd : ∀ x ∈ xs, x < 4294967296) : limbs (val xs) = xs ∧ xs.length ≤ 262144 := by
  unfold chk at h
  split at h
  · cases h
  · split at h
    · cases h
    · rename_i h1 h2
      exact ⟨limbs_val_last xs hd (fun x hx e => h2 (by rw [hx, e])), by omega⟩

theorem Raw.num {w v xs} (h : Raw w v xs) (hc : chk xs = 0) : Num w v (val xs) := by
  obtain ⟨ad, c, rfl, hs⟩ := h
  have e := (chk_num hc hs.2.2.1).1
  exact ⟨ad, c, by rw [e], by rw [e]; exact hs⟩

theorem chk_limbs (n : Nat) : chk (limbs n) = if 262144 < (limbs n).length then 3 else 0 := by
  unfold chk
  split
  · rfl
  · rw [if_neg]
    intro h
    exact limbs_last n 0 h rfl

/-- the first error of some -/
def firstErr : List (List Nat) → Int
  | [] => 0
  | xs :: l => if chk xs = 0 then firstErr l else chk xs

theorem chk_cases (xs : List Nat) : chk xs = 0 ∨ chk xs = 2 ∨ chk xs = 3 := by
  unfold chk; split
  · exact .inr (.inr rfl)
  · split
    · exact .inr (.inl rfl)
    · exact .inl rfl

end Go.Proofs
end

