/- Plain facts on lists of limbs to the base 2^32; no program in sight. -/
namespace Go.Proofs
set_option linter.unusedVariables false
set_option linter.unusedSimpArgs false

/-- the value of a list of limbs, the least one first -/
def val : List Nat → Nat
  | [] => 0
  | x :: xs => x + 4294967296 * val xs

/-- the limbs of a number, without zeros at the end -/
def limbs (n : Nat) : List Nat := if h : n = 0 then [] else (n % 4294967296) :: limbs (n / 4294967296)
termination_by n
decreasing_by omega

theorem limbs_zero : limbs 0 = [] := by rw [limbs]; simp
theorem limbs_pos {n : Nat} (h : n ≠ 0) : limbs n = (n % 4294967296) :: limbs (n / 4294967296) := by rw [limbs]; simp [h]

theorem val_limbs (n : Nat) : val (limbs n) = n := by
  induction n using Nat.strongRecOn with
  | _ n ih =>
    by_cases h : n = 0
    · subst h; rw [limbs_zero]; rfl
    · rw [limbs_pos h, val, ih _ (by omega)]; omega

theorem limbs_lt (n : Nat) : ∀ x ∈ limbs n, x < 4294967296 := by
  induction n using Nat.strongRecOn with
  | _ n ih =>
    by_cases h : n = 0
    · subst h; rw [limbs_zero]; intro x hx; cases hx
    · rw [limbs_pos h]
      intro x hx
      rcases List.mem_cons.1 hx with rfl | hx
      · omega
      · exact ih _ (by omega) x hx

theorem limbs_inj {m n : Nat} (h : limbs m = limbs n) : m = n := by
  have := congrArg val h
  rwa [val_limbs, val_limbs] at this

theorem limbs_eq_nil {n : Nat} : limbs n = [] ↔ n = 0 := by
  constructor
  · intro h
    exact limbs_inj (h.trans limbs_zero.symm)
  · intro h; rw [h, limbs_zero]

theorem val_append (xs ys : List Nat) : val (xs ++ ys) = val xs + 4294967296 ^ xs.length * val ys := by
  induction xs with
  | nil => simp [val]
  | cons x xs ih =>
    rw [List.cons_append, val, ih, val, List.length_cons, Nat.pow_succ]
    have : 4294967296 * (4294967296 ^ xs.length * val ys) = 4294967296 ^ xs.length * 4294967296 * val ys := by
      rw [← Nat.mul_assoc, Nat.mul_comm 4294967296 (4294967296 ^ xs.length)]
    rw [Nat.mul_add, this]; omega

theorem val_snoc (xs : List Nat) (y : Nat) : val (xs ++ [y]) = val xs + 4294967296 ^ xs.length * y := by
  rw [val_append]; simp [val]

theorem val_lt (xs : List Nat) (h : ∀ x ∈ xs, x < 4294967296) : val xs < 4294967296 ^ xs.length := by
  induction xs with
  | nil => simp [val]
  | cons x xs ih =>
    have h1 := h x (by simp)
    have h2 := ih fun y hy => h y (by simp [hy])
    rw [val, List.length_cons, Nat.pow_succ]
    omega

theorem val_replicate (k : Nat) : val (List.replicate k 0) = 0 := by
  induction k with
  | zero => rfl
  | succ k ih => rw [List.replicate_succ, val, ih]

theorem val_take_succ (xs : List Nat) (i : Nat) (h : i < xs.length) : val (xs.take (i + 1)) = val (xs.take i) + 4294967296 ^ i * xs.getD i 0 := by
  rw [List.take_succ_eq_append_getElem h, val_snoc]
  simp [List.getD, h, Nat.min_eq_left (Nat.le_of_lt h)]

theorem val_take_of_le (xs : List Nat) (i : Nat) (h : xs.length ≤ i) : val (xs.take (i + 1)) = val (xs.take i) := by
  rw [List.take_of_length_le h, List.take_of_length_le (by omega)]

theorem val_take_drop (xs : List Nat) (i : Nat) (h : i ≤ xs.length) : val xs = val (xs.take i) + 4294967296 ^ i * val (xs.drop i) := by
  conv => lhs; rw [← List.take_append_drop i xs]
  rw [val_append]; simp [Nat.min_eq_left h]

/-- the limbs of a value whose list ends in no zero -/
theorem limbs_val_last : ∀ (xs : List Nat), (∀ x ∈ xs, x < 4294967296) → (∀ x, xs.getLast? = some x → x ≠ 0) → limbs (val xs) = xs
  | [], _, _ => by rw [val, limbs_zero]
  | [x], h, hl => by
    have h1 := h x (by simp)
    have h2 := hl x (by simp)
    rw [val, val, limbs_pos (by omega)]
    have e1 : (x + 4294967296 * 0) % 4294967296 = x := by omega
    have e2 : (x + 4294967296 * 0) / 4294967296 = 0 := by omega
    rw [e1, e2, limbs_zero]
  | x :: y :: xs, h, hl => by
    have ih := limbs_val_last (y :: xs) (fun z hz => h z (List.mem_cons_of_mem _ hz)) (fun z hz => hl z (by simpa using hz))
    have h1 := h x (by simp)
    have hne : val (y :: xs) ≠ 0 := by
      intro e
      rw [e, limbs_zero] at ih
      cases ih
    rw [val, limbs_pos (by omega)]
    have e1 : (x + 4294967296 * val (y :: xs)) % 4294967296 = x := by omega
    have e2 : (x + 4294967296 * val (y :: xs)) / 4294967296 = val (y :: xs) := by omega
    rw [e1, e2, ih]

theorem limbs_last (n : Nat) : ∀ x, (limbs n).getLast? = some x → x ≠ 0 := by
  induction n using Nat.strongRecOn with
  | _ n ih =>
    by_cases h : n = 0
    · subst h; rw [limbs_zero]; intro x hx; cases hx
    · rw [limbs_pos h]
      intro x hx
      by_cases h2 : n / 4294967296 = 0
      · rw [h2, limbs_zero] at hx
        simp at hx
        omega
      · have hne : limbs (n / 4294967296) ≠ [] := fun e => h2 (limbs_eq_nil.1 e)
        rw [List.getLast?_cons_of_ne_nil hne] at hx
        exact ih _ (by omega) x hx

/-- a prefix that bears the whole value and ends in no zero is the limbs -/
theorem limbs_of_take (xs : List Nat) (m : Nat) (hm : m ≤ xs.length) (h : ∀ x ∈ xs, x < 4294967296) (hv : val (xs.take m) = val xs) (hl : m = 0 ∨ xs.getD (m - 1) 0 ≠ 0) :
    limbs (val xs) = xs.take m := by
  rw [← hv]
  refine limbs_val_last _ (fun x hx => h x (List.mem_of_mem_take hx)) fun x hx => ?_
  rcases hl with rfl | hl
  · simp at hx
  · by_cases h0 : m = 0
    · subst h0; simp at hx
    · have e : (xs.take m).getLast? = some (xs.getD (m - 1) 0) := by
        rw [List.getLast?_eq_getElem?]
        have e2 : (xs.take m).length = m := by simp; omega
        rw [e2, List.getElem?_take, if_pos (by omega)]
        simp [List.getD, show m - 1 < xs.length by omega]
      rw [e] at hx
      cases hx
      exact hl

theorem val_take_pred (xs : List Nat) (m : Nat) (h0 : 0 < m) (hm : m ≤ xs.length) (hx : xs.getD (m - 1) 0 = 0) : val (xs.take (m - 1)) = val (xs.take m) := by
  have h := val_take_succ xs (m - 1) (by omega)
  rw [hx, Nat.mul_zero, Nat.add_zero, Nat.sub_add_cancel h0] at h
  exact h.symm

theorem limbs_prefix_of (xs : List Nat) (h : ∀ x ∈ xs, x < 4294967296) : ∀ k, k ≤ xs.length → val (xs.take k) = val xs → ∃ m, limbs (val xs) = xs.take m := by
  intro k
  induction k with
  | zero => exact fun hk hv => ⟨0, limbs_of_take xs 0 hk h hv (.inl rfl)⟩
  | succ k ih =>
    intro hk hv
    by_cases hx : xs.getD k 0 = 0
    · exact ih (by omega) ((val_take_pred xs (k + 1) (by omega) hk hx).trans hv)
    · exact ⟨k + 1, limbs_of_take xs (k + 1) hk h hv (.inr hx)⟩

/-- the limbs of a value are a prefix of the list -/
theorem limbs_prefix (xs : List Nat) (h : ∀ x ∈ xs, x < 4294967296) : ∃ m, limbs (val xs) = xs.take m :=
  limbs_prefix_of xs h xs.length (Nat.le_refl _) (by simp)

theorem limbs_length_le {n k : Nat} (h : n < 4294967296 ^ k) : (limbs n).length ≤ k := by
  induction k generalizing n with
  | zero =>
    have : n = 0 := by simpa using h
    subst this; rw [limbs_zero]; exact Nat.le_refl _
  | succ k ih =>
    by_cases h0 : n = 0
    · subst h0; rw [limbs_zero]; exact Nat.zero_le _
    · rw [limbs_pos h0, List.length_cons]
      have : n / 4294967296 < 4294967296 ^ k := by
        rw [Nat.pow_succ] at h
        exact Nat.div_lt_of_lt_mul (by rw [Nat.mul_comm]; exact h)
      have := ih this
      omega

theorem lt_pow_length (n : Nat) : n < 4294967296 ^ (limbs n).length := by
  have := val_lt _ (limbs_lt n)
  rwa [val_limbs] at this

theorem pow_length_le {n : Nat} (h : n ≠ 0) : 4294967296 ^ ((limbs n).length - 1) ≤ n := by
  rcases Nat.lt_or_ge n (4294967296 ^ ((limbs n).length - 1)) with h1 | h1
  · have := limbs_length_le h1
    have h2 : limbs n ≠ [] := fun e => h (limbs_eq_nil.1 e)
    have h3 : 0 < (limbs n).length := List.length_pos_iff.2 h2
    omega
  · exact h1

theorem limbs_length_le_iff {n k : Nat} : (limbs n).length ≤ k ↔ n < 4294967296 ^ k := by
  constructor
  · intro h
    exact Nat.lt_of_lt_of_le (lt_pow_length n) (Nat.pow_le_pow_right (by omega) h)
  · exact limbs_length_le

theorem limbs_length_mono {m n : Nat} (h : m ≤ n) : (limbs m).length ≤ (limbs n).length :=
  limbs_length_le (Nat.lt_of_le_of_lt h (lt_pow_length n))

theorem limbs_length_add (m n : Nat) : (limbs (m + n)).length ≤ max (limbs m).length (limbs n).length + 1 := by
  refine limbs_length_le ?_
  have h1 := lt_pow_length m
  have h2 := lt_pow_length n
  have h3 : 4294967296 ^ (limbs m).length ≤ 4294967296 ^ (max (limbs m).length (limbs n).length) := Nat.pow_le_pow_right (by omega) (Nat.le_max_left _ _)
  have h4 : 4294967296 ^ (limbs n).length ≤ 4294967296 ^ (max (limbs m).length (limbs n).length) := Nat.pow_le_pow_right (by omega) (Nat.le_max_right _ _)
  rw [Nat.pow_succ]
  omega

theorem limbs_length_mul (m n : Nat) : (limbs (m * n)).length ≤ (limbs m).length + (limbs n).length := by
  refine limbs_length_le ?_
  have h1 := lt_pow_length m
  have h2 := lt_pow_length n
  rw [Nat.pow_add]
  exact Nat.mul_lt_mul'' h1 h2

/-- the length tells the greater of two numbers -/
theorem lt_of_length_lt {m n : Nat} (h : (limbs m).length < (limbs n).length) : m < n := by
  rcases Nat.lt_or_ge m n with h1 | h1
  · exact h1
  · have := limbs_length_mono h1
    omega

/-- a number by its greatest limb -/
theorem limbs_top {n : Nat} (h : n ≠ 0) : ∃ lo, n = lo + 4294967296 ^ ((limbs n).length - 1) * (limbs n).getD ((limbs n).length - 1) 0 ∧ lo < 4294967296 ^ ((limbs n).length - 1) ∧ (limbs n).getD ((limbs n).length - 1) 0 ≠ 0 := by
  have hne : limbs n ≠ [] := fun e => h (limbs_eq_nil.1 e)
  have hlen : 0 < (limbs n).length := List.length_pos_iff.2 hne
  refine ⟨val ((limbs n).take ((limbs n).length - 1)), ?_, ?_, ?_⟩
  · have := val_take_succ (limbs n) ((limbs n).length - 1) (by omega)
    rw [Nat.sub_add_cancel hlen, List.take_of_length_le (Nat.le_refl _), val_limbs] at this
    exact this
  · have := val_lt ((limbs n).take ((limbs n).length - 1)) fun x hx => limbs_lt n x (List.mem_of_mem_take hx)
    rwa [List.length_take, Nat.min_eq_left (by omega)] at this
  · refine limbs_last n _ ?_
    rw [List.getLast?_eq_getElem?]
    simp [List.getD, show (limbs n).length - 1 < (limbs n).length by omega]

theorem val_set : ∀ (xs : List Nat) (k v : Nat), k < xs.length → val (xs.set k v) + 4294967296 ^ k * xs.getD k 0 = val xs + 4294967296 ^ k * v
  | [], k, v, h => by simp at h
  | x :: xs, 0, v, h => by simp [val]; omega
  | x :: xs, k + 1, v, h => by
    have ih := val_set xs k v (by simpa using h)
    have e : (x :: xs).getD (k + 1) 0 = xs.getD k 0 := by simp [List.getD]
    rw [List.set_cons_succ, val, val, e, Nat.pow_succ]
    have h1 : 4294967296 ^ k * 4294967296 * xs.getD k 0 = 4294967296 * (4294967296 ^ k * xs.getD k 0) := by grind
    have h2 : 4294967296 ^ k * 4294967296 * v = 4294967296 * (4294967296 ^ k * v) := by grind
    rw [h1, h2]
    omega

theorem getD_set_ne (xs : List Nat) {k j : Nat} (v : Nat) (h : k ≠ j) : (xs.set k v).getD j 0 = xs.getD j 0 := by
  simp [List.getD, List.getElem?_set_ne h]

theorem getD_set_eq (xs : List Nat) {k : Nat} (v : Nat) (h : k < xs.length) : (xs.set k v).getD k 0 = v := by
  simp [List.getD, h]

theorem getD_lt_of {xs : List Nat} (h : ∀ x ∈ xs, x < 4294967296) (i : Nat) : xs.getD i 0 < 4294967296 := by
  by_cases hi : i < xs.length
  · have := h xs[i] (List.getElem_mem hi)
    simpa [List.getD, hi] using this
  · simp [List.getD, hi]

/-- one limb decides where all above are alike -/
theorem val_lt_of_limb {xs ys : List Nat} {i : Nat} (hx : ∀ x ∈ xs, x < 4294967296) (hl : xs.length = ys.length) (hi : i < xs.length)
    (htop : xs.drop (i + 1) = ys.drop (i + 1)) (h : xs.getD i 0 < ys.getD i 0) : val xs < val ys := by
  have e1 := val_take_drop xs (i + 1) (by omega)
  have e2 := val_take_drop ys (i + 1) (by omega)
  have t1 := val_take_succ xs i hi
  have t2 := val_take_succ ys i (by omega)
  have b1 : val (xs.take i) < 4294967296 ^ i := by
    have := val_lt (xs.take i) fun x h => hx x (List.mem_of_mem_take h)
    rwa [List.length_take, Nat.min_eq_left (by omega)] at this
  rw [e1, e2, htop, t1, t2]
  have : 4294967296 ^ i * (xs.getD i 0 + 1) ≤ 4294967296 ^ i * ys.getD i 0 := Nat.mul_le_mul_left _ h
  rw [Nat.mul_add, Nat.mul_one] at this
  omega

theorem limbs_drop {m n : Nat} (h : n < (limbs m).length) : limbs (m / 4294967296 ^ n) = (limbs m).drop n := by
  have e := val_take_drop (limbs m) n (by omega)
  rw [val_limbs] at e
  have hlt : val ((limbs m).take n) < 4294967296 ^ n := by
    have := val_lt ((limbs m).take n) fun x hx => limbs_lt m x (List.mem_of_mem_take hx)
    rwa [List.length_take, Nat.min_eq_left (by omega)] at this
  have hdiv : m / 4294967296 ^ n = val ((limbs m).drop n) := by
    conv => lhs; rw [e]
    rw [Nat.add_mul_div_left _ _ (Nat.pow_pos (by omega)), Nat.div_eq_of_lt hlt, Nat.zero_add]
  rw [hdiv]
  refine limbs_val_last _ (fun x hx => limbs_lt m x (List.mem_of_mem_drop hx)) fun x hx => ?_
  refine limbs_last m x ?_
  rw [List.getLast?_drop] at hx
  rw [if_neg (by omega)] at hx
  exact hx

theorem val_take_mod (m n : Nat) (h : n ≤ (limbs m).length) : val ((limbs m).take n) = m % 4294967296 ^ n := by
  have e := val_take_drop (limbs m) n h
  rw [val_limbs] at e
  have hlt : val ((limbs m).take n) < 4294967296 ^ n := by
    have := val_lt ((limbs m).take n) fun x hx => limbs_lt m x (List.mem_of_mem_take hx)
    rwa [List.length_take, Nat.min_eq_left (by omega)] at this
  conv => rhs; rw [e]
  rw [Nat.add_mul_mod_self_left, Nat.mod_eq_of_lt hlt]

theorem room_of_val {k n N : Nat} (hk : k ≤ N) (h : 4294967296 ^ k * n < 4294967296 ^ N) : k + (limbs n).length ≤ N := by
  have h2 : n < 4294967296 ^ (N - k) := by
    have e : 4294967296 ^ N = 4294967296 ^ k * 4294967296 ^ (N - k) := by rw [← Nat.pow_add]; congr 1; omega
    rw [e] at h
    exact Nat.lt_of_mul_lt_mul_left h
  have := limbs_length_le h2
  omega

theorem val_take_le (xs : List Nat) (k : Nat) : val (xs.take k) ≤ val xs := by
  by_cases h : k ≤ xs.length
  · rw [val_take_drop xs k h]; omega
  · rw [List.take_of_length_le (by omega)]; exact Nat.le_refl _

theorem limbs_length_val (xs : List Nat) (h : ∀ x ∈ xs, x < 4294967296) : (limbs (val xs)).length ≤ xs.length :=
  limbs_length_le (val_lt xs h)

theorem val_drop_cons (xs : List Nat) (i : Nat) (h : i < xs.length) : val (xs.drop i) = xs.getD i 0 + 4294967296 * val (xs.drop (i + 1)) := by
  rw [List.drop_eq_getElem_cons h, val]
  simp [List.getD, h]

theorem drop_set_succ (xs : List Nat) (i v : Nat) : (xs.set i v).drop (i + 1) = xs.drop (i + 1) := by
  rw [List.drop_set_of_lt (by omega)]

theorem val_drop_set (xs : List Nat) (i v : Nat) (h : i < xs.length) : val ((xs.set i v).drop i) = v + 4294967296 * val (xs.drop (i + 1)) := by
  rw [val_drop_cons _ _ (by simpa using h), drop_set_succ, getD_set_eq _ _ h]

theorem getD_replicate (n i : Nat) : (List.replicate n 0).getD i 0 = 0 := by
  simp [List.getD, List.getElem?_replicate]; split <;> rfl

/-- one digit of a number moved down by r bits -/
theorem down_digit (z v r : Nat) (hr : r ≤ 32) (hz : z < 4294967296) : (z + 4294967296 * v) / 2 ^ r = (z + 4294967296 * (v % 4294967296)) / 2 ^ r % 4294967296 + 4294967296 * (v / 2 ^ r) := by
  have hp := Nat.two_pow_pos r
  have e : (4294967296 : Nat) = 2 ^ r * 2 ^ (32 - r) := by
    rw [← Nat.pow_add, show r + (32 - r) = 32 by omega]
  have h1 : (z + 4294967296 * v) / 2 ^ r / 4294967296 = v / 2 ^ r := by
    rw [Nat.div_div_eq_div_mul, Nat.mul_comm (2 ^ r) 4294967296, ← Nat.div_div_eq_div_mul, Nat.add_mul_div_left _ _ (by omega), Nat.div_eq_of_lt hz, Nat.zero_add]
  have h2 : (z + 4294967296 * v) / 2 ^ r = (z + 4294967296 * (v % 4294967296)) / 2 ^ r + 4294967296 * (2 ^ (32 - r) * (v / 4294967296)) := by
    have e2 : z + 4294967296 * v = (z + 4294967296 * (v % 4294967296)) + 2 ^ r * (4294967296 * (2 ^ (32 - r) * (v / 4294967296))) := by
      have h3 := Nat.div_add_mod v 4294967296
      have h4 : 2 ^ r * (4294967296 * (2 ^ (32 - r) * (v / 4294967296))) = 4294967296 * ((2 ^ r * 2 ^ (32 - r)) * (v / 4294967296)) := by grind
      rw [h4, ← e]
      omega
    rw [e2, Nat.add_mul_div_left _ _ hp]
  have h3 : (z + 4294967296 * v) / 2 ^ r % 4294967296 = (z + 4294967296 * (v % 4294967296)) / 2 ^ r % 4294967296 := by
    rw [h2, Nat.add_mul_mod_self_left]
  have h4 := Nat.div_add_mod ((z + 4294967296 * v) / 2 ^ r) 4294967296
  rw [h3, h1] at h4
  omega

theorem limbs_length_pow (m n : Nat) : (limbs (m ^ n)).length ≤ (limbs m).length * n + 1 := by
  refine limbs_length_le ?_
  have h : m ^ n ≤ (4294967296 ^ (limbs m).length) ^ n := Nat.pow_le_pow_left (Nat.le_of_lt (lt_pow_length m)) n
  rw [← Nat.pow_mul] at h
  have h2 : 4294967296 ^ ((limbs m).length * n) < 4294967296 ^ ((limbs m).length * n + 1) := Nat.pow_lt_pow_right (by omega) (by omega)
  omega

theorem limbs_one : limbs 1 = [1] := by
  rw [limbs_pos (by omega)]; simp [limbs_zero]

end Go.Proofs
