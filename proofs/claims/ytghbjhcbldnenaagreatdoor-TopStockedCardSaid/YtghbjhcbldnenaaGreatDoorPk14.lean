/- The cheapest picks, by dynamic programming from the last course on: plain law. -/
import Derived.WalkKit

section
namespace Go.Proofs
set_option linter.unusedVariables false
set_option linter.unusedSimpArgs false

/-- the least of f 0, .., f (n - 1) that are not -1, and the first place that has it -/
def amin (f : Nat → Int) : Nat → Int × Nat
  | 0 => (-1, 0)
  | n + 1 => if f n ≠ -1 ∧ ((amin f n).1 = -1 ∨ f n < (amin f n).1) then (f n, n) else amin f n
theorem amin_none {f : Nat → Int} : ∀ {n : Nat}, (amin f n).1 = -1 → ∀ k, k < n → f k = -1
  | 0, _, k, hk => by omega
  | n + 1, h, k, hk => by
    rw [amin] at h
    split at h
    · rename_i h1
      exact absurd h h1.1
    · rename_i h1
      rcases Nat.lt_or_ge k n with h2 | h2
      · exact amin_none h k h2
      · obtain rfl : k = n := by omega
        by_cases h3 : f k = -1
        · exact h3
        · exact absurd ⟨h3, .inl h⟩ h1
theorem amin_some {f : Nat → Int} : ∀ {n : Nat}, (amin f n).1 ≠ -1 → (amin f n).2 < n ∧ f (amin f n).2 = (amin f n).1 ∧ ∀ k, k < n → f k ≠ -1 → (amin f n).1 < f k ∨ ((amin f n).1 = f k ∧ (amin f n).2 ≤ k)
  | 0, h => absurd rfl h
  | n + 1, h => by
    rw [amin] at h ⊢
    split
    · rename_i h1
      refine ⟨by dsimp only; omega, rfl, fun k hk hf => ?_⟩
      dsimp only
      rcases Nat.lt_or_ge k n with h2 | h2
      · rcases h1.2 with h3 | h3
        · exact absurd (amin_none h3 k h2) hf
        · by_cases h4 : (amin f n).1 = -1
          · exact absurd (amin_none h4 k h2) hf
          · rcases (amin_some h4).2.2 k h2 hf with h5 | h5 <;> omega
      · obtain rfl : k = n := by omega
        exact .inr ⟨rfl, Nat.le_refl _⟩
    · rename_i h1
      rw [if_neg h1] at h
      obtain ⟨a, b, c⟩ := amin_some h
      refine ⟨by omega, b, fun k hk hf => ?_⟩
      rcases Nat.lt_or_ge k n with h2 | h2
      · exact c k h2 hf
      · obtain rfl : k = n := by omega
        by_cases h3 : (amin f k).1 < f k
        · exact .inl h3
        · right
          by_cases h4 : f k < (amin f k).1
          · exact absurd ⟨hf, .inr h4⟩ h1
          · exact ⟨by omega, by omega⟩
theorem amin_ge {f : Nat → Int} (hf : ∀ k, -1 ≤ f k) : ∀ n, -1 ≤ (amin f n).1
  | 0 => by simp [amin]
  | n + 1 => by
    rw [amin]
    split
    · exact hf n
    · exact amin_ge hf n

/-- what one more course can be reached by: the value behind it -/
def onwF (fol : Nat → Nat → Bool) (R : Nat → Nat → Int) (frm left : Nat) (to : Nat) : Int :=
  if fol frm to then (if to = frm then R to left else if left = 0 then -1 else R to (left - 1)) else -1
def onw (fol : Nat → Nat → Bool) (K : Nat) (R : Nat → Nat → Int) (frm left : Nat) : Int × Nat := amin (onwF fol R frm left) K

/-- the least cost of the last j + 1 courses of n, by the first one's pick and the changes that are left -/
def restJ (fol : Nat → Nat → Bool) (K : Nat) (pr : Nat → Nat → Int) (n : Nat) : Nat → Nat → Nat → Int
  | 0, k, _ => pr (n - 1) k
  | j + 1, k, left => if pr (n - 1 - (j + 1)) k = -1 then -1 else
      if (onw fol K (restJ fol K pr n j) k left).1 = -1 then -1 else pr (n - 1 - (j + 1)) k + (onw fol K (restJ fol K pr n j) k left).1

/-- picks q of the last j + 1 courses: allowed with so many changes; their cost; less than others -/
def okJ (fol : Nat → Nat → Bool) (pr : Nat → Nat → Int) (n : Nat) (q : Nat → Nat) : Nat → Nat → Prop
  | 0, _ => pr (n - 1) (q (n - 1)) ≠ -1
  | j + 1, left => pr (n - 1 - (j + 1)) (q (n - 1 - (j + 1))) ≠ -1 ∧ fol (q (n - 1 - (j + 1))) (q (n - 1 - j)) = true ∧
      (if q (n - 1 - j) = q (n - 1 - (j + 1)) then okJ fol pr n q j left else left ≠ 0 ∧ okJ fol pr n q j (left - 1))
def costJ (pr : Nat → Nat → Int) (n : Nat) (q : Nat → Nat) : Nat → Int
  | 0 => pr (n - 1) (q (n - 1))
  | j + 1 => pr (n - 1 - (j + 1)) (q (n - 1 - (j + 1))) + costJ pr n q j
def lexJ (n : Nat) (q q' : Nat → Nat) : Nat → Prop
  | 0 => q (n - 1) < q' (n - 1)
  | j + 1 => q (n - 1 - (j + 1)) < q' (n - 1 - (j + 1)) ∨ (q (n - 1 - (j + 1)) = q' (n - 1 - (j + 1)) ∧ lexJ n q q' j)

section
variable {fol : Nat → Nat → Bool} {K : Nat} {pr : Nat → Nat → Int} {n : Nat}

theorem restJ_ge (hp : ∀ i k, -1 ≤ pr i k) : ∀ j k left, -1 ≤ restJ fol K pr n j k left
  | 0, k, left => hp _ _
  | j + 1, k, left => by
    have h1 := hp (n - 1 - (j + 1)) k
    have h2 : -1 ≤ (onw fol K (restJ fol K pr n j) k left).1 := amin_ge (fun to => by
      unfold onwF
      split
      · split
        · exact restJ_ge hp j _ _
        · split
          · omega
          · exact restJ_ge hp j _ _
      · omega) K
    rw [restJ]
    split
    · omega
    · split
      · omega
      · omega

theorem amin_le {f : Nat → Int} {M : Int} (hM : -1 ≤ M) (hf : ∀ k, f k ≤ M) : ∀ n, (amin f n).1 ≤ M
  | 0 => hM
  | n + 1 => by
    rw [amin]
    split
    · exact hf n
    · exact amin_le hM hf n
theorem onw_le {R : Nat → Nat → Int} {M : Int} (hM : -1 ≤ M) (hR : ∀ k l, R k l ≤ M) (frm left : Nat) : (onw fol K R frm left).1 ≤ M :=
  amin_le hM (fun to => by
    unfold onwF
    split
    · split
      · exact hR _ _
      · split
        · exact hM
        · exact hR _ _
    · exact hM) K
theorem restJ_le {M : Int} (h0 : 0 ≤ M) (hp : ∀ i k, pr i k ≤ M) : ∀ (j k left : Nat), restJ fol K pr n j k left ≤ M * ((j : Int) + 1)
  | 0, k, left => by
    have := hp (n - 1) k
    simp only [restJ]
    omega
  | j + 1, k, left => by
    have h1 := hp (n - 1 - (j + 1)) k
    have e : M * (((j + 1 : Nat) : Int) + 1) = M * ((j : Int) + 1) + M := by rw [Int.natCast_add, Int.mul_add M, Int.mul_one]; rfl
    have h3 : 0 ≤ M * ((j : Int) + 1) := Int.mul_nonneg h0 (by omega)
    have h2 : (onw fol K (restJ fol K pr n j) k left).1 ≤ M * ((j : Int) + 1) := onw_le (by omega) (fun k l => restJ_le h0 hp j k l) k left
    rw [restJ, e]
    split
    · omega
    · split
      · omega
      · omega
theorem onw_ge (hp : ∀ i k, -1 ≤ pr i k) (j k left : Nat) : -1 ≤ (onw fol K (restJ fol K pr n j) k left).1 := amin_ge (fun to => by
  unfold onwF
  split
  · split
    · exact restJ_ge hp j _ _
    · split
      · omega
      · exact restJ_ge hp j _ _
  · omega) K
theorem rest_last {i : Nat} (hi : i + 1 = n) (k l : Nat) : restJ fol K pr n (n - 1 - i) k l = pr i k := by
  rw [show n - 1 - i = 0 by omega, restJ, show n - 1 = i by omega]
theorem rest_none {i k : Nat} (hi : i < n) (h : pr i k = -1) (l : Nat) : restJ fol K pr n (n - 1 - i) k l = -1 := by
  by_cases h1 : i + 1 = n
  · rw [rest_last h1, h]
  · rw [show n - 1 - i = (n - 1 - (i + 1)) + 1 by omega, restJ, show n - 1 - (n - 1 - (i + 1) + 1) = i by omega, if_pos h]
theorem rest_more {i k : Nat} (hi : i + 1 < n) (h : pr i k ≠ -1) (l : Nat) : restJ fol K pr n (n - 1 - i) k l = if (onw fol K (restJ fol K pr n (n - 1 - (i + 1))) k l).1 = -1 then -1 else pr i k + (onw fol K (restJ fol K pr n (n - 1 - (i + 1))) k l).1 := by
  rw [show n - 1 - i = (n - 1 - (i + 1)) + 1 by omega, restJ, show n - 1 - (n - 1 - (i + 1) + 1) = i by omega, if_neg h]

/-- the tail's value as the step sees it -/
theorem onwF_tail {q : Nat → Nat} {R : Nat → Nat → Int} {a b left : Nat} (hf : fol a b = true) : onwF fol R a left b = if b = a then R b left else if left = 0 then -1 else R b (left - 1) := by
  unfold onwF; rw [if_pos hf]

/-- allowed picks cost no less than the value -/
theorem rest_le (hp : ∀ i k, -1 ≤ pr i k) {q : Nat → Nat} (hq : ∀ i, i < n → q i < K) (hn : 0 < n) : ∀ j left, j < n → okJ fol pr n q j left →
    restJ fol K pr n j (q (n - 1 - j)) left ≠ -1 ∧ restJ fol K pr n j (q (n - 1 - j)) left ≤ costJ pr n q j
  | 0, left, hj, h => ⟨h, Int.le_refl _⟩
  | j + 1, left, hj, ⟨h1, h2, h3⟩ => by
    have tail : onwF fol (restJ fol K pr n j) (q (n - 1 - (j + 1))) left (q (n - 1 - j)) ≠ -1 ∧ onwF fol (restJ fol K pr n j) (q (n - 1 - (j + 1))) left (q (n - 1 - j)) ≤ costJ pr n q j := by
      rw [onwF_tail (q := q) h2]
      split
      · rename_i h4
        rw [if_pos h4] at h3
        exact rest_le hp hq hn j left (by omega) h3
      · rename_i h4
        rw [if_neg h4] at h3
        rw [if_neg h3.1]
        exact rest_le hp hq hn j (left - 1) (by omega) h3.2
    have hK : q (n - 1 - j) < K := hq _ (by omega)
    have hm : (onw fol K (restJ fol K pr n j) (q (n - 1 - (j + 1))) left).1 ≠ -1 := fun e => tail.1 (amin_none e _ hK)
    have hle := (amin_some hm).2.2 _ hK tail.1
    have h5 := hp (n - 1 - (j + 1)) (q (n - 1 - (j + 1)))
    have h6 : -1 ≤ (onw fol K (restJ fol K pr n j) (q (n - 1 - (j + 1))) left).1 := amin_ge (fun to => by
      unfold onwF
      split
      · split
        · exact restJ_ge hp j _ _
        · split
          · omega
          · exact restJ_ge hp j _ _
      · omega) K
    rw [restJ, if_neg h1, if_neg hm, costJ]
    change (onw fol K (restJ fol K pr n j) (q (n - 1 - (j + 1))) left).1 < _ ∨ ((onw fol K (restJ fol K pr n j) (q (n - 1 - (j + 1))) left).1 = _ ∧ _) at hle
    have t2 := tail.2
    omega

/-- the road that the values lead along: the pick and the changes that are left, course by course -/
def road (fol : Nat → Nat → Bool) (K : Nat) (pr : Nat → Nat → Int) (n k0 ch : Nat) : Nat → Nat × Nat
  | 0 => (k0, ch)
  | i + 1 =>
    ((onw fol K (restJ fol K pr n (n - 1 - (i + 1))) (road fol K pr n k0 ch i).1 (road fol K pr n k0 ch i).2).2,
      if (onw fol K (restJ fol K pr n (n - 1 - (i + 1))) (road fol K pr n k0 ch i).1 (road fol K pr n k0 ch i).2).2 = (road fol K pr n k0 ch i).1 then (road fol K pr n k0 ch i).2 else (road fol K pr n k0 ch i).2 - 1)

/-- the step along the road -/
theorem road_step {k0 ch i : Nat} (hi : i + 1 < n) (hne : restJ fol K pr n (n - 1 - i) (road fol K pr n k0 ch i).1 (road fol K pr n k0 ch i).2 ≠ -1) :
    pr i (road fol K pr n k0 ch i).1 ≠ -1 ∧ fol (road fol K pr n k0 ch i).1 (road fol K pr n k0 ch (i + 1)).1 = true ∧ (road fol K pr n k0 ch (i + 1)).1 < K ∧
    (if (road fol K pr n k0 ch (i + 1)).1 = (road fol K pr n k0 ch i).1 then (road fol K pr n k0 ch (i + 1)).2 = (road fol K pr n k0 ch i).2 else (road fol K pr n k0 ch i).2 ≠ 0 ∧ (road fol K pr n k0 ch (i + 1)).2 = (road fol K pr n k0 ch i).2 - 1) ∧
    restJ fol K pr n (n - 1 - (i + 1)) (road fol K pr n k0 ch (i + 1)).1 (road fol K pr n k0 ch (i + 1)).2 ≠ -1 ∧
    restJ fol K pr n (n - 1 - i) (road fol K pr n k0 ch i).1 (road fol K pr n k0 ch i).2 = pr i (road fol K pr n k0 ch i).1 + restJ fol K pr n (n - 1 - (i + 1)) (road fol K pr n k0 ch (i + 1)).1 (road fol K pr n k0 ch (i + 1)).2 ∧
    ∀ to, to < K → onwF fol (restJ fol K pr n (n - 1 - (i + 1))) (road fol K pr n k0 ch i).1 (road fol K pr n k0 ch i).2 to ≠ -1 →
      restJ fol K pr n (n - 1 - (i + 1)) (road fol K pr n k0 ch (i + 1)).1 (road fol K pr n k0 ch (i + 1)).2 < onwF fol (restJ fol K pr n (n - 1 - (i + 1))) (road fol K pr n k0 ch i).1 (road fol K pr n k0 ch i).2 to ∨
      (restJ fol K pr n (n - 1 - (i + 1)) (road fol K pr n k0 ch (i + 1)).1 (road fol K pr n k0 ch (i + 1)).2 = onwF fol (restJ fol K pr n (n - 1 - (i + 1))) (road fol K pr n k0 ch i).1 (road fol K pr n k0 ch i).2 to ∧ (road fol K pr n k0 ch (i + 1)).1 ≤ to) := by
  obtain ⟨k, left, hr⟩ : ∃ k left, road fol K pr n k0 ch i = (k, left) := ⟨_, _, rfl⟩
  have hnext : road fol K pr n k0 ch (i + 1) = ((onw fol K (restJ fol K pr n (n - 1 - (i + 1))) k left).2, if (onw fol K (restJ fol K pr n (n - 1 - (i + 1))) k left).2 = k then left else left - 1) := by
    show (_, _) = _
    rw [hr]
  have ej : n - 1 - i = (n - 1 - (i + 1)) + 1 := by omega
  have ei : n - 1 - (n - 1 - (i + 1) + 1) = i := by omega
  rw [hr] at hne ⊢
  dsimp only at hne ⊢
  rw [ej, restJ, ei] at hne ⊢
  by_cases h1 : pr i k = -1
  · rw [if_pos h1] at hne; exact absurd rfl hne
  rw [if_neg h1] at hne
  rw [if_neg h1]
  by_cases h2 : (onw fol K (restJ fol K pr n (n - 1 - (i + 1))) k left).1 = -1
  · rw [if_pos h2] at hne; exact absurd rfl hne
  rw [if_neg h2]
  obtain ⟨a1, a2, a3⟩ := amin_some h2
  change (onw fol K (restJ fol K pr n (n - 1 - (i + 1))) k left).2 < K at a1
  change onwF fol (restJ fol K pr n (n - 1 - (i + 1))) k left (onw fol K (restJ fol K pr n (n - 1 - (i + 1))) k left).2 = (onw fol K (restJ fol K pr n (n - 1 - (i + 1))) k left).1 at a2
  change ∀ to, to < K → onwF fol (restJ fol K pr n (n - 1 - (i + 1))) k left to ≠ -1 → (onw fol K (restJ fol K pr n (n - 1 - (i + 1))) k left).1 < _ ∨ ((onw fol K (restJ fol K pr n (n - 1 - (i + 1))) k left).1 = _ ∧ (onw fol K (restJ fol K pr n (n - 1 - (i + 1))) k left).2 ≤ to) at a3
  rw [hnext]
  dsimp only
  generalize (onw fol K (restJ fol K pr n (n - 1 - (i + 1))) k left).2 = to at *
  generalize (onw fol K (restJ fol K pr n (n - 1 - (i + 1))) k left).1 = v at *
  have hfol : fol k to = true := by
    cases h3 : fol k to with
    | true => rfl
    | false => unfold onwF at a2; rw [h3, if_neg (by simp)] at a2; exact absurd a2.symm h2
  have hv : onwF fol (restJ fol K pr n (n - 1 - (i + 1))) k left to = _ := onwF_tail (q := fun _ => 0) hfol
  rw [a2] at hv
  refine ⟨h1, hfol, a1, ?_, ?_, ?_, ?_⟩
  · by_cases h3 : to = k
    · rw [if_pos h3, if_pos h3]
    · rw [if_neg h3, if_neg h3]
      refine ⟨fun h4 => ?_, rfl⟩
      rw [if_neg h3, if_pos h4] at hv
      exact h2 hv
  · by_cases h3 : to = k
    · rw [if_pos h3] at hv ⊢
      rw [← hv]; exact h2
    · rw [if_neg h3] at hv ⊢
      by_cases h4 : left = 0
      · rw [if_pos h4] at hv; exact absurd hv h2
      · rw [if_neg h4] at hv; rw [← hv]; exact h2
  · by_cases h3 : to = k
    · rw [if_pos h3] at hv ⊢
      rw [← hv]
    · rw [if_neg h3] at hv ⊢
      by_cases h4 : left = 0
      · rw [if_pos h4] at hv; exact absurd hv h2
      · rw [if_neg h4] at hv; rw [← hv]
  · have e : restJ fol K pr n (n - 1 - (i + 1)) to (if to = k then left else left - 1) = v := by
      by_cases h3 : to = k
      · rw [if_pos h3] at hv ⊢
        exact hv.symm
      · rw [if_neg h3] at hv ⊢
        by_cases h4 : left = 0
        · rw [if_pos h4] at hv; exact absurd hv h2
        · rw [if_neg h4] at hv; exact hv.symm
    rw [e]
    exact a3

/-- the values along the road are there -/
theorem road_val {k0 ch : Nat} (h0 : restJ fol K pr n (n - 1) k0 ch ≠ -1) (hk0 : k0 < K) : ∀ i, i < n → restJ fol K pr n (n - 1 - i) (road fol K pr n k0 ch i).1 (road fol K pr n k0 ch i).2 ≠ -1 ∧ (road fol K pr n k0 ch i).1 < K
  | 0, _ => ⟨h0, hk0⟩
  | i + 1, hi => by
    obtain ⟨_, _, a, _, b, _⟩ := road_step hi (road_val h0 hk0 i (by omega)).1
    exact ⟨b, a⟩

/-- the road is allowed, and costs the value -/
theorem road_ok {k0 ch : Nat} (h0 : restJ fol K pr n (n - 1) k0 ch ≠ -1) (hk0 : k0 < K) : ∀ j, j < n →
    okJ fol pr n (fun i => (road fol K pr n k0 ch i).1) j (road fol K pr n k0 ch (n - 1 - j)).2 ∧ costJ pr n (fun i => (road fol K pr n k0 ch i).1) j = restJ fol K pr n j (road fol K pr n k0 ch (n - 1 - j)).1 (road fol K pr n k0 ch (n - 1 - j)).2
  | 0, hj => by
    have h := (road_val h0 hk0 (n - 1) (by omega)).1
    rw [show n - 1 - (n - 1) = 0 by omega] at h
    exact ⟨h, rfl⟩
  | j + 1, hj => by
    have e1 : n - 1 - (j + 1) + 1 = n - 1 - j := by omega
    have e2 : n - 1 - (n - 1 - (j + 1)) = j + 1 := by omega
    have e3 : n - 1 - (n - 1 - j) = j := by omega
    obtain ⟨a1, a2, _, a4, a5, a6, _⟩ := road_step (show n - 1 - (j + 1) + 1 < n by omega) (road_val h0 hk0 (n - 1 - (j + 1)) (by omega)).1
    obtain ⟨b1, b2⟩ := road_ok h0 hk0 j (by omega)
    rw [e1] at a2 a4 a5 a6
    rw [e2, e3] at a6
    refine ⟨⟨a1, a2, ?_⟩, ?_⟩
    · dsimp only
      split
      · rename_i h
        rw [if_pos h] at a4
        rw [← a4]; exact b1
      · rename_i h
        rw [if_neg h] at a4
        rw [← a4.2]; exact ⟨a4.1, b1⟩
    · rw [costJ, b2]
      exact a6.symm

/-- no allowed picks of the same cost, with the same first pick, are lexicographically less than the road -/
theorem road_lex (hp : ∀ i k, -1 ≤ pr i k) {k0 ch : Nat} (h0 : restJ fol K pr n (n - 1) k0 ch ≠ -1) (hk0 : k0 < K) {q : Nat → Nat} (hq : ∀ i, i < n → q i < K) : ∀ j, j < n →
    q (n - 1 - j) = (road fol K pr n k0 ch (n - 1 - j)).1 → okJ fol pr n q j (road fol K pr n k0 ch (n - 1 - j)).2 → costJ pr n q j = restJ fol K pr n j (road fol K pr n k0 ch (n - 1 - j)).1 (road fol K pr n k0 ch (n - 1 - j)).2 →
    ¬ lexJ n q (fun i => (road fol K pr n k0 ch i).1) j
  | 0, hj, he, _, _ => by
    intro h
    unfold lexJ at h
    rw [show n - 1 - 0 = n - 1 by omega] at he
    omega
  | j + 1, hj, he, ⟨o1, o2, o3⟩, hc => by
    have e1 : n - 1 - (j + 1) + 1 = n - 1 - j := by omega
    have e2 : n - 1 - (n - 1 - (j + 1)) = j + 1 := by omega
    have e3 : n - 1 - (n - 1 - j) = j := by omega
    obtain ⟨a1, a2, a3, a4, a5, a6, a7⟩ := road_step (show n - 1 - (j + 1) + 1 < n by omega) (road_val h0 hk0 (n - 1 - (j + 1)) (by omega)).1
    rw [e1] at a2 a3 a4 a5 a6 a7
    rw [e2, e3] at a6
    rw [e3] at a5 a7
    rw [he] at o1 o2 o3
    rw [costJ, he, a6] at hc
    have hct : costJ pr n q j = restJ fol K pr n j (road fol K pr n k0 ch (n - 1 - j)).1 (road fol K pr n k0 ch (n - 1 - j)).2 := by omega
    have hK := hq (n - 1 - j) (by omega)
    have ht := onwF_tail (q := q) (R := restJ fol K pr n j) (left := (road fol K pr n k0 ch (n - 1 - (j + 1))).2) o2
    have tail : onwF fol (restJ fol K pr n j) (road fol K pr n k0 ch (n - 1 - (j + 1))).1 (road fol K pr n k0 ch (n - 1 - (j + 1))).2 (q (n - 1 - j)) ≠ -1 ∧
        onwF fol (restJ fol K pr n j) (road fol K pr n k0 ch (n - 1 - (j + 1))).1 (road fol K pr n k0 ch (n - 1 - (j + 1))).2 (q (n - 1 - j)) ≤ costJ pr n q j := by
      rw [ht]
      split
      · rename_i h4
        rw [if_pos h4] at o3
        exact rest_le hp hq (by omega) j _ (by omega) o3
      · rename_i h4
        rw [if_neg h4] at o3
        rw [if_neg o3.1]
        exact rest_le hp hq (by omega) j _ (by omega) o3.2
    have hmin := a7 _ hK tail.1
    have hle := tail.2
    rw [hct] at hle
    have hwhich : (road fol K pr n k0 ch (n - 1 - j)).1 ≤ q (n - 1 - j) := by
      rcases hmin with h | h
      · omega
      · exact h.2
    intro hl
    rcases hl with hl | ⟨hl, hl2⟩
    · dsimp only at hl; omega
    · have heq : q (n - 1 - j) = (road fol K pr n k0 ch (n - 1 - j)).1 := by
        have hhead : q (n - 1 - j) ≤ (road fol K pr n k0 ch (n - 1 - j)).1 := by
          cases j with
          | zero =>
            unfold lexJ at hl2
            rw [show n - 1 - 0 = n - 1 by omega]
            omega
          | succ j =>
            rcases hl2 with h | ⟨h, _⟩
            · exact Nat.le_of_lt h
            · exact Nat.le_of_eq h
        omega
      refine road_lex hp h0 hk0 hq j (by omega) heq ?_ hct hl2
      rw [heq] at o3
      split at o3
      · rename_i h4
        rw [if_pos h4] at a4
        rw [a4]; exact o3
      · rename_i h4
        rw [if_neg h4] at a4
        rw [a4.2]; exact o3.2
end

end Go.Proofs
end

