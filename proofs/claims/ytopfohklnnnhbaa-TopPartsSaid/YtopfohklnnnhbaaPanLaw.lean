/- The plain law of panels: the ways of a rectangle, its greatest value, the plan of the first way that reaches it. -/
import Derived.KernelRfl
namespace Go.Proofs
set_option linter.unusedVariables false
set_option linter.unusedSimpArgs false

/-- a shape -/
structure Shp where
  w : Int
  h : Int
  v : Int
  t : Bool
/-- a way: kind, place, value -/
structure Wy where
  k : Nat
  p : Nat
  v : Int

def shWays (i j k : Nat) (x : Shp) : List Wy :=
  (if x.w = (i : Int) ∧ x.h = (j : Int) then [⟨1, k, x.v⟩] else []) ++ (if x.t = true ∧ x.h = (i : Int) ∧ x.w = (j : Int) then [⟨2, k, x.v⟩] else [])
def shFrom (i j : Nat) : Nat → List Shp → List Wy
  | _, [] => []
  | k, x :: xs => shWays i j k x ++ shFrom i j (k + 1) xs
def acr (T : Nat → Nat → Int) (kf i j a : Nat) : Wy := ⟨3, a, T a j + T (i - a - kf) j⟩
def dwn (T : Nat → Nat → Int) (kf i j a : Nat) : Wy := ⟨4, a, T i a + T i (j - a - kf)⟩
def acrs (T : Nat → Nat → Int) (kf i j : Nat) : List Wy := (List.range' 1 (i - 1)).map (acr T kf i j)
def dwns (T : Nat → Nat → Int) (kf i j : Nat) : List Wy := (List.range' 1 (j - 1)).map (dwn T kf i j)
/-- all that can be done with a rectangle, in order -/
def waysL (T : Nat → Nat → Int) (kf : Nat) (sh : List Shp) (i j : Nat) : List Wy :=
  ⟨0, 0, 0⟩ :: (shFrom i j 0 sh ++ (acrs T kf i j ++ dwns T kf i j))
def most (l : List Wy) : Int := l.foldl (fun m x => max m x.v) 0

theorem waysL_congr {T T' : Nat → Nat → Int} {kf : Nat} {sh : List Shp} {i j : Nat} (h : ∀ a b, a ≤ i → b ≤ j → a + b < i + j → T a b = T' a b) (hi : 1 ≤ i) (hj : 1 ≤ j) : waysL T kf sh i j = waysL T' kf sh i j := by
  unfold waysL acrs dwns
  have e1 : (List.range' 1 (i - 1)).map (acr T kf i j) = (List.range' 1 (i - 1)).map (acr T' kf i j) := by
    refine List.map_congr_left fun a ha => ?_
    have := List.mem_range'_1.1 ha
    unfold acr
    rw [h a j (by omega) (by omega) (by omega), h (i - a - kf) j (by omega) (by omega) (by omega)]
  have e2 : (List.range' 1 (j - 1)).map (dwn T kf i j) = (List.range' 1 (j - 1)).map (dwn T' kf i j) := by
    refine List.map_congr_left fun a ha => ?_
    have := List.mem_range'_1.1 ha
    unfold dwn
    rw [h i a (by omega) (by omega) (by omega), h i (j - a - kf) (by omega) (by omega) (by omega)]
  rw [e1, e2]

/-- the greatest value of a rectangle -/
def Vf (kf : Nat) (sh : List Shp) : Nat → Nat → Nat → Int
  | 0, _, _ => 0
  | f + 1, i, j => if i = 0 ∨ j = 0 then 0 else most (waysL (Vf kf sh f) kf sh i j)
theorem Vf_zero (kf : Nat) (sh : List Shp) (f i j : Nat) (h : i = 0 ∨ j = 0) : Vf kf sh f i j = 0 := by
  cases f with
  | zero => rfl
  | succ f => unfold Vf; rw [if_pos h]
theorem Vf_stable (kf : Nat) (sh : List Shp) : ∀ (f g i j : Nat), i + j ≤ f → i + j ≤ g → Vf kf sh f i j = Vf kf sh g i j := by
  intro f
  induction f with
  | zero =>
    intro g i j h1 h2
    rw [Vf_zero _ _ _ _ _ (.inl (by omega)), Vf_zero _ _ _ _ _ (.inl (by omega))]
  | succ f ih =>
    intro g i j h1 h2
    by_cases h : i = 0 ∨ j = 0
    · rw [Vf_zero _ _ _ _ _ h, Vf_zero _ _ _ _ _ h]
    · cases g with
      | zero => omega
      | succ g =>
        unfold Vf
        rw [if_neg h, if_neg h]
        exact congrArg most (waysL_congr (fun a b ha hb hab => ih g a b (by omega) (by omega)) (by omega) (by omega))
def VV (kf : Nat) (sh : List Shp) (i j : Nat) : Int := Vf kf sh (i + j) i j
theorem VV_zero {kf : Nat} {sh : List Shp} {i j : Nat} (h : i = 0 ∨ j = 0) : VV kf sh i j = 0 := Vf_zero _ _ _ _ _ h
theorem VV_eq {kf : Nat} {sh : List Shp} {i j : Nat} (hi : 1 ≤ i) (hj : 1 ≤ j) : VV kf sh i j = most (waysL (VV kf sh) kf sh i j) := by
  have e : VV kf sh i j = Vf kf sh ((i + j) + 1) i j := Vf_stable _ _ _ _ _ _ (Nat.le_refl _) (by omega)
  rw [e]
  unfold Vf
  rw [if_neg (by omega)]
  exact congrArg most (waysL_congr (fun a b ha hb hab => Vf_stable _ _ _ _ _ _ (by omega) (by omega)) hi hj)

theorem foldl_max_ge : ∀ (l : List Wy) (m : Int), m ≤ l.foldl (fun m x => max m x.v) m ∧ ∀ x ∈ l, x.v ≤ l.foldl (fun m x => max m x.v) m
  | [], m => ⟨Int.le_refl _, fun x h => by cases h⟩
  | y :: l, m => by
    obtain ⟨h1, h2⟩ := foldl_max_ge l (max m y.v)
    refine ⟨Int.le_trans (Int.le_max_left _ _) h1, fun x hx => ?_⟩
    rcases List.mem_cons.1 hx with rfl | hx
    · exact Int.le_trans (Int.le_max_right _ _) h1
    · exact h2 x hx
theorem foldl_max_in : ∀ (l : List Wy) (m : Int), l.foldl (fun m x => max m x.v) m = m ∨ ∃ x ∈ l, x.v = l.foldl (fun m x => max m x.v) m
  | [], m => .inl rfl
  | y :: l, m => by
    rcases foldl_max_in l (max m y.v) with h | ⟨x, hx, h⟩
    · by_cases hm : y.v ≤ m
      · left
        show l.foldl _ (max m y.v) = m
        rw [h]; omega
      · right
        refine ⟨y, List.mem_cons_self, ?_⟩
        show y.v = l.foldl _ (max m y.v)
        rw [h]; omega
    · exact .inr ⟨x, List.mem_cons_of_mem _ hx, h⟩
theorem most_in (T : Nat → Nat → Int) (kf : Nat) (sh : List Shp) (i j : Nat) : ∃ x ∈ waysL T kf sh i j, x.v = most (waysL T kf sh i j) := by
  rcases foldl_max_in (waysL T kf sh i j) 0 with h | h
  · exact ⟨⟨0, 0, 0⟩, List.mem_cons_self, h.symm⟩
  · exact h
theorem most_ge {l : List Wy} : 0 ≤ most l := (foldl_max_ge l 0).1
theorem most_le {l : List Wy} {B : Int} (h0 : 0 ≤ B) (h : ∀ x ∈ l, x.v ≤ B) : most l ≤ B := by
  rcases foldl_max_in l 0 with h1 | ⟨x, hx, h1⟩
  · unfold most; rw [h1]; exact h0
  · unfold most; rw [← h1]; exact h x hx

theorem mem_shFrom {i j : Nat} {x : Wy} : ∀ {k : Nat} {sh : List Shp}, x ∈ shFrom i j k sh → (x.k = 1 ∨ x.k = 2) ∧ ∃ s ∈ sh, x.v = s.v
  | k, [], h => by cases h
  | k, s :: sh, h => by
    rcases List.mem_append.1 h with h | h
    · unfold shWays at h
      rcases List.mem_append.1 h with h | h
      · split at h
        · rw [List.mem_singleton] at h; subst h; exact ⟨.inl rfl, s, List.mem_cons_self, rfl⟩
        · cases h
      · split at h
        · rw [List.mem_singleton] at h; subst h; exact ⟨.inr rfl, s, List.mem_cons_self, rfl⟩
        · cases h
    · obtain ⟨h1, s', h2, h3⟩ := mem_shFrom h
      exact ⟨h1, s', List.mem_cons_of_mem _ h2, h3⟩
/-- which ways there are -/
theorem mem_ways {T : Nat → Nat → Int} {kf : Nat} {sh : List Shp} {i j : Nat} {x : Wy} (h : x ∈ waysL T kf sh i j) :
    (x.k = 0 ∧ x.v = 0) ∨ ((x.k = 1 ∨ x.k = 2) ∧ ∃ s ∈ sh, x.v = s.v) ∨ (x.k = 3 ∧ 1 ≤ x.p ∧ x.p < i ∧ x.v = T x.p j + T (i - x.p - kf) j) ∨ (x.k = 4 ∧ 1 ≤ x.p ∧ x.p < j ∧ x.v = T i x.p + T i (j - x.p - kf)) := by
  rcases List.mem_cons.1 h with rfl | h
  · exact .inl ⟨rfl, rfl⟩
  rcases List.mem_append.1 h with h | h
  · exact .inr (.inl (mem_shFrom h))
  rcases List.mem_append.1 h with h | h
  · obtain ⟨a, ha, rfl⟩ := List.mem_map.1 h
    have := List.mem_range'_1.1 ha
    exact .inr (.inr (.inl ⟨rfl, by show 1 ≤ a; omega, by show a < i; omega, rfl⟩))
  · obtain ⟨a, ha, rfl⟩ := List.mem_map.1 h
    have := List.mem_range'_1.1 ha
    exact .inr (.inr (.inr ⟨rfl, by show 1 ≤ a; omega, by show a < j; omega, rfl⟩))

/-- the bound of all values -/
theorem VV_bound {kf : Nat} {sh : List Shp} {M : Int} (hM : 0 ≤ M) (hs : ∀ s ∈ sh, s.v ≤ M) : ∀ (n i j : Nat), i + j ≤ n → 0 ≤ VV kf sh i j ∧ VV kf sh i j ≤ M * ((i * j : Nat) : Int) := by
  intro n
  induction n with
  | zero => intro i j h; rw [VV_zero (.inl (by omega)), show i = 0 by omega]; simp
  | succ n ih =>
    intro i j h
    by_cases h0 : i = 0 ∨ j = 0
    · rw [VV_zero h0]
      refine ⟨Int.le_refl _, ?_⟩
      rcases h0 with rfl | rfl <;> simp
    · rw [VV_eq (by omega) (by omega)]
      refine ⟨most_ge, most_le (Int.mul_nonneg hM (Int.natCast_nonneg _)) fun x hx => ?_⟩
      have hij : (1 : Int) ≤ ((i * j : Nat) : Int) := by
        have : 1 * 1 ≤ i * j := Nat.mul_le_mul (by omega) (by omega)
        omega
      have hMij : M * 1 ≤ M * ((i * j : Nat) : Int) := Int.mul_le_mul_of_nonneg_left hij hM
      have key : ∀ a b c d : Nat, a + b ≤ n → c + d ≤ n → a * b + c * d ≤ i * j → VV kf sh a b + VV kf sh c d ≤ M * ((i * j : Nat) : Int) := by
        intro a b c d h1 h2 h3
        have e1 := (ih a b h1).2
        have e2 := (ih c d h2).2
        have e3 : M * ((a * b + c * d : Nat) : Int) ≤ M * ((i * j : Nat) : Int) := Int.mul_le_mul_of_nonneg_left (by omega) hM
        rw [Int.natCast_add, Int.mul_add] at e3
        omega
      rcases mem_ways hx with ⟨_, h1⟩ | ⟨_, s, h1, h2⟩ | ⟨_, h1, h2, h3⟩ | ⟨_, h1, h2, h3⟩
      · rw [h1]; omega
      · rw [h2]; have := hs s h1; omega
      · rw [h3]
        refine key _ _ _ _ (by omega) (by omega) ?_
        rw [← Nat.add_mul]
        exact Nat.mul_le_mul_right _ (by omega)
      · rw [h3]
        refine key _ _ _ _ (by omega) (by omega) ?_
        rw [← Nat.mul_add]
        exact Nat.mul_le_mul_left _ (by omega)

/-- the plan: the first way that reaches the greatest value -/
def planF (kf : Nat) (sh : List Shp) : Nat → Nat → Nat → List (Nat × Nat)
  | 0, _, _ => []
  | f + 1, i, j =>
    match (waysL (VV kf sh) kf sh i j).find? (fun x => x.v == VV kf sh i j) with
    | none => []
    | some x => (x.k, x.p) ::
      (if x.k = 3 then planF kf sh f x.p j ++ (if 1 ≤ i - x.p - kf then planF kf sh f (i - x.p - kf) j else [])
       else if x.k = 4 then planF kf sh f i x.p ++ (if 1 ≤ j - x.p - kf then planF kf sh f i (j - x.p - kf) else []) else [])
theorem first_way {kf : Nat} {sh : List Shp} {i j : Nat} (hi : 1 ≤ i) (hj : 1 ≤ j) : ∃ x, (waysL (VV kf sh) kf sh i j).find? (fun x => x.v == VV kf sh i j) = some x ∧ x ∈ waysL (VV kf sh) kf sh i j ∧ x.v = VV kf sh i j := by
  obtain ⟨y, hy, hv⟩ := most_in (VV kf sh) kf sh i j
  rw [← VV_eq hi hj] at hv
  cases h : (waysL (VV kf sh) kf sh i j).find? (fun x => x.v == VV kf sh i j) with
  | none =>
    rw [List.find?_eq_none] at h
    exact absurd (by simp [hv]) (h y hy)
  | some x => exact ⟨x, rfl, List.mem_of_find?_eq_some h, by simpa using List.find?_some h⟩
theorem planF_stable (kf : Nat) (sh : List Shp) : ∀ (f g i j : Nat), 1 ≤ i → 1 ≤ j → i + j ≤ f → i + j ≤ g → planF kf sh f i j = planF kf sh g i j := by
  intro f
  induction f with
  | zero => intro g i j h1 h2 h3; omega
  | succ f ih =>
    intro g i j h1 h2 h3 h4
    cases g with
    | zero => omega
    | succ g =>
      unfold planF
      obtain ⟨x, hx, hm, hv⟩ := first_way (kf := kf) (sh := sh) h1 h2
      rw [hx]
      dsimp only
      congr 1
      rcases mem_ways hm with ⟨a, _⟩ | ⟨a, _⟩ | ⟨a, b, c, _⟩ | ⟨a, b, c, _⟩
      · rw [a]; rfl
      · rcases a with a | a <;> (rw [a]; rfl)
      · rw [if_pos a, if_pos a, ih g x.p j b h2 (by omega) (by omega)]
        congr 1
        by_cases hr : 1 ≤ i - x.p - kf
        · rw [if_pos hr, if_pos hr, ih g _ j hr h2 (by omega) (by omega)]
        · rw [if_neg hr, if_neg hr]
      · rw [if_neg (show ¬ x.k = 3 by omega), if_neg (show ¬ x.k = 3 by omega), if_pos a, if_pos a, ih g i x.p h1 b (by omega) (by omega)]
        congr 1
        by_cases hr : 1 ≤ j - x.p - kf
        · rw [if_pos hr, if_pos hr, ih g i _ h1 hr (by omega) (by omega)]
        · rw [if_neg hr, if_neg hr]
def planV (kf : Nat) (sh : List Shp) (i j : Nat) : List (Nat × Nat) := planF kf sh (i + j) i j
/-- what comes behind the first cut -/
def restV (kf : Nat) (sh : List Shp) (i j : Nat) (x : Wy) : List (Nat × Nat) :=
  if x.k = 3 then planV kf sh x.p j ++ (if 1 ≤ i - x.p - kf then planV kf sh (i - x.p - kf) j else [])
  else if x.k = 4 then planV kf sh i x.p ++ (if 1 ≤ j - x.p - kf then planV kf sh i (j - x.p - kf) else []) else []
theorem planV_eq {kf : Nat} {sh : List Shp} {i j : Nat} (hi : 1 ≤ i) (hj : 1 ≤ j) {x : Wy} (hx : (waysL (VV kf sh) kf sh i j).find? (fun x => x.v == VV kf sh i j) = some x) (hm : x ∈ waysL (VV kf sh) kf sh i j) :
    planV kf sh i j = (x.k, x.p) :: restV kf sh i j x := by
  have e : planV kf sh i j = planF kf sh ((i + j - 1) + 1) i j := planF_stable _ _ _ _ _ _ hi hj (Nat.le_refl _) (by omega)
  rw [e]
  unfold planF restV
  rw [hx]
  dsimp only
  congr 1
  rcases mem_ways hm with ⟨a, _⟩ | ⟨a, _⟩ | ⟨a, b, c, _⟩ | ⟨a, b, c, _⟩
  · rw [a]; rfl
  · rcases a with a | a <;> (rw [a]; rfl)
  · rw [if_pos a, if_pos a]
    unfold planV
    rw [planF_stable kf sh (i + j - 1) (x.p + j) x.p j b hj (by omega) (by omega)]
    congr 1
    by_cases hr : 1 ≤ i - x.p - kf
    · rw [if_pos hr, if_pos hr, planF_stable kf sh (i + j - 1) _ _ j hr hj (by omega) (Nat.le_refl _)]
    · rw [if_neg hr, if_neg hr]
  · rw [if_neg (show ¬ x.k = 3 by omega), if_neg (show ¬ x.k = 3 by omega), if_pos a, if_pos a]
    unfold planV
    rw [planF_stable kf sh (i + j - 1) (i + x.p) i x.p hi b (by omega) (by omega)]
    congr 1
    by_cases hr : 1 ≤ j - x.p - kf
    · rw [if_pos hr, if_pos hr, planF_stable kf sh (i + j - 1) _ i _ hi hr (by omega) (Nat.le_refl _)]
    · rw [if_neg hr, if_neg hr]

end Go.Proofs
