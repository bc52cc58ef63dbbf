/- All picks in order, by their number: the first of the cheapest is what wire.Best finds: plain law. -/
import Derived.Test.YtmnalmmffphnpaaBestOpt
open Go.RowKit Go.Deep
namespace Go.Proofs
set_option linter.unusedVariables false
set_option linter.unusedSimpArgs false

/-- digits in base K, the least one first -/
def dgK (K : Nat) : Nat → Nat → List Nat
  | 0, _ => []
  | n + 1, N => N % K :: dgK K n (N / K)
def rkK (K : Nat) : List Nat → Nat
  | [] => 0
  | d :: ds => d + K * rkK K ds
theorem dgK_len (K : Nat) : ∀ n N, (dgK K n N).length = n
  | 0, _ => rfl
  | n + 1, N => by simp only [dgK, List.length_cons, dgK_len K n]
theorem dgK_lt {K : Nat} (hK : 0 < K) : ∀ n N, ∀ d ∈ dgK K n N, d < K
  | 0, _, d, h => by cases h
  | n + 1, N, d, h => by
    simp only [dgK, List.mem_cons] at h
    rcases h with rfl | h
    · exact Nat.mod_lt _ hK
    · exact dgK_lt hK n _ d h
theorem dgK_rk {K : Nat} (hK : 0 < K) : ∀ ds : List Nat, (∀ d ∈ ds, d < K) → dgK K ds.length (rkK K ds) = ds
  | [], _ => rfl
  | d :: ds, h => by
    have hd := h d (by simp)
    have e1 : (d + K * rkK K ds) % K = d := by rw [Nat.add_mul_mod_self_left, Nat.mod_eq_of_lt hd]
    have e2 : (d + K * rkK K ds) / K = rkK K ds := by rw [Nat.add_mul_div_left _ _ hK, Nat.div_eq_of_lt hd, Nat.zero_add]
    simp only [rkK, List.length_cons, dgK, e1, e2, dgK_rk hK ds (fun d h2 => h d (by simp [h2]))]
theorem rkK_lt {K : Nat} (hK : 0 < K) : ∀ ds : List Nat, (∀ d ∈ ds, d < K) → rkK K ds < K ^ ds.length
  | [], _ => by simp [rkK]
  | d :: ds, h => by
    have hd := h d (by simp)
    have ih := rkK_lt hK ds (fun d h2 => h d (by simp [h2]))
    simp only [rkK, List.length_cons, Nat.pow_succ]
    have : K * (rkK K ds + 1) ≤ K * K ^ ds.length := Nat.mul_le_mul_left K ih
    rw [Nat.mul_add, Nat.mul_one] at this
    rw [Nat.mul_comm (K ^ ds.length) K]
    omega
/-- one more: the last ones that are full become 0, and the next one rises -/
theorem rkK_next {K : Nat} (hK : 0 < K) (d : Nat) (t : List Nat) : ∀ j, rkK K (List.replicate j (K - 1) ++ d :: t) + 1 = rkK K (List.replicate j 0 ++ (d + 1) :: t)
  | 0 => by simp only [List.replicate_zero, List.nil_append, rkK]; omega
  | j + 1 => by
    have ih := rkK_next hK d t j
    simp only [List.replicate_succ, List.cons_append, rkK]
    rw [← ih, Nat.mul_add]
    omega
theorem rkK_full {K : Nat} (hK : 0 < K) : ∀ n, rkK K (List.replicate n (K - 1)) + 1 = K ^ n
  | 0 => rfl
  | n + 1 => by
    have ih := rkK_full hK n
    simp only [List.replicate_succ, rkK, Nat.pow_succ]
    rw [← ih, Nat.add_mul, Nat.mul_comm (rkK K _) K]
    omega
theorem rkK_zero (K : Nat) : ∀ n, rkK K (List.replicate n 0) = 0
  | 0 => rfl
  | n + 1 => by simp only [List.replicate_succ, rkK, rkK_zero K n]; omega

/-- picks by their numbers, the last one first -/
def arrK (ng : Nat) (ds : List Nat) : List Pk := ds.reverse.map (pkAt ng)
theorem arrK_len (ng : Nat) (ds : List Nat) : (arrK ng ds).length = ds.length := by simp [arrK]
theorem arrK_cons (ng d : Nat) (ds : List Nat) : arrK ng (d :: ds) = arrK ng ds ++ [pkAt ng d] := by simp [arrK]
theorem arrK_get {ng : Nat} {ds : List Nat} {j : Nat} (hj : j < ds.length) : (arrK ng ds).getD (ds.length - 1 - j) p0 = pkAt ng (ds.getD j 0) := by
  have h1 : ds.length - 1 - j < ds.reverse.length := by rw [List.length_reverse]; omega
  unfold arrK
  rw [List.getD_eq_getElem?_getD, List.getElem?_map, List.getElem?_reverse (by omega)]
  have e : ds.length - 1 - (ds.length - 1 - j) = j := by omega
  rw [e]
  simp [List.getD, List.getElem?_eq_getElem hj]
theorem arrK_set {ng : Nat} {ds : List Nat} {j d : Nat} (hj : j < ds.length) : (arrK ng ds).set (ds.length - 1 - j) (pkAt ng d) = arrK ng (ds.set j d) := by
  unfold arrK
  rw [← List.map_set]
  congr 1
  apply List.ext_getElem?
  intro i
  by_cases hi : i < ds.length
  · rw [List.getElem?_set, List.length_reverse, List.getElem?_reverse (by omega), List.getElem?_reverse (by rw [List.length_set]; omega), List.length_set, List.getElem?_set]
    by_cases e : ds.length - 1 - j = i
    · rw [if_pos e, if_pos (by omega), if_pos (by omega), if_pos (by omega)]
    · rw [if_neg e, if_neg (by omega)]
  · rw [List.getElem?_eq_none (by rw [List.length_set, List.length_reverse]; omega), List.getElem?_eq_none (by rw [List.length_reverse, List.length_set]; omega)]
theorem arrK_fits {S : Scl} {ds : List Nat} (hl : ds.length = S.cs.length) (hd : ∀ d ∈ ds, d < S.ms.length * S.gs.length) : fitsB S (arrK S.gs.length ds) = true := by
  refine fits_all (by rw [arrK_len]; exact hl) (fun i hi => ?_)
  rw [arrK_len] at hi
  have e := arrK_get (ng := S.gs.length) (ds := ds) (j := ds.length - 1 - i) (by omega)
  rw [show ds.length - 1 - (ds.length - 1 - i) = i by omega] at e
  rw [e]
  refine (idx_pkAt (hd _ ?_)).1
  rw [List.getD_eq_getElem?_getD, List.getElem?_eq_getElem (show ds.length - 1 - i < ds.length by omega)]
  exact List.getElem_mem _
theorem lt_snoc : ∀ {A B : List Pk} (x y : Pk), A.length = B.length → ltPks A B → ltPks (A ++ [x]) (B ++ [y])
  | [], [], x, y, _, h => by cases h
  | [], _ :: _, x, y, h, _ => by cases h
  | _ :: _, [], x, y, h, _ => by cases h
  | a :: A, b :: B, x, y, hl, h => by
    rcases h with h | ⟨h, h'⟩
    · exact .inl h
    · exact .inr ⟨h, lt_snoc x y (by simpa using hl) h'⟩
theorem lt_last : ∀ (A : List Pk) {x y : Pk}, (x.m < y.m ∨ (x.m = y.m ∧ x.g < y.g)) → ltPks (A ++ [x]) (A ++ [y])
  | [], x, y, h => .inl h
  | a :: A, x, y, h => .inr ⟨rfl, lt_last A h⟩
theorem pkAt_lt {ng x y : Nat} (h : x < y) (hn : 0 < ng) : (pkAt ng x).m < (pkAt ng y).m ∨ ((pkAt ng x).m = (pkAt ng y).m ∧ (pkAt ng x).g < (pkAt ng y).g) := by
  have h1 := Nat.div_add_mod x ng
  have h2 := Nat.div_add_mod y ng
  have h3 := Nat.mod_lt y hn
  have h4 := Nat.mod_lt x hn
  have hle : x / ng ≤ y / ng := Nat.div_le_div_right (Nat.le_of_lt h)
  unfold pkAt
  dsimp only
  rcases Nat.lt_or_ge (x / ng) (y / ng) with h5 | h5
  · left; exact Int.ofNat_lt.2 h5
  · have e : x / ng = y / ng := by omega
    rw [e] at h1
    right
    exact ⟨by rw [e], Int.ofNat_lt.2 (by omega)⟩
theorem arr_lt {ng K : Nat} (hn : 0 < ng) (hK : 0 < K) : ∀ (n M R : Nat), M < R → R < K ^ n → ltPks (arrK ng (dgK K n M)) (arrK ng (dgK K n R))
  | 0, M, R, h1, h2 => by simp at h2; omega
  | n + 1, M, R, h1, h2 => by
    simp only [dgK]
    rw [arrK_cons, arrK_cons]
    have hle : M / K ≤ R / K := Nat.div_le_div_right (Nat.le_of_lt h1)
    have hR : R / K < K ^ n := by
      rw [Nat.pow_succ, Nat.mul_comm] at h2
      exact Nat.div_lt_of_lt_mul h2
    rcases Nat.lt_or_ge (M / K) (R / K) with h3 | h3
    · exact lt_snoc _ _ (by rw [arrK_len, arrK_len, dgK_len, dgK_len]) (arr_lt hn hK n _ _ h3 hR)
    · have e : M / K = R / K := by omega
      rw [e]
      refine lt_last _ (pkAt_lt ?_ hn)
      have a1 := Nat.div_add_mod M K
      have a2 := Nat.div_add_mod R K
      rw [e] at a1
      omega

/-- what picks cost, by their number; -1: not allowed -/
def enF (S : Scl) (N : Nat) : Int :=
  if allowedB S (arrK S.gs.length (dgK (S.ms.length * S.gs.length) S.cs.length N)) then ((costTo S (arrK S.gs.length (dgK (S.ms.length * S.gs.length) S.cs.length N)) S.cs.length : Nat) : Int) else -1
theorem enF_of {S : Scl} {ds : List Nat} (hK : 0 < S.ms.length * S.gs.length) (hl : ds.length = S.cs.length) (hd : ∀ d ∈ ds, d < S.ms.length * S.gs.length) :
    enF S (rkK (S.ms.length * S.gs.length) ds) = if allowedB S (arrK S.gs.length ds) then ((costTo S (arrK S.gs.length ds) S.cs.length : Nat) : Int) else -1 := by
  unfold enF
  rw [← hl, dgK_rk hK ds hd]
/-- the first of the cheapest among all -/
theorem enum_best {S : Scl} (hs : sclOk S = true) : (amin (enF S) ((S.ms.length * S.gs.length) ^ S.cs.length)).1 = (bestV S).1 ∧
    ((bestV S).1 ≠ -1 → arrK S.gs.length (dgK (S.ms.length * S.gs.length) S.cs.length (amin (enF S) ((S.ms.length * S.gs.length) ^ S.cs.length)).2) = bestP S) := by
  obtain ⟨⟨l1, l2⟩, ⟨l3, l4⟩, ⟨l5, l6⟩, _⟩ := headOk_lens (headOk_of hs)
  have hK : 0 < S.ms.length * S.gs.length := Nat.mul_pos (by omega) (by omega)
  obtain ⟨K, hKe⟩ : ∃ K, S.ms.length * S.gs.length = K := ⟨_, rfl⟩
  have hfit : ∀ N, fitsB S (arrK S.gs.length (dgK K S.cs.length N)) = true := fun N => arrK_fits (dgK_len _ _ _) (by rw [hKe]; exact dgK_lt (by omega) _ _)
  by_cases hv : (bestV S).1 = -1
  · refine ⟨?_, fun h => absurd hv h⟩
    rw [hv]
    cases Decidable.em ((amin (enF S) ((S.ms.length * S.gs.length) ^ S.cs.length)).1 = -1) with
    | inl h => exact h
    | inr h =>
      obtain ⟨s1, s2, s3⟩ := amin_some h
      have : enF S (amin (enF S) ((S.ms.length * S.gs.length) ^ S.cs.length)).2 = -1 := by
        unfold enF
        rw [hKe, best_no hs hv (hfit _)]
        rfl
      rw [this] at s2
      exact absurd s2.symm h
  · obtain ⟨b1, b2, b3⟩ := best_yes hs hv
    obtain ⟨ds, hds⟩ : ∃ ds, ds = ((List.range S.cs.length).map (fun i => (bestQ S i).1)).reverse := ⟨_, rfl⟩
    have hdl : ds.length = S.cs.length := by rw [hds]; simp
    have hdd : ∀ d ∈ ds, d < S.ms.length * S.gs.length := by
      intro d hd
      rw [hds, List.mem_reverse, List.mem_map] at hd
      obtain ⟨i, hi, rfl⟩ := hd
      exact ((best_steps hv).2.1 i (List.mem_range.1 hi)).1
    have harr : arrK S.gs.length ds = bestP S := by
      rw [hds]
      unfold arrK bestP
      rw [List.reverse_reverse, List.map_map]
      rfl
    have hR := rkK_lt hK ds hdd
    rw [hdl] at hR
    have hf := enF_of hK hdl hdd
    rw [harr, b1, if_pos rfl] at hf
    have hl2 := bestP_len S
    rw [hl2] at b2
    rw [b2] at hf
    have hne : (amin (enF S) ((S.ms.length * S.gs.length) ^ S.cs.length)).1 ≠ -1 := fun e => by
      have := amin_none e _ hR
      rw [hf] at this
      exact hv this
    obtain ⟨s1, s2, s3⟩ := amin_some hne
    have h3 := s3 _ hR (by rw [hf]; exact hv)
    rw [hf] at h3
    generalize hM : (amin (enF S) ((S.ms.length * S.gs.length) ^ S.cs.length)).2 = M at *
    generalize (amin (enF S) ((S.ms.length * S.gs.length) ^ S.cs.length)).1 = V at *
    have hal : allowedB S (arrK S.gs.length (dgK K S.cs.length M)) = true := by
      cases h : allowedB S (arrK S.gs.length (dgK K S.cs.length M)) with
      | true => rfl
      | false =>
        unfold enF at s2
        rw [hKe, h] at s2
        exact absurd s2.symm hne
    have hco : ((costTo S (arrK S.gs.length (dgK K S.cs.length M)) S.cs.length : Nat) : Int) = V := by
      unfold enF at s2
      rw [hKe, hal] at s2
      exact s2
    have hb := b3 _ (hfit M) hal
    rw [show (arrK S.gs.length (dgK K S.cs.length M)).length = S.cs.length by rw [arrK_len, dgK_len], hco] at hb
    have hV : V = (bestV S).1 := by omega
    refine ⟨hV, fun _ => ?_⟩
    rw [hKe]
    have hle : M ≤ rkK (S.ms.length * S.gs.length) ds := by omega
    have hnl := hb.2 hV
    rw [← harr] at hnl ⊢
    have hdg := dgK_rk hK ds hdd
    rw [hdl] at hdg
    rcases Nat.lt_or_ge M (rkK (S.ms.length * S.gs.length) ds) with h | h
    · have := arr_lt (ng := S.gs.length) (by omega) hK S.cs.length _ _ h hR
      rw [hdg, hKe] at this
      exact absurd this hnl
    · have e : M = rkK (S.ms.length * S.gs.length) ds := by omega
      rw [e, ← hKe, hdg]

end Go.Proofs
