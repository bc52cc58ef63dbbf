/- What wire.Best returns is the cheapest, and of several the lexicographically least: plain law. -/
import Derived.Test.YtmnalmmffphnpaaBestW
open Go.RowKit Go.Deep
namespace Go.Proofs
set_option linter.unusedVariables false
set_option linter.unusedSimpArgs false

/-- a pick's place among all -/
def idxPk (ng : Nat) (p : Pk) : Nat := p.m.toNat * ng + p.g.toNat
theorem idx_parts {S : Scl} {p : Pk} (h : pkOk S p = true) : idxPk S.gs.length p < S.ms.length * S.gs.length ∧ idxPk S.gs.length p / S.gs.length = p.m.toNat ∧ idxPk S.gs.length p % S.gs.length = p.g.toNat := by
  obtain ⟨⟨h1, h2⟩, h3, h4⟩ := pk_facts h
  have hg : p.g.toNat < S.gs.length := by omega
  have hm : p.m.toNat < S.ms.length := by omega
  unfold idxPk
  refine ⟨?_, ?_, ?_⟩
  · have : (p.m.toNat + 1) * S.gs.length ≤ S.ms.length * S.gs.length := Nat.mul_le_mul_right _ hm
    rw [Nat.succ_mul] at this
    omega
  · rw [Nat.mul_comm, Nat.mul_add_div (by omega), Nat.div_eq_of_lt hg, Nat.add_zero]
  · rw [Nat.mul_comm, Nat.mul_add_mod, Nat.mod_eq_of_lt hg]
theorem pkAt_idx {S : Scl} {p : Pk} (h : pkOk S p = true) : pkAt S.gs.length (idxPk S.gs.length p) = p := by
  obtain ⟨_, e1, e2⟩ := idx_parts h
  obtain ⟨⟨h1, h2⟩, h3, h4⟩ := pk_facts h
  unfold pkAt
  rw [e1, e2]
  obtain ⟨m, g⟩ := p
  simp only [Pk.mk.injEq]
  dsimp only at h1 h3
  omega
theorem idx_pkAt {S : Scl} {k : Nat} (h : k < S.ms.length * S.gs.length) : pkOk S (pkAt S.gs.length k) = true ∧ idxPk S.gs.length (pkAt S.gs.length k) = k := by
  refine ⟨pk_ok h, ?_⟩
  unfold idxPk pkAt
  simp only [Int.toNat_natCast]
  have := Nat.div_add_mod k S.gs.length
  rw [Nat.mul_comm] at this
  exact this
theorem fol_iff {S : Scl} {p p' : Pk} (h : pkOk S p = true) (h' : pkOk S p' = true) : folN S.gs.length (idxPk S.gs.length p) (idxPk S.gs.length p') = (decide (p.m ≤ p'.m) && decide (p.g ≤ p'.g)) := by
  obtain ⟨_, e1, e2⟩ := idx_parts h
  obtain ⟨_, e3, e4⟩ := idx_parts h'
  obtain ⟨⟨h1, h2⟩, h3, h4⟩ := pk_facts h
  obtain ⟨⟨k1, k2⟩, k3, k4⟩ := pk_facts h'
  unfold folN
  rw [e1, e2, e3, e4]
  congr 1
  · congr 1; apply propext; omega
  · congr 1; apply propext; omega
theorem same_iff {S : Scl} {p p' : Pk} (h : pkOk S p = true) (h' : pkOk S p' = true) : samePk p p' = decide (idxPk S.gs.length p = idxPk S.gs.length p') := by
  obtain ⟨_, e1, e2⟩ := idx_parts h
  obtain ⟨_, e3, e4⟩ := idx_parts h'
  obtain ⟨⟨h1, h2⟩, h3, h4⟩ := pk_facts h
  obtain ⟨⟨k1, k2⟩, k3, k4⟩ := pk_facts h'
  unfold samePk
  by_cases e : idxPk S.gs.length p = idxPk S.gs.length p'
  · rw [decide_eq_true e]
    rw [e] at e1 e2
    rw [decide_eq_true (show p.m = p'.m by omega), decide_eq_true (show p.g = p'.g by omega)]
    rfl
  · rw [decide_eq_false e]
    by_cases a : p.m = p'.m
    · by_cases b : p.g = p'.g
      · exact absurd (by unfold idxPk; rw [a, b]) e
      · rw [decide_eq_false b, Bool.and_false]
    · rw [decide_eq_false a, Bool.false_and]
/-- picks, lexicographically less -/
theorem idx_lt {S : Scl} {p p' : Pk} (h : pkOk S p = true) (h' : pkOk S p' = true) : idxPk S.gs.length p < idxPk S.gs.length p' ↔ (p.m < p'.m ∨ (p.m = p'.m ∧ p.g < p'.g)) := by
  obtain ⟨⟨h1, h2⟩, h3, h4⟩ := pk_facts h
  obtain ⟨⟨k1, k2⟩, k3, k4⟩ := pk_facts h'
  unfold idxPk
  rcases Int.lt_trichotomy p.m p'.m with e | e | e
  · have : (p.m.toNat + 1) * S.gs.length ≤ p'.m.toNat * S.gs.length := Nat.mul_le_mul_right _ (by omega)
    rw [Nat.succ_mul] at this
    constructor
    · intro; exact .inl e
    · intro; omega
  · rw [e]
    constructor
    · intro; right; exact ⟨rfl, by omega⟩
    · intro h
      rcases h with h | ⟨_, h⟩
      · omega
      · omega
  · have : (p'.m.toNat + 1) * S.gs.length ≤ p.m.toNat * S.gs.length := Nat.mul_le_mul_right _ (by omega)
    rw [Nat.succ_mul] at this
    constructor
    · intro; omega
    · intro h
      rcases h with h | ⟨h, _⟩
      · omega
      · omega

theorem okJ_congr {fol : Nat → Nat → Bool} {pr : Nat → Nat → Int} {n : Nat} {q q' : Nat → Nat} (h : ∀ i, i < n → q i = q' i) (hn : 0 < n) : ∀ j left, okJ fol pr n q j left ↔ okJ fol pr n q' j left
  | 0, left => by unfold okJ; rw [h (n - 1) (by omega)]
  | j + 1, left => by
    unfold okJ
    rw [h (n - 1 - (j + 1)) (by omega), h (n - 1 - j) (by omega), okJ_congr h hn j left, okJ_congr h hn j (left - 1)]
theorem costJ_congr {pr : Nat → Nat → Int} {n : Nat} {q q' : Nat → Nat} (h : ∀ i, i < n → q i = q' i) (hn : 0 < n) : ∀ j, costJ pr n q j = costJ pr n q' j
  | 0 => by unfold costJ; rw [h (n - 1) (by omega)]
  | j + 1 => by unfold costJ; rw [h (n - 1 - (j + 1)) (by omega), costJ_congr h hn j]
theorem lexJ_congr {n : Nat} {q q' r r' : Nat → Nat} (h : ∀ i, i < n → q i = q' i) (k : ∀ i, i < n → r i = r' i) (hn : 0 < n) : ∀ j, lexJ n q r j ↔ lexJ n q' r' j
  | 0 => by unfold lexJ; rw [h (n - 1) (by omega), k (n - 1) (by omega)]
  | j + 1 => by unfold lexJ; rw [h (n - 1 - (j + 1)) (by omega), k (n - 1 - (j + 1)) (by omega), lexJ_congr h k hn j]

/-- the places of picks -/
def qOf (S : Scl) (P : List Pk) (i : Nat) : Nat := idxPk S.gs.length (P.getD i p0)
theorem prT_pk {S : Scl} {P : List Pk} (hf : fitsB S P = true) {i : Nat} (hi : i < P.length) : prT S i (qOf S P i) = if strongB S (S.cs.getD i c0) (P.getD i p0) then ((priceN S (S.cs.getD i c0) (P.getD i p0) : Nat) : Int) else -1 := by
  obtain ⟨h1, h2⟩ := fits_parts hf
  have hp := h2 i hi
  have e := pkAt_idx hp
  unfold pkAt at e
  unfold prT qOf
  rw [decide_eq_true (show i < S.cs.length by omega), decide_eq_true (idx_parts hp).1, e]
  rfl
theorem prT_ne {S : Scl} {P : List Pk} (hf : fitsB S P = true) {i : Nat} (hi : i < P.length) : prT S i (qOf S P i) ≠ -1 ↔ strongB S (S.cs.getD i c0) (P.getD i p0) = true := by
  rw [prT_pk hf hi]
  cases h : strongB S (S.cs.getD i c0) (P.getD i p0) with
  | true =>
    rw [if_pos rfl]
    exact ⟨fun _ => rfl, fun _ e => by omega⟩
  | false => simp

theorem ok_iff {S : Scl} {P : List Pk} (hf : fitsB S P = true) (hn : 0 < P.length) : ∀ j left, j < P.length →
    (okJ (folN S.gs.length) (prT S) P.length (qOf S P) j left ↔ (∀ i, P.length - 1 - j ≤ i → i < P.length → strongB S (S.cs.getD i c0) (P.getD i p0) = true) ∧ (∀ i, P.length - 1 - j < i → i < P.length → monoAt P i = true) ∧ chTo P P.length ≤ left + chTo P (P.length - j))
  | 0, left, hj => by
    unfold okJ
    rw [prT_ne hf (by omega)]
    constructor
    · intro h
      refine ⟨fun i h1 h2 => ?_, fun i h1 h2 => by omega, by rw [Nat.sub_zero]; omega⟩
      rw [show i = P.length - 1 by omega]; exact h
    · exact fun h => h.1 _ (by omega) (by omega)
  | j + 1, left, hj => by
    obtain ⟨h1, h2⟩ := fits_parts hf
    obtain ⟨a, ha⟩ : ∃ a, P.length - 1 - (j + 1) = a := ⟨_, rfl⟩
    have hb : P.length - 1 - j = a + 1 := by omega
    have hc : P.length - (j + 1) = a + 1 := by omega
    have hd : P.length - j = a + 1 + 1 := by omega
    have pa := h2 a (by omega)
    have pb := h2 (a + 1) (by omega)
    have ih := ok_iff hf hn j
    unfold okJ
    rw [ha, hb, hc, prT_ne hf (by omega)]
    rw [hb, hd] at ih
    have emono : monoAt P (a + 1) = (decide ((P.getD a p0).m ≤ (P.getD (a + 1) p0).m) && decide ((P.getD a p0).g ≤ (P.getD (a + 1) p0).g)) := by
      unfold monoAt
      rw [decide_eq_false (by omega), Bool.false_or, Nat.add_sub_cancel]
    have efol : folN S.gs.length (qOf S P a) (qOf S P (a + 1)) = monoAt P (a + 1) := by
      unfold qOf
      rw [fol_iff pa pb, emono]
    have ech : chTo P (a + 1 + 1) = chTo P (a + 1) + if qOf S P (a + 1) = qOf S P a then 0 else 1 := by
      rw [show chTo P (a + 1 + 1) = chTo P (a + 1) + (if a + 1 = 0 then 0 else if samePk (P.getD (a + 1) p0) (P.getD (a + 1 - 1) p0) then 0 else 1) from rfl, if_neg (by omega), Nat.add_sub_cancel, same_iff pb pa]
      unfold qOf
      simp
    rw [efol, ih left (by omega), ih (left - 1) (by omega), ech]
    by_cases e : qOf S P (a + 1) = qOf S P a
    · rw [if_pos e, if_pos e, Nat.add_zero]
      constructor
      · rintro ⟨k1, k2, k3, k4, k5⟩
        refine ⟨fun i i1 i2 => ?_, fun i i1 i2 => ?_, k5⟩
        · by_cases g : i = a
          · rw [g]; exact k1
          · exact k3 i (by omega) i2
        · by_cases g : i = a + 1
          · rw [g]; exact k2
          · exact k4 i (by omega) i2
      · rintro ⟨k1, k2, k3⟩
        exact ⟨k1 a (by omega) (by omega), k2 (a + 1) (by omega) (by omega), fun i i1 i2 => k1 i (by omega) i2, fun i i1 i2 => k2 i (by omega) i2, k3⟩
    · rw [if_neg e, if_neg e]
      constructor
      · rintro ⟨k1, k2, k0, k3, k4, k5⟩
        refine ⟨fun i i1 i2 => ?_, fun i i1 i2 => ?_, by omega⟩
        · by_cases g : i = a
          · rw [g]; exact k1
          · exact k3 i (by omega) i2
        · by_cases g : i = a + 1
          · rw [g]; exact k2
          · exact k4 i (by omega) i2
      · rintro ⟨k1, k2, k3⟩
        have hm : chTo P (a + 1 + 1) ≤ chTo P P.length := chTo_mono P (by omega)
        rw [ech, if_neg e] at hm
        exact ⟨k1 a (by omega) (by omega), k2 (a + 1) (by omega) (by omega), by omega, fun i i1 i2 => k1 i (by omega) i2, fun i i1 i2 => k2 i (by omega) i2, by omega⟩
where
  chTo_mono (P : List Pk) : ∀ {a b : Nat}, a ≤ b → chTo P a ≤ chTo P b := by
    intro a b h
    induction b with
    | zero => rw [show a = 0 by omega]; exact Nat.le_refl _
    | succ b ih =>
      by_cases e : a = b + 1
      · rw [e]; exact Nat.le_refl _
      · refine Nat.le_trans (ih (by omega)) ?_
        show _ ≤ chTo P b + _
        omega

theorem allowed_iff {S : Scl} {P : List Pk} (hs : sclOk S = true) (hf : fitsB S P = true) : allowedB S P = true ↔ okJ (folN S.gs.length) (prT S) S.cs.length (qOf S P) (S.cs.length - 1) S.ch.toNat := by
  obtain ⟨h1, h2⟩ := fits_parts hf
  obtain ⟨⟨l1, l2⟩, _, _, _, hch⟩ := headOk_lens (headOk_of hs)
  rw [← h1, ok_iff hf (by omega) _ _ (by omega)]
  have e1 : P.length - 1 - (P.length - 1) = 0 := by omega
  have e2 : P.length - (P.length - 1) = 1 := by omega
  rw [e1, e2]
  have e3 : chTo P 1 = 0 := by simp [chTo]
  rw [e3]
  unfold allowedB
  rw [Bool.and_eq_true, allTo_iff, decide_eq_true_eq]
  constructor
  · rintro ⟨k1, k2⟩
    refine ⟨fun i _ hi => ?_, fun i h0 hi => ?_, by omega⟩
    · have := k1 i hi
      unfold okAt at this
      rw [Bool.and_eq_true] at this
      exact this.2
    · have := k1 i hi
      unfold okAt at this
      rw [Bool.and_eq_true] at this
      exact this.1
  · rintro ⟨k1, k2, k3⟩
    refine ⟨fun i hi => ?_, by omega⟩
    unfold okAt
    rw [Bool.and_eq_true]
    refine ⟨?_, k1 i (Nat.zero_le _) hi⟩
    by_cases e : i = 0
    · subst e; rfl
    · exact k2 i (by omega) hi

theorem cost_eq {S : Scl} {P : List Pk} (hf : fitsB S P = true) (hn : 0 < P.length) (hst : ∀ i, i < P.length → strongB S (S.cs.getD i c0) (P.getD i p0) = true) : ∀ j, j < P.length → costJ (prT S) P.length (qOf S P) j + ((costTo S P (P.length - 1 - j) : Nat) : Int) = ((costTo S P P.length : Nat) : Int)
  | 0, hj => by
    unfold costJ
    rw [prT_pk hf (by omega), if_pos (hst _ (by omega)), Nat.sub_zero]
    have e : costTo S P P.length = costTo S P (P.length - 1) + priceN S (S.cs.getD (P.length - 1) c0) (P.getD (P.length - 1) p0) := by
      conv => lhs; rw [show P.length = P.length - 1 + 1 by omega]
      rfl
    rw [e]
    omega
  | j + 1, hj => by
    have ih := cost_eq hf hn hst j (by omega)
    unfold costJ
    rw [prT_pk hf (by omega), if_pos (hst _ (by omega))]
    have e : costTo S P (P.length - 1 - j) = costTo S P (P.length - 1 - (j + 1)) + priceN S (S.cs.getD (P.length - 1 - (j + 1)) c0) (P.getD (P.length - 1 - (j + 1)) p0) := by
      conv => lhs; rw [show P.length - 1 - j = P.length - 1 - (j + 1) + 1 by omega]
      rfl
    rw [e] at ih
    omega

/-- picks of one length: the first ones less -/
def ltPks : List Pk → List Pk → Prop
  | p :: P, q :: Q => (p.m < q.m ∨ (p.m = q.m ∧ p.g < q.g)) ∨ (p = q ∧ ltPks P Q)
  | _, _ => False
theorem lt_lex {S : Scl} {P Q : List Pk} (hP : fitsB S P = true) (hQ : fitsB S Q = true) : ∀ j, j < P.length → ltPks (P.drop (P.length - 1 - j)) (Q.drop (P.length - 1 - j)) → lexJ P.length (qOf S P) (qOf S Q) j := by
  obtain ⟨a1, a2⟩ := fits_parts hP
  obtain ⟨b1, b2⟩ := fits_parts hQ
  intro j
  induction j with
  | zero =>
    intro hj h
    have e1 : P.drop (P.length - 1 - 0) = [P.getD (P.length - 1) p0] := by
      rw [Nat.sub_zero, List.drop_eq_getElem_cons (by omega), List.drop_eq_nil_of_le (by omega)]
      simp [List.getD, List.getElem?_eq_getElem (show P.length - 1 < P.length by omega)]
    have e2 : Q.drop (P.length - 1 - 0) = [Q.getD (P.length - 1) p0] := by
      rw [Nat.sub_zero, List.drop_eq_getElem_cons (by omega), List.drop_eq_nil_of_le (by omega)]
      simp [List.getD, List.getElem?_eq_getElem (show P.length - 1 < Q.length by omega)]
    rw [e1, e2] at h
    unfold ltPks at h
    unfold lexJ qOf
    rw [idx_lt (a2 _ (by omega)) (b2 _ (by omega))]
    rcases h with h | ⟨_, h⟩
    · exact h
    · exact h.elim
  | succ j ih =>
    intro hj h
    have e1 : P.drop (P.length - 1 - (j + 1)) = P.getD (P.length - 1 - (j + 1)) p0 :: P.drop (P.length - 1 - j) := by
      rw [List.drop_eq_getElem_cons (by omega), show P.length - 1 - (j + 1) + 1 = P.length - 1 - j by omega]
      simp [List.getD, List.getElem?_eq_getElem (show P.length - 1 - (j + 1) < P.length by omega)]
    have e2 : Q.drop (P.length - 1 - (j + 1)) = Q.getD (P.length - 1 - (j + 1)) p0 :: Q.drop (P.length - 1 - j) := by
      rw [List.drop_eq_getElem_cons (by omega), show P.length - 1 - (j + 1) + 1 = P.length - 1 - j by omega]
      simp [List.getD, List.getElem?_eq_getElem (show P.length - 1 - (j + 1) < Q.length by omega)]
    rw [e1, e2] at h
    unfold ltPks at h
    unfold lexJ
    have pa := a2 (P.length - 1 - (j + 1)) (by omega)
    have pb := b2 (P.length - 1 - (j + 1)) (by omega)
    rcases h with h | ⟨h, h'⟩
    · left; unfold qOf; rw [idx_lt pa pb]; exact h
    · right; exact ⟨by unfold qOf; rw [h], ih (by omega) h'⟩

theorem bestP_len (S : Scl) : (bestP S).length = S.cs.length := by simp [bestP]
theorem bestP_get {S : Scl} {i : Nat} (hi : i < S.cs.length) : (bestP S).getD i p0 = pkAt S.gs.length (bestQ S i).1 := by simp [bestP, List.getD, hi]
theorem bestP_fits {S : Scl} (hv : (bestV S).1 ≠ -1) : fitsB S (bestP S) = true := by
  refine fits_all (bestP_len S) (fun i hi => ?_)
  rw [bestP_len] at hi
  rw [bestP_get hi]
  exact (idx_pkAt ((best_steps hv).2.1 i hi).1).1
theorem bestP_q {S : Scl} (hv : (bestV S).1 ≠ -1) : ∀ i, i < S.cs.length → qOf S (bestP S) i = (bestQ S i).1 := fun i hi => by
  unfold qOf
  rw [bestP_get hi]
  exact (idx_pkAt ((best_steps hv).2.1 i hi).1).2
theorem allowed_strong {S : Scl} {P : List Pk} (h : allowedB S P = true) : ∀ i, i < P.length → strongB S (S.cs.getD i c0) (P.getD i p0) = true := fun i hi => by
  unfold allowedB at h
  rw [Bool.and_eq_true, allTo_iff] at h
  have := h.1 i hi
  unfold okAt at this
  rw [Bool.and_eq_true] at this
  exact this.2
theorem cost_all {S : Scl} {P : List Pk} (hs : sclOk S = true) (hf : fitsB S P = true) (ha : allowedB S P = true) : costJ (prT S) S.cs.length (qOf S P) (S.cs.length - 1) = ((costTo S P P.length : Nat) : Int) := by
  obtain ⟨h1, h2⟩ := fits_parts hf
  obtain ⟨⟨l1, l2⟩, _⟩ := headOk_lens (headOk_of hs)
  have := cost_eq hf (by omega) (allowed_strong ha) (P.length - 1) (by omega)
  rw [show P.length - 1 - (P.length - 1) = 0 by omega] at this
  rw [← h1]
  simpa [costTo] using this
theorem q_lt {S : Scl} {P : List Pk} (hf : fitsB S P = true) : ∀ i, i < S.cs.length → qOf S P i < S.ms.length * S.gs.length := fun i hi => by
  obtain ⟨h1, h2⟩ := fits_parts hf
  exact (idx_parts (h2 i (by omega))).1

/-- where Best finds nothing, nothing is allowed -/
theorem best_no {S : Scl} (hs : sclOk S = true) (hv : (bestV S).1 = -1) {P : List Pk} (hf : fitsB S P = true) : allowedB S P = false := by
  cases ha : allowedB S P with
  | false => rfl
  | true =>
    obtain ⟨⟨l1, l2⟩, _⟩ := headOk_lens (headOk_of hs)
    have h := (allowed_iff hs hf).1 ha
    have h2 := (rest_le (fun i k => (prT_bd hs i k).1) (q_lt hf) (by omega) _ _ (by omega) h).1
    rw [show S.cs.length - 1 - (S.cs.length - 1) = 0 by omega] at h2
    exact absurd (amin_none hv (qOf S P 0) (q_lt hf 0 (by omega))) h2
/-- what Best finds is allowed, costs what it says, and none is better -/
theorem best_yes {S : Scl} (hs : sclOk S = true) (hv : (bestV S).1 ≠ -1) : allowedB S (bestP S) = true ∧ ((costTo S (bestP S) (bestP S).length : Nat) : Int) = (bestV S).1 ∧
    ∀ P, fitsB S P = true → allowedB S P = true → (bestV S).1 ≤ ((costTo S P P.length : Nat) : Int) ∧ (((costTo S P P.length : Nat) : Int) = (bestV S).1 → ¬ ltPks P (bestP S)) := by
  obtain ⟨⟨l1, l2⟩, _⟩ := headOk_lens (headOk_of hs)
  have hbf := bestP_fits hv
  obtain ⟨s1, s2, s3⟩ := amin_some hv
  have h0 : restJ (folN S.gs.length) (S.ms.length * S.gs.length) (prT S) S.cs.length (S.cs.length - 1) (bestV S).2 S.ch.toNat ≠ -1 := by
    have : bestF S (bestV S).2 = (bestV S).1 := s2
    rw [← this] at hv
    exact hv
  have hval : restJ (folN S.gs.length) (S.ms.length * S.gs.length) (prT S) S.cs.length (S.cs.length - 1) (bestV S).2 S.ch.toNat = (bestV S).1 := s2
  obtain ⟨r1, r2⟩ := road_ok h0 s1 (S.cs.length - 1) (by omega)
  have e0 : S.cs.length - 1 - (S.cs.length - 1) = 0 := by omega
  rw [e0] at r1 r2
  have hq := bestP_q hv
  have hal : allowedB S (bestP S) = true := by
    rw [allowed_iff hs hbf, okJ_congr hq (by omega)]
    exact r1
  have hco : ((costTo S (bestP S) (bestP S).length : Nat) : Int) = (bestV S).1 := by
    rw [← cost_all hs hbf hal, costJ_congr hq (by omega), ← hval]
    exact r2
  refine ⟨hal, hco, fun P hf ha => ?_⟩
  have h := (allowed_iff hs hf).1 ha
  have hr := rest_le (fun i k => (prT_bd hs i k).1) (q_lt hf) (by omega) _ _ (by omega) h
  rw [e0, cost_all hs hf ha] at hr
  have hk := q_lt hf 0 (by omega)
  have hm := s3 (qOf S P 0) hk hr.1
  have hle : (bestV S).1 ≤ ((costTo S P P.length : Nat) : Int) := by
    have : bestF S (qOf S P 0) ≤ ((costTo S P P.length : Nat) : Int) := hr.2
    rcases hm with hm | hm
    · have h1 : (bestV S).1 < bestF S (qOf S P 0) := hm
      omega
    · have h1 : (bestV S).1 = bestF S (qOf S P 0) := hm.1
      omega
  refine ⟨hle, fun he hl => ?_⟩
  obtain ⟨f1, f2⟩ := fits_parts hf
  have hlex := lt_lex hf hbf (P.length - 1) (by omega) (by rw [show P.length - 1 - (P.length - 1) = 0 by omega]; exact hl)
  rw [f1] at hlex
  rw [lexJ_congr (q' := qOf S P) (r' := fun i => (bestQ S i).1) (fun _ _ => rfl) hq (by omega)] at hlex
  have hge : (bestV S).2 ≤ qOf S P 0 := by
    have : bestF S (qOf S P 0) ≤ ((costTo S P P.length : Nat) : Int) := hr.2
    rcases hm with hm | hm
    · have h1 : (bestV S).1 < bestF S (qOf S P 0) := hm
      omega
    · exact hm.2
  have hhead : qOf S P 0 = (bestV S).2 := by
    have h1 : qOf S P 0 ≤ (bestQ S 0).1 := by
      by_cases e : S.cs.length - 1 = 0
      · rw [e] at hlex
        unfold lexJ at hlex
        rw [e] at hlex
        exact Nat.le_of_lt hlex
      · obtain ⟨j, hj⟩ : ∃ j, S.cs.length - 1 = j + 1 := ⟨S.cs.length - 1 - 1, by omega⟩
        rw [hj] at hlex
        unfold lexJ at hlex
        rw [show S.cs.length - 1 - (j + 1) = 0 by omega] at hlex
        rcases hlex with h | ⟨h, _⟩
        · exact Nat.le_of_lt h
        · exact Nat.le_of_eq h
    have h2 : (bestQ S 0).1 = (bestV S).2 := rfl
    omega
  refine road_lex (fun i k => (prT_bd hs i k).1) h0 s1 (q_lt hf) (S.cs.length - 1) (by omega) ?_ ?_ ?_ hlex
  · rw [e0]; exact hhead
  · rw [e0]; exact h
  · rw [e0, cost_all hs hf ha, he]; exact hval.symm

end Go.Proofs
