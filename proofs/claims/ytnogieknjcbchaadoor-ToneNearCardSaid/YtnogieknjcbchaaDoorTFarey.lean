/- plain facts: the fractions next to a tone. -/
import Derived.Test.YtnogieknjcbchaaDoorTPlain
namespace Go.Proofs
set_option linter.unusedVariables false
set_option linter.unusedSimpArgs false

/-- the tone's numbers: its power is O / U -/
def leF (O U D n d : Nat) : Prop := n ^ D * U ≤ d ^ D * O
def geF (O U D n d : Nat) : Prop := d ^ D * O ≤ n ^ D * U

theorem leF_or_geF (O U D n d : Nat) : leF O U D n d ∨ geF O U D n d := Nat.le_total _ _

theorem pow_cross {n d n' d' D : Nat} (h : n * d' ≤ n' * d) : n ^ D * d' ^ D ≤ n' ^ D * d ^ D := by
  rw [← Nat.mul_pow, ← Nat.mul_pow]
  exact Nat.pow_le_pow_left h D

theorem leF_mono {O U D n d n' d' : Nat} (hd : 1 ≤ d') (h : n * d' ≤ n' * d) (k : leF O U D n' d') : leF O U D n d := by
  unfold leF at *
  have h1 := Nat.mul_le_mul_right U (pow_cross (D := D) h)
  have h2 := Nat.mul_le_mul_right (d ^ D) k
  have h3 : n ^ D * U * d' ^ D ≤ d ^ D * O * d' ^ D := by
    calc n ^ D * U * d' ^ D = n ^ D * d' ^ D * U := by ac_rfl
      _ ≤ n' ^ D * d ^ D * U := h1
      _ = n' ^ D * U * d ^ D := by ac_rfl
      _ ≤ d' ^ D * O * d ^ D := h2
      _ = d ^ D * O * d' ^ D := by ac_rfl
  exact Nat.le_of_mul_le_mul_right h3 (Nat.pow_pos hd)

theorem geF_mono {O U D n d n' d' : Nat} (hd : 1 ≤ d) (h : n * d' ≤ n' * d) (k : geF O U D n d) : geF O U D n' d' := by
  unfold geF at *
  have h1 := Nat.mul_le_mul_right U (pow_cross (D := D) h)
  have h2 := Nat.mul_le_mul_right (d' ^ D) k
  have h3 : d' ^ D * O * d ^ D ≤ n' ^ D * U * d ^ D := by
    calc d' ^ D * O * d ^ D = d ^ D * O * d' ^ D := by ac_rfl
      _ ≤ n ^ D * U * d' ^ D := h2
      _ = n ^ D * d' ^ D * U := by ac_rfl
      _ ≤ n' ^ D * d ^ D * U := h1
      _ = n' ^ D * U * d ^ D := by ac_rfl
  exact Nat.le_of_mul_le_mul_right h3 (Nat.pow_pos hd)

/-- one below, one not above: their order -/
theorem le_ge_order {O U D n d n' d' : Nat} (hU : 1 ≤ U) (hD : 1 ≤ D) (hd : 1 ≤ d) (hd' : 1 ≤ d') (h : leF O U D n d) (k : geF O U D n' d') : n * d' ≤ n' * d := by
  by_cases hx : n * d' ≤ n' * d
  · exact hx
  · exfalso
    have h1 : (n' * d) ^ D < (n * d') ^ D := Nat.pow_lt_pow_left (by omega) (by omega)
    rw [Nat.mul_pow, Nat.mul_pow] at h1
    have h2 := Nat.mul_lt_mul_of_pos_right h1 (show 0 < U by omega)
    unfold leF geF at *
    have h3 := Nat.mul_le_mul_right (d' ^ D) h
    have h4 := Nat.mul_le_mul_right (d ^ D) k
    have e1 : n' ^ D * d ^ D * U = n' ^ D * U * d ^ D := by ac_rfl
    have e2 : n ^ D * d' ^ D * U = n ^ D * U * d' ^ D := by ac_rfl
    have e3 : d ^ D * O * d' ^ D = d' ^ D * O * d ^ D := by ac_rfl
    omega

/-- the best fractions on both sides -/
structure BestF (O U D most pb qb pa qa : Nat) : Prop where
  b1 : 1 ≤ qb
  b2 : leF O U D pb qb
  b3 : Nat.gcd pb qb = 1
  b4 : ∀ p q, 1 ≤ q → q ≤ most → leF O U D p q → p * qb ≤ pb * q
  a1 : 1 ≤ qa
  a2 : geF O U D pa qa
  a3 : Nat.gcd pa qa = 1
  a4 : ∀ p q, 1 ≤ q → q ≤ most → geF O U D p q → pa * q ≤ p * qa

theorem lowest_unique {p q p' q' : Nat} (h1 : Nat.gcd p q = 1) (h2 : Nat.gcd p' q' = 1) (h : p * q' = p' * q) (hq : 1 ≤ q) (hq' : 1 ≤ q') : p = p' ∧ q = q' := by
  have d1 : q ∣ q' := by
    have : q ∣ p * q' := ⟨p', by rw [h, Nat.mul_comm]⟩
    exact Nat.Coprime.dvd_of_dvd_mul_left (Nat.Coprime.symm h1) this
  have d2 : q' ∣ q := by
    have : q' ∣ p' * q := ⟨p, by rw [← h, Nat.mul_comm]⟩
    exact Nat.Coprime.dvd_of_dvd_mul_left (Nat.Coprime.symm h2) this
  have e := Nat.dvd_antisymm d1 d2
  subst e
  exact ⟨Nat.eq_of_mul_eq_mul_right hq h, rfl⟩

theorem best_unique {O U D most pb qb pa qa pb' qb' pa' qa' : Nat} (h : BestF O U D most pb qb pa qa) (k : BestF O U D most pb' qb' pa' qa') (m1 : qb ≤ most) (m2 : qa ≤ most) (m3 : qb' ≤ most) (m4 : qa' ≤ most) :
    pb = pb' ∧ qb = qb' ∧ pa = pa' ∧ qa = qa' := by
  have e1 := h.b4 pb' qb' k.b1 m3 k.b2
  have e2 := k.b4 pb qb h.b1 m1 h.b2
  have e3 := h.a4 pa' qa' k.a1 m4 k.a2
  have e4 := k.a4 pa qa h.a1 m2 h.a2
  obtain ⟨f1, f2⟩ := lowest_unique h.b3 k.b3 (by omega) h.b1 k.b1
  obtain ⟨f3, f4⟩ := lowest_unique h.a3 k.a3 (by omega) h.a1 k.a1
  exact ⟨f1, f2, f3, f4⟩

/-- two neighbours with the tone strictly between them -/
structure Nb (O U D pl ql ph qh : Nat) : Prop where
  l1 : 1 ≤ ql
  h1 : 1 ≤ qh
  det : ph * ql = pl * qh + 1
  lo : leF O U D pl ql
  nl : ¬ geF O U D pl ql
  nh : ¬ leF O U D ph qh

theorem det_gcd {pl ql ph qh : Nat} (h : ph * ql = pl * qh + 1) : Nat.gcd pl ql = 1 ∧ Nat.gcd ph qh = 1 := by
  constructor
  · have d1 : Nat.gcd pl ql ∣ ph * ql := Nat.dvd_trans (Nat.gcd_dvd_right _ _) (Nat.dvd_mul_left _ _)
    have d2 : Nat.gcd pl ql ∣ pl * qh := Nat.dvd_trans (Nat.gcd_dvd_left _ _) (Nat.dvd_mul_right _ _)
    have := (Nat.dvd_sub d1 d2)
    rw [show ph * ql - pl * qh = 1 by omega] at this
    exact Nat.dvd_one.1 this
  · have d1 : Nat.gcd ph qh ∣ ph * ql := Nat.dvd_trans (Nat.gcd_dvd_left _ _) (Nat.dvd_mul_right _ _)
    have d2 : Nat.gcd ph qh ∣ pl * qh := Nat.dvd_trans (Nat.gcd_dvd_right _ _) (Nat.dvd_mul_left _ _)
    have := (Nat.dvd_sub d1 d2)
    rw [show ph * ql - pl * qh = 1 by omega] at this
    exact Nat.dvd_one.1 this

theorem nb_high {O U D pl ql ph qh : Nat} (h : Nb O U D pl ql ph qh) : geF O U D ph qh := by
  rcases leF_or_geF O U D ph qh with k | k
  · exact absurd k h.nh
  · exact k

/-- a fraction between neighbours has a great denominator -/
theorem nb_gap {pl ql ph qh p q : Nat} (det : ph * ql = pl * qh + 1) (h1 : pl * q < p * ql) (h2 : p * qh < ph * q) : ql + qh ≤ q := by
  have e1 : ql * (ph * q) = q * (ph * ql) := by ac_rfl
  have e2 : q * (ph * ql) = q * (pl * qh) + q := by rw [det, Nat.mul_add, Nat.mul_one]
  have m1 : ql * (p * qh + 1) ≤ ql * (ph * q) := Nat.mul_le_mul_left _ h2
  have m2 : qh * (pl * q + 1) ≤ qh * (p * ql) := Nat.mul_le_mul_left _ h1
  rw [Nat.mul_add, Nat.mul_one] at m1 m2
  have e3 : ql * (p * qh) = qh * (p * ql) := by ac_rfl
  have e4 : qh * (pl * q) = q * (pl * qh) := by ac_rfl
  omega

theorem nb_best {O U D most pl ql ph qh : Nat} (hU : 1 ≤ U) (hD : 1 ≤ D) (h : Nb O U D pl ql ph qh) (hm : most < ql + qh) : BestF O U D most pl ql ph qh := by
  have hh := nb_high h
  obtain ⟨g1, g2⟩ := det_gcd h.det
  refine ⟨h.l1, h.lo, g1, ?_, h.h1, hh, g2, ?_⟩
  · intro p q hq hqm hp
    by_cases k : p * ql ≤ pl * q
    · exact k
    · exfalso
      have k2 : p * qh < ph * q := by
        by_cases k3 : p * qh < ph * q
        · exact k3
        · exact absurd (leF_mono hq (show ph * q ≤ p * qh by omega) hp) h.nh
      have := nb_gap h.det (by omega) k2
      omega
  · intro p q hq hqm hp
    by_cases k : ph * q ≤ p * qh
    · exact k
    · exfalso
      have k2 : pl * q < p * ql := by
        by_cases k3 : pl * q < p * ql
        · exact k3
        · exact absurd (geF_mono hq (show p * ql ≤ pl * q by omega) hp) h.nl
      have := nb_gap h.det k2 (by omega)
      omega

theorem exact_best {O U D most p q : Nat} (hU : 1 ≤ U) (hD : 1 ≤ D) (hq : 1 ≤ q) (h1 : leF O U D p q) (h2 : geF O U D p q) (hg : Nat.gcd p q = 1) : BestF O U D most p q p q :=
  ⟨hq, h1, hg, fun p' q' h3 _ h4 => le_ge_order hU hD h3 hq h4 h2, hq, h2, hg, fun p' q' h3 _ h4 => le_ge_order hU hD hq h3 h1 h4⟩

/-- what Farey returns -/
def FareyRes (O U D most pl ql ph qh : Nat) : Prop :=
  (1 ≤ ql ∧ ql ≤ most ∧ 1 ≤ qh ∧ qh ≤ most) ∧
  ((leF O U D pl ql ∧ geF O U D pl ql ∧ Nat.gcd pl ql = 1 ∧ ph = pl ∧ qh = ql) ∨ (Nb O U D pl ql ph qh ∧ most < ql + qh))

theorem farey_best {O U D most pl ql ph qh : Nat} (hU : 1 ≤ U) (hD : 1 ≤ D) (h : FareyRes O U D most pl ql ph qh) : BestF O U D most pl ql ph qh := by
  obtain ⟨⟨h1, h2, h3, h4⟩, ⟨h5, h6, h7, rfl, rfl⟩ | ⟨h5, h6⟩⟩ := h
  · exact exact_best hU hD h1 h5 h6 h7
  · exact nb_best hU hD h5 h6

/-- a run to the high side -/
theorem nb_up {O U D pl ql ph qh n : Nat} (h : Nb O U D pl ql ph qh) (k : leF O U D (pl + n * ph) (ql + n * qh)) (ne : ¬ geF O U D (pl + n * ph) (ql + n * qh)) : Nb O U D (pl + n * ph) (ql + n * qh) ph qh := by
  obtain ⟨l1, h1, det, lo, nl, nh⟩ := h
  refine ⟨by omega, h1, ?_, k, ne, nh⟩
  rw [Nat.mul_add, Nat.add_mul, det]
  have : ph * (n * qh) = n * ph * qh := by ac_rfl
  omega
theorem nb_down {O U D pl ql ph qh n : Nat} (h : Nb O U D pl ql ph qh) (k : ¬ leF O U D (ph + n * pl) (qh + n * ql)) : Nb O U D pl ql (ph + n * pl) (qh + n * ql) := by
  obtain ⟨l1, h1, det, lo, nl, nh⟩ := h
  refine ⟨l1, by omega, ?_, lo, nl, k⟩
  rw [Nat.add_mul, Nat.mul_add, det]
  have : n * pl * ql = pl * (n * ql) := by ac_rfl
  omega

theorem det_up {pl ql ph qh : Nat} (n : Nat) (h : ph * ql = pl * qh + 1) : ph * (ql + n * qh) = (pl + n * ph) * qh + 1 := by
  rw [Nat.mul_add, Nat.add_mul, h]
  have : ph * (n * qh) = n * ph * qh := by ac_rfl
  omega
theorem det_down {pl ql ph qh : Nat} (n : Nat) (h : ph * ql = pl * qh + 1) : (ph + n * pl) * ql = pl * (qh + n * ql) + 1 := by
  rw [Nat.add_mul, Nat.mul_add, h]
  have : n * pl * ql = pl * (n * ql) := by ac_rfl
  omega

/-- the property of a run falls -/
theorem up_falls {O U D pl ql ph qh n m : Nat} (l1 : 1 ≤ ql) (det : ph * ql = pl * qh + 1) (h : leF O U D (pl + n * ph) (ql + n * qh)) (hm : m ≤ n) : leF O U D (pl + m * ph) (ql + m * qh) := by
  refine leF_mono (n' := pl + n * ph) (d' := ql + n * qh) (by omega) ?_ h
  obtain ⟨k, rfl⟩ : ∃ k, n = m + k := ⟨n - m, by omega⟩
  have e1 : (pl + m * ph) * (ql + (m + k) * qh) = pl * ql + pl * (m * qh) + k * (pl * qh) + m * (ph * ql) + m * ph * (m * qh) + m * (k * (ph * qh)) := by grind
  have e2 : (pl + (m + k) * ph) * (ql + m * qh) = pl * ql + pl * (m * qh) + k * (ph * ql) + m * (ph * ql) + m * ph * (m * qh) + m * (k * (ph * qh)) := by grind
  rw [e1, e2]
  have := Nat.mul_le_mul_left k (show pl * qh ≤ ph * ql by omega)
  omega
theorem down_falls {O U D pl ql ph qh n m : Nat} (h1 : 1 ≤ qh) (det : ph * ql = pl * qh + 1) (h : geF O U D (ph + n * pl) (qh + n * ql)) (hm : m ≤ n) : geF O U D (ph + m * pl) (qh + m * ql) := by
  refine geF_mono (n := ph + n * pl) (d := qh + n * ql) (by omega) ?_ h
  obtain ⟨k, rfl⟩ : ∃ k, n = m + k := ⟨n - m, by omega⟩
  have e1 : (ph + (m + k) * pl) * (qh + m * ql) = ph * qh + ph * (m * ql) + k * (pl * qh) + m * (pl * qh) + m * pl * (m * ql) + m * (k * (pl * ql)) := by grind
  have e2 : (ph + m * pl) * (qh + (m + k) * ql) = ph * qh + ph * (m * ql) + k * (ph * ql) + m * (pl * qh) + m * pl * (m * ql) + m * (k * (pl * ql)) := by grind
  rw [e1, e2]
  have := Nat.mul_le_mul_left k (show pl * qh ≤ ph * ql by omega)
  omega

/-- the greatest number up to a limit at which a falling property holds -/
theorem greatest_nat (P : Nat → Prop) (h0 : P 0) : ∀ k : Nat, ∃ c, c ≤ k ∧ P c ∧ (c = k ∨ ¬ P (c + 1))
  | 0 => ⟨0, by omega, h0, .inl rfl⟩
  | k + 1 => by
    obtain ⟨c, h2, h3, h4⟩ := greatest_nat P h0 k
    rcases h4 with h4 | h4
    · by_cases h5 : P (c + 1)
      · exact ⟨c + 1, by omega, h5, .inl (by omega)⟩
      · exact ⟨c, by omega, h3, .inr h5⟩
    · exact ⟨c, by omega, h3, .inr h4⟩

/-- the reference: all denominators so far -/
structure SoFar (O U D q pb qb pa qa : Nat) : Prop where
  best : BestF O U D q pb qb pa qa
  b : qb ≤ max q 1
  a : qa ≤ max q 1

theorem best_more {O U D q r t pb qb pa qa pb' qb' pa' qa' : Nat} (hU : 1 ≤ U) (hD : 1 ≤ D) (h : SoFar O U D q pb qb pa qa)
    (hr : leF O U D r (q + 1)) (hr2 : ∀ p, leF O U D p (q + 1) → p ≤ r) (ht : geF O U D t (q + 1)) (ht2 : ∀ p, geF O U D p (q + 1) → t ≤ p)
    (hb : (pb * (q + 1) < r * qb ∧ pb' = r / Nat.gcd r (q + 1) ∧ qb' = (q + 1) / Nat.gcd r (q + 1)) ∨ (r * qb ≤ pb * (q + 1) ∧ pb' = pb ∧ qb' = qb))
    (ha : (t * qa < pa * (q + 1) ∧ pa' = t / Nat.gcd t (q + 1) ∧ qa' = (q + 1) / Nat.gcd t (q + 1)) ∨ (pa * (q + 1) ≤ t * qa ∧ pa' = pa ∧ qa' = qa)) :
    SoFar O U D (q + 1) pb' qb' pa' qa' := by
  obtain ⟨⟨b1, b2, b3, b4, a1, a2, a3, a4⟩, b, a⟩ := h
  have low : ∀ x : Nat, 1 ≤ (q + 1) / Nat.gcd x (q + 1) ∧ (q + 1) / Nat.gcd x (q + 1) ≤ q + 1 ∧ x / Nat.gcd x (q + 1) * (q + 1) = x * ((q + 1) / Nat.gcd x (q + 1)) ∧ Nat.gcd (x / Nat.gcd x (q + 1)) ((q + 1) / Nat.gcd x (q + 1)) = 1 := by
    intro x
    have hg : 0 < Nat.gcd x (q + 1) := Nat.gcd_pos_of_pos_right _ (by omega)
    have g1 := Nat.gcd_dvd_left x (q + 1)
    have g2 := Nat.gcd_dvd_right x (q + 1)
    refine ⟨(Nat.le_div_iff_mul_le hg).2 (by have := Nat.le_of_dvd (by omega) g2; omega), Nat.div_le_self _ _, ?_, ?_⟩
    · obtain ⟨y, hy⟩ := g1
      obtain ⟨z, hz⟩ := g2
      generalize Nat.gcd x (q + 1) = g at *
      rw [hz, hy, Nat.mul_div_cancel_left _ hg, Nat.mul_div_cancel_left _ hg]
      ac_rfl
    · rw [Nat.gcd_div g1 g2]; exact Nat.div_self hg
  obtain ⟨c1, c2, c3, c4⟩ := low r
  obtain ⟨e1, e2, e3, e4⟩ := low t
  have B : 1 ≤ qb' ∧ qb' ≤ q + 1 ∧ leF O U D pb' qb' ∧ Nat.gcd pb' qb' = 1 ∧ (∀ p q', 1 ≤ q' → q' ≤ q + 1 → leF O U D p q' → p * qb' ≤ pb' * q') := by
    rcases hb with ⟨k1, rfl, rfl⟩ | ⟨k1, rfl, rfl⟩
    · refine ⟨c1, c2, leF_mono (n' := r) (d' := q + 1) (by omega) (by omega) hr, c4, ?_⟩
      intro p q' h1 h2 h3
      have key : p * (q + 1) ≤ r * q' := by
        by_cases h4 : q' = q + 1
        · subst h4
          exact Nat.mul_le_mul_right _ (hr2 p h3)
        · have h5 := b4 p q' h1 (by omega) h3
          have m1 := Nat.mul_le_mul_right (q + 1) h5
          have m2 := Nat.mul_le_mul_right q' (Nat.le_of_lt k1)
          have f1 : p * qb * (q + 1) = p * (q + 1) * qb := by ac_rfl
          have f2 : pb * q' * (q + 1) = pb * (q + 1) * q' := by ac_rfl
          have f3 : r * qb * q' = r * q' * qb := by ac_rfl
          exact Nat.le_of_mul_le_mul_right (show p * (q + 1) * qb ≤ r * q' * qb by omega) b1
      generalize r / Nat.gcd r (q + 1) = x at *
      generalize (q + 1) / Nat.gcd r (q + 1) = y at *
      have m1 := Nat.mul_le_mul_right y key
      have f1 : p * (q + 1) * y = p * y * (q + 1) := by ac_rfl
      have f2 : r * q' * y = r * y * q' := by ac_rfl
      have f3 : x * (q + 1) * q' = x * q' * (q + 1) := by ac_rfl
      rw [← c3] at f2
      exact Nat.le_of_mul_le_mul_right (show p * y * (q + 1) ≤ x * q' * (q + 1) by omega) (by omega)
    · refine ⟨b1, by omega, b2, b3, ?_⟩
      intro p q' h1 h2 h3
      by_cases h4 : q' = q + 1
      · subst h4
        have := Nat.mul_le_mul_right qb' (hr2 p h3)
        omega
      · exact b4 p q' h1 (by omega) h3
  have A : 1 ≤ qa' ∧ qa' ≤ q + 1 ∧ geF O U D pa' qa' ∧ Nat.gcd pa' qa' = 1 ∧ (∀ p q', 1 ≤ q' → q' ≤ q + 1 → geF O U D p q' → pa' * q' ≤ p * qa') := by
    rcases ha with ⟨k1, rfl, rfl⟩ | ⟨k1, rfl, rfl⟩
    · refine ⟨e1, e2, geF_mono (n := t) (d := q + 1) (by omega) (by omega) ht, e4, ?_⟩
      intro p q' h1 h2 h3
      have key : t * q' ≤ p * (q + 1) := by
        by_cases h4 : q' = q + 1
        · subst h4
          exact Nat.mul_le_mul_right _ (ht2 p h3)
        · have h5 := a4 p q' h1 (by omega) h3
          have m1 := Nat.mul_le_mul_right (q + 1) h5
          have m2 := Nat.mul_le_mul_right q' (Nat.le_of_lt k1)
          have f1 : p * qa * (q + 1) = p * (q + 1) * qa := by ac_rfl
          have f2 : pa * q' * (q + 1) = pa * (q + 1) * q' := by ac_rfl
          have f3 : t * qa * q' = t * q' * qa := by ac_rfl
          exact Nat.le_of_mul_le_mul_right (show t * q' * qa ≤ p * (q + 1) * qa by omega) a1
      generalize t / Nat.gcd t (q + 1) = x at *
      generalize (q + 1) / Nat.gcd t (q + 1) = y at *
      have m1 := Nat.mul_le_mul_right y key
      have f1 : p * (q + 1) * y = p * y * (q + 1) := by ac_rfl
      have f2 : t * q' * y = t * y * q' := by ac_rfl
      have f3 : x * (q + 1) * q' = x * q' * (q + 1) := by ac_rfl
      rw [← e3] at f2
      exact Nat.le_of_mul_le_mul_right (show x * q' * (q + 1) ≤ p * y * (q + 1) by omega) (by omega)
    · refine ⟨a1, by omega, a2, a3, ?_⟩
      intro p q' h1 h2 h3
      by_cases h4 : q' = q + 1
      · subst h4
        have := Nat.mul_le_mul_right qa' (ht2 p h3)
        omega
      · exact a4 p q' h1 (by omega) h3
  exact ⟨⟨B.1, B.2.2.1, B.2.2.2.1, B.2.2.2.2, A.1, A.2.2.1, A.2.2.2.1, A.2.2.2.2⟩, by have := B.2.1; omega, by have := A.2.1; omega⟩

end Go.Proofs
