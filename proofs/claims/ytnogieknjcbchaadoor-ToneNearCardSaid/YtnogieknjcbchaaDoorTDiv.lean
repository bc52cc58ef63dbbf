/- plain facts: the fractions next to a tone's logarithm. -/
import Derived.Test.YtnogieknjcbchaaDoorTPlain
namespace Go.Proofs
set_option linter.unusedVariables false
set_option linter.unusedSimpArgs false

/-- q times a tone's logarithm less p octaves, against nothing -/
def hidT (s : T4) (p q : Int) : H3 := ⟨q * s.a - p * s.d, q * s.b, q * s.c⟩
def lg (s : T4) (p q : Int) : Int := sg (hidT s p q)

theorem hid_add (s : T4) (p q p' q' : Int) : (hidT s p q).add (hidT s p' q') = hidT s (p + p') (q + q') := by
  unfold hidT H3.add
  congr 1 <;> dsimp only <;> grind
theorem hid_mul (s : T4) (n p q : Int) : (hidT s p q).mul n = hidT s (n * p) (n * q) := by
  unfold hidT H3.mul
  congr 1 <;> dsimp only <;> grind
theorem hid_neg (s : T4) (p q : Int) : (hidT s p q).neg = hidT s (-p) (-q) := by
  unfold hidT H3.neg
  congr 1 <;> dsimp only <;> grind

theorem lg_zero (s : T4) : lg s 0 0 = 0 := by
  unfold lg
  rw [sg_zero]
  unfold hidT
  simp
theorem lg_neg (s : T4) (p q : Int) : lg s (-p) (-q) = - lg s p q := by
  unfold lg; rw [← hid_neg, sg_neg]
theorem lg_mul (s : T4) (n p q : Int) (hn : 1 ≤ n) : lg s (n * p) (n * q) = lg s p q := by
  unfold lg; rw [← hid_mul, sg_mulz _ _ hn]
theorem lg_add_ge {s : T4} {p q p' q' : Int} (h1 : 0 ≤ lg s p q) (h2 : 0 ≤ lg s p' q') : 0 ≤ lg s (p + p') (q + q') := by
  unfold lg at *; rw [← hid_add]; exact sg_add_ge h1 h2
theorem lg_add_pos {s : T4} {p q p' q' : Int} (h1 : 0 < lg s p q) (h2 : 0 ≤ lg s p' q') : 0 < lg s (p + p') (q + q') := by
  unfold lg at *; rw [← hid_add]; exact sg_add_pos h1 h2
theorem lg_scale_ge {s : T4} {p q : Int} (n : Int) (hn : 0 ≤ n) (h : 0 ≤ lg s p q) : 0 ≤ lg s (n * p) (n * q) := by
  by_cases h0 : n = 0
  · subst h0; rw [Int.zero_mul, Int.zero_mul, lg_zero]; omega
  · rw [lg_mul _ _ _ _ (by omega)]; exact h
theorem lg_scale_pos {s : T4} {p q : Int} (n : Int) (hn : 1 ≤ n) (h : 0 < lg s p q) : 0 < lg s (n * p) (n * q) := by
  rw [lg_mul _ _ _ _ hn]; exact h
theorem lg_cases (s : T4) (p q : Int) : lg s p q = -1 ∨ lg s p q = 0 ∨ lg s p q = 1 := sg_cases _
theorem lg_eq {s : T4} {p q p' q' : Int} (h1 : p = p') (h2 : q = q') : lg s p q = lg s p' q' := by rw [h1, h2]

/-- the fraction behind n steps has not passed the logarithm -/
def onSide (s : T4) (p0 q0 p1 q1 σ n : Int) : Prop := 0 ≤ lg s (σ * (p0 + n * p1)) (σ * (q0 + n * q1))

/-- where the search for the next fraction stands -/
structure DInv (s : T4) (most B p0 q0 p1 q1 σ : Int) : Prop where
  sign : σ = 1 ∨ σ = -1
  hq0 : 0 ≤ q0 ∧ q0 ≤ most
  hq1 : 1 ≤ q1 ∧ q1 ≤ most
  hp0 : (p0 = 1 ∧ q0 = 0 ∧ p1 + q1 ≤ B * q1) ∨ (0 ≤ p0 ∧ p0 ≤ B * q0 ∧ 1 ≤ q0)
  hp1 : 0 ≤ p1 ∧ p1 ≤ B * q1
  det : p0 * q1 - p1 * q0 = -σ
  s1 : 0 ≤ lg s (-σ * p1) (-σ * q1)
  sd : onSide s p0 q0 p1 q1 σ 1

theorem sgn_ne {s : T4} {p q σ : Int} (hσ : σ = 1 ∨ σ = -1) (h : lg s p q ≠ 0) (k : 0 ≤ lg s (-σ * p) (-σ * q)) : 0 < lg s (-σ * p) (-σ * q) := by
  rcases hσ with rfl | rfl
  · have e := lg_neg s p q
    rw [show -1 * p = -p by omega, show -1 * q = -q by omega] at *
    omega
  · rw [show - -1 * p = p by omega, show - -1 * q = q by omega] at *
    omega

theorem onSide_down {s : T4} {p0 q0 p1 q1 σ n m : Int} (h1 : 0 ≤ lg s (-σ * p1) (-σ * q1)) (h : onSide s p0 q0 p1 q1 σ n) (hm : m ≤ n) : onSide s p0 q0 p1 q1 σ m := by
  unfold onSide at *
  have k := lg_add_ge h (lg_scale_ge (n - m) (by omega) h1)
  rw [lg_eq (p' := σ * (p0 + m * p1)) (q' := σ * (q0 + m * q1)) (by grind) (by grind)] at k
  exact k

/-- the rest of the fractions from where the search stands -/
inductive Chain (s : T4) (most : Int) : Int → Int → Int → Int → Int → List (Int × Int) → Prop
  | zero {p0 q0 p1 q1 σ : Int} : lg s p1 q1 = 0 → Chain s most p0 q0 p1 q1 σ []
  | stop {p0 q0 p1 q1 σ n : Int} : lg s p1 q1 ≠ 0 → onSide s p0 q0 p1 q1 σ n → most < q0 + n * q1 → Chain s most p0 q0 p1 q1 σ []
  | step {p0 q0 p1 q1 σ c : Int} {l : List (Int × Int)} : lg s p1 q1 ≠ 0 → onSide s p0 q0 p1 q1 σ c → ¬ onSide s p0 q0 p1 q1 σ (c + 1) → q0 + c * q1 ≤ most →
      Chain s most p1 q1 (p0 + c * p1) (q0 + c * q1) (-σ) l → Chain s most p0 q0 p1 q1 σ ((p0 + c * p1, q0 + c * q1) :: l)

theorem dinv_next {s : T4} {most B p0 q0 p1 q1 σ c : Int} (h : DInv s most B p0 q0 p1 q1 σ) (hc : onSide s p0 q0 p1 q1 σ c) (hn : ¬ onSide s p0 q0 p1 q1 σ (c + 1)) (hm : q0 + c * q1 ≤ most) :
    1 ≤ c ∧ DInv s most B p1 q1 (p0 + c * p1) (q0 + c * q1) (-σ) := by
  obtain ⟨sign, hq0, hq1, hp0, hp1, det, s1, sd⟩ := h
  have h1 : 1 ≤ c := by
    by_cases h : 1 ≤ c
    · exact h
    · exact absurd (onSide_down s1 sd (show c + 1 ≤ 1 by omega)) hn
  have m1 : q1 ≤ c * q1 := by
    have := Int.mul_le_mul_of_nonneg_right h1 (show 0 ≤ q1 by omega)
    omega
  have m2 : 0 ≤ c * p1 := Int.mul_nonneg (by omega) (by omega)
  have m3 : c * p1 ≤ c * (B * q1) := Int.mul_le_mul_of_nonneg_left hp1.2 (by omega)
  refine ⟨h1, by omega, ⟨by omega, hq1.2⟩, ⟨by omega, hm⟩, ?_, ?_, ?_, ?_, ?_⟩
  · exact .inr ⟨hp1.1, hp1.2, hq1.1⟩
  · refine ⟨by rcases hp0 with h | h <;> omega, ?_⟩
    have e : B * (q0 + c * q1) = B * q0 + c * (B * q1) := by grind
    rw [e]
    rcases hp0 with ⟨h2, h3, h4⟩ | ⟨h2, h3, h4⟩
    · have m4 : c * (p1 + q1) ≤ c * (B * q1) := Int.mul_le_mul_of_nonneg_left h4 (by omega)
      rw [Int.mul_add] at m4
      rw [h2, h3, Int.mul_zero]
      omega
    · omega
  · grind
  · unfold onSide at hc
    rw [Int.neg_neg]
    exact hc
  · unfold onSide at *
    have k := lg_neg s (σ * (p0 + (c + 1) * p1)) (σ * (q0 + (c + 1) * q1))
    rw [lg_eq (p' := -σ * (p1 + 1 * (p0 + c * p1))) (q' := -σ * (q1 + 1 * (q0 + c * q1))) (by grind) (by grind)] at k
    omega

/-- where the search ends: by the program's way, with a limit -/
theorem chain_found {s : T4} {most B p0 q0 p1 q1 σ c : Int} {L : List (Int × Int)} (h : DInv s most B p0 q0 p1 q1 σ) (hL : Chain s most p0 q0 p1 q1 σ L) (h0 : lg s p1 q1 ≠ 0)
    (hc : onSide s p0 q0 p1 q1 σ c) (hn : ¬ onSide s p0 q0 p1 q1 σ (c + 1)) (hm : q0 + c * q1 ≤ most) :
    ∃ l, L = (p0 + c * p1, q0 + c * q1) :: l ∧ Chain s most p1 q1 (p0 + c * p1) (q0 + c * q1) (-σ) l := by
  have up : ∀ n, onSide s p0 q0 p1 q1 σ n → n ≤ c := by
    intro n hn2
    by_cases h5 : n ≤ c
    · exact h5
    · exact absurd (onSide_down h.s1 hn2 (show c + 1 ≤ n by omega)) hn
  cases hL with
  | zero h1 => exact absurd h1 h0
  | stop h1 h2 h3 =>
    rename_i n
    have := Int.mul_le_mul_of_nonneg_right (up n h2) (show 0 ≤ q1 by have := h.hq1; omega)
    omega
  | step h1 h2 h3 h4 h5 =>
    rename_i c' l
    have e1 := up c' h2
    have e2 : c = c' := by
      by_cases h6 : c ≤ c'
      · omega
      · exact absurd (onSide_down h.s1 hc (show c' + 1 ≤ c by omega)) h3
    subst e2
    exact ⟨l, rfl, h5⟩

theorem chain_full {s : T4} {most B p0 q0 p1 q1 σ n : Int} {L : List (Int × Int)} (h : DInv s most B p0 q0 p1 q1 σ) (hL : Chain s most p0 q0 p1 q1 σ L) (h0 : lg s p1 q1 ≠ 0)
    (hc : onSide s p0 q0 p1 q1 σ n) (hm : most < q0 + n * q1) : L = [] := by
  cases hL with
  | zero h1 => rfl
  | stop h1 h2 h3 => rfl
  | step h1 h2 h3 h4 h5 =>
    rename_i c' l
    exfalso
    by_cases h6 : n ≤ c'
    · have := Int.mul_le_mul_of_nonneg_right h6 (show 0 ≤ q1 by have := h.hq1; omega)
      omega
    · exact h3 (onSide_down h.s1 hc (by omega))

theorem chain_zero {s : T4} {most p0 q0 p1 q1 σ : Int} {L : List (Int × Int)} (hL : Chain s most p0 q0 p1 q1 σ L) (h0 : lg s p1 q1 = 0) : L = [] := by
  cases hL with
  | zero h1 => rfl
  | stop h1 h2 h3 => rfl
  | step h1 h2 h3 h4 h5 => exact absurd h0 h1

/-- the greatest number up to a limit at which a falling property holds -/
theorem greatest_upto (P : Int → Prop) (h0 : P 0) : ∀ k : Nat, ∃ c : Int, 0 ≤ c ∧ c ≤ k ∧ P c ∧ (c = k ∨ ¬ P (c + 1))
  | 0 => ⟨0, by omega, by omega, h0, .inl rfl⟩
  | k + 1 => by
    obtain ⟨c, h1, h2, h3, h4⟩ := greatest_upto P h0 k
    rcases h4 with h4 | h4
    · by_cases h5 : P (c + 1)
      · exact ⟨c + 1, by omega, by omega, h5, .inl (by omega)⟩
      · exact ⟨c, h1, by omega, h3, .inr h5⟩
    · exact ⟨c, h1, by omega, h3, .inr h4⟩

theorem chain_exists {s : T4} {most B : Int} : ∀ (k : Nat) (p0 q0 p1 q1 σ : Int), DInv s most B p0 q0 p1 q1 σ → (most - q1).toNat + (if q0 = 0 then 1 else 0) ≤ k → ∃ L, Chain s most p0 q0 p1 q1 σ L := by
  intro k
  induction k with
  | zero =>
    intro p0 q0 p1 q1 σ h hk
    by_cases h0 : lg s p1 q1 = 0
    · exact ⟨[], .zero h0⟩
    · have hq0 := h.hq0
      have hq1 := h.hq1
      split at hk
      · omega
      · exact ⟨[], .stop h0 h.sd (by omega)⟩
  | succ k ih =>
    intro p0 q0 p1 q1 σ h hk
    by_cases h0 : lg s p1 q1 = 0
    · exact ⟨[], .zero h0⟩
    · have hq0 := h.hq0
      have hq1 := h.hq1
      obtain ⟨c, c1, c2, c3, c4⟩ := greatest_upto (onSide s p0 q0 p1 q1 σ) (onSide_down h.s1 h.sd (by omega)) (most + 1).toNat
      by_cases hm : most < q0 + c * q1
      · exact ⟨[], .stop h0 c3 hm⟩
      · have hcq : c ≤ c * q1 := by
          have := Int.mul_le_mul_of_nonneg_left hq1.1 c1
          omega
        have c5 : ¬ onSide s p0 q0 p1 q1 σ (c + 1) := by
          rcases c4 with c4 | c4
          · omega
          · exact c4
        obtain ⟨c6, hn⟩ := dinv_next h c3 c5 (by omega)
        have m1 : q1 ≤ c * q1 := by
          have := Int.mul_le_mul_of_nonneg_right c6 (show 0 ≤ q1 by omega)
          omega
        obtain ⟨l, hl⟩ := ih _ _ _ _ _ hn (by
          rw [if_neg (show ¬ q1 = 0 by omega)]
          split at hk <;> omega)
        exact ⟨_, .step h0 c3 c5 (by omega) hl⟩

/-- how two fractions next to each other lie -/
structure Link (s : T4) (p1 q1 p2 q2 σ : Int) : Prop where
  sign : σ = 1 ∨ σ = -1
  hq1 : 1 ≤ q1
  hq2 : 1 ≤ q2
  det : p1 * q2 - p2 * q1 = σ
  a : 0 < lg s (-σ * p1) (-σ * q1)
  b : 0 ≤ lg s (σ * p2) (σ * q2)
  c : 0 < lg s (-σ * (p1 + p2)) (-σ * (q1 + q2))

theorem link_next {s : T4} {most B p0 q0 p1 q1 σ c : Int} (h : DInv s most B p0 q0 p1 q1 σ) (h0 : lg s p1 q1 ≠ 0) (hc : onSide s p0 q0 p1 q1 σ c) (hn : ¬ onSide s p0 q0 p1 q1 σ (c + 1)) (hm : q0 + c * q1 ≤ most) :
    Link s p1 q1 (p0 + c * p1) (q0 + c * q1) σ := by
  obtain ⟨c1, hd⟩ := dinv_next h hc hn hm
  refine ⟨h.sign, h.hq1.1, hd.hq1.1, ?_, sgn_ne h.sign h0 h.s1, hc, ?_⟩
  · have := hd.det
    grind
  · have k := lg_neg s (σ * (p0 + (c + 1) * p1)) (σ * (q0 + (c + 1) * q1))
    rw [lg_eq (p' := -σ * (p1 + (p0 + c * p1))) (q' := -σ * (q1 + (q0 + c * q1))) (by grind) (by grind)] at k
    unfold onSide at hn
    omega

/-- what is known of each fraction of the rest -/
theorem chain_links {s : T4} {most B p0 q0 p1 q1 σ : Int} {L : List (Int × Int)} (hL : Chain s most p0 q0 p1 q1 σ L) (h : DInv s most B p0 q0 p1 q1 σ) :
    ∀ i, i + 1 < ((p1, q1) :: L).length → (∃ σ', Link s (((p1, q1) :: L).getD i (0, 0)).1 (((p1, q1) :: L).getD i (0, 0)).2 (((p1, q1) :: L).getD (i + 1) (0, 0)).1 (((p1, q1) :: L).getD (i + 1) (0, 0)).2 σ') ∧
      (((p1, q1) :: L).getD (i + 1) (0, 0)).2 ≤ most ∧ 0 ≤ (((p1, q1) :: L).getD (i + 1) (0, 0)).1 ∧ (((p1, q1) :: L).getD (i + 1) (0, 0)).1 ≤ B * (((p1, q1) :: L).getD (i + 1) (0, 0)).2 := by
  induction hL with
  | zero h1 => intro i hi; simp at hi
  | stop h1 h2 h3 => intro i hi; simp at hi
  | step h1 h2 h3 h4 h5 ih =>
    obtain ⟨c1, hd⟩ := dinv_next h h2 h3 h4
    intro i hi
    cases i with
    | zero =>
      simp only [List.getD_cons_zero, List.getD_cons_succ]
      exact ⟨⟨_, link_next h h1 h2 h3 h4⟩, hd.hq1.2, hd.hp1.1, hd.hp1.2⟩
    | succ i =>
      have := ih hd i (by simpa using hi)
      simpa only [List.getD_cons_succ] using this

/-- no fraction of a lesser denominator is as near -/
theorem link_far {s : T4} {p1 q1 p2 q2 σ p q : Int} (h : Link s p1 q1 p2 q2 σ) (hq : 1 ≤ q ∧ q ≤ q2) :
    (p2 * q < p * q2 → lg s (p * q2 + p2 * q) (2 * q * q2) < 0) ∧ (p * q2 < p2 * q → 0 < lg s (p * q2 + p2 * q) (2 * q * q2)) := by
  obtain ⟨sign, hq1, hq2, det, ha, hb, hc⟩ := h
  obtain ⟨u, hu⟩ : ∃ u, u = σ * (p1 * q - p * q1) := ⟨_, rfl⟩
  obtain ⟨v, hv⟩ : ∃ v, v = σ * (p * q2 - p2 * q) := ⟨_, rfl⟩
  have sq : σ * σ = 1 := by rcases sign with h | h <;> rw [h] <;> rfl
  have ep : p = u * p2 + v * p1 := by
    have : u * p2 + v * p1 = σ * (p * (p1 * q2 - p2 * q1)) := by rw [hu, hv]; grind
    rw [this, det]; grind
  have eq : q = u * q2 + v * q1 := by
    have : u * q2 + v * q1 = σ * (q * (p1 * q2 - p2 * q1)) := by rw [hu, hv]; grind
    rw [this, det]; grind
  have ha' : 0 ≤ lg s (-σ * p1) (-σ * q1) := Int.le_of_lt ha
  have up : 1 ≤ v → 0 < lg s (-σ * (p * q2 + p2 * q)) (-σ * (2 * q * q2)) := by
    intro h1
    have hu0 : u ≤ 0 := by
      by_cases h2 : u ≤ 0
      · exact h2
      · exfalso
        have m1 := Int.mul_le_mul_of_nonneg_right (show 1 ≤ u by omega) (show 0 ≤ q2 by omega)
        have m2 := Int.mul_le_mul_of_nonneg_right h1 (show 0 ≤ q1 by omega)
        omega
    have m3 := Int.mul_le_mul_of_nonneg_left h1 (show 0 ≤ q2 by omega)
    have m4 : 0 ≤ q2 * -u := Int.mul_nonneg (by omega) (by omega)
    have k := lg_add_pos (lg_add_pos (lg_scale_pos q hq.1 hc) (lg_scale_ge (q2 * v - q) (by omega) ha')) (lg_scale_ge (q2 * -u) m4 hb)
    have e1 : p * q2 + p2 * q = q * (p1 + p2) + (q2 * v - q) * p1 + q2 * u * p2 := by rw [ep]; grind
    have e2 : 2 * q * q2 = q * (q1 + q2) + (q2 * v - q) * q1 + q2 * u * q2 := by
      have : 2 * q * q2 = q * q2 + q * q2 := by grind
      rw [this]
      have e3 : q * q2 = (u * q2 + v * q1) * q2 := by rw [← eq]
      grind
    rw [lg_eq (p' := -σ * (p * q2 + p2 * q)) (q' := -σ * (2 * q * q2)) (by rw [e1]; grind) (by rw [e2]; grind)] at k
    exact k
  have down : v ≤ -1 → 0 < lg s (σ * (p * q2 + p2 * q)) (σ * (2 * q * q2)) := by
    intro h1
    have hu0 : 1 ≤ u := by
      by_cases h2 : 1 ≤ u
      · exact h2
      · exfalso
        have m1 := Int.mul_le_mul_of_nonneg_right (show u ≤ 0 by omega) (show 0 ≤ q2 by omega)
        have m2 := Int.mul_le_mul_of_nonneg_right h1 (show 0 ≤ q1 by omega)
        omega
    have m3 := Int.mul_le_mul_of_nonneg_left (show 1 ≤ -v by omega) (show 0 ≤ q2 by omega)
    have m4 : 0 ≤ q2 * u := Int.mul_nonneg (by omega) (by omega)
    have k := lg_add_pos (lg_scale_pos (q2 * -v) (by omega) ha) (lg_scale_ge (q2 * u + q) (by omega) hb)
    have e1 : p * q2 + p2 * q = (q2 * u + q) * p2 + q2 * v * p1 := by rw [ep]; grind
    have e2 : 2 * q * q2 = (q2 * u + q) * q2 + q2 * v * q1 := by
      have : 2 * q * q2 = q * q2 + q * q2 := by grind
      rw [this]
      have e3 : q * q2 = (u * q2 + v * q1) * q2 := by rw [← eq]
      grind
    rw [lg_eq (p' := σ * (p * q2 + p2 * q)) (q' := σ * (2 * q * q2)) (by rw [e1]; grind) (by rw [e2]; grind)] at k
    exact k
  have ng := lg_neg s (p * q2 + p2 * q) (2 * q * q2)
  rcases sign with hs | hs
  · subst hs
    rw [Int.one_mul] at hv
    rw [Int.one_mul, Int.one_mul] at down
    rw [show -1 * (p * q2 + p2 * q) = -(p * q2 + p2 * q) by omega, show -1 * (2 * q * q2) = -(2 * q * q2) by omega] at up
    exact ⟨fun h => by have := up (by omega); omega, fun h => down (by omega)⟩
  · subst hs
    rw [show - -1 * (p * q2 + p2 * q) = p * q2 + p2 * q by omega, show - -1 * (2 * q * q2) = 2 * q * q2 by omega] at up
    rw [show -1 * (p * q2 + p2 * q) = -(p * q2 + p2 * q) by omega, show -1 * (2 * q * q2) = -(2 * q * q2) by omega] at down
    exact ⟨fun h => by have := down (by omega); omega, fun h => up (by omega)⟩

theorem link_signs {s : T4} {p1 q1 p2 q2 σ : Int} (h : Link s p1 q1 p2 q2 σ) : ¬ 0 < lg s p1 q1 * lg s p2 q2 := by
  obtain ⟨sign, hq1, hq2, det, ha, hb, hc⟩ := h
  have c1 := lg_cases s p1 q1
  have c2 := lg_cases s p2 q2
  have n1 := lg_neg s p1 q1
  have n2 := lg_neg s p2 q2
  rcases sign with hs | hs
  · subst hs
    rw [Int.one_mul, Int.one_mul] at hb
    rw [show -1 * p1 = -p1 by omega, show -1 * q1 = -q1 by omega] at ha
    have e1 : lg s p1 q1 = -1 := by omega
    rw [e1]; omega
  · subst hs
    rw [show - -1 * p1 = p1 by omega, show - -1 * q1 = q1 by omega] at ha
    rw [show -1 * p2 = -p2 by omega, show -1 * q2 = -q2 by omega] at hb
    have e1 : lg s p1 q1 = 1 := by omega
    rw [e1]; omega

/-- the whole octaves of a tone above 1 -/
theorem oct_lg {s : T4} (hd : 1 ≤ s.d) (k : Int) : k ≤ octT s ↔ 0 ≤ lg s k 1 := by
  rw [oct_iff hd]
  unfold lg hidT
  rw [Int.one_mul, Int.one_mul, Int.one_mul]

/-- where the search begins -/
theorem dinv_first {s : T4} {most : Int} (hd : 1 ≤ s.d) (hm : 1 ≤ most) (h : 0 < lg s 0 1) : DInv s most (octT s + 1) 1 0 (octT s) 1 (-1) := by
  have h0 : 0 ≤ octT s := (oct_lg hd 0).2 (by omega)
  have h1 := (oct_lg hd (octT s)).1 (Int.le_refl _)
  have h2 : ¬ 0 ≤ lg s (octT s + 1) 1 := fun h => by have := (oct_lg hd _).2 h; omega
  refine ⟨.inr rfl, by omega, by omega, .inl ⟨rfl, rfl, by omega⟩, by omega, by omega, ?_, ?_⟩
  · rw [show - -1 * octT s = octT s by omega, show - -1 * (1 : Int) = 1 by omega]
    exact h1
  · unfold onSide
    have := lg_neg s (octT s + 1) 1
    rw [lg_eq (p' := -(octT s + 1)) (q' := -1) (by omega) (by omega)]
    omega

/-- all fractions of a tone's logarithm -/
theorem fracs_exist {s : T4} {most : Int} (hd : 1 ≤ s.d) (hm : 1 ≤ most) (h : 0 < lg s 0 1) : ∃ L, Chain s most 1 0 (octT s) 1 (-1) L :=
  chain_exists _ _ _ _ _ _ (dinv_first hd hm h) (Nat.le_refl _)

end Go.Proofs
