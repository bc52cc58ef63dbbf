/- plain facts on tones: reduction by the greatest common divisor. -/
import Derived.Test.YtgdgdaofmjnepaaDoorNum
namespace Go.Proofs
set_option linter.unusedVariables false

def gcdN (a b c d : Nat) : Nat := Nat.gcd (Nat.gcd a b) (Nat.gcd c d)
def gcd4 (a b c d : Int) : Nat := gcdN a.natAbs b.natAbs c.natAbs d.natAbs
def validB (a b c d : Int) : Bool := decide (gcd4 a b c d = 1) && (decide (1 ≤ d) && (decide (d ≤ 24) && decide (max (max a.natAbs b.natAbs) c.natAbs ≤ 960)))
def redOk (a b c d : Int) : Bool := validB (a.tdiv (gcd4 a b c d)) (b.tdiv (gcd4 a b c d)) (c.tdiv (gcd4 a b c d)) (d.tdiv (gcd4 a b c d))
/-- a sign and a size -/
def sgnV (m : Bool) (q : Nat) : Int := if m then -(q : Int) else q

theorem gcd_fold (a b c d : Nat) : Nat.gcd (Nat.gcd (Nat.gcd (Nat.gcd 0 a) b) c) d = gcdN a b c d := by
  rw [gcdN, Nat.gcd_zero_left, Nat.gcd_assoc]

theorem gcdN_dvd (a b c d : Nat) : gcdN a b c d ∣ a ∧ gcdN a b c d ∣ b ∧ gcdN a b c d ∣ c ∧ gcdN a b c d ∣ d :=
  ⟨Nat.dvd_trans (Nat.gcd_dvd_left _ _) (Nat.gcd_dvd_left _ _), Nat.dvd_trans (Nat.gcd_dvd_left _ _) (Nat.gcd_dvd_right _ _),
   Nat.dvd_trans (Nat.gcd_dvd_right _ _) (Nat.gcd_dvd_left _ _), Nat.dvd_trans (Nat.gcd_dvd_right _ _) (Nat.gcd_dvd_right _ _)⟩

theorem gcdN_pos {a b c d : Nat} (h : 1 ≤ d) : 1 ≤ gcdN a b c d :=
  Nat.pos_of_dvd_of_pos (gcdN_dvd a b c d).2.2.2 h

theorem gcdN_div {a b c d g : Nat} (hg : g = gcdN a b c d) (h : 1 ≤ g) : gcdN (a / g) (b / g) (c / g) (d / g) = 1 := by
  obtain ⟨h1, h2, h3, h4⟩ := gcdN_dvd a b c d
  rw [← hg] at h1 h2 h3 h4
  unfold gcdN
  rw [Nat.gcd_div h1 h2, Nat.gcd_div h3 h4, Nat.gcd_div (Nat.dvd_gcd h1 h2) (Nat.dvd_gcd h3 h4)]
  have : Nat.gcd (Nat.gcd a b) (Nat.gcd c d) = g := hg.symm
  rw [this]
  exact Nat.div_self h

theorem tdiv_sgn (a : Int) (g : Nat) : a.tdiv g = sgnV (decide (a < 0)) (a.natAbs / g) := by
  unfold sgnV
  by_cases h : a < 0
  · rw [decide_eq_true h, if_pos rfl]
    obtain ⟨n, rfl⟩ : ∃ n : Nat, a = -(n : Int) := ⟨a.natAbs, by omega⟩
    rw [Int.neg_tdiv, Int.natAbs_neg, Int.natAbs_natCast]
    rfl
  · rw [decide_eq_false h, if_neg (by simp)]
    obtain ⟨n, rfl⟩ : ∃ n : Nat, a = (n : Int) := ⟨a.natAbs, by omega⟩
    rw [Int.natAbs_natCast]
    rfl

theorem sgnV_abs (m : Bool) (q : Nat) : (sgnV m q).natAbs = q := by
  unfold sgnV
  cases m <;> simp

theorem sgnV_zero (m : Bool) : sgnV m 0 = 0 := by cases m <;> rfl

theorem natAbs_tdiv' (a : Int) (g : Nat) : (a.tdiv g).natAbs = a.natAbs / g := by rw [tdiv_sgn, sgnV_abs]

/-- what the reduction is checked for -/
def smallN (a b c d g : Nat) : Bool := decide (a / g ≤ 960) && decide (b / g ≤ 960) && decide (c / g ≤ 960) && decide (d / g ≤ 24)

theorem redOk_eq {a b c d : Int} (hd : 1 ≤ d) : redOk a b c d = smallN a.natAbs b.natAbs c.natAbs d.natAbs (gcd4 a b c d) := by
  have hg : 1 ≤ gcd4 a b c d := gcdN_pos (by omega)
  have hone : gcd4 (a.tdiv (gcd4 a b c d)) (b.tdiv (gcd4 a b c d)) (c.tdiv (gcd4 a b c d)) (d.tdiv (gcd4 a b c d)) = 1 := by
    have := gcdN_div (a := a.natAbs) (b := b.natAbs) (c := c.natAbs) (d := d.natAbs) rfl hg
    rw [gcd4, natAbs_tdiv', natAbs_tdiv', natAbs_tdiv', natAbs_tdiv']
    exact this
  have hdd : gcd4 a b c d ∣ d.natAbs := (gcdN_dvd _ _ _ _).2.2.2
  unfold redOk validB smallN
  rw [hone]
  generalize gcd4 a b c d = g at *
  have e : d.tdiv g = ((d.natAbs / g : Nat) : Int) := by
    rw [tdiv_sgn, decide_eq_false (by omega)]; rfl
  have h1 : 1 ≤ d.natAbs / g := by
    have := Nat.le_of_dvd (by omega) hdd
    exact (Nat.le_div_iff_mul_le (by omega)).2 (by omega)
  rw [natAbs_tdiv', natAbs_tdiv', natAbs_tdiv', e]
  generalize a.natAbs / g = x
  generalize b.natAbs / g = y
  generalize c.natAbs / g = z
  generalize d.natAbs / g = t at *
  rw [Bool.eq_iff_iff]
  simp only [Bool.and_eq_true, decide_eq_true_eq, true_and, Nat.max_le]
  omega

theorem validB_parts {a b c d : Int} (h : validB a b c d = true) : gcd4 a b c d = 1 ∧ 1 ≤ d ∧ d ≤ 24 ∧ a.natAbs ≤ 960 ∧ b.natAbs ≤ 960 ∧ c.natAbs ≤ 960 := by
  simp only [validB, Bool.and_eq_true, decide_eq_true_eq] at h
  omega

/-- a common factor of all four makes no difference -/
theorem gcdN_mul (a b c d k : Nat) : gcdN (a * k) (b * k) (c * k) (d * k) = gcdN a b c d * k := by
  unfold gcdN
  rw [Nat.gcd_mul_right, Nat.gcd_mul_right, Nat.gcd_mul_right]

theorem mul_div_mul (a g k : Nat) (hk : 1 ≤ k) : a * k / (g * k) = a / g := Nat.mul_div_mul_right a g hk

/-- beyond these nothing that is valid is left -/
theorem power_range {a b c d over under : Nat} (hg : gcdN a b c d = 1) (hd : 1 ≤ d ∧ d ≤ 24) (h0 : ¬ (a = 0 ∧ b = 0 ∧ c = 0)) (hs : a ≤ 960 ∧ b ≤ 960 ∧ c ≤ 960)
    (hc : Nat.gcd over under = 1) (hu : 1 ≤ under) (h : 960 * 24 < over ∨ 960 * 24 < under) :
    smallN (a * over) (b * over) (c * over) (d * under) (gcdN (a * over) (b * over) (c * over) (d * under)) = false := by
  obtain ⟨e, he⟩ : ∃ e, Nat.gcd (Nat.gcd a b) c = e := ⟨_, rfl⟩
  have hed : Nat.gcd e d = 1 := by rw [← he, Nat.gcd_assoc]; exact hg
  have hepos : 1 ≤ e := by
    rcases Nat.eq_zero_or_pos e with h1 | h1
    · exfalso
      rw [h1] at he
      have h2 := Nat.eq_zero_of_gcd_eq_zero_left he
      have h3 := Nat.eq_zero_of_gcd_eq_zero_right he
      have h4 := Nat.eq_zero_of_gcd_eq_zero_left h2
      have h5 := Nat.eq_zero_of_gcd_eq_zero_right h2
      exact h0 ⟨h4, h5, h3⟩
    · exact h1
  have hG : gcdN (a * over) (b * over) (c * over) (d * under) = Nat.gcd (e * over) (d * under) := by
    rw [gcdN, ← Nat.gcd_assoc, Nat.gcd_mul_right, Nat.gcd_mul_right, he]
  have hle : Nat.gcd (e * over) (d * under) ≤ Nat.gcd e under * Nat.gcd over d := by
    have h1 : Nat.gcd (e * over) (d * under) ∣ Nat.gcd e (d * under) * Nat.gcd over (d * under) := by
      rw [Nat.gcd_comm (e * over), Nat.gcd_comm e, Nat.gcd_comm over]
      exact Nat.gcd_mul_right_dvd_mul_gcd _ _ _
    have h2 : Nat.gcd e (d * under) ∣ Nat.gcd e d * Nat.gcd e under := Nat.gcd_mul_right_dvd_mul_gcd _ _ _
    have h3 : Nat.gcd over (d * under) ∣ Nat.gcd over d * Nat.gcd over under := Nat.gcd_mul_right_dvd_mul_gcd _ _ _
    rw [hed, Nat.one_mul] at h2
    rw [hc, Nat.mul_one] at h3
    have h4 := Nat.dvd_trans h1 (Nat.mul_dvd_mul h2 h3)
    exact Nat.le_of_dvd (Nat.mul_pos (Nat.gcd_pos_of_pos_left _ hepos) (Nat.gcd_pos_of_pos_right _ hd.1)) h4
  have hea : e ∣ a := by rw [← he]; exact Nat.dvd_trans (Nat.gcd_dvd_left _ _) (Nat.gcd_dvd_left _ _)
  have heb : e ∣ b := by rw [← he]; exact Nat.dvd_trans (Nat.gcd_dvd_left _ _) (Nat.gcd_dvd_right _ _)
  have hec : e ∣ c := by rw [← he]; exact Nat.gcd_dvd_right _ _
  have he960 : e ≤ 960 := by
    by_cases ha : a = 0
    · by_cases hb : b = 0
      · exact Nat.le_trans (Nat.le_of_dvd (by omega) hec) hs.2.2
      · exact Nat.le_trans (Nat.le_of_dvd (by omega) heb) hs.2.1
    · exact Nat.le_trans (Nat.le_of_dvd (by omega) hea) hs.1
  have hg1 : Nat.gcd e under ≤ e := Nat.gcd_le_left _ hepos
  have hg2 : Nat.gcd over d ≤ d := Nat.gcd_le_right _ hd.1
  have hGle : Nat.gcd (e * over) (d * under) ≤ e * d := Nat.le_trans hle (Nat.mul_le_mul hg1 hg2)
  have hGpos : 1 ≤ Nat.gcd (e * over) (d * under) := Nat.gcd_pos_of_pos_right _ (Nat.mul_pos hd.1 hu)
  obtain ⟨hda, hdb, hdc, hdd⟩ := gcdN_dvd (a * over) (b * over) (c * over) (d * under)
  rw [hG] at hda hdb hdc hdd ⊢
  generalize Nat.gcd (e * over) (d * under) = G at *
  have above : ∀ x k, G ∣ x → k * G < x → ¬ x / G ≤ k := by
    rintro x k ⟨q, rfl⟩ h1
    rw [Nat.mul_div_cancel_left q hGpos, Nat.not_le]
    rw [Nat.mul_comm] at h1
    exact Nat.lt_of_mul_lt_mul_left h1
  unfold smallN
  rcases h with h | h
  · have hbig : 960 * G < e * over := by
      have h1 : 960 * G ≤ 960 * (e * d) := Nat.mul_le_mul_left _ hGle
      have h2 : 960 * (e * d) ≤ 960 * (e * 24) := Nat.mul_le_mul_left _ (Nat.mul_le_mul_left _ hd.2)
      have h3 : e * (960 * 24) < e * over := Nat.mul_lt_mul_of_pos_left h hepos
      omega
    have one : ∀ x, x ≠ 0 → e ∣ x → 960 * G < x * over := by
      intro x hx hex
      have h1 : e * over ≤ x * over := Nat.mul_le_mul_right _ (Nat.le_of_dvd (by omega) hex)
      omega
    by_cases ha : a = 0
    · by_cases hb : b = 0
      · have := above _ _ hdc (one c (fun h => h0 ⟨ha, hb, h⟩) hec)
        simp [this]
      · have := above _ _ hdb (one b hb heb)
        simp [this]
    · have := above _ _ hda (one a ha hea)
      simp [this]
  · have h1 : 24 * G ≤ 24 * (e * d) := Nat.mul_le_mul_left _ hGle
    have h2 : e * d ≤ 960 * d := Nat.mul_le_mul_right _ he960
    have h3 : d * (960 * 24) < d * under := Nat.mul_lt_mul_of_pos_left h hd.1
    have := above _ 24 hdd (by omega)
    simp [this]

/-- four integers -/
structure T4 where
  a : Int
  b : Int
  c : Int
  d : Int

/-- the tone of four integers, or the error -/
def redT (a b c d : Int) : T4 × Int :=
  if redOk a b c d = true then (⟨a.tdiv (gcd4 a b c d), b.tdiv (gcd4 a b c d), c.tdiv (gcd4 a b c d), d.tdiv (gcd4 a b c d)⟩, 0) else (⟨0, 0, 0, 0⟩, 5)

theorem gcd4_scale (a b c d : Int) (k : Nat) : gcd4 (a * k) (b * k) (c * k) (d * k) = gcd4 a b c d * k := by
  unfold gcd4
  rw [Int.natAbs_mul, Int.natAbs_mul, Int.natAbs_mul, Int.natAbs_mul, Int.natAbs_natCast]
  exact gcdN_mul _ _ _ _ k

theorem tdiv_scale (a : Int) (g k : Nat) (hk : 1 ≤ k) : (a * (k : Int)).tdiv ((g * k : Nat) : Int) = a.tdiv g := by
  rw [Int.natCast_mul]
  exact Int.mul_tdiv_mul_of_pos_left a g (by omega)

/-- a common factor of all four makes no difference -/
theorem redT_scale (a b c d : Int) (k : Nat) (hk : 1 ≤ k) : redT (a * k) (b * k) (c * k) (d * k) = redT a b c d := by
  unfold redT redOk
  rw [gcd4_scale]
  simp only [tdiv_scale _ _ k hk]

theorem redT_self {a b c d : Int} (h : validB a b c d = true) : redT a b c d = (⟨a, b, c, d⟩, 0) := by
  have h1 := (validB_parts h).1
  unfold redT redOk
  rw [h1]
  simp only [Int.natCast_one, Int.tdiv_one]
  rw [if_pos h]

/-- what is reduced fits: the four are the common divisor times it -/
theorem redT_ok {a b c d : Int} (h : (redT a b c d).2 = 0) :
    ∃ g : Nat, g = gcd4 a b c d ∧ (redT a b c d).1.a * g = a ∧ (redT a b c d).1.b * g = b ∧ (redT a b c d).1.c * g = c ∧ (redT a b c d).1.d * g = d ∧
      validB (redT a b c d).1.a (redT a b c d).1.b (redT a b c d).1.c (redT a b c d).1.d = true := by
  have dv : ∀ (x : Int), gcd4 a b c d ∣ x.natAbs → x.tdiv (gcd4 a b c d) * (gcd4 a b c d) = x := fun x hx => Int.tdiv_mul_cancel (Int.dvd_natAbs.1 (Int.natCast_dvd_natCast.2 hx))
  obtain ⟨h1, h2, h3, h4⟩ := gcdN_dvd a.natAbs b.natAbs c.natAbs d.natAbs
  by_cases hr : redOk a b c d = true
  · refine ⟨_, rfl, ?_⟩
    unfold redT
    rw [if_pos hr]
    exact ⟨dv a h1, dv b h2, dv c h3, dv d h4, hr⟩
  · unfold redT at h
    rw [if_neg hr] at h
    simp at h

theorem redT_err {a b c d : Int} (h : (redT a b c d).2 ≠ 0) : redT a b c d = (⟨0, 0, 0, 0⟩, 5) := by
  unfold redT at *
  split
  · rename_i hr
    rw [if_pos hr] at h
    exact absurd rfl h
  · rfl

theorem redT_code (a b c d : Int) : (redT a b c d).2 = 0 ∨ (redT a b c d).2 = 5 := by
  unfold redT
  split
  · exact .inl rfl
  · exact .inr rfl

/-- a power, with what the exponent's fraction has in common taken out ahead -/
theorem power_red {a b c d num den : Int} (hv : validB a b c d = true) (h0 : ¬ (a = 0 ∧ b = 0 ∧ c = 0)) (hd : 1 ≤ den) (g over under : Nat) (hg : g = Nat.gcd num.natAbs den.natAbs)
    (ho : over = num.natAbs / g) (hu : under = den.natAbs / g) :
    1 ≤ g ∧ 1 ≤ under ∧ num = sgnV (decide (num < 0)) over * g ∧ den = (under : Int) * g ∧
    (23040 < over ∨ 23040 < under → redT (a * num) (b * num) (c * num) (d * den) = (⟨0, 0, 0, 0⟩, 5)) ∧
    redT (a * num) (b * num) (c * num) (d * den) = redT (a * sgnV (decide (num < 0)) over) (b * sgnV (decide (num < 0)) over) (c * sgnV (decide (num < 0)) over) (d * (under : Int)) := by
  have hgp : 1 ≤ g := by rw [hg]; exact Nat.gcd_pos_of_pos_right _ (by omega)
  have d1 : g ∣ num.natAbs := by rw [hg]; exact Nat.gcd_dvd_left _ _
  have d2 : g ∣ den.natAbs := by rw [hg]; exact Nat.gcd_dvd_right _ _
  have e1 : num.natAbs = over * g := by rw [ho]; exact (Nat.div_mul_cancel d1).symm
  have e2 : den.natAbs = under * g := by rw [hu]; exact (Nat.div_mul_cancel d2).symm
  have hup : 1 ≤ under := by
    rcases Nat.eq_zero_or_pos under with h | h
    · rw [h, Nat.zero_mul] at e2; omega
    · exact h
  have e3 : num = sgnV (decide (num < 0)) over * g := by
    unfold sgnV
    by_cases h : num < 0
    · rw [decide_eq_true h, if_pos rfl, Int.neg_mul, ← Int.natCast_mul, ← e1]; omega
    · rw [decide_eq_false h, if_neg (by simp), ← Int.natCast_mul, ← e1]; omega
  have e4 : den = (under : Int) * g := by rw [← Int.natCast_mul, ← e2]; omega
  have hred : redT (a * num) (b * num) (c * num) (d * den) = redT (a * sgnV (decide (num < 0)) over) (b * sgnV (decide (num < 0)) over) (c * sgnV (decide (num < 0)) over) (d * (under : Int)) := by
    obtain ⟨n, hn⟩ : ∃ n, sgnV (decide (num < 0)) over = n := ⟨_, rfl⟩
    rw [hn] at e3 ⊢
    rw [e3, e4, ← Int.mul_assoc, ← Int.mul_assoc, ← Int.mul_assoc, ← Int.mul_assoc]
    exact redT_scale _ _ _ _ g hgp
  refine ⟨hgp, hup, e3, e4, fun h => ?_, hred⟩
  rw [hred]
  obtain ⟨p1, p2, p3, p4, p5, p6⟩ := validB_parts hv
  have hcop : Nat.gcd over under = 1 := by
    rw [ho, hu, Nat.gcd_div d1 d2, ← hg]
    exact Nat.div_self hgp
  have R := power_range (a := a.natAbs) (b := b.natAbs) (c := c.natAbs) (d := d.natAbs) (over := over) (under := under) p1 (by omega) (by omega) (by omega) hcop hup (by omega)
  have hdu : 1 ≤ d * (under : Int) := by
    have := Int.mul_le_mul_of_nonneg_left (show (1 : Int) ≤ under by omega) (show 0 ≤ d by omega)
    omega
  have hk := redOk_eq (a := a * sgnV (decide (num < 0)) over) (b := b * sgnV (decide (num < 0)) over) (c := c * sgnV (decide (num < 0)) over) hdu
  unfold gcd4 at hk
  rw [Int.natAbs_mul, Int.natAbs_mul, Int.natAbs_mul, Int.natAbs_mul, sgnV_abs, Int.natAbs_natCast, R] at hk
  unfold redT
  rw [if_neg (by rw [hk]; simp)]

end Go.Proofs
