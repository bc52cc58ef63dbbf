/- plain facts on tones: reduction by the greatest common divisor. plain facts: the greatest power of 2 that is not above a fraction. plain facts: the order of the numbers 2^x 3^y 5^z, and of tones. plain facts: products, quotients and powers of tones. plain facts: cents and octaves. -/
import Derived.Test.YthkeekoljediiaaNum
import Derived.Test.YthkeekoljediiaaNatA
namespace Go.Proofs
set_option linter.unusedVariables false
set_option linter.unusedSimpArgs false

def gcdN (a b c d : Nat) : Nat := Nat.gcd (Nat.gcd a b) (Nat.gcd c d)
def gcd4 (a b c d : Int) : Nat := gcdN a.natAbs b.natAbs c.natAbs d.natAbs
def validB (a b c d : Int) : Bool := decide (gcd4 a b c d = 1) && (decide (1 ≤ d) && (decide (d ≤ 24) && decide (max (max a.natAbs b.natAbs) c.natAbs ≤ 960)))
def redOk (a b c d : Int) : Bool := validB (a.tdiv (gcd4 a b c d)) (b.tdiv (gcd4 a b c d)) (c.tdiv (gcd4 a b c d)) (d.tdiv (gcd4 a b c d))
/-- a sign and a size -/
def sgnV (m : Bool) (q : Nat) : Int := if m then -(q : Int) else q

theorem gcd_fold (a b c d : Nat) : Nat.gcd (Nat.gcd (Nat.gcd (Nat.gcd 0 a) b) c) d = gcdN a b c d := by
  rw [gcdN, Nat.gcd_zero_left, Nat.gcd_assoc]

theorem gcdN_dvd (a b c d : Nat) : gcdN a b c d ∣ a ∧ gcdN a b c d ∣ b ∧ gcdN a b c d ∣ c ∧ gcdN a b c d ∣ d :=
  ⟨Nat.dvd_trans (Nat.gcd_dvd_left _ _) (Nat.gcd_dvd_left _ _), Nat.dvd_trans (Nat.gcd_dvd_left _ _) (Nat.gcd_dvd_right _ _),
   Nat.dvd_trans (Nat.gcd_dvd_right _ _) (Nat.gcd_dvd_left _ _), Nat.dvd_trans (Nat.gcd_dvd_right _ _) (Nat.gcd_dvd_right _ _)⟩

theorem gcdN_pos {a b c d : Nat} (h : 1 ≤ d) : 1 ≤ gcdN a b c d :=
  Nat.pos_of_dvd_of_pos (gcdN_dvd a b c d).2.2.2 h

theorem gcdN_div {a b c d g : Nat} (hg : g = gcdN a b c d) (h : 1 ≤ g) : gcdN (a / g) (b / g) (c / g) (d / g) = 1 := by
  obtain ⟨h1, h2, h3, h4⟩ := gcdN_dvd a b c d
  rw [← hg] at h1 h2 h3 h4
  unfold gcdN
  rw [Nat.gcd_div h1 h2, Nat.gcd_div h3 h4, Nat.gcd_div (Nat.dvd_gcd h1 h2) (Nat.dvd_gcd h3 h4)]
  have : Nat.gcd (Nat.gcd a b) (Nat.gcd c d) = g := hg.symm
  rw [this]
  exact Nat.div_self h

theorem tdiv_sgn (a : Int) (g : Nat) : a.tdiv g = sgnV (decide (a < 0)) (a.natAbs / g) := by
  unfold sgnV
  by_cases h : a < 0
  · rw [decide_eq_true h, if_pos rfl]
    obtain ⟨n, rfl⟩ : ∃ n : Nat, a = -(n : Int) := ⟨a.natAbs, by omega⟩
    rw [Int.neg_tdiv, Int.natAbs_neg, Int.natAbs_natCast]
    rfl
  · rw [decide_eq_false h, if_neg (by simp)]
    obtain ⟨n, rfl⟩ : ∃ n : Nat, a = (n : Int) := ⟨a.natAbs, by omega⟩
    rw [Int.natAbs_natCast]
    rfl

theorem sgnV_abs (m : Bool) (q : Nat) : (sgnV m q).natAbs = q := by
  unfold sgnV
  cases m <;> simp

theorem sgnV_zero (m : Bool) : sgnV m 0 = 0 := by cases m <;> rfl

theorem natAbs_tdiv' (a : Int) (g : Nat) : (a.tdiv g).natAbs = a.natAbs / g := by rw [tdiv_sgn, sgnV_abs]

/-- what the reduction is checked for -/
def smallN (a b c d g : Nat) : Bool := decide (a / g ≤ 960) && decide (b / g ≤ 960) && decide (c / g ≤ 960) && decide (d / g ≤ 24)

theorem redOk_eq {a b c d : Int} (hd : 1 ≤ d) : redOk a b c d = smallN a.natAbs b.natAbs c.natAbs d.natAbs (gcd4 a b c d) := by
  have hg : 1 ≤ gcd4 a b c d := gcdN_pos (by omega)
  have hone : gcd4 (a.tdiv (gcd4 a b c d)) (b.tdiv (gcd4 a b c d)) (c.tdiv (gcd4 a b c d)) (d.tdiv (gcd4 a b c d)) = 1 := by
    have := gcdN_div (a := a.natAbs) (b := b.natAbs) (c := c.natAbs) (d := d.natAbs) rfl hg
    rw [gcd4, natAbs_tdiv', natAbs_tdiv', natAbs_tdiv', natAbs_tdiv']
    exact this
  have hdd : gcd4 a b c d ∣ d.natAbs := (gcdN_dvd _ _ _ _).2.2.2
  unfold redOk validB smallN
  rw [hone]
  generalize gcd4 a b c d = g at *
  have e : d.tdiv g = ((d.natAbs / g : Nat) : Int) := by
    rw [tdiv_sgn, decide_eq_false (by omega)]; rfl
  have h1 : 1 ≤ d.natAbs / g := by
    have := Nat.le_of_dvd (by omega) hdd
    exact (Nat.le_div_iff_mul_le (by omega)).2 (by omega)
  rw [natAbs_tdiv', natAbs_tdiv', natAbs_tdiv', e]
  generalize a.natAbs / g = x
  generalize b.natAbs / g = y
  generalize c.natAbs / g = z
  generalize d.natAbs / g = t at *
  rw [Bool.eq_iff_iff]
  simp only [Bool.and_eq_true, decide_eq_true_eq, true_and, Nat.max_le]
  omega

theorem validB_parts {a b c d : Int} (h : validB a b c d = true) : gcd4 a b c d = 1 ∧ 1 ≤ d ∧ d ≤ 24 ∧ a.natAbs ≤ 960 ∧ b.natAbs ≤ 960 ∧ c.natAbs ≤ 960 := by
  simp only [validB, Bool.and_eq_true, decide_eq_true_eq] at h
  omega

/-- a common factor of all four makes no difference -/
theorem gcdN_mul (a b c d k : Nat) : gcdN (a * k) (b * k) (c * k) (d * k) = gcdN a b c d * k := by
  unfold gcdN
  rw [Nat.gcd_mul_right, Nat.gcd_mul_right, Nat.gcd_mul_right]

theorem mul_div_mul (a g k : Nat) (hk : 1 ≤ k) : a * k / (g * k) = a / g := Nat.mul_div_mul_right a g hk

/-- beyond these nothing that is valid is left -/
theorem power_range {a b c d over under : Nat} (hg : gcdN a b c d = 1) (hd : 1 ≤ d ∧ d ≤ 24) (h0 : ¬ (a = 0 ∧ b = 0 ∧ c = 0)) (hs : a ≤ 960 ∧ b ≤ 960 ∧ c ≤ 960)
    (hc : Nat.gcd over under = 1) (hu : 1 ≤ under) (h : 960 * 24 < over ∨ 960 * 24 < under) :
    smallN (a * over) (b * over) (c * over) (d * under) (gcdN (a * over) (b * over) (c * over) (d * under)) = false := by
  obtain ⟨e, he⟩ : ∃ e, Nat.gcd (Nat.gcd a b) c = e := ⟨_, rfl⟩
  have hed : Nat.gcd e d = 1 := by rw [← he, Nat.gcd_assoc]; exact hg
  have hepos : 1 ≤ e := by
    rcases Nat.eq_zero_or_pos e with h1 | h1
    · exfalso
      rw [h1] at he
      have h2 := Nat.eq_zero_of_gcd_eq_zero_left he
      have h3 := Nat.eq_zero_of_gcd_eq_zero_right he
      have h4 := Nat.eq_zero_of_gcd_eq_zero_left h2
      have h5 := Nat.eq_zero_of_gcd_eq_zero_right h2
      exact h0 ⟨h4, h5, h3⟩
    · exact h1
  have hG : gcdN (a * over) (b * over) (c * over) (d * under) = Nat.gcd (e * over) (d * under) := by
    rw [gcdN, ← Nat.gcd_assoc, Nat.gcd_mul_right, Nat.gcd_mul_right, he]
  have hle : Nat.gcd (e * over) (d * under) ≤ Nat.gcd e under * Nat.gcd over d := by
    have h1 : Nat.gcd (e * over) (d * under) ∣ Nat.gcd e (d * under) * Nat.gcd over (d * under) := by
      rw [Nat.gcd_comm (e * over), Nat.gcd_comm e, Nat.gcd_comm over]
      exact Nat.gcd_mul_right_dvd_mul_gcd _ _ _
    have h2 : Nat.gcd e (d * under) ∣ Nat.gcd e d * Nat.gcd e under := Nat.gcd_mul_right_dvd_mul_gcd _ _ _
    have h3 : Nat.gcd over (d * under) ∣ Nat.gcd over d * Nat.gcd over under := Nat.gcd_mul_right_dvd_mul_gcd _ _ _
    rw [hed, Nat.one_mul] at h2
    rw [hc, Nat.mul_one] at h3
    have h4 := Nat.dvd_trans h1 (Nat.mul_dvd_mul h2 h3)
    exact Nat.le_of_dvd (Nat.mul_pos (Nat.gcd_pos_of_pos_left _ hepos) (Nat.gcd_pos_of_pos_right _ hd.1)) h4
  have hea : e ∣ a := by rw [← he]; exact Nat.dvd_trans (Nat.gcd_dvd_left _ _) (Nat.gcd_dvd_left _ _)
  have heb : e ∣ b := by rw [← he]; exact Nat.dvd_trans (Nat.gcd_dvd_left _ _) (Nat.gcd_dvd_right _ _)
  have hec : e ∣ c := by rw [← he]; exact Nat.gcd_dvd_right _ _
  have he960 : e ≤ 960 := by
    by_cases ha : a = 0
    · by_cases hb : b = 0
      · exact Nat.le_trans (Nat.le_of_dvd (by omega) hec) hs.2.2
      · exact Nat.le_trans (Nat.le_of_dvd (by omega) heb) hs.2.1
    · exact Nat.le_trans (Nat.le_of_dvd (by omega) hea) hs.1
  have hg1 : Nat.gcd e under ≤ e := Nat.gcd_le_left _ hepos
  have hg2 : Nat.gcd over d ≤ d := Nat.gcd_le_right _ hd.1
  have hGle : Nat.gcd (e * over) (d * under) ≤ e * d := Nat.le_trans hle (Nat.mul_le_mul hg1 hg2)
  have hGpos : 1 ≤ Nat.gcd (e * over) (d * under) := Nat.gcd_pos_of_pos_right _ (Nat.mul_pos hd.1 hu)
  obtain ⟨hda, hdb, hdc, hdd⟩ := gcdN_dvd (a * over) (b * over) (c * over) (d * under)
  rw [hG] at hda hdb hdc hdd ⊢
  generalize Nat.gcd (e * over) (d * under) = G at *
  have above : ∀ x k, G ∣ x → k * G < x → ¬ x / G ≤ k := by
    rintro x k ⟨q, rfl⟩ h1
    rw [Nat.mul_div_cancel_left q hGpos, Nat.not_le]
    rw [Nat.mul_comm] at h1
    exact Nat.lt_of_mul_lt_mul_left h1
  unfold smallN
  rcases h with h | h
  · have hbig : 960 * G < e * over := by
      have h1 : 960 * G ≤ 960 * (e * d) := Nat.mul_le_mul_left _ hGle
      have h2 : 960 * (e * d) ≤ 960 * (e * 24) := Nat.mul_le_mul_left _ (Nat.mul_le_mul_left _ hd.2)
      have h3 : e * (960 * 24) < e * over := Nat.mul_lt_mul_of_pos_left h hepos
      omega
    have one : ∀ x, x ≠ 0 → e ∣ x → 960 * G < x * over := by
      intro x hx hex
      have h1 : e * over ≤ x * over := Nat.mul_le_mul_right _ (Nat.le_of_dvd (by omega) hex)
      omega
    by_cases ha : a = 0
    · by_cases hb : b = 0
      · have := above _ _ hdc (one c (fun h => h0 ⟨ha, hb, h⟩) hec)
        simp [this]
      · have := above _ _ hdb (one b hb heb)
        simp [this]
    · have := above _ _ hda (one a ha hea)
      simp [this]
  · have h1 : 24 * G ≤ 24 * (e * d) := Nat.mul_le_mul_left _ hGle
    have h2 : e * d ≤ 960 * d := Nat.mul_le_mul_right _ he960
    have h3 : d * (960 * 24) < d * under := Nat.mul_lt_mul_of_pos_left h hd.1
    have := above _ 24 hdd (by omega)
    simp [this]

/-- four integers -/
structure T4 where
  a : Int
  b : Int
  c : Int
  d : Int

/-- the tone of four integers, or the error -/
def redT (a b c d : Int) : T4 × Int :=
  if redOk a b c d = true then (⟨a.tdiv (gcd4 a b c d), b.tdiv (gcd4 a b c d), c.tdiv (gcd4 a b c d), d.tdiv (gcd4 a b c d)⟩, 0) else (⟨0, 0, 0, 0⟩, 5)

theorem gcd4_scale (a b c d : Int) (k : Nat) : gcd4 (a * k) (b * k) (c * k) (d * k) = gcd4 a b c d * k := by
  unfold gcd4
  rw [Int.natAbs_mul, Int.natAbs_mul, Int.natAbs_mul, Int.natAbs_mul, Int.natAbs_natCast]
  exact gcdN_mul _ _ _ _ k

theorem tdiv_scale (a : Int) (g k : Nat) (hk : 1 ≤ k) : (a * (k : Int)).tdiv ((g * k : Nat) : Int) = a.tdiv g := by
  rw [Int.natCast_mul]
  exact Int.mul_tdiv_mul_of_pos_left a g (by omega)

/-- a common factor of all four makes no difference -/
theorem redT_scale (a b c d : Int) (k : Nat) (hk : 1 ≤ k) : redT (a * k) (b * k) (c * k) (d * k) = redT a b c d := by
  unfold redT redOk
  rw [gcd4_scale]
  simp only [tdiv_scale _ _ k hk]

theorem redT_self {a b c d : Int} (h : validB a b c d = true) : redT a b c d = (⟨a, b, c, d⟩, 0) := by
  have h1 := (validB_parts h).1
  unfold redT redOk
  rw [h1]
  simp only [Int.natCast_one, Int.tdiv_one]
  rw [if_pos h]

/-- what is reduced fits: the four are the common divisor times it -/
theorem redT_ok {a b c d : Int} (h : (redT a b c d).2 = 0) :
    ∃ g : Nat, g = gcd4 a b c d ∧ (redT a b c d).1.a * g = a ∧ (redT a b c d).1.b * g = b ∧ (redT a b c d).1.c * g = c ∧ (redT a b c d).1.d * g = d ∧
      validB (redT a b c d).1.a (redT a b c d).1.b (redT a b c d).1.c (redT a b c d).1.d = true := by
  have dv : ∀ (x : Int), gcd4 a b c d ∣ x.natAbs → x.tdiv (gcd4 a b c d) * (gcd4 a b c d) = x := fun x hx => Int.tdiv_mul_cancel (Int.dvd_natAbs.1 (Int.natCast_dvd_natCast.2 hx))
  obtain ⟨h1, h2, h3, h4⟩ := gcdN_dvd a.natAbs b.natAbs c.natAbs d.natAbs
  by_cases hr : redOk a b c d = true
  · refine ⟨_, rfl, ?_⟩
    unfold redT
    rw [if_pos hr]
    exact ⟨dv a h1, dv b h2, dv c h3, dv d h4, hr⟩
  · unfold redT at h
    rw [if_neg hr] at h
    simp at h

theorem redT_err {a b c d : Int} (h : (redT a b c d).2 ≠ 0) : redT a b c d = (⟨0, 0, 0, 0⟩, 5) := by
  unfold redT at *
  split
  · rename_i hr
    rw [if_pos hr] at h
    exact absurd rfl h
  · rfl

theorem redT_code (a b c d : Int) : (redT a b c d).2 = 0 ∨ (redT a b c d).2 = 5 := by
  unfold redT
  split
  · exact .inl rfl
  · exact .inr rfl

/-- a power, with what the exponent's fraction has in common taken out ahead -/
theorem power_red {a b c d num den : Int} (hv : validB a b c d = true) (h0 : ¬ (a = 0 ∧ b = 0 ∧ c = 0)) (hd : 1 ≤ den) (g over under : Nat) (hg : g = Nat.gcd num.natAbs den.natAbs)
    (ho : over = num.natAbs / g) (hu : under = den.natAbs / g) :
    1 ≤ g ∧ 1 ≤ under ∧ num = sgnV (decide (num < 0)) over * g ∧ den = (under : Int) * g ∧
    (23040 < over ∨ 23040 < under → redT (a * num) (b * num) (c * num) (d * den) = (⟨0, 0, 0, 0⟩, 5)) ∧
    redT (a * num) (b * num) (c * num) (d * den) = redT (a * sgnV (decide (num < 0)) over) (b * sgnV (decide (num < 0)) over) (c * sgnV (decide (num < 0)) over) (d * (under : Int)) := by
  have hgp : 1 ≤ g := by rw [hg]; exact Nat.gcd_pos_of_pos_right _ (by omega)
  have d1 : g ∣ num.natAbs := by rw [hg]; exact Nat.gcd_dvd_left _ _
  have d2 : g ∣ den.natAbs := by rw [hg]; exact Nat.gcd_dvd_right _ _
  have e1 : num.natAbs = over * g := by rw [ho]; exact (Nat.div_mul_cancel d1).symm
  have e2 : den.natAbs = under * g := by rw [hu]; exact (Nat.div_mul_cancel d2).symm
  have hup : 1 ≤ under := by
    rcases Nat.eq_zero_or_pos under with h | h
    · rw [h, Nat.zero_mul] at e2; omega
    · exact h
  have e3 : num = sgnV (decide (num < 0)) over * g := by
    unfold sgnV
    by_cases h : num < 0
    · rw [decide_eq_true h, if_pos rfl, Int.neg_mul, ← Int.natCast_mul, ← e1]; omega
    · rw [decide_eq_false h, if_neg (by simp), ← Int.natCast_mul, ← e1]; omega
  have e4 : den = (under : Int) * g := by rw [← Int.natCast_mul, ← e2]; omega
  have hred : redT (a * num) (b * num) (c * num) (d * den) = redT (a * sgnV (decide (num < 0)) over) (b * sgnV (decide (num < 0)) over) (c * sgnV (decide (num < 0)) over) (d * (under : Int)) := by
    obtain ⟨n, hn⟩ : ∃ n, sgnV (decide (num < 0)) over = n := ⟨_, rfl⟩
    rw [hn] at e3 ⊢
    rw [e3, e4, ← Int.mul_assoc, ← Int.mul_assoc, ← Int.mul_assoc, ← Int.mul_assoc]
    exact redT_scale _ _ _ _ g hgp
  refine ⟨hgp, hup, e3, e4, fun h => ?_, hred⟩
  rw [hred]
  obtain ⟨p1, p2, p3, p4, p5, p6⟩ := validB_parts hv
  have hcop : Nat.gcd over under = 1 := by
    rw [ho, hu, Nat.gcd_div d1 d2, ← hg]
    exact Nat.div_self hgp
  have R := power_range (a := a.natAbs) (b := b.natAbs) (c := c.natAbs) (d := d.natAbs) (over := over) (under := under) p1 (by omega) (by omega) (by omega) hcop hup (by omega)
  have hdu : 1 ≤ d * (under : Int) := by
    have := Int.mul_le_mul_of_nonneg_left (show (1 : Int) ≤ under by omega) (show 0 ≤ d by omega)
    omega
  have hk := redOk_eq (a := a * sgnV (decide (num < 0)) over) (b := b * sgnV (decide (num < 0)) over) (c := c * sgnV (decide (num < 0)) over) hdu
  unfold gcd4 at hk
  rw [Int.natAbs_mul, Int.natAbs_mul, Int.natAbs_mul, Int.natAbs_mul, sgnV_abs, Int.natAbs_natCast, R] at hk
  unfold redT
  rw [if_neg (by rw [hk]; simp)]

end Go.Proofs

namespace Go.Proofs
set_option linter.unusedVariables false
set_option linter.unusedSimpArgs false

/-- 2^m is not above A/B -/
def leP (A B : Nat) (m : Int) : Prop := B * 2 ^ m.toNat ≤ A * 2 ^ (-m).toNat
instance (A B : Nat) (m : Int) : Decidable (leP A B m) := by unfold leP; infer_instance

theorem leP_step {A B : Nat} {m : Int} (h : leP A B (m + 1)) : leP A B m := by
  unfold leP at *
  by_cases hm : 0 ≤ m
  · obtain ⟨k, rfl⟩ : ∃ k : Nat, m = (k : Int) := ⟨m.toNat, by omega⟩
    have e1 : ((k : Int) + 1).toNat = k + 1 := by omega
    have e2 : (-((k : Int) + 1)).toNat = 0 := by omega
    have e3 : ((k : Int)).toNat = k := by omega
    have e4 : (-(k : Int)).toNat = 0 := by omega
    rw [e1, e2] at h
    rw [e3, e4]
    have : B * 2 ^ k ≤ B * 2 ^ (k + 1) := Nat.mul_le_mul_left _ (Nat.pow_le_pow_right (by omega) (by omega))
    omega
  · obtain ⟨k, rfl⟩ : ∃ k : Nat, m = -((k : Int) + 1) := ⟨(-m - 1).toNat, by omega⟩
    have e1 : (-((k : Int) + 1) + 1).toNat = 0 := by omega
    have e2 : (-(-((k : Int) + 1) + 1)).toNat = k := by omega
    have e3 : (-((k : Int) + 1)).toNat = 0 := by omega
    have e4 : (-(-((k : Int) + 1))).toNat = k + 1 := by omega
    rw [e1, e2] at h
    rw [e3, e4]
    have : A * 2 ^ k ≤ A * 2 ^ (k + 1) := Nat.mul_le_mul_left _ (Nat.pow_le_pow_right (by omega) (by omega))
    omega

theorem leP_down {A B : Nat} {m : Int} : ∀ (k : Nat), leP A B (m + k) → leP A B m
  | 0, h => by simpa using h
  | k + 1, h => leP_down k (leP_step (by rw [show m + (k : Int) + 1 = m + ((k + 1 : Nat) : Int) by omega]; exact h))

theorem leP_mono {A B : Nat} {m m' : Int} (h : leP A B m) (hm : m' ≤ m) : leP A B m' :=
  leP_down (m - m').toNat (by rw [show m' + ((m - m').toNat : Int) = m by omega]; exact h)

theorem leP_low {A B x y : Nat} (h1 : 2 ^ x ≤ A) (h4 : B < 2 ^ (y + 1)) : leP A B ((x : Int) - y - 1) := by
  unfold leP
  by_cases h : y + 1 ≤ x
  · obtain ⟨k, rfl⟩ : ∃ k, x = y + 1 + k := ⟨x - (y + 1), by omega⟩
    rw [show (((y + 1 + k : Nat) : Int) - y - 1).toNat = k by omega, show (-(((y + 1 + k : Nat) : Int) - y - 1)).toNat = 0 by omega]
    rw [Nat.pow_add] at h1
    have : B * 2 ^ k ≤ 2 ^ (y + 1) * 2 ^ k := Nat.mul_le_mul_right _ (Nat.le_of_lt h4)
    omega
  · obtain ⟨k, hk⟩ : ∃ k, y + 1 = x + k := ⟨y + 1 - x, by omega⟩
    rw [show ((x : Int) - y - 1).toNat = 0 by omega, show (-((x : Int) - y - 1)).toNat = k by omega]
    rw [hk, Nat.pow_add] at h4
    have : 2 ^ x * 2 ^ k ≤ A * 2 ^ k := Nat.mul_le_mul_right _ h1
    omega

theorem leP_high {A B x y : Nat} (h2 : A < 2 ^ (x + 1)) (h3 : 2 ^ y ≤ B) : ¬ leP A B ((x : Int) - y + 1) := by
  unfold leP
  by_cases h : y ≤ x + 1
  · obtain ⟨k, hk⟩ : ∃ k, x + 1 = y + k := ⟨x + 1 - y, by omega⟩
    rw [show ((x : Int) - y + 1).toNat = k by omega, show (-((x : Int) - y + 1)).toNat = 0 by omega]
    rw [hk, Nat.pow_add] at h2
    have : 2 ^ y * 2 ^ k ≤ B * 2 ^ k := Nat.mul_le_mul_right _ h3
    omega
  · obtain ⟨k, rfl⟩ : ∃ k, y = x + 1 + k := ⟨y - (x + 1), by omega⟩
    rw [show ((x : Int) - ((x + 1 + k : Nat) : Int) + 1).toNat = 0 by omega, show (-((x : Int) - ((x + 1 + k : Nat) : Int) + 1)).toNat = k by omega]
    rw [Nat.pow_add] at h3
    have h5 : A * 2 ^ k < 2 ^ (x + 1) * 2 ^ k := Nat.mul_lt_mul_of_pos_right h2 (Nat.two_pow_pos k)
    omega

/-- the exponent of the greatest power of 2 that is not above A/B -/
def flr (A B : Nat) : Int := if leP A B ((bitlen A : Int) - bitlen B) then (bitlen A : Int) - bitlen B else (bitlen A : Int) - bitlen B - 1

theorem flr_spec {A B : Nat} (hA : A ≠ 0) (hB : B ≠ 0) : leP A B (flr A B) ∧ ¬ leP A B (flr A B + 1) ∧ (bitlen A : Int) - bitlen B - 1 ≤ flr A B := by
  obtain ⟨a1, a2⟩ := bitlen_spec hA
  obtain ⟨b1, b2⟩ := bitlen_spec hB
  have ha : 1 ≤ bitlen A := by
    rcases Nat.eq_zero_or_pos (bitlen A) with h | h
    · rw [h] at a2; omega
    · exact h
  have hb : 1 ≤ bitlen B := by
    rcases Nat.eq_zero_or_pos (bitlen B) with h | h
    · rw [h] at b2; omega
    · exact h
  unfold flr
  obtain ⟨x, hx⟩ : ∃ x, bitlen A = x + 1 := ⟨bitlen A - 1, by omega⟩
  obtain ⟨y, hy⟩ : ∃ y, bitlen B = y + 1 := ⟨bitlen B - 1, by omega⟩
  rw [hx] at a1 a2
  rw [hy] at b1 b2
  rw [Nat.add_sub_cancel] at a1 b1
  have L := leP_low a1 b2
  have H := leP_high a2 b1
  rw [hx, hy]
  rw [show ((x + 1 : Nat) : Int) - ((y + 1 : Nat) : Int) = (x : Int) - y by omega]
  split
  · rename_i h
    exact ⟨h, H, by omega⟩
  · rename_i h
    exact ⟨L, by rw [show (x : Int) - y - 1 + 1 = (x : Int) - y by omega]; exact h, by omega⟩

theorem leP_iff {A B : Nat} (hA : A ≠ 0) (hB : B ≠ 0) (m : Int) : leP A B m ↔ m ≤ flr A B := by
  obtain ⟨h1, h2, _⟩ := flr_spec hA hB
  constructor
  · intro h
    by_cases hm : m ≤ flr A B
    · exact hm
    · exact absurd (leP_mono h (by omega)) h2
  · exact fun h => leP_mono h1 h

theorem leP_cmp (A B : Nat) (m : Int) : leP A B m ↔ 0 ≤ cmpInt (A * 2 ^ (-m).toNat) (B * 2 ^ m.toNat) := by
  unfold leP cmpInt
  split
  · omega
  · split <;> omega

/-- division that rounds down -/
theorem parted_eq (a b : Int) (hb : 0 < b) : (if a.tmod b < 0 then a.tdiv b - 1 else a.tdiv b) = a / b := by
  obtain ⟨q, hq⟩ : ∃ q, a / b = q := ⟨_, rfl⟩
  have h1 := Int.mul_tdiv_add_tmod a b
  have h2 := Int.tmod_lt_of_pos a hb
  by_cases ha : 0 ≤ a
  · rw [if_neg (by have := Int.tmod_nonneg b ha; omega), Int.tdiv_eq_ediv_of_nonneg ha]
  · obtain ⟨n, rfl⟩ : ∃ n : Int, a = -n := ⟨-a, by omega⟩
    rw [Int.neg_tdiv, Int.neg_tmod, Int.tdiv_eq_ediv_of_nonneg (by omega), Int.tmod_eq_emod_of_nonneg (by omega)]
    have h3 := Int.emod_add_mul_ediv n b
    have h4 := Int.emod_nonneg n (show b ≠ 0 by omega)
    have h5 := Int.emod_lt_of_pos n hb
    have h6 := Int.emod_add_mul_ediv (-n) b
    have h7 := Int.emod_nonneg (-n) (show b ≠ 0 by omega)
    have h8 := Int.emod_lt_of_pos (-n) hb
    by_cases hz : n % b = 0
    · rw [hz] at h3 ⊢
      rw [if_neg (by omega)]
      have : b * ((-n) / b + n / b) = - ((-n) % b) := by rw [Int.mul_add]; omega
      have h9 : (-n) / b + n / b = 0 := by
        rcases Int.lt_trichotomy ((-n) / b + n / b) 0 with h | h | h
        · have := Int.mul_le_mul_of_nonneg_left (show (-n) / b + n / b ≤ -1 by omega) (show 0 ≤ b by omega)
          omega
        · exact h
        · have := Int.mul_le_mul_of_nonneg_left (show 1 ≤ (-n) / b + n / b by omega) (show 0 ≤ b by omega)
          omega
      omega
    · rw [if_pos (by omega)]
      have : b * ((-n) / b + n / b) = - ((-n) % b) - n % b := by rw [Int.mul_add]; omega
      have h9 : (-n) / b + n / b = -1 := by
        rcases Int.lt_trichotomy ((-n) / b + n / b) (-1) with h | h | h
        · have := Int.mul_le_mul_of_nonneg_left (show (-n) / b + n / b ≤ -2 by omega) (show 0 ≤ b by omega)
          omega
        · exact h
        · have := Int.mul_le_mul_of_nonneg_left (show 0 ≤ (-n) / b + n / b by omega) (show 0 ≤ b by omega)
          omega
      omega

/-- the numbers of a tone's fraction -/
def overN (a b c : Int) : Nat := 2 ^ a.toNat * (3 ^ b.toNat * 5 ^ c.toNat)
def underN (a b c : Int) : Nat := 2 ^ (-a).toNat * (3 ^ (-b).toNat * 5 ^ (-c).toNat)

end Go.Proofs

namespace Go.Proofs
set_option linter.unusedVariables false
set_option linter.unusedSimpArgs false

/-- a number 2^x 3^y 5^z -/
structure H3 where
  x : Int
  y : Int
  z : Int

theorem H3.ext' {u v : H3} (h1 : u.x = v.x) (h2 : u.y = v.y) (h3 : u.z = v.z) : u = v := by
  cases u; cases v; simp_all

def H3.add (u v : H3) : H3 := ⟨u.x + v.x, u.y + v.y, u.z + v.z⟩
def H3.mul (n : Int) (u : H3) : H3 := ⟨n * u.x, n * u.y, n * u.z⟩
def H3.neg (u : H3) : H3 := ⟨-u.x, -u.y, -u.z⟩
def ov (u : H3) : Nat := overN u.x u.y u.z
def un (u : H3) : Nat := underN u.x u.y u.z
/-- the number against 1 -/
def sg (u : H3) : Int := cmpInt (ov u) (un u)

theorem ov_pos (u : H3) : 0 < ov u := Nat.mul_pos (Nat.two_pow_pos _) (Nat.mul_pos (Nat.pow_pos (by omega)) (Nat.pow_pos (by omega)))
theorem un_pos (u : H3) : 0 < un u := Nat.mul_pos (Nat.two_pow_pos _) (Nat.mul_pos (Nat.pow_pos (by omega)) (Nat.pow_pos (by omega)))

theorem cmpInt_ge (m n : Nat) : 0 ≤ cmpInt m n ↔ n ≤ m := by
  unfold cmpInt
  split
  · omega
  · split <;> omega
theorem cmpInt_pos (m n : Nat) : 0 < cmpInt m n ↔ n < m := by
  unfold cmpInt
  split
  · omega
  · split <;> omega
theorem cmpInt_zero (m n : Nat) : cmpInt m n = 0 ↔ m = n := by
  unfold cmpInt
  split
  · omega
  · split <;> omega
theorem cmpInt_swap (m n : Nat) : cmpInt n m = - cmpInt m n := by
  rcases Nat.lt_trichotomy m n with h | h | h
  · rw [cmpInt_lt h, cmpInt_gt h]; rfl
  · subst h; rw [cmpInt_eq]; rfl
  · rw [cmpInt_gt h, cmpInt_lt h]
theorem cmpInt_cases (m n : Nat) : cmpInt m n = -1 ∨ cmpInt m n = 0 ∨ cmpInt m n = 1 := by
  unfold cmpInt
  split
  · exact .inl rfl
  · split
    · exact .inr (.inr rfl)
    · exact .inr (.inl rfl)

/-- two numbers of the same order -/
theorem cmpInt_congr {m n p q : Nat} (h1 : n ≤ m ↔ q ≤ p) (h2 : m ≤ n ↔ p ≤ q) : cmpInt m n = cmpInt p q := by
  rcases Nat.lt_trichotomy m n with h | h | h
  · have h3 : ¬ q ≤ p := fun k => Nat.not_le.2 h (h1.2 k)
    rw [cmpInt_lt h, cmpInt_lt (Nat.not_le.1 h3)]
  · have h3 := h1.1 (Nat.le_of_eq h.symm)
    have h4 := h2.1 (Nat.le_of_eq h)
    have h5 : p = q := Nat.le_antisymm h4 h3
    subst h; subst h5
    rw [cmpInt_eq, cmpInt_eq]
  · have h3 : ¬ p ≤ q := fun k => Nat.not_le.2 h (h2.2 k)
    rw [cmpInt_gt h, cmpInt_gt (Nat.not_le.1 h3)]

theorem sg_cases (u : H3) : sg u = -1 ∨ sg u = 0 ∨ sg u = 1 := cmpInt_cases _ _

theorem pw_add (p : Nat) (a b : Int) : p ^ (a + b).toNat * (p ^ (-a).toNat * p ^ (-b).toNat) = p ^ a.toNat * p ^ b.toNat * p ^ (-(a + b)).toNat := by
  rw [← Nat.pow_add, ← Nat.pow_add, ← Nat.pow_add, ← Nat.pow_add]
  congr 1
  omega

theorem cross (u v : H3) : ov (u.add v) * (un u * un v) = ov u * ov v * un (u.add v) := by
  have h2 := pw_add 2 u.x v.x
  have h3 := pw_add 3 u.y v.y
  have h5 := pw_add 5 u.z v.z
  unfold ov un overN underN H3.add
  dsimp only
  generalize 2 ^ (u.x + v.x).toNat = A2 at *
  generalize 3 ^ (u.y + v.y).toNat = A3 at *
  generalize 5 ^ (u.z + v.z).toNat = A5 at *
  generalize 2 ^ (-(u.x + v.x)).toNat = B2 at *
  generalize 3 ^ (-(u.y + v.y)).toNat = B3 at *
  generalize 5 ^ (-(u.z + v.z)).toNat = B5 at *
  generalize 2 ^ (-u.x).toNat = a2 at *
  generalize 2 ^ (-v.x).toNat = b2 at *
  generalize 3 ^ (-u.y).toNat = a3 at *
  generalize 3 ^ (-v.y).toNat = b3 at *
  generalize 5 ^ (-u.z).toNat = a5 at *
  generalize 5 ^ (-v.z).toNat = b5 at *
  generalize 2 ^ u.x.toNat = c2 at *
  generalize 2 ^ v.x.toNat = d2 at *
  generalize 3 ^ u.y.toNat = c3 at *
  generalize 3 ^ v.y.toNat = d3 at *
  generalize 5 ^ u.z.toNat = c5 at *
  generalize 5 ^ v.z.toNat = d5 at *
  have e1 : A2 * (A3 * A5) * (a2 * (a3 * a5) * (b2 * (b3 * b5))) = (A2 * (a2 * b2)) * ((A3 * (a3 * b3)) * (A5 * (a5 * b5))) := by ac_rfl
  have e2 : c2 * (c3 * c5) * (d2 * (d3 * d5)) * (B2 * (B3 * B5)) = (c2 * d2 * B2) * ((c3 * d3 * B3) * (c5 * d5 * B5)) := by ac_rfl
  rw [e1, e2, h2, h3, h5]

theorem ratio_le {X Y P Q : Nat} (h : X * P = Q * Y) (hY : 0 < Y) (hP : 0 < P) : Y ≤ X ↔ P ≤ Q := by
  constructor
  · intro hle
    have h1 : Y * P ≤ X * P := Nat.mul_le_mul_right _ hle
    rw [h, Nat.mul_comm Y P] at h1
    exact Nat.le_of_mul_le_mul_right h1 hY
  · intro hle
    have h1 : P * Y ≤ Q * Y := Nat.mul_le_mul_right _ hle
    rw [← h, Nat.mul_comm P Y] at h1
    exact Nat.le_of_mul_le_mul_right h1 hP

/-- a product is compared by its parts -/
theorem sg_add (u v : H3) : sg (u.add v) = cmpInt (ov u * ov v) (un u * un v) := by
  have h := cross u v
  have pu := Nat.mul_pos (un_pos u) (un_pos v)
  have po := Nat.mul_pos (ov_pos u) (ov_pos v)
  refine cmpInt_congr (ratio_le h (un_pos _) pu) ?_
  refine ratio_le (X := un (u.add v)) (Y := ov (u.add v)) (P := ov u * ov v) (Q := un u * un v) ?_ (ov_pos _) po
  rw [Nat.mul_comm, ← h, Nat.mul_comm]

theorem sg_ge (u : H3) : 0 ≤ sg u ↔ un u ≤ ov u := cmpInt_ge _ _
theorem sg_pos (u : H3) : 0 < sg u ↔ un u < ov u := cmpInt_pos _ _

theorem sg_add_ge {u v : H3} (h1 : 0 ≤ sg u) (h2 : 0 ≤ sg v) : 0 ≤ sg (u.add v) := by
  rw [sg_add, cmpInt_ge]
  exact Nat.mul_le_mul ((sg_ge _).1 h1) ((sg_ge _).1 h2)

theorem sg_add_pos {u v : H3} (h1 : 0 < sg u) (h2 : 0 ≤ sg v) : 0 < sg (u.add v) := by
  rw [sg_add, cmpInt_pos]
  exact Nat.mul_lt_mul_of_lt_of_le ((sg_pos _).1 h1) ((sg_ge _).1 h2) (Nat.lt_of_lt_of_le (un_pos _) ((sg_ge _).1 h2))

theorem H3.add_comm (u v : H3) : u.add v = v.add u := by
  unfold H3.add; congr 1 <;> omega

theorem sg_add_pos' {u v : H3} (h1 : 0 ≤ sg u) (h2 : 0 < sg v) : 0 < sg (u.add v) := by
  rw [H3.add_comm]; exact sg_add_pos h2 h1

theorem ov_neg (u : H3) : ov u.neg = un u := rfl
theorem un_neg (u : H3) : un u.neg = ov u := by
  unfold un ov underN overN H3.neg
  dsimp only
  rw [Int.neg_neg, Int.neg_neg, Int.neg_neg]
theorem sg_neg (u : H3) : sg u.neg = - sg u := by
  unfold sg
  rw [ov_neg, un_neg, cmpInt_swap]

theorem toNat_mul (n : Nat) (a : Int) : ((n : Int) * a).toNat = n * a.toNat := by
  by_cases h : 0 ≤ a
  · obtain ⟨k, rfl⟩ : ∃ k : Nat, a = k := ⟨a.toNat, by omega⟩
    rw [← Int.natCast_mul, Int.toNat_natCast, Int.toNat_natCast]
  · have h1 : (n : Int) * a ≤ 0 := Int.mul_nonpos_of_nonneg_of_nonpos (by omega) (by omega)
    rw [show ((n : Int) * a).toNat = 0 by omega, show a.toNat = 0 by omega, Nat.mul_zero]

theorem ov_mul (n : Nat) (u : H3) : ov (u.mul n) = ov u ^ n := by
  unfold ov overN H3.mul
  dsimp only
  rw [toNat_mul, toNat_mul, toNat_mul, Nat.mul_pow, Nat.mul_pow, ← Nat.pow_mul, ← Nat.pow_mul, ← Nat.pow_mul, Nat.mul_comm n, Nat.mul_comm n, Nat.mul_comm n]

theorem un_mul (n : Nat) (u : H3) : un (u.mul n) = un u ^ n := by
  unfold un underN H3.mul
  dsimp only
  rw [← Int.mul_neg, ← Int.mul_neg, ← Int.mul_neg, toNat_mul, toNat_mul, toNat_mul, Nat.mul_pow, Nat.mul_pow, ← Nat.pow_mul, ← Nat.pow_mul, ← Nat.pow_mul, Nat.mul_comm n, Nat.mul_comm n, Nat.mul_comm n]

theorem cmpInt_pow (m n k : Nat) (hk : 1 ≤ k) : cmpInt (m ^ k) (n ^ k) = cmpInt m n :=
  cmpInt_congr (Nat.pow_le_pow_iff_left (by omega)) (Nat.pow_le_pow_iff_left (by omega))

/-- a power is compared by its base -/
theorem sg_mul (n : Nat) (u : H3) (hn : 1 ≤ n) : sg (u.mul n) = sg u := by
  unfold sg
  rw [ov_mul, un_mul, cmpInt_pow _ _ _ hn]

theorem sg_mulz (n : Int) (u : H3) (hn : 1 ≤ n) : sg (u.mul n) = sg u := by
  obtain ⟨k, rfl⟩ : ∃ k : Nat, n = k := ⟨n.toNat, by omega⟩
  exact sg_mul k u (by omega)

theorem odd_pow (k : Nat) : 3 ^ k % 2 = 1 := by
  induction k with
  | zero => rfl
  | succ k ih => rw [Nat.pow_succ]; omega
theorem odd_pow5 (k : Nat) : 5 ^ k % 2 = 1 := by
  induction k with
  | zero => rfl
  | succ k ih => rw [Nat.pow_succ]; omega
theorem odd_mul {a b : Nat} (h1 : a % 2 = 1) (h2 : b % 2 = 1) : (a * b) % 2 = 1 := by
  rw [Nat.mul_mod, h1, h2]
theorem pow5_three (k : Nat) : 5 ^ k % 3 ≠ 0 := by
  induction k with
  | zero => decide
  | succ k ih => rw [Nat.pow_succ]; omega

/-- every number in one way alone -/
theorem fact_zero (u : H3) (h : ov u = un u) : u.x = 0 ∧ u.y = 0 ∧ u.z = 0 := by
  obtain ⟨a, b, c⟩ := u
  unfold ov un overN underN at h
  dsimp only at h ⊢
  have ha : a = 0 := by
    rcases Int.lt_trichotomy a 0 with h1 | h1 | h1
    · exfalso
      obtain ⟨k, rfl⟩ : ∃ k : Nat, a = -((k : Int) + 1) := ⟨(-a - 1).toNat, by omega⟩
      rw [show (-((k : Int) + 1)).toNat = 0 by omega, show (- -((k : Int) + 1)).toNat = k + 1 by omega, Nat.pow_zero, Nat.one_mul, Nat.pow_succ] at h
      have := odd_mul (odd_pow b.toNat) (odd_pow5 c.toNat)
      rw [h, Nat.mul_comm (2 ^ k) 2, Nat.mul_assoc] at this
      omega
    · exact h1
    · exfalso
      obtain ⟨k, rfl⟩ : ∃ k : Nat, a = (k : Int) + 1 := ⟨(a - 1).toNat, by omega⟩
      rw [show ((k : Int) + 1).toNat = k + 1 by omega, show (-((k : Int) + 1)).toNat = 0 by omega, Nat.pow_zero, Nat.one_mul, Nat.pow_succ] at h
      have := odd_mul (odd_pow (-b).toNat) (odd_pow5 (-c).toNat)
      rw [← h, Nat.mul_comm (2 ^ k) 2, Nat.mul_assoc] at this
      omega
  subst ha
  simp only [Int.neg_zero, Int.toNat_zero, Nat.pow_zero, Nat.one_mul] at h
  have hb : b = 0 := by
    rcases Int.lt_trichotomy b 0 with h1 | h1 | h1
    · exfalso
      obtain ⟨k, rfl⟩ : ∃ k : Nat, b = -((k : Int) + 1) := ⟨(-b - 1).toNat, by omega⟩
      rw [show (-((k : Int) + 1)).toNat = 0 by omega, show (- -((k : Int) + 1)).toNat = k + 1 by omega, Nat.pow_zero, Nat.one_mul, Nat.pow_succ, Nat.mul_comm (3 ^ k) 3, Nat.mul_assoc] at h
      have := pow5_three c.toNat
      rw [h] at this
      omega
    · exact h1
    · exfalso
      obtain ⟨k, rfl⟩ : ∃ k : Nat, b = (k : Int) + 1 := ⟨(b - 1).toNat, by omega⟩
      rw [show ((k : Int) + 1).toNat = k + 1 by omega, show (-((k : Int) + 1)).toNat = 0 by omega, Nat.pow_zero, Nat.one_mul, Nat.pow_succ, Nat.mul_comm (3 ^ k) 3, Nat.mul_assoc] at h
      have := pow5_three (-c).toNat
      rw [← h] at this
      omega
  subst hb
  simp only [Int.neg_zero, Int.toNat_zero, Nat.pow_zero, Nat.one_mul] at h
  have h5 := (Nat.pow_right_inj (show 1 < 5 by omega)).1 h
  exact ⟨rfl, rfl, by omega⟩

theorem sg_zero (u : H3) : sg u = 0 ↔ u.x = 0 ∧ u.y = 0 ∧ u.z = 0 := by
  constructor
  · intro h
    exact fact_zero u ((cmpInt_zero _ _).1 h)
  · rintro ⟨h1, h2, h3⟩
    obtain ⟨a, b, c⟩ := u
    dsimp only at h1 h2 h3
    subst h1 h2 h3
    rfl

/-- a power of two against the number -/
theorem leP_sg (u : H3) (m : Int) : leP (ov u) (un u) m ↔ 0 ≤ sg ⟨u.x - m, u.y, u.z⟩ := by
  have h := sg_add u ⟨-m, 0, 0⟩
  have e : u.add ⟨-m, 0, 0⟩ = ⟨u.x - m, u.y, u.z⟩ := by
    unfold H3.add; congr 1 <;> dsimp only <;> omega
  rw [e] at h
  rw [h, cmpInt_ge]
  have e1 : ov ⟨-m, 0, 0⟩ = 2 ^ (-m).toNat := by simp [ov, overN]
  have e2 : un ⟨-m, 0, 0⟩ = 2 ^ m.toNat := by simp [un, underN]
  rw [e1, e2]
  exact Iff.rfl

/-- the exponent of the greatest power of two that is not above the number -/
def fl (u : H3) : Int := flr (ov u) (un u)
theorem fl_iff (u : H3) (m : Int) : m ≤ fl u ↔ 0 ≤ sg ⟨u.x - m, u.y, u.z⟩ := by
  rw [← leP_sg]
  exact (leP_iff (by have := ov_pos u; omega) (by have := un_pos u; omega) m).symm

theorem fl_unique {u : H3} {m : Int} (h1 : 0 ≤ sg ⟨u.x - m, u.y, u.z⟩) (h2 : ¬ 0 ≤ sg ⟨u.x - (m + 1), u.y, u.z⟩) : fl u = m := by
  rw [← fl_iff] at h1 h2
  omega

/-- a tone's numbers -/
def T4.h (t : T4) : H3 := ⟨t.a, t.b, t.c⟩
/-- the difference that tells which of two tones is greater -/
def dif (s t : T4) : H3 := ⟨s.a * t.d - t.a * s.d, s.b * t.d - t.b * s.d, s.c * t.d - t.c * s.d⟩
def cmpT (s t : T4) : Int := sg (dif s t)

theorem cmpT_swap (s t : T4) : cmpT t s = - cmpT s t := by
  unfold cmpT
  rw [← sg_neg]
  congr 1
  unfold dif H3.neg
  congr 1 <;> dsimp only <;> omega

theorem cmpT_self (s : T4) : cmpT s s = 0 := by
  have := cmpT_swap s s
  omega

theorem cmpT_trans {s t r : T4} (hs : 1 ≤ s.d) (ht : 1 ≤ t.d) (hr : 1 ≤ r.d) (h1 : 0 ≤ cmpT s t) (h2 : 0 ≤ cmpT t r) : 0 ≤ cmpT s r := by
  unfold cmpT at *
  rw [← sg_mulz r.d _ hr] at h1
  rw [← sg_mulz s.d _ hs] at h2
  rw [← sg_mulz t.d _ ht]
  have h := sg_add_ge h1 h2
  have e : ((dif s t).mul r.d).add ((dif t r).mul s.d) = (dif s r).mul t.d := by
    unfold dif H3.mul H3.add
    congr 1 <;> dsimp only <;> simp only [Int.mul_sub] <;> simp only [Int.mul_assoc, Int.mul_comm, Int.mul_left_comm] <;> omega
  rwa [e] at h

/-- tones that are compared as equal are the same -/
theorem cmpT_eq {s t : T4} (hs : validB s.a s.b s.c s.d = true) (ht : validB t.a t.b t.c t.d = true) (h : cmpT s t = 0) : s = t := by
  obtain ⟨g1, d1, _⟩ := validB_parts hs
  obtain ⟨g2, d2, _⟩ := validB_parts ht
  obtain ⟨h1, h2, h3⟩ := (sg_zero _).1 h
  unfold dif at h1 h2 h3
  dsimp only at h1 h2 h3
  obtain ⟨m, hm⟩ : ∃ m : Nat, s.d = m := ⟨s.d.toNat, by omega⟩
  obtain ⟨n, hn⟩ : ∃ n : Nat, t.d = n := ⟨t.d.toNat, by omega⟩
  have k1 := gcd4_scale s.a s.b s.c s.d n
  have k2 := gcd4_scale t.a t.b t.c t.d m
  rw [g1] at k1
  rw [g2] at k2
  have e1 : s.a * n = t.a * m := by rw [← hm, ← hn]; omega
  have e2 : s.b * n = t.b * m := by rw [← hm, ← hn]; omega
  have e3 : s.c * n = t.c * m := by rw [← hm, ← hn]; omega
  have e4 : s.d * n = t.d * m := by rw [hm, hn, Int.mul_comm]
  rw [e1, e2, e3, e4, k2] at k1
  have hmn : m = n := by omega
  subst hmn
  have hp : (m : Int) ≠ 0 := by omega
  have f1 := Int.eq_of_mul_eq_mul_right hp e1
  have f2 := Int.eq_of_mul_eq_mul_right hp e2
  have f3 := Int.eq_of_mul_eq_mul_right hp e3
  have f4 : s.d = t.d := by omega
  cases s; cases t
  simp_all

end Go.Proofs

namespace Go.Proofs
set_option linter.unusedVariables false
set_option linter.unusedSimpArgs false

def okT (t : T4) : Prop := validB t.a t.b t.c t.d = true
def mulT (s t : T4) : T4 × Int := redT (s.a * t.d + t.a * s.d) (s.b * t.d + t.b * s.d) (s.c * t.d + t.c * s.d) (s.d * t.d)
def divT (s t : T4) : T4 × Int := redT (s.a * t.d - t.a * s.d) (s.b * t.d - t.b * s.d) (s.c * t.d - t.c * s.d) (s.d * t.d)
def powT (s : T4) (n m : Int) : T4 × Int := redT (s.a * n) (s.b * n) (s.c * n) (s.d * m)

theorem mulT_comm (s t : T4) : mulT s t = mulT t s := by
  unfold mulT
  rw [Int.add_comm (s.a * t.d), Int.add_comm (s.b * t.d), Int.add_comm (s.c * t.d), Int.mul_comm s.d t.d]

theorem redT_scalez (a b c d k : Int) (hk : 1 ≤ k) : redT (a * k) (b * k) (c * k) (d * k) = redT a b c d := by
  obtain ⟨n, rfl⟩ : ∃ n : Nat, k = n := ⟨k.toNat, by omega⟩
  exact redT_scale a b c d n (by omega)

theorem okT_d {t : T4} (h : okT t) : 1 ≤ t.d ∧ t.d ≤ 24 := ⟨(validB_parts h).2.1, (validB_parts h).2.2.1⟩

theorem redT_okT {a b c d : Int} (h : (redT a b c d).2 = 0) : okT (redT a b c d).1 := (redT_ok h).choose_spec.2.2.2.2.2

/-- what is reduced: the four are a factor times it -/
theorem redT_fac {a b c d : Int} (hd : 1 ≤ d) (h : (redT a b c d).2 = 0) :
    ∃ g : Int, 1 ≤ g ∧ (redT a b c d).1.a * g = a ∧ (redT a b c d).1.b * g = b ∧ (redT a b c d).1.c * g = c ∧ (redT a b c d).1.d * g = d ∧ okT (redT a b c d).1 := by
  obtain ⟨g, hg, h1, h2, h3, h4, h5⟩ := redT_ok h
  refine ⟨g, ?_, h1, h2, h3, h4, h5⟩
  have : 1 ≤ gcd4 a b c d := gcdN_pos (by omega)
  omega

theorem prod_pos {a b : Int} (h1 : 1 ≤ a) (h2 : 1 ≤ b) : 1 ≤ a * b := by
  have := Int.mul_le_mul_of_nonneg_left h2 (show 0 ≤ a by omega)
  omega

theorem mulT_div {x y : T4} (hx : okT x) (hy : okT y) (h : (mulT x y).2 = 0) : divT (mulT x y).1 y = (x, 0) := by
  obtain ⟨g, hg, h1, h2, h3, h4, h5⟩ := redT_fac (prod_pos (okT_d hx).1 (okT_d hy).1) h
  have hP : redT (x.a * y.d + y.a * x.d) (x.b * y.d + y.b * x.d) (x.c * y.d + y.c * x.d) (x.d * y.d) = mulT x y := rfl
  rw [hP] at h1 h2 h3 h4 h5
  generalize (mulT x y).1 = P at *
  unfold divT
  rw [← redT_scalez _ _ _ _ g hg]
  have one : ∀ p u v : Int, p * g = u * y.d + v * x.d → (p * y.d - v * P.d) * g = u * (y.d * y.d) := by
    intro p u v hp
    have e1 : (p * y.d - v * P.d) * g = (p * g) * y.d - v * (P.d * g) := by
      simp only [Int.sub_mul, Int.mul_sub, Int.mul_assoc, Int.mul_comm, Int.mul_left_comm]
    rw [e1, hp, h4, Int.add_mul]
    simp only [Int.mul_assoc, Int.mul_comm, Int.mul_left_comm]
    omega
  have ed : P.d * y.d * g = x.d * (y.d * y.d) := by
    rw [Int.mul_right_comm, h4, Int.mul_assoc]
  rw [one _ _ _ h1, one _ _ _ h2, one _ _ _ h3, ed, redT_scalez _ _ _ _ _ (prod_pos (okT_d hy).1 (okT_d hy).1)]
  exact redT_self hx

theorem mulT_assoc {x y z : T4} (hx : okT x) (hy : okT y) (hz : okT z) (h : (mulT x y).2 = 0) (k : (mulT y z).2 = 0) : mulT (mulT x y).1 z = mulT x (mulT y z).1 := by
  obtain ⟨g, hg, h1, h2, h3, h4, _⟩ := redT_fac (prod_pos (okT_d hx).1 (okT_d hy).1) h
  obtain ⟨q, hq, k1, k2, k3, k4, _⟩ := redT_fac (prod_pos (okT_d hy).1 (okT_d hz).1) k
  have hP : redT (x.a * y.d + y.a * x.d) (x.b * y.d + y.b * x.d) (x.c * y.d + y.c * x.d) (x.d * y.d) = mulT x y := rfl
  have hQ : redT (y.a * z.d + z.a * y.d) (y.b * z.d + z.b * y.d) (y.c * z.d + z.c * y.d) (y.d * z.d) = mulT y z := rfl
  rw [hP] at h1 h2 h3 h4
  rw [hQ] at k1 k2 k3 k4
  generalize (mulT x y).1 = P at *
  generalize (mulT y z).1 = Q at *
  unfold mulT
  rw [← redT_scalez (P.a * z.d + z.a * P.d) _ _ _ g hg, ← redT_scalez (x.a * Q.d + Q.a * x.d) _ _ _ q hq]
  have one : ∀ p r u v t : Int, p * g = u * y.d + v * x.d → r * q = v * z.d + t * y.d → (p * z.d + t * P.d) * g = (u * Q.d + r * x.d) * q := by
    intro p r u v t hp hr
    have e1 : (p * z.d + t * P.d) * g = (p * g) * z.d + t * (P.d * g) := by
      simp only [Int.add_mul, Int.mul_add, Int.mul_assoc, Int.mul_comm, Int.mul_left_comm]
    have e2 : (u * Q.d + r * x.d) * q = u * (Q.d * q) + (r * q) * x.d := by
      simp only [Int.add_mul, Int.mul_add, Int.mul_assoc, Int.mul_comm, Int.mul_left_comm]
    rw [e1, e2, hp, h4, hr, k4, Int.add_mul, Int.add_mul]
    simp only [Int.mul_assoc, Int.mul_comm, Int.mul_left_comm]
    omega
  have ed : P.d * z.d * g = x.d * Q.d * q := by
    rw [Int.mul_right_comm, h4, Int.mul_assoc x.d Q.d q, k4, Int.mul_assoc]
  rw [one _ _ _ _ _ h1 k1, one _ _ _ _ _ h2 k2, one _ _ _ _ _ h3 k3, ed]

theorem powT_pow {x : T4} {n m n' m' : Int} (hx : okT x) (hm : 1 ≤ m) (h : (powT x n m).2 = 0) : powT (powT x n m).1 n' m' = powT x (n * n') (m * m') := by
  obtain ⟨g, hg, h1, h2, h3, h4, _⟩ := redT_fac (prod_pos (okT_d hx).1 hm) h
  have hP : redT (x.a * n) (x.b * n) (x.c * n) (x.d * m) = powT x n m := rfl
  rw [hP] at h1 h2 h3 h4
  generalize (powT x n m).1 = P at *
  unfold powT
  rw [← redT_scalez (P.a * n') _ _ _ g hg]
  have one : ∀ p u k k' : Int, p * g = u * k → p * k' * g = u * (k * k') := by
    intro p u k k' hp
    rw [Int.mul_right_comm, hp, Int.mul_assoc]
  rw [one _ _ _ _ h1, one _ _ _ _ h2, one _ _ _ _ h3, one _ _ _ _ h4]

theorem powT_one {x : T4} (hx : okT x) : powT x 1 1 = (x, 0) := by
  unfold powT
  rw [Int.mul_one, Int.mul_one, Int.mul_one, Int.mul_one]
  exact redT_self hx

theorem unit_ok : okT ⟨0, 0, 0, 1⟩ := by unfold okT validB gcd4 gcdN; decide

/-- the tone 1 to any power -/
theorem redT_unit {d : Int} (hd : 1 ≤ d) : redT 0 0 0 d = (⟨0, 0, 0, 1⟩, 0) := by
  have h := redT_scalez 0 0 0 1 d hd
  rw [Int.zero_mul, Int.one_mul] at h
  rw [h]
  exact redT_self unit_ok

theorem valid_unit {x : T4} (hx : okT x) (h : x.a = 0 ∧ x.b = 0 ∧ x.c = 0) : x = ⟨0, 0, 0, 1⟩ := by
  obtain ⟨g, d, _⟩ := validB_parts hx
  obtain ⟨a, b, c, e⟩ := x
  dsimp only at *
  obtain ⟨rfl, rfl, rfl⟩ := h
  have : e.natAbs = 1 := by
    unfold gcd4 gcdN at g
    simpa using g
  have : e = 1 := by omega
  rw [this]

/-- multiplying both by one tone keeps their order -/
theorem cmpT_mul {x y z : T4} (hx : okT x) (hy : okT y) (hz : okT z) (h : (mulT x z).2 = 0) (k : (mulT y z).2 = 0) : cmpT (mulT x z).1 (mulT y z).1 = cmpT x y := by
  obtain ⟨g, hg, h1, h2, h3, h4, _⟩ := redT_fac (prod_pos (okT_d hx).1 (okT_d hz).1) h
  obtain ⟨q, hq, k1, k2, k3, k4, _⟩ := redT_fac (prod_pos (okT_d hy).1 (okT_d hz).1) k
  have hP : redT (x.a * z.d + z.a * x.d) (x.b * z.d + z.b * x.d) (x.c * z.d + z.c * x.d) (x.d * z.d) = mulT x z := rfl
  have hQ : redT (y.a * z.d + z.a * y.d) (y.b * z.d + z.b * y.d) (y.c * z.d + z.c * y.d) (y.d * z.d) = mulT y z := rfl
  rw [hP] at h1 h2 h3 h4
  rw [hQ] at k1 k2 k3 k4
  generalize (mulT x z).1 = P at *
  generalize (mulT y z).1 = Q at *
  unfold cmpT
  rw [← sg_mulz (g * q) (dif P Q) (prod_pos hg hq), ← sg_mulz (z.d * z.d) (dif x y) (prod_pos (okT_d hz).1 (okT_d hz).1)]
  congr 1
  have one : ∀ p r u v t : Int, p * g = u * z.d + t * x.d → r * q = v * z.d + t * y.d → g * q * (p * Q.d - r * P.d) = z.d * z.d * (u * y.d - v * x.d) := by
    intro p r u v t hp hr
    have e1 : g * q * (p * Q.d - r * P.d) = (p * g) * (Q.d * q) - (r * q) * (P.d * g) := by
      simp only [Int.mul_sub, Int.sub_mul, Int.mul_assoc, Int.mul_comm, Int.mul_left_comm]
    rw [e1, hp, hr, h4, k4, Int.add_mul, Int.add_mul, Int.mul_sub]
    simp only [Int.mul_assoc, Int.mul_comm, Int.mul_left_comm]
    omega
  unfold dif H3.mul
  dsimp only
  rw [one _ _ _ _ _ h1 k1, one _ _ _ _ _ h2 k2, one _ _ _ _ _ h3 k3]

end Go.Proofs

namespace Go.Proofs
set_option linter.unusedVariables false
set_option linter.unusedSimpArgs false

/-- a tone's size in cents, its octaves -/
def centsT (s : T4) : Int := fl ⟨1200 * s.a, 1200 * s.b, 1200 * s.c⟩ / s.d
def octT (s : T4) : Int := fl s.h / s.d
/-- what is left of a tone without its octaves -/
def foldT (s : T4) : T4 × Int := redT (s.a - octT s * s.d) s.b s.c s.d

theorem cents_iff {s : T4} (hd : 1 ≤ s.d) (c : Int) : c ≤ centsT s ↔ 0 ≤ sg ⟨1200 * s.a - c * s.d, 1200 * s.b, 1200 * s.c⟩ := by
  unfold centsT
  rw [Int.le_ediv_iff_mul_le (by omega), fl_iff]

theorem oct_iff {s : T4} (hd : 1 ≤ s.d) (k : Int) : k ≤ octT s ↔ 0 ≤ sg ⟨s.a - k * s.d, s.b, s.c⟩ := by
  unfold octT
  rw [Int.le_ediv_iff_mul_le (by omega), fl_iff]
  rfl

theorem ov_le (u : H3) : ov u ≤ 2 ^ (u.x.toNat + 2 * u.y.toNat + 3 * u.z.toNat) := by
  have h3 : 3 ^ u.y.toNat ≤ (2 ^ 2) ^ u.y.toNat := Nat.pow_le_pow_left (by decide) _
  have h5 : 5 ^ u.z.toNat ≤ (2 ^ 3) ^ u.z.toNat := Nat.pow_le_pow_left (by decide) _
  rw [← Nat.pow_mul] at h3 h5
  rw [Nat.pow_add, Nat.pow_add, Nat.mul_assoc]
  exact Nat.mul_le_mul_left _ (Nat.mul_le_mul h3 h5)

/-- the logarithm is bounded by the exponents -/
theorem fl_le (u : H3) : fl u ≤ (u.x.toNat + 2 * u.y.toNat + 3 * u.z.toNat : Nat) := by
  by_cases h : fl u ≤ (u.x.toNat + 2 * u.y.toNat + 3 * u.z.toNat : Nat)
  · exact h
  · exfalso
    have h1 := (leP_iff (by have := ov_pos u; omega) (by have := un_pos u; omega) (((u.x.toNat + 2 * u.y.toNat + 3 * u.z.toNat : Nat) : Int) + 1)).2 (show _ ≤ flr (ov u) (un u) by unfold fl at h; omega)
    have h2 := ov_le u
    generalize u.x.toNat + 2 * u.y.toNat + 3 * u.z.toNat = M at *
    unfold leP at h1
    rw [show ((M : Int) + 1).toNat = M + 1 by omega, show (-((M : Int) + 1)).toNat = 0 by omega, Nat.pow_zero, Nat.mul_one, Nat.pow_succ] at h1
    have h3 := un_pos u
    have h4 : 1 * (2 ^ M * 2) ≤ un u * (2 ^ M * 2) := Nat.mul_le_mul_right _ h3
    have h5 := Nat.two_pow_pos M
    omega

theorem fl_ge (u : H3) : -(((-u.x).toNat + 2 * (-u.y).toNat + 3 * (-u.z).toNat : Nat) : Int) ≤ fl u := by
  refine (leP_iff (by have := ov_pos u; omega) (by have := un_pos u; omega) _).1 ?_
  have h2 := ov_le u.neg
  rw [ov_neg] at h2
  unfold H3.neg at h2
  dsimp only at h2
  generalize (-u.x).toNat + 2 * (-u.y).toNat + 3 * (-u.z).toNat = M at *
  unfold leP
  rw [show (-(M : Int)).toNat = 0 by omega, show (-(-(M : Int))).toNat = M by omega, Nat.pow_zero, Nat.mul_one]
  have h3 := ov_pos u
  have h4 : 1 * 2 ^ M ≤ ov u * 2 ^ M := Nat.mul_le_mul_right _ h3
  omega

theorem fl_abs {u : H3} {m : Nat} (h1 : u.x.natAbs ≤ m) (h2 : u.y.natAbs ≤ m) (h3 : u.z.natAbs ≤ m) : (fl u).natAbs ≤ 6 * m := by
  have a := fl_le u
  have b := fl_ge u
  omega

/-- the octaves taken out are not far from the logarithm -/
theorem oct_mul {s : T4} (hd : 1 ≤ s.d) : octT s * s.d ≤ fl s.h ∧ fl s.h < octT s * s.d + s.d := by
  unfold octT
  have h1 := Int.ediv_mul_le (fl s.h) (show s.d ≠ 0 by omega)
  have h2 := Int.lt_ediv_add_one_mul_self (fl s.h) (show 0 < s.d by omega)
  rw [Int.add_mul, Int.one_mul] at h2
  exact ⟨h1, h2⟩

theorem octT_abs {s : T4} {m : Nat} (hs : okT s) (h1 : s.a.natAbs ≤ m) (h2 : s.b.natAbs ≤ m) (h3 : s.c.natAbs ≤ m) : (octT s * s.d).natAbs ≤ 6 * m + 24 ∧ (octT s).natAbs ≤ 6 * m + 24 := by
  obtain ⟨d1, d2⟩ := okT_d hs
  obtain ⟨o1, o2⟩ := oct_mul d1
  have hf := fl_abs (u := s.h) (m := m) h1 h2 h3
  have hx : (octT s * s.d).natAbs ≤ 6 * m + 24 := by omega
  refine ⟨hx, ?_⟩
  rw [Int.natAbs_mul] at hx
  have : (octT s).natAbs * 1 ≤ (octT s).natAbs * s.d.natAbs := Nat.mul_le_mul_left _ (by omega)
  omega

/-- small tones fold into a tone -/
theorem fold_ok {s : T4} (hs : okT s) (h1 : s.a.natAbs ≤ 12) (h2 : s.b.natAbs ≤ 12) (h3 : s.c.natAbs ≤ 12) : (foldT s).2 = 0 := by
  obtain ⟨d1, d2⟩ := okT_d hs
  obtain ⟨o1, _⟩ := octT_abs hs h1 h2 h3
  unfold foldT redT
  have hk := redOk_eq (a := s.a - octT s * s.d) (b := s.b) (c := s.c) (d := s.d) d1
  have hg : 1 ≤ gcd4 (s.a - octT s * s.d) s.b s.c s.d := gcdN_pos (by omega)
  generalize octT s * s.d = kd at *
  have dv : ∀ x g : Nat, x / g ≤ x := fun x g => Nat.div_le_self _ _
  have h4 : redOk (s.a - kd) s.b s.c s.d = true := by
    rw [hk]
    unfold smallN
    have e1 := dv (s.a - kd).natAbs (gcd4 (s.a - kd) s.b s.c s.d)
    have e2 := dv s.b.natAbs (gcd4 (s.a - kd) s.b s.c s.d)
    have e3 := dv s.c.natAbs (gcd4 (s.a - kd) s.b s.c s.d)
    have e4 := dv s.d.natAbs (gcd4 (s.a - kd) s.b s.c s.d)
    simp only [Bool.and_eq_true, decide_eq_true_eq]
    omega
  rw [if_pos h4]

/-- what folding leaves -/
theorem fold_facts {s : T4} (hs : okT s) (h : (foldT s).2 = 0) :
    okT (foldT s).1 ∧ cmpT ⟨0, 0, 0, 1⟩ (foldT s).1 ≤ 0 ∧ cmpT (foldT s).1 ⟨1, 0, 0, 1⟩ < 0 ∧ centsT s = centsT (foldT s).1 + 1200 * octT s ∧ mulT (foldT s).1 ⟨octT s, 0, 0, 1⟩ = (s, 0) := by
  obtain ⟨d1, d2⟩ := okT_d hs
  obtain ⟨g, hg, h1, h2, h3, h4, h5⟩ := redT_fac (a := s.a - octT s * s.d) (b := s.b) (c := s.c) d1 h
  have hP : redT (s.a - octT s * s.d) s.b s.c s.d = foldT s := rfl
  rw [hP] at h1 h2 h3 h4 h5
  have q0 := (oct_iff d1 (octT s)).1 (Int.le_refl _)
  have q1 : ¬ 0 ≤ sg ⟨s.a - (octT s + 1) * s.d, s.b, s.c⟩ := fun h => by have := (oct_iff d1 (octT s + 1)).2 h; omega
  generalize (foldT s).1 = P at *
  generalize octT s = k at *
  obtain ⟨pd1, _⟩ := okT_d h5
  refine ⟨h5, ?_, ?_, ?_, ?_⟩
  · rw [cmpT_swap P]
    have e : cmpT P ⟨0, 0, 0, 1⟩ = sg ⟨s.a - k * s.d, s.b, s.c⟩ := by
      unfold cmpT
      rw [← sg_mulz g _ hg]
      congr 1
      unfold dif H3.mul
      dsimp only
      rw [Int.mul_one, Int.mul_one, Int.mul_one, Int.zero_mul, Int.sub_zero, Int.sub_zero, Int.sub_zero, Int.mul_comm g, Int.mul_comm g, Int.mul_comm g, h1, h2, h3]
    rw [e]
    omega
  · have e : cmpT P ⟨1, 0, 0, 1⟩ = sg ⟨s.a - (k + 1) * s.d, s.b, s.c⟩ := by
      unfold cmpT
      rw [← sg_mulz g _ hg]
      congr 1
      unfold dif H3.mul
      dsimp only
      rw [Int.mul_one, Int.mul_one, Int.mul_one, Int.zero_mul, Int.one_mul, Int.sub_zero, Int.sub_zero, Int.mul_comm g P.b, Int.mul_comm g P.c, Int.mul_sub, Int.mul_comm g, Int.mul_comm g, h1, h2, h3, h4, Int.add_mul, Int.one_mul]
      congr 1
      omega
    rw [e]
    omega
  · have key : ∀ c : Int, c ≤ centsT P ↔ c + 1200 * k ≤ centsT s := by
      intro c
      rw [cents_iff pd1, cents_iff d1, ← sg_mulz g _ hg]
      have e : H3.mul g ⟨1200 * P.a - c * P.d, 1200 * P.b, 1200 * P.c⟩ = ⟨1200 * s.a - (c + 1200 * k) * s.d, 1200 * s.b, 1200 * s.c⟩ := by
        unfold H3.mul
        dsimp only
        have e1 : g * (1200 * P.a - c * P.d) = 1200 * (P.a * g) - c * (P.d * g) := by
          simp only [Int.mul_sub, Int.mul_assoc, Int.mul_comm, Int.mul_left_comm]
        have e2 : g * (1200 * P.b) = 1200 * (P.b * g) := by simp only [Int.mul_assoc, Int.mul_comm, Int.mul_left_comm]
        have e3 : g * (1200 * P.c) = 1200 * (P.c * g) := by simp only [Int.mul_assoc, Int.mul_comm, Int.mul_left_comm]
        rw [e1, e2, e3, h1, h2, h3, h4, Int.mul_sub, Int.add_mul, Int.mul_assoc]
        congr 1
        omega
      rw [e]
    have a1 := (key (centsT P)).1 (Int.le_refl _)
    have a2 := (key (centsT s - 1200 * k)).2 (by omega)
    omega
  · unfold mulT
    dsimp only
    rw [Int.mul_one, Int.mul_one, Int.mul_one, Int.mul_one, Int.zero_mul, Int.add_zero, Int.add_zero, ← redT_scalez _ _ _ _ g hg, h2, h3, h4, Int.add_mul, h1, Int.mul_assoc, h4]
    rw [show s.a - k * s.d + k * s.d = s.a by omega]
    exact redT_self hs

/-- an octave more is 1200 cents more -/
theorem cents_up {x : T4} (hx : okT x) (h : (mulT x ⟨1, 0, 0, 1⟩).2 = 0) : centsT (mulT x ⟨1, 0, 0, 1⟩).1 = centsT x + 1200 := by
  obtain ⟨d1, d2⟩ := okT_d hx
  obtain ⟨g, hg, h1, h2, h3, h4, h5⟩ := redT_fac (prod_pos d1 (Int.le_refl 1)) h
  have hP : redT (x.a * 1 + 1 * x.d) (x.b * 1 + 0 * x.d) (x.c * 1 + 0 * x.d) (x.d * 1) = mulT x ⟨1, 0, 0, 1⟩ := rfl
  dsimp only at h1 h2 h3 h4 h5
  rw [hP] at h1 h2 h3 h4 h5
  generalize (mulT x ⟨1, 0, 0, 1⟩).1 = P at *
  obtain ⟨pd1, _⟩ := okT_d h5
  rw [Int.mul_one, Int.one_mul] at h1
  rw [Int.mul_one, Int.zero_mul, Int.add_zero] at h2 h3
  rw [Int.mul_one] at h4
  have key : ∀ c : Int, c ≤ centsT P ↔ c - 1200 ≤ centsT x := by
    intro c
    rw [cents_iff pd1, cents_iff d1, ← sg_mulz g _ hg]
    have e : H3.mul g ⟨1200 * P.a - c * P.d, 1200 * P.b, 1200 * P.c⟩ = ⟨1200 * x.a - (c - 1200) * x.d, 1200 * x.b, 1200 * x.c⟩ := by
      unfold H3.mul
      dsimp only
      have e1 : g * (1200 * P.a - c * P.d) = 1200 * (P.a * g) - c * (P.d * g) := by
        simp only [Int.mul_sub, Int.mul_assoc, Int.mul_comm, Int.mul_left_comm]
      have e2 : g * (1200 * P.b) = 1200 * (P.b * g) := by simp only [Int.mul_assoc, Int.mul_comm, Int.mul_left_comm]
      have e3 : g * (1200 * P.c) = 1200 * (P.c * g) := by simp only [Int.mul_assoc, Int.mul_comm, Int.mul_left_comm]
      rw [e1, e2, e3, h1, h2, h3, h4, Int.mul_add, Int.sub_mul]
      congr 1
      omega
    rw [e]
  have a1 := (key (centsT P)).1 (Int.le_refl _)
  have a2 := (key (centsT x + 1200)).2 (by omega)
  omega

/-- sizes add up but for one cent -/
theorem cents_add {x y : T4} (hx : okT x) (hy : okT y) (h : (mulT x y).2 = 0) : centsT x + centsT y ≤ centsT (mulT x y).1 ∧ centsT (mulT x y).1 ≤ centsT x + centsT y + 1 := by
  obtain ⟨d1, d2⟩ := okT_d hx
  obtain ⟨e1, e2⟩ := okT_d hy
  obtain ⟨g, hg, h1, h2, h3, h4, h5⟩ := redT_fac (prod_pos d1 e1) h
  have hP : redT (x.a * y.d + y.a * x.d) (x.b * y.d + y.b * x.d) (x.c * y.d + y.c * x.d) (x.d * y.d) = mulT x y := rfl
  rw [hP] at h1 h2 h3 h4 h5
  generalize (mulT x y).1 = P at *
  obtain ⟨pd1, _⟩ := okT_d h5
  have one : ∀ p u v : Int, p * g = u * y.d + v * x.d → g * (1200 * p) = y.d * (1200 * u) + x.d * (1200 * v) := by
    intro p u v hp
    have : g * (1200 * p) = 1200 * (p * g) := by simp only [Int.mul_assoc, Int.mul_comm, Int.mul_left_comm]
    rw [this, hp, Int.mul_add]
    simp only [Int.mul_assoc, Int.mul_comm, Int.mul_left_comm]
  have e : ∀ m n : Int, (H3.mul y.d ⟨1200 * x.a - m * x.d, 1200 * x.b, 1200 * x.c⟩).add (H3.mul x.d ⟨1200 * y.a - n * y.d, 1200 * y.b, 1200 * y.c⟩) = H3.mul g ⟨1200 * P.a - (m + n) * P.d, 1200 * P.b, 1200 * P.c⟩ := by
    intro m n
    unfold H3.mul H3.add
    dsimp only
    rw [one _ _ _ h2, one _ _ _ h3]
    have e9 : g * (1200 * P.a - (m + n) * P.d) = g * (1200 * P.a) - (m + n) * (P.d * g) := by
      simp only [Int.mul_sub, Int.mul_assoc, Int.mul_comm, Int.mul_left_comm]
    rw [e9, one _ _ _ h1, h4, Int.mul_sub, Int.mul_sub, Int.add_mul]
    congr 1
    simp only [Int.mul_assoc, Int.mul_comm, Int.mul_left_comm]
    omega
  constructor
  · rw [cents_iff pd1, ← sg_mulz g _ hg, ← e]
    refine sg_add_ge ?_ ?_
    · rw [sg_mulz _ _ e1]; exact (cents_iff d1 _).1 (Int.le_refl _)
    · rw [sg_mulz _ _ d1]; exact (cents_iff e1 _).1 (Int.le_refl _)
  · have h6 : ¬ centsT x + 1 + (centsT y + 1) ≤ centsT P := by
      rw [cents_iff pd1, ← sg_mulz g _ hg, ← e]
      have p1 : ¬ 0 ≤ sg ⟨1200 * x.a - (centsT x + 1) * x.d, 1200 * x.b, 1200 * x.c⟩ := fun h => by have := (cents_iff d1 _).2 h; omega
      have p2 : ¬ 0 ≤ sg ⟨1200 * y.a - (centsT y + 1) * y.d, 1200 * y.b, 1200 * y.c⟩ := fun h => by have := (cents_iff e1 _).2 h; omega
      rw [← sg_mulz _ _ e1] at p1
      rw [← sg_mulz _ _ d1] at p2
      generalize H3.mul y.d ⟨1200 * x.a - (centsT x + 1) * x.d, 1200 * x.b, 1200 * x.c⟩ = U at *
      generalize H3.mul x.d ⟨1200 * y.a - (centsT y + 1) * y.d, 1200 * y.b, 1200 * y.c⟩ = W at *
      have n1 : 0 < sg U.neg := by rw [sg_neg]; omega
      have n2 : 0 < sg W.neg := by rw [sg_neg]; omega
      have n3 := sg_add_pos n1 (Int.le_of_lt n2)
      have n4 : U.neg.add W.neg = (U.add W).neg := by
        unfold H3.neg H3.add
        congr 1 <;> dsimp only <;> omega
      rw [n4, sg_neg] at n3
      omega
    omega

end Go.Proofs
