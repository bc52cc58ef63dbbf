/- plain facts: the order of the numbers 2^x 3^y 5^z, and of tones. -/
import Derived.Test.YtgdgdaofmjnepaaDoorToneFloor
import Derived.Test.YtgdgdaofmjnepaaDoorToneLaw
namespace Go.Proofs
set_option linter.unusedVariables false

/-- a number 2^x 3^y 5^z -/
structure H3 where
  x : Int
  y : Int
  z : Int

theorem H3.ext' {u v : H3} (h1 : u.x = v.x) (h2 : u.y = v.y) (h3 : u.z = v.z) : u = v := by
  cases u; cases v; simp_all

def H3.add (u v : H3) : H3 := ⟨u.x + v.x, u.y + v.y, u.z + v.z⟩
def H3.mul (n : Int) (u : H3) : H3 := ⟨n * u.x, n * u.y, n * u.z⟩
def H3.neg (u : H3) : H3 := ⟨-u.x, -u.y, -u.z⟩
def ov (u : H3) : Nat := overN u.x u.y u.z
def un (u : H3) : Nat := underN u.x u.y u.z
/-- the number against 1 -/
def sg (u : H3) : Int := cmpInt (ov u) (un u)

theorem ov_pos (u : H3) : 0 < ov u := Nat.mul_pos (Nat.two_pow_pos _) (Nat.mul_pos (Nat.pow_pos (by omega)) (Nat.pow_pos (by omega)))
theorem un_pos (u : H3) : 0 < un u := Nat.mul_pos (Nat.two_pow_pos _) (Nat.mul_pos (Nat.pow_pos (by omega)) (Nat.pow_pos (by omega)))

theorem cmpInt_ge (m n : Nat) : 0 ≤ cmpInt m n ↔ n ≤ m := by
  unfold cmpInt
  split
  · omega
  · split <;> omega
theorem cmpInt_pos (m n : Nat) : 0 < cmpInt m n ↔ n < m := by
  unfold cmpInt
  split
  · omega
  · split <;> omega
theorem cmpInt_zero (m n : Nat) : cmpInt m n = 0 ↔ m = n := by
  unfold cmpInt
  split
  · omega
  · split <;> omega
theorem cmpInt_swap (m n : Nat) : cmpInt n m = - cmpInt m n := by
  rcases Nat.lt_trichotomy m n with h | h | h
  · rw [cmpInt_lt h, cmpInt_gt h]; rfl
  · subst h; rw [cmpInt_eq]; rfl
  · rw [cmpInt_gt h, cmpInt_lt h]
theorem cmpInt_cases (m n : Nat) : cmpInt m n = -1 ∨ cmpInt m n = 0 ∨ cmpInt m n = 1 := by
  unfold cmpInt
  split
  · exact .inl rfl
  · split
    · exact .inr (.inr rfl)
    · exact .inr (.inl rfl)

/-- two numbers of the same order -/
theorem cmpInt_congr {m n p q : Nat} (h1 : n ≤ m ↔ q ≤ p) (h2 : m ≤ n ↔ p ≤ q) : cmpInt m n = cmpInt p q := by
  rcases Nat.lt_trichotomy m n with h | h | h
  · have h3 : ¬ q ≤ p := fun k => Nat.not_le.2 h (h1.2 k)
    rw [cmpInt_lt h, cmpInt_lt (Nat.not_le.1 h3)]
  · have h3 := h1.1 (Nat.le_of_eq h.symm)
    have h4 := h2.1 (Nat.le_of_eq h)
    have h5 : p = q := Nat.le_antisymm h4 h3
    subst h; subst h5
    rw [cmpInt_eq, cmpInt_eq]
  · have h3 : ¬ p ≤ q := fun k => Nat.not_le.2 h (h2.2 k)
    rw [cmpInt_gt h, cmpInt_gt (Nat.not_le.1 h3)]

theorem sg_cases (u : H3) : sg u = -1 ∨ sg u = 0 ∨ sg u = 1 := cmpInt_cases _ _

theorem pw_add (p : Nat) (a b : Int) : p ^ (a + b).toNat * (p ^ (-a).toNat * p ^ (-b).toNat) = p ^ a.toNat * p ^ b.toNat * p ^ (-(a + b)).toNat := by
  rw [← Nat.pow_add, ← Nat.pow_add, ← Nat.pow_add, ← Nat.pow_add]
  congr 1
  omega

theorem cross (u v : H3) : ov (u.add v) * (un u * un v) = ov u * ov v * un (u.add v) := by
  have h2 := pw_add 2 u.x v.x
  have h3 := pw_add 3 u.y v.y
  have h5 := pw_add 5 u.z v.z
  unfold ov un overN underN H3.add
  dsimp only
  generalize 2 ^ (u.x + v.x).toNat = A2 at *
  generalize 3 ^ (u.y + v.y).toNat = A3 at *
  generalize 5 ^ (u.z + v.z).toNat = A5 at *
  generalize 2 ^ (-(u.x + v.x)).toNat = B2 at *
  generalize 3 ^ (-(u.y + v.y)).toNat = B3 at *
  generalize 5 ^ (-(u.z + v.z)).toNat = B5 at *
  generalize 2 ^ (-u.x).toNat = a2 at *
  generalize 2 ^ (-v.x).toNat = b2 at *
  generalize 3 ^ (-u.y).toNat = a3 at *
  generalize 3 ^ (-v.y).toNat = b3 at *
  generalize 5 ^ (-u.z).toNat = a5 at *
  generalize 5 ^ (-v.z).toNat = b5 at *
  generalize 2 ^ u.x.toNat = c2 at *
  generalize 2 ^ v.x.toNat = d2 at *
  generalize 3 ^ u.y.toNat = c3 at *
  generalize 3 ^ v.y.toNat = d3 at *
  generalize 5 ^ u.z.toNat = c5 at *
  generalize 5 ^ v.z.toNat = d5 at *
  have e1 : A2 * (A3 * A5) * (a2 * (a3 * a5) * (b2 * (b3 * b5))) = (A2 * (a2 * b2)) * ((A3 * (a3 * b3)) * (A5 * (a5 * b5))) := by ac_rfl
  have e2 : c2 * (c3 * c5) * (d2 * (d3 * d5)) * (B2 * (B3 * B5)) = (c2 * d2 * B2) * ((c3 * d3 * B3) * (c5 * d5 * B5)) := by ac_rfl
  rw [e1, e2, h2, h3, h5]

theorem ratio_le {X Y P Q : Nat} (h : X * P = Q * Y) (hY : 0 < Y) (hP : 0 < P) : Y ≤ X ↔ P ≤ Q := by
  constructor
  · intro hle
    have h1 : Y * P ≤ X * P := Nat.mul_le_mul_right _ hle
    rw [h, Nat.mul_comm Y P] at h1
    exact Nat.le_of_mul_le_mul_right h1 hY
  · intro hle
    have h1 : P * Y ≤ Q * Y := Nat.mul_le_mul_right _ hle
    rw [← h, Nat.mul_comm P Y] at h1
    exact Nat.le_of_mul_le_mul_right h1 hP

/-- a product is compared by its parts -/
theorem sg_add (u v : H3) : sg (u.add v) = cmpInt (ov u * ov v) (un u * un v) := by
  have h := cross u v
  have pu := Nat.mul_pos (un_pos u) (un_pos v)
  have po := Nat.mul_pos (ov_pos u) (ov_pos v)
  refine cmpInt_congr (ratio_le h (un_pos _) pu) ?_
  refine ratio_le (X := un (u.add v)) (Y := ov (u.add v)) (P := ov u * ov v) (Q := un u * un v) ?_ (ov_pos _) po
  rw [Nat.mul_comm, ← h, Nat.mul_comm]

theorem sg_ge (u : H3) : 0 ≤ sg u ↔ un u ≤ ov u := cmpInt_ge _ _
theorem sg_pos (u : H3) : 0 < sg u ↔ un u < ov u := cmpInt_pos _ _

theorem sg_add_ge {u v : H3} (h1 : 0 ≤ sg u) (h2 : 0 ≤ sg v) : 0 ≤ sg (u.add v) := by
  rw [sg_add, cmpInt_ge]
  exact Nat.mul_le_mul ((sg_ge _).1 h1) ((sg_ge _).1 h2)

theorem sg_add_pos {u v : H3} (h1 : 0 < sg u) (h2 : 0 ≤ sg v) : 0 < sg (u.add v) := by
  rw [sg_add, cmpInt_pos]
  exact Nat.mul_lt_mul_of_lt_of_le ((sg_pos _).1 h1) ((sg_ge _).1 h2) (Nat.lt_of_lt_of_le (un_pos _) ((sg_ge _).1 h2))

theorem H3.add_comm (u v : H3) : u.add v = v.add u := by
  unfold H3.add; congr 1 <;> omega

theorem sg_add_pos' {u v : H3} (h1 : 0 ≤ sg u) (h2 : 0 < sg v) : 0 < sg (u.add v) := by
  rw [H3.add_comm]; exact sg_add_pos h2 h1

theorem ov_neg (u : H3) : ov u.neg = un u := rfl
theorem un_neg (u : H3) : un u.neg = ov u := by
  unfold un ov underN overN H3.neg
  dsimp only
  rw [Int.neg_neg, Int.neg_neg, Int.neg_neg]
theorem sg_neg (u : H3) : sg u.neg = - sg u := by
  unfold sg
  rw [ov_neg, un_neg, cmpInt_swap]

theorem toNat_mul (n : Nat) (a : Int) : ((n : Int) * a).toNat = n * a.toNat := by
  by_cases h : 0 ≤ a
  · obtain ⟨k, rfl⟩ : ∃ k : Nat, a = k := ⟨a.toNat, by omega⟩
    rw [← Int.natCast_mul, Int.toNat_natCast, Int.toNat_natCast]
  · have h1 : (n : Int) * a ≤ 0 := Int.mul_nonpos_of_nonneg_of_nonpos (by omega) (by omega)
    rw [show ((n : Int) * a).toNat = 0 by omega, show a.toNat = 0 by omega, Nat.mul_zero]

theorem ov_mul (n : Nat) (u : H3) : ov (u.mul n) = ov u ^ n := by
  unfold ov overN H3.mul
  dsimp only
  rw [toNat_mul, toNat_mul, toNat_mul, Nat.mul_pow, Nat.mul_pow, ← Nat.pow_mul, ← Nat.pow_mul, ← Nat.pow_mul, Nat.mul_comm n, Nat.mul_comm n, Nat.mul_comm n]

theorem un_mul (n : Nat) (u : H3) : un (u.mul n) = un u ^ n := by
  unfold un underN H3.mul
  dsimp only
  rw [← Int.mul_neg, ← Int.mul_neg, ← Int.mul_neg, toNat_mul, toNat_mul, toNat_mul, Nat.mul_pow, Nat.mul_pow, ← Nat.pow_mul, ← Nat.pow_mul, ← Nat.pow_mul, Nat.mul_comm n, Nat.mul_comm n, Nat.mul_comm n]

theorem cmpInt_pow (m n k : Nat) (hk : 1 ≤ k) : cmpInt (m ^ k) (n ^ k) = cmpInt m n :=
  cmpInt_congr (Nat.pow_le_pow_iff_left (by omega)) (Nat.pow_le_pow_iff_left (by omega))

/-- a power is compared by its base -/
theorem sg_mul (n : Nat) (u : H3) (hn : 1 ≤ n) : sg (u.mul n) = sg u := by
  unfold sg
  rw [ov_mul, un_mul, cmpInt_pow _ _ _ hn]

theorem sg_mulz (n : Int) (u : H3) (hn : 1 ≤ n) : sg (u.mul n) = sg u := by
  obtain ⟨k, rfl⟩ : ∃ k : Nat, n = k := ⟨n.toNat, by omega⟩
  exact sg_mul k u (by omega)

theorem odd_pow (k : Nat) : 3 ^ k % 2 = 1 := by
  induction k with
  | zero => rfl
  | succ k ih => rw [Nat.pow_succ]; omega
theorem odd_pow5 (k : Nat) : 5 ^ k % 2 = 1 := by
  induction k with
  | zero => rfl
  | succ k ih => rw [Nat.pow_succ]; omega
theorem odd_mul {a b : Nat} (h1 : a % 2 = 1) (h2 : b % 2 = 1) : (a * b) % 2 = 1 := by
  rw [Nat.mul_mod, h1, h2]
theorem pow5_three (k : Nat) : 5 ^ k % 3 ≠ 0 := by
  induction k with
  | zero => decide
  | succ k ih => rw [Nat.pow_succ]; omega

/-- every number in one way alone -/
theorem fact_zero (u : H3) (h : ov u = un u) : u.x = 0 ∧ u.y = 0 ∧ u.z = 0 := by
  obtain ⟨a, b, c⟩ := u
  unfold ov un overN underN at h
  dsimp only at h ⊢
  have ha : a = 0 := by
    rcases Int.lt_trichotomy a 0 with h1 | h1 | h1
    · exfalso
      obtain ⟨k, rfl⟩ : ∃ k : Nat, a = -((k : Int) + 1) := ⟨(-a - 1).toNat, by omega⟩
      rw [show (-((k : Int) + 1)).toNat = 0 by omega, show (- -((k : Int) + 1)).toNat = k + 1 by omega, Nat.pow_zero, Nat.one_mul, Nat.pow_succ] at h
      have := odd_mul (odd_pow b.toNat) (odd_pow5 c.toNat)
      rw [h, Nat.mul_comm (2 ^ k) 2, Nat.mul_assoc] at this
      omega
    · exact h1
    · exfalso
      obtain ⟨k, rfl⟩ : ∃ k : Nat, a = (k : Int) + 1 := ⟨(a - 1).toNat, by omega⟩
      rw [show ((k : Int) + 1).toNat = k + 1 by omega, show (-((k : Int) + 1)).toNat = 0 by omega, Nat.pow_zero, Nat.one_mul, Nat.pow_succ] at h
      have := odd_mul (odd_pow (-b).toNat) (odd_pow5 (-c).toNat)
      rw [← h, Nat.mul_comm (2 ^ k) 2, Nat.mul_assoc] at this
      omega
  subst ha
  simp only [Int.neg_zero, Int.toNat_zero, Nat.pow_zero, Nat.one_mul] at h
  have hb : b = 0 := by
    rcases Int.lt_trichotomy b 0 with h1 | h1 | h1
    · exfalso
      obtain ⟨k, rfl⟩ : ∃ k : Nat, b = -((k : Int) + 1) := ⟨(-b - 1).toNat, by omega⟩
      rw [show (-((k : Int) + 1)).toNat = 0 by omega, show (- -((k : Int) + 1)).toNat = k + 1 by omega, Nat.pow_zero, Nat.one_mul, Nat.pow_succ, Nat.mul_comm (3 ^ k) 3, Nat.mul_assoc] at h
      have := pow5_three c.toNat
      rw [h] at this
      omega
    · exact h1
    · exfalso
      obtain ⟨k, rfl⟩ : ∃ k : Nat, b = (k : Int) + 1 := ⟨(b - 1).toNat, by omega⟩
      rw [show ((k : Int) + 1).toNat = k + 1 by omega, show (-((k : Int) + 1)).toNat = 0 by omega, Nat.pow_zero, Nat.one_mul, Nat.pow_succ, Nat.mul_comm (3 ^ k) 3, Nat.mul_assoc] at h
      have := pow5_three (-c).toNat
      rw [← h] at this
      omega
  subst hb
  simp only [Int.neg_zero, Int.toNat_zero, Nat.pow_zero, Nat.one_mul] at h
  have h5 := (Nat.pow_right_inj (show 1 < 5 by omega)).1 h
  exact ⟨rfl, rfl, by omega⟩

theorem sg_zero (u : H3) : sg u = 0 ↔ u.x = 0 ∧ u.y = 0 ∧ u.z = 0 := by
  constructor
  · intro h
    exact fact_zero u ((cmpInt_zero _ _).1 h)
  · rintro ⟨h1, h2, h3⟩
    obtain ⟨a, b, c⟩ := u
    dsimp only at h1 h2 h3
    subst h1 h2 h3
    rfl

/-- a power of two against the number -/
theorem leP_sg (u : H3) (m : Int) : leP (ov u) (un u) m ↔ 0 ≤ sg ⟨u.x - m, u.y, u.z⟩ := by
  have h := sg_add u ⟨-m, 0, 0⟩
  have e : u.add ⟨-m, 0, 0⟩ = ⟨u.x - m, u.y, u.z⟩ := by
    unfold H3.add; congr 1 <;> dsimp only <;> omega
  rw [e] at h
  rw [h, cmpInt_ge]
  have e1 : ov ⟨-m, 0, 0⟩ = 2 ^ (-m).toNat := by simp [ov, overN]
  have e2 : un ⟨-m, 0, 0⟩ = 2 ^ m.toNat := by simp [un, underN]
  rw [e1, e2]
  exact Iff.rfl

/-- the exponent of the greatest power of two that is not above the number -/
def fl (u : H3) : Int := flr (ov u) (un u)
theorem fl_iff (u : H3) (m : Int) : m ≤ fl u ↔ 0 ≤ sg ⟨u.x - m, u.y, u.z⟩ := by
  rw [← leP_sg]
  exact (leP_iff (by have := ov_pos u; omega) (by have := un_pos u; omega) m).symm

theorem fl_unique {u : H3} {m : Int} (h1 : 0 ≤ sg ⟨u.x - m, u.y, u.z⟩) (h2 : ¬ 0 ≤ sg ⟨u.x - (m + 1), u.y, u.z⟩) : fl u = m := by
  rw [← fl_iff] at h1 h2
  omega

/-- a tone's numbers -/
def T4.h (t : T4) : H3 := ⟨t.a, t.b, t.c⟩
/-- the difference that tells which of two tones is greater -/
def dif (s t : T4) : H3 := ⟨s.a * t.d - t.a * s.d, s.b * t.d - t.b * s.d, s.c * t.d - t.c * s.d⟩
def cmpT (s t : T4) : Int := sg (dif s t)

theorem cmpT_swap (s t : T4) : cmpT t s = - cmpT s t := by
  unfold cmpT
  rw [← sg_neg]
  congr 1
  unfold dif H3.neg
  congr 1 <;> dsimp only <;> omega

theorem cmpT_self (s : T4) : cmpT s s = 0 := by
  have := cmpT_swap s s
  omega

theorem cmpT_trans {s t r : T4} (hs : 1 ≤ s.d) (ht : 1 ≤ t.d) (hr : 1 ≤ r.d) (h1 : 0 ≤ cmpT s t) (h2 : 0 ≤ cmpT t r) : 0 ≤ cmpT s r := by
  unfold cmpT at *
  rw [← sg_mulz r.d _ hr] at h1
  rw [← sg_mulz s.d _ hs] at h2
  rw [← sg_mulz t.d _ ht]
  have h := sg_add_ge h1 h2
  have e : ((dif s t).mul r.d).add ((dif t r).mul s.d) = (dif s r).mul t.d := by
    unfold dif H3.mul H3.add
    congr 1 <;> dsimp only <;> simp only [Int.mul_sub] <;> simp only [Int.mul_assoc, Int.mul_comm, Int.mul_left_comm] <;> omega
  rwa [e] at h

/-- tones that are compared as equal are the same -/
theorem cmpT_eq {s t : T4} (hs : validB s.a s.b s.c s.d = true) (ht : validB t.a t.b t.c t.d = true) (h : cmpT s t = 0) : s = t := by
  obtain ⟨g1, d1, _⟩ := validB_parts hs
  obtain ⟨g2, d2, _⟩ := validB_parts ht
  obtain ⟨h1, h2, h3⟩ := (sg_zero _).1 h
  unfold dif at h1 h2 h3
  dsimp only at h1 h2 h3
  obtain ⟨m, hm⟩ : ∃ m : Nat, s.d = m := ⟨s.d.toNat, by omega⟩
  obtain ⟨n, hn⟩ : ∃ n : Nat, t.d = n := ⟨t.d.toNat, by omega⟩
  have k1 := gcd4_scale s.a s.b s.c s.d n
  have k2 := gcd4_scale t.a t.b t.c t.d m
  rw [g1] at k1
  rw [g2] at k2
  have e1 : s.a * n = t.a * m := by rw [← hm, ← hn]; omega
  have e2 : s.b * n = t.b * m := by rw [← hm, ← hn]; omega
  have e3 : s.c * n = t.c * m := by rw [← hm, ← hn]; omega
  have e4 : s.d * n = t.d * m := by rw [hm, hn, Int.mul_comm]
  rw [e1, e2, e3, e4, k2] at k1
  have hmn : m = n := by omega
  subst hmn
  have hp : (m : Int) ≠ 0 := by omega
  have f1 := Int.eq_of_mul_eq_mul_right hp e1
  have f2 := Int.eq_of_mul_eq_mul_right hp e2
  have f3 := Int.eq_of_mul_eq_mul_right hp e3
  have f4 : s.d = t.d := by omega
  cases s; cases t
  simp_all

end Go.Proofs
