/- plain facts: products, quotients and powers of tones. -/
import Derived.Test.YtgdgdaofmjnepaaDoorToneOrd
namespace Go.Proofs
set_option linter.unusedVariables false

def okT (t : T4) : Prop := validB t.a t.b t.c t.d = true
def mulT (s t : T4) : T4 × Int := redT (s.a * t.d + t.a * s.d) (s.b * t.d + t.b * s.d) (s.c * t.d + t.c * s.d) (s.d * t.d)
def divT (s t : T4) : T4 × Int := redT (s.a * t.d - t.a * s.d) (s.b * t.d - t.b * s.d) (s.c * t.d - t.c * s.d) (s.d * t.d)
def powT (s : T4) (n m : Int) : T4 × Int := redT (s.a * n) (s.b * n) (s.c * n) (s.d * m)

theorem mulT_comm (s t : T4) : mulT s t = mulT t s := by
  unfold mulT
  rw [Int.add_comm (s.a * t.d), Int.add_comm (s.b * t.d), Int.add_comm (s.c * t.d), Int.mul_comm s.d t.d]

theorem redT_scalez (a b c d k : Int) (hk : 1 ≤ k) : redT (a * k) (b * k) (c * k) (d * k) = redT a b c d := by
  obtain ⟨n, rfl⟩ : ∃ n : Nat, k = n := ⟨k.toNat, by omega⟩
  exact redT_scale a b c d n (by omega)

theorem okT_d {t : T4} (h : okT t) : 1 ≤ t.d ∧ t.d ≤ 24 := ⟨(validB_parts h).2.1, (validB_parts h).2.2.1⟩

theorem redT_okT {a b c d : Int} (h : (redT a b c d).2 = 0) : okT (redT a b c d).1 := (redT_ok h).choose_spec.2.2.2.2.2

/-- what is reduced: the four are a factor times it -/
theorem redT_fac {a b c d : Int} (hd : 1 ≤ d) (h : (redT a b c d).2 = 0) :
    ∃ g : Int, 1 ≤ g ∧ (redT a b c d).1.a * g = a ∧ (redT a b c d).1.b * g = b ∧ (redT a b c d).1.c * g = c ∧ (redT a b c d).1.d * g = d ∧ okT (redT a b c d).1 := by
  obtain ⟨g, hg, h1, h2, h3, h4, h5⟩ := redT_ok h
  refine ⟨g, ?_, h1, h2, h3, h4, h5⟩
  have : 1 ≤ gcd4 a b c d := gcdN_pos (by omega)
  omega

theorem prod_pos {a b : Int} (h1 : 1 ≤ a) (h2 : 1 ≤ b) : 1 ≤ a * b := by
  have := Int.mul_le_mul_of_nonneg_left h2 (show 0 ≤ a by omega)
  omega

theorem mulT_div {x y : T4} (hx : okT x) (hy : okT y) (h : (mulT x y).2 = 0) : divT (mulT x y).1 y = (x, 0) := by
  obtain ⟨g, hg, h1, h2, h3, h4, h5⟩ := redT_fac (prod_pos (okT_d hx).1 (okT_d hy).1) h
  have hP : redT (x.a * y.d + y.a * x.d) (x.b * y.d + y.b * x.d) (x.c * y.d + y.c * x.d) (x.d * y.d) = mulT x y := rfl
  rw [hP] at h1 h2 h3 h4 h5
  generalize (mulT x y).1 = P at *
  unfold divT
  rw [← redT_scalez _ _ _ _ g hg]
  have one : ∀ p u v : Int, p * g = u * y.d + v * x.d → (p * y.d - v * P.d) * g = u * (y.d * y.d) := by
    intro p u v hp
    have e1 : (p * y.d - v * P.d) * g = (p * g) * y.d - v * (P.d * g) := by
      simp only [Int.sub_mul, Int.mul_sub, Int.mul_assoc, Int.mul_comm, Int.mul_left_comm]
    rw [e1, hp, h4, Int.add_mul]
    simp only [Int.mul_assoc, Int.mul_comm, Int.mul_left_comm]
    omega
  have ed : P.d * y.d * g = x.d * (y.d * y.d) := by
    rw [Int.mul_right_comm, h4, Int.mul_assoc]
  rw [one _ _ _ h1, one _ _ _ h2, one _ _ _ h3, ed, redT_scalez _ _ _ _ _ (prod_pos (okT_d hy).1 (okT_d hy).1)]
  exact redT_self hx

theorem mulT_assoc {x y z : T4} (hx : okT x) (hy : okT y) (hz : okT z) (h : (mulT x y).2 = 0) (k : (mulT y z).2 = 0) : mulT (mulT x y).1 z = mulT x (mulT y z).1 := by
  obtain ⟨g, hg, h1, h2, h3, h4, _⟩ := redT_fac (prod_pos (okT_d hx).1 (okT_d hy).1) h
  obtain ⟨q, hq, k1, k2, k3, k4, _⟩ := redT_fac (prod_pos (okT_d hy).1 (okT_d hz).1) k
  have hP : redT (x.a * y.d + y.a * x.d) (x.b * y.d + y.b * x.d) (x.c * y.d + y.c * x.d) (x.d * y.d) = mulT x y := rfl
  have hQ : redT (y.a * z.d + z.a * y.d) (y.b * z.d + z.b * y.d) (y.c * z.d + z.c * y.d) (y.d * z.d) = mulT y z := rfl
  rw [hP] at h1 h2 h3 h4
  rw [hQ] at k1 k2 k3 k4
  generalize (mulT x y).1 = P at *
  generalize (mulT y z).1 = Q at *
  unfold mulT
  rw [← redT_scalez (P.a * z.d + z.a * P.d) _ _ _ g hg, ← redT_scalez (x.a * Q.d + Q.a * x.d) _ _ _ q hq]
  have one : ∀ p r u v t : Int, p * g = u * y.d + v * x.d → r * q = v * z.d + t * y.d → (p * z.d + t * P.d) * g = (u * Q.d + r * x.d) * q := by
    intro p r u v t hp hr
    have e1 : (p * z.d + t * P.d) * g = (p * g) * z.d + t * (P.d * g) := by
      simp only [Int.add_mul, Int.mul_add, Int.mul_assoc, Int.mul_comm, Int.mul_left_comm]
    have e2 : (u * Q.d + r * x.d) * q = u * (Q.d * q) + (r * q) * x.d := by
      simp only [Int.add_mul, Int.mul_add, Int.mul_assoc, Int.mul_comm, Int.mul_left_comm]
    rw [e1, e2, hp, h4, hr, k4, Int.add_mul, Int.add_mul]
    simp only [Int.mul_assoc, Int.mul_comm, Int.mul_left_comm]
    omega
  have ed : P.d * z.d * g = x.d * Q.d * q := by
    rw [Int.mul_right_comm, h4, Int.mul_assoc x.d Q.d q, k4, Int.mul_assoc]
  rw [one _ _ _ _ _ h1 k1, one _ _ _ _ _ h2 k2, one _ _ _ _ _ h3 k3, ed]

theorem powT_pow {x : T4} {n m n' m' : Int} (hx : okT x) (hm : 1 ≤ m) (h : (powT x n m).2 = 0) : powT (powT x n m).1 n' m' = powT x (n * n') (m * m') := by
  obtain ⟨g, hg, h1, h2, h3, h4, _⟩ := redT_fac (prod_pos (okT_d hx).1 hm) h
  have hP : redT (x.a * n) (x.b * n) (x.c * n) (x.d * m) = powT x n m := rfl
  rw [hP] at h1 h2 h3 h4
  generalize (powT x n m).1 = P at *
  unfold powT
  rw [← redT_scalez (P.a * n') _ _ _ g hg]
  have one : ∀ p u k k' : Int, p * g = u * k → p * k' * g = u * (k * k') := by
    intro p u k k' hp
    rw [Int.mul_right_comm, hp, Int.mul_assoc]
  rw [one _ _ _ _ h1, one _ _ _ _ h2, one _ _ _ _ h3, one _ _ _ _ h4]

theorem powT_one {x : T4} (hx : okT x) : powT x 1 1 = (x, 0) := by
  unfold powT
  rw [Int.mul_one, Int.mul_one, Int.mul_one, Int.mul_one]
  exact redT_self hx

theorem unit_ok : okT ⟨0, 0, 0, 1⟩ := by unfold okT validB gcd4 gcdN; decide

/-- the tone 1 to any power -/
theorem redT_unit {d : Int} (hd : 1 ≤ d) : redT 0 0 0 d = (⟨0, 0, 0, 1⟩, 0) := by
  have h := redT_scalez 0 0 0 1 d hd
  rw [Int.zero_mul, Int.one_mul] at h
  rw [h]
  exact redT_self unit_ok

theorem valid_unit {x : T4} (hx : okT x) (h : x.a = 0 ∧ x.b = 0 ∧ x.c = 0) : x = ⟨0, 0, 0, 1⟩ := by
  obtain ⟨g, d, _⟩ := validB_parts hx
  obtain ⟨a, b, c, e⟩ := x
  dsimp only at *
  obtain ⟨rfl, rfl, rfl⟩ := h
  have : e.natAbs = 1 := by
    unfold gcd4 gcdN at g
    simpa using g
  have : e = 1 := by omega
  rw [this]

/-- multiplying both by one tone keeps their order -/
theorem cmpT_mul {x y z : T4} (hx : okT x) (hy : okT y) (hz : okT z) (h : (mulT x z).2 = 0) (k : (mulT y z).2 = 0) : cmpT (mulT x z).1 (mulT y z).1 = cmpT x y := by
  obtain ⟨g, hg, h1, h2, h3, h4, _⟩ := redT_fac (prod_pos (okT_d hx).1 (okT_d hz).1) h
  obtain ⟨q, hq, k1, k2, k3, k4, _⟩ := redT_fac (prod_pos (okT_d hy).1 (okT_d hz).1) k
  have hP : redT (x.a * z.d + z.a * x.d) (x.b * z.d + z.b * x.d) (x.c * z.d + z.c * x.d) (x.d * z.d) = mulT x z := rfl
  have hQ : redT (y.a * z.d + z.a * y.d) (y.b * z.d + z.b * y.d) (y.c * z.d + z.c * y.d) (y.d * z.d) = mulT y z := rfl
  rw [hP] at h1 h2 h3 h4
  rw [hQ] at k1 k2 k3 k4
  generalize (mulT x z).1 = P at *
  generalize (mulT y z).1 = Q at *
  unfold cmpT
  rw [← sg_mulz (g * q) (dif P Q) (prod_pos hg hq), ← sg_mulz (z.d * z.d) (dif x y) (prod_pos (okT_d hz).1 (okT_d hz).1)]
  congr 1
  have one : ∀ p r u v t : Int, p * g = u * z.d + t * x.d → r * q = v * z.d + t * y.d → g * q * (p * Q.d - r * P.d) = z.d * z.d * (u * y.d - v * x.d) := by
    intro p r u v t hp hr
    have e1 : g * q * (p * Q.d - r * P.d) = (p * g) * (Q.d * q) - (r * q) * (P.d * g) := by
      simp only [Int.mul_sub, Int.sub_mul, Int.mul_assoc, Int.mul_comm, Int.mul_left_comm]
    rw [e1, hp, hr, h4, k4, Int.add_mul, Int.add_mul, Int.mul_sub]
    simp only [Int.mul_assoc, Int.mul_comm, Int.mul_left_comm]
    omega
  unfold dif H3.mul
  dsimp only
  rw [one _ _ _ _ _ h1 k1, one _ _ _ _ _ h2 k2, one _ _ _ _ _ h3 k3]

end Go.Proofs
