/- The plain law of TopCloses: the exponents of a temperament's tones, and the last fifth. -/
import Derived.Test.YthkeekoljediiaaTPlain
namespace Go.Proofs
set_option linter.unusedVariables false
set_option linter.unusedSimpArgs false

/-- a tone of so many T-ths of twos (but for whole octaves) and of threes -/
def Exps (x : T4) (A B T : Int) : Prop := x.c = 0 ∧ x.b * T = B * x.d ∧ ∃ m : Int, x.a * T = (A + m * T) * x.d
theorem cancel_r {a b g : Int} (hg : 1 ≤ g) (h : a * g = b * g) : a = b := Int.eq_of_mul_eq_mul_right (by omega) h
theorem redT_small {a b c d : Int} (h1 : a.natAbs ≤ 960) (h2 : b.natAbs ≤ 960) (h3 : c.natAbs ≤ 960) (h4 : 1 ≤ d) (h5 : d ≤ 24) : (redT a b c d).2 = 0 := by
  unfold redT
  have hk := redOk_eq (a := a) (b := b) (c := c) (d := d) h4
  have dv : ∀ x g : Nat, x / g ≤ x := fun x g => Nat.div_le_self _ _
  have hk2 : redOk a b c d = true := by
    rw [hk]
    unfold smallN
    have e1 := dv a.natAbs (gcd4 a b c d)
    have e2 := dv b.natAbs (gcd4 a b c d)
    have e3 := dv c.natAbs (gcd4 a b c d)
    have e4 := dv d.natAbs (gcd4 a b c d)
    simp only [Bool.and_eq_true, decide_eq_true_eq]
    omega
  rw [if_pos hk2]
theorem abs_of_mul {x g a : Int} (hg : 1 ≤ g) (h : x * g = a) : x.natAbs ≤ a.natAbs := by
  rw [← h, Int.natAbs_mul]
  exact Nat.le_mul_of_pos_right _ (by omega)
theorem unit_exps (T : Int) : Exps ⟨0, 0, 0, 1⟩ 0 0 T := ⟨rfl, by simp, 0, by simp⟩
theorem alg_mul {xb xd yb yd rb rd g T B B' : Int} (h2 : rb * g = xb * yd + yb * xd) (h4 : rd * g = xd * yd) (x2 : xb * T = B * xd) (y2 : yb * T = B' * yd) : rb * T * g = (B + B') * rd * g := by grind
theorem alg_mul2 {xb xd yb yd rb rd g T B B' m m' : Int} (h2 : rb * g = xb * yd + yb * xd) (h4 : rd * g = xd * yd) (x2 : xb * T = (B + m * T) * xd) (y2 : yb * T = (B' + m' * T) * yd) : rb * T * g = ((B + B') + (m + m') * T) * rd * g := by grind
theorem alg_fold {sa sd pa pd g T A m k : Int} (h1 : pa * g = sa - k * sd) (h4 : pd * g = sd) (s3 : sa * T = (A + m * T) * sd) : pa * T * g = (A + (m - k) * T) * pd * g := by grind
theorem alg_fold0 {sa sd pa pd g k : Int} (h1 : pa * g = sa - k * sd) (h4 : pd * g = sd) : g * (pa - 0 * pd) = sa - k * sd := by grind
theorem alg_fold1 {sa sd pa pd g k : Int} (h1 : pa * g = sa - k * sd) (h4 : pd * g = sd) : g * (pa - 1 * pd) = sa - (k + 1) * sd := by grind
theorem alg_three {sb sd pb pd g T B : Int} (h1 : pb * g = sb) (h4 : pd * g = sd) (s3 : sb * T = B * sd) : pb * T * g = B * pd * g := by grind
theorem alg_unit {ua ud fa fd g g2 s T : Int} (a1 : ua * g = -19 * s) (a4 : ud * g = 1 * T) (f1 : fa * g2 = -1 * ud - ua * 1) (f4 : fd * g2 = 1 * ud) : fa * T * g2 * g = (19 * s - T + 0 * T) * fd * g2 * g := by grind
theorem alg_unit3 {ub ud fb fd g g2 s T : Int} (a2 : ub * g = 12 * s) (a4 : ud * g = 1 * T) (f2 : fb * g2 = 1 * ud - ub * 1) (f4 : fd * g2 = 1 * ud) : fb * T * g2 * g = (T - 12 * s) * fd * g2 * g := by grind
theorem alg_last3 {xb xd qb qd g s T : Int} (x2 : xb * T = (12 * s - T) * xd) (a2 : qb * g = T - 12 * s) (a4 : qd * g = T) : (xb * qd + qb * xd) * T * g = 0 * T * g := by grind
theorem alg_last {xa xd qa qd g s T m : Int} (x3 : xa * T = (8 * T - 19 * s + m * T) * xd) (a1 : qa * g = -T + 19 * s) (a4 : qd * g = T) : (xa * qd + qa * xd) * T * g = (7 + m) * (xd * qd) * T * g := by grind
/-- a unit of the comma; the fifth that is so much narrower -/
def unT (s T : Int) : T4 := (powT ⟨-19, 12, 0, 1⟩ s T).1
def fifT (s T : Int) : T4 := (divT ⟨-1, 1, 0, 1⟩ (unT s T)).1
theorem fif_facts {s T : Int} (h1 : 0 ≤ s) (h2 : s ≤ 3) (h3 : 8 ≤ T) (h4 : T ≤ 23) :
    powT ⟨-19, 12, 0, 1⟩ s T = (unT s T, 0) ∧ okT (unT s T) ∧ divT ⟨-1, 1, 0, 1⟩ (unT s T) = (fifT s T, 0) ∧ okT (fifT s T) ∧ Exps (fifT s T) (19 * s - T) (T - 12 * s) T := by
  have e1 : powT ⟨-19, 12, 0, 1⟩ s T = redT (-19 * s) (12 * s) (0 * s) (1 * T) := rfl
  have k1 : (redT (-19 * s) (12 * s) (0 * s) (1 * T)).2 = 0 := redT_small (by omega) (by omega) (by omega) (by omega) (by omega)
  obtain ⟨g, hg, a1, a2, a3, a4, a5⟩ := redT_fac (show 1 ≤ 1 * T by omega) k1
  have eu : (redT (-19 * s) (12 * s) (0 * s) (1 * T)).1 = unT s T := rfl
  rw [eu] at a1 a2 a3 a4 a5
  obtain ⟨d1, d2⟩ := okT_d a5
  have b1 := abs_of_mul hg a1
  have b2 := abs_of_mul hg a2
  have c3 : (unT s T).c = 0 := by
    have := abs_of_mul hg a3
    omega
  have e2 : divT ⟨-1, 1, 0, 1⟩ (unT s T) = redT (-1 * (unT s T).d - (unT s T).a * 1) (1 * (unT s T).d - (unT s T).b * 1) (0 * (unT s T).d - (unT s T).c * 1) (1 * (unT s T).d) := rfl
  have k2 : (redT (-1 * (unT s T).d - (unT s T).a * 1) (1 * (unT s T).d - (unT s T).b * 1) (0 * (unT s T).d - (unT s T).c * 1) (1 * (unT s T).d)).2 = 0 := redT_small (by omega) (by omega) (by omega) (by omega) (by omega)
  obtain ⟨g2, hg2, f1, f2, f3, f4, f5⟩ := redT_fac (show 1 ≤ 1 * (unT s T).d by omega) k2
  have ef : (redT (-1 * (unT s T).d - (unT s T).a * 1) (1 * (unT s T).d - (unT s T).b * 1) (0 * (unT s T).d - (unT s T).c * 1) (1 * (unT s T).d)).1 = fifT s T := rfl
  rw [ef] at f1 f2 f3 f4 f5
  refine ⟨Prod.ext rfl (by rw [e1]; exact k1), a5, Prod.ext rfl (by rw [e2]; exact k2), f5, ?_, ?_, 0, ?_⟩
  · have := abs_of_mul hg2 f3
    omega
  · generalize unT s T = u at *
    generalize fifT s T = f at *
    exact cancel_r hg2 (cancel_r hg (alg_unit3 a2 a4 f2 f4))
  · generalize unT s T = u at *
    generalize fifT s T = f at *
    exact cancel_r hg2 (cancel_r hg (alg_unit a1 a4 f1 f4))
theorem mul_exps {x y : T4} {A B A' B' T : Int} (hx : okT x) (hy : okT y) (ex : Exps x A B T) (ey : Exps y A' B' T) (h : (mulT x y).2 = 0) : okT (mulT x y).1 ∧ Exps (mulT x y).1 (A + A') (B + B') T := by
  obtain ⟨g, hg, h1, h2, h3, h4, h5⟩ := redT_fac (prod_pos (okT_d hx).1 (okT_d hy).1) h
  have e : (redT (x.a * y.d + y.a * x.d) (x.b * y.d + y.b * x.d) (x.c * y.d + y.c * x.d) (x.d * y.d)).1 = (mulT x y).1 := rfl
  rw [e] at h1 h2 h3 h4 h5
  refine ⟨h5, ?_⟩
  obtain ⟨x1, x2, m, x3⟩ := ex
  obtain ⟨y1, y2, m', y3⟩ := ey
  generalize (mulT x y).1 = r at *
  refine ⟨?_, ?_, m + m', ?_⟩
  · rw [x1, y1, Int.zero_mul, Int.zero_mul] at h3
    have := abs_of_mul hg h3
    omega
  · exact cancel_r hg (alg_mul h2 h4 x2 y2)
  · exact cancel_r hg (alg_mul2 h1 h4 x3 y3)
theorem fl_shift (a b c : Int) : fl ⟨a, b, c⟩ = a + fl ⟨0, b, c⟩ := by
  have key : ∀ m, m ≤ fl ⟨a, b, c⟩ ↔ m ≤ a + fl ⟨0, b, c⟩ := by
    intro m
    rw [fl_iff, show (m ≤ a + fl ⟨0, b, c⟩ ↔ m - a ≤ fl ⟨0, b, c⟩) by omega, fl_iff]
    dsimp only
    rw [show a - m = 0 - (m - a) by omega]
  have h1 := (key _).1 (Int.le_refl _)
  have h2 := (key _).2 (Int.le_refl _)
  omega
theorem fold_exps {s : T4} {A B T : Int} (hs : okT s) (es : Exps s A B T) (h : (foldT s).2 = 0) : okT (foldT s).1 ∧ Exps (foldT s).1 A B T ∧ octT (foldT s).1 = 0 := by
  obtain ⟨d1, d2⟩ := okT_d hs
  obtain ⟨g, hg, h1, h2, h3, h4, h5⟩ := redT_fac (a := s.a - octT s * s.d) (b := s.b) (c := s.c) d1 h
  have hP : redT (s.a - octT s * s.d) s.b s.c s.d = foldT s := rfl
  rw [hP] at h1 h2 h3 h4 h5
  have q0 := (oct_iff d1 (octT s)).1 (Int.le_refl _)
  have q1 : ¬ 0 ≤ sg ⟨s.a - (octT s + 1) * s.d, s.b, s.c⟩ := fun h => by have := (oct_iff d1 (octT s + 1)).2 h; omega
  obtain ⟨s1, s2, m, s3⟩ := es
  generalize (foldT s).1 = P at *
  generalize octT s = k at *
  obtain ⟨pd1, _⟩ := okT_d h5
  have z0 : 0 ≤ octT P := by
    rw [oct_iff pd1, ← sg_mulz g _ hg]
    unfold H3.mul
    dsimp only
    rw [show g * (P.a - 0 * P.d) = s.a - k * s.d from alg_fold0 h1 h4, Int.mul_comm g, h2, Int.mul_comm g, h3]
    exact q0
  have z1 : ¬ 1 ≤ octT P := by
    rw [oct_iff pd1, ← sg_mulz g _ hg]
    unfold H3.mul
    dsimp only
    rw [show g * (P.a - 1 * P.d) = s.a - (k + 1) * s.d from alg_fold1 h1 h4, Int.mul_comm g, h2, Int.mul_comm g, h3]
    exact q1
  refine ⟨h5, ⟨?_, ?_, m - k, ?_⟩, by omega⟩
  · rw [s1] at h3
    have := abs_of_mul hg h3
    omega
  · exact cancel_r hg (alg_three h2 h4 s2)
  · exact cancel_r hg (alg_fold h1 h4 s3)
theorem two_power {M : Int} (hM : M.natAbs ≤ 960) : redT M 0 0 1 = (⟨M, 0, 0, 1⟩, 0) ∧ okT ⟨M, 0, 0, 1⟩ ∧ foldT ⟨M, 0, 0, 1⟩ = (⟨0, 0, 0, 1⟩, 0) := by
  have hv : validB M 0 0 1 = true := by
    unfold validB gcd4 gcdN
    simp
    omega
  refine ⟨redT_self hv, hv, ?_⟩
  have ho : octT ⟨M, 0, 0, 1⟩ = M := by
    unfold octT T4.h
    dsimp only
    rw [fl_shift]
    have a := fl_le ⟨0, 0, 0⟩
    have b := fl_ge ⟨0, 0, 0⟩
    dsimp only at a b
    omega
  unfold foldT
  rw [ho]
  dsimp only
  rw [Int.mul_one, Int.sub_self]
  exact redT_unit (Int.le_refl _)
/-- the last fifth leads back to the first tone -/
theorem last_fifth {x : T4} {s T : Int} (hx : okT x) (h1 : 0 ≤ s) (h2 : s ≤ 3) (h3 : 8 ≤ T) (h4 : T ≤ 23) (ho : octT x = 0) (ex : Exps x (8 * T - 19 * s) (12 * s - T) T) :
    (redT (-T + 19 * s) (T - 12 * s) 0 T).2 = 0 ∧ okT (redT (-T + 19 * s) (T - 12 * s) 0 T).1 ∧ (mulT x (redT (-T + 19 * s) (T - 12 * s) 0 T).1).2 = 0 ∧ okT (mulT x (redT (-T + 19 * s) (T - 12 * s) 0 T).1).1 ∧
      foldT (mulT x (redT (-T + 19 * s) (T - 12 * s) 0 T).1).1 = (⟨0, 0, 0, 1⟩, 0) := by
  have k1 : (redT (-T + 19 * s) (T - 12 * s) 0 T).2 = 0 := redT_small (by omega) (by omega) (by decide) (by omega) (by omega)
  obtain ⟨g, hg, a1, a2, a3, a4, a5⟩ := redT_fac (show 1 ≤ T by omega) k1
  refine ⟨k1, a5, ?_⟩
  generalize (redT (-T + 19 * s) (T - 12 * s) 0 T).1 = q at *
  obtain ⟨x1, x2, m, x3⟩ := ex
  obtain ⟨d1, d2⟩ := okT_d hx
  obtain ⟨d3, d4⟩ := okT_d a5
  have qa := abs_of_mul hg a1
  have qc : q.c = 0 := by have := abs_of_mul hg a3; omega
  -- the three-exponents cancel
  have eb : x.b * q.d + q.b * x.d = 0 := by
    exact cancel_r (show 1 ≤ T by omega) (cancel_r hg (alg_last3 x2 a2 a4))
  have ea : x.a * q.d + q.a * x.d = (7 + m) * (x.d * q.d) := by
    exact cancel_r (show 1 ≤ T by omega) (cancel_r hg (alg_last x3 a1 a4))
  have ec : x.c * q.d + q.c * x.d = 0 := by rw [x1, qc, Int.zero_mul, Int.zero_mul]; rfl
  -- what is left is a small power of two
  have hf := oct_mul (s := x) d1
  rw [ho, Int.zero_mul] at hf
  have xb : x.b.natAbs * 8 ≤ 59 * 24 := by
    have e := congrArg Int.natAbs x2
    rw [Int.natAbs_mul, Int.natAbs_mul] at e
    have l1 : x.b.natAbs * 8 ≤ x.b.natAbs * T.natAbs := Nat.mul_le_mul_left _ (by omega)
    have l2 : (12 * s - T).natAbs * x.d.natAbs ≤ 59 * 24 := Nat.mul_le_mul (by omega) (by omega)
    omega
  have xa : x.a.natAbs ≤ 400 := by
    have e : fl x.h = x.a + fl ⟨0, x.b, x.c⟩ := fl_shift x.a x.b x.c
    have a := fl_le ⟨0, x.b, x.c⟩
    have b := fl_ge ⟨0, x.b, x.c⟩
    dsimp only at a b
    rw [e] at hf
    omega
  have hM : (7 + m).natAbs ≤ 960 := by
    have e := congrArg Int.natAbs ea
    rw [Int.natAbs_mul, Int.natAbs_mul] at e
    have l0 : (x.a * q.d + q.a * x.d).natAbs ≤ x.a.natAbs * q.d.natAbs + q.a.natAbs * x.d.natAbs := by
      have := Int.natAbs_add_le (x.a * q.d) (q.a * x.d)
      rwa [Int.natAbs_mul, Int.natAbs_mul] at this
    have p1 : 1 ≤ x.d.natAbs := by omega
    have p2 : 1 ≤ q.d.natAbs := by omega
    have l1 : x.a.natAbs * q.d.natAbs ≤ 400 * (x.d.natAbs * q.d.natAbs) := Nat.mul_le_mul xa (Nat.le_mul_of_pos_left _ p1)
    have l2 : q.a.natAbs * x.d.natAbs ≤ 100 * (x.d.natAbs * q.d.natAbs) := Nat.mul_le_mul (by omega) (Nat.le_mul_of_pos_right _ p2)
    have l3 : (7 + m).natAbs * (x.d.natAbs * q.d.natAbs) ≤ 500 * (x.d.natAbs * q.d.natAbs) := by omega
    have l4 := Nat.le_of_mul_le_mul_right l3 (Nat.mul_pos p1 p2)
    omega
  have em : mulT x q = (⟨7 + m, 0, 0, 1⟩, 0) := by
    unfold mulT
    rw [ea, eb, ec]
    have h := redT_scalez (7 + m) 0 0 1 (x.d * q.d) (prod_pos d1 d3)
    rw [Int.zero_mul, Int.one_mul] at h
    rw [h]
    exact (two_power hM).1
  rw [em]
  exact ⟨rfl, (two_power hM).2.1, (two_power hM).2.2⟩

end Go.Proofs
