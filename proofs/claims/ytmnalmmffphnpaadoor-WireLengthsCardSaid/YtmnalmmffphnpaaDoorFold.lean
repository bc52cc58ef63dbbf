/- the law's fold, in a region that only reads; plain facts on tension and stress. -/
import Derived.Test.YtmnalmmffphnpaaDoorWLives
import Derived.BigQuiet
open Go.RowKit Go.Deep
namespace Go.Proofs
set_option linter.unusedVariables false
set_option linter.unusedSimpArgs false

def foldZ (v z : Int) : Int := ((foldN v z.toNat : Nat) : Int)

theorem foldZ_some (v : Int) (m : Nat) (hm : 0 < m) (z : Int) (hz : z = (m : Int)) : ∃ d : Nat, foldZ v z = (d : Int) ∧ 1 ≤ d ∧ d ≤ m := by
  subst hz
  exact ⟨foldN v m, by simp [foldZ], foldN_range v m hm⟩

theorem fold_same (v z : Int) (w : World) (hz : 0 < z) (hz2 : z ≤ 100000000) (h0 : -9223372036854775808 ≤ v) (h1 : v < 9223372036854775808) :
    Calls Tryd.prog 13 #[.int .i64 v, .int .i64 z] w fun e w' => e = .returned (.int .i64 (foldZ v z)) ∧ w' = w := by
  refine (fold_calls v z.toNat z w (by omega) (by omega) (by omega) h0 h1).mono ?_
  rintro e w' ⟨rfl, rfl⟩
  exact ⟨rfl, rfl⟩

/-- a block's cells, carried on -/
theorem Vals.drewN {w b vs} (h : Vals w b vs) (n : Nat) : Vals (w.drewN n) b vs := h

theorem pull_double (d w l f : Nat) : 4 * pullN d w l f ≤ pullN d (2 * w) l f ∧ pullN d (2 * w) l f ≤ 4 * pullN d w l f + 3 := by
  have h : 355 * d * (2 * w) * (2 * w) * l * l * f * f = 4 * (355 * d * w * w * l * l * f * f) := by grind
  unfold pullN
  rw [h]
  generalize 355 * d * w * w * l * l * f * f = x
  omega

theorem pull_octave (d w l f : Nat) : pullN d w l (2 * f) = pullN d w (2 * l) f := by
  unfold pullN
  congr 1
  grind
theorem stress_octave (d l f : Nat) : stressN d l (2 * f) = stressN d (2 * l) f := by
  unfold stressN
  congr 1
  grind
theorem holds_octave (d s l f y : Nat) : holdsB d s l (2 * f) y = holdsB d s (2 * l) f y := by
  unfold holdsB
  have : 400 * d * l * l * (2 * f) * (2 * f) = 400 * d * (2 * l) * (2 * l) * f * f := by grind
  rw [this]

theorem pull_mono {d w l f d' w' l' f' : Nat} (hd : d ≤ d') (hw : w ≤ w') (hl : l ≤ l') (hf : f ≤ f') : pullN d w l f ≤ pullN d' w' l' f' :=
  Nat.div_le_div_right (mul_bound (mul_bound (mul_bound (mul_bound (mul_bound (mul_bound (mul_bound (Nat.le_refl _) hd) hw) hw) hl) hl) hf) hf)
theorem stress_mono {d l f d' l' f' : Nat} (hd : d ≤ d') (hl : l ≤ l') (hf : f ≤ f') : stressN d l f ≤ stressN d' l' f' :=
  Nat.div_le_div_right (mul_bound (mul_bound (mul_bound (mul_bound (mul_bound (Nat.le_refl _) hd) hl) hl) hf) hf)

end Go.Proofs
