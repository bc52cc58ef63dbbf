/- nat.common, nat.Gcd, nat.Lcm, nat.Fits, of valid numbers; the reference: Gcd. -/
import Derived.Test.YtgdgdaofmjnepaaDoorApi
import Derived.Test.YtgdgdaofmjnepaaDoorOwn
import Derived.Test.YtgdgdaofmjnepaaDoorRootLaw
import Derived.Test.YtgdgdaofmjnepaaDoorRDiv
import Derived.Test.YtgdgdaofmjnepaaDoorPow
open Go.RowKit
namespace Go.Proofs
set_option linter.unusedVariables false

theorem len_zero_iff (n : Nat) : (limbs n).length = 0 ↔ n = 0 := by
  constructor
  · intro h; exact limbs_eq_nil.mp (List.eq_nil_of_length_eq_zero h)
  · intro h; rw [h, limbs_zero]; rfl





set_option maxRecDepth 100000 in
theorem rgcd_calls (v1 v2 : Value) (a b : Nat) (w : World) (h1 : Num w v1 a) (h2 : Num w v2 b) (l1 : (limbs a).length ≤ 1000000) (l2 : (limbs b).length ≤ 1000000) :
    Calls Tryd.prog 100 #[v1, v2] w fun e w' => ∃ v, e = .returned v ∧ Num w' v (Nat.gcd a b) ∧ Below w.heap.size w w' := by
  go_enter Tryd.func100, Tryd.ntmps100
  go_wp2
  go_loopw [0, 1] (fun av bv wr => ∃ x y : Nat, Num wr av x ∧ Num wr bv y ∧ Nat.gcd x y = Nat.gcd a b ∧ (limbs x).length ≤ 1000000 ∧ (limbs y).length ≤ 1000000 ∧ Below w.heap.size w wr) (fun _ bv wr => numOf wr bv)
  case atStart => exact ⟨a, b, h1, h2, rfl, l1, l2, Below.refl _ _⟩
  case round =>
    obtain ⟨x, y, hx, hy, hg, lx, ly, hbel⟩ := hrel
    have Hg := Lib.hid hg
    have hly := len_zero_iff y
    clear hg
    have hy0 := hy
    obtain ⟨ad, c, rfl, hs⟩ := hy0
    by_cases h0 : y = 0
    · have t1 : ¬ 0 < (limbs y).length := by have := hly.mpr h0; omega
      have hgx : x = Nat.gcd a b := by rw [← Hg.out, h0, Nat.gcd_zero_right]
      have Hgx := Lib.hid hgx
      clear hly h0 hgx hs
      rw [Hgx.out] at hx
      go_wp2
      go_ret
      exact ⟨_, rfl, hx, hbel⟩
    · have t1 : 0 < (limbs y).length := by
        by_cases h : (limbs y).length = 0
        · exact absurd (hly.mp h) h0
        · omega
      have hmod := Nat.mod_lt x (show 0 < y by omega)
      have hlm := limbs_length_mono (Nat.le_of_lt hmod)
      have Hmod := Lib.hid hmod
      clear hly hs hmod
      go_wp2_with fail
      refine (rdivmod_calls _ _ x y _ hx hy h0 (by omega) (by omega)).mono ?_
      rintro e w1 ⟨vq, vr, rfl, _, hr, hb⟩
      have hy1 := hy.mono hb
      go_wp2
      go_roundw
      case rel => exact ⟨y, x % y, hy1, hr, by rw [← Hg.out, Nat.gcd_comm x y, Nat.gcd_rec y x, Nat.gcd_comm], ly, by omega, below_trans hbel hb⟩
      case measure => rw [numOf_eq hr, numOf_eq hy]; exact Hmod.out

end Go.Proofs
