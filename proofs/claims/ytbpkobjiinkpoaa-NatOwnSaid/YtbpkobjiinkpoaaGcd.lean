/- nat.common, nat.Gcd, nat.Lcm, nat.Fits, of valid numbers; the reference: Gcd. -/
import Derived.Test.YtbpkobjiinkpoaaNatD
import Derived.Test.YtbpkobjiinkpoaaNatA
import Derived.Test.YtbpkobjiinkpoaaRootLaw
import Derived.Test.YtbpkobjiinkpoaaRefB
import Derived.Test.YtbpkobjiinkpoaaPow
open Go.RowKit
namespace Go.Proofs
set_option linter.unusedVariables false
set_option linter.unusedSimpArgs false

theorem len_zero_iff (n : Nat) : (limbs n).length = 0 ↔ n = 0 := by
  constructor
  · intro h; exact limbs_eq_nil.mp (List.eq_nil_of_length_eq_zero h)
  · intro h; rw [h, limbs_zero]; rfl

set_option maxRecDepth 100000 in
theorem common_calls (v1 v2 : Value) (a b : Nat) (w : World) (h1 : Num w v1 a) (h2 : Num w v2 b) (l1 : (limbs a).length ≤ 800000000) (l2 : (limbs b).length ≤ 800000000) :
    Calls Try.prog 47 #[v1, v2] w (RetNum w (Nat.gcd a b)) := by
  go_enter Try.func47, Try.ntmps47
  go_wp2
  go_loopw [0, 1] (fun av bv wr => ∃ x y : Nat, Num wr av x ∧ Num wr bv y ∧ Nat.gcd x y = Nat.gcd a b ∧ (limbs x).length ≤ 800000000 ∧ (limbs y).length ≤ 800000000 ∧ Below w.heap.size w wr) (fun _ bv wr => numOf wr bv)
  case atStart => exact ⟨a, b, h1, h2, rfl, l1, l2, Below.refl _ _⟩
  case round =>
    obtain ⟨x, y, hx, hy, hg, lx, ly, hbel⟩ := hrel
    have Hg := Lib.hid hg
    have hly := len_zero_iff y
    clear hg
    have hy0 := hy
    obtain ⟨ad, c, rfl, hs⟩ := hy0
    by_cases h0 : y = 0
    · have t1 : ¬ 0 < (limbs y).length := by have := hly.mpr h0; omega
      have hgx : x = Nat.gcd a b := by rw [← Hg.out, h0, Nat.gcd_zero_right]
      have Hgx := Lib.hid hgx
      clear hly h0 hgx hs
      go_wp2_with fail
      refine (own_calls _ x _ hx (by omega)).mono ?_
      rintro e w1 ⟨v, rfl, hv, hf, hb⟩
      rw [Hgx.out] at hv
      go_wp2
      go_ret
      exact ⟨_, rfl, hv, hf.mono hbel.size, below_trans hbel hb⟩
    · have t1 : 0 < (limbs y).length := by
        by_cases h : (limbs y).length = 0
        · exact absurd (hly.mp h) h0
        · omega
      have hmod := Nat.mod_lt x (show 0 < y by omega)
      have hlm := limbs_length_mono (Nat.le_of_lt hmod)
      have Hmod := Lib.hid hmod
      clear hly hs hmod
      go_wp2_with fail
      refine (part_calls _ _ x y _ hx hy h0 (by omega) (by omega)).mono ?_
      rintro e w1 ⟨vq, vr, rfl, _, hr, _, _, _, hb⟩
      have hy1 := hy.mono hb
      go_wp2
      go_roundw
      case rel => exact ⟨y, x % y, hy1, hr, by rw [← Hg.out, Nat.gcd_comm x y, Nat.gcd_rec y x, Nat.gcd_comm], ly, by omega, below_trans hbel hb⟩
      case measure => rw [numOf_eq hr, numOf_eq hy]; exact Hmod.out

theorem gcd_ok (v1 v2 : Value) (a b : Nat) (w : World) (h1 : Num w v1 a) (h2 : Num w v2 b) (hl : (limbs a).length ≤ 262144 ∧ (limbs b).length ≤ 262144) :
    Calls Try.prog 28 #[v1, v2] w (Got w (Nat.gcd a b) 0) := by
  have t1 : (firstErr [limbs a, limbs b] != 0) = false := by rw [bne_eq_false_iff_eq]; exact ok_two a b (by omega) (by omega)
  have k1 := h1.mono (below_alloc w (.cells #[v1, v2] 23))
  have k2 := h2.mono (below_alloc w (.cells #[v1, v2] 23))
  have hb1 := below_alloc w (.cells #[v1, v2] 23)
  have g1 := h1
  have g2 := h2
  obtain ⟨ad1, c1, rfl, s1⟩ := g1
  obtain ⟨ad2, c2, rfl, s2⟩ := g2
  have C := common_calls (.slice ad1 (limbs a).length c1) (.slice ad2 (limbs b).length c2) a b _ k1 k2 (by omega) (by omega)
  obtain ⟨g, eg⟩ : ∃ g, Nat.gcd a b = g := ⟨_, rfl⟩
  rw [eg] at C ⊢
  clear eg
  go_enter Try.func28, Try.ntmps28
  go_wp2_with (go_at_call 32; refine (valid2 _ _ (limbs a) (limbs b) w h1.raw h2.raw).mono ?_; rintro e w' ⟨rfl, rfl⟩)
  refine C.mono ?_
  clear C
  rintro e w1 ⟨v, rfl, hv, hf, hb⟩
  go_wp2
  go_ret2
  exact ⟨_, rfl, hv, hf.mono hb1.size, below_trans hb1 hb⟩

theorem lcm_zero (v1 v2 : Value) (a b : Nat) (w : World) (h1 : Num w v1 a) (h2 : Num w v2 b) (hl : (limbs a).length ≤ 262144 ∧ (limbs b).length ≤ 262144) (h0 : a = 0 ∨ b = 0) :
    Calls Try.prog 29 #[v1, v2] w (Got w 0 0) := by
  have t1 : (firstErr [limbs a, limbs b] != 0) = false := by rw [bne_eq_false_iff_eq]; exact ok_two a b (by omega) (by omega)
  have hb1 := below_alloc w (.cells #[v1, v2] 23)
  have g1 := h1
  have g2 := h2
  obtain ⟨ad1, c1, rfl, s1⟩ := g1
  obtain ⟨ad2, c2, rfl, s2⟩ := g2
  have ha := len_zero_iff a
  have hb := len_zero_iff b
  by_cases ha0 : a = 0
  · have t2 : (((limbs a).length : Int) == 0) = true := by rw [ha.mpr ha0]; rfl
    clear ha hb ha0 h0
    go_enter Try.func29, Try.ntmps29
    go_wp2_with (go_at_call 32; refine (valid2 _ _ (limbs a) (limbs b) w h1.raw h2.raw).mono ?_; rintro e w' ⟨rfl, rfl⟩)
    go_ret2
    exact ⟨_, rfl, Num.nil _, trivial, hb1⟩
  · have t2 : (((limbs a).length : Int) == 0) = false := by
      rw [beq_eq_false_iff_ne]
      intro h
      exact ha0 (ha.mp (by omega))
    have t3 : (((limbs b).length : Int) == 0) = true := by rw [hb.mpr (by omega)]; rfl
    clear ha hb ha0 h0
    go_enter Try.func29, Try.ntmps29
    go_wp2_with (go_at_call 32; refine (valid2 _ _ (limbs a) (limbs b) w h1.raw h2.raw).mono ?_; rintro e w' ⟨rfl, rfl⟩)
    go_ret2
    exact ⟨_, rfl, Num.nil _, trivial, hb1⟩

set_option maxRecDepth 100000 in
theorem lcm_ok (v1 v2 : Value) (a b : Nat) (w : World) (h1 : Num w v1 a) (h2 : Num w v2 b) (hl : (limbs a).length + (limbs b).length ≤ 262144) (ha0 : a ≠ 0) (hb0 : b ≠ 0) :
    Calls Try.prog 29 #[v1, v2] w (Got w (a / Nat.gcd a b * b) 0) := by
  have t1 : (firstErr [limbs a, limbs b] != 0) = false := by rw [bne_eq_false_iff_eq]; exact ok_two a b (by omega) (by omega)
  have k1 := h1.mono (below_alloc w (.cells #[v1, v2] 23))
  have k2 := h2.mono (below_alloc w (.cells #[v1, v2] 23))
  have hb1 := below_alloc w (.cells #[v1, v2] 23)
  have g1 := h1
  have g2 := h2
  obtain ⟨ad1, c1, rfl, s1⟩ := g1
  obtain ⟨ad2, c2, rfl, s2⟩ := g2
  have t2 : (((limbs a).length : Int) == 0) = false := by
    rw [beq_eq_false_iff_ne]
    intro h
    exact ha0 ((len_zero_iff a).mp (by omega))
  have t3 : (((limbs b).length : Int) == 0) = false := by
    rw [beq_eq_false_iff_ne]
    intro h
    exact hb0 ((len_zero_iff b).mp (by omega))
  have C := common_calls (.slice ad1 (limbs a).length c1) (.slice ad2 (limbs b).length c2) a b _ k1 k2 (by omega) (by omega)
  have hg0 : Nat.gcd a b ≠ 0 := fun h => ha0 (Nat.eq_zero_of_gcd_eq_zero_left h)
  have hgl := limbs_length_mono (Nat.gcd_le_left b (show 0 < a by omega))
  have hql := limbs_length_mono (Nat.div_le_self a (Nat.gcd a b))
  obtain ⟨g, eg⟩ : ∃ g, Nat.gcd a b = g := ⟨_, rfl⟩
  rw [eg] at C hg0 hgl hql ⊢
  clear eg
  go_enter Try.func29, Try.ntmps29
  go_wp2_with (go_at_call 32; refine (valid2 _ _ (limbs a) (limbs b) w h1.raw h2.raw).mono ?_; rintro e w' ⟨rfl, rfl⟩)
  refine C.mono ?_
  clear C
  rintro e w1 ⟨vg, rfl, hv, _, hb⟩
  replace k1 := k1.mono hb
  replace k2 := k2.mono hb
  go_wp2_with fail
  refine (part_calls _ _ a g _ k1 hv hg0 (by omega) (by omega)).mono ?_
  rintro e w2 ⟨vq, vr, rfl, hq, _, _, _, _, hb2⟩
  replace k2 := k2.mono hb2
  go_wp2_with fail
  refine (mul_ok _ _ (a / g) b _ hq k2 (by omega)).mono ?_
  rintro e w3 ⟨vm, rfl, hm, hf, hb3⟩
  go_wp2
  go_ret2
  have b12 := below_trans (below_trans hb1 hb) hb2
  exact ⟨_, rfl, hm, hf.mono b12.size, below_trans b12 hb3⟩



end Go.Proofs
