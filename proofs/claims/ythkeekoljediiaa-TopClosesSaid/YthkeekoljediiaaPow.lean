/- nat.power, nat.Pow, nat.PowMod, of valid numbers. -/
import Derived.Test.YthkeekoljediiaaNatD
import Derived.Test.YthkeekoljediiaaNatA
import Derived.Test.YthkeekoljediiaaRefB
open Go.RowKit
namespace Go.Proofs
set_option linter.unusedVariables false
set_option linter.unusedSimpArgs false

theorem pow_small {a n : Nat} (ha : a ≤ 1) (hn : n ≠ 0) : a ^ n = a := by
  rcases (show a = 0 ∨ a = 1 by omega) with rfl | rfl
  · exact Nat.zero_pow (by omega)
  · exact Nat.one_pow n

set_option maxRecDepth 100000 in
/-- power: of 0 and 1 whatever the exponent, else where it is short -/
theorem power_ok (v : Value) (a n : Nat) (z : Int) (w : World) (h1 : Num w v a) (hz : z = (n : Int)) (hl : (limbs a).length ≤ 262144) (hr : a ≤ 1 ∨ (limbs a).length * n ≤ 262143) (hn2 : n < 9223372036854775808) :
    Calls Try.prog 57 #[v, .int .i64 z] w (Got w (a ^ n) 0) := by
  subst hz
  have g1 := h1
  obtain ⟨ad1, c1, rfl, s1⟩ := g1
  have ho := num_one w 109
  have hb1 := below_alloc w (.cells #[Value.int .u32 1] 109)
  have k1 := h1.mono hb1
  by_cases hn : n = 0
  · subst hn
    rw [Nat.pow_zero]
    go_enter Try.func57, Try.ntmps57
    go_wp2
    go_ret2
    exact ⟨_, rfl, ho, Nat.le_refl _, hb1⟩
  · have hn0 : ((n : Int) == 0) = false := by rw [beq_eq_false_iff_ne]; omega
    have hn1 : 1 ≤ n := by omega
    by_cases ha0 : a = 0
    · have t4 : (((limbs a).length : Int) == 0) = true := by rw [ha0, limbs_zero]; rfl
      rw [pow_small (by omega) hn]
      clear hr ha0 hn hn1
      go_enter Try.func57, Try.ntmps57
      go_wp2_with fail
      refine (own_calls _ a _ k1 (by omega)).mono ?_
      rintro e w2 ⟨v2, rfl, hv2, hf2, b2⟩
      go_wp2
      go_ret2
      exact ⟨_, rfl, hv2, hf2.mono hb1.size, below_trans hb1 b2⟩
    · have hal : (limbs a).length ≠ 0 := fun e => ha0 (limbs_eq_nil.mp (List.eq_nil_of_length_eq_zero e))
      have t4 : (((limbs a).length : Int) == 0) = false := by rw [beq_eq_false_iff_ne]; omega
      have hl1 : (limbs 1).length ≤ 1 := limbs_length_le (by omega)
      by_cases ha1 : a = 1
      · have hc : cmpInt a 1 = 0 := by rw [ha1]; exact cmpInt_eq 1
        rw [pow_small (by omega) hn]
        have C := compare_calls (.slice ad1 (limbs a).length c1) _ a 1 _ _ k1 ho hc (by omega) (by omega)
        clear hr ha0 hn hn1 ha1 hc
        go_enter Try.func57, Try.ntmps57
        go_wp2_with fail
        refine C.mono ?_
        clear C
        rintro e w2 ⟨rfl, b2⟩
        have k2 := k1.mono b2
        go_wp2_with fail
        refine (own_calls _ a _ k2 (by omega)).mono ?_
        rintro e w3 ⟨v3, rfl, hv3, hf3, b3⟩
        have b12 := below_trans hb1 b2
        go_wp2
        go_ret2
        exact ⟨_, rfl, hv3, hf3.mono b12.size, below_trans b12 b3⟩
      · have hgt : 1 < a := by omega
        have C := compare_calls (.slice ad1 (limbs a).length c1) _ a 1 _ _ k1 ho (cmpInt_gt hgt) (by omega) (by omega)
        have hmul : (limbs a).length * n ≤ 262143 := by omega
        have hnl : n ≤ 262143 := Nat.le_trans (Nat.le_mul_of_pos_left n (by omega)) hmul
        have hbl := bitlen_le_limbs a
        have hbl1 : 1 ≤ bitlen a := by
          have hs := bitlen_spec ha0
          by_cases h0 : bitlen a = 0
          · rw [h0] at hs; simp at hs; omega
          · omega
        have hbm : (bitlen a - 1) * n ≤ 32 * 262143 := by
          have h1 : (bitlen a - 1) * n ≤ (32 * (limbs a).length) * n := Nat.mul_le_mul_right _ (by omega)
          rw [Nat.mul_assoc] at h1
          omega
        have hlp := limbs_length_pow a n
        obtain ⟨bl, ebl⟩ : ∃ bl, bl = bitlen a := ⟨_, rfl⟩
        rw [← ebl] at hbm hbl1 hbl
        have Ebl := Lib.hid ebl
        have hbi : ((bl : Int) - 1) * (n : Int) = (((bl - 1) * n : Nat) : Int) := by
          rw [Int.natCast_mul]; congr 1; omega
        obtain ⟨pr, epr⟩ : ∃ pr, (bl - 1) * n = pr := ⟨_, rfl⟩
        rw [epr] at hbm hbi
        obtain ⟨R, eR⟩ : ∃ R, a ^ n = R := ⟨_, rfl⟩
        rw [eR] at hlp ⊢
        have ER := Lib.hid eR
        have k9 : ¬ (8388608 : Int) ≤ (pr : Int) := by omega
        have k8 : ¬ (8388608 : Int) ≤ (n : Int) := by omega
        have hbl3 : bl ≤ 8388608 := by omega
        have Hmul := Lib.hid hmul
        have Hlp := Lib.hid hlp
        have Hhl := Lib.hid hl
        have Hal := Lib.hid hal
        have Hbm := Lib.hid hbm
        have hpr0 : (0 : Int) ≤ (pr : Int) := by omega
        have hpr1 : (pr : Int) < 8388608 := by omega
        have hni : (n : Int) < 8388608 := by omega
        have hni0 : (0 : Int) < (n : Int) := by omega
        have hbi1 : (1 : Int) ≤ (bl : Int) := by omega
        have hbi2 : (bl : Int) ≤ 8388608 := by omega
        have Hnl := Lib.hid hnl
        have hbw : IntKind.i64.wrap (((bl : Int) - 1) * (n : Int)) = (pr : Int) := by rw [hbi]; exact IntWalk.i64_in _ (by omega)
        have hnd : decide ((8388608 : Int) ≤ (n : Int)) = false := by rw [decide_eq_false_iff_not]; omega
        have hpd : decide ((8388608 : Int) ≤ (pr : Int)) = false := by rw [decide_eq_false_iff_not]; omega
        clear hr ha0 hn ha1 hgt ebl epr eR hmul hbm hbl k9 k8 hn2 hl1 hlp hal hnl hn1 hbl1 hbl3 hbi
        go_enter Try.func57, Try.ntmps57
        go_wp2_with fail
        refine C.mono ?_
        clear C
        rintro e w2 ⟨rfl, b2⟩
        have k2 := k1.mono b2
        have b12 := below_trans hb1 b2
        have L := length_calls _ a _ k2 (by omega)
        rw [← Ebl.out] at L
        go_wp2_with fail
        refine L.mono ?_
        clear L
        rintro e wq ⟨rfl, rfl⟩
        go_wp2_with fail
        refine (raise_calls _ a n _ _ k2 rfl (by have := Hmul.out; omega) (by omega) (by have := Hnl.out; omega)).mono ?_
        rw [ER.out]
        rintro e w3 ⟨v3, rfl, hv3, hf3, b3⟩
        go_wp2_with fail
        refine (short_calls v3 R _ _ hv3 hf3).mono ?_
        rw [if_neg (by have := Hmul.out; have := Hlp.out; omega), if_neg (by have := Hmul.out; have := Hlp.out; omega)]
        rintro e w4 ⟨v4, rfl, hv4, hf4, rfl⟩
        go_wp2
        go_ret2
        exact ⟨_, rfl, hv4, hf4.mono b12.size, below_trans b12 b3⟩

theorem pow_ok (v : Value) (a n : Nat) (z : Int) (w : World) (h1 : Num w v a) (hz : z = (n : Int)) (hl : (limbs a).length ≤ 262144) (hr : a ≤ 1 ∨ (limbs a).length * n ≤ 262143) (hn2 : n < 9223372036854775808) :
    Calls Try.prog 32 #[v, .int .i64 z] w (Got w (a ^ n) 0) := by
  subst hz
  have t1 : (firstErr [limbs a] != 0) = false := by rw [bne_eq_false_iff_eq]; exact ok_one a (by omega)
  have k1 := h1.mono (below_alloc w (.cells #[v] 75))
  have hb1 := below_alloc w (.cells #[v] 75)
  have g1 := h1
  obtain ⟨ad1, c1, rfl, s1⟩ := g1
  have U := power_ok (.slice ad1 (limbs a).length c1) a n (n : Int) _ k1 rfl hl hr hn2
  obtain ⟨R, eR⟩ : ∃ R, a ^ n = R := ⟨_, rfl⟩
  rw [eR] at U ⊢
  have t2 : ¬ (n : Int) < 0 := by omega
  clear eR hr hn2
  go_enter Try.func32, Try.ntmps32
  go_wp2_with (go_at_call 56; refine (valid1 _ (limbs a) w h1.raw).mono ?_; rintro e w' ⟨rfl, rfl⟩)
  refine U.mono ?_
  clear U
  rintro e w1 ⟨v, rfl, hv, hf, hb⟩
  go_wp2
  go_ret2
  exact ⟨_, rfl, hv, hf.mono hb1.size, below_trans hb1 hb⟩

theorem pow_neg (v : Value) (a : Nat) (z : Int) (w : World) (h1 : Num w v a) (hz : z < 0) (hl : (limbs a).length ≤ 262144) :
    Calls Try.prog 32 #[v, .int .i64 z] w (Got w 0 1) := by
  have t1 : (firstErr [limbs a] != 0) = false := by rw [bne_eq_false_iff_eq]; exact ok_one a (by omega)
  have hb1 := below_alloc w (.cells #[v] 75)
  have g1 := h1
  obtain ⟨ad1, c1, rfl, s1⟩ := g1
  go_enter Try.func32, Try.ntmps32
  go_wp2_with (go_at_call 56; refine (valid1 _ (limbs a) w h1.raw).mono ?_; rintro e w' ⟨rfl, rfl⟩)
  go_ret2
  exact ⟨_, rfl, Num.nil _, trivial, hb1⟩


end Go.Proofs
