/- nat.power, nat.Pow of a small number, to any exponent whose power is not too long. -/
import Derived.Test.YtgdgdaofmjnepaaDoorPow
open Go.RowKit
namespace Go.Proofs
set_option linter.unusedVariables false

set_option maxRecDepth 100000 in
theorem power_fit (v : Value) (a n : Nat) (z : Int) (w : World) (h1 : Num w v a) (hz : z = (n : Int)) (ha : 1 < a) (hl : (limbs a).length ≤ 1) (hn : n ≤ 1200000) (hb3 : bitlen a ≤ 3) (hR : (limbs (a ^ n)).length ≤ 262144) :
    Calls Tryd.prog 115 #[v, .int .i64 z] w (Got w (a ^ n) 0) := by
  subst hz
  have g1 := h1
  obtain ⟨ad1, c1, rfl, s1⟩ := g1
  have ho := num_one w 102
  have hb1 := below_alloc w (.cells #[Value.int .u32 1] 102)
  have k1 := h1.mono hb1
  by_cases hn : n = 0
  · subst hn
    rw [Nat.pow_zero]
    go_enter Tryd.func115, Tryd.ntmps115
    go_wp2
    go_ret2
    exact ⟨_, rfl, ho, Nat.le_refl _, hb1⟩
  · have hn0 : ((n : Int) == 0) = false := by rw [beq_eq_false_iff_ne]; omega
    have hn1 : 1 ≤ n := by omega
    have ha0 : a ≠ 0 := by omega
    have hal : (limbs a).length ≠ 0 := fun e => ha0 (limbs_eq_nil.mp (List.eq_nil_of_length_eq_zero e))
    have t4 : (((limbs a).length : Int) == 0) = false := by rw [beq_eq_false_iff_ne]; omega
    have hl1 : (limbs 1).length ≤ 1 := limbs_length_le (by omega)
    have C := compare_calls (.slice ad1 (limbs a).length c1) _ a 1 _ _ k1 ho (cmpInt_gt ha) (by omega) (by omega)
    have hmul : (limbs a).length * n ≤ 400000000 := by
      have := Nat.mul_le_mul_right n hl
      omega
    have hbl1 : 1 ≤ bitlen a := by
      have hs := bitlen_spec ha0
      by_cases h0 : bitlen a = 0
      · rw [h0] at hs; simp at hs; omega
      · omega
    have hbm : (bitlen a - 1) * n ≤ 2 * 1200000 := Nat.mul_le_mul (by omega) (by omega)
    obtain ⟨bl, ebl⟩ : ∃ bl, bl = bitlen a := ⟨_, rfl⟩
    rw [← ebl] at hbm hbl1 hb3
    have Ebl := Lib.hid ebl
    have hbi : ((bl : Int) - 1) * (n : Int) = (((bl - 1) * n : Nat) : Int) := by
      rw [Int.natCast_mul]; congr 1; omega
    obtain ⟨pr, epr⟩ : ∃ pr, (bl - 1) * n = pr := ⟨_, rfl⟩
    rw [epr] at hbm hbi
    obtain ⟨R, eR⟩ : ∃ R, a ^ n = R := ⟨_, rfl⟩
    rw [eR] at hR ⊢
    have ER := Lib.hid eR
    have Hmul := Lib.hid hmul
    have HR := Lib.hid hR
    have Hhl := Lib.hid hl
    have hpr0 : (0 : Int) ≤ (pr : Int) := by omega
    have hpr1 : (pr : Int) < 8388608 := by omega
    have hni : (n : Int) < 8388608 := by omega
    have hni0 : (0 : Int) < (n : Int) := by omega
    have hbi1 : (1 : Int) ≤ (bl : Int) := by omega
    have hbi2 : (bl : Int) ≤ 8388608 := by omega
    have hnl : n ≤ 1000000000 := by omega
    have Hnl := Lib.hid hnl
    have hbw : IntKind.i64.wrap (((bl : Int) - 1) * (n : Int)) = (pr : Int) := by rw [hbi]; exact IntWalk.i64_in _ (by omega)
    have hnd : decide ((8388608 : Int) ≤ (n : Int)) = false := by rw [decide_eq_false_iff_not]; omega
    have hpd : decide ((8388608 : Int) ≤ (pr : Int)) = false := by rw [decide_eq_false_iff_not]; omega
    clear ha0 hn ha ebl epr eR hmul hbm hb3 hl1 hR hal hnl hn1 hbl1 hbi
    go_enter Tryd.func115, Tryd.ntmps115
    go_wp2_with fail
    refine C.mono ?_
    clear C
    rintro e w2 ⟨rfl, b2⟩
    have k2 := k1.mono b2
    have b12 := below_trans hb1 b2
    have L := length_calls _ a _ k2 (by have := Hhl.out; omega)
    rw [← Ebl.out] at L
    go_wp2_with fail
    refine L.mono ?_
    clear L
    rintro e wq ⟨rfl, rfl⟩
    go_wp2_with fail
    refine (raise_calls _ a n _ _ k2 rfl Hmul.out (by have := Hhl.out; omega) Hnl.out).mono ?_
    rw [ER.out]
    rintro e w3 ⟨v3, rfl, hv3, hf3, b3⟩
    go_wp2_with fail
    refine (short_calls v3 R _ _ hv3 hf3).mono ?_
    rw [if_neg (by have := HR.out; omega), if_neg (by have := HR.out; omega)]
    rintro e w4 ⟨v4, rfl, hv4, hf4, rfl⟩
    go_wp2
    go_ret2
    exact ⟨_, rfl, hv4, hf4.mono b12.size, below_trans b12 b3⟩

theorem pow_fit (v : Value) (a n : Nat) (z : Int) (w : World) (h1 : Num w v a) (hz : z = (n : Int)) (ha : 1 < a) (hl : (limbs a).length ≤ 1) (hn : n ≤ 1200000) (hb3 : bitlen a ≤ 3) (hR : (limbs (a ^ n)).length ≤ 262144) :
    Calls Tryd.prog 87 #[v, .int .i64 z] w (Got w (a ^ n) 0) := by
  subst hz
  have t1 : (firstErr [limbs a] != 0) = false := by rw [bne_eq_false_iff_eq]; exact ok_one a (by omega)
  have k1 := h1.mono (below_alloc w (.cells #[v] 89))
  have hb1 := below_alloc w (.cells #[v] 89)
  have g1 := h1
  obtain ⟨ad1, c1, rfl, s1⟩ := g1
  have U := power_fit (.slice ad1 (limbs a).length c1) a n (n : Int) _ k1 rfl ha hl hn hb3 hR
  obtain ⟨R, eR⟩ : ∃ R, a ^ n = R := ⟨_, rfl⟩
  rw [eR] at U ⊢
  have t2 : ¬ (n : Int) < 0 := by omega
  clear eR hb3 hR ha hl hn
  go_enter Tryd.func87, Tryd.ntmps87
  go_wp2_with (go_at_call 107; refine (valid1 _ (limbs a) w h1.raw).mono ?_; rintro e w' ⟨rfl, rfl⟩)
  refine U.mono ?_
  clear U
  rintro e w1 ⟨v, rfl, hv, hf, hb⟩
  go_wp2
  go_ret2
  exact ⟨_, rfl, hv, hf.mono hb1.size, below_trans hb1 hb⟩

end Go.Proofs
