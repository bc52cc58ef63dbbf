/- nat.power, nat.Pow, nat.PowMod, of valid numbers. -/
import Derived.Test.YtmeflonielhfaabApi
import Derived.Test.YtmeflonielhfaabRaise
import Derived.Test.YtmeflonielhfaabLen
import Derived.Test.YtmeflonielhfaabOwn
import Derived.Test.YtmeflonielhfaabRDiv
open Go.RowKit
namespace Go.Proofs
set_option linter.unusedVariables false

theorem pow_small {a n : Nat} (ha : a ≤ 1) (hn : n ≠ 0) : a ^ n = a := by
  rcases (show a = 0 ∨ a = 1 by omega) with rfl | rfl
  · exact Nat.zero_pow (by omega)
  · exact Nat.one_pow n

set_option maxRecDepth 100000 in
/-- power: of 0 and 1 whatever the exponent, else where it is short -/
theorem power_ok (v : Value) (a n : Nat) (z : Int) (w : World) (h1 : Num w v a) (hz : z = (n : Int)) (hl : (limbs a).length ≤ 262144) (hr : a ≤ 1 ∨ (limbs a).length * n ≤ 262143) (hn2 : n < 9223372036854775808) :
    Calls Try.prog 65 #[v, .int .i64 z] w (Got w (a ^ n) 0) := by
  subst hz
  have g1 := h1
  obtain ⟨ad1, c1, rfl, s1⟩ := g1
  have ho := num_one w 24
  have hb1 := below_alloc w (.cells #[Value.int .u32 1] 24)
  have k1 := h1.mono hb1
  by_cases hn : n = 0
  · subst hn
    rw [Nat.pow_zero]
    go_enter Try.func65, Try.ntmps65
    go_wp2
    go_ret2
    exact ⟨_, rfl, ho, Nat.le_refl _, hb1⟩
  · have hn0 : ((n : Int) == 0) = false := by rw [beq_eq_false_iff_ne]; omega
    have hn1 : 1 ≤ n := by omega
    by_cases ha0 : a = 0
    · have t4 : (((limbs a).length : Int) == 0) = true := by rw [ha0, limbs_zero]; rfl
      rw [pow_small (by omega) hn]
      clear hr ha0 hn hn1
      go_enter Try.func65, Try.ntmps65
      go_wp2_with fail
      refine (own_calls _ a _ k1 (by omega)).mono ?_
      rintro e w2 ⟨v2, rfl, hv2, hf2, b2⟩
      go_wp2
      go_ret2
      exact ⟨_, rfl, hv2, hf2.mono hb1.size, below_trans hb1 b2⟩
    · have hal : (limbs a).length ≠ 0 := fun e => ha0 (limbs_eq_nil.mp (List.eq_nil_of_length_eq_zero e))
      have t4 : (((limbs a).length : Int) == 0) = false := by rw [beq_eq_false_iff_ne]; omega
      have hl1 : (limbs 1).length ≤ 1 := limbs_length_le (by omega)
      by_cases ha1 : a = 1
      · have hc : cmpInt a 1 = 0 := by rw [ha1]; exact cmpInt_eq 1
        rw [pow_small (by omega) hn]
        have C := compare_calls (.slice ad1 (limbs a).length c1) _ a 1 _ _ k1 ho hc (by omega) (by omega)
        clear hr ha0 hn hn1 ha1 hc
        go_enter Try.func65, Try.ntmps65
        go_wp2_with fail
        refine C.mono ?_
        clear C
        rintro e w2 ⟨rfl, b2⟩
        have k2 := k1.mono b2
        go_wp2_with fail
        refine (own_calls _ a _ k2 (by omega)).mono ?_
        rintro e w3 ⟨v3, rfl, hv3, hf3, b3⟩
        have b12 := below_trans hb1 b2
        go_wp2
        go_ret2
        exact ⟨_, rfl, hv3, hf3.mono b12.size, below_trans b12 b3⟩
      · have hgt : 1 < a := by omega
        have C := compare_calls (.slice ad1 (limbs a).length c1) _ a 1 _ _ k1 ho (cmpInt_gt hgt) (by omega) (by omega)
        have hmul : (limbs a).length * n ≤ 262143 := by omega
        have hnl : n ≤ 262143 := Nat.le_trans (Nat.le_mul_of_pos_left n (by omega)) hmul
        have hbl := bitlen_le_limbs a
        have hbl1 : 1 ≤ bitlen a := by
          have hs := bitlen_spec ha0
          by_cases h0 : bitlen a = 0
          · rw [h0] at hs; simp at hs; omega
          · omega
        have hbm : (bitlen a - 1) * n ≤ 32 * 262143 := by
          have h1 : (bitlen a - 1) * n ≤ (32 * (limbs a).length) * n := Nat.mul_le_mul_right _ (by omega)
          rw [Nat.mul_assoc] at h1
          omega
        have hlp := limbs_length_pow a n
        obtain ⟨bl, ebl⟩ : ∃ bl, bl = bitlen a := ⟨_, rfl⟩
        rw [← ebl] at hbm hbl1 hbl
        have Ebl := Lib.hid ebl
        have hbi : ((bl : Int) - 1) * (n : Int) = (((bl - 1) * n : Nat) : Int) := by
          rw [Int.natCast_mul]; congr 1; omega
        obtain ⟨pr, epr⟩ : ∃ pr, (bl - 1) * n = pr := ⟨_, rfl⟩
        rw [epr] at hbm hbi
        obtain ⟨R, eR⟩ : ∃ R, a ^ n = R := ⟨_, rfl⟩
        rw [eR] at hlp ⊢
        have ER := Lib.hid eR
        have k9 : ¬ (8388608 : Int) ≤ (pr : Int) := by omega
        have k8 : ¬ (8388608 : Int) ≤ (n : Int) := by omega
        have hbl3 : bl ≤ 8388608 := by omega
        have Hmul := Lib.hid hmul
        have Hlp := Lib.hid hlp
        have Hhl := Lib.hid hl
        have Hal := Lib.hid hal
        have Hbm := Lib.hid hbm
        have hpr0 : (0 : Int) ≤ (pr : Int) := by omega
        have hpr1 : (pr : Int) < 8388608 := by omega
        have hni : (n : Int) < 8388608 := by omega
        have hni0 : (0 : Int) < (n : Int) := by omega
        have hbi1 : (1 : Int) ≤ (bl : Int) := by omega
        have hbi2 : (bl : Int) ≤ 8388608 := by omega
        have Hnl := Lib.hid hnl
        have hbw : IntKind.i64.wrap (((bl : Int) - 1) * (n : Int)) = (pr : Int) := by rw [hbi]; exact IntWalk.i64_in _ (by omega)
        have hnd : decide ((8388608 : Int) ≤ (n : Int)) = false := by rw [decide_eq_false_iff_not]; omega
        have hpd : decide ((8388608 : Int) ≤ (pr : Int)) = false := by rw [decide_eq_false_iff_not]; omega
        clear hr ha0 hn ha1 hgt ebl epr eR hmul hbm hbl k9 k8 hn2 hl1 hlp hal hnl hn1 hbl1 hbl3 hbi
        go_enter Try.func65, Try.ntmps65
        go_wp2_with fail
        refine C.mono ?_
        clear C
        rintro e w2 ⟨rfl, b2⟩
        have k2 := k1.mono b2
        have b12 := below_trans hb1 b2
        have L := length_calls _ a _ k2 (by omega)
        rw [← Ebl.out] at L
        go_wp2_with fail
        refine L.mono ?_
        clear L
        rintro e wq ⟨rfl, rfl⟩
        go_wp2_with fail
        refine (raise_calls _ a n _ _ k2 rfl (by have := Hmul.out; omega) (by omega) (by have := Hnl.out; omega)).mono ?_
        rw [ER.out]
        rintro e w3 ⟨v3, rfl, hv3, hf3, b3⟩
        go_wp2_with fail
        refine (short_calls v3 R _ _ hv3 hf3).mono ?_
        rw [if_neg (by have := Hmul.out; have := Hlp.out; omega), if_neg (by have := Hmul.out; have := Hlp.out; omega)]
        rintro e w4 ⟨v4, rfl, hv4, hf4, rfl⟩
        go_wp2
        go_ret2
        exact ⟨_, rfl, hv4, hf4.mono b12.size, below_trans b12 b3⟩

theorem pow_ok (v : Value) (a n : Nat) (z : Int) (w : World) (h1 : Num w v a) (hz : z = (n : Int)) (hl : (limbs a).length ≤ 262144) (hr : a ≤ 1 ∨ (limbs a).length * n ≤ 262143) (hn2 : n < 9223372036854775808) :
    Calls Try.prog 36 #[v, .int .i64 z] w (Got w (a ^ n) 0) := by
  subst hz
  have t1 : (firstErr [limbs a] != 0) = false := by rw [bne_eq_false_iff_eq]; exact ok_one a (by omega)
  have k1 := h1.mono (below_alloc w (.cells #[v] 23))
  have hb1 := below_alloc w (.cells #[v] 23)
  have g1 := h1
  obtain ⟨ad1, c1, rfl, s1⟩ := g1
  have U := power_ok (.slice ad1 (limbs a).length c1) a n (n : Int) _ k1 rfl hl hr hn2
  obtain ⟨R, eR⟩ : ∃ R, a ^ n = R := ⟨_, rfl⟩
  rw [eR] at U ⊢
  have t2 : ¬ (n : Int) < 0 := by omega
  clear eR hr hn2
  go_enter Try.func36, Try.ntmps36
  go_wp2_with (go_at_call 51; refine (valid1 _ (limbs a) w h1.raw).mono ?_; rintro e w' ⟨rfl, rfl⟩)
  refine U.mono ?_
  clear U
  rintro e w1 ⟨v, rfl, hv, hf, hb⟩
  go_wp2
  go_ret2
  exact ⟨_, rfl, hv, hf.mono hb1.size, below_trans hb1 hb⟩

theorem pow_neg (v : Value) (a : Nat) (z : Int) (w : World) (h1 : Num w v a) (hz : z < 0) (hl : (limbs a).length ≤ 262144) :
    Calls Try.prog 36 #[v, .int .i64 z] w (Got w 0 1) := by
  have t1 : (firstErr [limbs a] != 0) = false := by rw [bne_eq_false_iff_eq]; exact ok_one a (by omega)
  have hb1 := below_alloc w (.cells #[v] 23)
  have g1 := h1
  obtain ⟨ad1, c1, rfl, s1⟩ := g1
  go_enter Try.func36, Try.ntmps36
  go_wp2_with (go_at_call 51; refine (valid1 _ (limbs a) w h1.raw).mono ?_; rintro e w' ⟨rfl, rfl⟩)
  go_ret2
  exact ⟨_, rfl, Num.nil _, trivial, hb1⟩

theorem low_step (a e m i : Nat) (hb : e / 2 ^ i % 2 = 1) : (a ^ (e % 2 ^ i) % m) * (a ^ 2 ^ i % m) % m = a ^ (e % 2 ^ (i + 1)) % m := by
  rw [← Nat.mul_mod, ← Nat.pow_add]
  congr 2
  rw [Nat.pow_succ, Nat.mod_mul, hb, Nat.mul_one]

theorem low_skip (a e m i : Nat) (hb : e / 2 ^ i % 2 = 0) : a ^ (e % 2 ^ i) % m = a ^ (e % 2 ^ (i + 1)) % m := by
  congr 2
  rw [Nat.pow_succ, Nat.mod_mul, hb, Nat.mul_zero, Nat.add_zero]

theorem sq_step (a m i : Nat) : (a ^ 2 ^ i % m) * (a ^ 2 ^ i % m) % m = a ^ 2 ^ (i + 1) % m := by
  rw [← Nat.mul_mod, ← Nat.pow_add, Nat.pow_succ, Nat.mul_two]

theorem and_one_u32 (k : Nat) (h : k < 4294967296) : bits BinOp.and IntKind.u32 (k : Int) 1 = ((k % 2 : Nat) : Int) := by
  have hk : ∀ n : Int, 0 ≤ n → n < 2 ^ 32 → IntKind.u32.wrap n = n := fun n h0 h1 => by rw [IntKind.wrap_u32]; omega
  have h1 := bits_mask .u32 32 (by simp [IntKind.bits]) hk 1 (by omega) (k : Int) (by omega) (by rw [show (2 : Int) ^ 32 = 4294967296 from by decide]; omega)
  have e2 : (2 : Int) ^ 1 = 2 := by decide
  rw [e2] at h1
  have e3 : (2 : Int) - 1 = 1 := by decide
  rw [e3] at h1
  rw [h1]
  omega

theorem powmod_zero (v1 v2 v3 : Value) (a e : Nat) (w : World) (h1 : Num w v1 a) (h2 : Num w v2 e) (h3 : Num w v3 0) (hl : (limbs a).length ≤ 262144 ∧ (limbs e).length ≤ 262144) :
    Calls Try.prog 37 #[v1, v2, v3] w (Got w 0 4) := by
  have t1 : (firstErr [limbs a, limbs e, []] != 0) = false := by
    rw [bne_eq_false_iff_eq, ← limbs_zero]; exact ok_three a e 0 (by omega) (by omega) (by rw [limbs_zero]; simp)
  have g1 := h1
  obtain ⟨ad1, c1, rfl, s1⟩ := g1
  have g2 := h2
  obtain ⟨ad2, c2, rfl, s2⟩ := g2
  have g3 := h3
  obtain ⟨ad3, c3, rfl, s3⟩ := g3
  have hr3 := h3.raw
  rw [limbs_zero] at *
  change Raw w (.slice ad3 0 c3) [] at hr3
  have hb1 := below_alloc w (.cells #[.slice ad1 (limbs a).length c1, .slice ad2 (limbs e).length c2, .slice ad3 0 c3] 23)
  go_enter Try.func37, Try.ntmps37
  go_wp2_with (go_at_call 51; refine (valid3 _ _ _ (limbs a) (limbs e) [] w h1.raw h2.raw hr3).mono ?_; rintro e w' ⟨rfl, rfl⟩)
  go_ret2
  exact ⟨_, rfl, Num.nil _, trivial, hb1⟩

set_option maxRecDepth 100000 in
theorem powmod_ok (v1 v2 v3 : Value) (a e m : Nat) (w : World) (h1 : Num w v1 a) (h2 : Num w v2 e) (h3 : Num w v3 m) (hl : (limbs a).length ≤ 262144 ∧ (limbs e).length ≤ 262144 ∧ (limbs m).length ≤ 262144) (hm0 : m ≠ 0) :
    Calls Try.prog 37 #[v1, v2, v3] w (Got w (a ^ e % m) 0) := by
  have t1 : (firstErr [limbs a, limbs e, limbs m] != 0) = false := by rw [bne_eq_false_iff_eq]; exact ok_three a e m (by omega) (by omega) (by omega)
  have hml : (limbs m).length ≠ 0 := fun e => hm0 (limbs_eq_nil.mp (List.eq_nil_of_length_eq_zero e))
  have t4 : (((limbs m).length : Int) == 0) = false := by rw [beq_eq_false_iff_ne]; omega
  have b1 := below_alloc w (.cells #[v1, v2, v3] 23)
  have k1 := h1.mono b1
  have k2 := h2.mono b1
  have k3 := h3.mono b1
  have g1 := h1
  obtain ⟨ad1, c1, rfl, s1⟩ := g1
  have g2 := h2
  obtain ⟨ad2, c2, rfl, s2⟩ := g2
  have g3 := h3
  obtain ⟨ad3, c3, rfl, s3⟩ := g3
  have hlm : ∀ x : Nat, (limbs (x % m)).length ≤ (limbs m).length := fun x => limbs_length_mono (Nat.le_of_lt (Nat.mod_lt _ (by omega)))
  have hl1 : (limbs 1).length ≤ 1 := limbs_length_le (by omega)
  have hbl := bitlen_le_limbs e
  have hbs : e < 2 ^ bitlen e := by
    by_cases h0 : e = 0
    · subst h0; decide
    · exact (bitlen_spec h0).2
  obtain ⟨W, hW⟩ : ∃ W : World, W = w.alloc (.cells #[.slice ad1 (limbs a).length c1, .slice ad2 (limbs e).length c2, .slice ad3 (limbs m).length c3] 23) := ⟨_, rfl⟩
  go_enter Try.func37, Try.ntmps37
  go_wp2_with (go_at_call 51; refine (valid3 _ _ _ (limbs a) (limbs e) (limbs m) w h1.raw h2.raw h3.raw).mono ?_; rintro en wq ⟨rfl, rfl⟩)
  rw [← hW] at b1 k1 k2 k3 ⊢
  have ho := num_one W 24
  have b2 := below_alloc W (.cells #[Value.int .u32 1] 24)
  replace k1 := k1.mono b2
  replace k2 := k2.mono b2
  replace k3 := k3.mono b2
  obtain ⟨W2, hW2⟩ : ∃ W2 : World, W2 = W.alloc (.cells #[Value.int .u32 1] 24) := ⟨_, rfl⟩
  rw [← hW2] at b2 k1 k2 k3 ho ⊢
  have hB := below_trans b1 b2
  have es : W.heap.size = w.heap.size + 1 := by rw [hW]; exact World.size_alloc _ _
  rw [es] at ho
  clear es
  clear hW hW2 b1 b2 h1 h2 h3 s1 s2 s3
  refine (part_calls _ _ 1 m _ ho k3 hm0 (by omega) (by omega)).mono ?_
  rintro en w1 ⟨vq, vo, rfl, _, hov, _, hof, _, b1⟩
  replace k1 := k1.mono b1
  replace k2 := k2.mono b1
  replace k3 := k3.mono b1
  go_wp2_with fail
  refine (part_calls _ _ a m _ k1 k3 hm0 (by omega) (by omega)).mono ?_
  rintro en w2 ⟨vq2, vx, rfl, _, hxv, _, _, _, b2⟩
  replace k2 := k2.mono b2
  replace k3 := k3.mono b2
  replace hov := hov.mono b2
  have L := length_calls _ e _ k2 (by omega)
  obtain ⟨bl, ebl⟩ : ∃ bl, bl = bitlen e := ⟨_, rfl⟩
  rw [← ebl] at L hbl hbs
  have Hbs := Lib.hid hbs
  clear ebl hbs
  go_wp2_with fail
  refine L.mono ?_
  clear L
  rintro en wq ⟨rfl, rfl⟩
  go_wp2
  have hB2 := below_trans (below_trans hB b1) b2
  have hof2 : Fresh w.heap.size vo := hof.mono hB.size
  clear b1 b2 hB k1 ho
  have hsz := hB2.size
  go_loopw [10, 12, 39] (fun ov xv iv wr => ∃ i : Nat, i ≤ bl ∧ iv = .int .i64 i ∧ Num wr ov (a ^ (e % 2 ^ i) % m) ∧ Fresh w.heap.size ov ∧ Num wr xv (a ^ 2 ^ i % m) ∧ Below w2.heap.size w2 wr ∧ Num wr (.slice ad2 (limbs e).length c2) e ∧ Num wr (.slice ad3 (limbs m).length c3) m)
    (fun _ _ iv _ => bl - (intOf iv).toNat)
  case atStart => exact ⟨0, Nat.zero_le _, rfl, by rw [Nat.pow_zero, Nat.mod_one, Nat.pow_zero]; exact hov, hof2, by rw [Nat.pow_zero, Nat.pow_one]; exact hxv, Below.refl _ _, k2, k3⟩
  case round =>
    obtain ⟨i, hi, rfl, ho, hfo, hx, hbel, ke, km⟩ := hrel
    clear hov hof2 hxv k2 k3
    by_cases hlt : i < bl
    · have hst := low_step a e m i
      have hsk := low_skip a e m i
      have hsq := sq_step a m i
      have l1 := hlm (a ^ (e % 2 ^ i))
      have l2 := hlm (a ^ 2 ^ i)
      obtain ⟨o, eo⟩ : ∃ x, a ^ (e % 2 ^ i) % m = x := ⟨_, rfl⟩
      obtain ⟨x, ex⟩ : ∃ x, a ^ 2 ^ i % m = x := ⟨_, rfl⟩
      obtain ⟨o2, eo2⟩ : ∃ x, a ^ (e % 2 ^ (i + 1)) % m = x := ⟨_, rfl⟩
      obtain ⟨x2, ex2⟩ : ∃ x, a ^ 2 ^ (i + 1) % m = x := ⟨_, rfl⟩
      rw [eo] at ho hst hsk l1
      rw [ex] at hx hst hsq l2
      rw [eo2] at hst hsk
      rw [ex2] at hsq
      have Eo2 := Lib.hid eo2
      have Ex2 := Lib.hid ex2
      have Hst := Lib.hid hst
      have Hsk := Lib.hid hsk
      have Hsq := Lib.hid hsq
      have l3 := limbs_length_mul o x
      have l4 := limbs_length_mul x x
      have hlb := limb_bit e i
      obtain ⟨bit, ebit⟩ : ∃ x, e / 2 ^ i % 2 = x := ⟨_, rfl⟩
      have hbit : bit = 0 ∨ bit = 1 := by omega
      rw [ebit] at hlb
      have Ebit := Lib.hid ebit
      clear hst hsk hsq eo ex eo2 ex2 ebit
      have hil : i / 32 < (limbs e).length := by omega
      obtain ⟨ad, c, e1, se⟩ := ke
      cases e1
      obtain ⟨b, o1, rfl, hbs, hcell, _⟩ := se.open hil
      have ht := se.lt (i / 32)
      obtain ⟨t, et⟩ : ∃ t, (limbs e).getD (i / 32) 0 = t := ⟨_, rfl⟩
      rw [et] at hlb hcell ht
      have k1 : ((i : Int) / 32).toNat = i / 32 := by omega
      have k2 : ((i : Int) % 32).toNat = i % 32 := by omega
      have k3 : (i : Int) / 32 < ((limbs e).length : Int) := by omega
      have hand := and_one_u32 (t / 2 ^ (i % 32)) (Nat.lt_of_le_of_lt (Nat.div_le_self _ _) ht)
      rw [hlb] at hand
      simp only [Int.natCast_ediv, Int.natCast_pow, Int.cast_ofNat_Int] at hand
      clear hlb et
      have ke : Num wr (.slice (some ⟨b, o1, none⟩) (limbs e).length c2) e := ⟨_, _, rfl, se⟩
      rcases hbit with rfl | rfl
      · have hb01 : ((((0 : Nat) : Int)) == 1) = false := rfl
        have hout := Hsk.out Ebit.out
        have Hout := Lib.hid hout
        clear hout
        go_wp2_with fail
        refine (times_calls _ _ x x _ hx hx (by omega) (by omega)).mono ?_
        rintro en w3 ⟨v3, rfl, hv3, _, b3⟩
        replace km := km.mono b3
        replace ke := ke.mono b3
        replace ho := ho.mono b3
        go_wp2_with fail
        refine (part_calls _ _ _ m _ hv3 km hm0 (by omega) (by omega)).mono ?_
        rintro en w4 ⟨v4, v5, rfl, _, hv5, _, _, _, b4⟩
        replace km := km.mono b4
        replace ke := ke.mono b4
        replace ho := ho.mono b4
        rw [Hsq.out] at hv5
        go_wp2
        go_roundw
        case rel => exact ⟨i + 1, by omega, by go_num, by rw [Eo2.out, ← Hout.out]; exact ho, hfo, by rw [Ex2.out]; exact hv5, below_trans hbel (below_trans b3 b4), ke, km⟩
        case measure => simp [intOf]; omega
      · have hb01 : ((((1 : Nat) : Int)) == 1) = true := rfl
        have hout := Hst.out Ebit.out
        have Hout := Lib.hid hout
        clear hout
        go_wp2_with fail
        refine (times_calls _ _ o x _ ho hx (by omega) (by omega)).mono ?_
        rintro en w5 ⟨v6, rfl, hv6, _, b5⟩
        replace km := km.mono b5
        replace ke := ke.mono b5
        replace hx := hx.mono b5
        go_wp2_with fail
        refine (part_calls _ _ _ m _ hv6 km hm0 (by omega) (by omega)).mono ?_
        rintro en w6 ⟨v7, v8, rfl, _, hv8, _, hf8, _, b6⟩
        replace km := km.mono b6
        replace ke := ke.mono b6
        replace hx := hx.mono b6
        rw [Hout.out] at hv8
        have b56 := below_trans hbel (below_trans b5 b6)
        have hf9 : Fresh w.heap.size v8 := hf8.mono (Nat.le_trans (below_trans hB2 hbel).size b5.size)
        clear hv6 b5 b6 hbel
        go_wp2_with fail
        refine (times_calls _ _ x x _ hx hx (by omega) (by omega)).mono ?_
        rintro en w3 ⟨v3, rfl, hv3, _, b3⟩
        replace km := km.mono b3
        replace ke := ke.mono b3
        replace hv8 := hv8.mono b3
        go_wp2_with fail
        refine (part_calls _ _ _ m _ hv3 km hm0 (by omega) (by omega)).mono ?_
        rintro en w4 ⟨v4, v5, rfl, _, hv5, _, _, _, b4⟩
        replace km := km.mono b4
        replace ke := ke.mono b4
        replace hv8 := hv8.mono b4
        rw [Hsq.out] at hv5
        go_wp2
        go_roundw
        case rel => exact ⟨i + 1, by omega, by go_num, by rw [Eo2.out]; exact hv8, hf9, by rw [Ex2.out]; exact hv5, below_trans b56 (below_trans b3 b4), ke, km⟩
        case measure => simp [intOf]; omega
    · obtain rfl : i = bl := by omega
      rw [Nat.mod_eq_of_lt Hbs.out] at ho
      go_wp2
      go_ret2
      exact ⟨_, rfl, ho, hfo, below_trans hB2 hbel⟩

end Go.Proofs
