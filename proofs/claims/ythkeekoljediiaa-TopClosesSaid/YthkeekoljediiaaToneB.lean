/- nat.power, nat.Pow of a small number, to any exponent whose power is not too long. tone: ratio, floor, parted. tone: floor. tone: Cents, Cmp, Octave. -/
import Derived.Test.YthkeekoljediiaaPow
import Derived.Test.YthkeekoljediiaaTPlain
import Derived.Test.YthkeekoljediiaaNatD
import Derived.Test.YthkeekoljediiaaVals
import Derived.Test.YthkeekoljediiaaToneA
import Derived.Deep.RegionHeld3
open Go.RowKit
namespace Go.Proofs
set_option linter.unusedVariables false
set_option linter.unusedSimpArgs false

set_option maxRecDepth 100000 in
theorem power_fit (v : Value) (a n : Nat) (z : Int) (w : World) (h1 : Num w v a) (hz : z = (n : Int)) (ha : 1 < a) (hl : (limbs a).length ≤ 1) (hn : n ≤ 1200000) (hb3 : bitlen a ≤ 3) (hR : (limbs (a ^ n)).length ≤ 262144) :
    Calls Try.prog 57 #[v, .int .i64 z] w (Got w (a ^ n) 0) := by
  subst hz
  have g1 := h1
  obtain ⟨ad1, c1, rfl, s1⟩ := g1
  have ho := num_one w 109
  have hb1 := below_alloc w (.cells #[Value.int .u32 1] 109)
  have k1 := h1.mono hb1
  by_cases hn : n = 0
  · subst hn
    rw [Nat.pow_zero]
    go_enter Try.func57, Try.ntmps57
    go_wp2
    go_ret2
    exact ⟨_, rfl, ho, Nat.le_refl _, hb1⟩
  · have hn0 : ((n : Int) == 0) = false := by rw [beq_eq_false_iff_ne]; omega
    have hn1 : 1 ≤ n := by omega
    have ha0 : a ≠ 0 := by omega
    have hal : (limbs a).length ≠ 0 := fun e => ha0 (limbs_eq_nil.mp (List.eq_nil_of_length_eq_zero e))
    have t4 : (((limbs a).length : Int) == 0) = false := by rw [beq_eq_false_iff_ne]; omega
    have hl1 : (limbs 1).length ≤ 1 := limbs_length_le (by omega)
    have C := compare_calls (.slice ad1 (limbs a).length c1) _ a 1 _ _ k1 ho (cmpInt_gt ha) (by omega) (by omega)
    have hmul : (limbs a).length * n ≤ 400000000 := by
      have := Nat.mul_le_mul_right n hl
      omega
    have hbl1 : 1 ≤ bitlen a := by
      have hs := bitlen_spec ha0
      by_cases h0 : bitlen a = 0
      · rw [h0] at hs; simp at hs; omega
      · omega
    have hbm : (bitlen a - 1) * n ≤ 2 * 1200000 := Nat.mul_le_mul (by omega) (by omega)
    obtain ⟨bl, ebl⟩ : ∃ bl, bl = bitlen a := ⟨_, rfl⟩
    rw [← ebl] at hbm hbl1 hb3
    have Ebl := Lib.hid ebl
    have hbi : ((bl : Int) - 1) * (n : Int) = (((bl - 1) * n : Nat) : Int) := by
      rw [Int.natCast_mul]; congr 1; omega
    obtain ⟨pr, epr⟩ : ∃ pr, (bl - 1) * n = pr := ⟨_, rfl⟩
    rw [epr] at hbm hbi
    obtain ⟨R, eR⟩ : ∃ R, a ^ n = R := ⟨_, rfl⟩
    rw [eR] at hR ⊢
    have ER := Lib.hid eR
    have Hmul := Lib.hid hmul
    have HR := Lib.hid hR
    have Hhl := Lib.hid hl
    have hpr0 : (0 : Int) ≤ (pr : Int) := by omega
    have hpr1 : (pr : Int) < 8388608 := by omega
    have hni : (n : Int) < 8388608 := by omega
    have hni0 : (0 : Int) < (n : Int) := by omega
    have hbi1 : (1 : Int) ≤ (bl : Int) := by omega
    have hbi2 : (bl : Int) ≤ 8388608 := by omega
    have hnl : n ≤ 1000000000 := by omega
    have Hnl := Lib.hid hnl
    have hbw : IntKind.i64.wrap (((bl : Int) - 1) * (n : Int)) = (pr : Int) := by rw [hbi]; exact IntWalk.i64_in _ (by omega)
    have hnd : decide ((8388608 : Int) ≤ (n : Int)) = false := by rw [decide_eq_false_iff_not]; omega
    have hpd : decide ((8388608 : Int) ≤ (pr : Int)) = false := by rw [decide_eq_false_iff_not]; omega
    clear ha0 hn ha ebl epr eR hmul hbm hb3 hl1 hR hal hnl hn1 hbl1 hbi
    go_enter Try.func57, Try.ntmps57
    go_wp2_with fail
    refine C.mono ?_
    clear C
    rintro e w2 ⟨rfl, b2⟩
    have k2 := k1.mono b2
    have b12 := below_trans hb1 b2
    have L := length_calls _ a _ k2 (by have := Hhl.out; omega)
    rw [← Ebl.out] at L
    go_wp2_with fail
    refine L.mono ?_
    clear L
    rintro e wq ⟨rfl, rfl⟩
    go_wp2_with fail
    refine (raise_calls _ a n _ _ k2 rfl Hmul.out (by have := Hhl.out; omega) Hnl.out).mono ?_
    rw [ER.out]
    rintro e w3 ⟨v3, rfl, hv3, hf3, b3⟩
    go_wp2_with fail
    refine (short_calls v3 R _ _ hv3 hf3).mono ?_
    rw [if_neg (by have := HR.out; omega), if_neg (by have := HR.out; omega)]
    rintro e w4 ⟨v4, rfl, hv4, hf4, rfl⟩
    go_wp2
    go_ret2
    exact ⟨_, rfl, hv4, hf4.mono b12.size, below_trans b12 b3⟩

theorem pow_fit (v : Value) (a n : Nat) (z : Int) (w : World) (h1 : Num w v a) (hz : z = (n : Int)) (ha : 1 < a) (hl : (limbs a).length ≤ 1) (hn : n ≤ 1200000) (hb3 : bitlen a ≤ 3) (hR : (limbs (a ^ n)).length ≤ 262144) :
    Calls Try.prog 32 #[v, .int .i64 z] w (Got w (a ^ n) 0) := by
  subst hz
  have t1 : (firstErr [limbs a] != 0) = false := by rw [bne_eq_false_iff_eq]; exact ok_one a (by omega)
  have k1 := h1.mono (below_alloc w (.cells #[v] 75))
  have hb1 := below_alloc w (.cells #[v] 75)
  have g1 := h1
  obtain ⟨ad1, c1, rfl, s1⟩ := g1
  have U := power_fit (.slice ad1 (limbs a).length c1) a n (n : Int) _ k1 rfl ha hl hn hb3 hR
  obtain ⟨R, eR⟩ : ∃ R, a ^ n = R := ⟨_, rfl⟩
  rw [eR] at U ⊢
  have t2 : ¬ (n : Int) < 0 := by omega
  clear eR hb3 hR ha hl hn
  go_enter Try.func32, Try.ntmps32
  go_wp2_with (go_at_call 56; refine (valid1 _ (limbs a) w h1.raw).mono ?_; rintro e w' ⟨rfl, rfl⟩)
  refine U.mono ?_
  clear U
  rintro e w1 ⟨v, rfl, hv, hf, hb⟩
  go_wp2
  go_ret2
  exact ⟨_, rfl, hv, hf.mono hb1.size, below_trans hb1 hb⟩

end Go.Proofs

open Go.RowKit Go.Deep
namespace Go.Proofs
set_option linter.unusedVariables false
set_option linter.unusedSimpArgs false

theorem limbs_bits {x k : Nat} (h : x < 2 ^ (32 * k)) : (limbs x).length ≤ k := by
  refine limbs_length_le ?_
  rw [show (4294967296 : Nat) = 2 ^ 32 from by decide, ← Nat.pow_mul]
  exact h

theorem limbs_three (n : Nat) : (limbs (3 ^ n)).length ≤ n / 16 + 1 := by
  refine limbs_bits ?_
  have h1 : 3 ^ n ≤ (2 ^ 2) ^ n := Nat.pow_le_pow_left (by decide) n
  rw [← Nat.pow_mul] at h1
  have h2 : 2 ^ (2 * n) < 2 ^ (32 * (n / 16 + 1)) := Nat.pow_lt_pow_right (by omega) (by omega)
  omega

theorem limbs_five (n : Nat) : (limbs (5 ^ n)).length ≤ 3 * n / 32 + 1 := by
  refine limbs_bits ?_
  have h1 : 5 ^ n ≤ (2 ^ 3) ^ n := Nat.pow_le_pow_left (by decide) n
  rw [← Nat.pow_mul] at h1
  have h2 : 2 ^ (3 * n) < 2 ^ (32 * (3 * n / 32 + 1)) := Nat.pow_lt_pow_right (by omega) (by omega)
  omega

theorem limbs_two (n : Nat) : (limbs (2 ^ n)).length ≤ n / 32 + 1 := by
  refine limbs_bits ?_
  exact Nat.pow_lt_pow_right (by omega) (by omega)

theorem ret_num {k : IntKind} {a b : Int} (h : a = b) : Ending.returned (.int k a) = .returned (.int k b) := by rw [h]

/-- parted: a quotient that is rounded down -/
theorem parted_calls (a b : Int) (w : World) (ha : -9223372036854775807 ≤ a ∧ a ≤ 9223372036854775807) (hb : 1 ≤ b ∧ b ≤ 9223372036854775807) :
    Calls Try.prog 27 #[.int .i64 a, .int .i64 b] w fun e w' => e = .returned (.int .i64 (a / b)) ∧ w' = w := by
  have hp := parted_eq a b (by omega)
  have hb0 : (b == 0) = false := by rw [beq_eq_false_iff_ne]; omega
  have h1 : (a.tdiv b).natAbs ≤ a.natAbs := by
    rw [Int.natAbs_tdiv]
    exact Nat.div_le_self _ _
  have k1 : wrap64 (a.tdiv b) = a.tdiv b := by unfold wrap64; omega
  obtain ⟨q, hq⟩ : ∃ q, a / b = q := ⟨_, rfl⟩
  rw [hq] at hp ⊢
  by_cases hr : a.tmod b < 0
  · rw [if_pos hr] at hp
    have HP := Lib.hid hp
    clear hp hq
    go_enter Try.func27, Try.ntmps27
    go_wp2
    go_ret
    exact ⟨ret_num HP.out, rfl⟩
  · rw [if_neg hr] at hp
    have HP := Lib.hid hp
    clear hp hq
    go_enter Try.func27, Try.ntmps27
    go_wp2
    go_ret
    exact ⟨ret_num HP.out, rfl⟩

/-- two numbers are returned -/
def RetRatio (w : World) (x y : Nat) (e : Ending) (w' : World) : Prop :=
  ∃ v1 v2, e = .returned (.tuple #[v1, v2]) ∧ Num w' v1 x ∧ Num w' v2 y ∧ Below w.heap.size w w'

theorem bit3 : bitlen 3 ≤ 3 := bitlen_of_lt (by decide)
theorem bit5 : bitlen 5 ≤ 3 := bitlen_of_lt (by decide)

/-- the parts of the fraction after i of its two odd primes -/
def ovTo (b c : Int) : Nat → Nat
  | 0 => 1
  | 1 => 3 ^ b.toNat
  | _ => 3 ^ b.toNat * 5 ^ c.toNat

theorem ovTo_len (b c : Int) (hb : b.natAbs ≤ 1200000) (hc : c.natAbs ≤ 1200000) : (limbs (ovTo b c 0)).length ≤ 1 ∧ (limbs (ovTo b c 1)).length ≤ 75001 ∧ (limbs (ovTo b c 2)).length ≤ 187503 := by
  have h1 := limbs_three b.toNat
  have h2 := limbs_five c.toNat
  have h3 := limbs_length_mul (3 ^ b.toNat) (5 ^ c.toNat)
  refine ⟨limbs_length_le (by simp [ovTo]), ?_, ?_⟩
  · show (limbs (3 ^ b.toNat)).length ≤ _
    omega
  · show (limbs (3 ^ b.toNat * 5 ^ c.toNat)).length ≤ _
    omega

theorem ovTo_fin (a b c : Int) : overN a b c = ovTo b c 2 * 2 ^ a.toNat ∧ underN a b c = ovTo (-b) (-c) 2 * 2 ^ (-a).toNat := by
  unfold overN underN
  exact ⟨Nat.mul_comm _ _, Nat.mul_comm _ _⟩

theorem ovTo_pos (b c : Int) (i : Nat) : ovTo b c i ≠ 0 := by
  have h3 := Nat.pow_pos (n := b.toNat) (show 0 < 3 by omega)
  have h5 := Nat.pow_pos (n := c.toNat) (show 0 < 5 by omega)
  match i with
  | 0 => simp [ovTo]
  | 1 => show 3 ^ b.toNat ≠ 0; omega
  | i + 2 => show 3 ^ b.toNat * 5 ^ c.toNat ≠ 0; have := Nat.mul_pos h3 h5; omega

set_option maxRecDepth 100000 in
set_option maxHeartbeats 1000000 in
theorem ratio_calls (a b c : Int) (w : World) (ha : a.natAbs ≤ 1200000) (hb : b.natAbs ≤ 1200000) (hc : c.natAbs ≤ 1200000) :
    Calls Try.prog 29 #[.int .i64 a, .int .i64 b, .int .i64 c] w (RetRatio w (overN a b c) (underN a b c)) := by
  obtain ⟨l0, l1, l2⟩ := ovTo_len b c hb hc
  obtain ⟨m0, m1, m2⟩ := ovTo_len (-b) (-c) (by omega) (by omega)
  obtain ⟨f1, f2⟩ := ovTo_fin a b c
  have F1 := Lib.hid f1
  have F2 := Lib.hid f2
  have O1 : Hid (ovTo b c 1 = ovTo b c 0 * 3 ^ b.toNat) := Lib.hid (Nat.one_mul _).symm
  have O2 : Hid (ovTo b c 2 = ovTo b c 1 * 5 ^ c.toNat) := Lib.hid rfl
  have U1 : Hid (ovTo (-b) (-c) 1 = ovTo (-b) (-c) 0 * 3 ^ (-b).toNat) := Lib.hid (Nat.one_mul _).symm
  have U2 : Hid (ovTo (-b) (-c) 2 = ovTo (-b) (-c) 1 * 5 ^ (-c).toNat) := Lib.hid rfl
  have n1 := ovTo_pos b c 2
  have n2 := ovTo_pos (-b) (-c) 2
  have t3 := limbs_three b.natAbs
  have t5 := limbs_five c.natAbs
  have t2 := limbs_two a.natAbs
  have hl3 : (limbs 3).length ≤ 1 := limbs_length_le (by omega)
  have hl5 : (limbs 5).length ≤ 1 := limbs_length_le (by omega)
  clear f1 f2
  generalize hx0 : ovTo b c 0 = x0 at *
  have x0e : x0 = 1 := hx0.symm
  generalize hy0 : ovTo (-b) (-c) 0 = y0 at *
  have y0e : y0 = 1 := hy0.symm
  generalize ovTo b c 1 = x1 at *
  generalize ovTo b c 2 = x2 at *
  generalize ovTo (-b) (-c) 1 = y1 at *
  generalize ovTo (-b) (-c) 2 = y2 at *
  clear hx0 hy0
  have i0 : ∀ w, (Instr.index 101 (.agg #[.int .i64 b, .int .i64 c]) (.int .i64 0)).run Try.prog w = .ok (.int .i64 b) w := fun _ => by kernel_rfl
  have i1 : ∀ w, (Instr.index 101 (.agg #[.int .i64 b, .int .i64 c]) (.int .i64 1)).run Try.prog w = .ok (.int .i64 c) w := fun _ => by kernel_rfl
  have j0 : ∀ w, (Instr.index 102 (.agg #[.int .u64 3, .int .u64 5]) (.int .i64 0)).run Try.prog w = .ok (.int .u64 3) w := fun _ => by kernel_rfl
  have j1 : ∀ w, (Instr.index 102 (.agg #[.int .u64 3, .int .u64 5]) (.int .i64 1)).run Try.prog w = .ok (.int .u64 5) w := fun _ => by kernel_rfl
  go_enter Try.func29, Try.ntmps29
  go_wp2_with fail
  refine (of_calls 1 _ _ (by rfl) (by omega)).mono ?_
  rintro e w1 ⟨v1, rfl, h1, _, b1⟩
  go_wp2_with fail
  refine (of_calls 1 _ _ (by rfl) (by omega)).mono ?_
  rintro e w2 ⟨v2, rfl, h2, _, b2⟩
  replace h1 := h1.mono b2
  have B := below_trans b1 b2
  clear b1 b2
  rw [← x0e] at h1
  rw [← y0e] at h2
  clear x0e y0e
  go_wp2
  go_loopw [8, 9, 19] (fun ov uv iv wr => ((iv = .int .i64 0 ∧ Num wr ov x0 ∧ Num wr uv y0) ∨ (iv = .int .i64 1 ∧ Num wr ov x1 ∧ Num wr uv y1) ∨ (iv = .int .i64 2 ∧ Num wr ov x2 ∧ Num wr uv y2)) ∧ Below w.heap.size w wr)
    (fun _ _ iv _ => (2 - intOf iv).toNat)
  case atStart => exact ⟨.inl ⟨rfl, h1, h2⟩, B⟩
  case round =>
    obtain ⟨⟨rfl, h3, h4⟩ | ⟨rfl, h3, h4⟩ | ⟨rfl, h3, h4⟩, hbel⟩ := hrel
    · go_wp2_with fail
      refine (of_calls 3 _ _ (by rfl) (by omega)).mono ?_
      rintro e w3 ⟨v3, rfl, h5, _, b3⟩
      replace h3 := h3.mono b3
      replace h4 := h4.mono b3
      replace hbel := below_trans hbel b3
      clear b3
      by_cases hz : 0 < b
      · skip
        have e1 : x1 = x0 * 3 ^ b.natAbs := by rw [O1.out, show b.toNat = b.natAbs by omega]
        have e2 : y1 = y0 := by rw [U1.out, show (-b).toNat = 0 by omega, Nat.pow_zero, Nat.mul_one]
        have E1 := Lib.hid e1
        have E2 := Lib.hid e2
        have hm : max b (-b) = (b.natAbs : Int) := by omega
        have HM := Lib.hid hm
        have hn : b.natAbs ≤ 1200000 := by omega
        clear e1 e2 hm
        go_wp2_with fail
        refine (pow_fit _ 3 b.natAbs _ _ h5 HM.out (by omega) hl3 hn bit3 (by omega)).mono ?_
        rintro e w4 ⟨v4, rfl, h6, _, b3⟩
        replace h3 := h3.mono b3
        replace h4 := h4.mono b3
        replace hbel := below_trans hbel b3
        clear b3 h5
        go_wp2_with fail
        refine (mul_ok _ _ x0 (3 ^ b.natAbs) _ h3 h6 (by omega)).mono ?_
        rintro e w5 ⟨v5, rfl, h7, _, b3⟩
        replace h4 := h4.mono b3
        replace hbel := below_trans hbel b3
        clear b3
        go_wp2
        go_roundw
        case rel => exact ⟨.inr (.inl ⟨rfl, by rw [E1.out]; exact h7, by rw [E2.out]; exact h4⟩), hbel⟩
        case measure => simp [intOf]
      · skip
        have e1 : x1 = x0 := by rw [O1.out, show b.toNat = 0 by omega, Nat.pow_zero, Nat.mul_one]
        have e2 : y1 = y0 * 3 ^ b.natAbs := by rw [U1.out, show (-b).toNat = b.natAbs by omega]
        have E1 := Lib.hid e1
        have E2 := Lib.hid e2
        have hm : max b (-b) = (b.natAbs : Int) := by omega
        have HM := Lib.hid hm
        have hn : b.natAbs ≤ 1200000 := by omega
        clear e1 e2 hm
        go_wp2_with fail
        refine (pow_fit _ 3 b.natAbs _ _ h5 HM.out (by omega) hl3 hn bit3 (by omega)).mono ?_
        rintro e w4 ⟨v4, rfl, h6, _, b3⟩
        replace h3 := h3.mono b3
        replace h4 := h4.mono b3
        replace hbel := below_trans hbel b3
        clear b3 h5
        go_wp2_with fail
        refine (mul_ok _ _ y0 (3 ^ b.natAbs) _ h4 h6 (by omega)).mono ?_
        rintro e w5 ⟨v5, rfl, h7, _, b3⟩
        replace h3 := h3.mono b3
        replace hbel := below_trans hbel b3
        clear b3
        go_wp2
        go_roundw
        case rel => exact ⟨.inr (.inl ⟨rfl, by rw [E1.out]; exact h3, by rw [E2.out]; exact h7⟩), hbel⟩
        case measure => simp [intOf]
    · go_wp2_with fail
      refine (of_calls 5 _ _ (by rfl) (by omega)).mono ?_
      rintro e w3 ⟨v3, rfl, h5, _, b3⟩
      replace h3 := h3.mono b3
      replace h4 := h4.mono b3
      replace hbel := below_trans hbel b3
      clear b3
      by_cases hz : 0 < c
      · skip
        have e1 : x2 = x1 * 5 ^ c.natAbs := by rw [O2.out, show c.toNat = c.natAbs by omega]
        have e2 : y2 = y1 := by rw [U2.out, show (-c).toNat = 0 by omega, Nat.pow_zero, Nat.mul_one]
        have E1 := Lib.hid e1
        have E2 := Lib.hid e2
        have hm : max c (-c) = (c.natAbs : Int) := by omega
        have HM := Lib.hid hm
        have hn : c.natAbs ≤ 1200000 := by omega
        clear e1 e2 hm
        go_wp2_with fail
        refine (pow_fit _ 5 c.natAbs _ _ h5 HM.out (by omega) hl5 hn bit5 (by omega)).mono ?_
        rintro e w4 ⟨v4, rfl, h6, _, b3⟩
        replace h3 := h3.mono b3
        replace h4 := h4.mono b3
        replace hbel := below_trans hbel b3
        clear b3 h5
        go_wp2_with fail
        refine (mul_ok _ _ x1 (5 ^ c.natAbs) _ h3 h6 (by omega)).mono ?_
        rintro e w5 ⟨v5, rfl, h7, _, b3⟩
        replace h4 := h4.mono b3
        replace hbel := below_trans hbel b3
        clear b3
        go_wp2
        go_roundw
        case rel => exact ⟨.inr (.inr ⟨rfl, by rw [E1.out]; exact h7, by rw [E2.out]; exact h4⟩), hbel⟩
        case measure => simp [intOf]
      · skip
        have e1 : x2 = x1 := by rw [O2.out, show c.toNat = 0 by omega, Nat.pow_zero, Nat.mul_one]
        have e2 : y2 = y1 * 5 ^ c.natAbs := by rw [U2.out, show (-c).toNat = c.natAbs by omega]
        have E1 := Lib.hid e1
        have E2 := Lib.hid e2
        have hm : max c (-c) = (c.natAbs : Int) := by omega
        have HM := Lib.hid hm
        have hn : c.natAbs ≤ 1200000 := by omega
        clear e1 e2 hm
        go_wp2_with fail
        refine (pow_fit _ 5 c.natAbs _ _ h5 HM.out (by omega) hl5 hn bit5 (by omega)).mono ?_
        rintro e w4 ⟨v4, rfl, h6, _, b3⟩
        replace h3 := h3.mono b3
        replace h4 := h4.mono b3
        replace hbel := below_trans hbel b3
        clear b3 h5
        go_wp2_with fail
        refine (mul_ok _ _ y1 (5 ^ c.natAbs) _ h4 h6 (by omega)).mono ?_
        rintro e w5 ⟨v5, rfl, h7, _, b3⟩
        replace h3 := h3.mono b3
        replace hbel := below_trans hbel b3
        clear b3
        go_wp2
        go_roundw
        case rel => exact ⟨.inr (.inr ⟨rfl, by rw [E1.out]; exact h3, by rw [E2.out]; exact h7⟩), hbel⟩
        case measure => simp [intOf]
    · by_cases hz : 0 < a
      · skip
        have e1 : overN a b c = x2 * 2 ^ a.natAbs := by rw [F1.out, show a.toNat = a.natAbs by omega]
        have e2 : underN a b c = y2 := by rw [F2.out, show (-a).toNat = 0 by omega, Nat.pow_zero, Nat.mul_one]
        have E1 := Lib.hid e1
        have E2 := Lib.hid e2
        have hm : a = (a.natAbs : Int) := by omega
        have HM := Lib.hid hm
        have hlm := limbs_length_mul x2 (2 ^ a.natAbs)
        clear e1 e2 hm
        go_wp2_with fail
        refine (shift_up _ x2 a.natAbs _ _ h3 HM.out n1 (by omega) (by omega) (by omega)).mono ?_
        rintro e w5 ⟨v5, rfl, h7, _, b3⟩
        replace h4 := h4.mono b3
        replace hbel := below_trans hbel b3
        clear b3
        go_wp2
        go_ret2
        exact ⟨_, _, rfl, by rw [E1.out]; exact h7, by rw [E2.out]; exact h4, hbel⟩
      · skip
        have e1 : overN a b c = x2 := by rw [F1.out, show a.toNat = 0 by omega, Nat.pow_zero, Nat.mul_one]
        have e2 : underN a b c = y2 * 2 ^ a.natAbs := by rw [F2.out, show (-a).toNat = a.natAbs by omega]
        have E1 := Lib.hid e1
        have E2 := Lib.hid e2
        have hm : -a = (a.natAbs : Int) := by omega
        have HM := Lib.hid hm
        have hlm := limbs_length_mul y2 (2 ^ a.natAbs)
        clear e1 e2 hm
        go_wp2_with fail
        refine (shift_up _ y2 a.natAbs _ _ h4 HM.out n2 (by omega) (by omega) (by omega)).mono ?_
        rintro e w5 ⟨v5, rfl, h7, _, b3⟩
        replace h3 := h3.mono b3
        replace hbel := below_trans hbel b3
        clear b3
        go_wp2
        go_ret2
        exact ⟨_, _, rfl, by rw [E1.out]; exact h3, by rw [E2.out]; exact h7, hbel⟩

end Go.Proofs

open Go.RowKit Go.Deep
namespace Go.Proofs
set_option linter.unusedVariables false
set_option linter.unusedSimpArgs false

theorem limbs_bitlen {x k : Nat} (h : x < 2 ^ k) : (limbs x).length ≤ k / 32 + 1 :=
  limbs_bits (Nat.lt_of_lt_of_le h (Nat.pow_le_pow_right (by omega) (by omega)))

theorem bitlen_lt {x : Nat} : x < 2 ^ bitlen x := by
  by_cases h : x = 0
  · subst h; decide
  · exact (bitlen_spec h).2

/-- the comparison that floor does -/
theorem flr_cmp (A B : Nat) : flr A B = if cmpInt (A * 2 ^ (-((bitlen A : Int) - bitlen B)).toNat) (B * 2 ^ ((bitlen A : Int) - bitlen B).toNat) < 0 then (bitlen A : Int) - bitlen B - 1 else (bitlen A : Int) - bitlen B := by
  unfold flr
  by_cases h : leP A B ((bitlen A : Int) - bitlen B)
  · rw [if_pos h, if_neg (by rw [leP_cmp] at h; omega)]
  · rw [if_neg h, if_pos (by rw [leP_cmp] at h; omega)]

set_option maxRecDepth 100000 in
theorem floor_calls (v1 v2 : Value) (A B : Nat) (w : World) (h1 : Num w v1 A) (h2 : Num w v2 B) (hA : A ≠ 0) (hB : B ≠ 0) (lA : (limbs A).length ≤ 262000) (lB : (limbs B).length ≤ 262000) :
    Calls Try.prog 28 #[v1, v2] w fun e w' => e = .returned (.int .i64 (flr A B)) ∧ Below w.heap.size w w' := by
  have hf := flr_cmp A B
  have bA := bitlen_le_limbs A
  have bB := bitlen_le_limbs B
  have uA := bitlen_lt (x := A)
  have uB := bitlen_lt (x := B)
  obtain ⟨F, eF⟩ : ∃ F, flr A B = F := ⟨_, rfl⟩
  rw [eF] at hf ⊢
  have L1 := fun (v : Value) (w : World) (h : Num w v A) => bits_ok v A w h (by omega)
  have L2 := fun (v : Value) (w : World) (h : Num w v B) => bits_ok v B w h (by omega)
  generalize bitlen A = m at *
  generalize bitlen B = n at *
  have HL1 := Lib.hid L1
  have HL2 := Lib.hid L2
  clear L1 L2 eF
  by_cases hk : 0 ≤ (m : Int) - n
  · obtain ⟨k, hk2⟩ : ∃ k : Nat, (m : Int) - n = k := ⟨((m : Int) - n).toNat, by omega⟩
    rw [hk2] at hf
    rw [show (-(k : Int)).toNat = 0 by omega, Int.toNat_natCast, Nat.pow_zero, Nat.mul_one] at hf
    have uk : B * 2 ^ k < 2 ^ m := by
      have h3 : B * 2 ^ k < 2 ^ n * 2 ^ k := Nat.mul_lt_mul_of_pos_right uB (Nat.two_pow_pos k)
      rw [← Nat.pow_add, show n + k = m by omega] at h3
      exact h3
    have lk := limbs_bitlen uk
    have hk3 : (k : Int) ≤ 8388608 := by omega
    have SH := fun (v : Value) (w : World) (z : Int) (h : Num w v B) (hz : z = (k : Int)) => shift_up v B k z w h hz hB (by omega) (by omega) (by omega)
    have CM := fun (va vb : Value) (w : World) (ha : Num w va A) (hb : Num w vb (B * 2 ^ k)) => cmp_ok va vb A (B * 2 ^ k) w ha hb ⟨by omega, by omega⟩
    have HK := Lib.hid hk2
    have HSH := Lib.hid SH
    have HCM := Lib.hid CM
    obtain ⟨c, ec⟩ : ∃ c, cmpInt A (B * 2 ^ k) = c := ⟨_, rfl⟩
    rw [ec] at hf HCM
    have m0 : (0 : Int) ≤ (m : Int) - n := hk
    have m1 : (m : Int) ≤ 8388608 := by omega
    have n1 : (n : Int) ≤ 8388608 := by omega
    clear hk hk2 uk lk SH CM ec uA uB bA bB
    by_cases hc : c < 0
    all_goals
      first | rw [if_pos hc] at hf | rw [if_neg hc] at hf
      have HF := Lib.hid hf
      clear hf
      go_enter Try.func28, Try.ntmps28
      go_wp2_with fail
      refine (HL1.out _ _ h1).mono ?_
      rintro e w1 ⟨rfl, b1⟩
      have h1' := h1.mono b1
      have h2' := h2.mono b1
      go_wp2_with fail
      refine (HL2.out _ _ h2').mono ?_
      rintro e w2 ⟨rfl, b2⟩
      replace h1' := h1'.mono b2
      replace h2' := h2'.mono b2
      have BB := below_trans b1 b2
      clear b1 b2
      go_wp2_with fail
      refine (HSH.out _ _ _ h2' HK.out).mono ?_
      rintro e w3 ⟨v3, rfl, h3, _, b3⟩
      replace h1' := h1'.mono b3
      replace BB := below_trans BB b3
      clear b3
      go_wp2_with fail
      refine (HCM.out _ _ _ h1' h3).mono ?_
      rintro e w4 ⟨rfl, b4⟩
      go_wp2
      go_ret
      exact ⟨ret_num (by rw [HF.out, HK.out]), below_trans BB b4⟩
  · obtain ⟨k, hk2⟩ : ∃ k : Nat, (m : Int) - n = -(k : Int) := ⟨(n - m : Nat), by omega⟩
    rw [hk2] at hf
    rw [show (-(k : Int)).toNat = 0 by omega, Int.neg_neg, Int.toNat_natCast, Nat.pow_zero, Nat.mul_one] at hf
    have uk : A * 2 ^ k < 2 ^ n := by
      have h3 : A * 2 ^ k < 2 ^ m * 2 ^ k := Nat.mul_lt_mul_of_pos_right uA (Nat.two_pow_pos k)
      rw [← Nat.pow_add, show m + k = n by omega] at h3
      exact h3
    have lk := limbs_bitlen uk
    have hk3 : (k : Int) ≤ 8388608 := by omega
    have SH := fun (v : Value) (w : World) (z : Int) (h : Num w v A) (hz : z = (k : Int)) => shift_up v A k z w h hz hA (by omega) (by omega) (by omega)
    have CM := fun (va vb : Value) (w : World) (ha : Num w va (A * 2 ^ k)) (hb : Num w vb B) => cmp_ok va vb (A * 2 ^ k) B w ha hb ⟨by omega, by omega⟩
    have HK := Lib.hid hk2
    have HSH := Lib.hid SH
    have HCM := Lib.hid CM
    obtain ⟨c, ec⟩ : ∃ c, cmpInt (A * 2 ^ k) B = c := ⟨_, rfl⟩
    rw [ec] at hf HCM
    have m0 : (m : Int) - n < 0 := by omega
    have m9 : ¬ 0 ≤ (m : Int) - n := by omega
    have m1 : (m : Int) ≤ 8388608 := by omega
    have n1 : (n : Int) ≤ 8388608 := by omega
    clear hk hk2 uk lk SH CM ec uA uB bA bB
    by_cases hc : c < 0
    all_goals
      first | rw [if_pos hc] at hf | rw [if_neg hc] at hf
      have HF := Lib.hid hf
      clear hf
      go_enter Try.func28, Try.ntmps28
      go_wp2_with fail
      refine (HL1.out _ _ h1).mono ?_
      rintro e w1 ⟨rfl, b1⟩
      have h1' := h1.mono b1
      have h2' := h2.mono b1
      go_wp2_with fail
      refine (HL2.out _ _ h2').mono ?_
      rintro e w2 ⟨rfl, b2⟩
      replace h1' := h1'.mono b2
      replace h2' := h2'.mono b2
      have BB := below_trans b1 b2
      clear b1 b2
      go_wp2_with fail
      refine (HSH.out _ _ _ h1' (by have := HK.out; omega)).mono ?_
      rintro e w3 ⟨v3, rfl, h3, _, b3⟩
      replace h2' := h2'.mono b3
      replace BB := below_trans BB b3
      clear b3
      go_wp2_with fail
      refine (HCM.out _ _ _ h3 h2').mono ?_
      rintro e w4 ⟨rfl, b4⟩
      go_wp2
      go_ret
      exact ⟨ret_num (by rw [HF.out, HK.out]), below_trans BB b4⟩

end Go.Proofs

open Go.RowKit Go.Deep
namespace Go.Proofs
set_option linter.unusedVariables false
set_option linter.unusedSimpArgs false

theorem over_len {a b c : Int} (ha : a.natAbs ≤ 1200000) (hb : b.natAbs ≤ 1200000) (hc : c.natAbs ≤ 1200000) : (limbs (overN a b c)).length ≤ 230000 := by
  obtain ⟨_, _, l2⟩ := ovTo_len b c hb hc
  rw [(ovTo_fin a b c).1]
  have h1 := limbs_length_mul (ovTo b c 2) (2 ^ a.toNat)
  have h2 := limbs_two a.toNat
  omega
theorem under_len {a b c : Int} (ha : a.natAbs ≤ 1200000) (hb : b.natAbs ≤ 1200000) (hc : c.natAbs ≤ 1200000) : (limbs (underN a b c)).length ≤ 230000 := by
  have h := over_len (a := -a) (b := -b) (c := -c) (by omega) (by omega) (by omega)
  exact h
theorem over_ne (a b c : Int) : overN a b c ≠ 0 := by
  have := ov_pos ⟨a, b, c⟩
  unfold ov at this
  dsimp only at this
  omega
theorem under_ne (a b c : Int) : underN a b c ≠ 0 := by
  have := un_pos ⟨a, b, c⟩
  unfold un at this
  dsimp only at this
  omega

theorem flr_bound {A B : Nat} (lA : (limbs A).length ≤ 230000) (lB : (limbs B).length ≤ 230000) : -8000000 ≤ flr A B ∧ flr A B ≤ 8000000 := by
  have bA := bitlen_le_limbs A
  have bB := bitlen_le_limbs B
  unfold flr
  split <;> omega

theorem fl_bound {u : H3} (ha : u.x.natAbs ≤ 1200000) (hb : u.y.natAbs ≤ 1200000) (hc : u.z.natAbs ≤ 1200000) : -8000000 ≤ fl u ∧ fl u ≤ 8000000 :=
  flr_bound (over_len ha hb hc) (under_len ha hb hc)

theorem vals4 {w : World} {b : Nat} {v0 v1 v2 v3 : Value} (h : Vals w b [v0, v1, v2, v3]) :
    w.cell? ⟨b, 0, none⟩ = some v0 ∧ w.cell? ⟨b, 1, none⟩ = some v1 ∧ w.cell? ⟨b, 2, none⟩ = some v2 ∧ w.cell? ⟨b, 3, none⟩ = some v3 :=
  ⟨h.cell (i := 0) (by simp), h.cell (i := 1) (by simp), h.cell (i := 2) (by simp), h.cell (i := 3) (by simp)⟩

/-- ratio, then floor -/
theorem floor_of (u : H3) (v1 v2 : Value) (w : World) (ha : u.x.natAbs ≤ 1200000) (hb : u.y.natAbs ≤ 1200000) (hc : u.z.natAbs ≤ 1200000) (h1 : Num w v1 (overN u.x u.y u.z)) (h2 : Num w v2 (underN u.x u.y u.z)) :
    Calls Try.prog 28 #[v1, v2] w fun e w' => e = .returned (.int .i64 (fl u)) ∧ Below w.heap.size w w' :=
  floor_calls v1 v2 _ _ w h1 h2 (over_ne _ _ _) (under_ne _ _ _) (Nat.le_trans (over_len ha hb hc) (by omega)) (Nat.le_trans (under_len ha hb hc) (by omega))


theorem dif_parts {a x d u : Int} (h1 : a.natAbs ≤ 960) (h2 : x.natAbs ≤ 960) (h3 : d.natAbs ≤ 24) (h4 : u.natAbs ≤ 24) :
    (a * u - x * d).natAbs ≤ 46080 ∧ wrap64 (wrap64 (a * u) - wrap64 (x * d)) = a * u - x * d := by
  have p1 := abs_mul_le h1 h4
  have p2 := abs_mul_le h2 h3
  rw [wrap64_small (x := a * u) (by omega), wrap64_small (x := x * d) (by omega)]
  generalize a * u = p at *
  generalize x * d = q at *
  exact ⟨by omega, wrap64_small (by omega)⟩

end Go.Proofs
