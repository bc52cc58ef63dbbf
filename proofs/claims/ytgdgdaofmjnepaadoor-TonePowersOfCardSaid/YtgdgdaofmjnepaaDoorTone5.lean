/- tone: ratio, floor, parted. -/
import Derived.Test.YtgdgdaofmjnepaaDoorToneOrd
import Derived.Test.YtgdgdaofmjnepaaDoorApi
import Derived.Test.YtgdgdaofmjnepaaDoorPow2
import Derived.Test.YtgdgdaofmjnepaaDoorShift
import Derived.Test.YtgdgdaofmjnepaaDoorUint
import Derived.Test.YtgdgdaofmjnepaaDoorVals
open Go.RowKit Go.Deep
namespace Go.Proofs
set_option linter.unusedVariables false

theorem limbs_bits {x k : Nat} (h : x < 2 ^ (32 * k)) : (limbs x).length ≤ k := by
  refine limbs_length_le ?_
  rw [show (4294967296 : Nat) = 2 ^ 32 from by decide, ← Nat.pow_mul]
  exact h

theorem limbs_three (n : Nat) : (limbs (3 ^ n)).length ≤ n / 16 + 1 := by
  refine limbs_bits ?_
  have h1 : 3 ^ n ≤ (2 ^ 2) ^ n := Nat.pow_le_pow_left (by decide) n
  rw [← Nat.pow_mul] at h1
  have h2 : 2 ^ (2 * n) < 2 ^ (32 * (n / 16 + 1)) := Nat.pow_lt_pow_right (by omega) (by omega)
  omega

theorem limbs_five (n : Nat) : (limbs (5 ^ n)).length ≤ 3 * n / 32 + 1 := by
  refine limbs_bits ?_
  have h1 : 5 ^ n ≤ (2 ^ 3) ^ n := Nat.pow_le_pow_left (by decide) n
  rw [← Nat.pow_mul] at h1
  have h2 : 2 ^ (3 * n) < 2 ^ (32 * (3 * n / 32 + 1)) := Nat.pow_lt_pow_right (by omega) (by omega)
  omega

theorem limbs_two (n : Nat) : (limbs (2 ^ n)).length ≤ n / 32 + 1 := by
  refine limbs_bits ?_
  exact Nat.pow_lt_pow_right (by omega) (by omega)

theorem ret_num {k : IntKind} {a b : Int} (h : a = b) : Ending.returned (.int k a) = .returned (.int k b) := by rw [h]

/-- parted: a quotient that is rounded down -/
theorem parted_calls (a b : Int) (w : World) (ha : -9223372036854775807 ≤ a ∧ a ≤ 9223372036854775807) (hb : 1 ≤ b ∧ b ≤ 9223372036854775807) :
    Calls Tryd.prog 69 #[.int .i64 a, .int .i64 b] w fun e w' => e = .returned (.int .i64 (a / b)) ∧ w' = w := by
  have hp := parted_eq a b (by omega)
  have hb0 : (b == 0) = false := by rw [beq_eq_false_iff_ne]; omega
  have h1 : (a.tdiv b).natAbs ≤ a.natAbs := by
    rw [Int.natAbs_tdiv]
    exact Nat.div_le_self _ _
  have k1 : wrap64 (a.tdiv b) = a.tdiv b := by unfold wrap64; omega
  obtain ⟨q, hq⟩ : ∃ q, a / b = q := ⟨_, rfl⟩
  rw [hq] at hp ⊢
  by_cases hr : a.tmod b < 0
  · rw [if_pos hr] at hp
    have HP := Lib.hid hp
    clear hp hq
    go_enter Tryd.func69, Tryd.ntmps69
    go_wp2
    go_ret
    exact ⟨ret_num HP.out, rfl⟩
  · rw [if_neg hr] at hp
    have HP := Lib.hid hp
    clear hp hq
    go_enter Tryd.func69, Tryd.ntmps69
    go_wp2
    go_ret
    exact ⟨ret_num HP.out, rfl⟩

/-- two numbers are returned -/
def RetRatio (w : World) (x y : Nat) (e : Ending) (w' : World) : Prop :=
  ∃ v1 v2, e = .returned (.tuple #[v1, v2]) ∧ Num w' v1 x ∧ Num w' v2 y ∧ Below w.heap.size w w'

theorem bit3 : bitlen 3 ≤ 3 := bitlen_of_lt (by decide)
theorem bit5 : bitlen 5 ≤ 3 := bitlen_of_lt (by decide)

/-- the parts of the fraction after i of its two odd primes -/
def ovTo (b c : Int) : Nat → Nat
  | 0 => 1
  | 1 => 3 ^ b.toNat
  | _ => 3 ^ b.toNat * 5 ^ c.toNat

theorem ovTo_len (b c : Int) (hb : b.natAbs ≤ 1200000) (hc : c.natAbs ≤ 1200000) : (limbs (ovTo b c 0)).length ≤ 1 ∧ (limbs (ovTo b c 1)).length ≤ 75001 ∧ (limbs (ovTo b c 2)).length ≤ 187503 := by
  have h1 := limbs_three b.toNat
  have h2 := limbs_five c.toNat
  have h3 := limbs_length_mul (3 ^ b.toNat) (5 ^ c.toNat)
  refine ⟨limbs_length_le (by simp [ovTo]), ?_, ?_⟩
  · show (limbs (3 ^ b.toNat)).length ≤ _
    omega
  · show (limbs (3 ^ b.toNat * 5 ^ c.toNat)).length ≤ _
    omega

theorem ovTo_fin (a b c : Int) : overN a b c = ovTo b c 2 * 2 ^ a.toNat ∧ underN a b c = ovTo (-b) (-c) 2 * 2 ^ (-a).toNat := by
  unfold overN underN
  exact ⟨Nat.mul_comm _ _, Nat.mul_comm _ _⟩

theorem ovTo_pos (b c : Int) (i : Nat) : ovTo b c i ≠ 0 := by
  have h3 := Nat.pow_pos (n := b.toNat) (show 0 < 3 by omega)
  have h5 := Nat.pow_pos (n := c.toNat) (show 0 < 5 by omega)
  match i with
  | 0 => simp [ovTo]
  | 1 => show 3 ^ b.toNat ≠ 0; omega
  | i + 2 => show 3 ^ b.toNat * 5 ^ c.toNat ≠ 0; have := Nat.mul_pos h3 h5; omega

set_option maxRecDepth 100000 in
set_option maxHeartbeats 1000000 in
theorem ratio_calls (a b c : Int) (w : World) (ha : a.natAbs ≤ 1200000) (hb : b.natAbs ≤ 1200000) (hc : c.natAbs ≤ 1200000) :
    Calls Tryd.prog 71 #[.int .i64 a, .int .i64 b, .int .i64 c] w (RetRatio w (overN a b c) (underN a b c)) := by
  obtain ⟨l0, l1, l2⟩ := ovTo_len b c hb hc
  obtain ⟨m0, m1, m2⟩ := ovTo_len (-b) (-c) (by omega) (by omega)
  obtain ⟨f1, f2⟩ := ovTo_fin a b c
  have F1 := Lib.hid f1
  have F2 := Lib.hid f2
  have O1 : Hid (ovTo b c 1 = ovTo b c 0 * 3 ^ b.toNat) := Lib.hid (Nat.one_mul _).symm
  have O2 : Hid (ovTo b c 2 = ovTo b c 1 * 5 ^ c.toNat) := Lib.hid rfl
  have U1 : Hid (ovTo (-b) (-c) 1 = ovTo (-b) (-c) 0 * 3 ^ (-b).toNat) := Lib.hid (Nat.one_mul _).symm
  have U2 : Hid (ovTo (-b) (-c) 2 = ovTo (-b) (-c) 1 * 5 ^ (-c).toNat) := Lib.hid rfl
  have n1 := ovTo_pos b c 2
  have n2 := ovTo_pos (-b) (-c) 2
  have t3 := limbs_three b.natAbs
  have t5 := limbs_five c.natAbs
  have t2 := limbs_two a.natAbs
  have hl3 : (limbs 3).length ≤ 1 := limbs_length_le (by omega)
  have hl5 : (limbs 5).length ≤ 1 := limbs_length_le (by omega)
  clear f1 f2
  generalize hx0 : ovTo b c 0 = x0 at *
  have x0e : x0 = 1 := hx0.symm
  generalize hy0 : ovTo (-b) (-c) 0 = y0 at *
  have y0e : y0 = 1 := hy0.symm
  generalize ovTo b c 1 = x1 at *
  generalize ovTo b c 2 = x2 at *
  generalize ovTo (-b) (-c) 1 = y1 at *
  generalize ovTo (-b) (-c) 2 = y2 at *
  clear hx0 hy0
  have i0 : ∀ w, (Instr.index 133 (.agg #[.int .i64 b, .int .i64 c]) (.int .i64 0)).run Tryd.prog w = .ok (.int .i64 b) w := fun _ => by kernel_rfl
  have i1 : ∀ w, (Instr.index 133 (.agg #[.int .i64 b, .int .i64 c]) (.int .i64 1)).run Tryd.prog w = .ok (.int .i64 c) w := fun _ => by kernel_rfl
  have j0 : ∀ w, (Instr.index 134 (.agg #[.int .u64 3, .int .u64 5]) (.int .i64 0)).run Tryd.prog w = .ok (.int .u64 3) w := fun _ => by kernel_rfl
  have j1 : ∀ w, (Instr.index 134 (.agg #[.int .u64 3, .int .u64 5]) (.int .i64 1)).run Tryd.prog w = .ok (.int .u64 5) w := fun _ => by kernel_rfl
  go_enter Tryd.func71, Tryd.ntmps71
  go_wp2_with fail
  refine (of_calls 1 _ _ (by rfl) (by omega)).mono ?_
  rintro e w1 ⟨v1, rfl, h1, _, b1⟩
  go_wp2_with fail
  refine (of_calls 1 _ _ (by rfl) (by omega)).mono ?_
  rintro e w2 ⟨v2, rfl, h2, _, b2⟩
  replace h1 := h1.mono b2
  have B := below_trans b1 b2
  clear b1 b2
  rw [← x0e] at h1
  rw [← y0e] at h2
  clear x0e y0e
  go_wp2
  go_loopw [8, 9, 19] (fun ov uv iv wr => ((iv = .int .i64 0 ∧ Num wr ov x0 ∧ Num wr uv y0) ∨ (iv = .int .i64 1 ∧ Num wr ov x1 ∧ Num wr uv y1) ∨ (iv = .int .i64 2 ∧ Num wr ov x2 ∧ Num wr uv y2)) ∧ Below w.heap.size w wr)
    (fun _ _ iv _ => (2 - intOf iv).toNat)
  case atStart => exact ⟨.inl ⟨rfl, h1, h2⟩, B⟩
  case round =>
    obtain ⟨⟨rfl, h3, h4⟩ | ⟨rfl, h3, h4⟩ | ⟨rfl, h3, h4⟩, hbel⟩ := hrel
    · go_wp2_with fail
      refine (of_calls 3 _ _ (by rfl) (by omega)).mono ?_
      rintro e w3 ⟨v3, rfl, h5, _, b3⟩
      replace h3 := h3.mono b3
      replace h4 := h4.mono b3
      replace hbel := below_trans hbel b3
      clear b3
      by_cases hz : 0 < b
      · skip
        have e1 : x1 = x0 * 3 ^ b.natAbs := by rw [O1.out, show b.toNat = b.natAbs by omega]
        have e2 : y1 = y0 := by rw [U1.out, show (-b).toNat = 0 by omega, Nat.pow_zero, Nat.mul_one]
        have E1 := Lib.hid e1
        have E2 := Lib.hid e2
        have hm : max b (-b) = (b.natAbs : Int) := by omega
        have HM := Lib.hid hm
        have hn : b.natAbs ≤ 1200000 := by omega
        clear e1 e2 hm
        go_wp2_with fail
        refine (pow_fit _ 3 b.natAbs _ _ h5 HM.out (by omega) hl3 hn bit3 (by omega)).mono ?_
        rintro e w4 ⟨v4, rfl, h6, _, b3⟩
        replace h3 := h3.mono b3
        replace h4 := h4.mono b3
        replace hbel := below_trans hbel b3
        clear b3 h5
        go_wp2_with fail
        refine (mul_ok _ _ x0 (3 ^ b.natAbs) _ h3 h6 (by omega)).mono ?_
        rintro e w5 ⟨v5, rfl, h7, _, b3⟩
        replace h4 := h4.mono b3
        replace hbel := below_trans hbel b3
        clear b3
        go_wp2
        go_roundw
        case rel => exact ⟨.inr (.inl ⟨rfl, by rw [E1.out]; exact h7, by rw [E2.out]; exact h4⟩), hbel⟩
        case measure => simp [intOf]
      · skip
        have e1 : x1 = x0 := by rw [O1.out, show b.toNat = 0 by omega, Nat.pow_zero, Nat.mul_one]
        have e2 : y1 = y0 * 3 ^ b.natAbs := by rw [U1.out, show (-b).toNat = b.natAbs by omega]
        have E1 := Lib.hid e1
        have E2 := Lib.hid e2
        have hm : max b (-b) = (b.natAbs : Int) := by omega
        have HM := Lib.hid hm
        have hn : b.natAbs ≤ 1200000 := by omega
        clear e1 e2 hm
        go_wp2_with fail
        refine (pow_fit _ 3 b.natAbs _ _ h5 HM.out (by omega) hl3 hn bit3 (by omega)).mono ?_
        rintro e w4 ⟨v4, rfl, h6, _, b3⟩
        replace h3 := h3.mono b3
        replace h4 := h4.mono b3
        replace hbel := below_trans hbel b3
        clear b3 h5
        go_wp2_with fail
        refine (mul_ok _ _ y0 (3 ^ b.natAbs) _ h4 h6 (by omega)).mono ?_
        rintro e w5 ⟨v5, rfl, h7, _, b3⟩
        replace h3 := h3.mono b3
        replace hbel := below_trans hbel b3
        clear b3
        go_wp2
        go_roundw
        case rel => exact ⟨.inr (.inl ⟨rfl, by rw [E1.out]; exact h3, by rw [E2.out]; exact h7⟩), hbel⟩
        case measure => simp [intOf]
    · go_wp2_with fail
      refine (of_calls 5 _ _ (by rfl) (by omega)).mono ?_
      rintro e w3 ⟨v3, rfl, h5, _, b3⟩
      replace h3 := h3.mono b3
      replace h4 := h4.mono b3
      replace hbel := below_trans hbel b3
      clear b3
      by_cases hz : 0 < c
      · skip
        have e1 : x2 = x1 * 5 ^ c.natAbs := by rw [O2.out, show c.toNat = c.natAbs by omega]
        have e2 : y2 = y1 := by rw [U2.out, show (-c).toNat = 0 by omega, Nat.pow_zero, Nat.mul_one]
        have E1 := Lib.hid e1
        have E2 := Lib.hid e2
        have hm : max c (-c) = (c.natAbs : Int) := by omega
        have HM := Lib.hid hm
        have hn : c.natAbs ≤ 1200000 := by omega
        clear e1 e2 hm
        go_wp2_with fail
        refine (pow_fit _ 5 c.natAbs _ _ h5 HM.out (by omega) hl5 hn bit5 (by omega)).mono ?_
        rintro e w4 ⟨v4, rfl, h6, _, b3⟩
        replace h3 := h3.mono b3
        replace h4 := h4.mono b3
        replace hbel := below_trans hbel b3
        clear b3 h5
        go_wp2_with fail
        refine (mul_ok _ _ x1 (5 ^ c.natAbs) _ h3 h6 (by omega)).mono ?_
        rintro e w5 ⟨v5, rfl, h7, _, b3⟩
        replace h4 := h4.mono b3
        replace hbel := below_trans hbel b3
        clear b3
        go_wp2
        go_roundw
        case rel => exact ⟨.inr (.inr ⟨rfl, by rw [E1.out]; exact h7, by rw [E2.out]; exact h4⟩), hbel⟩
        case measure => simp [intOf]
      · skip
        have e1 : x2 = x1 := by rw [O2.out, show c.toNat = 0 by omega, Nat.pow_zero, Nat.mul_one]
        have e2 : y2 = y1 * 5 ^ c.natAbs := by rw [U2.out, show (-c).toNat = c.natAbs by omega]
        have E1 := Lib.hid e1
        have E2 := Lib.hid e2
        have hm : max c (-c) = (c.natAbs : Int) := by omega
        have HM := Lib.hid hm
        have hn : c.natAbs ≤ 1200000 := by omega
        clear e1 e2 hm
        go_wp2_with fail
        refine (pow_fit _ 5 c.natAbs _ _ h5 HM.out (by omega) hl5 hn bit5 (by omega)).mono ?_
        rintro e w4 ⟨v4, rfl, h6, _, b3⟩
        replace h3 := h3.mono b3
        replace h4 := h4.mono b3
        replace hbel := below_trans hbel b3
        clear b3 h5
        go_wp2_with fail
        refine (mul_ok _ _ y1 (5 ^ c.natAbs) _ h4 h6 (by omega)).mono ?_
        rintro e w5 ⟨v5, rfl, h7, _, b3⟩
        replace h3 := h3.mono b3
        replace hbel := below_trans hbel b3
        clear b3
        go_wp2
        go_roundw
        case rel => exact ⟨.inr (.inr ⟨rfl, by rw [E1.out]; exact h3, by rw [E2.out]; exact h7⟩), hbel⟩
        case measure => simp [intOf]
    · by_cases hz : 0 < a
      · skip
        have e1 : overN a b c = x2 * 2 ^ a.natAbs := by rw [F1.out, show a.toNat = a.natAbs by omega]
        have e2 : underN a b c = y2 := by rw [F2.out, show (-a).toNat = 0 by omega, Nat.pow_zero, Nat.mul_one]
        have E1 := Lib.hid e1
        have E2 := Lib.hid e2
        have hm : a = (a.natAbs : Int) := by omega
        have HM := Lib.hid hm
        have hlm := limbs_length_mul x2 (2 ^ a.natAbs)
        clear e1 e2 hm
        go_wp2_with fail
        refine (shift_up _ x2 a.natAbs _ _ h3 HM.out n1 (by omega) (by omega) (by omega)).mono ?_
        rintro e w5 ⟨v5, rfl, h7, _, b3⟩
        replace h4 := h4.mono b3
        replace hbel := below_trans hbel b3
        clear b3
        go_wp2
        go_ret2
        exact ⟨_, _, rfl, by rw [E1.out]; exact h7, by rw [E2.out]; exact h4, hbel⟩
      · skip
        have e1 : overN a b c = x2 := by rw [F1.out, show a.toNat = 0 by omega, Nat.pow_zero, Nat.mul_one]
        have e2 : underN a b c = y2 * 2 ^ a.natAbs := by rw [F2.out, show (-a).toNat = a.natAbs by omega]
        have E1 := Lib.hid e1
        have E2 := Lib.hid e2
        have hm : -a = (a.natAbs : Int) := by omega
        have HM := Lib.hid hm
        have hlm := limbs_length_mul y2 (2 ^ a.natAbs)
        clear e1 e2 hm
        go_wp2_with fail
        refine (shift_up _ y2 a.natAbs _ _ h4 HM.out n2 (by omega) (by omega) (by omega)).mono ?_
        rintro e w5 ⟨v5, rfl, h7, _, b3⟩
        replace h3 := h3.mono b3
        replace hbel := below_trans hbel b3
        clear b3
        go_wp2
        go_ret2
        exact ⟨_, _, rfl, by rw [E1.out]; exact h3, by rw [E2.out]; exact h7, hbel⟩

end Go.Proofs
