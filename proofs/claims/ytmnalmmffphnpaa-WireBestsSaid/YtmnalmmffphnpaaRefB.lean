/- The reference: DivMod, bit by bit; Gcd. The reference: Left, Right. The reference: Pow, PowMod. The reference: Root, bit by bit. -/
import Derived.Test.YtmnalmmffphnpaaRefA
import Derived.Test.YtmnalmmffphnpaaNatB
import Derived.Test.YtmnalmmffphnpaaRootLaw
import Derived.Test.YtmnalmmffphnpaaNatC
open Go.RowKit
namespace Go.Proofs
set_option linter.unusedVariables false
set_option linter.unusedSimpArgs false

theorem u32_pow_lt {k : Nat} (h : k < 32) : 2 ^ k < 4294967296 := by
  have := Nat.pow_lt_pow_right (show 1 < 2 by omega) h
  omega
theorem u31_pow_lt {k : Nat} (h : k < 31) : 2 ^ k * 2 < 4294967296 := by
  have := u32_pow_lt (show k + 1 < 32 by omega)
  rwa [Nat.pow_succ] at this

theorem getD_val : ∀ (xs : List Nat) (k : Nat), (∀ x ∈ xs, x < 4294967296) → xs.getD k 0 = val xs / 4294967296 ^ k % 4294967296 := by
  intro xs
  induction xs with
  | nil => intro k _; simp [val, List.getD]
  | cons x xs ih =>
    intro k h
    have hx := h x (by simp)
    cases k with
    | zero => simp only [val, Nat.pow_zero, Nat.div_one]; simp only [List.getD_cons_zero]; omega
    | succ k =>
      have e := ih k (fun y hy => h y (by simp [hy]))
      have e2 : val (x :: xs) / 4294967296 ^ (k + 1) = val xs / 4294967296 ^ k := by
        rw [Nat.pow_succ, Nat.mul_comm, ← Nat.div_div_eq_div_mul]
        congr 1
        simp only [val]
        omega
      rw [e2, ← e]
      simp

theorem limb_room (R : List Nat) (hR : ∀ x ∈ R, x < 4294967296) (i t : Nat) (h : val R = t * 2 ^ (i + 1)) : R.getD (i / 32) 0 + 2 ^ (i % 32) < 4294967296 := by
  have hr : i % 32 < 32 := Nat.mod_lt _ (by omega)
  rw [getD_val R _ hR, h]
  have e1 : (2 : Nat) ^ (i + 1) = 4294967296 ^ (i / 32) * 2 ^ (i % 32 + 1) := by
    rw [show (4294967296 : Nat) = 2 ^ 32 by rfl, ← Nat.pow_mul, ← Nat.pow_add]
    congr 1
    omega
  have e2 : (4294967296 : Nat) = 2 ^ (i % 32 + 1) * 2 ^ (31 - i % 32) := by
    rw [← Nat.pow_add, show i % 32 + 1 + (31 - i % 32) = 32 by omega]
  rw [e1, Nat.mul_left_comm, Nat.mul_div_cancel_left _ (by exact Nat.pow_pos (by omega)), Nat.mul_comm t]
  have hp : 0 < 2 ^ (31 - i % 32) := Nat.two_pow_pos _
  have hp2 : 0 < 2 ^ (i % 32) := Nat.two_pow_pos _
  have e3 : 2 ^ (i % 32 + 1) * t % 4294967296 = 2 ^ (i % 32 + 1) * (t % 2 ^ (31 - i % 32)) := by
    rw [e2, Nat.mul_mod_mul_left]
  rw [e3, Nat.pow_succ]
  have hm := Nat.mod_lt t hp
  have hle : 2 ^ (i % 32) * 2 * (t % 2 ^ (31 - i % 32) + 1) ≤ 2 ^ (i % 32) * 2 * 2 ^ (31 - i % 32) := Nat.mul_le_mul_left _ hm
  rw [Nat.pow_succ] at e2
  rw [← e2, Nat.mul_add] at hle
  omega

theorem pow_limb (i : Nat) : 4294967296 ^ (i / 32) * 2 ^ (i % 32) = 2 ^ i := by
  rw [show (4294967296 : Nat) = 2 ^ 32 by rfl, ← Nat.pow_mul, ← Nat.pow_add]
  congr 1
  omega

theorem bit_step (m i : Nat) : m / 2 ^ i = 2 * (m / 2 ^ (i + 1)) + m / 2 ^ i % 2 := by
  rw [Nat.pow_succ, ← Nat.div_div_eq_div_mul]
  omega

/-- long division by two: the next bit -/
theorem div_step (M bit b : Nat) (hb : b ≠ 0) (hbit : bit < 2) :
    (2 * (M % b) + bit < b → (2 * M + bit) / b = 2 * (M / b) ∧ (2 * M + bit) % b = 2 * (M % b) + bit) ∧
    (b ≤ 2 * (M % b) + bit → (2 * M + bit) / b = 2 * (M / b) + 1 ∧ (2 * M + bit) % b = 2 * (M % b) + bit - b) := by
  have h1 := Nat.div_add_mod M b
  have h2 := Nat.mod_lt M (show 0 < b by omega)
  generalize M / b = q at *
  generalize M % b = r at *
  constructor
  · intro h
    have e : 2 * M + bit = b * (2 * q) + (2 * r + bit) := by rw [← h1]; grind
    rw [e]
    constructor
    · rw [Nat.mul_add_div (by omega), Nat.div_eq_of_lt h, Nat.add_zero]
    · rw [Nat.mul_add_mod, Nat.mod_eq_of_lt h]
  · intro h
    have e : 2 * M + bit = b * (2 * q + 1) + (2 * r + bit - b) := by
      have : b * (2 * q + 1) = 2 * (b * q) + b := by grind
      omega
    rw [e]
    constructor
    · rw [Nat.mul_add_div (by omega), Nat.div_eq_of_lt (by omega), Nat.add_zero]
    · rw [Nat.mul_add_mod, Nat.mod_eq_of_lt (by omega)]

theorem set_quo (R : List Nat) (i Q : Nat) (h : val R = Q * 2 ^ (i + 1)) (hi : i / 32 < R.length) :
    val (R.set (i / 32) (R.getD (i / 32) 0 + 2 ^ (i % 32))) = (2 * Q + 1) * 2 ^ i := by
  have hs := val_set R (i / 32) (R.getD (i / 32) 0 + 2 ^ (i % 32)) hi
  rw [Nat.mul_add, pow_limb, h, Nat.pow_succ] at hs
  generalize 4294967296 ^ (i / 32) * R.getD (i / 32) 0 = y at *
  generalize 2 ^ i = p at *
  have e : (2 * Q + 1) * p = Q * (p * 2) + p := by grind
  omega

theorem num_empty {B : Nat} {w : World} {v : Value} (h : Own B w v []) : Num w v 0 := by
  have := h.num (by rw [show val [] = 0 by rfl, limbs_zero])
  exact this.1

set_option maxRecDepth 100000 in
theorem rdivmod_calls (v1 v2 : Value) (m b : Nat) (w : World) (h1 : Num w v1 m) (h2 : Num w v2 b) (hb0 : b ≠ 0) (b1 : (limbs m).length ≤ 10000000) (b2 : (limbs b).length ≤ 10000000) :
    Calls Try.prog 75 #[v1, v2] w (RetTwo w (m / b) (m % b)) := by
  have g1 := h1
  obtain ⟨ad1, c1, rfl, s1⟩ := g1
  have hbl := bitlen_le_limbs m
  have hbs : m < 2 ^ bitlen m := by
    by_cases h0 : m = 0
    · subst h0; decide
    · exact (bitlen_spec h0).2
  obtain ⟨bl, ebl⟩ : ∃ bl, bl = bitlen m := ⟨_, rfl⟩
  rw [← ebl] at hbl hbs
  obtain ⟨la, ela⟩ : ∃ la, la = (limbs m).length := ⟨_, rfl⟩
  rw [← ela] at hbl b1 h1 ⊢
  have Ela := Lib.hid ela
  have Ebl := Lib.hid ebl
  have Hbs := Lib.hid hbs
  clear ela ebl hbs s1
  go_enter Try.func75, Try.ntmps75
  go_wp2_with (at_make; refine wpList_make_nums _ rfl _ _ 80 rfl 91 Try.underlying80 info32 _ _ _ _ la rfl rfl (by omega) (by omega) (by omega) ?_; intro w1 hr1 hb1 hs1)
  have hmade := own_made w1
  have hb2 := below_alloc w1 (.cells #[] 91)
  have k1 := (h1.mono hb1).mono hb2
  have hr2 := hr1.below hb2 (Row.lt hr1)
  obtain ⟨w2, ew2⟩ : ∃ w2 : World, w2 = w1.alloc (.cells #[] 91) := ⟨_, rfl⟩
  rw [← ew2] at hmade hb2 k1 hr2 ⊢
  have k2 := (h2.mono hb1).mono hb2
  have hb12 := below_trans hb1 hb2
  have hn0 := num_empty hmade
  have ap1 := h1.apart_new (Nat.le_refl _)
  have ap2 := h2.apart_new (Nat.le_refl _)
  clear ew2 hmade hb1 hb2 hr1 h1 h2
  have L := rbits_calls _ m _ k1 (by rw [← Ela.out]; omega)
  rw [← Ebl.out] at L
  refine L.mono ?_
  clear L
  rintro e w' ⟨rfl, rfl⟩
  go_wp2_with fail
  go_loopw [7, 8] (fun rv iv wr => ∃ (j : Nat) (R : List Nat), j ≤ bl ∧ iv = .int .i64 ((j : Int) - 1) ∧ Num wr rv (m / 2 ^ j % b) ∧ R.length = la ∧ Row wr w.heap.size R ∧ val R = m / 2 ^ j / b * 2 ^ j ∧ Below w.heap.size w wr ∧
      Num wr (.slice ad1 la c1) m ∧ Num wr v2 b)
    (fun _ iv _ => (intOf iv + 1).toNat)
  case atStart =>
    have e0 : m / 2 ^ bl = 0 := Nat.div_eq_of_lt Hbs.out
    exact ⟨bl, List.replicate la 0, Nat.le_refl _, rfl, by rw [e0, Nat.zero_mod]; exact hn0, by simp, hr2, by rw [e0, Nat.zero_div, Nat.zero_mul, val_replicate], hb12, k1, k2⟩
  case round =>
    obtain ⟨j, R, hj, rfl, hr, hlR, hrow, hval, hbel, ka, kb⟩ := hrel
    have HlR := Lib.hid hlR
    have Hval := Lib.hid hval
    have Hrow := Lib.hid hrow
    clear hlR hval hrow hn0 hr2 hb12 k1 k2
    by_cases h0 : 0 < j
    · obtain ⟨i, rfl⟩ : ∃ i, j = i + 1 := ⟨j - 1, by omega⟩
      rw [show (((i + 1 : Nat) : Int) - 1) = (i : Int) from by omega]
      have hbitlt : m / 2 ^ i % 2 < 2 := Nat.mod_lt _ (by omega)
      have hstep := div_step (m / 2 ^ (i + 1)) (m / 2 ^ i % 2) b hb0 hbitlt
      rw [← bit_step m i] at hstep
      have hmlt := Nat.mod_lt (m / 2 ^ (i + 1)) (show 0 < b by omega)
      have L := rbit_calls _ m i i wr ka rfl (by omega)
      obtain ⟨bit, ebit⟩ : ∃ x, m / 2 ^ i % 2 = x := ⟨_, rfl⟩
      rw [ebit] at hstep hbitlt
      clear L
      have Ebit := Lib.hid ebit
      obtain ⟨r0, er0⟩ : ∃ x, m / 2 ^ (i + 1) % b = x := ⟨_, rfl⟩
      rw [er0] at hstep hmlt hr
      have Hstep := Lib.hid hstep
      clear hstep ebit er0
      have hlr0 : (limbs r0).length ≤ (limbs b).length := limbs_length_mono (by omega)
      have hlr2 := limbs_length_mul r0 2
      have hl2 : (limbs 2).length ≤ 1 := limbs_length_le (by omega)
      have hlbit : (limbs bit).length ≤ 1 := limbs_length_le (by omega)
      have hladd := limbs_length_add (r0 * 2) bit
      have hrlt := Hrow.out.lt
      go_wp2_with fail
      refine (rtimes_calls _ r0 2 _ _ hr (by rfl) (by omega) (by omega)).mono ?_
      rintro e w3 ⟨v3, rfl, hv3, _, b3⟩
      have ka3 := ka.mono b3
      have kb3 := kb.mono b3
      have L2 := rbit_calls _ m i i w3 ka3 rfl (by omega)
      rw [Ebit.out] at L2
      go_wp2_with fail
      refine L2.mono ?_
      clear L2
      rintro e w' ⟨rfl, rfl⟩
      go_wp2_with fail
      refine (rof_calls bit _ _ (by first | rfl | omega) (by omega)).mono ?_
      rintro e w4 ⟨v4, rfl, hv4, _, b4⟩
      have hv34 := hv3.mono b4
      go_wp2_with fail
      refine (radd_calls _ _ _ _ _ hv34 hv4 (by omega) (by omega)).mono ?_
      rintro e w5 ⟨v5, rfl, hv5, _, b5⟩
      have hst := Hstep.out
      rw [Nat.mul_comm 2 r0] at hst
      obtain ⟨r1, er1⟩ : ∃ x, r0 * 2 + bit = x := ⟨_, rfl⟩
      rw [er1] at hv5 hst hladd
      have Hst := Lib.hid hst
      have b35 := below_trans b3 (below_trans b4 b5)
      have ka5 := ka3.mono (below_trans b4 b5)
      have kb5 := kb3.mono (below_trans b4 b5)
      have hrow5 : Row w5 w.heap.size R := Hrow.out.below b35 hrlt
      have hbel5 := below_trans hbel b35
      clear hst er1 b3 b4 b5 hv3 hv34 hv4 hr ka kb ka3 kb3 Hstep
      by_cases hlt : r1 < b
      · have hs1 := (Hst.out.1 hlt)
        have Hs1 := Lib.hid hs1
        have t9 : ¬ (0 : Int) ≤ -1 := by omega
        clear hs1
        go_wp2_with fail
        refine (rcmp_calls _ _ r1 b _ _ hv5 kb5 (cmpInt_lt hlt) (by omega) (by omega)).mono ?_
        rintro e w6 ⟨rfl, b6⟩
        have hv6 := hv5.mono b6
        have ka6 := ka5.mono b6
        have kb6 := kb5.mono b6
        have hrow6 := hrow5.below b6 hrow5.lt
        go_wp2
        go_roundw
        case rel =>
          refine ⟨i, R, by omega, rfl, by rw [Hs1.out.2]; exact hv6, HlR.out, hrow6, ?_, below_trans hbel5 b6, ka6, kb6⟩
          rw [Hs1.out.1, Hval.out, Nat.pow_succ]
          generalize m / (2 ^ i * 2) / b = q
          generalize 2 ^ i = p
          grind
        case measure => simp [intOf]
      · have hs1 := (Hst.out.2 (by omega))
        have Hs1 := Lib.hid hs1
        have t9 : (0 : Int) ≤ cmpInt r1 b := by unfold cmpInt; split <;> (try split) <;> omega
        clear hs1
        go_wp2_with fail
        refine (rcmp_calls _ _ r1 b _ _ hv5 kb5 rfl (by omega) (by omega)).mono ?_
        rintro e w6 ⟨rfl, b6⟩
        have hv6 := hv5.mono b6
        have ka6 := ka5.mono b6
        have kb6 := kb5.mono b6
        have hrow6 := hrow5.below b6 hrow5.lt
        go_wp2_with fail
        refine (rsub_calls _ _ r1 b _ hv6 kb6 (by omega) (by omega)).mono ?_
        rintro e w7 ⟨v7, rfl, hv7, hf7, b7⟩
        have ap7 := hf7.apart hrow6.lt
        have ka7 := ka6.mono b7
        have kb7 := kb6.mono b7
        have hrow7 := hrow6.below b7 hrow6.lt
        have hbel7 := below_trans hbel5 (below_trans b6 b7)
        clear hv5 hv6 ka5 ka6 kb5 kb6 hrow5 hrow6 hbel5 b6 b7 hbel
        have hroom := limb_room R Hrow.out.1 i _ Hval.out
        have hset := set_quo R i _ Hval.out (by rw [HlR.out]; omega)
        obtain ⟨l0, el0⟩ : ∃ x, R.getD (i / 32) 0 = x := ⟨_, rfl⟩
        have oc := hrow7.cell (i := i / 32) (by rw [HlR.out]; omega)
        have of := hrow7.free (i / 32)
        rw [el0] at hroom hset oc
        have Hset := Lib.hid hset
        have El0 := Lib.hid el0
        clear hset el0
        go_wp2_with fail
        go_loop [9, 10] (fun pv kv => ∃ k : Nat, k ≤ i % 32 ∧ kv = .int .i64 k ∧ pv = .int .u32 ((2 ^ k : Nat) : Int)) (fun _ kv => i % 32 - (intOf kv).toNat)
        case atStart => exact ⟨0, Nat.zero_le _, rfl, rfl⟩
        case round =>
          obtain ⟨k, hk, rfl, rfl⟩ := hrel
          have hp := u32_pow_lt (show k < 32 by omega)
          by_cases hlt : k < i % 32
          · have t2 : (k : Int) < (i : Int) % 32 := by omega
            have hp2 := u31_pow_lt (show k < 31 by omega)
            have ep : 2 ^ (k + 1) = 2 ^ k * 2 := Nat.pow_succ 2 k
            have Ep := Lib.hid ep
            clear ep hroom
            generalize 2 ^ k = p at *
            go_wp2
            go_round
            case rel => exact ⟨k + 1, by omega, by go_num, by rw [Ep.out]; go_num⟩
            case measure => simp [intOf]; omega
          · obtain ⟨k1, ek1⟩ : ∃ k1, k1 = i % 32 := ⟨_, rfl⟩
            obtain rfl : k = k1 := by omega
            have t2 : ¬ (k : Int) < (i : Int) % 32 := by omega
            have hs := Hset.out
            rw [← ek1] at hroom hs
            obtain ⟨p, ep⟩ : ∃ p, p = 2 ^ k := ⟨_, rfl⟩
            rw [← ep] at hp hroom hs ⊢
            have Hs := Lib.hid hs
            have hk32 : ((i : Int) / 32).toNat = i / 32 := by omega
            have hila : i / 32 < la := by omega
            have hila2 : (i : Int) / 32 < (la : Int) := by omega
            clear ek1 hlt ep hs
            go_wp2
            go_roundw
            case rel =>
              refine ⟨i, R.set (i / 32) (l0 + p), by omega, rfl, by rw [Hs1.out.2]; exact hv7.only (only_set _ ⟨w.heap.size, i / 32, none⟩ _) ap7, by simp [HlR.out], hrow7.put _ _ hroom _ (by omega), by rw [Hs.out, Hs1.out.1], hbel7.setCell (Nat.le_refl _) _, ?_, ?_⟩
              · exact ka7.only (only_set _ ⟨w.heap.size, i / 32, none⟩ _) ap1
              · exact kb7.only (only_set _ ⟨w.heap.size, i / 32, none⟩ _) ap2
            case measure => simp [intOf]
    · obtain rfl : j = 0 := by omega
      have hsl := Hrow.out.whole (by rw [HlR.out]; unfold maxLen; omega)
      have hv2 := Hval.out
      rw [Nat.pow_zero, Nat.div_one, Nat.mul_one] at hv2
      rw [Nat.pow_zero, Nat.div_one] at hr
      rw [HlR.out] at hsl
      have Hv := Lib.hid hv2
      clear hv2
      go_wp2_with fail
      refine (rtrim_calls _ _ _ _ _ hsl HlR.out.symm (by rw [HlR.out]; omega)).mono ?_
      rintro e w' ⟨v, rfl, hnum, hfr, hb⟩
      rw [Hv.out] at hnum
      have hr' := hr.mono hb
      go_wp2
      go_ret2
      exact ⟨_, _, rfl, hnum, hr', below_trans hbel hb⟩

end Go.Proofs

open Go.RowKit
namespace Go.Proofs
set_option linter.unusedVariables false
set_option linter.unusedSimpArgs false

theorem pow_lt_u32 {k : Nat} (h : k < 32) : 2 ^ k < 4294967296 := by
  have := Nat.pow_lt_pow_right (show 1 < 2 by omega) h
  omega
theorem pow_lt_u31 {k : Nat} (h : k < 31) : 2 ^ k * 2 < 4294967296 := by
  have := pow_lt_u32 (show k + 1 < 32 by omega)
  rwa [Nat.pow_succ] at this

theorem val_zeros_append (k : Nat) (xs : List Nat) : val (List.replicate k 0 ++ xs) = 4294967296 ^ k * val xs := by
  rw [val_append, val_replicate, List.length_replicate, Nat.zero_add]

theorem left_val (m n : Nat) : 4294967296 ^ (n / 32) * m * 2 ^ (n % 32) = m * 2 ^ n := by
  have e : (4294967296 : Nat) ^ (n / 32) * 2 ^ (n % 32) = 2 ^ n := by
    rw [show (4294967296 : Nat) = 2 ^ 32 by rfl, ← Nat.pow_mul, ← Nat.pow_add]
    congr 1
    omega
  rw [← e]
  generalize 4294967296 ^ (n / 32) = p
  generalize 2 ^ (n % 32) = q
  grind



end Go.Proofs

open Go.RowKit
namespace Go.Proofs
set_option linter.unusedVariables false
set_option linter.unusedSimpArgs false

theorem pow_halves (m n bt : Nat) : m ^ (n / bt / 2) * m ^ (n / bt / 2) = m ^ (2 * (n / bt / 2)) := by rw [← Nat.pow_add, Nat.two_mul]

theorem limbs_pow_le (m n k : Nat) (hk : k ≤ n) (hb : (limbs m).length * n ≤ 100000000) : (limbs (m ^ k)).length ≤ 100000001 := by
  have h1 := limbs_length_pow m k
  have h2 := Nat.mul_le_mul_left (limbs m).length hk
  omega

set_option maxRecDepth 100000 in
theorem rpow_calls (v : Value) (m n : Nat) (z : Int) (w : World) (hv : Num w v m) (hz : z = (n : Int)) (hn : n < 2199023255552) (hb : (limbs m).length * n ≤ 100000000) (hm : (limbs m).length ≤ 100000000) :
    Calls Try.prog 67 #[v, .int .i64 z] w (RetNum w (m ^ n)) := by
  subst hz
  go_enter Try.func67, Try.ntmps67
  go_wp2_with fail
  refine (rof_calls 1 _ _ (by rfl) (by omega)).mono ?_
  rintro e w1 ⟨v1, rfl, hv1, hf1, b1⟩
  have hm1 := hv.mono b1
  go_wp2
  go_loopw [5, 6] (fun ov bv wr => ∃ t : Nat, t ≤ 41 ∧ bv = .int .i64 ((2 ^ t / 2 : Nat) : Int) ∧ Num wr ov (m ^ (n / 2 ^ t)) ∧ Fresh w.heap.size ov ∧ Below w.heap.size w wr) (fun _ bv _ => (intOf bv).toNat)
  case atStart =>
    refine ⟨41, Nat.le_refl _, rfl, ?_, hf1, b1⟩
    rw [Nat.div_eq_of_lt (by omega), Nat.pow_zero]
    exact hv1
  case round =>
    obtain ⟨t, ht, rfl, hov, hfr, hbel⟩ := hrel
    clear hv1
    by_cases h0 : t = 0
    · subst h0
      rw [Nat.pow_zero, Nat.div_one] at hov
      rw [show 2 ^ 0 / 2 = 0 by rfl]
      go_wp2
      go_ret
      exact ⟨_, rfl, hov, hfr, hbel⟩
    · obtain ⟨s, rfl⟩ : ∃ s, t = s + 1 := ⟨t - 1, by omega⟩
      have e1 : 2 ^ (s + 1) / 2 = 2 ^ s := by rw [Nat.pow_succ]; omega
      have e2 : n / 2 ^ (s + 1) = n / 2 ^ s / 2 := by rw [Nat.pow_succ, Nat.div_div_eq_div_mul]
      rw [e1]
      rw [e2] at hov
      have hpp := pow_halves m n (2 ^ s)
      have hbt : 2 ^ s ≤ 2 ^ 40 := Nat.pow_le_pow_right (by omega) (by omega)
      have hbt0 := Nat.two_pow_pos s
      have hdn := Nat.div_le_self n (2 ^ s)
      obtain ⟨bt, ebt⟩ : ∃ bt, 2 ^ s = bt := ⟨_, rfl⟩
      rw [ebt] at hov hpp hbt hbt0 hdn ⊢
      have hdi : (n : Int) / (bt : Int) = ((n / bt : Nat) : Int) := (Int.natCast_ediv n bt).symm
      obtain ⟨d, ed⟩ : ∃ d, n / bt = d := ⟨_, rfl⟩
      rw [ed] at hov hpp hdn hdi
      have hfin : m ^ d = m ^ (2 * (d / 2)) * m ^ (d % 2) := by rw [← Nat.pow_add]; congr 1; omega
      have hl1 := limbs_pow_le m n (d / 2) (by omega) hb
      have hl2 := limbs_pow_le m n (2 * (d / 2)) (by omega) hb
      have hb0 : ((bt : Int) == 0) = false := by simp; omega
      have Ebt := Lib.hid ebt
      have Ed := Lib.hid ed
      have Hpp := Lib.hid hpp
      have Hfin := Lib.hid hfin
      have hmw := hv.mono hbel
      clear hpp hfin ed e1 e2 ebt
      have hw1 : (0 : Int) < (bt : Int) := by omega
      go_wp2_with fail
      refine (rmul_calls _ _ _ _ _ hov hov (by omega) (by omega)).mono ?_
      rintro e w2 ⟨v2, rfl, hv2, hf2, b2⟩
      rw [Hpp.out] at hv2
      have hm2 := hmw.mono b2
      rcases Nat.mod_two_eq_zero_or_one d with hpar | hpar
      · have hpi : ((d : Int) % 2 == 1) = false := by simp; omega
        have hv2' : Num w2 v2 (m ^ d) := by rw [Hfin.out, hpar, Nat.pow_zero, Nat.mul_one]; exact hv2
        clear hpar
        go_wp2
        go_roundw
        case rel =>
          refine ⟨s, by omega, ?_, ?_, hf2.mono hbel.size, below_trans hbel b2⟩
          · rw [Ebt.out]; exact congrArg (Value.int .i64) (by omega)
          · rw [Ebt.out, Ed.out]; exact hv2'
        case measure => simp [intOf]; omega
      · have hpi : ((d : Int) % 2 == 1) = true := by simp; omega
        have hv2' : m ^ d = m ^ (2 * (d / 2)) * m := by rw [Hfin.out, hpar, Nat.pow_one]
        have Hv2 := Lib.hid hv2'
        clear hpar hv2'
        go_wp2_with fail
        refine (rmul_calls _ _ _ _ _ hv2 hm2 (by omega) (by omega)).mono ?_
        rintro e w3 ⟨v3, rfl, hv3, hf3, b3⟩
        rw [← Hv2.out] at hv3
        have b23 := below_trans b2 b3
        go_wp2
        go_roundw
        case rel =>
          refine ⟨s, by omega, ?_, ?_, hf3.mono (below_trans hbel b2).size, below_trans hbel b23⟩
          · rw [Ebt.out]; exact congrArg (Value.int .i64) (by omega)
          · rw [Ebt.out, Ed.out]; exact hv3
        case measure => simp [intOf]; omega


end Go.Proofs

open Go.RowKit
namespace Go.Proofs
set_option linter.unusedVariables false
set_option linter.unusedSimpArgs false

end Go.Proofs
