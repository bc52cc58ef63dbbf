/- The reference's against, floor, binary. -/
import Derived.Test.YtgdgdaofmjnepaaDoorTRef
import Derived.Test.YtgdgdaofmjnepaaDoorToneB
import Derived.Test.YtgdgdaofmjnepaaDoorRShift
import Derived.Test.YtgdgdaofmjnepaaDoorRCmp
import Derived.Test.YtgdgdaofmjnepaaDoorRBits
open Go.RowKit Go.Deep
namespace Go.Proofs
set_option linter.unusedVariables false

theorem ragainst_calls (v1 v2 : Value) (A B : Nat) (m r : Int) (w : World) (h1 : Num w v1 A) (h2 : Num w v2 B) (hm : m.natAbs ≤ 300000000) (lA : (limbs A).length ≤ 262000) (lB : (limbs B).length ≤ 262000)
    (hr : cmpInt (A * 2 ^ (-m).toNat) (B * 2 ^ m.toNat) = r) :
    Calls Tryd.prog 75 #[v1, v2, .int .i64 m] w (RetInt w r) := by
  by_cases h0 : 0 ≤ m
  · obtain ⟨n, rfl⟩ : ∃ n : Nat, m = (n : Int) := ⟨m.toNat, by omega⟩
    have l1 := limbs_length_mul B (2 ^ n)
    have l2 := limbs_two n
    rw [show (-(n : Int)).toNat = 0 by omega, Int.toNat_natCast, Nat.pow_zero, Nat.mul_one] at hr
    have HR := Lib.hid hr
    have l3 : n ≤ 300000000 := by omega
    clear hr hm h0
    go_enter Tryd.func75, Tryd.ntmps75
    go_wp2_with fail
    refine (rleft_calls v2 B n _ _ h2 (by rfl) (by omega) (by omega)).mono ?_
    rintro e w1 ⟨v3, rfl, h3, _, b1⟩
    replace h1 := h1.mono b1
    go_wp2_with fail
    refine (rcmp_calls v1 v3 A (B * 2 ^ n) _ r h1 h3 HR.out (by omega) (by omega)).mono ?_
    rintro e w2 ⟨rfl, b2⟩
    go_wp2
    go_ret
    exact ⟨rfl, below_trans b1 b2⟩
  · obtain ⟨n, rfl⟩ : ∃ n : Nat, m = -(n : Int) := ⟨m.natAbs, by omega⟩
    have l1 := limbs_length_mul A (2 ^ n)
    have l2 := limbs_two n
    rw [Int.neg_neg, show (-(n : Int)).toNat = 0 by omega, Int.toNat_natCast, Nat.pow_zero, Nat.mul_one] at hr
    have HR := Lib.hid hr
    have l3 : n ≤ 300000000 := by omega
    have l4 : 0 < n := by omega
    clear hr hm h0
    go_enter Tryd.func75, Tryd.ntmps75
    go_wp2_with fail
    refine (rleft_calls v1 A n _ _ h1 (by omega) (by omega) (by omega)).mono ?_
    rintro e w1 ⟨v3, rfl, h3, _, b1⟩
    replace h2 := h2.mono b1
    go_wp2_with fail
    refine (rcmp_calls v3 v2 (A * 2 ^ n) B _ r h3 h2 HR.out (by omega) (by omega)).mono ?_
    rintro e w2 ⟨rfl, b2⟩
    go_wp2
    go_ret
    exact ⟨rfl, below_trans b1 b2⟩

/-- the reference's floor: a quotient that is rounded down -/
theorem rfloor_calls (a b : Int) (w : World) (ha : -9223372036854775807 ≤ a ∧ a ≤ 9223372036854775807) (hb : 1 ≤ b ∧ b ≤ 9223372036854775807) :
    Calls Tryd.prog 104 #[.int .i64 a, .int .i64 b] w fun e w' => e = .returned (.int .i64 (a / b)) ∧ w' = w := by
  have hp := parted_eq a b (by omega)
  have hb0 : (b == 0) = false := by rw [beq_eq_false_iff_ne]; omega
  have h1 : (a.tdiv b).natAbs ≤ a.natAbs := by
    rw [Int.natAbs_tdiv]
    exact Nat.div_le_self _ _
  have k1 : wrap64 (a.tdiv b) = a.tdiv b := by unfold wrap64; omega
  obtain ⟨q, hq⟩ : ∃ q, a / b = q := ⟨_, rfl⟩
  rw [hq] at hp ⊢
  by_cases hr : a.tmod b < 0
  · rw [if_pos hr] at hp
    have HP := Lib.hid hp
    clear hp hq
    go_enter Tryd.func104, Tryd.ntmps104
    go_wp2
    go_ret
    exact ⟨ret_num HP.out, rfl⟩
  · rw [if_neg hr] at hp
    have HP := Lib.hid hp
    clear hp hq
    go_enter Tryd.func104, Tryd.ntmps104
    go_wp2
    go_ret
    exact ⟨ret_num HP.out, rfl⟩

set_option maxRecDepth 100000 in
theorem rbinary_calls (v1 v2 : Value) (A B : Nat) (d : Int) (w : World) (h1 : Num w v1 A) (h2 : Num w v2 B) (hA : A ≠ 0) (hB : B ≠ 0) (hd : 1 ≤ d ∧ d ≤ 24) (lA : (limbs A).length ≤ 262000) (lB : (limbs B).length ≤ 262000) :
    Calls Tryd.prog 72 #[v1, v2, .int .i64 d] w fun e w' => e = .returned (.int .i64 (flr A B / d)) ∧ Below w.heap.size w w' := by
  have bA := bitlen_le_limbs A
  have bB := bitlen_le_limbs B
  obtain ⟨s1, s2, s3⟩ := flr_spec hA hB
  have fu : flr A B ≤ (bitlen A : Int) - bitlen B := by unfold flr; split <;> omega
  have test : ∀ m : Int, 0 ≤ cmpInt (A * 2 ^ (-((m + 1) * d)).toNat) (B * 2 ^ ((m + 1) * d).toNat) ↔ m + 1 ≤ flr A B / d := by
    intro m
    rw [← leP_cmp, leP_iff hA hB, Int.le_ediv_iff_mul_le (by omega)]
  have start : ((bitlen A : Int) - bitlen B - 1) / d ≤ flr A B / d := Int.ediv_le_ediv (by omega) s3
  have q1 : flr A B / d < 8388700 := Int.ediv_lt_of_lt_mul (by omega) (by omega)
  have q2 : -8388700 ≤ ((bitlen A : Int) - bitlen B - 1) / d := (Int.le_ediv_iff_mul_le (by omega)).2 (by omega)
  have FL := fun w : World => rfloor_calls ((bitlen A : Int) - bitlen B - 1) d w (by omega) (by omega)
  have L1 := fun (v : Value) (w : World) (h : Num w v A) => rbits_calls v A w h (by omega)
  have L2 := fun (v : Value) (w : World) (h : Num w v B) => rbits_calls v B w h (by omega)
  clear s1 s2 s3 fu
  generalize flr A B / d = q at *
  generalize ((bitlen A : Int) - bitlen B - 1) / d = m0 at *
  generalize bitlen A = bm at *
  generalize bitlen B = bn at *
  have HFL := Lib.hid FL
  have HL1 := Lib.hid L1
  have HL2 := Lib.hid L2
  have HT := Lib.hid test
  have n1 : (bm : Int) ≤ 8388608 := by omega
  have n2 : (bn : Int) ≤ 8388608 := by omega
  clear FL L1 L2 test bA bB hA hB
  go_enter Tryd.func72, Tryd.ntmps72
  go_wp2_with fail
  refine (HL1.out _ _ h1).mono ?_
  rintro e w1 ⟨rfl, rfl⟩
  go_wp2_with fail
  refine (HL2.out _ _ h2).mono ?_
  rintro e w2 ⟨rfl, rfl⟩
  go_wp2_with fail
  refine (HFL.out _).mono ?_
  rintro e w3 ⟨rfl, rfl⟩
  go_wp2
  go_loopw [7] (fun mv wr => ∃ m : Int, mv = .int .i64 m ∧ m0 ≤ m ∧ m ≤ q ∧ Below w3.heap.size w3 wr)
    (fun mv _ => (q - intOf mv).toNat)
  case atStart => exact ⟨m0, rfl, by omega, start, Below.refl _ _⟩
  case round =>
    obtain ⟨m, rfl, g1, g2, hbel⟩ := hrel
    have h3 := h1.mono hbel
    have h4 := h2.mono hbel
    have hn : ((m + 1) * d).natAbs ≤ 8388710 * 24 := by
      rw [Int.natAbs_mul]
      exact Nat.mul_le_mul (by omega) (by omega)
    have hw : IntKind.i64.wrap ((m + 1) * d) = (m + 1) * d := IntWalk.i64_in _ (by omega)
    have ht := HT.out m
    obtain ⟨c, hc⟩ : ∃ c, cmpInt (A * 2 ^ (-((m + 1) * d)).toNat) (B * 2 ^ ((m + 1) * d).toNat) = c := ⟨_, rfl⟩
    rw [hc] at ht
    have HC := Lib.hid hc
    clear hc
    by_cases hz : 0 ≤ c
    · have g3 := ht.1 hz
      have HN := Lib.hid hn
      have HTT := Lib.hid ht
      clear ht hn
      go_wp2_with fail
      refine (ragainst_calls v1 v2 A B _ c _ h3 h4 (by have := HN.out; omega) lA lB HC.out).mono ?_
      rintro e w4 ⟨rfl, b4⟩
      go_wp2
      go_roundw
      case rel => exact ⟨m + 1, rfl, by omega, by omega, below_trans hbel b4⟩
      case measure => simp [intOf]; omega
    · have g3 : m = q := by omega
      have HN := Lib.hid hn
      have HG := Lib.hid g3
      clear ht hn g3
      go_wp2_with fail
      refine (ragainst_calls v1 v2 A B _ c _ h3 h4 (by have := HN.out; omega) lA lB HC.out).mono ?_
      rintro e w4 ⟨rfl, b4⟩
      go_wp2
      go_ret
      exact ⟨ret_num HG.out, below_trans hbel b4⟩

end Go.Proofs
