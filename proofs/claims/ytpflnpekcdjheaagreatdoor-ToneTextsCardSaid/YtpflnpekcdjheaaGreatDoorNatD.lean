/- nat.raise: a power. The exported functions of nat of two numbers: each returns the first error of its arguments, or, of valid ones, the number that the document names. nat.Root: the integer part of a root, of a valid number. nat.Shift, of a valid number. nat.Bits, nat.Uint64, of valid numbers; the reference: Small. -/
import Derived.Test.YtpflnpekcdjheaaGreatDoorTimes
import Derived.Test.YtpflnpekcdjheaaGreatDoorNatC
import Derived.Test.YtpflnpekcdjheaaGreatDoorNatB
import Derived.Test.YtpflnpekcdjheaaGreatDoorNatA
import Derived.Test.YtpflnpekcdjheaaGreatDoorRootLaw
import Derived.Test.YtpflnpekcdjheaaGreatDoorRefA
open Go.RowKit
namespace Go.Proofs
set_option linter.unusedVariables false
set_option linter.unusedSimpArgs false

set_option maxRecDepth 100000 in
theorem raise_calls (v : Value) (m n : Nat) (z : Int) (w : World) (hv : Num w v m) (hz : z = (n : Int)) (hb : (limbs m).length * n ≤ 400000000) (hl : (limbs m).length ≤ 400000000) (hn : n ≤ 1000000000) :
    Calls Tryz.prog 99 #[v, .int .i64 z] w (RetNum w (m ^ n)) := by
  subst hz
  have h1 := num_one w 93
  have hb1 := below_alloc w (.cells #[Value.int .u32 1] 93)
  go_enter Tryz.func99, Tryz.ntmps99
  go_wp2_with fail
  obtain ⟨w1, hw1⟩ : ∃ w1 : World, w1 = w.alloc (.cells #[Value.int .u32 1] 93) := ⟨_, rfl⟩
  rw [← hw1] at h1 hb1 ⊢
  have hv1 := hv.mono hb1
  clear hw1
  go_loopw [0, 1, 5] (fun av nv ov wr => ∃ (j t k : Nat), nv = .int .i64 k ∧ j + t * k = n ∧ (1 ≤ k → t ≤ n) ∧ Num wr av (m ^ t) ∧ Num wr ov (m ^ j) ∧ Fresh w.heap.size ov ∧ Below w.heap.size w wr ∧ k ≤ n)
    (fun _ nv _ _ => (intOf nv).toNat)
  case atStart => exact ⟨0, 1, n, rfl, by omega, fun h => h, by rw [Nat.pow_one]; exact hv1, by rw [Nat.pow_zero]; exact h1, Nat.le_refl _, hb1, Nat.le_refl _⟩
  case round =>
    obtain ⟨j, t, k, rfl, hjt, htn, hav, hov, hfr, hbel, hkn⟩ := hrel
    have Hjt := Lib.hid hjt
    have Htn := Lib.hid htn
    clear hjt htn
    by_cases h0 : 0 < k
    · have htn := Htn.out h0
      have hjn : j ≤ n := by have := Hjt.out; omega
      have lt1 : (limbs (m ^ t)).length ≤ 1000000000 := by
        have h1 := limbs_length_pow m t
        have h2 := Nat.mul_le_mul_left (limbs m).length htn
        omega
      have lj1 : (limbs (m ^ j)).length ≤ 1000000000 := by
        have h1 := limbs_length_pow m j
        have h2 := Nat.mul_le_mul_left (limbs m).length hjn
        omega
      have e1 := and_one_i64 k (by omega)
      have hk2 : (k : Int) / 2 = ((k / 2 : Nat) : Int) := by omega
      have hdm := Nat.div_add_mod k 2
      have hmp : m ^ t * m ^ t = m ^ (2 * t) := by rw [← Nat.pow_add, Nat.two_mul]
      have hop : m ^ j * m ^ t = m ^ (j + t) := by rw [← Nat.pow_add]
      have Hmp := Lib.hid hmp
      have Hop := Lib.hid hop
      have Hk2 := Lib.hid hk2
      clear hmp hop hk2 htn
      rcases Nat.mod_two_eq_zero_or_one k with hpar | hpar
      · rw [hpar] at e1
        have hk1 : 1 < k := by omega
        have hrel : j + 2 * t * (k / 2) = n := by rw [← Hjt.out, Nat.mul_comm 2 t, Nat.mul_assoc, show 2 * (k / 2) = k by omega]
        have htn2 : 2 * t ≤ n := by
          have := Nat.le_mul_of_pos_right (2 * t) (show 0 < k / 2 by omega)
          omega
        have Hrel := Lib.hid hrel
        clear hrel hpar hdm
        go_wp2_with (go_at_call 85; refine (times_calls _ _ _ _ _ hav hav lt1 lt1).mono ?_; rintro e w2 ⟨v2, rfl, hv2, hf2, hb2⟩)
        go_roundw
        case rel => exact ⟨j, 2 * t, k / 2, congrArg (Value.int .i64) (by omega), Hrel.out, fun _ => htn2, by rw [← Hmp.out]; exact hv2, hov.mono hb2, hfr, below_trans hbel hb2, by omega⟩
        case measure => simp [intOf]; omega
      · rw [hpar] at e1
        by_cases hk1 : 1 < k
        · have hrel : j + t + 2 * t * (k / 2) = n := by
            rw [← Hjt.out, Nat.mul_comm 2 t, Nat.mul_assoc, Nat.add_assoc]
            congr 1
            have : t * k = t * (2 * (k / 2) + 1) := by congr 1; omega
            rw [this, Nat.mul_add]; omega
          have htn2 : 2 * t ≤ n := by
            have := Nat.le_mul_of_pos_right (2 * t) (show 0 < k / 2 by omega)
            omega
          have Hrel := Lib.hid hrel
          clear hrel hpar hdm
          go_wp2_with fail
          refine (times_calls _ _ _ _ _ hov hav lj1 lt1).mono ?_
          rintro e w2 ⟨v2, rfl, hv2, hf2, hb2⟩
          have hav2 := hav.mono hb2
          go_wp2_with fail
          refine (times_calls _ _ _ _ _ hav2 hav2 lt1 lt1).mono ?_
          rintro e w3 ⟨v3, rfl, hv3, hf3, hb3⟩
          go_wp2
          go_roundw
          case rel => exact ⟨j + t, 2 * t, k / 2, congrArg (Value.int .i64) (by omega), Hrel.out, fun _ => htn2, by rw [← Hmp.out]; exact hv3, by rw [← Hop.out]; exact hv2.mono hb3, hf2.mono hbel.size, below_trans (below_trans hbel hb2) hb3, by omega⟩
          case measure => simp [intOf]; omega
        · obtain rfl : k = 1 := by omega
          have hrel : j + t + t * 0 = n := by rw [← Hjt.out]; omega
          have Hrel := Lib.hid hrel
          clear hrel hpar hdm
          go_wp2_with (go_at_call 85; refine (times_calls _ _ _ _ _ hov hav lj1 lt1).mono ?_; rintro e w2 ⟨v2, rfl, hv2, hf2, hb2⟩)
          go_roundw
          case rel => exact ⟨j + t, t, 0, rfl, Hrel.out, fun h => (Nat.not_lt_zero 0 h).elim, hav.mono hb2, by rw [← Hop.out]; exact hv2, hf2.mono hbel.size, below_trans hbel hb2, by omega⟩
          case measure => simp [intOf]
    · obtain rfl : k = 0 := by omega
      have hj : j = n := by have := Hjt.out; omega
      have Hj := Lib.hid hj
      clear hj
      go_wp2
      go_ret
      rw [Hj.out] at hov
      exact ⟨_, rfl, hov, hfr, hbel⟩

end Go.Proofs

open Go.RowKit
namespace Go.Proofs
set_option linter.unusedVariables false
set_option linter.unusedSimpArgs false

theorem row_two (w : World) (x y : Nat) (e : Nat) (hx : x < 4294967296) (hy : y < 4294967296) : Row (w.alloc (.cells #[Value.int .u32 (x : Int), Value.int .u32 (y : Int)] e)) w.heap.size [x, y] := by
  refine ⟨by intro z hz; simp at hz; omega, e, ?_⟩
  rw [heap_alloc_new]; rfl

theorem ok_one (a : Nat) (h : (limbs a).length ≤ 262144) : firstErr [limbs a] = 0 := by
  simp [firstErr, chk_limbs, show ¬ 262144 < (limbs a).length by omega]
theorem ok_two (a b : Nat) (h : (limbs a).length ≤ 262144) (k : (limbs b).length ≤ 262144) : firstErr [limbs a, limbs b] = 0 := by
  simp [firstErr, chk_limbs, show ¬ 262144 < (limbs a).length by omega, show ¬ 262144 < (limbs b).length by omega]
theorem ok_three (a b c : Nat) (h : (limbs a).length ≤ 262144) (k : (limbs b).length ≤ 262144) (l : (limbs c).length ≤ 262144) : firstErr [limbs a, limbs b, limbs c] = 0 := by
  simp [firstErr, chk_limbs, show ¬ 262144 < (limbs a).length by omega, show ¬ 262144 < (limbs b).length by omega, show ¬ 262144 < (limbs c).length by omega]

/-- Of returns the number -/
theorem of_calls (n : Nat) (z : Int) (w : World) (hz : z = (n : Int)) (hn : n < 18446744073709551616) :
    Calls Tryz.prog 56 #[.int .u64 z] w (RetNum w n) := by
  subst hz
  have hlo : (n : Int) % 4294967296 = ((n % 4294967296 : Nat) : Int) := rfl
  have hhi : (n : Int) / 4294967296 = ((n / 4294967296 : Nat) : Int) := rfl
  have hhi2 : (n : Int) / 4294967296 % 4294967296 = ((n / 4294967296 : Nat) : Int) := by omega
  have hr := row_two w (n % 4294967296) (n / 4294967296) 93 (by omega) (by omega)
  have hb := below_alloc w (.cells #[Value.int .u32 ((n % 4294967296 : Nat) : Int), Value.int .u32 ((n / 4294967296 : Nat) : Int)] 93)
  have hs := hr.whole (by simp [maxLen])
  have hval : val [n % 4294967296, n / 4294967296] = n := by simp only [val]; omega
  generalize n % 4294967296 = lo at *
  generalize n / 4294967296 = hi at *
  go_enter Tryz.func56, Tryz.ntmps56
  go_wp2_with fail
  refine (trim_calls _ _ 2 _ _ hs rfl).mono ?_
  rintro e w1 ⟨k, rfl, hv, rfl⟩
  rw [hval] at hv
  go_wp2
  go_ret
  exact ⟨_, rfl, hv, Nat.le_refl _, hb⟩

theorem mul_err (v1 v2 : Value) (x1 x2 : List Nat) (w : World) (h1 : Raw w v1 x1) (h2 : Raw w v2 x2) (he : firstErr [x1, x2] ≠ 0) :
    Calls Tryz.prog 58 #[v1, v2] w fun e w' => e = .returned (.tuple #[.slice none 0 0, .int .i64 (firstErr [x1, x2])]) ∧ Below w.heap.size w w' := by
  have t1 : (firstErr [x1, x2] != 0) = true := by rw [bne_iff_ne]; exact he
  clear he
  have g1 := h1
  obtain ⟨ad1, c1, rfl, s1⟩ := g1
  have g2 := h2
  obtain ⟨ad2, c2, rfl, s2⟩ := g2
  go_enter Tryz.func58, Tryz.ntmps58
  go_wp2_with fail
  refine (valid2 _ _ x1 x2 w h1 h2).mono ?_
  rintro e w' ⟨rfl, rfl⟩
  go_wp2
  go_ret2
  exact ⟨rfl, below_alloc _ _⟩



theorem cmp_err (v1 v2 : Value) (x1 x2 : List Nat) (w : World) (h1 : Raw w v1 x1) (h2 : Raw w v2 x2) (he : firstErr [x1, x2] ≠ 0) :
    Calls Tryz.prog 55 #[v1, v2] w fun e w' => e = .returned (.tuple #[.int .i64 0, .int .i64 (firstErr [x1, x2])]) ∧ Below w.heap.size w w' := by
  have t1 : (firstErr [x1, x2] != 0) = true := by rw [bne_iff_ne]; exact he
  clear he
  have g1 := h1
  obtain ⟨ad1, c1, rfl, s1⟩ := g1
  have g2 := h2
  obtain ⟨ad2, c2, rfl, s2⟩ := g2
  go_enter Tryz.func55, Tryz.ntmps55
  go_wp2_with fail
  refine (valid2 _ _ x1 x2 w h1 h2).mono ?_
  rintro e w' ⟨rfl, rfl⟩
  go_wp2
  go_ret2
  exact ⟨rfl, below_alloc _ _⟩


theorem bits_err (v1 : Value) (x1 : List Nat) (w : World) (h1 : Raw w v1 x1) (he : firstErr [x1] ≠ 0) :
    Calls Tryz.prog 53 #[v1] w fun e w' => e = .returned (.tuple #[.int .i64 0, .int .i64 (firstErr [x1])]) ∧ Below w.heap.size w w' := by
  have t1 : (firstErr [x1] != 0) = true := by rw [bne_iff_ne]; exact he
  clear he
  have g1 := h1
  obtain ⟨ad1, c1, rfl, s1⟩ := g1
  go_enter Tryz.func53, Tryz.ntmps53
  go_wp2_with fail
  refine (valid1 _ x1 w h1).mono ?_
  rintro e w' ⟨rfl, rfl⟩
  go_wp2
  go_ret2
  exact ⟨rfl, below_alloc _ _⟩


theorem shift_err (v1 : Value) (x1 : List Nat) (z : Int) (w : World) (h1 : Raw w v1 x1) (he : firstErr [x1] ≠ 0) :
    Calls Tryz.prog 54 #[v1, .int .i64 z] w fun e w' => e = .returned (.tuple #[.slice none 0 0, .int .i64 (firstErr [x1])]) ∧ Below w.heap.size w w' := by
  have t1 : (firstErr [x1] != 0) = true := by rw [bne_iff_ne]; exact he
  clear he
  have g1 := h1
  obtain ⟨ad1, c1, rfl, s1⟩ := g1
  go_enter Tryz.func54, Tryz.ntmps54
  go_wp2_with fail
  refine (valid1 _ x1 w h1).mono ?_
  rintro e w' ⟨rfl, rfl⟩
  go_wp2
  go_ret2
  exact ⟨rfl, below_alloc _ _⟩

theorem pow_err (v1 : Value) (x1 : List Nat) (z : Int) (w : World) (h1 : Raw w v1 x1) (he : firstErr [x1] ≠ 0) :
    Calls Tryz.prog 57 #[v1, .int .i64 z] w fun e w' => e = .returned (.tuple #[.slice none 0 0, .int .i64 (firstErr [x1])]) ∧ Below w.heap.size w w' := by
  have t1 : (firstErr [x1] != 0) = true := by rw [bne_iff_ne]; exact he
  clear he
  have g1 := h1
  obtain ⟨ad1, c1, rfl, s1⟩ := g1
  go_enter Tryz.func57, Tryz.ntmps57
  go_wp2_with fail
  refine (valid1 _ x1 w h1).mono ?_
  rintro e w' ⟨rfl, rfl⟩
  go_wp2
  go_ret2
  exact ⟨rfl, below_alloc _ _⟩





theorem mul_ok (v1 v2 : Value) (a b : Nat) (w : World) (h1 : Num w v1 a) (h2 : Num w v2 b) (hl : (limbs a).length + (limbs b).length ≤ 262144) :
    Calls Tryz.prog 58 #[v1, v2] w (Got w (a * b) 0) := by
  have t1 : (firstErr [limbs a, limbs b] != 0) = false := by rw [bne_eq_false_iff_eq]; exact ok_two a b (by omega) (by omega)
  have hlm := limbs_length_mul a b
  have t2 : decide (262145 < ((limbs a).length : Int) + ((limbs b).length : Int)) = false := by rw [decide_eq_false_iff_not]; omega
  have k1 := h1.mono (below_alloc w (.cells #[v1, v2] 67))
  have k2 := h2.mono (below_alloc w (.cells #[v1, v2] 67))
  have hb1 := below_alloc w (.cells #[v1, v2] 67)
  have g1 := h1
  have g2 := h2
  obtain ⟨ad1, c1, rfl, s1⟩ := g1
  obtain ⟨ad2, c2, rfl, s2⟩ := g2
  go_enter Tryz.func58, Tryz.ntmps58
  go_wp2_with (go_at_call 77; refine (valid2 _ _ (limbs a) (limbs b) w h1.raw h2.raw).mono ?_; rintro e w' ⟨rfl, rfl⟩)
  go_wp2_with fail
  refine (times_calls _ _ a b _ k1 k2 (by omega) (by omega)).mono ?_
  rintro e w1 ⟨v, rfl, hv, hf, hb⟩
  go_wp2_with fail
  refine (short_calls v (a * b) _ _ hv hf).mono ?_
  rw [if_neg (by omega), if_neg (by omega)]
  rintro e w2 ⟨v', rfl, hv', hf', rfl⟩
  go_wp2
  go_ret2
  exact ⟨_, rfl, hv', hf'.mono hb1.size, below_trans hb1 hb⟩

theorem cmp_ok (v1 v2 : Value) (a b : Nat) (w : World) (h1 : Num w v1 a) (h2 : Num w v2 b) (hl : (limbs a).length ≤ 262144 ∧ (limbs b).length ≤ 262144) :
    Calls Tryz.prog 55 #[v1, v2] w fun e w' => e = .returned (.tuple #[.int .i64 (cmpInt a b), .int .i64 0]) ∧ Below w.heap.size w w' := by
  have t1 : (firstErr [limbs a, limbs b] != 0) = false := by rw [bne_eq_false_iff_eq]; exact ok_two a b (by omega) (by omega)
  have k1 := h1.mono (below_alloc w (.cells #[v1, v2] 67))
  have k2 := h2.mono (below_alloc w (.cells #[v1, v2] 67))
  have hb1 := below_alloc w (.cells #[v1, v2] 67)
  have g1 := h1
  have g2 := h2
  obtain ⟨ad1, c1, rfl, s1⟩ := g1
  obtain ⟨ad2, c2, rfl, s2⟩ := g2
  go_enter Tryz.func55, Tryz.ntmps55
  go_wp2_with (go_at_call 77; refine (valid2 _ _ (limbs a) (limbs b) w h1.raw h2.raw).mono ?_; rintro e w' ⟨rfl, rfl⟩)
  refine (compare_calls _ _ a b _ _ k1 k2 rfl (by omega) (by omega)).mono ?_
  rintro e w1 ⟨rfl, hb⟩
  go_wp2
  go_ret2
  exact ⟨rfl, below_trans hb1 hb⟩


end Go.Proofs

open Go.RowKit
namespace Go.Proofs
set_option linter.unusedVariables false
set_option linter.unusedSimpArgs false

theorem limbs_two_pow (c : Nat) : (limbs (2 ^ c)).length ≤ c + 1 := by
  refine limbs_length_le (Nat.lt_of_lt_of_le (Nat.pow_lt_pow_right (by omega) (show c < 32 * (c + 1) by omega)) ?_)
  rw [Nat.pow_mul]
  exact Nat.pow_le_pow_left (by omega) _

theorem bitlen_limbs_le (a : Nat) : bitlen a ≤ 32 * (limbs a).length := by
  refine bitlen_of_lt ?_
  rw [Nat.pow_mul]
  exact lt_pow_length a

theorem one_limb (w : World) (e : Nat) : Num (w.alloc (.cells #[Value.int .u32 1] e)) (.slice (some ⟨w.heap.size, 0, none⟩) 1 1) 1 := num_one w e

end Go.Proofs

open Go.RowKit
namespace Go.Proofs
set_option linter.unusedVariables false
set_option linter.unusedSimpArgs false

set_option maxRecDepth 100000 in
theorem shift_up (v : Value) (a n : Nat) (z : Int) (w : World) (h1 : Num w v a) (hz : z = (n : Int)) (ha : a ≠ 0) (hn : n ≤ 8388608) (hl : (limbs a).length ≤ 262144) (hr : (limbs (a * 2 ^ n)).length ≤ 262144) :
    Calls Tryz.prog 54 #[v, .int .i64 z] w (Got w (a * 2 ^ n) 0) := by
  subst hz
  have t1 : (firstErr [limbs a] != 0) = false := by rw [bne_eq_false_iff_eq]; exact ok_one a (by omega)
  have hal : (limbs a).length ≠ 0 := fun e => ha (limbs_eq_nil.mp (List.eq_nil_of_length_eq_zero e))
  have t4 : (((limbs a).length : Int) == 0) = false := by rw [beq_eq_false_iff_ne]; omega
  have k1 := h1.mono (below_alloc w (.cells #[v] 67))
  have hb1 := below_alloc w (.cells #[v] 67)
  have g1 := h1
  obtain ⟨ad1, c1, rfl, s1⟩ := g1
  obtain ⟨R, eR⟩ : ∃ R, a * 2 ^ n = R := ⟨_, rfl⟩
  have U := up_calls (.slice ad1 (limbs a).length c1) a n (n : Int) _ k1 rfl (by omega) (by omega)
  rw [eR] at U hr ⊢
  clear eR
  go_enter Tryz.func54, Tryz.ntmps54
  go_wp2_with (go_at_call 77; refine (valid1 _ (limbs a) w h1.raw).mono ?_; rintro e w' ⟨rfl, rfl⟩)
  refine U.mono ?_
  clear U
  rintro e w1 ⟨v, rfl, hv, hf, hb⟩
  go_wp2_with fail
  refine (short_calls v R _ _ hv hf).mono ?_
  rw [if_neg (by omega), if_neg (by omega)]
  rintro e w2 ⟨v', rfl, hv', hf', rfl⟩
  go_wp2
  go_ret2
  exact ⟨_, rfl, hv', hf'.mono hb1.size, below_trans hb1 hb⟩

set_option maxRecDepth 100000 in
theorem shift_over (v : Value) (a n : Nat) (z : Int) (w : World) (h1 : Num w v a) (hz : z = (n : Int)) (ha : a ≠ 0) (hn : n ≤ 8388608) (hl : (limbs a).length ≤ 262144) (hr : 262144 < (limbs (a * 2 ^ n)).length) :
    Calls Tryz.prog 54 #[v, .int .i64 z] w (Got w 0 3) := by
  subst hz
  have t1 : (firstErr [limbs a] != 0) = false := by rw [bne_eq_false_iff_eq]; exact ok_one a (by omega)
  have hal : (limbs a).length ≠ 0 := fun e => ha (limbs_eq_nil.mp (List.eq_nil_of_length_eq_zero e))
  have t4 : (((limbs a).length : Int) == 0) = false := by rw [beq_eq_false_iff_ne]; omega
  have k1 := h1.mono (below_alloc w (.cells #[v] 67))
  have hb1 := below_alloc w (.cells #[v] 67)
  have g1 := h1
  obtain ⟨ad1, c1, rfl, s1⟩ := g1
  obtain ⟨R, eR⟩ : ∃ R, a * 2 ^ n = R := ⟨_, rfl⟩
  have U := up_calls (.slice ad1 (limbs a).length c1) a n (n : Int) _ k1 rfl (by omega) (by omega)
  rw [eR] at U hr
  clear eR
  go_enter Tryz.func54, Tryz.ntmps54
  go_wp2_with (go_at_call 77; refine (valid1 _ (limbs a) w h1.raw).mono ?_; rintro e w' ⟨rfl, rfl⟩)
  refine U.mono ?_
  clear U
  rintro e w1 ⟨v, rfl, hv, hf, hb⟩
  go_wp2_with fail
  refine (short_calls v R _ _ hv hf).mono ?_
  rw [if_pos (by omega), if_pos (by omega)]
  rintro e w2 ⟨v', rfl, hv', hf', rfl⟩
  go_wp2
  go_ret2
  exact ⟨_, rfl, hv', hf'.mono hb1.size, below_trans hb1 hb⟩

set_option maxRecDepth 100000 in
theorem shift_down (v : Value) (a n : Nat) (z : Int) (w : World) (h1 : Num w v a) (hz : z = -(n : Int)) (ha : a ≠ 0) (hn : n < 8388608) (hn0 : 1 ≤ n) (hl : (limbs a).length ≤ 262144) :
    Calls Tryz.prog 54 #[v, .int .i64 z] w (Got w (a / 2 ^ n) 0) := by
  have hz2 : -z = (n : Int) := by omega
  have t1 : (firstErr [limbs a] != 0) = false := by rw [bne_eq_false_iff_eq]; exact ok_one a (by omega)
  have hal : (limbs a).length ≠ 0 := fun e => ha (limbs_eq_nil.mp (List.eq_nil_of_length_eq_zero e))
  have t4 : (((limbs a).length : Int) == 0) = false := by rw [beq_eq_false_iff_ne]; omega
  have k1 := h1.mono (below_alloc w (.cells #[v] 67))
  have hb1 := below_alloc w (.cells #[v] 67)
  have g1 := h1
  obtain ⟨ad1, c1, rfl, s1⟩ := g1
  have t5 : ¬ z ≤ -8388608 := by omega
  have t6 : z < 0 := by omega
  clear hz
  obtain ⟨R, eR⟩ : ∃ R, a / 2 ^ n = R := ⟨_, rfl⟩
  have U := down_calls (.slice ad1 (limbs a).length c1) a n (n : Int) _ k1 rfl (by omega) (by omega)
  rw [eR] at U ⊢
  clear eR
  go_enter Tryz.func54, Tryz.ntmps54
  go_wp2_with (go_at_call 77; refine (valid1 _ (limbs a) w h1.raw).mono ?_; rintro e w' ⟨rfl, rfl⟩)
  refine U.mono ?_
  clear U
  rintro e w1 ⟨v, rfl, hv, hf, hb⟩
  go_wp2
  go_ret2
  exact ⟨_, rfl, hv, hf.mono hb1.size, below_trans hb1 hb⟩

theorem shift_none (v : Value) (a : Nat) (z : Int) (w : World) (h1 : Num w v a) (h : a = 0 ∨ z ≤ -8388608) (hl : (limbs a).length ≤ 262144) :
    Calls Tryz.prog 54 #[v, .int .i64 z] w (Got w 0 0) := by
  have t1 : (firstErr [limbs a] != 0) = false := by rw [bne_eq_false_iff_eq]; exact ok_one a (by omega)
  have hb1 := below_alloc w (.cells #[v] 67)
  have g1 := h1
  obtain ⟨ad1, c1, rfl, s1⟩ := g1
  by_cases ha : a = 0
  · have t4 : (((limbs a).length : Int) == 0) = true := by rw [ha, limbs_zero]; rfl
    clear ha h
    go_enter Tryz.func54, Tryz.ntmps54
    go_wp2_with (go_at_call 77; refine (valid1 _ (limbs a) w h1.raw).mono ?_; rintro e w' ⟨rfl, rfl⟩)
    go_ret2
    exact ⟨_, rfl, Num.nil _, trivial, hb1⟩
  · have hal : (limbs a).length ≠ 0 := fun e => ha (limbs_eq_nil.mp (List.eq_nil_of_length_eq_zero e))
    have t4 : (((limbs a).length : Int) == 0) = false := by rw [beq_eq_false_iff_ne]; omega
    have t5 : z ≤ -8388608 := by omega
    clear h
    go_enter Tryz.func54, Tryz.ntmps54
    go_wp2_with (go_at_call 77; refine (valid1 _ (limbs a) w h1.raw).mono ?_; rintro e w' ⟨rfl, rfl⟩)
    go_ret2
    exact ⟨_, rfl, Num.nil _, trivial, hb1⟩

theorem shift_long (v : Value) (a : Nat) (z : Int) (w : World) (h1 : Num w v a) (ha : a ≠ 0) (hz : 8388608 < z) (hl : (limbs a).length ≤ 262144) :
    Calls Tryz.prog 54 #[v, .int .i64 z] w (Got w 0 3) := by
  have t1 : (firstErr [limbs a] != 0) = false := by rw [bne_eq_false_iff_eq]; exact ok_one a (by omega)
  have hb1 := below_alloc w (.cells #[v] 67)
  have g1 := h1
  obtain ⟨ad1, c1, rfl, s1⟩ := g1
  have hal : (limbs a).length ≠ 0 := fun e => ha (limbs_eq_nil.mp (List.eq_nil_of_length_eq_zero e))
  have t4 : (((limbs a).length : Int) == 0) = false := by rw [beq_eq_false_iff_ne]; omega
  have t5 : ¬ z ≤ -8388608 := by omega
  have t6 : ¬ z < 0 := by omega
  go_enter Tryz.func54, Tryz.ntmps54
  go_wp2_with (go_at_call 77; refine (valid1 _ (limbs a) w h1.raw).mono ?_; rintro e w' ⟨rfl, rfl⟩)
  go_ret2
  exact ⟨_, rfl, Num.nil _, trivial, hb1⟩

end Go.Proofs

open Go.RowKit
namespace Go.Proofs
set_option linter.unusedVariables false
set_option linter.unusedSimpArgs false

theorem bits_ok (v : Value) (a : Nat) (w : World) (h1 : Num w v a) (hl : (limbs a).length ≤ 262144) :
    Calls Tryz.prog 53 #[v] w fun e w' => e = .returned (.tuple #[.int .i64 (bitlen a), .int .i64 0]) ∧ Below w.heap.size w w' := by
  have t1 : (firstErr [limbs a] != 0) = false := by rw [bne_eq_false_iff_eq]; exact ok_one a (by omega)
  have k1 := h1.mono (below_alloc w (.cells #[v] 67))
  have hb1 := below_alloc w (.cells #[v] 67)
  have g1 := h1
  obtain ⟨ad1, c1, rfl, s1⟩ := g1
  have L := length_calls _ a _ k1 (by omega)
  obtain ⟨bl, ebl⟩ : ∃ bl, bitlen a = bl := ⟨_, rfl⟩
  rw [ebl] at L ⊢
  clear ebl
  go_enter Tryz.func53, Tryz.ntmps53
  go_wp2_with (go_at_call 77; refine (valid1 _ (limbs a) w h1.raw).mono ?_; rintro e w' ⟨rfl, rfl⟩)
  refine L.mono ?_
  clear L
  rintro e wq ⟨rfl, rfl⟩
  go_wp2
  go_ret2
  exact ⟨rfl, hb1⟩



end Go.Proofs
