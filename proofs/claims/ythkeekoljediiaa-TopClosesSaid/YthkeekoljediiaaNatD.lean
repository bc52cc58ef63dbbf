/- nat.raise: a power. The exported functions of nat of two numbers: each returns the first error of its arguments, or, of valid ones, the number that the document names. nat.Root: the integer part of a root, of a valid number. nat.Shift, of a valid number. nat.Bits, nat.Uint64, of valid numbers; the reference: Small. -/
import Derived.Test.YthkeekoljediiaaTimes
import Derived.Test.YthkeekoljediiaaNatC
import Derived.Test.YthkeekoljediiaaNatB
import Derived.Test.YthkeekoljediiaaNatA
import Derived.Test.YthkeekoljediiaaRootLaw
import Derived.Test.YthkeekoljediiaaRefA
open Go.RowKit
namespace Go.Proofs
set_option linter.unusedVariables false
set_option linter.unusedSimpArgs false

set_option maxRecDepth 100000 in
theorem raise_calls (v : Value) (m n : Nat) (z : Int) (w : World) (hv : Num w v m) (hz : z = (n : Int)) (hb : (limbs m).length * n ≤ 400000000) (hl : (limbs m).length ≤ 400000000) (hn : n ≤ 1000000000) :
    Calls Try.prog 65 #[v, .int .i64 z] w (RetNum w (m ^ n)) := by
  subst hz
  have h1 := num_one w 109
  have hb1 := below_alloc w (.cells #[Value.int .u32 1] 109)
  go_enter Try.func65, Try.ntmps65
  go_wp2_with fail
  obtain ⟨w1, hw1⟩ : ∃ w1 : World, w1 = w.alloc (.cells #[Value.int .u32 1] 109) := ⟨_, rfl⟩
  rw [← hw1] at h1 hb1 ⊢
  have hv1 := hv.mono hb1
  clear hw1
  go_loopw [0, 1, 5] (fun av nv ov wr => ∃ (j t k : Nat), nv = .int .i64 k ∧ j + t * k = n ∧ (1 ≤ k → t ≤ n) ∧ Num wr av (m ^ t) ∧ Num wr ov (m ^ j) ∧ Fresh w.heap.size ov ∧ Below w.heap.size w wr ∧ k ≤ n)
    (fun _ nv _ _ => (intOf nv).toNat)
  case atStart => exact ⟨0, 1, n, rfl, by omega, fun h => h, by rw [Nat.pow_one]; exact hv1, by rw [Nat.pow_zero]; exact h1, Nat.le_refl _, hb1, Nat.le_refl _⟩
  case round =>
    obtain ⟨j, t, k, rfl, hjt, htn, hav, hov, hfr, hbel, hkn⟩ := hrel
    have Hjt := Lib.hid hjt
    have Htn := Lib.hid htn
    clear hjt htn
    by_cases h0 : 0 < k
    · have htn := Htn.out h0
      have hjn : j ≤ n := by have := Hjt.out; omega
      have lt1 : (limbs (m ^ t)).length ≤ 1000000000 := by
        have h1 := limbs_length_pow m t
        have h2 := Nat.mul_le_mul_left (limbs m).length htn
        omega
      have lj1 : (limbs (m ^ j)).length ≤ 1000000000 := by
        have h1 := limbs_length_pow m j
        have h2 := Nat.mul_le_mul_left (limbs m).length hjn
        omega
      have e1 := and_one_i64 k (by omega)
      have hk2 : (k : Int) / 2 = ((k / 2 : Nat) : Int) := by omega
      have hdm := Nat.div_add_mod k 2
      have hmp : m ^ t * m ^ t = m ^ (2 * t) := by rw [← Nat.pow_add, Nat.two_mul]
      have hop : m ^ j * m ^ t = m ^ (j + t) := by rw [← Nat.pow_add]
      have Hmp := Lib.hid hmp
      have Hop := Lib.hid hop
      have Hk2 := Lib.hid hk2
      clear hmp hop hk2 htn
      rcases Nat.mod_two_eq_zero_or_one k with hpar | hpar
      · rw [hpar] at e1
        have hk1 : 1 < k := by omega
        have hrel : j + 2 * t * (k / 2) = n := by rw [← Hjt.out, Nat.mul_comm 2 t, Nat.mul_assoc, show 2 * (k / 2) = k by omega]
        have htn2 : 2 * t ≤ n := by
          have := Nat.le_mul_of_pos_right (2 * t) (show 0 < k / 2 by omega)
          omega
        have Hrel := Lib.hid hrel
        clear hrel hpar hdm
        go_wp2_with (go_at_call 60; refine (times_calls _ _ _ _ _ hav hav lt1 lt1).mono ?_; rintro e w2 ⟨v2, rfl, hv2, hf2, hb2⟩)
        go_roundw
        case rel => exact ⟨j, 2 * t, k / 2, congrArg (Value.int .i64) (by omega), Hrel.out, fun _ => htn2, by rw [← Hmp.out]; exact hv2, hov.mono hb2, hfr, below_trans hbel hb2, by omega⟩
        case measure => simp [intOf]; omega
      · rw [hpar] at e1
        by_cases hk1 : 1 < k
        · have hrel : j + t + 2 * t * (k / 2) = n := by
            rw [← Hjt.out, Nat.mul_comm 2 t, Nat.mul_assoc, Nat.add_assoc]
            congr 1
            have : t * k = t * (2 * (k / 2) + 1) := by congr 1; omega
            rw [this, Nat.mul_add]; omega
          have htn2 : 2 * t ≤ n := by
            have := Nat.le_mul_of_pos_right (2 * t) (show 0 < k / 2 by omega)
            omega
          have Hrel := Lib.hid hrel
          clear hrel hpar hdm
          go_wp2_with fail
          refine (times_calls _ _ _ _ _ hov hav lj1 lt1).mono ?_
          rintro e w2 ⟨v2, rfl, hv2, hf2, hb2⟩
          have hav2 := hav.mono hb2
          go_wp2_with fail
          refine (times_calls _ _ _ _ _ hav2 hav2 lt1 lt1).mono ?_
          rintro e w3 ⟨v3, rfl, hv3, hf3, hb3⟩
          go_wp2
          go_roundw
          case rel => exact ⟨j + t, 2 * t, k / 2, congrArg (Value.int .i64) (by omega), Hrel.out, fun _ => htn2, by rw [← Hmp.out]; exact hv3, by rw [← Hop.out]; exact hv2.mono hb3, hf2.mono hbel.size, below_trans (below_trans hbel hb2) hb3, by omega⟩
          case measure => simp [intOf]; omega
        · obtain rfl : k = 1 := by omega
          have hrel : j + t + t * 0 = n := by rw [← Hjt.out]; omega
          have Hrel := Lib.hid hrel
          clear hrel hpar hdm
          go_wp2_with (go_at_call 60; refine (times_calls _ _ _ _ _ hov hav lj1 lt1).mono ?_; rintro e w2 ⟨v2, rfl, hv2, hf2, hb2⟩)
          go_roundw
          case rel => exact ⟨j + t, t, 0, rfl, Hrel.out, fun h => (Nat.not_lt_zero 0 h).elim, hav.mono hb2, by rw [← Hop.out]; exact hv2, hf2.mono hbel.size, below_trans hbel hb2, by omega⟩
          case measure => simp [intOf]
    · obtain rfl : k = 0 := by omega
      have hj : j = n := by have := Hjt.out; omega
      have Hj := Lib.hid hj
      clear hj
      go_wp2
      go_ret
      rw [Hj.out] at hov
      exact ⟨_, rfl, hov, hfr, hbel⟩

end Go.Proofs

open Go.RowKit
namespace Go.Proofs
set_option linter.unusedVariables false
set_option linter.unusedSimpArgs false

theorem row_two (w : World) (x y : Nat) (e : Nat) (hx : x < 4294967296) (hy : y < 4294967296) : Row (w.alloc (.cells #[Value.int .u32 (x : Int), Value.int .u32 (y : Int)] e)) w.heap.size [x, y] := by
  refine ⟨by intro z hz; simp at hz; omega, e, ?_⟩
  rw [heap_alloc_new]; rfl

theorem ok_one (a : Nat) (h : (limbs a).length ≤ 262144) : firstErr [limbs a] = 0 := by
  simp [firstErr, chk_limbs, show ¬ 262144 < (limbs a).length by omega]
theorem ok_two (a b : Nat) (h : (limbs a).length ≤ 262144) (k : (limbs b).length ≤ 262144) : firstErr [limbs a, limbs b] = 0 := by
  simp [firstErr, chk_limbs, show ¬ 262144 < (limbs a).length by omega, show ¬ 262144 < (limbs b).length by omega]
theorem ok_three (a b c : Nat) (h : (limbs a).length ≤ 262144) (k : (limbs b).length ≤ 262144) (l : (limbs c).length ≤ 262144) : firstErr [limbs a, limbs b, limbs c] = 0 := by
  simp [firstErr, chk_limbs, show ¬ 262144 < (limbs a).length by omega, show ¬ 262144 < (limbs b).length by omega, show ¬ 262144 < (limbs c).length by omega]

/-- Of returns the number -/
theorem of_calls (n : Nat) (z : Int) (w : World) (hz : z = (n : Int)) (hn : n < 18446744073709551616) :
    Calls Try.prog 33 #[.int .u64 z] w (RetNum w n) := by
  subst hz
  have hlo : (n : Int) % 4294967296 = ((n % 4294967296 : Nat) : Int) := rfl
  have hhi : (n : Int) / 4294967296 = ((n / 4294967296 : Nat) : Int) := rfl
  have hhi2 : (n : Int) / 4294967296 % 4294967296 = ((n / 4294967296 : Nat) : Int) := by omega
  have hr := row_two w (n % 4294967296) (n / 4294967296) 109 (by omega) (by omega)
  have hb := below_alloc w (.cells #[Value.int .u32 ((n % 4294967296 : Nat) : Int), Value.int .u32 ((n / 4294967296 : Nat) : Int)] 109)
  have hs := hr.whole (by simp [maxLen])
  have hval : val [n % 4294967296, n / 4294967296] = n := by simp only [val]; omega
  generalize n % 4294967296 = lo at *
  generalize n / 4294967296 = hi at *
  go_enter Try.func33, Try.ntmps33
  go_wp2_with fail
  refine (trim_calls _ _ 2 _ _ hs rfl).mono ?_
  rintro e w1 ⟨k, rfl, hv, rfl⟩
  rw [hval] at hv
  go_wp2
  go_ret
  exact ⟨_, rfl, hv, Nat.le_refl _, hb⟩

theorem mul_err (v1 v2 : Value) (x1 x2 : List Nat) (w : World) (h1 : Raw w v1 x1) (h2 : Raw w v2 x2) (he : firstErr [x1, x2] ≠ 0) :
    Calls Try.prog 34 #[v1, v2] w fun e w' => e = .returned (.tuple #[.slice none 0 0, .int .i64 (firstErr [x1, x2])]) ∧ Below w.heap.size w w' := by
  have t1 : (firstErr [x1, x2] != 0) = true := by rw [bne_iff_ne]; exact he
  clear he
  have g1 := h1
  obtain ⟨ad1, c1, rfl, s1⟩ := g1
  have g2 := h2
  obtain ⟨ad2, c2, rfl, s2⟩ := g2
  go_enter Try.func34, Try.ntmps34
  go_wp2_with fail
  refine (valid2 _ _ x1 x2 w h1 h2).mono ?_
  rintro e w' ⟨rfl, rfl⟩
  go_wp2
  go_ret2
  exact ⟨rfl, below_alloc _ _⟩



theorem cmp_err (v1 v2 : Value) (x1 x2 : List Nat) (w : World) (h1 : Raw w v1 x1) (h2 : Raw w v2 x2) (he : firstErr [x1, x2] ≠ 0) :
    Calls Try.prog 53 #[v1, v2] w fun e w' => e = .returned (.tuple #[.int .i64 0, .int .i64 (firstErr [x1, x2])]) ∧ Below w.heap.size w w' := by
  have t1 : (firstErr [x1, x2] != 0) = true := by rw [bne_iff_ne]; exact he
  clear he
  have g1 := h1
  obtain ⟨ad1, c1, rfl, s1⟩ := g1
  have g2 := h2
  obtain ⟨ad2, c2, rfl, s2⟩ := g2
  go_enter Try.func53, Try.ntmps53
  go_wp2_with fail
  refine (valid2 _ _ x1 x2 w h1 h2).mono ?_
  rintro e w' ⟨rfl, rfl⟩
  go_wp2
  go_ret2
  exact ⟨rfl, below_alloc _ _⟩

theorem divmod_err (v1 v2 : Value) (x1 x2 : List Nat) (w : World) (h1 : Raw w v1 x1) (h2 : Raw w v2 x2) (he : firstErr [x1, x2] ≠ 0) :
    Calls Try.prog 35 #[v1, v2] w fun e w' => e = .returned (.tuple #[.slice none 0 0, .slice none 0 0, .int .i64 (firstErr [x1, x2])]) ∧ Below w.heap.size w w' := by
  have t1 : (firstErr [x1, x2] != 0) = true := by rw [bne_iff_ne]; exact he
  clear he
  have g1 := h1
  obtain ⟨ad1, c1, rfl, s1⟩ := g1
  have g2 := h2
  obtain ⟨ad2, c2, rfl, s2⟩ := g2
  go_enter Try.func35, Try.ntmps35
  go_wp2_with fail
  refine (valid2 _ _ x1 x2 w h1 h2).mono ?_
  rintro e w' ⟨rfl, rfl⟩
  go_wp2
  go_ret3
  exact ⟨rfl, below_alloc _ _⟩

theorem bits_err (v1 : Value) (x1 : List Nat) (w : World) (h1 : Raw w v1 x1) (he : firstErr [x1] ≠ 0) :
    Calls Try.prog 51 #[v1] w fun e w' => e = .returned (.tuple #[.int .i64 0, .int .i64 (firstErr [x1])]) ∧ Below w.heap.size w w' := by
  have t1 : (firstErr [x1] != 0) = true := by rw [bne_iff_ne]; exact he
  clear he
  have g1 := h1
  obtain ⟨ad1, c1, rfl, s1⟩ := g1
  go_enter Try.func51, Try.ntmps51
  go_wp2_with fail
  refine (valid1 _ x1 w h1).mono ?_
  rintro e w' ⟨rfl, rfl⟩
  go_wp2
  go_ret2
  exact ⟨rfl, below_alloc _ _⟩

theorem uint64_err (v1 : Value) (x1 : List Nat) (w : World) (h1 : Raw w v1 x1) (he : firstErr [x1] ≠ 0) :
    Calls Try.prog 37 #[v1] w fun e w' => e = .returned (.tuple #[.int .u64 0, .int .i64 (firstErr [x1])]) ∧ Below w.heap.size w w' := by
  have t1 : (firstErr [x1] != 0) = true := by rw [bne_iff_ne]; exact he
  clear he
  have g1 := h1
  obtain ⟨ad1, c1, rfl, s1⟩ := g1
  go_enter Try.func37, Try.ntmps37
  go_wp2_with fail
  refine (valid1 _ x1 w h1).mono ?_
  rintro e w' ⟨rfl, rfl⟩
  go_wp2
  go_ret2
  exact ⟨rfl, below_alloc _ _⟩

theorem shift_err (v1 : Value) (x1 : List Nat) (z : Int) (w : World) (h1 : Raw w v1 x1) (he : firstErr [x1] ≠ 0) :
    Calls Try.prog 52 #[v1, .int .i64 z] w fun e w' => e = .returned (.tuple #[.slice none 0 0, .int .i64 (firstErr [x1])]) ∧ Below w.heap.size w w' := by
  have t1 : (firstErr [x1] != 0) = true := by rw [bne_iff_ne]; exact he
  clear he
  have g1 := h1
  obtain ⟨ad1, c1, rfl, s1⟩ := g1
  go_enter Try.func52, Try.ntmps52
  go_wp2_with fail
  refine (valid1 _ x1 w h1).mono ?_
  rintro e w' ⟨rfl, rfl⟩
  go_wp2
  go_ret2
  exact ⟨rfl, below_alloc _ _⟩

theorem pow_err (v1 : Value) (x1 : List Nat) (z : Int) (w : World) (h1 : Raw w v1 x1) (he : firstErr [x1] ≠ 0) :
    Calls Try.prog 32 #[v1, .int .i64 z] w fun e w' => e = .returned (.tuple #[.slice none 0 0, .int .i64 (firstErr [x1])]) ∧ Below w.heap.size w w' := by
  have t1 : (firstErr [x1] != 0) = true := by rw [bne_iff_ne]; exact he
  clear he
  have g1 := h1
  obtain ⟨ad1, c1, rfl, s1⟩ := g1
  go_enter Try.func32, Try.ntmps32
  go_wp2_with fail
  refine (valid1 _ x1 w h1).mono ?_
  rintro e w' ⟨rfl, rfl⟩
  go_wp2
  go_ret2
  exact ⟨rfl, below_alloc _ _⟩

theorem root_err (v1 : Value) (x1 : List Nat) (z : Int) (w : World) (h1 : Raw w v1 x1) (he : firstErr [x1] ≠ 0) :
    Calls Try.prog 36 #[v1, .int .i64 z] w fun e w' => e = .returned (.tuple #[.slice none 0 0, .int .i64 (firstErr [x1])]) ∧ Below w.heap.size w w' := by
  have t1 : (firstErr [x1] != 0) = true := by rw [bne_iff_ne]; exact he
  clear he
  have g1 := h1
  obtain ⟨ad1, c1, rfl, s1⟩ := g1
  go_enter Try.func36, Try.ntmps36
  go_wp2_with fail
  refine (valid1 _ x1 w h1).mono ?_
  rintro e w' ⟨rfl, rfl⟩
  go_wp2
  go_ret2
  exact ⟨rfl, below_alloc _ _⟩




theorem mul_ok (v1 v2 : Value) (a b : Nat) (w : World) (h1 : Num w v1 a) (h2 : Num w v2 b) (hl : (limbs a).length + (limbs b).length ≤ 262144) :
    Calls Try.prog 34 #[v1, v2] w (Got w (a * b) 0) := by
  have t1 : (firstErr [limbs a, limbs b] != 0) = false := by rw [bne_eq_false_iff_eq]; exact ok_two a b (by omega) (by omega)
  have hlm := limbs_length_mul a b
  have t2 : decide (262145 < ((limbs a).length : Int) + ((limbs b).length : Int)) = false := by rw [decide_eq_false_iff_not]; omega
  have k1 := h1.mono (below_alloc w (.cells #[v1, v2] 75))
  have k2 := h2.mono (below_alloc w (.cells #[v1, v2] 75))
  have hb1 := below_alloc w (.cells #[v1, v2] 75)
  have g1 := h1
  have g2 := h2
  obtain ⟨ad1, c1, rfl, s1⟩ := g1
  obtain ⟨ad2, c2, rfl, s2⟩ := g2
  go_enter Try.func34, Try.ntmps34
  go_wp2_with (go_at_call 56; refine (valid2 _ _ (limbs a) (limbs b) w h1.raw h2.raw).mono ?_; rintro e w' ⟨rfl, rfl⟩)
  go_wp2_with fail
  refine (times_calls _ _ a b _ k1 k2 (by omega) (by omega)).mono ?_
  rintro e w1 ⟨v, rfl, hv, hf, hb⟩
  go_wp2_with fail
  refine (short_calls v (a * b) _ _ hv hf).mono ?_
  rw [if_neg (by omega), if_neg (by omega)]
  rintro e w2 ⟨v', rfl, hv', hf', rfl⟩
  go_wp2
  go_ret2
  exact ⟨_, rfl, hv', hf'.mono hb1.size, below_trans hb1 hb⟩

theorem cmp_ok (v1 v2 : Value) (a b : Nat) (w : World) (h1 : Num w v1 a) (h2 : Num w v2 b) (hl : (limbs a).length ≤ 262144 ∧ (limbs b).length ≤ 262144) :
    Calls Try.prog 53 #[v1, v2] w fun e w' => e = .returned (.tuple #[.int .i64 (cmpInt a b), .int .i64 0]) ∧ Below w.heap.size w w' := by
  have t1 : (firstErr [limbs a, limbs b] != 0) = false := by rw [bne_eq_false_iff_eq]; exact ok_two a b (by omega) (by omega)
  have k1 := h1.mono (below_alloc w (.cells #[v1, v2] 75))
  have k2 := h2.mono (below_alloc w (.cells #[v1, v2] 75))
  have hb1 := below_alloc w (.cells #[v1, v2] 75)
  have g1 := h1
  have g2 := h2
  obtain ⟨ad1, c1, rfl, s1⟩ := g1
  obtain ⟨ad2, c2, rfl, s2⟩ := g2
  go_enter Try.func53, Try.ntmps53
  go_wp2_with (go_at_call 56; refine (valid2 _ _ (limbs a) (limbs b) w h1.raw h2.raw).mono ?_; rintro e w' ⟨rfl, rfl⟩)
  refine (compare_calls _ _ a b _ _ k1 k2 rfl (by omega) (by omega)).mono ?_
  rintro e w1 ⟨rfl, hb⟩
  go_wp2
  go_ret2
  exact ⟨rfl, below_trans hb1 hb⟩
theorem divmod_ok (v1 v2 : Value) (a b : Nat) (w : World) (h1 : Num w v1 a) (h2 : Num w v2 b) (hl : (limbs a).length ≤ 262144 ∧ (limbs b).length ≤ 262144) (hb0 : b ≠ 0) :
    Calls Try.prog 35 #[v1, v2] w fun e w' => ∃ q r, e = .returned (.tuple #[q, r, .int .i64 0]) ∧ Num w' q (a / b) ∧ Num w' r (a % b) ∧ Fresh w.heap.size q ∧ Fresh w.heap.size r ∧ Sep q r ∧ Below w.heap.size w w' := by
  have t1 : (firstErr [limbs a, limbs b] != 0) = false := by rw [bne_eq_false_iff_eq]; exact ok_two a b (by omega) (by omega)
  have hbl : (limbs b).length ≠ 0 := fun e => hb0 (limbs_eq_nil.mp (List.eq_nil_of_length_eq_zero e))
  have k1 := h1.mono (below_alloc w (.cells #[v1, v2] 75))
  have k2 := h2.mono (below_alloc w (.cells #[v1, v2] 75))
  have hb1 := below_alloc w (.cells #[v1, v2] 75)
  have g1 := h1
  have g2 := h2
  obtain ⟨ad1, c1, rfl, s1⟩ := g1
  obtain ⟨ad2, c2, rfl, s2⟩ := g2
  go_enter Try.func35, Try.ntmps35
  go_wp2_with (go_at_call 56; refine (valid2 _ _ (limbs a) (limbs b) w h1.raw h2.raw).mono ?_; rintro e w' ⟨rfl, rfl⟩)
  refine (part_calls _ _ a b _ k1 k2 hb0 (by omega) (by omega)).mono ?_
  rintro e w1 ⟨q, r, rfl, hq, hr, hfq, hfr, hsep, hb⟩
  go_wp2
  go_ret3
  exact ⟨_, _, rfl, hq, hr, hfq.mono hb1.size, hfr.mono hb1.size, hsep, below_trans hb1 hb⟩

theorem divmod_zero (v1 v2 : Value) (a : Nat) (w : World) (h1 : Num w v1 a) (h2 : Num w v2 0) (hl : (limbs a).length ≤ 262144) :
    Calls Try.prog 35 #[v1, v2] w fun e w' => e = .returned (.tuple #[.slice none 0 0, .slice none 0 0, .int .i64 4]) ∧ Below w.heap.size w w' := by
  have t1 : (firstErr [limbs a, []] != 0) = false := by rw [bne_eq_false_iff_eq, ← limbs_zero]; exact ok_two a 0 (by omega) (by rw [limbs_zero]; simp)
  have g1 := h1
  obtain ⟨ad1, c1, rfl, s1⟩ := g1
  have g2 := h2
  obtain ⟨ad2, c2, rfl, s2⟩ := g2
  have hb1 := below_alloc w (.cells #[.slice ad1 (limbs a).length c1, .slice ad2 (limbs 0).length c2] 75)
  have hr2 := h2.raw
  rw [limbs_zero] at *
  change Raw w (.slice ad2 0 c2) [] at hr2
  go_enter Try.func35, Try.ntmps35
  go_wp2_with (go_at_call 56; refine (valid2 _ _ (limbs a) [] w h1.raw hr2).mono ?_; rintro e w' ⟨rfl, rfl⟩)
  go_ret3
  exact ⟨rfl, hb1⟩

end Go.Proofs

open Go.RowKit
namespace Go.Proofs
set_option linter.unusedVariables false
set_option linter.unusedSimpArgs false

theorem limbs_two_pow (c : Nat) : (limbs (2 ^ c)).length ≤ c + 1 := by
  refine limbs_length_le (Nat.lt_of_lt_of_le (Nat.pow_lt_pow_right (by omega) (show c < 32 * (c + 1) by omega)) ?_)
  rw [Nat.pow_mul]
  exact Nat.pow_le_pow_left (by omega) _

theorem bitlen_limbs_le (a : Nat) : bitlen a ≤ 32 * (limbs a).length := by
  refine bitlen_of_lt ?_
  rw [Nat.pow_mul]
  exact lt_pow_length a

theorem one_limb (w : World) (e : Nat) : Num (w.alloc (.cells #[Value.int .u32 1] e)) (.slice (some ⟨w.heap.size, 0, none⟩) 1 1) 1 := num_one w e

set_option maxRecDepth 100000 in
theorem root_ok (v : Value) (a n r : Nat) (z : Int) (w : World) (hv : Num w v a) (hz : z = (n : Int)) (hn : 1 ≤ n) (hz2 : n < 9223372036854775808) (hl : (limbs a).length ≤ 262144) (hr : IsRoot a n r) :
    Calls Try.prog 36 #[v, .int .i64 z] w (Got w r 0) := by
  subst hz
  have t1 : (firstErr [limbs a] != 0) = false := by rw [bne_eq_false_iff_eq]; exact ok_one a (by omega)
  have k1 := hv.mono (below_alloc w (.cells #[v] 75))
  have hb1 := below_alloc w (.cells #[v] 75)
  have g1 := hv
  obtain ⟨ad1, c1, rfl, s1⟩ := g1
  have hcm := s1.2.1
  unfold maxLen at hcm
  have hcl := s1.1
  have t2 : ¬ (n : Int) < 1 := by omega
  by_cases hn1 : n = 1
  · subst hn1
    obtain rfl := hr.unique (root_one a)
    have Hr := Lib.hid hr
    clear hr
    go_enter Try.func36, Try.ntmps36
    go_wp2_with (go_at_call 56; refine (valid1 _ (limbs r) w hv.raw).mono ?_; rintro e w' ⟨rfl, rfl⟩)
    refine (own_calls _ r _ k1 (by omega)).mono ?_
    rintro e w1 ⟨v, rfl, hv1, hf, hb⟩
    go_wp2
    go_ret2
    exact ⟨_, rfl, hv1, hf.mono hb1.size, below_trans hb1 hb⟩
  · have t3 : ((n : Int) == 1) = false := by rw [beq_eq_false_iff_ne]; omega
    by_cases ha0 : a = 0
    · have t4 : (((limbs a).length : Int) == 0) = true := by rw [ha0, limbs_zero]; rfl
      obtain rfl : r = a := by
        subst ha0
        exact hr.unique (root_zero n (by omega))
      have Hr := Lib.hid hr
      clear hr ha0
      go_enter Try.func36, Try.ntmps36
      go_wp2_with (go_at_call 56; refine (valid1 _ (limbs r) w hv.raw).mono ?_; rintro e w' ⟨rfl, rfl⟩)
      refine (own_calls _ r _ k1 (by omega)).mono ?_
      rintro e w1 ⟨v, rfl, hv1, hf, hb⟩
      go_wp2
      go_ret2
      exact ⟨_, rfl, hv1, hf.mono hb1.size, below_trans hb1 hb⟩
    · have hal : (limbs a).length ≠ 0 := fun e => ha0 (limbs_eq_nil.mp (List.eq_nil_of_length_eq_zero e))
      have t4 : (((limbs a).length : Int) == 0) = false := by rw [beq_eq_false_iff_ne]; omega
      have hbs := bitlen_spec ha0
      have hbl := bitlen_limbs_le a
      by_cases hbn : bitlen a ≤ n
      · obtain rfl : r = 1 := hr.unique ⟨by rw [Nat.one_pow]; omega, Nat.lt_of_lt_of_le hbs.2 (Nat.pow_le_pow_right (by omega) hbn)⟩
        have Hr := Lib.hid hr
        have Hbs := Lib.hid hbs
        clear hr hbs
        obtain ⟨W, hW⟩ : ∃ W : World, W = w.alloc (.cells #[Value.slice ad1 (limbs a).length c1] 75) := ⟨_, rfl⟩
        go_enter Try.func36, Try.ntmps36
        go_wp2_with (go_at_call 56; refine (valid1 _ (limbs a) w hv.raw).mono ?_; rintro e w' ⟨rfl, rfl⟩)
        rw [← hW] at k1 hb1 ⊢
        refine (length_calls _ a _ k1 (by omega)).mono ?_
        rintro e w1 ⟨rfl, rfl⟩
        have h1 := num_one W 109
        have hb2 := below_alloc W (.cells #[Value.int .u32 1] 109)
        clear hW
        go_wp2
        go_ret2
        exact ⟨_, rfl, h1, hb1.size, below_trans hb1 hb2⟩
      · have hst := newton_start hbs.2 (show n ≠ 0 by omega)
        obtain ⟨c, hc⟩ : ∃ c, c = (bitlen a + n - 1) / n := ⟨_, rfl⟩
        have hcm := Nat.div_add_mod (bitlen a + n - 1) n
        rw [← hc] at hst hcm
        have hce : ((bitlen a : Int) + (n : Int) - 1) / (n : Int) = (c : Int) := by
          rw [hc, Int.natCast_ediv]
          congr 1
          omega
        have Hcm := Lib.hid hcm
        have Hst := Lib.hid hst
        have Hbs := Lib.hid hbs
        have Hr := Lib.hid hr
        clear hcm hst hbs hr hc
        obtain ⟨bl, ebl⟩ : ∃ bl, bl = bitlen a := ⟨_, rfl⟩
        rw [← ebl] at hbn hbl hce
        have Ebl := Lib.hid ebl
        clear ebl
        obtain ⟨W, hW⟩ : ∃ W : World, W = w.alloc (.cells #[Value.slice ad1 (limbs a).length c1] 75) := ⟨_, rfl⟩
        go_enter Try.func36, Try.ntmps36
        go_wp2_with (go_at_call 56; refine (valid1 _ (limbs a) w hv.raw).mono ?_; rintro e w' ⟨rfl, rfl⟩)
        rw [← hW] at k1 hb1 ⊢
        have L := length_calls _ a _ k1 (by omega)
        rw [← Ebl.out] at L
        refine L.mono ?_
        clear L
        rintro e w1 ⟨rfl, rfl⟩
        have h1 := num_one W 109
        have hb2 := below_alloc W (.cells #[Value.int .u32 1] 109)
        obtain ⟨W2, hW2⟩ : ∃ W2 : World, W2 = W.alloc (.cells #[Value.int .u32 1] 109) := ⟨_, rfl⟩
        have k2 := k1.mono hb2
        clear hW
        go_wp2_with fail
        rw [← hW2] at k2 h1 hb2 ⊢
        have L := length_calls _ a _ k2 (by omega)
        rw [← Ebl.out] at L
        refine L.mono ?_
        clear L hW2
        rintro e w1 ⟨rfl, rfl⟩
        go_wp2_with fail
        have hc1 : c * n ≤ bl + n - 1 := by have := Hcm.out; rw [← Ebl.out] at this; rw [Nat.mul_comm]; omega
        have hcn : c ≤ bl + n - 1 := Nat.le_trans (Nat.le_mul_of_pos_right c (by omega)) hc1
        refine (up_calls _ 1 c _ _ h1 (by first | rfl | exact hce) (by rw [limbs_one]; simp) (by omega)).mono ?_
        rintro e w3 ⟨x0, rfl, hx0, hf0, hb3⟩
        rw [Nat.one_mul] at hx0
        have kk : (n : Int) - 1 = ((n - 1 : Nat) : Int) := by omega
        go_wp2_with fail
        refine (of_calls (n - 1) _ _ (by omega) (by omega)).mono ?_
        rintro e w4 ⟨vless, rfl, hless, hfl, hb4⟩
        go_wp2_with fail
        refine (of_calls n _ _ (by omega) (by omega)).mono ?_
        rintro e w5 ⟨vcount, rfl, hcount, hfc, hb5⟩
        go_wp2
        have kr := (k2.mono hb3).mono hb4 |>.mono hb5
        have hl5 := hless.mono hb5
        have hx5 := (hx0.mono hb4).mono hb5
        have hB : Below w.heap.size w w5 := below_trans (below_trans (below_trans (below_trans hb1 hb2) hb3) hb4) hb5
        have hsize := (below_trans hb4 hb5).size
        have hb1s := hb1.size
        have hb2s := hb2.size
        clear hb1 hb2 hb4 hb5 k1 k2 h1 hless hx0
        have hxr : r ≤ 2 ^ c := by
          have := le_of_pow_lt (Nat.lt_of_le_of_lt Hr.out.1 (Nat.lt_trans Hst.out (pow_lt_of_lt (Nat.lt_succ_self _) (by omega))))
          exact this
        have hr1 : 1 ≤ r := by
          have h2 := Hr.out.2
          by_cases h0 : r = 0
          · rw [h0, Nat.zero_add, Nat.one_pow] at h2; omega
          · omega
        have hxf : Fresh w.heap.size x0 := hf0.mono (Nat.le_trans hb1s hb2s)
        have hcl1 : (c + 1) * (n - 1) ≤ 30000000 := by
          have h1 : (c + 1) * (n - 1) ≤ (c + 1) * n := Nat.mul_le_mul_left _ (by omega)
          have h2 : (c + 1) * n = c * n + n := by rw [Nat.add_mul, Nat.one_mul]
          omega
        have hnl : (limbs n).length ≤ 1 := limbs_length_le (by omega)
        have hnl1 : (limbs (n - 1)).length ≤ 1 := limbs_length_le (by omega)
        have Hcl1 := Lib.hid hcl1
        clear hcl1 hc1
        go_loopw [7] (fun xv wr => ∃ x, Num wr xv x ∧ r ≤ x ∧ x ≤ 2 ^ c ∧ Fresh w.heap.size xv ∧ Below w5.heap.size w5 wr) (fun xv wr => numOf wr xv)
        case atStart => exact ⟨_, hx5, hxr, Nat.le_refl _, hxf, Below.refl _ _⟩
        case round =>
          obtain ⟨x, hx, hrx, hxc, hxfr, hbel⟩ := hrel
          have hlx : (limbs x).length ≤ c + 1 := Nat.le_trans (limbs_length_mono hxc) (limbs_two_pow c)
          have hra : (limbs x).length * (n - 1) ≤ 30000000 := Nat.le_trans (Nat.mul_le_mul_right _ hlx) Hcl1.out
          have hlp := limbs_length_pow x (n - 1)
          have hx0 : x ^ (n - 1) ≠ 0 := Nat.pos_iff_ne_zero.mp (Nat.pow_pos (show 0 < x by omega))
          have kr1 := kr.mono hbel
          have hl1 := hl5.mono hbel
          have hcount1 := hcount.mono hbel
          have hsz : w.heap.size ≤ wr.heap.size := Nat.le_trans hB.size hbel.size
          go_wp2_with fail
          refine (raise_calls _ x (n - 1) _ _ hx (by omega) (by omega) (by omega) (by omega)).mono ?_
          rintro e w6 ⟨vp, rfl, hp, _, hb6⟩
          have kr2 := kr1.mono hb6
          have hl2 := hl1.mono hb6
          have hcount2 := hcount1.mono hb6
          have hx2 := hx.mono hb6
          go_wp2_with fail
          refine (part_calls _ _ a _ _ kr2 hp hx0 (by omega) (by omega)).mono ?_
          rintro e w7 ⟨vq, vr, rfl, hq, _, _, _, _, hb7⟩
          have hlq : (limbs (a / x ^ (n - 1))).length ≤ (limbs a).length := limbs_length_mono (Nat.div_le_self _ _)
          have hnew := newton_above (k := n - 1) (x := x) (a := a) (r := r) (by rw [show n - 1 + 1 = n by omega]; exact Hr.out.1) (by omega)
          have hstop := fun h => newton_stop (k := n - 1) (x := x) (a := a) (r := r) (by rw [show n - 1 + 1 = n by omega]; exact Hr.out) (by omega) hrx h
          rw [show n - 1 + 1 = n by omega] at hnew hstop
          have Hnew := Lib.hid hnew
          have Hstop := Lib.hid hstop
          clear hnew hstop
          obtain ⟨Q, eQ⟩ : ∃ Q, Q = a / x ^ (n - 1) := ⟨_, rfl⟩
          rw [← eQ] at hq hlq
          have EQ := Lib.hid eQ
          clear eQ
          have hl3 := hl2.mono hb7
          have hcount3 := hcount2.mono hb7
          have hx3 := hx2.mono hb7
          have hlm := limbs_length_mul x (n - 1)
          have hla := limbs_length_add (x * (n - 1)) Q
          go_wp2_with fail
          refine (times_calls _ _ x (n - 1) _ hx3 hl3 (by omega) (by omega)).mono ?_
          rintro e w8 ⟨vt, rfl, ht, _, hb8⟩
          have hq4 := hq.mono hb8
          have hcount4 := hcount3.mono hb8
          have hx4 := hx3.mono hb8
          go_wp2_with fail
          refine (plus_calls _ _ _ _ _ ht hq4 (by omega) (by omega)).mono ?_
          rintro e w9 ⟨vs, rfl, hs, _, hb9⟩
          have hcount5 := hcount4.mono hb9
          have hx5' := hx4.mono hb9
          go_wp2_with fail
          refine (part_calls _ _ _ _ _ hs hcount5 (by omega) (by omega) (by omega)).mono ?_
          rintro e w10 ⟨vy, vz, rfl, hy, _, hyf, _, _, hb10⟩
          have hx6 := hx5'.mono hb10
          have hly : (limbs ((x * (n - 1) + Q) / n)).length ≤ (limbs (x * (n - 1) + Q)).length := limbs_length_mono (Nat.div_le_self _ _)
          have hnew := Hnew.out
          have hstop := Hstop.out
          rw [← EQ.out] at hnew hstop
          obtain ⟨y, ey⟩ : ∃ y, y = (x * (n - 1) + Q) / n := ⟨_, rfl⟩
          rw [← ey] at hy hly hnew hstop
          have hbb : Below wr.heap.size wr w10 := below_trans (below_trans (below_trans (below_trans hb6 hb7) hb8) hb9) hb10
          have hyf2 : Fresh w.heap.size vy := hyf.mono (by have h1 := hb6.size; have h2 := hb7.size; have h3 := hb8.size; have h4 := hb9.size; omega)
          have Hstop2 := Lib.hid hstop
          have Ey := Lib.hid ey
          clear hstop ey
          by_cases hyx : y < x
          · have t9 : ¬ (0 : Int) ≤ -1 := by omega
            go_wp2_with fail
            refine (compare_calls _ _ y x _ _ hy hx6 (cmpInt_lt hyx) (by omega) (by omega)).mono ?_
            rintro e w11 ⟨rfl, hb11⟩
            have hy2 := hy.mono hb11
            go_wp2
            go_roundw
            case rel => exact ⟨y, hy2, hnew, by omega, hyf2, below_trans hbel (below_trans hbb hb11)⟩
            case measure => rw [numOf_eq hy2, numOf_eq hx]; exact hyx
          · have hxy : x ≤ y := by omega
            obtain rfl : x = r := Hstop2.out hxy
            have t9 : (0 : Int) ≤ cmpInt y x := by unfold cmpInt; split <;> (try split) <;> omega
            go_wp2_with fail
            refine (compare_calls _ _ y x _ _ hy hx6 rfl (by omega) (by omega)).mono ?_
            rintro e w11 ⟨rfl, hb11⟩
            have hx7 := hx6.mono hb11
            go_wp2
            go_ret2
            exact ⟨_, rfl, hx7, hxfr, below_trans hB (below_trans hbel (below_trans hbb hb11))⟩

end Go.Proofs

open Go.RowKit
namespace Go.Proofs
set_option linter.unusedVariables false
set_option linter.unusedSimpArgs false

set_option maxRecDepth 100000 in
theorem shift_up (v : Value) (a n : Nat) (z : Int) (w : World) (h1 : Num w v a) (hz : z = (n : Int)) (ha : a ≠ 0) (hn : n ≤ 8388608) (hl : (limbs a).length ≤ 262144) (hr : (limbs (a * 2 ^ n)).length ≤ 262144) :
    Calls Try.prog 52 #[v, .int .i64 z] w (Got w (a * 2 ^ n) 0) := by
  subst hz
  have t1 : (firstErr [limbs a] != 0) = false := by rw [bne_eq_false_iff_eq]; exact ok_one a (by omega)
  have hal : (limbs a).length ≠ 0 := fun e => ha (limbs_eq_nil.mp (List.eq_nil_of_length_eq_zero e))
  have t4 : (((limbs a).length : Int) == 0) = false := by rw [beq_eq_false_iff_ne]; omega
  have k1 := h1.mono (below_alloc w (.cells #[v] 75))
  have hb1 := below_alloc w (.cells #[v] 75)
  have g1 := h1
  obtain ⟨ad1, c1, rfl, s1⟩ := g1
  obtain ⟨R, eR⟩ : ∃ R, a * 2 ^ n = R := ⟨_, rfl⟩
  have U := up_calls (.slice ad1 (limbs a).length c1) a n (n : Int) _ k1 rfl (by omega) (by omega)
  rw [eR] at U hr ⊢
  clear eR
  go_enter Try.func52, Try.ntmps52
  go_wp2_with (go_at_call 56; refine (valid1 _ (limbs a) w h1.raw).mono ?_; rintro e w' ⟨rfl, rfl⟩)
  refine U.mono ?_
  clear U
  rintro e w1 ⟨v, rfl, hv, hf, hb⟩
  go_wp2_with fail
  refine (short_calls v R _ _ hv hf).mono ?_
  rw [if_neg (by omega), if_neg (by omega)]
  rintro e w2 ⟨v', rfl, hv', hf', rfl⟩
  go_wp2
  go_ret2
  exact ⟨_, rfl, hv', hf'.mono hb1.size, below_trans hb1 hb⟩

set_option maxRecDepth 100000 in
theorem shift_over (v : Value) (a n : Nat) (z : Int) (w : World) (h1 : Num w v a) (hz : z = (n : Int)) (ha : a ≠ 0) (hn : n ≤ 8388608) (hl : (limbs a).length ≤ 262144) (hr : 262144 < (limbs (a * 2 ^ n)).length) :
    Calls Try.prog 52 #[v, .int .i64 z] w (Got w 0 3) := by
  subst hz
  have t1 : (firstErr [limbs a] != 0) = false := by rw [bne_eq_false_iff_eq]; exact ok_one a (by omega)
  have hal : (limbs a).length ≠ 0 := fun e => ha (limbs_eq_nil.mp (List.eq_nil_of_length_eq_zero e))
  have t4 : (((limbs a).length : Int) == 0) = false := by rw [beq_eq_false_iff_ne]; omega
  have k1 := h1.mono (below_alloc w (.cells #[v] 75))
  have hb1 := below_alloc w (.cells #[v] 75)
  have g1 := h1
  obtain ⟨ad1, c1, rfl, s1⟩ := g1
  obtain ⟨R, eR⟩ : ∃ R, a * 2 ^ n = R := ⟨_, rfl⟩
  have U := up_calls (.slice ad1 (limbs a).length c1) a n (n : Int) _ k1 rfl (by omega) (by omega)
  rw [eR] at U hr
  clear eR
  go_enter Try.func52, Try.ntmps52
  go_wp2_with (go_at_call 56; refine (valid1 _ (limbs a) w h1.raw).mono ?_; rintro e w' ⟨rfl, rfl⟩)
  refine U.mono ?_
  clear U
  rintro e w1 ⟨v, rfl, hv, hf, hb⟩
  go_wp2_with fail
  refine (short_calls v R _ _ hv hf).mono ?_
  rw [if_pos (by omega), if_pos (by omega)]
  rintro e w2 ⟨v', rfl, hv', hf', rfl⟩
  go_wp2
  go_ret2
  exact ⟨_, rfl, hv', hf'.mono hb1.size, below_trans hb1 hb⟩

set_option maxRecDepth 100000 in
theorem shift_down (v : Value) (a n : Nat) (z : Int) (w : World) (h1 : Num w v a) (hz : z = -(n : Int)) (ha : a ≠ 0) (hn : n < 8388608) (hn0 : 1 ≤ n) (hl : (limbs a).length ≤ 262144) :
    Calls Try.prog 52 #[v, .int .i64 z] w (Got w (a / 2 ^ n) 0) := by
  have hz2 : -z = (n : Int) := by omega
  have t1 : (firstErr [limbs a] != 0) = false := by rw [bne_eq_false_iff_eq]; exact ok_one a (by omega)
  have hal : (limbs a).length ≠ 0 := fun e => ha (limbs_eq_nil.mp (List.eq_nil_of_length_eq_zero e))
  have t4 : (((limbs a).length : Int) == 0) = false := by rw [beq_eq_false_iff_ne]; omega
  have k1 := h1.mono (below_alloc w (.cells #[v] 75))
  have hb1 := below_alloc w (.cells #[v] 75)
  have g1 := h1
  obtain ⟨ad1, c1, rfl, s1⟩ := g1
  have t5 : ¬ z ≤ -8388608 := by omega
  have t6 : z < 0 := by omega
  clear hz
  obtain ⟨R, eR⟩ : ∃ R, a / 2 ^ n = R := ⟨_, rfl⟩
  have U := down_calls (.slice ad1 (limbs a).length c1) a n (n : Int) _ k1 rfl (by omega) (by omega)
  rw [eR] at U ⊢
  clear eR
  go_enter Try.func52, Try.ntmps52
  go_wp2_with (go_at_call 56; refine (valid1 _ (limbs a) w h1.raw).mono ?_; rintro e w' ⟨rfl, rfl⟩)
  refine U.mono ?_
  clear U
  rintro e w1 ⟨v, rfl, hv, hf, hb⟩
  go_wp2
  go_ret2
  exact ⟨_, rfl, hv, hf.mono hb1.size, below_trans hb1 hb⟩

theorem shift_none (v : Value) (a : Nat) (z : Int) (w : World) (h1 : Num w v a) (h : a = 0 ∨ z ≤ -8388608) (hl : (limbs a).length ≤ 262144) :
    Calls Try.prog 52 #[v, .int .i64 z] w (Got w 0 0) := by
  have t1 : (firstErr [limbs a] != 0) = false := by rw [bne_eq_false_iff_eq]; exact ok_one a (by omega)
  have hb1 := below_alloc w (.cells #[v] 75)
  have g1 := h1
  obtain ⟨ad1, c1, rfl, s1⟩ := g1
  by_cases ha : a = 0
  · have t4 : (((limbs a).length : Int) == 0) = true := by rw [ha, limbs_zero]; rfl
    clear ha h
    go_enter Try.func52, Try.ntmps52
    go_wp2_with (go_at_call 56; refine (valid1 _ (limbs a) w h1.raw).mono ?_; rintro e w' ⟨rfl, rfl⟩)
    go_ret2
    exact ⟨_, rfl, Num.nil _, trivial, hb1⟩
  · have hal : (limbs a).length ≠ 0 := fun e => ha (limbs_eq_nil.mp (List.eq_nil_of_length_eq_zero e))
    have t4 : (((limbs a).length : Int) == 0) = false := by rw [beq_eq_false_iff_ne]; omega
    have t5 : z ≤ -8388608 := by omega
    clear h
    go_enter Try.func52, Try.ntmps52
    go_wp2_with (go_at_call 56; refine (valid1 _ (limbs a) w h1.raw).mono ?_; rintro e w' ⟨rfl, rfl⟩)
    go_ret2
    exact ⟨_, rfl, Num.nil _, trivial, hb1⟩

theorem shift_long (v : Value) (a : Nat) (z : Int) (w : World) (h1 : Num w v a) (ha : a ≠ 0) (hz : 8388608 < z) (hl : (limbs a).length ≤ 262144) :
    Calls Try.prog 52 #[v, .int .i64 z] w (Got w 0 3) := by
  have t1 : (firstErr [limbs a] != 0) = false := by rw [bne_eq_false_iff_eq]; exact ok_one a (by omega)
  have hb1 := below_alloc w (.cells #[v] 75)
  have g1 := h1
  obtain ⟨ad1, c1, rfl, s1⟩ := g1
  have hal : (limbs a).length ≠ 0 := fun e => ha (limbs_eq_nil.mp (List.eq_nil_of_length_eq_zero e))
  have t4 : (((limbs a).length : Int) == 0) = false := by rw [beq_eq_false_iff_ne]; omega
  have t5 : ¬ z ≤ -8388608 := by omega
  have t6 : ¬ z < 0 := by omega
  go_enter Try.func52, Try.ntmps52
  go_wp2_with (go_at_call 56; refine (valid1 _ (limbs a) w h1.raw).mono ?_; rintro e w' ⟨rfl, rfl⟩)
  go_ret2
  exact ⟨_, rfl, Num.nil _, trivial, hb1⟩

end Go.Proofs

open Go.RowKit
namespace Go.Proofs
set_option linter.unusedVariables false
set_option linter.unusedSimpArgs false

theorem bits_ok (v : Value) (a : Nat) (w : World) (h1 : Num w v a) (hl : (limbs a).length ≤ 262144) :
    Calls Try.prog 51 #[v] w fun e w' => e = .returned (.tuple #[.int .i64 (bitlen a), .int .i64 0]) ∧ Below w.heap.size w w' := by
  have t1 : (firstErr [limbs a] != 0) = false := by rw [bne_eq_false_iff_eq]; exact ok_one a (by omega)
  have k1 := h1.mono (below_alloc w (.cells #[v] 75))
  have hb1 := below_alloc w (.cells #[v] 75)
  have g1 := h1
  obtain ⟨ad1, c1, rfl, s1⟩ := g1
  have L := length_calls _ a _ k1 (by omega)
  obtain ⟨bl, ebl⟩ : ∃ bl, bitlen a = bl := ⟨_, rfl⟩
  rw [ebl] at L ⊢
  clear ebl
  go_enter Try.func51, Try.ntmps51
  go_wp2_with (go_at_call 56; refine (valid1 _ (limbs a) w h1.raw).mono ?_; rintro e w' ⟨rfl, rfl⟩)
  refine L.mono ?_
  clear L
  rintro e wq ⟨rfl, rfl⟩
  go_wp2
  go_ret2
  exact ⟨rfl, hb1⟩

theorem uint64_long (v : Value) (a : Nat) (w : World) (h1 : Num w v a) (hl : (limbs a).length ≤ 262144) (h2 : 2 < (limbs a).length) :
    Calls Try.prog 37 #[v] w fun e w' => e = .returned (.tuple #[.int .u64 0, .int .i64 5]) ∧ Below w.heap.size w w' := by
  have t1 : (firstErr [limbs a] != 0) = false := by rw [bne_eq_false_iff_eq]; exact ok_one a (by omega)
  have hb1 := below_alloc w (.cells #[v] 75)
  have g1 := h1
  obtain ⟨ad1, c1, rfl, s1⟩ := g1
  go_enter Try.func37, Try.ntmps37
  go_wp2_with (go_at_call 56; refine (valid1 _ (limbs a) w h1.raw).mono ?_; rintro e w' ⟨rfl, rfl⟩)
  go_ret2
  exact ⟨rfl, hb1⟩

theorem or_first (x : Nat) (hx : x < 4294967296) : bits BinOp.or IntKind.u64 0 (x : Int) = (x : Int) := by
  have := or_limbs 0 x (by omega) hx
  simpa using this

theorem or_second (x y : Nat) (hx : x < 4294967296) (hy : y < 4294967296) : bits BinOp.or IntKind.u64 (x : Int) ((y : Int) * 4294967296) = ((y * 4294967296 + x : Nat) : Int) := or_limbs' y x hy hx

set_option maxRecDepth 100000 in
theorem uint64_ok (v : Value) (a : Nat) (w : World) (h1 : Num w v a) (h2 : (limbs a).length ≤ 2) :
    Calls Try.prog 37 #[v] w fun e w' => e = .returned (.tuple #[.int .u64 (a : Int), .int .i64 0]) ∧ Below w.heap.size w w' := by
  have t1 : (firstErr [limbs a] != 0) = false := by rw [bne_eq_false_iff_eq]; exact ok_one a (by omega)
  have hb1 := below_alloc w (.cells #[v] 75)
  have g1 := h1
  have hv := val_limbs a
  obtain ⟨ad1, c1, rfl, s1⟩ := g1
  have s2 := s1.mono (Nat.le_refl _) hb1
  have Hv := Lib.hid hv
  have h1r := h1.raw
  clear hv h1 s1
  obtain ⟨W, hW⟩ : ∃ W : World, W = w.alloc (.cells #[.slice ad1 (limbs a).length c1] 75) := ⟨_, rfl⟩
  go_enter Try.func37, Try.ntmps37
  go_wp2_with (go_at_call 56; refine (valid1 _ (limbs a) w h1r).mono ?_; rintro e w' ⟨rfl, rfl⟩)
  rw [← hW] at s2 hb1 ⊢
  clear hW h1r t1
  generalize limbs a = xs at *
  have hc := s2.1
  have hcm := s2.2.1
  unfold maxLen at hcm
  go_loop [5, 19] (fun vv iv => ∃ i : Nat, i ≤ xs.length ∧ iv = .int .i64 i ∧ vv = .int .u64 ((val (xs.take i) : Nat) : Int)) (fun _ iv => xs.length - (intOf iv).toNat)
  case atStart => exact ⟨0, Nat.zero_le _, rfl, rfl⟩
  case round =>
    obtain ⟨i, hi, rfl, rfl⟩ := hrel
    by_cases hlt : i < xs.length
    · obtain ⟨b, o, rfl, hbs, hcell, _⟩ := s2.open hlt
      have hx := s2.lt i
      have ht := val_take_succ xs i hlt
      obtain ⟨x, ex⟩ : ∃ x, xs.getD i 0 = x := ⟨_, rfl⟩
      rw [ex] at hcell hx ht
      have hvl := val_lt (xs.take i) (fun y hy => s2.2.2.1 y (List.mem_of_mem_take hy))
      rw [List.length_take, Nat.min_eq_left (by omega)] at hvl
      obtain ⟨v0, ev0⟩ : ∃ x, val (xs.take i) = x := ⟨_, rfl⟩
      rw [ev0] at ht hvl ⊢
      have Ht := Lib.hid ht
      clear ht ex
      rcases (show i = 0 ∨ i = 1 by omega) with rfl | rfl
      · rw [Nat.pow_zero] at hvl
        obtain rfl : v0 = 0 := by omega
        have hor := or_first x hx
        rw [Nat.add_zero] at hcell
        have hl0 : 0 < xs.length := hlt
        clear ev0 hvl hlt
        go_wp2
        go_round
        case rel => exact ⟨1, by omega, by go_num, by rw [Ht.out]; exact congrArg (Value.int .u64) (by omega)⟩
        case measure => simp [intOf]; omega
      · rw [Nat.pow_one] at hvl
        have hor := or_second v0 x hvl hx
        clear ev0
        go_wp2
        go_round
        case rel => exact ⟨2, by omega, by go_num, by rw [Ht.out]; exact congrArg (Value.int .u64) (by omega)⟩
        case measure => simp [intOf]; omega
    · obtain rfl : i = xs.length := by omega
      rw [List.take_of_length_le (Nat.le_refl _), Hv.out]
      go_wp2
      go_ret2
      exact ⟨rfl, hb1⟩


end Go.Proofs
