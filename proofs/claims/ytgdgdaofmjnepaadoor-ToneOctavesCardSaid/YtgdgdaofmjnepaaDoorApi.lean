/- The exported functions of nat of two numbers: each returns the first error of its arguments, or, of valid ones, the number that the document names. -/
import Derived.Test.YtgdgdaofmjnepaaDoorPart
import Derived.Test.YtgdgdaofmjnepaaDoorValid
import Derived.Test.YtgdgdaofmjnepaaDoorTimes
import Derived.Test.YtgdgdaofmjnepaaDoorPlus
import Derived.Test.YtgdgdaofmjnepaaDoorMinus
import Derived.Test.YtgdgdaofmjnepaaDoorCompare
open Go.RowKit
namespace Go.Proofs
set_option linter.unusedVariables false

theorem row_two (w : World) (x y : Nat) (e : Nat) (hx : x < 4294967296) (hy : y < 4294967296) : Row (w.alloc (.cells #[Value.int .u32 (x : Int), Value.int .u32 (y : Int)] e)) w.heap.size [x, y] := by
  refine ⟨by intro z hz; simp at hz; omega, e, ?_⟩
  rw [heap_alloc_new]; rfl

theorem ok_one (a : Nat) (h : (limbs a).length ≤ 262144) : firstErr [limbs a] = 0 := by
  simp [firstErr, chk_limbs, show ¬ 262144 < (limbs a).length by omega]
theorem ok_two (a b : Nat) (h : (limbs a).length ≤ 262144) (k : (limbs b).length ≤ 262144) : firstErr [limbs a, limbs b] = 0 := by
  simp [firstErr, chk_limbs, show ¬ 262144 < (limbs a).length by omega, show ¬ 262144 < (limbs b).length by omega]
theorem ok_three (a b c : Nat) (h : (limbs a).length ≤ 262144) (k : (limbs b).length ≤ 262144) (l : (limbs c).length ≤ 262144) : firstErr [limbs a, limbs b, limbs c] = 0 := by
  simp [firstErr, chk_limbs, show ¬ 262144 < (limbs a).length by omega, show ¬ 262144 < (limbs b).length by omega, show ¬ 262144 < (limbs c).length by omega]

/-- Of returns the number -/
theorem of_calls (n : Nat) (z : Int) (w : World) (hz : z = (n : Int)) (hn : n < 18446744073709551616) :
    Calls Tryd.prog 88 #[.int .u64 z] w (RetNum w n) := by
  subst hz
  have hlo : (n : Int) % 4294967296 = ((n % 4294967296 : Nat) : Int) := rfl
  have hhi : (n : Int) / 4294967296 = ((n / 4294967296 : Nat) : Int) := rfl
  have hhi2 : (n : Int) / 4294967296 % 4294967296 = ((n / 4294967296 : Nat) : Int) := by omega
  have hr := row_two w (n % 4294967296) (n / 4294967296) 102 (by omega) (by omega)
  have hb := below_alloc w (.cells #[Value.int .u32 ((n % 4294967296 : Nat) : Int), Value.int .u32 ((n / 4294967296 : Nat) : Int)] 102)
  have hs := hr.whole (by simp [maxLen])
  have hval : val [n % 4294967296, n / 4294967296] = n := by simp only [val]; omega
  generalize n % 4294967296 = lo at *
  generalize n / 4294967296 = hi at *
  go_enter Tryd.func88, Tryd.ntmps88
  go_wp2_with fail
  refine (trim_calls _ _ 2 _ _ hs rfl).mono ?_
  rintro e w1 ⟨k, rfl, hv, rfl⟩
  rw [hval] at hv
  go_wp2
  go_ret
  exact ⟨_, rfl, hv, Nat.le_refl _, hb⟩

theorem mul_err (v1 v2 : Value) (x1 x2 : List Nat) (w : World) (h1 : Raw w v1 x1) (h2 : Raw w v2 x2) (he : firstErr [x1, x2] ≠ 0) :
    Calls Tryd.prog 89 #[v1, v2] w fun e w' => e = .returned (.tuple #[.slice none 0 0, .int .i64 (firstErr [x1, x2])]) ∧ Below w.heap.size w w' := by
  have t1 : (firstErr [x1, x2] != 0) = true := by rw [bne_iff_ne]; exact he
  clear he
  have g1 := h1
  obtain ⟨ad1, c1, rfl, s1⟩ := g1
  have g2 := h2
  obtain ⟨ad2, c2, rfl, s2⟩ := g2
  go_enter Tryd.func89, Tryd.ntmps89
  go_wp2_with fail
  refine (valid2 _ _ x1 x2 w h1 h2).mono ?_
  rintro e w' ⟨rfl, rfl⟩
  go_wp2
  go_ret2
  exact ⟨rfl, below_alloc _ _⟩



theorem cmp_err (v1 v2 : Value) (x1 x2 : List Nat) (w : World) (h1 : Raw w v1 x1) (h2 : Raw w v2 x2) (he : firstErr [x1, x2] ≠ 0) :
    Calls Tryd.prog 77 #[v1, v2] w fun e w' => e = .returned (.tuple #[.int .i64 0, .int .i64 (firstErr [x1, x2])]) ∧ Below w.heap.size w w' := by
  have t1 : (firstErr [x1, x2] != 0) = true := by rw [bne_iff_ne]; exact he
  clear he
  have g1 := h1
  obtain ⟨ad1, c1, rfl, s1⟩ := g1
  have g2 := h2
  obtain ⟨ad2, c2, rfl, s2⟩ := g2
  go_enter Tryd.func77, Tryd.ntmps77
  go_wp2_with fail
  refine (valid2 _ _ x1 x2 w h1 h2).mono ?_
  rintro e w' ⟨rfl, rfl⟩
  go_wp2
  go_ret2
  exact ⟨rfl, below_alloc _ _⟩

theorem divmod_err (v1 v2 : Value) (x1 x2 : List Nat) (w : World) (h1 : Raw w v1 x1) (h2 : Raw w v2 x2) (he : firstErr [x1, x2] ≠ 0) :
    Calls Tryd.prog 90 #[v1, v2] w fun e w' => e = .returned (.tuple #[.slice none 0 0, .slice none 0 0, .int .i64 (firstErr [x1, x2])]) ∧ Below w.heap.size w w' := by
  have t1 : (firstErr [x1, x2] != 0) = true := by rw [bne_iff_ne]; exact he
  clear he
  have g1 := h1
  obtain ⟨ad1, c1, rfl, s1⟩ := g1
  have g2 := h2
  obtain ⟨ad2, c2, rfl, s2⟩ := g2
  go_enter Tryd.func90, Tryd.ntmps90
  go_wp2_with fail
  refine (valid2 _ _ x1 x2 w h1 h2).mono ?_
  rintro e w' ⟨rfl, rfl⟩
  go_wp2
  go_ret3
  exact ⟨rfl, below_alloc _ _⟩

theorem bits_err (v1 : Value) (x1 : List Nat) (w : World) (h1 : Raw w v1 x1) (he : firstErr [x1] ≠ 0) :
    Calls Tryd.prog 102 #[v1] w fun e w' => e = .returned (.tuple #[.int .i64 0, .int .i64 (firstErr [x1])]) ∧ Below w.heap.size w w' := by
  have t1 : (firstErr [x1] != 0) = true := by rw [bne_iff_ne]; exact he
  clear he
  have g1 := h1
  obtain ⟨ad1, c1, rfl, s1⟩ := g1
  go_enter Tryd.func102, Tryd.ntmps102
  go_wp2_with fail
  refine (valid1 _ x1 w h1).mono ?_
  rintro e w' ⟨rfl, rfl⟩
  go_wp2
  go_ret2
  exact ⟨rfl, below_alloc _ _⟩

theorem uint64_err (v1 : Value) (x1 : List Nat) (w : World) (h1 : Raw w v1 x1) (he : firstErr [x1] ≠ 0) :
    Calls Tryd.prog 92 #[v1] w fun e w' => e = .returned (.tuple #[.int .u64 0, .int .i64 (firstErr [x1])]) ∧ Below w.heap.size w w' := by
  have t1 : (firstErr [x1] != 0) = true := by rw [bne_iff_ne]; exact he
  clear he
  have g1 := h1
  obtain ⟨ad1, c1, rfl, s1⟩ := g1
  go_enter Tryd.func92, Tryd.ntmps92
  go_wp2_with fail
  refine (valid1 _ x1 w h1).mono ?_
  rintro e w' ⟨rfl, rfl⟩
  go_wp2
  go_ret2
  exact ⟨rfl, below_alloc _ _⟩

theorem shift_err (v1 : Value) (x1 : List Nat) (z : Int) (w : World) (h1 : Raw w v1 x1) (he : firstErr [x1] ≠ 0) :
    Calls Tryd.prog 103 #[v1, .int .i64 z] w fun e w' => e = .returned (.tuple #[.slice none 0 0, .int .i64 (firstErr [x1])]) ∧ Below w.heap.size w w' := by
  have t1 : (firstErr [x1] != 0) = true := by rw [bne_iff_ne]; exact he
  clear he
  have g1 := h1
  obtain ⟨ad1, c1, rfl, s1⟩ := g1
  go_enter Tryd.func103, Tryd.ntmps103
  go_wp2_with fail
  refine (valid1 _ x1 w h1).mono ?_
  rintro e w' ⟨rfl, rfl⟩
  go_wp2
  go_ret2
  exact ⟨rfl, below_alloc _ _⟩

theorem pow_err (v1 : Value) (x1 : List Nat) (z : Int) (w : World) (h1 : Raw w v1 x1) (he : firstErr [x1] ≠ 0) :
    Calls Tryd.prog 87 #[v1, .int .i64 z] w fun e w' => e = .returned (.tuple #[.slice none 0 0, .int .i64 (firstErr [x1])]) ∧ Below w.heap.size w w' := by
  have t1 : (firstErr [x1] != 0) = true := by rw [bne_iff_ne]; exact he
  clear he
  have g1 := h1
  obtain ⟨ad1, c1, rfl, s1⟩ := g1
  go_enter Tryd.func87, Tryd.ntmps87
  go_wp2_with fail
  refine (valid1 _ x1 w h1).mono ?_
  rintro e w' ⟨rfl, rfl⟩
  go_wp2
  go_ret2
  exact ⟨rfl, below_alloc _ _⟩

theorem root_err (v1 : Value) (x1 : List Nat) (z : Int) (w : World) (h1 : Raw w v1 x1) (he : firstErr [x1] ≠ 0) :
    Calls Tryd.prog 91 #[v1, .int .i64 z] w fun e w' => e = .returned (.tuple #[.slice none 0 0, .int .i64 (firstErr [x1])]) ∧ Below w.heap.size w w' := by
  have t1 : (firstErr [x1] != 0) = true := by rw [bne_iff_ne]; exact he
  clear he
  have g1 := h1
  obtain ⟨ad1, c1, rfl, s1⟩ := g1
  go_enter Tryd.func91, Tryd.ntmps91
  go_wp2_with fail
  refine (valid1 _ x1 w h1).mono ?_
  rintro e w' ⟨rfl, rfl⟩
  go_wp2
  go_ret2
  exact ⟨rfl, below_alloc _ _⟩




theorem mul_ok (v1 v2 : Value) (a b : Nat) (w : World) (h1 : Num w v1 a) (h2 : Num w v2 b) (hl : (limbs a).length + (limbs b).length ≤ 262144) :
    Calls Tryd.prog 89 #[v1, v2] w (Got w (a * b) 0) := by
  have t1 : (firstErr [limbs a, limbs b] != 0) = false := by rw [bne_eq_false_iff_eq]; exact ok_two a b (by omega) (by omega)
  have hlm := limbs_length_mul a b
  have t2 : decide (262145 < ((limbs a).length : Int) + ((limbs b).length : Int)) = false := by rw [decide_eq_false_iff_not]; omega
  have k1 := h1.mono (below_alloc w (.cells #[v1, v2] 89))
  have k2 := h2.mono (below_alloc w (.cells #[v1, v2] 89))
  have hb1 := below_alloc w (.cells #[v1, v2] 89)
  have g1 := h1
  have g2 := h2
  obtain ⟨ad1, c1, rfl, s1⟩ := g1
  obtain ⟨ad2, c2, rfl, s2⟩ := g2
  go_enter Tryd.func89, Tryd.ntmps89
  go_wp2_with (go_at_call 107; refine (valid2 _ _ (limbs a) (limbs b) w h1.raw h2.raw).mono ?_; rintro e w' ⟨rfl, rfl⟩)
  go_wp2_with fail
  refine (times_calls _ _ a b _ k1 k2 (by omega) (by omega)).mono ?_
  rintro e w1 ⟨v, rfl, hv, hf, hb⟩
  go_wp2_with fail
  refine (short_calls v (a * b) _ _ hv hf).mono ?_
  rw [if_neg (by omega), if_neg (by omega)]
  rintro e w2 ⟨v', rfl, hv', hf', rfl⟩
  go_wp2
  go_ret2
  exact ⟨_, rfl, hv', hf'.mono hb1.size, below_trans hb1 hb⟩

theorem cmp_ok (v1 v2 : Value) (a b : Nat) (w : World) (h1 : Num w v1 a) (h2 : Num w v2 b) (hl : (limbs a).length ≤ 262144 ∧ (limbs b).length ≤ 262144) :
    Calls Tryd.prog 77 #[v1, v2] w fun e w' => e = .returned (.tuple #[.int .i64 (cmpInt a b), .int .i64 0]) ∧ Below w.heap.size w w' := by
  have t1 : (firstErr [limbs a, limbs b] != 0) = false := by rw [bne_eq_false_iff_eq]; exact ok_two a b (by omega) (by omega)
  have k1 := h1.mono (below_alloc w (.cells #[v1, v2] 89))
  have k2 := h2.mono (below_alloc w (.cells #[v1, v2] 89))
  have hb1 := below_alloc w (.cells #[v1, v2] 89)
  have g1 := h1
  have g2 := h2
  obtain ⟨ad1, c1, rfl, s1⟩ := g1
  obtain ⟨ad2, c2, rfl, s2⟩ := g2
  go_enter Tryd.func77, Tryd.ntmps77
  go_wp2_with (go_at_call 107; refine (valid2 _ _ (limbs a) (limbs b) w h1.raw h2.raw).mono ?_; rintro e w' ⟨rfl, rfl⟩)
  refine (compare_calls _ _ a b _ _ k1 k2 rfl (by omega) (by omega)).mono ?_
  rintro e w1 ⟨rfl, hb⟩
  go_wp2
  go_ret2
  exact ⟨rfl, below_trans hb1 hb⟩
theorem divmod_ok (v1 v2 : Value) (a b : Nat) (w : World) (h1 : Num w v1 a) (h2 : Num w v2 b) (hl : (limbs a).length ≤ 262144 ∧ (limbs b).length ≤ 262144) (hb0 : b ≠ 0) :
    Calls Tryd.prog 90 #[v1, v2] w fun e w' => ∃ q r, e = .returned (.tuple #[q, r, .int .i64 0]) ∧ Num w' q (a / b) ∧ Num w' r (a % b) ∧ Fresh w.heap.size q ∧ Fresh w.heap.size r ∧ Sep q r ∧ Below w.heap.size w w' := by
  have t1 : (firstErr [limbs a, limbs b] != 0) = false := by rw [bne_eq_false_iff_eq]; exact ok_two a b (by omega) (by omega)
  have hbl : (limbs b).length ≠ 0 := fun e => hb0 (limbs_eq_nil.mp (List.eq_nil_of_length_eq_zero e))
  have k1 := h1.mono (below_alloc w (.cells #[v1, v2] 89))
  have k2 := h2.mono (below_alloc w (.cells #[v1, v2] 89))
  have hb1 := below_alloc w (.cells #[v1, v2] 89)
  have g1 := h1
  have g2 := h2
  obtain ⟨ad1, c1, rfl, s1⟩ := g1
  obtain ⟨ad2, c2, rfl, s2⟩ := g2
  go_enter Tryd.func90, Tryd.ntmps90
  go_wp2_with (go_at_call 107; refine (valid2 _ _ (limbs a) (limbs b) w h1.raw h2.raw).mono ?_; rintro e w' ⟨rfl, rfl⟩)
  refine (part_calls _ _ a b _ k1 k2 hb0 (by omega) (by omega)).mono ?_
  rintro e w1 ⟨q, r, rfl, hq, hr, hfq, hfr, hsep, hb⟩
  go_wp2
  go_ret3
  exact ⟨_, _, rfl, hq, hr, hfq.mono hb1.size, hfr.mono hb1.size, hsep, below_trans hb1 hb⟩

theorem divmod_zero (v1 v2 : Value) (a : Nat) (w : World) (h1 : Num w v1 a) (h2 : Num w v2 0) (hl : (limbs a).length ≤ 262144) :
    Calls Tryd.prog 90 #[v1, v2] w fun e w' => e = .returned (.tuple #[.slice none 0 0, .slice none 0 0, .int .i64 4]) ∧ Below w.heap.size w w' := by
  have t1 : (firstErr [limbs a, []] != 0) = false := by rw [bne_eq_false_iff_eq, ← limbs_zero]; exact ok_two a 0 (by omega) (by rw [limbs_zero]; simp)
  have g1 := h1
  obtain ⟨ad1, c1, rfl, s1⟩ := g1
  have g2 := h2
  obtain ⟨ad2, c2, rfl, s2⟩ := g2
  have hb1 := below_alloc w (.cells #[.slice ad1 (limbs a).length c1, .slice ad2 (limbs 0).length c2] 89)
  have hr2 := h2.raw
  rw [limbs_zero] at *
  change Raw w (.slice ad2 0 c2) [] at hr2
  go_enter Tryd.func90, Tryd.ntmps90
  go_wp2_with (go_at_call 107; refine (valid2 _ _ (limbs a) [] w h1.raw hr2).mono ?_; rintro e w' ⟨rfl, rfl⟩)
  go_ret3
  exact ⟨rfl, hb1⟩

end Go.Proofs
