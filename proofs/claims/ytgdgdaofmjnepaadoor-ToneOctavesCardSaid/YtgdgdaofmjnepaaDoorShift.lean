/- nat.Shift, of a valid number. -/
import Derived.Test.YtgdgdaofmjnepaaDoorApi
import Derived.Test.YtgdgdaofmjnepaaDoorUp
import Derived.Test.YtgdgdaofmjnepaaDoorDown
open Go.RowKit
namespace Go.Proofs
set_option linter.unusedVariables false

set_option maxRecDepth 100000 in
theorem shift_up (v : Value) (a n : Nat) (z : Int) (w : World) (h1 : Num w v a) (hz : z = (n : Int)) (ha : a ≠ 0) (hn : n ≤ 8388608) (hl : (limbs a).length ≤ 262144) (hr : (limbs (a * 2 ^ n)).length ≤ 262144) :
    Calls Tryd.prog 103 #[v, .int .i64 z] w (Got w (a * 2 ^ n) 0) := by
  subst hz
  have t1 : (firstErr [limbs a] != 0) = false := by rw [bne_eq_false_iff_eq]; exact ok_one a (by omega)
  have hal : (limbs a).length ≠ 0 := fun e => ha (limbs_eq_nil.mp (List.eq_nil_of_length_eq_zero e))
  have t4 : (((limbs a).length : Int) == 0) = false := by rw [beq_eq_false_iff_ne]; omega
  have k1 := h1.mono (below_alloc w (.cells #[v] 89))
  have hb1 := below_alloc w (.cells #[v] 89)
  have g1 := h1
  obtain ⟨ad1, c1, rfl, s1⟩ := g1
  obtain ⟨R, eR⟩ : ∃ R, a * 2 ^ n = R := ⟨_, rfl⟩
  have U := up_calls (.slice ad1 (limbs a).length c1) a n (n : Int) _ k1 rfl (by omega) (by omega)
  rw [eR] at U hr ⊢
  clear eR
  go_enter Tryd.func103, Tryd.ntmps103
  go_wp2_with (go_at_call 107; refine (valid1 _ (limbs a) w h1.raw).mono ?_; rintro e w' ⟨rfl, rfl⟩)
  refine U.mono ?_
  clear U
  rintro e w1 ⟨v, rfl, hv, hf, hb⟩
  go_wp2_with fail
  refine (short_calls v R _ _ hv hf).mono ?_
  rw [if_neg (by omega), if_neg (by omega)]
  rintro e w2 ⟨v', rfl, hv', hf', rfl⟩
  go_wp2
  go_ret2
  exact ⟨_, rfl, hv', hf'.mono hb1.size, below_trans hb1 hb⟩

set_option maxRecDepth 100000 in
theorem shift_over (v : Value) (a n : Nat) (z : Int) (w : World) (h1 : Num w v a) (hz : z = (n : Int)) (ha : a ≠ 0) (hn : n ≤ 8388608) (hl : (limbs a).length ≤ 262144) (hr : 262144 < (limbs (a * 2 ^ n)).length) :
    Calls Tryd.prog 103 #[v, .int .i64 z] w (Got w 0 3) := by
  subst hz
  have t1 : (firstErr [limbs a] != 0) = false := by rw [bne_eq_false_iff_eq]; exact ok_one a (by omega)
  have hal : (limbs a).length ≠ 0 := fun e => ha (limbs_eq_nil.mp (List.eq_nil_of_length_eq_zero e))
  have t4 : (((limbs a).length : Int) == 0) = false := by rw [beq_eq_false_iff_ne]; omega
  have k1 := h1.mono (below_alloc w (.cells #[v] 89))
  have hb1 := below_alloc w (.cells #[v] 89)
  have g1 := h1
  obtain ⟨ad1, c1, rfl, s1⟩ := g1
  obtain ⟨R, eR⟩ : ∃ R, a * 2 ^ n = R := ⟨_, rfl⟩
  have U := up_calls (.slice ad1 (limbs a).length c1) a n (n : Int) _ k1 rfl (by omega) (by omega)
  rw [eR] at U hr
  clear eR
  go_enter Tryd.func103, Tryd.ntmps103
  go_wp2_with (go_at_call 107; refine (valid1 _ (limbs a) w h1.raw).mono ?_; rintro e w' ⟨rfl, rfl⟩)
  refine U.mono ?_
  clear U
  rintro e w1 ⟨v, rfl, hv, hf, hb⟩
  go_wp2_with fail
  refine (short_calls v R _ _ hv hf).mono ?_
  rw [if_pos (by omega), if_pos (by omega)]
  rintro e w2 ⟨v', rfl, hv', hf', rfl⟩
  go_wp2
  go_ret2
  exact ⟨_, rfl, hv', hf'.mono hb1.size, below_trans hb1 hb⟩

set_option maxRecDepth 100000 in
theorem shift_down (v : Value) (a n : Nat) (z : Int) (w : World) (h1 : Num w v a) (hz : z = -(n : Int)) (ha : a ≠ 0) (hn : n < 8388608) (hn0 : 1 ≤ n) (hl : (limbs a).length ≤ 262144) :
    Calls Tryd.prog 103 #[v, .int .i64 z] w (Got w (a / 2 ^ n) 0) := by
  have hz2 : -z = (n : Int) := by omega
  have t1 : (firstErr [limbs a] != 0) = false := by rw [bne_eq_false_iff_eq]; exact ok_one a (by omega)
  have hal : (limbs a).length ≠ 0 := fun e => ha (limbs_eq_nil.mp (List.eq_nil_of_length_eq_zero e))
  have t4 : (((limbs a).length : Int) == 0) = false := by rw [beq_eq_false_iff_ne]; omega
  have k1 := h1.mono (below_alloc w (.cells #[v] 89))
  have hb1 := below_alloc w (.cells #[v] 89)
  have g1 := h1
  obtain ⟨ad1, c1, rfl, s1⟩ := g1
  have t5 : ¬ z ≤ -8388608 := by omega
  have t6 : z < 0 := by omega
  clear hz
  obtain ⟨R, eR⟩ : ∃ R, a / 2 ^ n = R := ⟨_, rfl⟩
  have U := down_calls (.slice ad1 (limbs a).length c1) a n (n : Int) _ k1 rfl (by omega) (by omega)
  rw [eR] at U ⊢
  clear eR
  go_enter Tryd.func103, Tryd.ntmps103
  go_wp2_with (go_at_call 107; refine (valid1 _ (limbs a) w h1.raw).mono ?_; rintro e w' ⟨rfl, rfl⟩)
  refine U.mono ?_
  clear U
  rintro e w1 ⟨v, rfl, hv, hf, hb⟩
  go_wp2
  go_ret2
  exact ⟨_, rfl, hv, hf.mono hb1.size, below_trans hb1 hb⟩

theorem shift_none (v : Value) (a : Nat) (z : Int) (w : World) (h1 : Num w v a) (h : a = 0 ∨ z ≤ -8388608) (hl : (limbs a).length ≤ 262144) :
    Calls Tryd.prog 103 #[v, .int .i64 z] w (Got w 0 0) := by
  have t1 : (firstErr [limbs a] != 0) = false := by rw [bne_eq_false_iff_eq]; exact ok_one a (by omega)
  have hb1 := below_alloc w (.cells #[v] 89)
  have g1 := h1
  obtain ⟨ad1, c1, rfl, s1⟩ := g1
  by_cases ha : a = 0
  · have t4 : (((limbs a).length : Int) == 0) = true := by rw [ha, limbs_zero]; rfl
    clear ha h
    go_enter Tryd.func103, Tryd.ntmps103
    go_wp2_with (go_at_call 107; refine (valid1 _ (limbs a) w h1.raw).mono ?_; rintro e w' ⟨rfl, rfl⟩)
    go_ret2
    exact ⟨_, rfl, Num.nil _, trivial, hb1⟩
  · have hal : (limbs a).length ≠ 0 := fun e => ha (limbs_eq_nil.mp (List.eq_nil_of_length_eq_zero e))
    have t4 : (((limbs a).length : Int) == 0) = false := by rw [beq_eq_false_iff_ne]; omega
    have t5 : z ≤ -8388608 := by omega
    clear h
    go_enter Tryd.func103, Tryd.ntmps103
    go_wp2_with (go_at_call 107; refine (valid1 _ (limbs a) w h1.raw).mono ?_; rintro e w' ⟨rfl, rfl⟩)
    go_ret2
    exact ⟨_, rfl, Num.nil _, trivial, hb1⟩

theorem shift_long (v : Value) (a : Nat) (z : Int) (w : World) (h1 : Num w v a) (ha : a ≠ 0) (hz : 8388608 < z) (hl : (limbs a).length ≤ 262144) :
    Calls Tryd.prog 103 #[v, .int .i64 z] w (Got w 0 3) := by
  have t1 : (firstErr [limbs a] != 0) = false := by rw [bne_eq_false_iff_eq]; exact ok_one a (by omega)
  have hb1 := below_alloc w (.cells #[v] 89)
  have g1 := h1
  obtain ⟨ad1, c1, rfl, s1⟩ := g1
  have hal : (limbs a).length ≠ 0 := fun e => ha (limbs_eq_nil.mp (List.eq_nil_of_length_eq_zero e))
  have t4 : (((limbs a).length : Int) == 0) = false := by rw [beq_eq_false_iff_ne]; omega
  have t5 : ¬ z ≤ -8388608 := by omega
  have t6 : ¬ z < 0 := by omega
  go_enter Tryd.func103, Tryd.ntmps103
  go_wp2_with (go_at_call 107; refine (valid1 _ (limbs a) w h1.raw).mono ?_; rintro e w' ⟨rfl, rfl⟩)
  go_ret2
  exact ⟨_, rfl, Num.nil _, trivial, hb1⟩

end Go.Proofs
