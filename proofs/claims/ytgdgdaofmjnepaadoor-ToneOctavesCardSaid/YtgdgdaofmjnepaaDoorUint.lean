/- nat.Bits, nat.Uint64, of valid numbers; the reference: Small. -/
import Derived.Test.YtgdgdaofmjnepaaDoorApi
import Derived.Test.YtgdgdaofmjnepaaDoorLen
import Derived.Test.YtgdgdaofmjnepaaDoorRBits
open Go.RowKit
namespace Go.Proofs
set_option linter.unusedVariables false

theorem bits_ok (v : Value) (a : Nat) (w : World) (h1 : Num w v a) (hl : (limbs a).length ≤ 262144) :
    Calls Tryd.prog 102 #[v] w fun e w' => e = .returned (.tuple #[.int .i64 (bitlen a), .int .i64 0]) ∧ Below w.heap.size w w' := by
  have t1 : (firstErr [limbs a] != 0) = false := by rw [bne_eq_false_iff_eq]; exact ok_one a (by omega)
  have k1 := h1.mono (below_alloc w (.cells #[v] 89))
  have hb1 := below_alloc w (.cells #[v] 89)
  have g1 := h1
  obtain ⟨ad1, c1, rfl, s1⟩ := g1
  have L := length_calls _ a _ k1 (by omega)
  obtain ⟨bl, ebl⟩ : ∃ bl, bitlen a = bl := ⟨_, rfl⟩
  rw [ebl] at L ⊢
  clear ebl
  go_enter Tryd.func102, Tryd.ntmps102
  go_wp2_with (go_at_call 107; refine (valid1 _ (limbs a) w h1.raw).mono ?_; rintro e w' ⟨rfl, rfl⟩)
  refine L.mono ?_
  clear L
  rintro e wq ⟨rfl, rfl⟩
  go_wp2
  go_ret2
  exact ⟨rfl, hb1⟩

theorem uint64_long (v : Value) (a : Nat) (w : World) (h1 : Num w v a) (hl : (limbs a).length ≤ 262144) (h2 : 2 < (limbs a).length) :
    Calls Tryd.prog 92 #[v] w fun e w' => e = .returned (.tuple #[.int .u64 0, .int .i64 5]) ∧ Below w.heap.size w w' := by
  have t1 : (firstErr [limbs a] != 0) = false := by rw [bne_eq_false_iff_eq]; exact ok_one a (by omega)
  have hb1 := below_alloc w (.cells #[v] 89)
  have g1 := h1
  obtain ⟨ad1, c1, rfl, s1⟩ := g1
  go_enter Tryd.func92, Tryd.ntmps92
  go_wp2_with (go_at_call 107; refine (valid1 _ (limbs a) w h1.raw).mono ?_; rintro e w' ⟨rfl, rfl⟩)
  go_ret2
  exact ⟨rfl, hb1⟩

theorem or_first (x : Nat) (hx : x < 4294967296) : bits BinOp.or IntKind.u64 0 (x : Int) = (x : Int) := by
  have := or_limbs 0 x (by omega) hx
  simpa using this

theorem or_second (x y : Nat) (hx : x < 4294967296) (hy : y < 4294967296) : bits BinOp.or IntKind.u64 (x : Int) ((y : Int) * 4294967296) = ((y * 4294967296 + x : Nat) : Int) := or_limbs' y x hy hx

set_option maxRecDepth 100000 in
theorem uint64_ok (v : Value) (a : Nat) (w : World) (h1 : Num w v a) (h2 : (limbs a).length ≤ 2) :
    Calls Tryd.prog 92 #[v] w fun e w' => e = .returned (.tuple #[.int .u64 (a : Int), .int .i64 0]) ∧ Below w.heap.size w w' := by
  have t1 : (firstErr [limbs a] != 0) = false := by rw [bne_eq_false_iff_eq]; exact ok_one a (by omega)
  have hb1 := below_alloc w (.cells #[v] 89)
  have g1 := h1
  have hv := val_limbs a
  obtain ⟨ad1, c1, rfl, s1⟩ := g1
  have s2 := s1.mono (Nat.le_refl _) hb1
  have Hv := Lib.hid hv
  have h1r := h1.raw
  clear hv h1 s1
  obtain ⟨W, hW⟩ : ∃ W : World, W = w.alloc (.cells #[.slice ad1 (limbs a).length c1] 89) := ⟨_, rfl⟩
  go_enter Tryd.func92, Tryd.ntmps92
  go_wp2_with (go_at_call 107; refine (valid1 _ (limbs a) w h1r).mono ?_; rintro e w' ⟨rfl, rfl⟩)
  rw [← hW] at s2 hb1 ⊢
  clear hW h1r t1
  generalize limbs a = xs at *
  have hc := s2.1
  have hcm := s2.2.1
  unfold maxLen at hcm
  go_loop [5, 19] (fun vv iv => ∃ i : Nat, i ≤ xs.length ∧ iv = .int .i64 i ∧ vv = .int .u64 ((val (xs.take i) : Nat) : Int)) (fun _ iv => xs.length - (intOf iv).toNat)
  case atStart => exact ⟨0, Nat.zero_le _, rfl, rfl⟩
  case round =>
    obtain ⟨i, hi, rfl, rfl⟩ := hrel
    by_cases hlt : i < xs.length
    · obtain ⟨b, o, rfl, hbs, hcell, _⟩ := s2.open hlt
      have hx := s2.lt i
      have ht := val_take_succ xs i hlt
      obtain ⟨x, ex⟩ : ∃ x, xs.getD i 0 = x := ⟨_, rfl⟩
      rw [ex] at hcell hx ht
      have hvl := val_lt (xs.take i) (fun y hy => s2.2.2.1 y (List.mem_of_mem_take hy))
      rw [List.length_take, Nat.min_eq_left (by omega)] at hvl
      obtain ⟨v0, ev0⟩ : ∃ x, val (xs.take i) = x := ⟨_, rfl⟩
      rw [ev0] at ht hvl ⊢
      have Ht := Lib.hid ht
      clear ht ex
      rcases (show i = 0 ∨ i = 1 by omega) with rfl | rfl
      · rw [Nat.pow_zero] at hvl
        obtain rfl : v0 = 0 := by omega
        have hor := or_first x hx
        rw [Nat.add_zero] at hcell
        have hl0 : 0 < xs.length := hlt
        clear ev0 hvl hlt
        go_wp2
        go_round
        case rel => exact ⟨1, by omega, by go_num, by rw [Ht.out]; exact congrArg (Value.int .u64) (by omega)⟩
        case measure => simp [intOf]; omega
      · rw [Nat.pow_one] at hvl
        have hor := or_second v0 x hvl hx
        clear ev0
        go_wp2
        go_round
        case rel => exact ⟨2, by omega, by go_num, by rw [Ht.out]; exact congrArg (Value.int .u64) (by omega)⟩
        case measure => simp [intOf]; omega
    · obtain rfl : i = xs.length := by omega
      rw [List.take_of_length_le (Nat.le_refl _), Hv.out]
      go_wp2
      go_ret2
      exact ⟨rfl, hb1⟩

theorem small_long (v : Value) (a : Nat) (w : World) (h1 : Num w v a) (h2 : 2 < (limbs a).length) :
    Calls Tryd.prog 48 #[v] w fun e w' => e = .returned (.tuple #[.int .u64 0, .bool false]) ∧ w = w' := by
  obtain ⟨ad1, c1, rfl, s1⟩ := h1
  go_enter Tryd.func48, Tryd.ntmps48
  go_wp2
  go_ret2
  exact ⟨rfl, rfl⟩

set_option maxRecDepth 100000 in
theorem small_ok (v : Value) (a : Nat) (w : World) (h1 : Num w v a) (h2 : (limbs a).length ≤ 2) :
    Calls Tryd.prog 48 #[v] w fun e w' => e = .returned (.tuple #[.int .u64 (a : Int), .bool true]) ∧ w = w' := by
  obtain ⟨ad1, c1, rfl, s1⟩ := h1
  have hv := val_limbs a
  have hlt := val_lt (limbs a) (limbs_lt a)
  have Hv := Lib.hid hv
  clear hv
  generalize limbs a = xs at *
  have hc := s1.1
  have hcm := s1.2.1
  unfold maxLen at hcm
  go_enter Tryd.func48, Tryd.ntmps48
  go_wp2
  go_loop [4, 5] (fun vv iv => ∃ i : Nat, i ≤ xs.length ∧ iv = .int .i64 ((i : Int) - 1) ∧ vv = .int .u64 ((val (xs.drop i) : Nat) : Int)) (fun _ iv => (intOf iv + 1).toNat)
  case atStart => exact ⟨xs.length, Nat.le_refl _, rfl, by rw [List.drop_of_length_le (Nat.le_refl _)]; rfl⟩
  case round =>
    obtain ⟨i, hi, rfl, rfl⟩ := hrel
    by_cases h0 : 0 < i
    · obtain ⟨j, rfl⟩ : ∃ j, i = j + 1 := ⟨i - 1, by omega⟩
      rw [show (((j + 1 : Nat) : Int) - 1) = (j : Int) from by omega]
      obtain ⟨b, o, rfl, hbs, hcell, _⟩ := s1.open (i := j) (by omega)
      have hx := s1.lt j
      have ht := val_drop_cons xs j (by omega)
      have hvl := val_lt (xs.drop (j + 1)) (fun y hy => s1.2.2.1 y (List.mem_of_mem_drop hy))
      have hvl2 : val (xs.drop (j + 1)) < 4294967296 := by
        refine Nat.lt_of_lt_of_le hvl ?_
        have := Nat.pow_le_pow_right (show 0 < 4294967296 by omega) (show (xs.drop (j + 1)).length ≤ 1 by rw [List.length_drop]; omega)
        omega
      obtain ⟨x, ex⟩ : ∃ x, xs.getD j 0 = x := ⟨_, rfl⟩
      rw [ex] at hcell hx ht
      obtain ⟨v0, ev0⟩ : ∃ x, val (xs.drop (j + 1)) = x := ⟨_, rfl⟩
      rw [ev0] at ht hvl2 ⊢
      have Ht := Lib.hid ht
      clear ht ex ev0 hvl hlt
      go_wp2
      go_round
      case rel => exact ⟨j, by omega, rfl, by rw [Ht.out]; exact congrArg (Value.int .u64) (by omega)⟩
      case measure => simp [intOf]
    · obtain rfl : i = 0 := by omega
      rw [List.drop_zero, Hv.out]
      go_wp2
      go_ret2
      exact ⟨rfl, rfl⟩

end Go.Proofs
