/- The law's helpers for numbers that are short and well formed: whole, add, sub, mul, same. -/
import Derived.Test.YtbpkobjiinkpoaaLaw
open Go.RowKit
namespace Go.Proofs
set_option linter.unusedVariables false
set_option linter.unusedSimpArgs false

theorem whole_calls (v : Value) (xs : List Nat) (n : Nat) (z : Int) (w : World) (hv : In w v xs) (hz : z = (n : Int)) (hn : n ≤ 1000000) :
    Calls Try.prog 13 #[v, .int .i64 z] w (RetNum w (val (xs.take n))) := by
  subst hz
  go_enter Try.func13, Try.ntmps13
  go_wp2_with fail
  refine (cut_calls _ xs n _ _ hv rfl hn).mono ?_
  rintro e w1 ⟨v1, rfl, hr, hf, hb⟩
  obtain ⟨ad, c, rfl, hs⟩ := hr
  clear hv
  have hlen : (xs.take n).length ≤ 1000000 := by rw [List.length_take]; omega
  obtain ⟨ys, eys⟩ : ∃ ys, xs.take n = ys := ⟨_, rfl⟩
  rw [eys] at hs hlen hf ⊢
  have hff : ∀ k, Fresh w.heap.size (.slice ad k c) := by
    intro k
    cases ad with
    | none => exact hf
    | some a => exact hf
  have Eys := Lib.hid eys
  clear eys
  have hc := hs.1
  have hcm := hs.2.1
  unfold maxLen at hcm
  go_wp2
  go_loop [0] (fun v => ∃ m : Nat, m ≤ ys.length ∧ v = .slice ad m c ∧ val (ys.take m) = val ys) (fun v => lenOf v)
  case atStart => exact ⟨ys.length, Nat.le_refl _, rfl, by simp⟩
  case round =>
    obtain ⟨m, hm, rfl, hv⟩ := hrel
    have Hv := Lib.hid hv
    clear hv
    by_cases h0 : 0 < m
    · obtain ⟨b, o, rfl, hbs, hcell, hfr⟩ := hs.open (i := m - 1) (by omega)
      obtain ⟨x, ex⟩ : ∃ x, ys.getD (m - 1) 0 = x := ⟨_, rfl⟩
      rw [ex] at hcell
      have Hx := Lib.hid ex
      clear ex hfr
      have ht : (0 : Int) < (m : Int) := by omega
      by_cases hx0 : x = 0
      · subst hx0
        go_wp2
        go_round
        case rel => exact ⟨m - 1, by omega, rfl, (val_take_pred ys m h0 hm Hx.out).trans Hv.out⟩
        case measure => simp [lenOf]; omega
      · have t1 : ((x : Int) == 0) = false := by rw [beq_eq_false_iff_ne]; omega
        have e := limbs_of_take ys m hm hs.2.2.1 Hv.out (.inr (by rw [Hx.out]; exact hx0))
        have E := Lib.hid e
        clear e
        go_wp2
        go_ret
        have hst := hs.take m
        rw [← E.out] at hst
        rw [Eys.out]
        exact ⟨_, rfl, ⟨_, _, by rw [E.out, List.length_take, Nat.min_eq_left hm]; rfl, hst⟩, hff _, hb⟩
    · obtain rfl : m = 0 := by omega
      have e := limbs_of_take ys 0 hm hs.2.2.1 Hv.out (.inl rfl)
      have E := Lib.hid e
      clear e
      go_wp2
      go_ret
      have hst := hs.take 0
      rw [← E.out] at hst
      rw [Eys.out]
      exact ⟨_, rfl, ⟨_, _, by rw [E.out]; rfl, hst⟩, hff _, hb⟩

theorem lsame_calls (v1 v2 : Value) (n : Nat) (w : World) (h1 : Num w v1 n) (h2 : Num w v2 n) :
    Calls Try.prog 17 #[v1, v2] w (RetTrue w) := by
  go_enter Try.func17, Try.ntmps17
  go_wp2_with fail
  refine (same_calls v1 v2 (limbs n) _ h1.raw h2.raw).mono ?_
  rintro e w' ⟨rfl, hb⟩
  go_wp2
  go_ret
  exact ⟨rfl, hb⟩

theorem ladd_calls (v1 v2 : Value) (a b : Nat) (w : World) (h1 : Num w v1 a) (h2 : Num w v2 b) (l1 : (limbs a).length ≤ 200000) (l2 : (limbs b).length ≤ 200000) :
    Calls Try.prog 15 #[v1, v2] w (RetNum w (a + b)) := by
  have hl := limbs_length_add a b
  go_enter Try.func15, Try.ntmps15
  go_wp2_with fail
  refine (add_ok _ _ a b _ h1 h2 (by omega)).mono ?_
  rintro e w1 ⟨v, rfl, hv, hf, hb⟩
  go_wp2
  go_ret
  exact ⟨_, rfl, hv, hf, hb⟩

theorem lmul_calls (v1 v2 : Value) (a b : Nat) (w : World) (h1 : Num w v1 a) (h2 : Num w v2 b) (l1 : (limbs a).length ≤ 100000) (l2 : (limbs b).length ≤ 100000) :
    Calls Try.prog 16 #[v1, v2] w (RetNum w (a * b)) := by
  go_enter Try.func16, Try.ntmps16
  go_wp2_with fail
  refine (mul_ok _ _ a b _ h1 h2 (by omega)).mono ?_
  rintro e w1 ⟨v, rfl, hv, hf, hb⟩
  go_wp2
  go_ret
  exact ⟨_, rfl, hv, hf, hb⟩


end Go.Proofs
