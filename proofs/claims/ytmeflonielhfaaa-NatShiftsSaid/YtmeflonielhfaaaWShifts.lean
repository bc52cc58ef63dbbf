/- The walk of the law NatShifts: whatever slice of limbs and whatever number of places come in, it returns true and changes nothing that was there. -/
import Derived.Test.YtmeflonielhfaaaLaw
import Derived.Test.YtmeflonielhfaaaRShift
import Derived.Test.YtmeflonielhfaaaRDiv
import Derived.Test.YtmeflonielhfaaaShift
open Go.RowKit
namespace Go.Proofs
set_option linter.unusedVariables false

theorem err_single (xs : List Nat) : firstErr [xs] = chk xs := by
  simp only [firstErr]
  split
  · rename_i h; rw [h]
  · rfl

theorem shift_gone {a n : Nat} (hl : (limbs a).length ≤ 24) (hn : 2000 < n) : a / 2 ^ n = 0 := by
  refine Nat.div_eq_of_lt (Nat.lt_of_lt_of_le (lt_pow_length a) ?_)
  rw [show (4294967296 : Nat) = 2 ^ 32 by rfl, ← Nat.pow_mul]
  exact Nat.pow_le_pow_right (by omega) (by omega)

theorem shift_room {a n : Nat} (hl : (limbs a).length ≤ 24) (hn : n ≤ 4000) : (limbs (a * 2 ^ n)).length ≤ 5000 := by
  have h1 := limbs_length_mul a (2 ^ n)
  have h2 := limbs_two_pow n
  omega

set_option maxHeartbeats 1000000 in
set_option maxRecDepth 100000 in
theorem walk_shifts (v1 : Value) (xs : List Nat) (z : Int) (w : World) (h1 : In w v1 xs) (z0 : -9223372036854775808 ≤ z) (z1 : z < 9223372036854775808) :
    Calls Try.prog 6 #[v1, .int .i64 z] w (RetTrue w) := by
  go_enter Try.func6, Try.ntmps6
  go_wp2_with fail
  refine (cut_calls _ xs 24 _ _ h1 (by rfl) (by omega)).mono ?_
  rintro e w1 ⟨va, rfl, ra, _, b1⟩
  have la : (xs.take 24).length ≤ 24 := by rw [List.length_take]; omega
  generalize xs.take 24 = aa at *
  clear h1
  go_wp2_with fail
  refine (rcheck_calls _ aa _ ra).mono ?_
  rintro e w' ⟨rfl, rfl⟩
  go_wp2_with fail
  refine (lives_calls _).mono ?_
  rintro e w2 ⟨rfl, b2⟩
  have ra := ra.mono b2
  have b12 := below_trans b1 b2
  clear b1 b2
  by_cases hbad : chk aa = 0
  · have na := ra.num hbad
    have t0 : (chk aa == 0) = true := by rw [hbad]; rfl
    have t0' : (chk aa != 0) = false := by rw [hbad]; rfl
    obtain ⟨ada, cca, rfl, sa⟩ := ra
    have ea := (chk_num hbad sa.2.2.1).1
    have hla : (limbs (val aa)).length ≤ 24 := by rw [ea]; exact la
    by_cases hz : aa.length = 0
    · have hb0 : val aa = 0 := by rw [List.eq_nil_of_length_eq_zero hz]; rfl
      have t1 : ((aa.length : Int) == 0) = true := by rw [hz]; rfl
      have t2 : aa.length < 1 := by omega
      rw [hb0] at na
      clear ea hbad sa hz hb0 hla
      go_wp2_with fail
      refine (shift_none _ 0 z _ na (.inl rfl) (by rw [limbs_zero]; simp)).mono ?_
      rintro e w3 ⟨vs, rfl, hs, _, b3⟩
      have hq := num_empty (own_made w3)
      have b4 := below_alloc w3 (.cells #[] 43)
      have hs := hs.mono b4
      go_wp2_with fail
      refine (is_num _ _ _ _ hs hq).mono ?_
      rintro e w5 ⟨rfl, b5⟩
      go_wp2
      go_ret
      exact ⟨rfl, below_trans b12 (below_trans b3 (below_trans b4 b5))⟩
    · have hna : val aa ≠ 0 := by
        intro h0
        rw [h0, limbs_zero] at ea
        rw [← ea] at hz
        exact hz rfl
      have t1 : ((aa.length : Int) == 0) = false := by rw [beq_eq_false_iff_ne]; omega
      have t2 : 0 < aa.length := by omega
      clear ea hbad sa hz
      by_cases hz0 : z < 0
      · have t4 : ¬ (4000 : Int) < z := by omega
        have t5 : ¬ (0 : Int) ≤ z := by omega
        by_cases hz1 : z ≤ -8388608
        · have t6 : z < -2000 := by omega
          clear z0 z1
          go_wp2_with fail
          refine (shift_none _ (val aa) z _ na (.inr hz1) (by omega)).mono ?_
          rintro e w3 ⟨vs, rfl, hs, _, b3⟩
          have hq := num_empty (own_made w3)
          have b4 := below_alloc w3 (.cells #[] 43)
          have hs := hs.mono b4
          go_wp2_with fail
          refine (is_num _ _ _ _ hs hq).mono ?_
          rintro e w5 ⟨rfl, b5⟩
          go_wp2
          go_ret
          exact ⟨rfl, below_trans b12 (below_trans b3 (below_trans b4 b5))⟩
        · obtain ⟨n, hn⟩ : ∃ n : Nat, z = -(n : Int) := ⟨(-z).toNat, by omega⟩
          have Hn := Lib.hid hn
          have n1 : 1 ≤ n := by omega
          have n2 : n < 8388608 := by omega
          clear z0 z1 hn
          by_cases hz2 : z < -2000
          · have hgone : val aa / 2 ^ n = 0 := shift_gone hla (by have := Hn.out; omega)
            have Hg := Lib.hid hgone
            clear hgone
            go_wp2_with fail
            refine (shift_down _ (val aa) n z _ na Hn.out hna n2 n1 (by omega)).mono ?_
            rw [Hg.out]
            rintro e w3 ⟨vs, rfl, hs, _, b3⟩
            have hq := num_empty (own_made w3)
            have b4 := below_alloc w3 (.cells #[] 43)
            have hs := hs.mono b4
            go_wp2_with fail
            refine (is_num _ _ _ _ hs hq).mono ?_
            rintro e w5 ⟨rfl, b5⟩
            go_wp2
            go_ret
            exact ⟨rfl, below_trans b12 (below_trans b3 (below_trans b4 b5))⟩
          · have hnz : -z = (n : Int) := by have := Hn.out; omega
            have hn3 : n ≤ 2000 := by omega
            have Hnz := Lib.hid hnz
            clear hnz
            go_wp2_with fail
            refine (shift_down _ (val aa) n z _ na Hn.out hna n2 n1 (by omega)).mono ?_
            rintro e w3 ⟨vs, rfl, hs, _, b3⟩
            have na := na.mono b3
            go_wp2_with fail
            refine (rright_calls _ (val aa) n _ _ na Hnz.out (by omega) (by omega)).mono ?_
            rintro e w4 ⟨vq, rfl, hq, _, b4⟩
            have hs := hs.mono b4
            go_wp2_with fail
            refine (is_num _ _ _ _ hs hq).mono ?_
            rintro e w5 ⟨rfl, b5⟩
            go_wp2
            go_ret
            exact ⟨rfl, below_trans b12 (below_trans b3 (below_trans b4 b5))⟩
      · obtain ⟨n, rfl⟩ : ∃ n : Nat, z = (n : Int) := ⟨z.toNat, by omega⟩
        clear hz0 z0
        by_cases hz1 : n ≤ 4000
        · have t4 : ¬ (4000 : Int) < (n : Int) := by omega
          clear z1
          have hroom := shift_room (a := val aa) (n := n) hla (by omega)
          go_wp2_with fail
          refine (shift_up _ (val aa) n _ _ na (by first | rfl | omega) hna (by omega) (by omega) (by omega)).mono ?_
          rintro e w3 ⟨vs, rfl, hs, _, b3⟩
          have na := na.mono b3
          go_wp2_with fail
          refine (rleft_calls _ (val aa) n _ _ na (by first | rfl | omega) (by omega) (by omega)).mono ?_
          rintro e w4 ⟨vq, rfl, hq, _, b4⟩
          have hs := hs.mono b4
          go_wp2_with fail
          refine (is_num _ _ _ _ hs hq).mono ?_
          rintro e w5 ⟨rfl, b5⟩
          go_wp2
          go_ret
          exact ⟨rfl, below_trans b12 (below_trans b3 (below_trans b4 b5))⟩
        · have t4 : (4000 : Int) < (n : Int) := by omega
          by_cases hz2 : n ≤ 8388608
          · have t6 : ¬ (4000 : Int) < (n : Int) % 4000 + 1 := by omega
            have t7 : (0 : Int) ≤ (n : Int) % 4000 + 1 := by omega
            have t5 : (n : Int) ≤ 8388608 := by omega
            clear z1
            have hroom := shift_room (a := val aa) (n := n % 4000 + 1) hla (by omega)
            go_wp2_with fail
            refine (shift_up _ (val aa) (n % 4000 + 1) _ _ na (by first | rfl | omega) hna (by omega) (by omega) (by omega)).mono ?_
            rintro e w3 ⟨vs, rfl, hs, _, b3⟩
            have na := na.mono b3
            go_wp2_with fail
            refine (rleft_calls _ (val aa) (n % 4000 + 1) _ _ na (by first | rfl | omega) (by omega) (by omega)).mono ?_
            rintro e w4 ⟨vq, rfl, hq, _, b4⟩
            have hs := hs.mono b4
            go_wp2_with fail
            refine (is_num _ _ _ _ hs hq).mono ?_
            rintro e w5 ⟨rfl, b5⟩
            go_wp2
            go_ret
            exact ⟨rfl, below_trans b12 (below_trans b3 (below_trans b4 b5))⟩
          · have t5 : (8388608 : Int) < (n : Int) := by omega
            clear hz1 hz2 z1
            go_wp2_with fail
            refine (shift_long _ (val aa) _ _ na hna (by omega) (by omega)).mono ?_
            rintro e w3 ⟨vs, rfl, hs, _, b3⟩
            go_wp2_with fail
            refine (is_err _ _ 3 _ hs (by decide)).mono ?_
            rintro e w5 ⟨rfl, b5⟩
            go_wp2
            go_ret
            exact ⟨rfl, below_trans b12 (below_trans b3 b5)⟩
  · have t0 : (chk aa == 0) = false := by rw [beq_eq_false_iff_ne]; exact hbad
    have t0' : (chk aa != 0) = true := by rw [bne_iff_ne]; exact hbad
    have he := err_single aa
    have hb2 : firstErr [aa] ≠ 0 := by rw [he]; exact hbad
    have L := shift_err _ aa z _ ra hb2
    rw [he] at L
    clear he hb2 z0 z1
    go_wp2_with fail
    refine L.mono ?_
    clear L
    rintro e w3 ⟨rfl, b3⟩
    go_wp2_with fail
    refine (is_err _ _ _ _ (Num.nil _) hbad).mono ?_
    rintro e w5 ⟨rfl, b5⟩
    go_wp2
    go_ret
    exact ⟨rfl, below_trans b12 (below_trans b3 b5)⟩

end Go.Proofs
