/- The walk of the law NatRoots: whatever slice of limbs and whatever degree come in, it returns true and changes nothing that was there. -/
import Derived.Test.YtmeflonielhfaaaLaw
import Derived.Test.YtmeflonielhfaaaRRoot
open Go.RowKit
namespace Go.Proofs
set_option linter.unusedVariables false

theorem root_low (v1 : Value) (a : Nat) (z : Int) (w : World) (h1 : Num w v1 a) (hl : (limbs a).length ≤ 262144) (hz : z < 1) :
    Calls Try.prog 22 #[v1, .int .i64 z] w fun e w' => e = .returned (.tuple #[.slice none 0 0, .int .i64 1]) ∧ Below w.heap.size w w' := by
  have t1 : (firstErr [limbs a] != 0) = false := by rw [bne_eq_false_iff_eq]; exact ok_one a (by omega)
  have g1 := h1
  obtain ⟨ad1, c1, rfl, s1⟩ := g1
  have hb1 := below_alloc w (.cells #[.slice ad1 (limbs a).length c1] 23)
  go_enter Try.func22, Try.ntmps22
  go_wp2_with (go_at_call 54; refine (valid1 _ (limbs a) w h1.raw).mono ?_; rintro e w' ⟨rfl, rfl⟩)
  go_ret2
  exact ⟨rfl, hb1⟩

theorem err_one (xs : List Nat) : firstErr [xs] = chk xs := by
  simp only [firstErr]
  split
  · rename_i h; rw [h]
  · rfl

set_option maxRecDepth 100000 in
theorem walk_roots (v1 : Value) (xs : List Nat) (z : Int) (w : World) (h1 : In w v1 xs) (z0 : -9223372036854775808 ≤ z) (z1 : z < 9223372036854775808) :
    Calls Try.prog 4 #[v1, .int .i64 z] w (RetTrue w) := by
  go_enter Try.func4, Try.ntmps4
  go_wp2_with fail
  refine (cut_calls _ xs 12 _ _ h1 (by rfl) (by omega)).mono ?_
  rintro e w1 ⟨va, rfl, ra, _, b1⟩
  have la : (xs.take 12).length ≤ 12 := by rw [List.length_take]; omega
  generalize xs.take 12 = aa at *
  clear h1
  go_wp2_with fail
  refine (rcheck_calls _ aa _ ra).mono ?_
  rintro e w' ⟨rfl, rfl⟩
  by_cases hbad : chk aa = 0
  · have t1 : (chk aa != 0) = false := by rw [hbad]; rfl
    have na := ra.num hbad
    obtain ⟨ada, cca, rfl, sa⟩ := ra
    have ea := (chk_num hbad sa.2.2.1).1
    have Ea := Lib.hid ea
    have hla : (limbs (val aa)).length ≤ 12 := by rw [ea]; exact la
    clear ea hbad sa
    by_cases hlow : z < 1
    · go_wp2_with fail
      refine (root_low _ (val aa) z _ na (by omega) hlow).mono ?_
      rintro e w3 ⟨rfl, b3⟩
      go_wp2_with fail
      refine (lives_calls _).mono ?_
      rintro e w6 ⟨rfl, b6⟩
      go_wp2_with fail
      refine (is_err _ _ 1 _ (Num.nil _) (by decide)).mono ?_
      rintro e w5 ⟨rfl, b5⟩
      go_wp2
      go_ret
      exact ⟨rfl, below_trans b1 (below_trans b3 (below_trans b6 b5))⟩
    · obtain ⟨n, rfl⟩ : ∃ n : Nat, z = (n : Int) := ⟨z.toNat, by omega⟩
      obtain ⟨r, hr⟩ := root_exists n (by omega) (val aa)
      have Hr := Lib.hid hr
      have n1 : 1 ≤ n := by omega
      have n2 : n < 9223372036854775808 := by omega
      have n3 : ¬ (n : Int) < 1 := by omega
      clear hr hlow z0 z1
      go_wp2_with fail
      refine (root_ok _ (val aa) n r _ _ na rfl (by omega) (by omega) (by omega) Hr.out).mono ?_
      rintro e w3 ⟨vr, rfl, hvr, _, b3⟩
      have na := na.mono b3
      go_wp2_with fail
      refine (lives_calls _).mono ?_
      rintro e w6 ⟨rfl, b6⟩
      have na := na.mono b6
      have hvr := hvr.mono b6
      go_wp2_with fail
      refine (rroot_calls _ (val aa) n r _ _ na rfl (by omega) (by omega) (by omega) Hr.out).mono ?_
      rintro e w7 ⟨vs, rfl, hvs, b7⟩
      have hvr := hvr.mono b7
      go_wp2_with fail
      refine (is_num _ _ _ _ hvr hvs).mono ?_
      rintro e w5 ⟨rfl, b5⟩
      go_wp2
      go_ret
      exact ⟨rfl, below_trans b1 (below_trans b3 (below_trans b6 (below_trans b7 b5)))⟩
  · have t1 : (chk aa != 0) = true := by rw [bne_iff_ne]; exact hbad
    have he := err_one aa
    have hb2 : firstErr [aa] ≠ 0 := by rw [he]; exact hbad
    have L := root_err _ aa z _ ra hb2
    rw [he] at L
    clear he hb2
    go_wp2_with fail
    refine L.mono ?_
    clear L
    rintro e w3 ⟨rfl, b3⟩
    go_wp2_with fail
    refine (lives_calls _).mono ?_
    rintro e w6 ⟨rfl, b6⟩
    go_wp2_with fail
    refine (is_err _ _ _ _ (Num.nil _) hbad).mono ?_
    rintro e w5 ⟨rfl, b5⟩
    go_wp2
    go_ret
    exact ⟨rfl, below_trans b1 (below_trans b3 (below_trans b6 b5))⟩

end Go.Proofs
