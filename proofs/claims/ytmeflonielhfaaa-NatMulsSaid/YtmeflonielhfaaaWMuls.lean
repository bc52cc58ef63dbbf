/- The walk of the law NatMuls: whatever two slices of limbs come in, it returns true and changes nothing that was there. -/
import Derived.Test.YtmeflonielhfaaaLaw
import Derived.Test.YtmeflonielhfaaaRMul
open Go.RowKit
namespace Go.Proofs
set_option linter.unusedVariables false

theorem err_cases (xs ys : List Nat) (h : firstErr [xs, ys] = 0) : chk xs = 0 ∧ chk ys = 0 := by
  simp only [firstErr] at h
  split at h
  · split at h
    · exact ⟨by assumption, by assumption⟩
    · exact ⟨by assumption, h⟩
  · contradiction

set_option maxRecDepth 100000 in
theorem walk_muls (v1 v2 : Value) (xs ys : List Nat) (w : World) (h1 : In w v1 xs) (h2 : In w v2 ys) :
    Calls Try.prog 3 #[v1, v2] w (RetTrue w) := by
  go_enter Try.func3, Try.ntmps3
  go_wp2_with fail
  refine (cut_calls _ xs 160 _ _ h1 (by rfl) (by omega)).mono ?_
  rintro e w1 ⟨va, rfl, ra, _, b1⟩
  have h2' := h2.mono b1
  go_wp2_with fail
  refine (cut_calls _ ys 160 _ _ h2' (by rfl) (by omega)).mono ?_
  rintro e w2 ⟨vb, rfl, rb, _, b2⟩
  have ra := ra.mono b2
  have b12 := below_trans b1 b2
  have la : (xs.take 160).length ≤ 160 := by rw [List.length_take]; omega
  have lb : (ys.take 160).length ≤ 160 := by rw [List.length_take]; omega
  generalize xs.take 160 = aa at *
  generalize ys.take 160 = bb at *
  clear h1 h2 h2' b1 b2
  by_cases hbad : firstErr [aa, bb] = 0
  · obtain ⟨ca, cb⟩ := err_cases aa bb hbad
    have t1 : (firstErr [aa, bb] != 0) = false := by rw [hbad]; rfl
    have na := ra.num ca
    have nb := rb.num cb
    obtain ⟨ada, cca, rfl, sa⟩ := ra
    obtain ⟨adb, ccb, rfl, sb⟩ := rb
    have ea := (chk_num ca sa.2.2.1).1
    have eb := (chk_num cb sb.2.2.1).1
    have ra : Raw w2 (.slice ada aa.length cca) aa := ⟨_, _, rfl, sa⟩
    have rb : Raw w2 (.slice adb bb.length ccb) bb := ⟨_, _, rfl, sb⟩
    have Ea := Lib.hid ea
    have Eb := Lib.hid eb
    clear ea eb ca cb hbad sa sb
    go_wp2_with fail
    refine (mul_ok _ _ (val aa) (val bb) _ na nb (by rw [Ea.out, Eb.out]; omega)).mono ?_
    rintro e w3 ⟨vp, rfl, hp, _, b3⟩
    have ra := ra.mono b3
    have rb := rb.mono b3
    have na := na.mono b3
    have nb := nb.mono b3
    go_wp2_with fail
    refine (both_calls _ _ aa bb _ ra rb).mono ?_
    rintro e w3' ⟨rfl, rfl⟩
    go_wp2_with fail
    refine (rmul_calls _ _ (val aa) (val bb) _ na nb (by rw [Ea.out]; omega) (by rw [Eb.out]; omega)).mono ?_
    rintro e w4 ⟨vq, rfl, hq, _, b4⟩
    have hp := hp.mono b4
    go_wp2_with fail
    refine (is_num _ _ _ _ hp hq).mono ?_
    rintro e w5 ⟨rfl, b5⟩
    go_wp2_with fail
    refine (lives_calls _).mono ?_
    rintro e w6 ⟨rfl, b6⟩
    go_wp2
    go_ret
    exact ⟨rfl, below_trans b12 (below_trans b3 (below_trans b4 (below_trans b5 b6)))⟩
  · have t1 : (firstErr [aa, bb] != 0) = true := by rw [bne_iff_ne]; exact hbad
    go_wp2_with fail
    refine (mul_err _ _ aa bb _ ra rb hbad).mono ?_
    rintro e w3 ⟨rfl, b3⟩
    have ra := ra.mono b3
    have rb := rb.mono b3
    go_wp2_with fail
    refine (both_calls _ _ aa bb _ ra rb).mono ?_
    rintro e w3' ⟨rfl, rfl⟩
    go_wp2_with fail
    refine (is_err _ _ _ _ (Num.nil _) hbad).mono ?_
    rintro e w5 ⟨rfl, b5⟩
    go_wp2_with fail
    refine (lives_calls _).mono ?_
    rintro e w6 ⟨rfl, b6⟩
    go_wp2
    go_ret
    exact ⟨rfl, below_trans b12 (below_trans b3 (below_trans b5 b6))⟩

end Go.Proofs
