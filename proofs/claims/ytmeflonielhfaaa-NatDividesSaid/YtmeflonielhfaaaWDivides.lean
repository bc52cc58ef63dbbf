/- The walk of the law NatDivides: whatever two slices of limbs come in, it returns true and changes nothing that was there. -/
import Derived.Test.YtmeflonielhfaaaLaw
import Derived.Test.YtmeflonielhfaaaRDiv
open Go.RowKit
namespace Go.Proofs
set_option linter.unusedVariables false

theorem err_pair (xs ys : List Nat) (h : firstErr [xs, ys] = 0) : chk xs = 0 ∧ chk ys = 0 := by
  simp only [firstErr] at h
  split at h
  · split at h
    · exact ⟨by assumption, by assumption⟩
    · exact ⟨by assumption, h⟩
  · contradiction

set_option maxRecDepth 100000 in
theorem walk_divides (v1 v2 : Value) (xs ys : List Nat) (w : World) (h1 : In w v1 xs) (h2 : In w v2 ys) :
    Calls Try.prog 5 #[v1, v2] w (RetTrue w) := by
  go_enter Try.func5, Try.ntmps5
  go_wp2_with fail
  refine (cut_calls _ xs 24 _ _ h1 (by rfl) (by omega)).mono ?_
  rintro e w1 ⟨va, rfl, ra, _, b1⟩
  have h2' := h2.mono b1
  go_wp2_with fail
  refine (cut_calls _ ys 24 _ _ h2' (by rfl) (by omega)).mono ?_
  rintro e w2 ⟨vb, rfl, rb, _, b2⟩
  have ra := ra.mono b2
  have b12 := below_trans b1 b2
  have la : (xs.take 24).length ≤ 24 := by rw [List.length_take]; omega
  have lb : (ys.take 24).length ≤ 24 := by rw [List.length_take]; omega
  generalize xs.take 24 = aa at *
  generalize ys.take 24 = bb at *
  clear h1 h2 h2' b1 b2
  by_cases hbad : firstErr [aa, bb] = 0
  · obtain ⟨ca, cb⟩ := err_pair aa bb hbad
    have t1 : (firstErr [aa, bb] == 0) = true := by rw [hbad]; rfl
    have na := ra.num ca
    have nb := rb.num cb
    obtain ⟨ada, cca, rfl, sa⟩ := ra
    obtain ⟨adb, ccb, rfl, sb⟩ := rb
    have ea := (chk_num ca sa.2.2.1).1
    have eb := (chk_num cb sb.2.2.1).1
    have hla : (limbs (val aa)).length ≤ 24 := by rw [ea]; exact la
    have hlb : (limbs (val bb)).length ≤ 24 := by rw [eb]; exact lb
    have ra : Raw w2 (.slice ada aa.length cca) aa := ⟨_, _, rfl, sa⟩
    have rb : Raw w2 (.slice adb bb.length ccb) bb := ⟨_, _, rfl, sb⟩
    have Hbad := Lib.hid hbad
    by_cases hz : bb.length = 0
    · have hb0 : val bb = 0 := by rw [List.eq_nil_of_length_eq_zero hz]; rfl
      have t2 : ((bb.length : Int) == 0) = true := by rw [hz]; rfl
      rw [hb0] at nb
      clear ea eb ca cb hbad sa sb hz hb0
      go_wp2_with fail
      refine (divmod_zero _ _ (val aa) _ na nb (by omega)).mono ?_
      rintro e w3 ⟨rfl, b3⟩
      have ra := ra.mono b3
      have rb := rb.mono b3
      go_wp2_with fail
      refine (both_calls _ _ aa bb _ ra rb).mono ?_
      rintro e w3' ⟨rfl, rfl⟩
      rw [Hbad.out] at t1 ⊢
      go_wp2_with fail
      refine (is_err _ _ 4 _ (Num.nil _) (by decide)).mono ?_
      rintro e w5 ⟨rfl, b5⟩
      go_wp2_with fail
      refine (lives_calls _).mono ?_
      rintro e w6 ⟨rfl, b6⟩
      go_wp2
      go_ret
      exact ⟨rfl, below_trans b12 (below_trans b3 (below_trans b5 b6))⟩
    · have hb0 : val bb ≠ 0 := by
        intro h0
        rw [h0, limbs_zero] at eb
        rw [← eb] at hz
        exact hz rfl
      have t2 : ((bb.length : Int) == 0) = false := by rw [beq_eq_false_iff_ne]; omega
      clear ea eb ca cb hbad sa sb hz
      go_wp2_with fail
      refine (divmod_ok _ _ (val aa) (val bb) _ na nb (by omega) hb0).mono ?_
      rintro e w3 ⟨vq, vr, rfl, hq, hr, _, _, _, b3⟩
      have ra := ra.mono b3
      have rb := rb.mono b3
      have na := na.mono b3
      have nb := nb.mono b3
      go_wp2_with fail
      refine (both_calls _ _ aa bb _ ra rb).mono ?_
      rintro e w3' ⟨rfl, rfl⟩
      rw [Hbad.out]
      go_wp2_with fail
      refine (rdivmod_calls _ _ (val aa) (val bb) _ na nb hb0 (by omega) (by omega)).mono ?_
      rintro e w4 ⟨vq2, vr2, rfl, hq2, hr2, b4⟩
      have hq := hq.mono b4
      have hr := hr.mono b4
      go_wp2_with fail
      refine (is_num _ _ _ _ hq hq2).mono ?_
      rintro e w5 ⟨rfl, b5⟩
      have hr := hr.mono b5
      have hr2 := hr2.mono b5
      go_wp2_with fail
      refine (same_calls _ _ _ _ hr.raw hr2.raw).mono ?_
      rintro e w6 ⟨rfl, b6⟩
      go_wp2_with fail
      refine (lives_calls _).mono ?_
      rintro e w7 ⟨rfl, b7⟩
      go_wp2
      go_ret
      exact ⟨rfl, below_trans b12 (below_trans b3 (below_trans b4 (below_trans b5 (below_trans b6 b7))))⟩
  · have t1 : (firstErr [aa, bb] != 0) = true := by rw [bne_iff_ne]; exact hbad
    have t2 : (firstErr [aa, bb] == 0) = false := by rw [beq_eq_false_iff_ne]; exact hbad
    go_wp2_with fail
    refine (divmod_err _ _ aa bb _ ra rb hbad).mono ?_
    rintro e w3 ⟨rfl, b3⟩
    have ra := ra.mono b3
    have rb := rb.mono b3
    go_wp2_with fail
    refine (both_calls _ _ aa bb _ ra rb).mono ?_
    rintro e w3' ⟨rfl, rfl⟩
    go_wp2_with fail
    refine (is_err _ _ _ _ (Num.nil _) hbad).mono ?_
    rintro e w5 ⟨rfl, b5⟩
    go_wp2_with fail
    refine (lives_calls _).mono ?_
    rintro e w6 ⟨rfl, b6⟩
    go_wp2
    go_ret
    exact ⟨rfl, below_trans b12 (below_trans b3 (below_trans b5 b6))⟩

end Go.Proofs
