/- The walk of the law NatChecks: whatever comes in, it returns true and changes nothing that was there. -/
import Derived.Test.YtmeflonielhfaaaLaw
import Derived.Test.YtmeflonielhfaaaUint
import Derived.Test.YtmeflonielhfaaaRAdd
import Derived.Test.YtmeflonielhfaaaValid
open Go.RowKit
namespace Go.Proofs
set_option linter.unusedVariables false

theorem err_two (xs ys : List Nat) (h : firstErr [xs, ys] = 0) : chk xs = 0 ∧ chk ys = 0 := by
  simp only [firstErr] at h
  split at h
  · split at h
    · exact ⟨by assumption, by assumption⟩
    · exact ⟨by assumption, h⟩
  · contradiction

theorem err_three (xs ys zs : List Nat) : firstErr [xs, ys, zs] = if firstErr [xs, ys] = 0 then chk zs else firstErr [xs, ys] := by
  simp only [firstErr]
  by_cases h1 : chk xs = 0
  · by_cases h2 : chk ys = 0
    · by_cases h3 : chk zs = 0
      · simp [h1, h2, h3]
      · simp [h1, h2, h3]
    · simp [h1, h2]
  · simp [h1]

/-- of a valid slice of limbs: the number, and how many limbs it has -/
theorem Raw.valid {w v xs} (h : Raw w v xs) (hc : chk xs = 0) : Num w v (val xs) ∧ (limbs (val xs)).length = xs.length := by
  have n := h.num hc
  obtain ⟨ad, c, rfl, hs⟩ := h
  exact ⟨n, by rw [(chk_num hc hs.2.2.1).1]⟩

theorem val_zero_iff {w v xs} (h : Raw w v xs) (hc : chk xs = 0) : val xs = 0 ↔ xs.length = 0 := by
  have e := (h.valid hc).2
  constructor
  · intro h0; rw [h0, limbs_zero] at e; exact e.symm
  · intro h0; rw [List.eq_nil_of_length_eq_zero h0]; rfl

theorem err_alone (xs : List Nat) : firstErr [xs] = chk xs := by
  simp only [firstErr]
  split
  · rename_i h; rw [h]
  · rfl

set_option maxRecDepth 100000 in
set_option maxHeartbeats 2000000 in
theorem walk_checks (v1 : Value) (xs : List Nat) (n : Nat) (w : World) (hx : In w v1 xs) (hn : n < 18446744073709551616) :
    Calls Try.prog 11 #[v1, .int .u64 (n : Int)] w (RetTrue w) := by
  go_enter Try.func11, Try.ntmps11
  go_wp2_with fail
  refine (cut_calls _ xs 40 _ _ hx (by rfl) (by omega)).mono ?_
  rintro e w1 ⟨va, rfl, ra, _, b1⟩
  replace hx := hx.mono b1
  have B := b1
  clear b1
  have la : (xs.take 40).length ≤ 40 := by rw [List.length_take]; omega
  generalize xs.take 40 = aa at *
  clear hx
  go_wp2_with fail
  refine (rcheck_calls _ aa _ ra).mono ?_
  rintro e wq ⟨rfl, rfl⟩
  have t3 : (chk aa != chk aa) = false := bne_self_eq_false _
  by_cases hbad : chk aa = 0
  · have t0 : (chk aa != 0) = false := by rw [hbad]; rfl
    obtain ⟨na, ea⟩ := ra.valid hbad
    have Hbad := Lib.hid hbad
    clear hbad
    have q1 : ∀ k : Int, (k == k) = true := fun k => beq_self_eq_true k
    obtain ⟨bl, ebl⟩ : ∃ bl, bitlen (val aa) = bl := ⟨_, rfl⟩
    have q2 := q1 (bl : Int)
    have q3 := q1 ((val aa : Nat) : Int)
    clear q1
    have Ebl := Lib.hid ebl
    clear ebl
    have L := bits_ok _ (val aa) _ na (by omega)
    rw [Ebl.out] at L
    go_wp2_with fail
    refine (L).mono ?_
    rintro e w2 ⟨rfl, b2⟩
    replace ra := ra.mono b2
    replace na := na.mono b2
    replace B := below_trans B b2
    clear b2
    clear L
    by_cases hs : 2 < aa.length
    · go_wp2_with fail
      refine (uint64_long _ (val aa) _ na (by omega) (by omega)).mono ?_
      rintro e w3 ⟨rfl, b3⟩
      replace ra := ra.mono b3
      replace na := na.mono b3
      replace B := below_trans B b3
      clear b3
      go_wp2_with fail
      refine (lives_calls _).mono ?_
      rintro e w4 ⟨rfl, b4⟩
      replace ra := ra.mono b4
      replace na := na.mono b4
      replace B := below_trans B b4
      clear b4
      go_wp2_with fail
      refine (check_calls _ aa _ ra).mono ?_
      rintro e wq ⟨rfl, rfl⟩
      go_wp2_with fail
      refine (of_calls n _ _ rfl hn).mono ?_
      rintro e w5 ⟨vo, rfl, ho, _, b5⟩
      replace ra := ra.mono b5
      replace na := na.mono b5
      replace B := below_trans B b5
      clear b5
      go_wp2_with fail
      refine (rof_calls n _ _ rfl hn).mono ?_
      rintro e w6 ⟨vr, rfl, hr, _, b6⟩
      replace ra := ra.mono b6
      replace na := na.mono b6
      replace ho := ho.mono b6
      replace B := below_trans B b6
      clear b6
      go_wp2_with fail
      refine (same_calls _ _ _ _ ho.raw hr.raw).mono ?_
      rintro e w7 ⟨rfl, b7⟩
      replace ra := ra.mono b7
      replace na := na.mono b7
      replace ho := ho.mono b7
      replace hr := hr.mono b7
      replace B := below_trans B b7
      clear b7
      go_wp2_with fail
      refine (small_long _ (val aa) _ na (by omega)).mono ?_
      rintro e wq ⟨rfl, rfl⟩
      have L := rbits_calls _ (val aa) _ na (by omega)
      rw [Ebl.out] at L
      go_wp2_with fail
      refine (L).mono ?_
      rintro e wq ⟨rfl, rfl⟩
      clear L
      go_wp2
      go_ret
      exact ⟨rfl, B⟩
    · go_wp2_with fail
      refine (uint64_ok _ (val aa) _ na (by omega)).mono ?_
      rintro e w3 ⟨rfl, b3⟩
      replace ra := ra.mono b3
      replace na := na.mono b3
      replace B := below_trans B b3
      clear b3
      go_wp2_with fail
      refine (lives_calls _).mono ?_
      rintro e w4 ⟨rfl, b4⟩
      replace ra := ra.mono b4
      replace na := na.mono b4
      replace B := below_trans B b4
      clear b4
      go_wp2_with fail
      refine (check_calls _ aa _ ra).mono ?_
      rintro e wq ⟨rfl, rfl⟩
      go_wp2_with fail
      refine (of_calls n _ _ rfl hn).mono ?_
      rintro e w5 ⟨vo, rfl, ho, _, b5⟩
      replace ra := ra.mono b5
      replace na := na.mono b5
      replace B := below_trans B b5
      clear b5
      go_wp2_with fail
      refine (rof_calls n _ _ rfl hn).mono ?_
      rintro e w6 ⟨vr, rfl, hr, _, b6⟩
      replace ra := ra.mono b6
      replace na := na.mono b6
      replace ho := ho.mono b6
      replace B := below_trans B b6
      clear b6
      go_wp2_with fail
      refine (same_calls _ _ _ _ ho.raw hr.raw).mono ?_
      rintro e w7 ⟨rfl, b7⟩
      replace ra := ra.mono b7
      replace na := na.mono b7
      replace ho := ho.mono b7
      replace hr := hr.mono b7
      replace B := below_trans B b7
      clear b7
      go_wp2_with fail
      refine (small_ok _ (val aa) _ na (by omega)).mono ?_
      rintro e wq ⟨rfl, rfl⟩
      have L := rbits_calls _ (val aa) _ na (by omega)
      rw [Ebl.out] at L
      go_wp2_with fail
      refine (L).mono ?_
      rintro e wq ⟨rfl, rfl⟩
      clear L
      go_wp2
      go_ret
      exact ⟨rfl, B⟩
  · have t0 : (chk aa != 0) = true := by rw [bne_iff_ne]; exact hbad
    have q2 : (chk aa == chk aa) = true := beq_self_eq_true _
    have he := err_alone aa
    have hb2 : firstErr [aa] ≠ 0 := by rw [he]; exact hbad
    have L := bits_err _ aa _ ra hb2
    rw [he] at L
    go_wp2_with fail
    refine (L).mono ?_
    rintro e w2 ⟨rfl, b2⟩
    replace ra := ra.mono b2
    replace B := below_trans B b2
    clear b2
    clear L
    have L := uint64_err _ aa _ ra hb2
    rw [he] at L
    go_wp2_with fail
    refine (L).mono ?_
    rintro e w3 ⟨rfl, b3⟩
    replace ra := ra.mono b3
    replace B := below_trans B b3
    clear b3
    clear L he hb2
    go_wp2_with fail
    refine (lives_calls _).mono ?_
    rintro e w4 ⟨rfl, b4⟩
    replace ra := ra.mono b4
    replace B := below_trans B b4
    clear b4
    go_wp2_with fail
    refine (check_calls _ aa _ ra).mono ?_
    rintro e wq ⟨rfl, rfl⟩
    go_wp2_with fail
    refine (of_calls n _ _ rfl hn).mono ?_
    rintro e w5 ⟨vo, rfl, ho, _, b5⟩
    replace ra := ra.mono b5
    replace B := below_trans B b5
    clear b5
    go_wp2_with fail
    refine (rof_calls n _ _ rfl hn).mono ?_
    rintro e w6 ⟨vr, rfl, hr, _, b6⟩
    replace ra := ra.mono b6
    replace ho := ho.mono b6
    replace B := below_trans B b6
    clear b6
    go_wp2_with fail
    refine (same_calls _ _ _ _ ho.raw hr.raw).mono ?_
    rintro e w7 ⟨rfl, b7⟩
    replace ra := ra.mono b7
    replace ho := ho.mono b7
    replace hr := hr.mono b7
    replace B := below_trans B b7
    clear b7
    go_wp2
    go_ret
    exact ⟨rfl, B⟩

end Go.Proofs
