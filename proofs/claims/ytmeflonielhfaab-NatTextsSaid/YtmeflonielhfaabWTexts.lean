/- The walk of the law NatTexts: whatever comes in, it returns true and changes nothing that was there. -/
import Derived.Test.YtmeflonielhfaabLaw
import Derived.Test.YtmeflonielhfaabTextLaw
import Derived.Test.YtmeflonielhfaabRParse
open Go.RowKit
namespace Go.Proofs
set_option linter.unusedVariables false

theorem err_one (xs : List Nat) : firstErr [xs] = chk xs := by
  simp only [firstErr]
  split
  · rename_i h; exact h.symm
  · rfl

/-- of a valid slice of limbs: the number, and how many limbs it has -/
theorem Raw.valid {w v xs} (h : Raw w v xs) (hc : chk xs = 0) : Num w v (val xs) ∧ (limbs (val xs)).length = xs.length := by
  have n := h.num hc
  obtain ⟨ad, c, rfl, hs⟩ := h
  exact ⟨n, by rw [(chk_num hc hs.2.2.1).1]⟩

theorem cut_str (s : ByteArray) (n : Nat) (h : n < s.size) : (s.extract 0 n).size ≤ n := by
  rw [ByteArray.size_extract]; omega

set_option maxRecDepth 100000 in
set_option maxHeartbeats 1000000 in
theorem walk_texts (s : ByteArray) (v1 : Value) (xs : List Nat) (w : World) (hx : In w v1 xs) (hsz : s.size ≤ 9223372036854775807) :
    Calls Try.prog 10 #[.string s, v1] w (RetTrue w) := by
  go_enter Try.func10, Try.ntmps10
  go_upto_if 13 with (fail)
  go_cut [0] (fun sv wx => (∃ t : ByteArray, sv = .string t ∧ t.size ≤ 300) ∧ wx = w)
  case first =>
    by_cases h : 300 < s.size
    · have h1 : (300 : Int) < (s.size : Int) := by omega
      have hc := cut_str s 300 h
      go_wp2_with fail
      go_meet
      exact ⟨⟨_, rfl, hc⟩, rfl⟩
    · have h1 : ¬ (300 : Int) < (s.size : Int) := by omega
      go_wp2_with fail
      go_meet
      exact ⟨⟨_, rfl, by omega⟩, rfl⟩
  case rest =>
  obtain ⟨⟨t, rfl, ht⟩, rfl⟩ := hcut
  go_wp2_with fail
  refine (cut_calls _ xs 24 _ _ hx (by rfl) (by omega)).mono ?_
  rintro e w1 ⟨va, rfl, ra, _, b1⟩
  replace hx := hx.mono b1
  have B := b1
  clear b1
  have la : (xs.take 24).length ≤ 24 := by rw [List.length_take]; omega
  generalize xs.take 24 = aa at *
  clear hx
  have e1 := err_one aa
  by_cases hs : TextOk t
  · have td : decide (TextOk t) = true := decide_eq_true hs
    have Hs := Lib.hid hs
    clear hs
    by_cases hc : chk aa = 0
    · obtain ⟨na, ea⟩ := ra.valid hc
      have lw := lows_room (show (limbs (val aa)).length ≤ 24 by omega)
      have t3 : (chk aa != 0) = false := by rw [hc]; rfl
      have t4 : (chk aa == 0) = true := by rw [hc]; rfl
      clear hc e1
      go_wp2_with fail
      refine (parse_ok t _ Hs.out (by omega)).mono ?_
      rintro e w2 ⟨vn, rfl, hn, _, b2⟩
      replace ra := ra.mono b2
      replace na := na.mono b2
      replace B := below_trans B b2
      clear b2
      go_wp2_with fail
      refine (text_ok _ (val aa) _ na (by omega) (by omega)).mono ?_
      rintro e w3 ⟨rfl, b3⟩
      replace ra := ra.mono b3
      replace na := na.mono b3
      replace hn := hn.mono b3
      replace B := below_trans B b3
      clear b3
      go_wp2_with fail
      refine (rcheck_calls _ aa _ ra).mono ?_
      rintro e wq ⟨rfl, rfl⟩
      go_wp2_with fail
      refine (lives_calls _).mono ?_
      rintro e w4 ⟨rfl, b4⟩
      replace ra := ra.mono b4
      replace na := na.mono b4
      replace hn := hn.mono b4
      replace B := below_trans B b4
      clear b4
      go_wp2_with fail
      refine (rtext_calls _ (val aa) _ na (by omega)).mono ?_
      rintro e w5 ⟨rfl, b5⟩
      replace ra := ra.mono b5
      replace na := na.mono b5
      replace hn := hn.mono b5
      replace B := below_trans B b5
      clear b5
      go_wp2_with fail
      refine (ristext_calls t _ (by omega)).mono ?_
      rintro e wq ⟨rfl, rfl⟩
      go_wp2_with fail
      refine (rparse_calls t _ Hs.out.2.2 (by omega)).mono ?_
      rintro e w6 ⟨vm, rfl, hm, b6⟩
      replace ra := ra.mono b6
      replace na := na.mono b6
      replace hn := hn.mono b6
      replace B := below_trans B b6
      clear b6
      go_wp2_with fail
      refine (is_num _ _ _ _ hn hm).mono ?_
      rintro e w7 ⟨rfl, b7⟩
      replace ra := ra.mono b7
      replace na := na.mono b7
      replace hn := hn.mono b7
      replace hm := hm.mono b7
      replace B := below_trans B b7
      clear b7
      go_wp2
      go_ret
      exact ⟨rfl, B⟩
    · have t3 : (chk aa != 0) = true := by rw [bne_iff_ne]; exact hc
      have t4 : (chk aa == 0) = false := by rw [beq_eq_false_iff_ne]; exact hc
      go_wp2_with fail
      refine (parse_ok t _ Hs.out (by omega)).mono ?_
      rintro e w2 ⟨vn, rfl, hn, _, b2⟩
      replace ra := ra.mono b2
      replace B := below_trans B b2
      clear b2
      go_wp2_with fail
      refine (text_err _ aa _ ra (by rw [e1]; exact hc)).mono ?_
      rintro e w3 ⟨rfl, b3⟩
      replace ra := ra.mono b3
      replace hn := hn.mono b3
      replace B := below_trans B b3
      clear b3
      go_wp2_with fail
      refine (rcheck_calls _ aa _ ra).mono ?_
      rintro e wq ⟨rfl, rfl⟩
      go_wp2_with fail
      refine (lives_calls _).mono ?_
      rintro e w4 ⟨rfl, b4⟩
      replace ra := ra.mono b4
      replace hn := hn.mono b4
      replace B := below_trans B b4
      clear b4
      go_wp2_with fail
      refine (ristext_calls t _ (by omega)).mono ?_
      rintro e wq ⟨rfl, rfl⟩
      go_wp2_with fail
      refine (rparse_calls t _ Hs.out.2.2 (by omega)).mono ?_
      rintro e w5 ⟨vm, rfl, hm, b5⟩
      replace ra := ra.mono b5
      replace hn := hn.mono b5
      replace B := below_trans B b5
      clear b5
      go_wp2_with fail
      refine (is_num _ _ _ _ hn hm).mono ?_
      rintro e w6 ⟨rfl, b6⟩
      replace ra := ra.mono b6
      replace hn := hn.mono b6
      replace hm := hm.mono b6
      replace B := below_trans B b6
      clear b6
      go_wp2
      go_ret
      exact ⟨rfl, B⟩
  · have td : decide (TextOk t) = false := decide_eq_false hs
    have Hs := Lib.hid hs
    clear hs
    by_cases hc : chk aa = 0
    · obtain ⟨na, ea⟩ := ra.valid hc
      have lw := lows_room (show (limbs (val aa)).length ≤ 24 by omega)
      have t3 : (chk aa != 0) = false := by rw [hc]; rfl
      have t4 : (chk aa == 0) = true := by rw [hc]; rfl
      clear hc e1
      go_wp2_with fail
      refine (parse_form t _ Hs.out (by omega)).mono ?_
      rintro e wq ⟨rfl, rfl⟩
      go_wp2_with fail
      refine (text_ok _ (val aa) _ na (by omega) (by omega)).mono ?_
      rintro e w2 ⟨rfl, b2⟩
      replace ra := ra.mono b2
      replace na := na.mono b2
      replace B := below_trans B b2
      clear b2
      go_wp2_with fail
      refine (rcheck_calls _ aa _ ra).mono ?_
      rintro e wq ⟨rfl, rfl⟩
      go_wp2_with fail
      refine (lives_calls _).mono ?_
      rintro e w3 ⟨rfl, b3⟩
      replace ra := ra.mono b3
      replace na := na.mono b3
      replace B := below_trans B b3
      clear b3
      go_wp2_with fail
      refine (rtext_calls _ (val aa) _ na (by omega)).mono ?_
      rintro e w4 ⟨rfl, b4⟩
      replace ra := ra.mono b4
      replace na := na.mono b4
      replace B := below_trans B b4
      clear b4
      go_wp2_with fail
      refine (ristext_calls t _ (by omega)).mono ?_
      rintro e wq ⟨rfl, rfl⟩
      go_wp2_with fail
      refine (is_err _ _ _ _ (Num.nil _) (by omega)).mono ?_
      rintro e w5 ⟨rfl, b5⟩
      replace ra := ra.mono b5
      replace na := na.mono b5
      replace B := below_trans B b5
      clear b5
      go_wp2
      go_ret
      exact ⟨rfl, B⟩
    · have t3 : (chk aa != 0) = true := by rw [bne_iff_ne]; exact hc
      have t4 : (chk aa == 0) = false := by rw [beq_eq_false_iff_ne]; exact hc
      go_wp2_with fail
      refine (parse_form t _ Hs.out (by omega)).mono ?_
      rintro e wq ⟨rfl, rfl⟩
      go_wp2_with fail
      refine (text_err _ aa _ ra (by rw [e1]; exact hc)).mono ?_
      rintro e w2 ⟨rfl, b2⟩
      replace ra := ra.mono b2
      replace B := below_trans B b2
      clear b2
      go_wp2_with fail
      refine (rcheck_calls _ aa _ ra).mono ?_
      rintro e wq ⟨rfl, rfl⟩
      go_wp2_with fail
      refine (lives_calls _).mono ?_
      rintro e w3 ⟨rfl, b3⟩
      replace ra := ra.mono b3
      replace B := below_trans B b3
      clear b3
      go_wp2_with fail
      refine (ristext_calls t _ (by omega)).mono ?_
      rintro e wq ⟨rfl, rfl⟩
      go_wp2_with fail
      refine (is_err _ _ _ _ (Num.nil _) (by omega)).mono ?_
      rintro e w4 ⟨rfl, b4⟩
      replace ra := ra.mono b4
      replace B := below_trans B b4
      clear b4
      go_wp2
      go_ret
      exact ⟨rfl, B⟩

end Go.Proofs
