/- The walk of the law NatBack: whatever comes in, it returns true and changes nothing that was there. -/
import Derived.Test.YtmeflonielhfaabMore
import Derived.Test.YtmeflonielhfaabTextLaw
open Go.RowKit
namespace Go.Proofs
set_option linter.unusedVariables false

theorem In.short {w v xs} (h : In w v xs) (n : Nat) : (limbs (val (xs.take n))).length ≤ n := by
  obtain ⟨ad, c, rfl, h1, h2, h3, h4⟩ := h
  have := limbs_length_val (xs.take n) (fun x hx => h3 x (List.mem_of_mem_take hx))
  rw [List.length_take] at this
  omega

theorem cut_str (s : ByteArray) (n : Nat) (h : n < s.size) : (s.extract 0 n).size ≤ n := by
  rw [ByteArray.size_extract]; omega

set_option maxRecDepth 100000 in
set_option maxHeartbeats 1000000 in
theorem walk_back (v1 : Value) (xs : List Nat) (s : ByteArray) (w : World) (hx0 : In w v1 xs) (hsz : s.size ≤ 9223372036854775807) :
    Calls Try.prog 11 #[v1, .string s] w (RetTrue w) := by
  have hx := hx0
  go_enter Try.func11, Try.ntmps11
  go_wp2_with fail
  refine (whole_calls _ xs 80 _ _ hx (by rfl) (by omega)).mono ?_
  rintro e w1 ⟨va, rfl, ha, _, b1⟩
  replace hx := hx.mono b1
  have B := b1
  clear b1
  have la := In.short hx0 80
  generalize val (xs.take 80) = a at *
  clear hx hx0
  have lw := lows_room la
  have hok := textOk_text a
  have hsz2 : (strOf (text a)).size ≤ 20000 := by
    rw [strOf_size, text]
    split
    · simp
    · rw [List.length_reverse]; omega
  have P := fun w : World => parse_ok (strOf (text a)) w hok hsz2
  rw [dec_text] at P
  have HP := Lib.hid P
  clear P hok
  go_wp2_with fail
  refine (text_ok _ a _ ha (by omega) (by omega)).mono ?_
  rintro e w2 ⟨rfl, b2⟩
  replace ha := ha.mono b2
  replace B := below_trans B b2
  clear b2
  go_wp2_with fail
  refine (HP.out _).mono ?_
  rintro e w3 ⟨vb, rfl, hb, _, b3⟩
  replace ha := ha.mono b3
  replace B := below_trans B b3
  clear b3
  go_wp2_with fail
  refine (lsame_calls _ _ a _ ha hb).mono ?_
  rintro e w4 ⟨rfl, b4⟩
  replace ha := ha.mono b4
  replace hb := hb.mono b4
  replace B := below_trans B b4
  clear b4
  go_wp2_with fail
  refine (lives_calls _).mono ?_
  rintro e w5 ⟨rfl, b5⟩
  replace ha := ha.mono b5
  replace hb := hb.mono b5
  replace B := below_trans B b5
  clear b5
  clear HP hsz2 lw
  go_upto_if 44 with (fail)
  go_cut [1] (fun sv wx => (∃ t : ByteArray, sv = .string t ∧ t.size ≤ 200) ∧ wx = w5)
  case first =>
    by_cases h : 200 < s.size
    · have h1 : (200 : Int) < (s.size : Int) := by omega
      have hc := cut_str s 200 h
      go_wp2_with fail
      go_meet
      exact ⟨⟨_, rfl, hc⟩, rfl⟩
    · have h1 : ¬ (200 : Int) < (s.size : Int) := by omega
      go_wp2_with fail
      go_meet
      exact ⟨⟨_, rfl, by omega⟩, rfl⟩
  case rest =>
  obtain ⟨⟨t, rfl, ht⟩, rfl⟩ := hcut
  by_cases hs : TextOk t
  · have Hs := Lib.hid hs
    have htd := text_dec t hs
    have hlt := dec_lt t t.size hs.2.2
    have hl1 := ten_len (Nat.le_of_lt hlt)
    have hl2 := lows_digits _ _ hlt
    clear hs hlt
    have T := fun (v : Value) (w : World) (h : Num w v (dec t t.size)) => text_ok v (dec t t.size) w h (by omega) (by omega)
    rw [htd] at T
    have HT := Lib.hid T
    clear T htd
    go_wp2_with fail
    refine (parse_ok t _ Hs.out (by omega)).mono ?_
    rintro e w6 ⟨vn, rfl, hn, _, b6⟩
    replace ha := ha.mono b6
    replace hb := hb.mono b6
    replace B := below_trans B b6
    clear b6
    go_wp2_with fail
    refine (HT.out _ _ hn).mono ?_
    rintro e w7 ⟨rfl, b7⟩
    replace ha := ha.mono b7
    replace hb := hb.mono b7
    replace hn := hn.mono b7
    replace B := below_trans B b7
    clear b7
    go_wp2
    go_ret
    exact ⟨rfl, B⟩
  · go_wp2_with fail
    refine (parse_form t _ hs (by omega)).mono ?_
    rintro e wq ⟨rfl, rfl⟩
    go_wp2
    go_ret
    exact ⟨rfl, B⟩

end Go.Proofs
