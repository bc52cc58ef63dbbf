/- The walk of the law NatAdds: whatever comes in, it returns true and changes nothing that was there. -/
import Derived.Test.YtmeflonielhfaaaLaw
import Derived.Test.YtmeflonielhfaaaRAdd
import Derived.Test.YtmeflonielhfaaaRCmp
open Go.RowKit
namespace Go.Proofs
set_option linter.unusedVariables false

theorem err_two (xs ys : List Nat) (h : firstErr [xs, ys] = 0) : chk xs = 0 ∧ chk ys = 0 := by
  simp only [firstErr] at h
  split at h
  · split at h
    · exact ⟨by assumption, by assumption⟩
    · exact ⟨by assumption, h⟩
  · contradiction

theorem err_three (xs ys zs : List Nat) : firstErr [xs, ys, zs] = if firstErr [xs, ys] = 0 then chk zs else firstErr [xs, ys] := by
  simp only [firstErr]
  by_cases h1 : chk xs = 0
  · by_cases h2 : chk ys = 0
    · by_cases h3 : chk zs = 0
      · simp [h1, h2, h3]
      · simp [h1, h2, h3]
    · simp [h1, h2]
  · simp [h1]

/-- of a valid slice of limbs: the number, and how many limbs it has -/
theorem Raw.valid {w v xs} (h : Raw w v xs) (hc : chk xs = 0) : Num w v (val xs) ∧ (limbs (val xs)).length = xs.length := by
  have n := h.num hc
  obtain ⟨ad, c, rfl, hs⟩ := h
  exact ⟨n, by rw [(chk_num hc hs.2.2.1).1]⟩

theorem val_zero_iff {w v xs} (h : Raw w v xs) (hc : chk xs = 0) : val xs = 0 ↔ xs.length = 0 := by
  have e := (h.valid hc).2
  constructor
  · intro h0; rw [h0, limbs_zero] at e; exact e.symm
  · intro h0; rw [List.eq_nil_of_length_eq_zero h0]; rfl

set_option maxRecDepth 100000 in
set_option maxHeartbeats 1000000 in
theorem walk_adds (v1 v2 : Value) (xs ys : List Nat) (w : World) (hx : In w v1 xs) (hy : In w v2 ys) :
    Calls Try.prog 12 #[v1, v2] w (RetTrue w) := by
  go_enter Try.func12, Try.ntmps12
  go_wp2_with fail
  refine (cut_calls _ xs 60 _ _ hx (by rfl) (by omega)).mono ?_
  rintro e w1 ⟨va, rfl, ra, _, b1⟩
  replace hx := hx.mono b1
  replace hy := hy.mono b1
  have B := b1
  clear b1
  go_wp2_with fail
  refine (cut_calls _ ys 60 _ _ hy (by rfl) (by omega)).mono ?_
  rintro e w2 ⟨vb, rfl, rb, _, b2⟩
  replace hy := hy.mono b2
  replace ra := ra.mono b2
  replace B := below_trans B b2
  clear b2
  have la : (xs.take 60).length ≤ 60 := by rw [List.length_take]; omega
  generalize xs.take 60 = aa at *
  have lb : (ys.take 60).length ≤ 60 := by rw [List.length_take]; omega
  generalize ys.take 60 = bb at *
  clear hx hy
  by_cases h2 : firstErr [aa, bb] = 0
  · have t2 : (firstErr [aa, bb] != 0) = false := by rw [h2]; rfl
    have e2 := err_two aa bb h2
    have H2 := Lib.hid h2
    clear h2
    obtain ⟨na, ea⟩ := ra.valid e2.1
    obtain ⟨nb, eb⟩ := rb.valid e2.2
    clear e2
    have hla := limbs_length_add (val aa) (val bb)
    generalize val aa = a at *
    generalize val bb = b at *
    go_wp2_with fail
    refine (add_ok _ _ a b _ na nb (by omega)).mono ?_
    rintro e w3 ⟨vs, rfl, hs, _, b3⟩
    replace ra := ra.mono b3
    replace rb := rb.mono b3
    replace na := na.mono b3
    replace nb := nb.mono b3
    replace B := below_trans B b3
    clear b3
    by_cases hlt : a < b
    · obtain ⟨c, ec⟩ : ∃ c, cmpInt a b = c := ⟨_, rfl⟩
      have t9 : c < 0 := by rw [← ec, cmpInt_lt hlt]; decide
      have t8 : (c != c) = false := bne_self_eq_false _
      have Ec := Lib.hid ec
      clear ec
      go_wp2_with fail
      refine (sub_low _ _ a b _ na nb (by omega) hlt).mono ?_
      rintro e w4 ⟨vd, rfl, hd, _, b4⟩
      replace ra := ra.mono b4
      replace rb := rb.mono b4
      replace na := na.mono b4
      replace nb := nb.mono b4
      replace hs := hs.mono b4
      replace B := below_trans B b4
      clear b4
      have C := cmp_ok _ _ a b _ na nb (by omega)
      rw [Ec.out] at C
      go_wp2_with fail
      refine (C).mono ?_
      rintro e w5 ⟨rfl, b5⟩
      replace ra := ra.mono b5
      replace rb := rb.mono b5
      replace na := na.mono b5
      replace nb := nb.mono b5
      replace hs := hs.mono b5
      replace hd := hd.mono b5
      replace B := below_trans B b5
      clear b5
      clear C
      go_wp2_with fail
      refine (both_calls _ _ aa bb _ ra rb).mono ?_
      rintro e wq ⟨rfl, rfl⟩
      go_wp2_with fail
      refine (lives_calls _).mono ?_
      rintro e w6 ⟨rfl, b6⟩
      replace ra := ra.mono b6
      replace rb := rb.mono b6
      replace na := na.mono b6
      replace nb := nb.mono b6
      replace hs := hs.mono b6
      replace hd := hd.mono b6
      replace B := below_trans B b6
      clear b6
      go_wp2_with fail
      refine (rcmp_calls _ _ a b _ c na nb Ec.out (by omega) (by omega)).mono ?_
      rintro e w7 ⟨rfl, b7⟩
      replace ra := ra.mono b7
      replace rb := rb.mono b7
      replace na := na.mono b7
      replace nb := nb.mono b7
      replace hs := hs.mono b7
      replace hd := hd.mono b7
      replace B := below_trans B b7
      clear b7
      go_wp2_with fail
      refine (radd_calls _ _ a b _ na nb (by omega) (by omega)).mono ?_
      rintro e w8 ⟨vt, rfl, ht, _, b8⟩
      replace ra := ra.mono b8
      replace rb := rb.mono b8
      replace na := na.mono b8
      replace nb := nb.mono b8
      replace hs := hs.mono b8
      replace hd := hd.mono b8
      replace B := below_trans B b8
      clear b8
      go_wp2_with fail
      refine (is_num _ _ _ _ hs ht).mono ?_
      rintro e w9 ⟨rfl, b9⟩
      replace ra := ra.mono b9
      replace rb := rb.mono b9
      replace na := na.mono b9
      replace nb := nb.mono b9
      replace hs := hs.mono b9
      replace hd := hd.mono b9
      replace ht := ht.mono b9
      replace B := below_trans B b9
      clear b9
      go_wp2_with fail
      refine (is_err _ _ 5 _ hd (by decide)).mono ?_
      rintro e w10 ⟨rfl, b10⟩
      replace ra := ra.mono b10
      replace rb := rb.mono b10
      replace na := na.mono b10
      replace nb := nb.mono b10
      replace hs := hs.mono b10
      replace hd := hd.mono b10
      replace ht := ht.mono b10
      replace B := below_trans B b10
      clear b10
      go_wp2
      go_ret
      exact ⟨rfl, B⟩
    · obtain ⟨c, ec⟩ : ∃ c, cmpInt a b = c := ⟨_, rfl⟩
      have t9 : ¬ c < 0 := by rw [← ec]; unfold cmpInt; split <;> (try split) <;> omega
      have t8 : (c != c) = false := bne_self_eq_false _
      have Ec := Lib.hid ec
      clear ec
      go_wp2_with fail
      refine (sub_ok _ _ a b _ na nb (by omega) (by omega)).mono ?_
      rintro e w4 ⟨vd, rfl, hd, _, b4⟩
      replace ra := ra.mono b4
      replace rb := rb.mono b4
      replace na := na.mono b4
      replace nb := nb.mono b4
      replace hs := hs.mono b4
      replace B := below_trans B b4
      clear b4
      have C := cmp_ok _ _ a b _ na nb (by omega)
      rw [Ec.out] at C
      go_wp2_with fail
      refine (C).mono ?_
      rintro e w5 ⟨rfl, b5⟩
      replace ra := ra.mono b5
      replace rb := rb.mono b5
      replace na := na.mono b5
      replace nb := nb.mono b5
      replace hs := hs.mono b5
      replace hd := hd.mono b5
      replace B := below_trans B b5
      clear b5
      clear C
      go_wp2_with fail
      refine (both_calls _ _ aa bb _ ra rb).mono ?_
      rintro e wq ⟨rfl, rfl⟩
      go_wp2_with fail
      refine (lives_calls _).mono ?_
      rintro e w6 ⟨rfl, b6⟩
      replace ra := ra.mono b6
      replace rb := rb.mono b6
      replace na := na.mono b6
      replace nb := nb.mono b6
      replace hs := hs.mono b6
      replace hd := hd.mono b6
      replace B := below_trans B b6
      clear b6
      go_wp2_with fail
      refine (rcmp_calls _ _ a b _ c na nb Ec.out (by omega) (by omega)).mono ?_
      rintro e w7 ⟨rfl, b7⟩
      replace ra := ra.mono b7
      replace rb := rb.mono b7
      replace na := na.mono b7
      replace nb := nb.mono b7
      replace hs := hs.mono b7
      replace hd := hd.mono b7
      replace B := below_trans B b7
      clear b7
      go_wp2_with fail
      refine (radd_calls _ _ a b _ na nb (by omega) (by omega)).mono ?_
      rintro e w8 ⟨vt, rfl, ht, _, b8⟩
      replace ra := ra.mono b8
      replace rb := rb.mono b8
      replace na := na.mono b8
      replace nb := nb.mono b8
      replace hs := hs.mono b8
      replace hd := hd.mono b8
      replace B := below_trans B b8
      clear b8
      go_wp2_with fail
      refine (is_num _ _ _ _ hs ht).mono ?_
      rintro e w9 ⟨rfl, b9⟩
      replace ra := ra.mono b9
      replace rb := rb.mono b9
      replace na := na.mono b9
      replace nb := nb.mono b9
      replace hs := hs.mono b9
      replace hd := hd.mono b9
      replace ht := ht.mono b9
      replace B := below_trans B b9
      clear b9
      go_wp2_with fail
      refine (rsub_calls _ _ a b _ na nb (by omega) (by omega)).mono ?_
      rintro e w10 ⟨ve, rfl, he, _, b10⟩
      replace ra := ra.mono b10
      replace rb := rb.mono b10
      replace na := na.mono b10
      replace nb := nb.mono b10
      replace hs := hs.mono b10
      replace hd := hd.mono b10
      replace ht := ht.mono b10
      replace B := below_trans B b10
      clear b10
      go_wp2_with fail
      refine (is_num _ _ _ _ hd he).mono ?_
      rintro e w11 ⟨rfl, b11⟩
      replace ra := ra.mono b11
      replace rb := rb.mono b11
      replace na := na.mono b11
      replace nb := nb.mono b11
      replace hs := hs.mono b11
      replace hd := hd.mono b11
      replace ht := ht.mono b11
      replace he := he.mono b11
      replace B := below_trans B b11
      clear b11
      go_wp2
      go_ret
      exact ⟨rfl, B⟩
  · have t3 : (firstErr [aa, bb] != 0) = true := by rw [bne_iff_ne]; exact h2
    go_wp2_with fail
    refine (add_err _ _ aa bb _ ra rb h2).mono ?_
    rintro e w3 ⟨rfl, b3⟩
    replace ra := ra.mono b3
    replace rb := rb.mono b3
    replace B := below_trans B b3
    clear b3
    go_wp2_with fail
    refine (sub_err _ _ aa bb _ ra rb h2).mono ?_
    rintro e w4 ⟨rfl, b4⟩
    replace ra := ra.mono b4
    replace rb := rb.mono b4
    replace B := below_trans B b4
    clear b4
    go_wp2_with fail
    refine (cmp_err _ _ aa bb _ ra rb h2).mono ?_
    rintro e w5 ⟨rfl, b5⟩
    replace ra := ra.mono b5
    replace rb := rb.mono b5
    replace B := below_trans B b5
    clear b5
    go_wp2_with fail
    refine (both_calls _ _ aa bb _ ra rb).mono ?_
    rintro e wq ⟨rfl, rfl⟩
    go_wp2_with fail
    refine (lives_calls _).mono ?_
    rintro e w6 ⟨rfl, b6⟩
    replace ra := ra.mono b6
    replace rb := rb.mono b6
    replace B := below_trans B b6
    clear b6
    go_wp2_with fail
    refine (is_err _ _ _ _ (Num.nil _) h2).mono ?_
    rintro e w7 ⟨rfl, b7⟩
    replace ra := ra.mono b7
    replace rb := rb.mono b7
    replace B := below_trans B b7
    clear b7
    go_wp2_with fail
    refine (is_err _ _ _ _ (Num.nil _) h2).mono ?_
    rintro e w8 ⟨rfl, b8⟩
    replace ra := ra.mono b8
    replace rb := rb.mono b8
    replace B := below_trans B b8
    clear b8
    go_wp2
    go_ret
    exact ⟨rfl, B⟩

end Go.Proofs
