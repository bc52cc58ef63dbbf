/- The walk of the law NatGcds: whatever comes in, it returns true and changes nothing that was there. -/
import Derived.Test.YtmeflonielhfaabLaw
import Derived.Test.YtmeflonielhfaabGcd
open Go.RowKit
namespace Go.Proofs
set_option linter.unusedVariables false

theorem err_two (xs ys : List Nat) (h : firstErr [xs, ys] = 0) : chk xs = 0 ∧ chk ys = 0 := by
  simp only [firstErr] at h
  split at h
  · split at h
    · exact ⟨by assumption, by assumption⟩
    · exact ⟨by assumption, h⟩
  · contradiction

theorem err_three (xs ys zs : List Nat) : firstErr [xs, ys, zs] = if firstErr [xs, ys] = 0 then chk zs else firstErr [xs, ys] := by
  simp only [firstErr]
  by_cases h1 : chk xs = 0
  · by_cases h2 : chk ys = 0
    · by_cases h3 : chk zs = 0
      · simp [h1, h2, h3]
      · simp [h1, h2, h3]
    · simp [h1, h2]
  · simp [h1]

/-- of a valid slice of limbs: the number, and how many limbs it has -/
theorem Raw.valid {w v xs} (h : Raw w v xs) (hc : chk xs = 0) : Num w v (val xs) ∧ (limbs (val xs)).length = xs.length := by
  have n := h.num hc
  obtain ⟨ad, c, rfl, hs⟩ := h
  exact ⟨n, by rw [(chk_num hc hs.2.2.1).1]⟩

theorem val_zero_iff {w v xs} (h : Raw w v xs) (hc : chk xs = 0) : val xs = 0 ↔ xs.length = 0 := by
  have e := (h.valid hc).2
  constructor
  · intro h0; rw [h0, limbs_zero] at e; exact e.symm
  · intro h0; rw [List.eq_nil_of_length_eq_zero h0]; rfl

set_option maxRecDepth 100000 in
set_option maxHeartbeats 1000000 in
theorem walk_gcds (v1 v2 : Value) (xs ys : List Nat) (w : World) (hx : In w v1 xs) (hy : In w v2 ys) :
    Calls Try.prog 5 #[v1, v2] w (RetTrue w) := by
  go_enter Try.func5, Try.ntmps5
  go_wp2_with fail
  refine (cut_calls _ xs 8 _ _ hx (by rfl) (by omega)).mono ?_
  rintro e w1 ⟨va, rfl, ra, _, b1⟩
  replace hx := hx.mono b1
  replace hy := hy.mono b1
  have B := b1
  clear b1
  go_wp2_with fail
  refine (cut_calls _ ys 8 _ _ hy (by rfl) (by omega)).mono ?_
  rintro e w2 ⟨vb, rfl, rb, _, b2⟩
  replace hy := hy.mono b2
  replace ra := ra.mono b2
  replace B := below_trans B b2
  clear b2
  have la : (xs.take 8).length ≤ 8 := by rw [List.length_take]; omega
  generalize xs.take 8 = aa at *
  have lb : (ys.take 8).length ≤ 8 := by rw [List.length_take]; omega
  generalize ys.take 8 = bb at *
  clear hx hy
  by_cases h2 : firstErr [aa, bb] = 0
  · have t2 : (firstErr [aa, bb] != 0) = false := by rw [h2]; rfl
    have e2 := err_two aa bb h2
    have H2 := Lib.hid h2
    clear h2
    obtain ⟨na, ea⟩ := ra.valid e2.1
    obtain ⟨nb, eb⟩ := rb.valid e2.2
    have za := val_zero_iff ra e2.1
    have zb := val_zero_iff rb e2.2
    clear e2
    have gl := limbs_length_mono (show Nat.gcd (val aa) (val bb) ≤ val aa + val bb by
      by_cases h : val aa = 0
      · rw [h, Nat.gcd_zero_left]; omega
      · have := Nat.gcd_le_left (val bb) (show 0 < val aa by omega); omega)
    have sl := limbs_length_add (val aa) (val bb)
    have hg0 : val aa ≠ 0 → Nat.gcd (val aa) (val bb) ≠ 0 := fun h k => h (Nat.eq_zero_of_gcd_eq_zero_left k)
    obtain ⟨ada, cca, rfl, sa⟩ := ra
    obtain ⟨adb, ccb, rfl, sb⟩ := rb
    have ra : Raw _ (.slice ada aa.length cca) aa := ⟨_, _, rfl, sa⟩
    have rb : Raw _ (.slice adb bb.length ccb) bb := ⟨_, _, rfl, sb⟩
    clear sa sb
    generalize val aa = a at *
    generalize val bb = b at *
    by_cases hz : a = 0 ∨ b = 0
    · have Hz := Lib.hid hz
      have ways : aa.length = 0 ∨ (aa.length ≠ 0 ∧ bb.length = 0) := by omega
      clear hz za zb
      obtain ⟨g, eg⟩ : ∃ g, Nat.gcd a b = g := ⟨_, rfl⟩
      have G := gcd_ok _ _ a b _ na nb (by omega)
      rw [eg] at G gl hg0
      have Eg := Lib.hid eg
      clear eg
      go_wp2_with fail
      refine (G).mono ?_
      rintro e w3 ⟨vg, rfl, hg, _, b3⟩
      replace ra := ra.mono b3
      replace rb := rb.mono b3
      replace na := na.mono b3
      replace nb := nb.mono b3
      replace B := below_trans B b3
      clear b3
      clear G
      go_wp2_with fail
      refine (lcm_zero _ _ a b _ na nb (by omega) Hz.out).mono ?_
      rintro e w4 ⟨vl, rfl, hl, _, b4⟩
      replace ra := ra.mono b4
      replace rb := rb.mono b4
      replace na := na.mono b4
      replace nb := nb.mono b4
      replace hg := hg.mono b4
      replace B := below_trans B b4
      clear b4
      go_wp2_with fail
      refine (both_calls _ _ aa bb _ ra rb).mono ?_
      rintro e wq ⟨rfl, rfl⟩
      have R := rgcd_calls _ _ a b _ na nb (by omega) (by omega)
      rw [Eg.out] at R
      go_wp2_with fail
      refine (R).mono ?_
      rintro e w5 ⟨vr, rfl, hr, b5⟩
      replace ra := ra.mono b5
      replace rb := rb.mono b5
      replace na := na.mono b5
      replace nb := nb.mono b5
      replace hg := hg.mono b5
      replace hl := hl.mono b5
      replace B := below_trans B b5
      clear b5
      clear R
      go_wp2_with fail
      refine (lives_calls _).mono ?_
      rintro e w6 ⟨rfl, b6⟩
      replace ra := ra.mono b6
      replace rb := rb.mono b6
      replace na := na.mono b6
      replace nb := nb.mono b6
      replace hg := hg.mono b6
      replace hl := hl.mono b6
      replace hr := hr.mono b6
      replace B := below_trans B b6
      clear b6
      go_wp2_with fail
      refine (is_num _ _ _ _ hg hr).mono ?_
      rintro e w7 ⟨rfl, b7⟩
      replace ra := ra.mono b7
      replace rb := rb.mono b7
      replace na := na.mono b7
      replace nb := nb.mono b7
      replace hg := hg.mono b7
      replace hl := hl.mono b7
      replace hr := hr.mono b7
      replace B := below_trans B b7
      clear b7
      rcases ways with hw | ⟨hw1, hw2⟩
      · have t3 : ((aa.length : Int) == 0) = true := by rw [hw]; rfl
        clear hw
        have hq := num_empty (own_made w7)
        have bq := below_alloc w7 (.cells #[] 24)
        replace hl := hl.mono bq
        replace B := below_trans B bq
        go_wp2_with fail
        refine (is_num _ _ _ _ hl hq).mono ?_
        rintro e w8 ⟨rfl, b8⟩
        replace hl := hl.mono b8
        replace hq := hq.mono b8
        replace B := below_trans B b8
        clear b8
        go_wp2
        go_ret
        exact ⟨rfl, B⟩
      · have t3 : ((aa.length : Int) == 0) = false := by rw [beq_eq_false_iff_ne]; omega
        have t4 : ((bb.length : Int) == 0) = true := by rw [hw2]; rfl
        clear hw1 hw2
        have hq := num_empty (own_made w7)
        have bq := below_alloc w7 (.cells #[] 24)
        replace hl := hl.mono bq
        replace B := below_trans B bq
        go_wp2_with fail
        refine (is_num _ _ _ _ hl hq).mono ?_
        rintro e w8 ⟨rfl, b8⟩
        replace hl := hl.mono b8
        replace hq := hq.mono b8
        replace B := below_trans B b8
        clear b8
        go_wp2
        go_ret
        exact ⟨rfl, B⟩
    · have ha0 : a ≠ 0 := by omega
      have hb0 : b ≠ 0 := by omega
      have t3 : ((aa.length : Int) == 0) = false := by rw [beq_eq_false_iff_ne]; omega
      have t4 : ((bb.length : Int) == 0) = false := by rw [beq_eq_false_iff_ne]; omega
      clear hz za zb
      obtain ⟨g, eg⟩ : ∃ g, Nat.gcd a b = g := ⟨_, rfl⟩
      have G := gcd_ok _ _ a b _ na nb (by omega)
      rw [eg] at G gl hg0
      have Eg := Lib.hid eg
      clear eg
      go_wp2_with fail
      refine (G).mono ?_
      rintro e w3 ⟨vg, rfl, hg, _, b3⟩
      replace ra := ra.mono b3
      replace rb := rb.mono b3
      replace na := na.mono b3
      replace nb := nb.mono b3
      replace B := below_trans B b3
      clear b3
      clear G
      replace hg0 := hg0 ha0
      have L := lcm_ok _ _ a b _ na nb (by omega) ha0 hb0
      rw [Eg.out] at L
      go_wp2_with fail
      refine (L).mono ?_
      rintro e w4 ⟨vl, rfl, hl, _, b4⟩
      replace ra := ra.mono b4
      replace rb := rb.mono b4
      replace na := na.mono b4
      replace nb := nb.mono b4
      replace hg := hg.mono b4
      replace B := below_trans B b4
      clear b4
      clear L
      go_wp2_with fail
      refine (both_calls _ _ aa bb _ ra rb).mono ?_
      rintro e wq ⟨rfl, rfl⟩
      have R := rgcd_calls _ _ a b _ na nb (by omega) (by omega)
      rw [Eg.out] at R
      go_wp2_with fail
      refine (R).mono ?_
      rintro e w5 ⟨vr, rfl, hr, b5⟩
      replace ra := ra.mono b5
      replace rb := rb.mono b5
      replace na := na.mono b5
      replace nb := nb.mono b5
      replace hg := hg.mono b5
      replace hl := hl.mono b5
      replace B := below_trans B b5
      clear b5
      clear R
      go_wp2_with fail
      refine (lives_calls _).mono ?_
      rintro e w6 ⟨rfl, b6⟩
      replace ra := ra.mono b6
      replace rb := rb.mono b6
      replace na := na.mono b6
      replace nb := nb.mono b6
      replace hg := hg.mono b6
      replace hl := hl.mono b6
      replace hr := hr.mono b6
      replace B := below_trans B b6
      clear b6
      go_wp2_with fail
      refine (is_num _ _ _ _ hg hr).mono ?_
      rintro e w7 ⟨rfl, b7⟩
      replace ra := ra.mono b7
      replace rb := rb.mono b7
      replace na := na.mono b7
      replace nb := nb.mono b7
      replace hg := hg.mono b7
      replace hl := hl.mono b7
      replace hr := hr.mono b7
      replace B := below_trans B b7
      clear b7
      have ql := limbs_length_mono (Nat.div_le_self a g)
      go_wp2_with fail
      refine (rdivmod_calls _ _ a g _ na hr hg0 (by omega) (by omega)).mono ?_
      rintro e w8 ⟨vq, vs, rfl, hq, _, b8⟩
      replace ra := ra.mono b8
      replace rb := rb.mono b8
      replace na := na.mono b8
      replace nb := nb.mono b8
      replace hg := hg.mono b8
      replace hl := hl.mono b8
      replace hr := hr.mono b8
      replace B := below_trans B b8
      clear b8
      go_wp2_with fail
      refine (rmul_calls _ _ (a / g) b _ hq nb (by omega) (by omega)).mono ?_
      rintro e w9 ⟨vm, rfl, hm, _, b9⟩
      replace ra := ra.mono b9
      replace rb := rb.mono b9
      replace na := na.mono b9
      replace nb := nb.mono b9
      replace hg := hg.mono b9
      replace hl := hl.mono b9
      replace hr := hr.mono b9
      replace hq := hq.mono b9
      replace B := below_trans B b9
      clear b9
      go_wp2_with fail
      refine (is_num _ _ _ _ hl hm).mono ?_
      rintro e w10 ⟨rfl, b10⟩
      replace ra := ra.mono b10
      replace rb := rb.mono b10
      replace na := na.mono b10
      replace nb := nb.mono b10
      replace hg := hg.mono b10
      replace hl := hl.mono b10
      replace hr := hr.mono b10
      replace hq := hq.mono b10
      replace hm := hm.mono b10
      replace B := below_trans B b10
      clear b10
      go_wp2
      go_ret
      exact ⟨rfl, B⟩
  · have t3 : (firstErr [aa, bb] != 0) = true := by rw [bne_iff_ne]; exact h2
    go_wp2_with fail
    refine (gcd_err _ _ aa bb _ ra rb h2).mono ?_
    rintro e w3 ⟨rfl, b3⟩
    replace ra := ra.mono b3
    replace rb := rb.mono b3
    replace B := below_trans B b3
    clear b3
    go_wp2_with fail
    refine (lcm_err _ _ aa bb _ ra rb h2).mono ?_
    rintro e w4 ⟨rfl, b4⟩
    replace ra := ra.mono b4
    replace rb := rb.mono b4
    replace B := below_trans B b4
    clear b4
    go_wp2_with fail
    refine (both_calls _ _ aa bb _ ra rb).mono ?_
    rintro e wq ⟨rfl, rfl⟩
    go_wp2_with fail
    refine (is_err _ _ _ _ (Num.nil _) h2).mono ?_
    rintro e w5 ⟨rfl, b5⟩
    replace ra := ra.mono b5
    replace rb := rb.mono b5
    replace B := below_trans B b5
    clear b5
    go_wp2_with fail
    refine (is_err _ _ _ _ (Num.nil _) h2).mono ?_
    rintro e w6 ⟨rfl, b6⟩
    replace ra := ra.mono b6
    replace rb := rb.mono b6
    replace B := below_trans B b6
    clear b6
    go_wp2_with fail
    refine (lives_calls _).mono ?_
    rintro e w7 ⟨rfl, b7⟩
    replace ra := ra.mono b7
    replace rb := rb.mono b7
    replace B := below_trans B b7
    clear b7
    go_wp2
    go_ret
    exact ⟨rfl, B⟩

end Go.Proofs
