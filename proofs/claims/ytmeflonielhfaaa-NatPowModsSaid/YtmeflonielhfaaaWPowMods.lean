/- The walk of the law NatPowMods: whatever comes in, it returns true and changes nothing that was there. -/
import Derived.Test.YtmeflonielhfaaaLaw
import Derived.Test.YtmeflonielhfaaaPow
import Derived.Test.YtmeflonielhfaaaRPow
open Go.RowKit
namespace Go.Proofs
set_option linter.unusedVariables false

theorem err_two (xs ys : List Nat) (h : firstErr [xs, ys] = 0) : chk xs = 0 ∧ chk ys = 0 := by
  simp only [firstErr] at h
  split at h
  · split at h
    · exact ⟨by assumption, by assumption⟩
    · exact ⟨by assumption, h⟩
  · contradiction

theorem err_three (xs ys zs : List Nat) : firstErr [xs, ys, zs] = if firstErr [xs, ys] = 0 then chk zs else firstErr [xs, ys] := by
  simp only [firstErr]
  by_cases h1 : chk xs = 0
  · by_cases h2 : chk ys = 0
    · by_cases h3 : chk zs = 0
      · simp [h1, h2, h3]
      · simp [h1, h2, h3]
    · simp [h1, h2]
  · simp [h1]

/-- of a valid slice of limbs: the number, and how many limbs it has -/
theorem Raw.valid {w v xs} (h : Raw w v xs) (hc : chk xs = 0) : Num w v (val xs) ∧ (limbs (val xs)).length = xs.length := by
  have n := h.num hc
  obtain ⟨ad, c, rfl, hs⟩ := h
  exact ⟨n, by rw [(chk_num hc hs.2.2.1).1]⟩

theorem val_zero_iff {w v xs} (h : Raw w v xs) (hc : chk xs = 0) : val xs = 0 ↔ xs.length = 0 := by
  have e := (h.valid hc).2
  constructor
  · intro h0; rw [h0, limbs_zero] at e; exact e.symm
  · intro h0; rw [List.eq_nil_of_length_eq_zero h0]; rfl

set_option maxRecDepth 100000 in
set_option maxHeartbeats 1000000 in
theorem walk_powMods (v1 v2 v3 : Value) (xs ys zs : List Nat) (w : World) (hx : In w v1 xs) (hy : In w v2 ys) (hz : In w v3 zs) :
    Calls Try.prog 10 #[v1, v2, v3] w (RetTrue w) := by
  go_enter Try.func10, Try.ntmps10
  go_wp2_with fail
  refine (cut_calls _ xs 4 _ _ hx (by rfl) (by omega)).mono ?_
  rintro e w1 ⟨va, rfl, ra, _, b1⟩
  replace hx := hx.mono b1
  replace hy := hy.mono b1
  replace hz := hz.mono b1
  have B := b1
  clear b1
  go_wp2_with fail
  refine (cut_calls _ ys 2 _ _ hy (by rfl) (by omega)).mono ?_
  rintro e w2 ⟨vb, rfl, rb, _, b2⟩
  replace hy := hy.mono b2
  replace hz := hz.mono b2
  replace ra := ra.mono b2
  replace B := below_trans B b2
  clear b2
  go_wp2_with fail
  refine (cut_calls _ zs 4 _ _ hz (by rfl) (by omega)).mono ?_
  rintro e w3 ⟨vc, rfl, rc, _, b3⟩
  replace hz := hz.mono b3
  replace ra := ra.mono b3
  replace rb := rb.mono b3
  replace B := below_trans B b3
  clear b3
  have la : (xs.take 4).length ≤ 4 := by rw [List.length_take]; omega
  generalize xs.take 4 = aa at *
  have lb : (ys.take 2).length ≤ 2 := by rw [List.length_take]; omega
  generalize ys.take 2 = bb at *
  have lc : (zs.take 4).length ≤ 4 := by rw [List.length_take]; omega
  generalize zs.take 4 = mm at *
  clear hx hy hz
  have h3 := err_three aa bb mm
  by_cases h2 : firstErr [aa, bb] = 0
  · rw [if_pos h2] at h3
    have t2 : (firstErr [aa, bb] == 0) = true := by rw [h2]; rfl
    have H2 := Lib.hid h2
    have e2 := err_two aa bb h2
    clear h2
    by_cases hm : chk mm = 0
    · have t3 : (chk mm == 0) = true := by rw [hm]; rfl
      have t4 : (chk mm != 0) = false := by rw [hm]; rfl
      obtain ⟨na, ea⟩ := ra.valid e2.1
      obtain ⟨nb, eb⟩ := rb.valid e2.2
      obtain ⟨nm, em⟩ := rc.valid hm
      have ez := val_zero_iff rc hm
      have Hm := Lib.hid hm
      clear hm e2 h3
      by_cases hz : mm.length = 0
      · rw [ez.mpr hz] at nm
        have t5 : ((mm.length : Int) == 0) = true := by rw [hz]; rfl
        clear hz ez em
        obtain ⟨adm, cm, rfl, sm⟩ := rc
        have rc : Raw _ (.slice adm mm.length cm) mm := ⟨_, _, rfl, sm⟩
        clear sm
        go_wp2_with fail
        refine (powmod_zero _ _ _ (val aa) (val bb) _ na nb nm (by omega)).mono ?_
        rintro e w4 ⟨vp, rfl, hp, _, b4⟩
        replace ra := ra.mono b4
        replace rb := rb.mono b4
        replace rc := rc.mono b4
        replace na := na.mono b4
        replace nb := nb.mono b4
        replace nm := nm.mono b4
        replace B := below_trans B b4
        clear b4
        go_wp2_with fail
        refine (both_calls _ _ aa bb _ ra rb).mono ?_
        rintro e wq ⟨rfl, rfl⟩
        go_wp2_with fail
        refine (rcheck_calls _ mm _ rc).mono ?_
        rintro e wq ⟨rfl, rfl⟩
        go_wp2_with fail
        refine (is_err _ _ 4 _ hp (by decide)).mono ?_
        rintro e w5 ⟨rfl, b5⟩
        replace ra := ra.mono b5
        replace rb := rb.mono b5
        replace rc := rc.mono b5
        replace na := na.mono b5
        replace nb := nb.mono b5
        replace nm := nm.mono b5
        replace hp := hp.mono b5
        replace B := below_trans B b5
        clear b5
        go_wp2_with fail
        refine (lives_calls _).mono ?_
        rintro e w6 ⟨rfl, b6⟩
        replace ra := ra.mono b6
        replace rb := rb.mono b6
        replace rc := rc.mono b6
        replace na := na.mono b6
        replace nb := nb.mono b6
        replace nm := nm.mono b6
        replace hp := hp.mono b6
        replace B := below_trans B b6
        clear b6
        go_wp2
        go_ret
        exact ⟨rfl, B⟩
      · have t5 : ((mm.length : Int) == 0) = false := by rw [beq_eq_false_iff_ne]; omega
        have hm0 : val mm ≠ 0 := fun h => hz (ez.mp h)
        clear hz ez
        obtain ⟨adm, cm, rfl, sm⟩ := rc
        have rc : Raw _ (.slice adm mm.length cm) mm := ⟨_, _, rfl, sm⟩
        clear sm
        go_wp2_with fail
        refine (powmod_ok _ _ _ (val aa) (val bb) (val mm) _ na nb nm (by omega) hm0).mono ?_
        rintro e w4 ⟨vp, rfl, hp, _, b4⟩
        replace ra := ra.mono b4
        replace rb := rb.mono b4
        replace rc := rc.mono b4
        replace na := na.mono b4
        replace nb := nb.mono b4
        replace nm := nm.mono b4
        replace B := below_trans B b4
        clear b4
        go_wp2_with fail
        refine (both_calls _ _ aa bb _ ra rb).mono ?_
        rintro e wq ⟨rfl, rfl⟩
        go_wp2_with fail
        refine (rcheck_calls _ mm _ rc).mono ?_
        rintro e wq ⟨rfl, rfl⟩
        go_wp2_with fail
        refine (rpowmod_calls _ _ _ (val aa) (val bb) (val mm) _ na nb nm hm0 (by omega) (by omega) (by omega)).mono ?_
        rintro e w5 ⟨vq, rfl, hq, b5⟩
        replace ra := ra.mono b5
        replace rb := rb.mono b5
        replace rc := rc.mono b5
        replace na := na.mono b5
        replace nb := nb.mono b5
        replace nm := nm.mono b5
        replace hp := hp.mono b5
        replace B := below_trans B b5
        clear b5
        go_wp2_with fail
        refine (is_num _ _ _ _ hp hq).mono ?_
        rintro e w6 ⟨rfl, b6⟩
        replace ra := ra.mono b6
        replace rb := rb.mono b6
        replace rc := rc.mono b6
        replace na := na.mono b6
        replace nb := nb.mono b6
        replace nm := nm.mono b6
        replace hp := hp.mono b6
        replace hq := hq.mono b6
        replace B := below_trans B b6
        clear b6
        go_wp2_with fail
        refine (lives_calls _).mono ?_
        rintro e w7 ⟨rfl, b7⟩
        replace ra := ra.mono b7
        replace rb := rb.mono b7
        replace rc := rc.mono b7
        replace na := na.mono b7
        replace nb := nb.mono b7
        replace nm := nm.mono b7
        replace hp := hp.mono b7
        replace hq := hq.mono b7
        replace B := below_trans B b7
        clear b7
        go_wp2
        go_ret
        exact ⟨rfl, B⟩
    · have t3 : (chk mm == 0) = false := by rw [beq_eq_false_iff_ne]; exact hm
      have t4 : (chk mm != 0) = true := by rw [bne_iff_ne]; exact hm
      have L := powmod_err _ _ _ aa bb mm _ ra rb rc (by rw [h3]; exact hm)
      rw [h3] at L
      clear h3 e2
      go_wp2_with fail
      refine (L).mono ?_
      rintro e w4 ⟨rfl, b4⟩
      replace ra := ra.mono b4
      replace rb := rb.mono b4
      replace rc := rc.mono b4
      replace B := below_trans B b4
      clear b4
      clear L
      go_wp2_with fail
      refine (both_calls _ _ aa bb _ ra rb).mono ?_
      rintro e wq ⟨rfl, rfl⟩
      go_wp2_with fail
      refine (rcheck_calls _ mm _ rc).mono ?_
      rintro e wq ⟨rfl, rfl⟩
      go_wp2_with fail
      refine (is_err _ _ _ _ (Num.nil _) hm).mono ?_
      rintro e w5 ⟨rfl, b5⟩
      replace ra := ra.mono b5
      replace rb := rb.mono b5
      replace rc := rc.mono b5
      replace B := below_trans B b5
      clear b5
      go_wp2_with fail
      refine (lives_calls _).mono ?_
      rintro e w6 ⟨rfl, b6⟩
      replace ra := ra.mono b6
      replace rb := rb.mono b6
      replace rc := rc.mono b6
      replace B := below_trans B b6
      clear b6
      go_wp2
      go_ret
      exact ⟨rfl, B⟩
  · rw [if_neg h2] at h3
    have t2 : (firstErr [aa, bb] == 0) = false := by rw [beq_eq_false_iff_ne]; exact h2
    have t3 : (firstErr [aa, bb] != 0) = true := by rw [bne_iff_ne]; exact h2
    have L := powmod_err _ _ _ aa bb mm _ ra rb rc (by rw [h3]; exact h2)
    rw [h3] at L
    clear h3
    go_wp2_with fail
    refine (L).mono ?_
    rintro e w4 ⟨rfl, b4⟩
    replace ra := ra.mono b4
    replace rb := rb.mono b4
    replace rc := rc.mono b4
    replace B := below_trans B b4
    clear b4
    clear L
    go_wp2_with fail
    refine (both_calls _ _ aa bb _ ra rb).mono ?_
    rintro e wq ⟨rfl, rfl⟩
    go_wp2_with fail
    refine (is_err _ _ _ _ (Num.nil _) h2).mono ?_
    rintro e w5 ⟨rfl, b5⟩
    replace ra := ra.mono b5
    replace rb := rb.mono b5
    replace rc := rc.mono b5
    replace B := below_trans B b5
    clear b5
    go_wp2_with fail
    refine (lives_calls _).mono ?_
    rintro e w6 ⟨rfl, b6⟩
    replace ra := ra.mono b6
    replace rb := rb.mono b6
    replace rc := rc.mono b6
    replace B := below_trans B b6
    clear b6
    go_wp2
    go_ret
    exact ⟨rfl, B⟩

end Go.Proofs
