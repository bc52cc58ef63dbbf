/- The walk of the law NatPowers: whatever comes in, it returns true and changes nothing that was there. -/
import Derived.Test.YtmeflonielhfaaaLaw
import Derived.Test.YtmeflonielhfaaaPow
import Derived.Test.YtmeflonielhfaaaRPow
open Go.RowKit
namespace Go.Proofs
set_option linter.unusedVariables false

theorem err_two (xs ys : List Nat) (h : firstErr [xs, ys] = 0) : chk xs = 0 ∧ chk ys = 0 := by
  simp only [firstErr] at h
  split at h
  · split at h
    · exact ⟨by assumption, by assumption⟩
    · exact ⟨by assumption, h⟩
  · contradiction

theorem err_three (xs ys zs : List Nat) : firstErr [xs, ys, zs] = if firstErr [xs, ys] = 0 then chk zs else firstErr [xs, ys] := by
  simp only [firstErr]
  by_cases h1 : chk xs = 0
  · by_cases h2 : chk ys = 0
    · by_cases h3 : chk zs = 0
      · simp [h1, h2, h3]
      · simp [h1, h2, h3]
    · simp [h1, h2]
  · simp [h1]

/-- of a valid slice of limbs: the number, and how many limbs it has -/
theorem Raw.valid {w v xs} (h : Raw w v xs) (hc : chk xs = 0) : Num w v (val xs) ∧ (limbs (val xs)).length = xs.length := by
  have n := h.num hc
  obtain ⟨ad, c, rfl, hs⟩ := h
  exact ⟨n, by rw [(chk_num hc hs.2.2.1).1]⟩

theorem val_zero_iff {w v xs} (h : Raw w v xs) (hc : chk xs = 0) : val xs = 0 ↔ xs.length = 0 := by
  have e := (h.valid hc).2
  constructor
  · intro h0; rw [h0, limbs_zero] at e; exact e.symm
  · intro h0; rw [List.eq_nil_of_length_eq_zero h0]; rfl

theorem err_alone (xs : List Nat) : firstErr [xs] = chk xs := by
  simp only [firstErr]
  split
  · rename_i h; rw [h]
  · rfl

set_option maxRecDepth 100000 in
set_option maxHeartbeats 2000000 in
theorem powers_nil (v1 : Value) (xs : List Nat) (z : Int) (w : World) (hx : In w v1 xs) (z0 : -9223372036854775808 ≤ z) (z1 : z < 9223372036854775808) (hlen : (xs.take 6).length = 0) :
    Calls Try.prog 13 #[v1, .int .i64 z] w (RetTrue w) := by
  go_enter Try.func13, Try.ntmps13
  go_wp2_with fail
  refine (cut_calls _ xs 6 _ _ hx (by rfl) (by omega)).mono ?_
  rintro e w1 ⟨va, rfl, ra, _, b1⟩
  replace hx := hx.mono b1
  have B := b1
  clear b1
  have la : (xs.take 6).length ≤ 6 := by rw [List.length_take]; omega
  generalize xs.take 6 = aa at *
  clear hx
  go_wp2_with fail
  refine (rcheck_calls _ aa _ ra).mono ?_
  rintro e wq ⟨rfl, rfl⟩
  have t1 : ((aa.length : Int) == 0) = true := by rw [hlen]; rfl
  have ra2 := ra
  obtain ⟨ada, cca, rfl, sa⟩ := ra2
  have hnil : aa = [] := List.eq_nil_of_length_eq_zero hlen
  have hbad : chk aa = 0 := by rw [hnil]; rfl
  have hsm : val aa ≤ 1 := by rw [hnil]; simp [val]
  clear hnil
  clear hlen sa
  have t0 : (chk aa != 0) = false := by rw [hbad]; rfl
  obtain ⟨na, ea⟩ := ra.valid hbad
  clear hbad ra
  by_cases hz : z < 0
  · have t5 : ¬ (60 : Int) < z := by omega
    clear z0 z1
    go_wp2_with fail
    refine (pow_neg _ (val aa) z _ na hz (by omega)).mono ?_
    rintro e w2 ⟨vp, rfl, hp, _, b2⟩
    replace na := na.mono b2
    replace B := below_trans B b2
    clear b2
    go_wp2_with fail
    refine (lives_calls _).mono ?_
    rintro e w3 ⟨rfl, b3⟩
    replace na := na.mono b3
    replace hp := hp.mono b3
    replace B := below_trans B b3
    clear b3
    go_wp2_with fail
    refine (is_err _ _ 1 _ hp (by decide)).mono ?_
    rintro e w4 ⟨rfl, b4⟩
    replace na := na.mono b4
    replace hp := hp.mono b4
    replace B := below_trans B b4
    clear b4
    go_wp2
    go_ret
    exact ⟨rfl, B⟩
  · obtain ⟨n, rfl⟩ : ∃ n : Nat, z = (n : Int) := ⟨z.toNat, by omega⟩
    have hn2 : n < 9223372036854775808 := by omega
    have t6 : ¬ (n : Int) < 0 := by omega
    clear hz z0 z1
    by_cases hn : n = 0
    · subst hn
      clear hn2 t6
      go_wp2_with fail
      refine (pow_ok _ (val aa) 0 _ _ na rfl (by omega) (.inr (by omega)) (by omega)).mono ?_
      rintro e w2 ⟨vp, rfl, hp, _, b2⟩
      replace na := na.mono b2
      replace B := below_trans B b2
      clear b2
      rw [Nat.pow_zero] at hp
      go_wp2_with fail
      refine (lives_calls _).mono ?_
      rintro e w3 ⟨rfl, b3⟩
      replace na := na.mono b3
      replace hp := hp.mono b3
      replace B := below_trans B b3
      clear b3
      go_wp2_with fail
      refine (rof_calls 1 _ _ (by rfl) (by omega)).mono ?_
      rintro e w4 ⟨vq, rfl, hq, _, b4⟩
      replace na := na.mono b4
      replace hp := hp.mono b4
      replace B := below_trans B b4
      clear b4
      go_wp2_with fail
      refine (is_num _ _ _ _ hp hq).mono ?_
      rintro e w5 ⟨rfl, b5⟩
      replace na := na.mono b5
      replace hp := hp.mono b5
      replace hq := hq.mono b5
      replace B := below_trans B b5
      clear b5
      go_wp2
      go_ret
      exact ⟨rfl, B⟩
    · have t7 : ((n : Int) == 0) = false := by rw [beq_eq_false_iff_ne]; omega
      have Hn2 := Lib.hid hn2
      clear hn2
      by_cases h60 : n ≤ 60
      · have t5 : ¬ (60 : Int) < (n : Int) := by omega
        clear h60
        go_wp2_with fail
        refine (pow_ok _ (val aa) n _ _ na rfl (by omega) (.inl hsm) Hn2.out).mono ?_
        rintro e w2 ⟨vp, rfl, hp, _, b2⟩
        replace na := na.mono b2
        replace B := below_trans B b2
        clear b2
        rw [pow_small hsm hn] at hp
        go_wp2_with fail
        refine (lives_calls _).mono ?_
        rintro e w3 ⟨rfl, b3⟩
        replace na := na.mono b3
        replace hp := hp.mono b3
        replace B := below_trans B b3
        clear b3
        go_wp2_with fail
        refine (is_num _ _ _ _ hp na).mono ?_
        rintro e w4 ⟨rfl, b4⟩
        replace na := na.mono b4
        replace hp := hp.mono b4
        replace B := below_trans B b4
        clear b4
        go_wp2
        go_ret
        exact ⟨rfl, B⟩
      · have t5 : (60 : Int) < (n : Int) := by omega
        clear h60
        go_wp2_with fail
        refine (pow_ok _ (val aa) n _ _ na rfl (by omega) (.inl hsm) Hn2.out).mono ?_
        rintro e w2 ⟨vp, rfl, hp, _, b2⟩
        replace na := na.mono b2
        replace B := below_trans B b2
        clear b2
        rw [pow_small hsm hn] at hp
        go_wp2_with fail
        refine (lives_calls _).mono ?_
        rintro e w3 ⟨rfl, b3⟩
        replace na := na.mono b3
        replace hp := hp.mono b3
        replace B := below_trans B b3
        clear b3
        go_wp2_with fail
        refine (is_num _ _ _ _ hp na).mono ?_
        rintro e w4 ⟨rfl, b4⟩
        replace na := na.mono b4
        replace hp := hp.mono b4
        replace B := below_trans B b4
        clear b4
        go_wp2
        go_ret
        exact ⟨rfl, B⟩

set_option maxRecDepth 100000 in
set_option maxHeartbeats 2000000 in
theorem powers_one (v1 : Value) (xs : List Nat) (z : Int) (w : World) (hx : In w v1 xs) (z0 : -9223372036854775808 ≤ z) (z1 : z < 9223372036854775808) (hlen : (xs.take 6).length = 1) (hone : (xs.take 6).getD 0 0 = 1) :
    Calls Try.prog 13 #[v1, .int .i64 z] w (RetTrue w) := by
  go_enter Try.func13, Try.ntmps13
  go_wp2_with fail
  refine (cut_calls _ xs 6 _ _ hx (by rfl) (by omega)).mono ?_
  rintro e w1 ⟨va, rfl, ra, _, b1⟩
  replace hx := hx.mono b1
  have B := b1
  clear b1
  have la : (xs.take 6).length ≤ 6 := by rw [List.length_take]; omega
  generalize xs.take 6 = aa at *
  clear hx
  go_wp2_with fail
  refine (rcheck_calls _ aa _ ra).mono ?_
  rintro e wq ⟨rfl, rfl⟩
  have t1 : ((aa.length : Int) == 0) = false := by rw [hlen]; rfl
  have t2 : ((aa.length : Int) == 1) = true := by rw [hlen]; rfl
  have ra2 := ra
  obtain ⟨ada, cca, rfl, sa⟩ := ra2
  obtain ⟨b, o, rfl, hbs, hcell, _⟩ := sa.open (i := 0) (by omega)
  obtain ⟨x, ex⟩ : ∃ x, aa.getD 0 0 = x := ⟨_, rfl⟩
  rw [ex] at hcell hone
  rw [Nat.add_zero] at hcell
  have hpos : 0 < aa.length := by omega
  subst hone
  have hone : aa = [1] := by
    match aa, hlen, ex with
    | [y], _, h => simp at h; rw [h]
  have hbad : chk aa = 0 := by rw [hone]; rfl
  have hsm : val aa ≤ 1 := by rw [hone]; simp [val]
  clear hone ex
  clear hlen sa
  have t0 : (chk aa != 0) = false := by rw [hbad]; rfl
  obtain ⟨na, ea⟩ := ra.valid hbad
  clear hbad ra
  by_cases hz : z < 0
  · have t5 : ¬ (60 : Int) < z := by omega
    clear z0 z1
    go_wp2_with fail
    refine (pow_neg _ (val aa) z _ na hz (by omega)).mono ?_
    rintro e w2 ⟨vp, rfl, hp, _, b2⟩
    replace na := na.mono b2
    replace B := below_trans B b2
    clear b2
    go_wp2_with fail
    refine (lives_calls _).mono ?_
    rintro e w3 ⟨rfl, b3⟩
    replace na := na.mono b3
    replace hp := hp.mono b3
    replace B := below_trans B b3
    clear b3
    go_wp2_with fail
    refine (is_err _ _ 1 _ hp (by decide)).mono ?_
    rintro e w4 ⟨rfl, b4⟩
    replace na := na.mono b4
    replace hp := hp.mono b4
    replace B := below_trans B b4
    clear b4
    go_wp2
    go_ret
    exact ⟨rfl, B⟩
  · obtain ⟨n, rfl⟩ : ∃ n : Nat, z = (n : Int) := ⟨z.toNat, by omega⟩
    have hn2 : n < 9223372036854775808 := by omega
    have t6 : ¬ (n : Int) < 0 := by omega
    clear hz z0 z1
    by_cases hn : n = 0
    · subst hn
      clear hn2 t6
      go_wp2_with fail
      refine (pow_ok _ (val aa) 0 _ _ na rfl (by omega) (.inr (by omega)) (by omega)).mono ?_
      rintro e w2 ⟨vp, rfl, hp, _, b2⟩
      replace na := na.mono b2
      replace B := below_trans B b2
      clear b2
      rw [Nat.pow_zero] at hp
      go_wp2_with fail
      refine (lives_calls _).mono ?_
      rintro e w3 ⟨rfl, b3⟩
      replace na := na.mono b3
      replace hp := hp.mono b3
      replace B := below_trans B b3
      clear b3
      go_wp2_with fail
      refine (rof_calls 1 _ _ (by rfl) (by omega)).mono ?_
      rintro e w4 ⟨vq, rfl, hq, _, b4⟩
      replace na := na.mono b4
      replace hp := hp.mono b4
      replace B := below_trans B b4
      clear b4
      go_wp2_with fail
      refine (is_num _ _ _ _ hp hq).mono ?_
      rintro e w5 ⟨rfl, b5⟩
      replace na := na.mono b5
      replace hp := hp.mono b5
      replace hq := hq.mono b5
      replace B := below_trans B b5
      clear b5
      go_wp2
      go_ret
      exact ⟨rfl, B⟩
    · have t7 : ((n : Int) == 0) = false := by rw [beq_eq_false_iff_ne]; omega
      have Hn2 := Lib.hid hn2
      clear hn2
      by_cases h60 : n ≤ 60
      · have t5 : ¬ (60 : Int) < (n : Int) := by omega
        clear h60
        go_wp2_with fail
        refine (pow_ok _ (val aa) n _ _ na rfl (by omega) (.inl hsm) Hn2.out).mono ?_
        rintro e w2 ⟨vp, rfl, hp, _, b2⟩
        replace na := na.mono b2
        replace B := below_trans B b2
        clear b2
        rw [pow_small hsm hn] at hp
        go_wp2_with fail
        refine (lives_calls _).mono ?_
        rintro e w3 ⟨rfl, b3⟩
        replace na := na.mono b3
        replace hp := hp.mono b3
        replace B := below_trans B b3
        clear b3
        go_wp2_with fail
        refine (is_num _ _ _ _ hp na).mono ?_
        rintro e w4 ⟨rfl, b4⟩
        replace na := na.mono b4
        replace hp := hp.mono b4
        replace B := below_trans B b4
        clear b4
        go_wp2
        go_ret
        exact ⟨rfl, B⟩
      · have t5 : (60 : Int) < (n : Int) := by omega
        clear h60
        go_wp2_with fail
        refine (pow_ok _ (val aa) n _ _ na rfl (by omega) (.inl hsm) Hn2.out).mono ?_
        rintro e w2 ⟨vp, rfl, hp, _, b2⟩
        replace na := na.mono b2
        replace B := below_trans B b2
        clear b2
        rw [pow_small hsm hn] at hp
        go_wp2_with fail
        refine (lives_calls _).mono ?_
        rintro e w3 ⟨rfl, b3⟩
        replace na := na.mono b3
        replace hp := hp.mono b3
        replace B := below_trans B b3
        clear b3
        go_wp2_with fail
        refine (is_num _ _ _ _ hp na).mono ?_
        rintro e w4 ⟨rfl, b4⟩
        replace na := na.mono b4
        replace hp := hp.mono b4
        replace B := below_trans B b4
        clear b4
        go_wp2
        go_ret
        exact ⟨rfl, B⟩

set_option maxRecDepth 100000 in
set_option maxHeartbeats 2000000 in
theorem powers_two (v1 : Value) (xs : List Nat) (z : Int) (w : World) (hx : In w v1 xs) (z0 : -9223372036854775808 ≤ z) (z1 : z < 9223372036854775808) (hlen : (xs.take 6).length = 1) (hone : (xs.take 6).getD 0 0 ≠ 1) :
    Calls Try.prog 13 #[v1, .int .i64 z] w (RetTrue w) := by
  go_enter Try.func13, Try.ntmps13
  go_wp2_with fail
  refine (cut_calls _ xs 6 _ _ hx (by rfl) (by omega)).mono ?_
  rintro e w1 ⟨va, rfl, ra, _, b1⟩
  replace hx := hx.mono b1
  have B := b1
  clear b1
  have la : (xs.take 6).length ≤ 6 := by rw [List.length_take]; omega
  generalize xs.take 6 = aa at *
  clear hx
  go_wp2_with fail
  refine (rcheck_calls _ aa _ ra).mono ?_
  rintro e wq ⟨rfl, rfl⟩
  have t1 : ((aa.length : Int) == 0) = false := by rw [hlen]; rfl
  have t2 : ((aa.length : Int) == 1) = true := by rw [hlen]; rfl
  have ra2 := ra
  obtain ⟨ada, cca, rfl, sa⟩ := ra2
  obtain ⟨b, o, rfl, hbs, hcell, _⟩ := sa.open (i := 0) (by omega)
  obtain ⟨x, ex⟩ : ∃ x, aa.getD 0 0 = x := ⟨_, rfl⟩
  rw [ex] at hcell hone
  rw [Nat.add_zero] at hcell
  have hpos : 0 < aa.length := by omega
  have t3 : ((x : Int) == 1) = false := by rw [beq_eq_false_iff_ne]; omega
  clear hone
  clear ex
  clear hlen sa
  by_cases h60 : z ≤ 60
  · have t5 : ¬ (60 : Int) < z := by omega
    by_cases hbad : chk aa = 0
    · have t0 : (chk aa != 0) = false := by rw [hbad]; rfl
      obtain ⟨na, ea⟩ := ra.valid hbad
      clear hbad ra
      by_cases hz : z < 0
      · clear z0 z1 h60
        go_wp2_with fail
        refine (pow_neg _ (val aa) z _ na hz (by omega)).mono ?_
        rintro e w2 ⟨vp, rfl, hp, _, b2⟩
        replace na := na.mono b2
        replace B := below_trans B b2
        clear b2
        go_wp2_with fail
        refine (lives_calls _).mono ?_
        rintro e w3 ⟨rfl, b3⟩
        replace na := na.mono b3
        replace hp := hp.mono b3
        replace B := below_trans B b3
        clear b3
        go_wp2_with fail
        refine (is_err _ _ 1 _ hp (by decide)).mono ?_
        rintro e w4 ⟨rfl, b4⟩
        replace na := na.mono b4
        replace hp := hp.mono b4
        replace B := below_trans B b4
        clear b4
        go_wp2
        go_ret
        exact ⟨rfl, B⟩
      · obtain ⟨n, rfl⟩ : ∃ n : Nat, z = (n : Int) := ⟨z.toNat, by omega⟩
        have hn60 : n ≤ 60 := by omega
        have t6 : ¬ (n : Int) < 0 := by omega
        clear hz z0 z1 h60
        by_cases hn : n = 0
        · subst hn
          clear t6 t5 hn60
          go_wp2_with fail
          refine (pow_ok _ (val aa) 0 _ _ na rfl (by omega) (.inr (by omega)) (by omega)).mono ?_
          rintro e w2 ⟨vp, rfl, hp, _, b2⟩
          replace na := na.mono b2
          replace B := below_trans B b2
          clear b2
          rw [Nat.pow_zero] at hp
          go_wp2_with fail
          refine (lives_calls _).mono ?_
          rintro e w3 ⟨rfl, b3⟩
          replace na := na.mono b3
          replace hp := hp.mono b3
          replace B := below_trans B b3
          clear b3
          go_wp2_with fail
          refine (rof_calls 1 _ _ (by rfl) (by omega)).mono ?_
          rintro e w4 ⟨vq, rfl, hq, _, b4⟩
          replace na := na.mono b4
          replace hp := hp.mono b4
          replace B := below_trans B b4
          clear b4
          go_wp2_with fail
          refine (is_num _ _ _ _ hp hq).mono ?_
          rintro e w5 ⟨rfl, b5⟩
          replace na := na.mono b5
          replace hp := hp.mono b5
          replace hq := hq.mono b5
          replace B := below_trans B b5
          clear b5
          go_wp2
          go_ret
          exact ⟨rfl, B⟩
        · have t7 : ((n : Int) == 0) = false := by rw [beq_eq_false_iff_ne]; omega
          have hmul : (limbs (val aa)).length * (n) ≤ 6 * 60 := Nat.mul_le_mul (by omega) (by omega)
          go_wp2_with fail
          refine (pow_ok _ (val aa) (n) _ _ na (by omega) (by omega) (.inr (by omega)) (by omega)).mono ?_
          rintro e w2 ⟨vp, rfl, hp, _, b2⟩
          replace na := na.mono b2
          replace B := below_trans B b2
          clear b2
          go_wp2_with fail
          refine (lives_calls _).mono ?_
          rintro e w3 ⟨rfl, b3⟩
          replace na := na.mono b3
          replace hp := hp.mono b3
          replace B := below_trans B b3
          clear b3
          go_wp2_with fail
          refine (rpow_calls _ (val aa) (n) _ _ na (by omega) (by omega) (by omega) (by omega)).mono ?_
          rintro e w4 ⟨vq, rfl, hq, _, b4⟩
          replace na := na.mono b4
          replace hp := hp.mono b4
          replace B := below_trans B b4
          clear b4
          go_wp2_with fail
          refine (is_num _ _ _ _ hp hq).mono ?_
          rintro e w5 ⟨rfl, b5⟩
          replace na := na.mono b5
          replace hp := hp.mono b5
          replace hq := hq.mono b5
          replace B := below_trans B b5
          clear b5
          go_wp2
          go_ret
          exact ⟨rfl, B⟩
    · have t0 : (chk aa != 0) = true := by rw [bne_iff_ne]; exact hbad
      have he := err_alone aa
      have hb2 : firstErr [aa] ≠ 0 := by rw [he]; exact hbad
      clear z0 z1 h60
      have L := pow_err _ aa z _ ra hb2
      rw [he] at L
      clear he hb2
      go_wp2_with fail
      refine (L).mono ?_
      rintro e w2 ⟨rfl, b2⟩
      replace ra := ra.mono b2
      replace B := below_trans B b2
      clear b2
      clear L
      go_wp2_with fail
      refine (lives_calls _).mono ?_
      rintro e w3 ⟨rfl, b3⟩
      replace ra := ra.mono b3
      replace B := below_trans B b3
      clear b3
      go_wp2_with fail
      refine (is_err _ _ _ _ (Num.nil _) hbad).mono ?_
      rintro e w4 ⟨rfl, b4⟩
      replace ra := ra.mono b4
      replace B := below_trans B b4
      clear b4
      go_wp2
      go_ret
      exact ⟨rfl, B⟩
  · obtain ⟨n, rfl⟩ : ∃ n : Nat, z = (n : Int) := ⟨z.toNat, by omega⟩
    have t5 : (60 : Int) < (n : Int) := by omega
    have t6 : ¬ (n : Int) % 61 < 0 := by omega
    have hm60 : n % 61 ≤ 60 := by omega
    clear h60 z0 z1
    by_cases hbad : chk aa = 0
    · have t0 : (chk aa != 0) = false := by rw [hbad]; rfl
      obtain ⟨na, ea⟩ := ra.valid hbad
      clear hbad ra
      by_cases hn : n % 61 = 0
      · have t7 : ((n : Int) % 61 == 0) = true := by rw [beq_iff_eq]; omega
        have Hn := Lib.hid hn
        clear hn hm60
        go_wp2_with fail
        refine (pow_ok _ (val aa) (n % 61) _ _ na (by omega) (by omega) (.inr (by rw [Hn.out]; omega)) (by omega)).mono ?_
        rintro e w2 ⟨vp, rfl, hp, _, b2⟩
        replace na := na.mono b2
        replace B := below_trans B b2
        clear b2
        rw [Hn.out, Nat.pow_zero] at hp
        go_wp2_with fail
        refine (lives_calls _).mono ?_
        rintro e w3 ⟨rfl, b3⟩
        replace na := na.mono b3
        replace hp := hp.mono b3
        replace B := below_trans B b3
        clear b3
        go_wp2_with fail
        refine (rof_calls 1 _ _ (by rfl) (by omega)).mono ?_
        rintro e w4 ⟨vq, rfl, hq, _, b4⟩
        replace na := na.mono b4
        replace hp := hp.mono b4
        replace B := below_trans B b4
        clear b4
        go_wp2_with fail
        refine (is_num _ _ _ _ hp hq).mono ?_
        rintro e w5 ⟨rfl, b5⟩
        replace na := na.mono b5
        replace hp := hp.mono b5
        replace hq := hq.mono b5
        replace B := below_trans B b5
        clear b5
        go_wp2
        go_ret
        exact ⟨rfl, B⟩
      · have t7 : ((n : Int) % 61 == 0) = false := by rw [beq_eq_false_iff_ne]; omega
        have hmul : (limbs (val aa)).length * (n % 61) ≤ 6 * 60 := Nat.mul_le_mul (by omega) (by omega)
        go_wp2_with fail
        refine (pow_ok _ (val aa) (n % 61) _ _ na (by omega) (by omega) (.inr (by omega)) (by omega)).mono ?_
        rintro e w2 ⟨vp, rfl, hp, _, b2⟩
        replace na := na.mono b2
        replace B := below_trans B b2
        clear b2
        go_wp2_with fail
        refine (lives_calls _).mono ?_
        rintro e w3 ⟨rfl, b3⟩
        replace na := na.mono b3
        replace hp := hp.mono b3
        replace B := below_trans B b3
        clear b3
        go_wp2_with fail
        refine (rpow_calls _ (val aa) (n % 61) _ _ na (by omega) (by omega) (by omega) (by omega)).mono ?_
        rintro e w4 ⟨vq, rfl, hq, _, b4⟩
        replace na := na.mono b4
        replace hp := hp.mono b4
        replace B := below_trans B b4
        clear b4
        go_wp2_with fail
        refine (is_num _ _ _ _ hp hq).mono ?_
        rintro e w5 ⟨rfl, b5⟩
        replace na := na.mono b5
        replace hp := hp.mono b5
        replace hq := hq.mono b5
        replace B := below_trans B b5
        clear b5
        go_wp2
        go_ret
        exact ⟨rfl, B⟩
    · have t0 : (chk aa != 0) = true := by rw [bne_iff_ne]; exact hbad
      have he := err_alone aa
      have hb2 : firstErr [aa] ≠ 0 := by rw [he]; exact hbad
      have L := pow_err _ aa ((n : Int) % 61) _ ra hb2
      rw [he] at L
      clear he hb2
      go_wp2_with fail
      refine (L).mono ?_
      rintro e w2 ⟨rfl, b2⟩
      replace ra := ra.mono b2
      replace B := below_trans B b2
      clear b2
      clear L
      go_wp2_with fail
      refine (lives_calls _).mono ?_
      rintro e w3 ⟨rfl, b3⟩
      replace ra := ra.mono b3
      replace B := below_trans B b3
      clear b3
      go_wp2_with fail
      refine (is_err _ _ _ _ (Num.nil _) hbad).mono ?_
      rintro e w4 ⟨rfl, b4⟩
      replace ra := ra.mono b4
      replace B := below_trans B b4
      clear b4
      go_wp2
      go_ret
      exact ⟨rfl, B⟩

set_option maxRecDepth 100000 in
set_option maxHeartbeats 2000000 in
theorem powers_long (v1 : Value) (xs : List Nat) (z : Int) (w : World) (hx : In w v1 xs) (z0 : -9223372036854775808 ≤ z) (z1 : z < 9223372036854775808) (hlen : 2 ≤ (xs.take 6).length) :
    Calls Try.prog 13 #[v1, .int .i64 z] w (RetTrue w) := by
  go_enter Try.func13, Try.ntmps13
  go_wp2_with fail
  refine (cut_calls _ xs 6 _ _ hx (by rfl) (by omega)).mono ?_
  rintro e w1 ⟨va, rfl, ra, _, b1⟩
  replace hx := hx.mono b1
  have B := b1
  clear b1
  have la : (xs.take 6).length ≤ 6 := by rw [List.length_take]; omega
  generalize xs.take 6 = aa at *
  clear hx
  go_wp2_with fail
  refine (rcheck_calls _ aa _ ra).mono ?_
  rintro e wq ⟨rfl, rfl⟩
  have t1 : ((aa.length : Int) == 0) = false := by rw [beq_eq_false_iff_ne]; omega
  have t2 : ((aa.length : Int) == 1) = false := by rw [beq_eq_false_iff_ne]; omega
  have ra2 := ra
  obtain ⟨ada, cca, rfl, sa⟩ := ra2
  clear hlen sa
  by_cases h60 : z ≤ 60
  · have t5 : ¬ (60 : Int) < z := by omega
    by_cases hbad : chk aa = 0
    · have t0 : (chk aa != 0) = false := by rw [hbad]; rfl
      obtain ⟨na, ea⟩ := ra.valid hbad
      clear hbad ra
      by_cases hz : z < 0
      · clear z0 z1 h60
        go_wp2_with fail
        refine (pow_neg _ (val aa) z _ na hz (by omega)).mono ?_
        rintro e w2 ⟨vp, rfl, hp, _, b2⟩
        replace na := na.mono b2
        replace B := below_trans B b2
        clear b2
        go_wp2_with fail
        refine (lives_calls _).mono ?_
        rintro e w3 ⟨rfl, b3⟩
        replace na := na.mono b3
        replace hp := hp.mono b3
        replace B := below_trans B b3
        clear b3
        go_wp2_with fail
        refine (is_err _ _ 1 _ hp (by decide)).mono ?_
        rintro e w4 ⟨rfl, b4⟩
        replace na := na.mono b4
        replace hp := hp.mono b4
        replace B := below_trans B b4
        clear b4
        go_wp2
        go_ret
        exact ⟨rfl, B⟩
      · obtain ⟨n, rfl⟩ : ∃ n : Nat, z = (n : Int) := ⟨z.toNat, by omega⟩
        have hn60 : n ≤ 60 := by omega
        have t6 : ¬ (n : Int) < 0 := by omega
        clear hz z0 z1 h60
        by_cases hn : n = 0
        · subst hn
          clear t6 t5 hn60
          go_wp2_with fail
          refine (pow_ok _ (val aa) 0 _ _ na rfl (by omega) (.inr (by omega)) (by omega)).mono ?_
          rintro e w2 ⟨vp, rfl, hp, _, b2⟩
          replace na := na.mono b2
          replace B := below_trans B b2
          clear b2
          rw [Nat.pow_zero] at hp
          go_wp2_with fail
          refine (lives_calls _).mono ?_
          rintro e w3 ⟨rfl, b3⟩
          replace na := na.mono b3
          replace hp := hp.mono b3
          replace B := below_trans B b3
          clear b3
          go_wp2_with fail
          refine (rof_calls 1 _ _ (by rfl) (by omega)).mono ?_
          rintro e w4 ⟨vq, rfl, hq, _, b4⟩
          replace na := na.mono b4
          replace hp := hp.mono b4
          replace B := below_trans B b4
          clear b4
          go_wp2_with fail
          refine (is_num _ _ _ _ hp hq).mono ?_
          rintro e w5 ⟨rfl, b5⟩
          replace na := na.mono b5
          replace hp := hp.mono b5
          replace hq := hq.mono b5
          replace B := below_trans B b5
          clear b5
          go_wp2
          go_ret
          exact ⟨rfl, B⟩
        · have t7 : ((n : Int) == 0) = false := by rw [beq_eq_false_iff_ne]; omega
          have hmul : (limbs (val aa)).length * (n) ≤ 6 * 60 := Nat.mul_le_mul (by omega) (by omega)
          go_wp2_with fail
          refine (pow_ok _ (val aa) (n) _ _ na (by omega) (by omega) (.inr (by omega)) (by omega)).mono ?_
          rintro e w2 ⟨vp, rfl, hp, _, b2⟩
          replace na := na.mono b2
          replace B := below_trans B b2
          clear b2
          go_wp2_with fail
          refine (lives_calls _).mono ?_
          rintro e w3 ⟨rfl, b3⟩
          replace na := na.mono b3
          replace hp := hp.mono b3
          replace B := below_trans B b3
          clear b3
          go_wp2_with fail
          refine (rpow_calls _ (val aa) (n) _ _ na (by omega) (by omega) (by omega) (by omega)).mono ?_
          rintro e w4 ⟨vq, rfl, hq, _, b4⟩
          replace na := na.mono b4
          replace hp := hp.mono b4
          replace B := below_trans B b4
          clear b4
          go_wp2_with fail
          refine (is_num _ _ _ _ hp hq).mono ?_
          rintro e w5 ⟨rfl, b5⟩
          replace na := na.mono b5
          replace hp := hp.mono b5
          replace hq := hq.mono b5
          replace B := below_trans B b5
          clear b5
          go_wp2
          go_ret
          exact ⟨rfl, B⟩
    · have t0 : (chk aa != 0) = true := by rw [bne_iff_ne]; exact hbad
      have he := err_alone aa
      have hb2 : firstErr [aa] ≠ 0 := by rw [he]; exact hbad
      clear z0 z1 h60
      have L := pow_err _ aa z _ ra hb2
      rw [he] at L
      clear he hb2
      go_wp2_with fail
      refine (L).mono ?_
      rintro e w2 ⟨rfl, b2⟩
      replace ra := ra.mono b2
      replace B := below_trans B b2
      clear b2
      clear L
      go_wp2_with fail
      refine (lives_calls _).mono ?_
      rintro e w3 ⟨rfl, b3⟩
      replace ra := ra.mono b3
      replace B := below_trans B b3
      clear b3
      go_wp2_with fail
      refine (is_err _ _ _ _ (Num.nil _) hbad).mono ?_
      rintro e w4 ⟨rfl, b4⟩
      replace ra := ra.mono b4
      replace B := below_trans B b4
      clear b4
      go_wp2
      go_ret
      exact ⟨rfl, B⟩
  · obtain ⟨n, rfl⟩ : ∃ n : Nat, z = (n : Int) := ⟨z.toNat, by omega⟩
    have t5 : (60 : Int) < (n : Int) := by omega
    have t6 : ¬ (n : Int) % 61 < 0 := by omega
    have hm60 : n % 61 ≤ 60 := by omega
    clear h60 z0 z1
    by_cases hbad : chk aa = 0
    · have t0 : (chk aa != 0) = false := by rw [hbad]; rfl
      obtain ⟨na, ea⟩ := ra.valid hbad
      clear hbad ra
      by_cases hn : n % 61 = 0
      · have t7 : ((n : Int) % 61 == 0) = true := by rw [beq_iff_eq]; omega
        have Hn := Lib.hid hn
        clear hn hm60
        go_wp2_with fail
        refine (pow_ok _ (val aa) (n % 61) _ _ na (by omega) (by omega) (.inr (by rw [Hn.out]; omega)) (by omega)).mono ?_
        rintro e w2 ⟨vp, rfl, hp, _, b2⟩
        replace na := na.mono b2
        replace B := below_trans B b2
        clear b2
        rw [Hn.out, Nat.pow_zero] at hp
        go_wp2_with fail
        refine (lives_calls _).mono ?_
        rintro e w3 ⟨rfl, b3⟩
        replace na := na.mono b3
        replace hp := hp.mono b3
        replace B := below_trans B b3
        clear b3
        go_wp2_with fail
        refine (rof_calls 1 _ _ (by rfl) (by omega)).mono ?_
        rintro e w4 ⟨vq, rfl, hq, _, b4⟩
        replace na := na.mono b4
        replace hp := hp.mono b4
        replace B := below_trans B b4
        clear b4
        go_wp2_with fail
        refine (is_num _ _ _ _ hp hq).mono ?_
        rintro e w5 ⟨rfl, b5⟩
        replace na := na.mono b5
        replace hp := hp.mono b5
        replace hq := hq.mono b5
        replace B := below_trans B b5
        clear b5
        go_wp2
        go_ret
        exact ⟨rfl, B⟩
      · have t7 : ((n : Int) % 61 == 0) = false := by rw [beq_eq_false_iff_ne]; omega
        have hmul : (limbs (val aa)).length * (n % 61) ≤ 6 * 60 := Nat.mul_le_mul (by omega) (by omega)
        go_wp2_with fail
        refine (pow_ok _ (val aa) (n % 61) _ _ na (by omega) (by omega) (.inr (by omega)) (by omega)).mono ?_
        rintro e w2 ⟨vp, rfl, hp, _, b2⟩
        replace na := na.mono b2
        replace B := below_trans B b2
        clear b2
        go_wp2_with fail
        refine (lives_calls _).mono ?_
        rintro e w3 ⟨rfl, b3⟩
        replace na := na.mono b3
        replace hp := hp.mono b3
        replace B := below_trans B b3
        clear b3
        go_wp2_with fail
        refine (rpow_calls _ (val aa) (n % 61) _ _ na (by omega) (by omega) (by omega) (by omega)).mono ?_
        rintro e w4 ⟨vq, rfl, hq, _, b4⟩
        replace na := na.mono b4
        replace hp := hp.mono b4
        replace B := below_trans B b4
        clear b4
        go_wp2_with fail
        refine (is_num _ _ _ _ hp hq).mono ?_
        rintro e w5 ⟨rfl, b5⟩
        replace na := na.mono b5
        replace hp := hp.mono b5
        replace hq := hq.mono b5
        replace B := below_trans B b5
        clear b5
        go_wp2
        go_ret
        exact ⟨rfl, B⟩
    · have t0 : (chk aa != 0) = true := by rw [bne_iff_ne]; exact hbad
      have he := err_alone aa
      have hb2 : firstErr [aa] ≠ 0 := by rw [he]; exact hbad
      have L := pow_err _ aa ((n : Int) % 61) _ ra hb2
      rw [he] at L
      clear he hb2
      go_wp2_with fail
      refine (L).mono ?_
      rintro e w2 ⟨rfl, b2⟩
      replace ra := ra.mono b2
      replace B := below_trans B b2
      clear b2
      clear L
      go_wp2_with fail
      refine (lives_calls _).mono ?_
      rintro e w3 ⟨rfl, b3⟩
      replace ra := ra.mono b3
      replace B := below_trans B b3
      clear b3
      go_wp2_with fail
      refine (is_err _ _ _ _ (Num.nil _) hbad).mono ?_
      rintro e w4 ⟨rfl, b4⟩
      replace ra := ra.mono b4
      replace B := below_trans B b4
      clear b4
      go_wp2
      go_ret
      exact ⟨rfl, B⟩

theorem walk_powers (v1 : Value) (xs : List Nat) (z : Int) (w : World) (hx : In w v1 xs) (z0 : -9223372036854775808 ≤ z) (z1 : z < 9223372036854775808) :
    Calls Try.prog 13 #[v1, .int .i64 z] w (RetTrue w) := by
  by_cases h0 : (xs.take 6).length = 0
  · exact powers_nil v1 xs z w hx z0 z1 h0
  · by_cases h1 : (xs.take 6).length = 1
    · by_cases h2 : (xs.take 6).getD 0 0 = 1
      · exact powers_one v1 xs z w hx z0 z1 h1 h2
      · exact powers_two v1 xs z w hx z0 z1 h1 h2
    · exact powers_long v1 xs z w hx z0 z1 (by omega)

end Go.Proofs
