/- The walk of the law NatCommon: whatever comes in, it returns true and changes nothing that was there. -/
import Derived.Test.YtmeflonielhfaabMore
import Derived.Test.YtmeflonielhfaabGcd
open Go.RowKit
namespace Go.Proofs
set_option linter.unusedVariables false

theorem In.short {w v xs} (h : In w v xs) (n : Nat) : (limbs (val (xs.take n))).length ≤ n := by
  obtain ⟨ad, c, rfl, h1, h2, h3, h4⟩ := h
  have := limbs_length_val (xs.take n) (fun x hx => h3 x (List.mem_of_mem_take hx))
  rw [List.length_take] at this
  omega

set_option maxRecDepth 100000 in
set_option maxHeartbeats 2000000 in
theorem walk_common (v1 v2 v3 : Value) (xs ys zs : List Nat) (w : World) (hx0 : In w v1 xs) (hy0 : In w v2 ys) (hz0 : In w v3 zs) :
    Calls Try.prog 7 #[v1, v2, v3] w (RetTrue w) := by
  have hx := hx0
  have hy := hy0
  have hz := hz0
  go_enter Try.func7, Try.ntmps7
  go_wp2_with fail
  refine (whole_calls _ xs 6 _ _ hx (by rfl) (by omega)).mono ?_
  rintro e w1 ⟨va, rfl, ha, _, b1⟩
  replace hx := hx.mono b1
  replace hy := hy.mono b1
  replace hz := hz.mono b1
  have B := b1
  clear b1
  go_wp2_with fail
  refine (whole_calls _ ys 6 _ _ hy (by rfl) (by omega)).mono ?_
  rintro e w2 ⟨vb, rfl, hb, _, b2⟩
  replace hy := hy.mono b2
  replace hz := hz.mono b2
  replace ha := ha.mono b2
  replace B := below_trans B b2
  clear b2
  go_wp2_with fail
  refine (whole_calls _ zs 4 _ _ hz (by rfl) (by omega)).mono ?_
  rintro e w3 ⟨vc, rfl, hc, _, b3⟩
  replace hz := hz.mono b3
  replace ha := ha.mono b3
  replace hb := hb.mono b3
  replace B := below_trans B b3
  clear b3
  have la := In.short hx0 6
  have lb := In.short hy0 6
  have lc := In.short hz0 4
  generalize val (xs.take 6) = a at *
  generalize val (ys.take 6) = b at *
  generalize val (zs.take 4) = c at *
  clear hx hy hz hx0 hy0 hz0
  have lac := limbs_length_mul a c
  have lbc := limbs_length_mul b c
  go_wp2_with fail
  refine (lmul_calls _ _ a c _ ha hc (by omega) (by omega)).mono ?_
  rintro e w4 ⟨vp, rfl, hp, _, b4⟩
  replace ha := ha.mono b4
  replace hb := hb.mono b4
  replace hc := hc.mono b4
  replace B := below_trans B b4
  clear b4
  go_wp2_with fail
  refine (lmul_calls _ _ b c _ hb hc (by omega) (by omega)).mono ?_
  rintro e w5 ⟨vq, rfl, hq, _, b5⟩
  replace ha := ha.mono b5
  replace hb := hb.mono b5
  replace hc := hc.mono b5
  replace hp := hp.mono b5
  replace B := below_trans B b5
  clear b5
  have hdc : c ∣ Nat.gcd (a * c) (b * c) := Nat.dvd_gcd (Nat.dvd_mul_left c a) (Nat.dvd_mul_left c b)
  have hc0 : a * c ≠ 0 ∨ b * c ≠ 0 → c ≠ 0 := by
    intro h h0
    rw [h0, Nat.mul_zero, Nat.mul_zero] at h
    omega
  generalize a * c = p at *
  generalize b * c = q at *
  clear ha hb
  have hd1 := Nat.gcd_dvd_left p q
  have hd2 := Nat.gcd_dvd_right p q
  have hgz : Nat.gcd p q = 0 ↔ p = 0 ∧ q = 0 := Nat.gcd_eq_zero_iff
  have lg := limbs_length_mono (show Nat.gcd p q ≤ p + q by
    by_cases h : p = 0
    · rw [h, Nat.gcd_zero_left]; omega
    · have := Nat.gcd_le_left q (show 0 < p by omega); omega)
  have lpq := limbs_length_add p q
  have lprod := limbs_length_mul p q
  obtain ⟨adp, capp, rfl, slp⟩ := hp
  have hp : Num _ (.slice adp (limbs (p)).length capp) (p) := ⟨_, _, rfl, slp⟩
  clear slp
  obtain ⟨adq, capq, rfl, slq⟩ := hq
  have hq : Num _ (.slice adq (limbs (q)).length capq) (q) := ⟨_, _, rfl, slq⟩
  clear slq
  obtain ⟨adc, capc, rfl, slc⟩ := hc
  have hc : Num _ (.slice adc (limbs (c)).length capc) (c) := ⟨_, _, rfl, slc⟩
  clear slc
  have hqg : ∀ x : Nat, (limbs (x / Nat.gcd p q)).length ≤ (limbs x).length := fun x => limbs_length_mono (Nat.div_le_self _ _)
  obtain ⟨g, eg⟩ : ∃ g, Nat.gcd p q = g := ⟨_, rfl⟩
  have G := gcd_ok _ _ p q _ hp hq (by omega)
  rw [eg] at G hd1 hd2 hgz lg hdc hqg
  have Eg := Lib.hid eg
  clear eg
  go_wp2_with fail
  refine (G).mono ?_
  rintro e w6 ⟨vg, rfl, hg, _, b6⟩
  replace hc := hc.mono b6
  replace hp := hp.mono b6
  replace hq := hq.mono b6
  replace B := below_trans B b6
  clear b6
  clear G
  obtain ⟨adg, capg, rfl, slg⟩ := hg
  have hg : Num _ (.slice adg (limbs (g)).length capg) (g) := ⟨_, _, rfl, slg⟩
  clear slg
  have Hd1 := Lib.hid hd1
  have Hd2 := Lib.hid hd2
  have Hdc := Lib.hid hdc
  have Hgz := Lib.hid hgz
  have Hc0 := Lib.hid hc0
  have Hqg := Lib.hid hqg
  clear hd1 hd2 hdc hgz hc0 hqg
  by_cases hz : p = 0 ∨ q = 0
  · go_wp2_with fail
    refine (lcm_zero _ _ p q _ hp hq (by omega) hz).mono ?_
    rintro e w7 ⟨vl, rfl, hl, _, b7⟩
    replace hc := hc.mono b7
    replace hp := hp.mono b7
    replace hq := hq.mono b7
    replace hg := hg.mono b7
    replace B := below_trans B b7
    clear b7
    have hpq : p * q = 0 := by rcases hz with h | h <;> rw [h] <;> simp
    have Hpq := Lib.hid hpq
    clear hpq
    have lz : (limbs 0).length = 0 := by rw [limbs_zero]; rfl
    go_wp2_with fail
    refine (lmul_calls _ _ g 0 _ hg hl (by omega) (by omega)).mono ?_
    rintro e w8 ⟨vm, rfl, hm, _, b8⟩
    replace hc := hc.mono b8
    replace hp := hp.mono b8
    replace hq := hq.mono b8
    replace hg := hg.mono b8
    replace hl := hl.mono b8
    replace B := below_trans B b8
    clear b8
    go_wp2_with fail
    refine (lmul_calls _ _ p q _ hp hq (by omega) (by omega)).mono ?_
    rintro e w9 ⟨vn, rfl, hn, _, b9⟩
    replace hc := hc.mono b9
    replace hp := hp.mono b9
    replace hq := hq.mono b9
    replace hg := hg.mono b9
    replace hl := hl.mono b9
    replace hm := hm.mono b9
    replace B := below_trans B b9
    clear b9
    rw [Nat.mul_zero] at hm
    rw [Hpq.out] at hn
    clear lz
    go_wp2_with fail
    refine (lsame_calls _ _ 0 _ hm hn).mono ?_
    rintro e w10 ⟨rfl, b10⟩
    replace hc := hc.mono b10
    replace hp := hp.mono b10
    replace hq := hq.mono b10
    replace hg := hg.mono b10
    replace hl := hl.mono b10
    replace hm := hm.mono b10
    replace hn := hn.mono b10
    replace B := below_trans B b10
    clear b10
    go_wp2_with fail
    refine (lives_calls _).mono ?_
    rintro e w11 ⟨rfl, b11⟩
    replace hc := hc.mono b11
    replace hp := hp.mono b11
    replace hq := hq.mono b11
    replace hg := hg.mono b11
    replace hl := hl.mono b11
    replace hm := hm.mono b11
    replace hn := hn.mono b11
    replace B := below_trans B b11
    clear b11
    by_cases hg0 : g = 0
    · have hpq := Hgz.out.mp hg0
      have g1 : (((limbs g).length : Int) == 0) = true := by rw [(len_zero_iff g).mpr hg0]; rfl
      have g2 : (((limbs p).length : Int) == 0) = true := by rw [(len_zero_iff p).mpr hpq.1]; rfl
      have g3 : (((limbs q).length : Int) == 0) = true := by rw [(len_zero_iff q).mpr hpq.2]; rfl
      clear hpq hg0 hz
      go_wp2
      go_ret
      exact ⟨rfl, B⟩
    · clear hz
      have g1 : (((limbs g).length : Int) == 0) = false := by
        rw [beq_eq_false_iff_ne]
        intro h
        exact hg0 ((len_zero_iff g).mp (by omega))
      have cc := Hc0.out (by have := Hgz.out; omega)
      have c1 : (((limbs c).length : Int) == 0) = false := by
        rw [beq_eq_false_iff_ne]
        intro h
        exact cc ((len_zero_iff c).mp (by omega))
      have z0 : (((limbs 0).length : Int) == 0) = true := by rw [limbs_zero]; rfl
      have M1 := Lib.hid (Nat.mod_eq_zero_of_dvd Hd1.out)
      have M2 := Lib.hid (Nat.mod_eq_zero_of_dvd Hd2.out)
      have M3 := Lib.hid (Nat.mod_eq_zero_of_dvd Hdc.out)
      go_wp2_with fail
      refine (divmod_ok _ _ p g _ hp hg (by omega) hg0).mono ?_
      rintro e w12 ⟨vx1, vr1, rfl, _, hr1, _, _, _, b12⟩
      replace hc := hc.mono b12
      replace hp := hp.mono b12
      replace hq := hq.mono b12
      replace hg := hg.mono b12
      replace hl := hl.mono b12
      replace hm := hm.mono b12
      replace hn := hn.mono b12
      replace B := below_trans B b12
      clear b12
      rw [M1.out] at hr1
      obtain ⟨adr1, capr1, rfl, slr1⟩ := hr1
      have hr1 : Num _ (.slice adr1 (limbs (0)).length capr1) (0) := ⟨_, _, rfl, slr1⟩
      clear slr1
      go_wp2_with fail
      refine (divmod_ok _ _ q g _ hq hg (by omega) hg0).mono ?_
      rintro e w13 ⟨vx2, vr2, rfl, _, hr2, _, _, _, b13⟩
      replace hc := hc.mono b13
      replace hp := hp.mono b13
      replace hq := hq.mono b13
      replace hg := hg.mono b13
      replace hl := hl.mono b13
      replace hm := hm.mono b13
      replace hn := hn.mono b13
      replace hr1 := hr1.mono b13
      replace B := below_trans B b13
      clear b13
      rw [M2.out] at hr2
      obtain ⟨adr2, capr2, rfl, slr2⟩ := hr2
      have hr2 : Num _ (.slice adr2 (limbs (0)).length capr2) (0) := ⟨_, _, rfl, slr2⟩
      clear slr2
      go_wp2_with fail
      refine (divmod_ok _ _ g c _ hg hc (by omega) cc).mono ?_
      rintro e w14 ⟨vx3, vr3, rfl, _, hr3, _, _, _, b14⟩
      replace hc := hc.mono b14
      replace hp := hp.mono b14
      replace hq := hq.mono b14
      replace hg := hg.mono b14
      replace hl := hl.mono b14
      replace hm := hm.mono b14
      replace hn := hn.mono b14
      replace hr1 := hr1.mono b14
      replace hr2 := hr2.mono b14
      replace B := below_trans B b14
      clear b14
      rw [M3.out] at hr3
      obtain ⟨adr3, capr3, rfl, slr3⟩ := hr3
      have hr3 : Num _ (.slice adr3 (limbs (0)).length capr3) (0) := ⟨_, _, rfl, slr3⟩
      clear slr3
      go_wp2
      go_ret
      exact ⟨rfl, B⟩
  · have hg0 : g ≠ 0 := fun h => hz (.inl (Hgz.out.mp h).1)
    have L := lcm_ok _ _ p q _ hp hq (by omega) (by omega) (by omega)
    rw [Eg.out] at L
    have lq1 := Hqg.out p
    have lq2 := limbs_length_mul (p / g) q
    have hprod : g * (p / g * q) = p * q := by rw [← Nat.mul_assoc, Nat.mul_div_cancel' Hd1.out]
    have Hprod := Lib.hid hprod
    clear hprod hz
    go_wp2_with fail
    refine (L).mono ?_
    rintro e w7 ⟨vl, rfl, hl, _, b7⟩
    replace hc := hc.mono b7
    replace hp := hp.mono b7
    replace hq := hq.mono b7
    replace hg := hg.mono b7
    replace B := below_trans B b7
    clear b7
    clear L
    go_wp2_with fail
    refine (lmul_calls _ _ g (p / g * q) _ hg hl (by omega) (by omega)).mono ?_
    rintro e w8 ⟨vm, rfl, hm, _, b8⟩
    replace hc := hc.mono b8
    replace hp := hp.mono b8
    replace hq := hq.mono b8
    replace hg := hg.mono b8
    replace hl := hl.mono b8
    replace B := below_trans B b8
    clear b8
    go_wp2_with fail
    refine (lmul_calls _ _ p q _ hp hq (by omega) (by omega)).mono ?_
    rintro e w9 ⟨vn, rfl, hn, _, b9⟩
    replace hc := hc.mono b9
    replace hp := hp.mono b9
    replace hq := hq.mono b9
    replace hg := hg.mono b9
    replace hl := hl.mono b9
    replace hm := hm.mono b9
    replace B := below_trans B b9
    clear b9
    rw [Hprod.out] at hm
    go_wp2_with fail
    refine (lsame_calls _ _ (p * q) _ hm hn).mono ?_
    rintro e w10 ⟨rfl, b10⟩
    replace hc := hc.mono b10
    replace hp := hp.mono b10
    replace hq := hq.mono b10
    replace hg := hg.mono b10
    replace hl := hl.mono b10
    replace hm := hm.mono b10
    replace hn := hn.mono b10
    replace B := below_trans B b10
    clear b10
    go_wp2_with fail
    refine (lives_calls _).mono ?_
    rintro e w11 ⟨rfl, b11⟩
    replace hc := hc.mono b11
    replace hp := hp.mono b11
    replace hq := hq.mono b11
    replace hg := hg.mono b11
    replace hl := hl.mono b11
    replace hm := hm.mono b11
    replace hn := hn.mono b11
    replace B := below_trans B b11
    clear b11
    have g1 : (((limbs g).length : Int) == 0) = false := by
      rw [beq_eq_false_iff_ne]
      intro h
      exact hg0 ((len_zero_iff g).mp (by omega))
    have cc := Hc0.out (by have := Hgz.out; omega)
    have c1 : (((limbs c).length : Int) == 0) = false := by
      rw [beq_eq_false_iff_ne]
      intro h
      exact cc ((len_zero_iff c).mp (by omega))
    have z0 : (((limbs 0).length : Int) == 0) = true := by rw [limbs_zero]; rfl
    have M1 := Lib.hid (Nat.mod_eq_zero_of_dvd Hd1.out)
    have M2 := Lib.hid (Nat.mod_eq_zero_of_dvd Hd2.out)
    have M3 := Lib.hid (Nat.mod_eq_zero_of_dvd Hdc.out)
    go_wp2_with fail
    refine (divmod_ok _ _ p g _ hp hg (by omega) hg0).mono ?_
    rintro e w12 ⟨vx1, vr1, rfl, _, hr1, _, _, _, b12⟩
    replace hc := hc.mono b12
    replace hp := hp.mono b12
    replace hq := hq.mono b12
    replace hg := hg.mono b12
    replace hl := hl.mono b12
    replace hm := hm.mono b12
    replace hn := hn.mono b12
    replace B := below_trans B b12
    clear b12
    rw [M1.out] at hr1
    obtain ⟨adr1, capr1, rfl, slr1⟩ := hr1
    have hr1 : Num _ (.slice adr1 (limbs (0)).length capr1) (0) := ⟨_, _, rfl, slr1⟩
    clear slr1
    go_wp2_with fail
    refine (divmod_ok _ _ q g _ hq hg (by omega) hg0).mono ?_
    rintro e w13 ⟨vx2, vr2, rfl, _, hr2, _, _, _, b13⟩
    replace hc := hc.mono b13
    replace hp := hp.mono b13
    replace hq := hq.mono b13
    replace hg := hg.mono b13
    replace hl := hl.mono b13
    replace hm := hm.mono b13
    replace hn := hn.mono b13
    replace hr1 := hr1.mono b13
    replace B := below_trans B b13
    clear b13
    rw [M2.out] at hr2
    obtain ⟨adr2, capr2, rfl, slr2⟩ := hr2
    have hr2 : Num _ (.slice adr2 (limbs (0)).length capr2) (0) := ⟨_, _, rfl, slr2⟩
    clear slr2
    go_wp2_with fail
    refine (divmod_ok _ _ g c _ hg hc (by omega) cc).mono ?_
    rintro e w14 ⟨vx3, vr3, rfl, _, hr3, _, _, _, b14⟩
    replace hc := hc.mono b14
    replace hp := hp.mono b14
    replace hq := hq.mono b14
    replace hg := hg.mono b14
    replace hl := hl.mono b14
    replace hm := hm.mono b14
    replace hn := hn.mono b14
    replace hr1 := hr1.mono b14
    replace hr2 := hr2.mono b14
    replace B := below_trans B b14
    clear b14
    rw [M3.out] at hr3
    obtain ⟨adr3, capr3, rfl, slr3⟩ := hr3
    have hr3 : Num _ (.slice adr3 (limbs (0)).length capr3) (0) := ⟨_, _, rfl, slr3⟩
    clear slr3
    go_wp2
    go_ret
    exact ⟨rfl, B⟩

end Go.Proofs
