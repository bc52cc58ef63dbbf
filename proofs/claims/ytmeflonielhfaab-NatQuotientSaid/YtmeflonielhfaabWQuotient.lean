/- The walk of the law NatQuotient: whatever comes in, it returns true and changes nothing that was there. -/
import Derived.Test.YtmeflonielhfaabMore
import Derived.Test.YtmeflonielhfaabGcd
import Derived.Test.YtmeflonielhfaabValid
open Go.RowKit
namespace Go.Proofs
set_option linter.unusedVariables false

theorem In.short {w v xs} (h : In w v xs) (n : Nat) : (limbs (val (xs.take n))).length ≤ n := by
  obtain ⟨ad, c, rfl, h1, h2, h3, h4⟩ := h
  have := limbs_length_val (xs.take n) (fun x hx => h3 x (List.mem_of_mem_take hx))
  rw [List.length_take] at this
  omega

set_option maxRecDepth 100000 in
set_option maxHeartbeats 1000000 in
theorem walk_quotient (v1 v2 : Value) (xs ys : List Nat) (w : World) (hx0 : In w v1 xs) (hy0 : In w v2 ys) :
    Calls Try.prog 4 #[v1, v2] w (RetTrue w) := by
  have hx := hx0
  have hy := hy0
  go_enter Try.func4, Try.ntmps4
  go_wp2_with fail
  refine (whole_calls _ xs 300 _ _ hx (by rfl) (by omega)).mono ?_
  rintro e w1 ⟨va, rfl, ha, _, b1⟩
  replace hx := hx.mono b1
  replace hy := hy.mono b1
  have B := b1
  clear b1
  go_wp2_with fail
  refine (whole_calls _ ys 150 _ _ hy (by rfl) (by omega)).mono ?_
  rintro e w2 ⟨vb, rfl, hb, _, b2⟩
  replace hy := hy.mono b2
  replace ha := ha.mono b2
  replace B := below_trans B b2
  clear b2
  have la := In.short hx0 300
  have lb := In.short hy0 150
  generalize val (xs.take 300) = a at *
  generalize val (ys.take 150) = b at *
  clear hx hy hx0 hy0
  have hbv := hb
  obtain ⟨adb, cb, rfl, sb⟩ := hbv
  clear sb
  by_cases hb0 : b = 0
  · have t1 : (((limbs b).length : Int) == 0) = true := by rw [(len_zero_iff b).mpr hb0]; rfl
    clear hb0
    go_wp2_with fail
    refine (lives_calls _).mono ?_
    rintro e w3 ⟨rfl, b3⟩
    replace ha := ha.mono b3
    replace hb := hb.mono b3
    replace B := below_trans B b3
    clear b3
    go_wp2
    go_ret
    exact ⟨rfl, B⟩
  · have t1 : (((limbs b).length : Int) == 0) = false := by
      rw [beq_eq_false_iff_ne]
      intro h
      exact hb0 ((len_zero_iff b).mp (by omega))
    have hlt := Nat.mod_lt a (show 0 < b by omega)
    have lq := limbs_length_mono (Nat.div_le_self a b)
    have lr := limbs_length_mono (Nat.le_of_lt hlt)
    have hsum : a / b * b + a % b = a := by rw [Nat.mul_comm]; exact Nat.div_add_mod a b
    have lm := limbs_length_mul (a / b) b
    obtain ⟨q, eq⟩ : ∃ q, a / b = q := ⟨_, rfl⟩
    obtain ⟨r, er⟩ : ∃ r, a % b = r := ⟨_, rfl⟩
    rw [eq] at lq hsum lm
    rw [er] at lr hlt hsum
    have Eq := Lib.hid eq
    have Er := Lib.hid er
    have Hsum := Lib.hid hsum
    clear eq er hsum
    have c1 : chk (limbs q) = 0 := by rw [chk_limbs, if_neg (by omega)]
    have c2 : chk (limbs r) = 0 := by rw [chk_limbs, if_neg (by omega)]
    have C1 := Lib.hid c1
    have C2 := Lib.hid c2
    clear c1 c2
    go_wp2_with fail
    refine (divmod_ok _ _ a b _ ha hb (by omega) hb0).mono ?_
    rintro e w3 ⟨vq, vr, rfl, hq, hr, _, _, _, b3⟩
    replace ha := ha.mono b3
    replace hb := hb.mono b3
    replace B := below_trans B b3
    clear b3
    rw [Eq.out] at hq
    rw [Er.out] at hr
    have L := check_calls _ (limbs q) _ hq.raw
    rw [C1.out] at L
    go_wp2_with fail
    refine (L).mono ?_
    rintro e wq ⟨rfl, rfl⟩
    clear L
    have L := check_calls _ (limbs r) _ hr.raw
    rw [C2.out] at L
    go_wp2_with fail
    refine (L).mono ?_
    rintro e wq ⟨rfl, rfl⟩
    clear L
    have L := cmp_ok _ _ r b _ hr hb (by omega)
    rw [cmpInt_lt hlt] at L
    go_wp2_with fail
    refine (L).mono ?_
    rintro e w4 ⟨rfl, b4⟩
    replace ha := ha.mono b4
    replace hb := hb.mono b4
    replace hq := hq.mono b4
    replace hr := hr.mono b4
    replace B := below_trans B b4
    clear b4
    clear L
    go_wp2_with fail
    refine (lmul_calls _ _ q b _ hq hb (by omega) (by omega)).mono ?_
    rintro e w5 ⟨vm, rfl, hm, _, b5⟩
    replace ha := ha.mono b5
    replace hb := hb.mono b5
    replace hq := hq.mono b5
    replace hr := hr.mono b5
    replace B := below_trans B b5
    clear b5
    go_wp2_with fail
    refine (ladd_calls _ _ (q * b) r _ hm hr (by omega) (by omega)).mono ?_
    rintro e w6 ⟨vs, rfl, hs, _, b6⟩
    replace ha := ha.mono b6
    replace hb := hb.mono b6
    replace hq := hq.mono b6
    replace hr := hr.mono b6
    replace hm := hm.mono b6
    replace B := below_trans B b6
    clear b6
    go_wp2_with fail
    refine (lsame_calls _ _ a _ (by rw [Hsum.out] at hs; exact hs) ha).mono ?_
    rintro e w7 ⟨rfl, b7⟩
    replace ha := ha.mono b7
    replace hb := hb.mono b7
    replace hq := hq.mono b7
    replace hr := hr.mono b7
    replace hm := hm.mono b7
    replace hs := hs.mono b7
    replace B := below_trans B b7
    clear b7
    go_wp2_with fail
    refine (lives_calls _).mono ?_
    rintro e w8 ⟨rfl, b8⟩
    replace ha := ha.mono b8
    replace hb := hb.mono b8
    replace hq := hq.mono b8
    replace hr := hr.mono b8
    replace hm := hm.mono b8
    replace hs := hs.mono b8
    replace B := below_trans B b8
    clear b8
    go_wp2
    go_ret
    exact ⟨rfl, B⟩

end Go.Proofs
