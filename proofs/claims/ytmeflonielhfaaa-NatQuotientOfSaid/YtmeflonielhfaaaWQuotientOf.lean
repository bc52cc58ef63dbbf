/- The walk of the law NatQuotientOf: whatever comes in, it returns true and changes nothing that was there. -/
import Derived.Test.YtmeflonielhfaaaMore
import Derived.Test.YtmeflonielhfaaaRCmp
open Go.RowKit
namespace Go.Proofs
set_option linter.unusedVariables false

theorem In.short {w v xs} (h : In w v xs) (n : Nat) : (limbs (val (xs.take n))).length ≤ n := by
  obtain ⟨ad, c, rfl, h1, h2, h3, h4⟩ := h
  have := limbs_length_val (xs.take n) (fun x hx => h3 x (List.mem_of_mem_take hx))
  rw [List.length_take] at this
  omega

set_option maxRecDepth 100000 in
set_option maxHeartbeats 1000000 in
theorem walk_quotientOf (v1 v2 v3 : Value) (xs ys zs : List Nat) (w : World) (hx0 : In w v1 xs) (hy0 : In w v2 ys) (hz0 : In w v3 zs) :
    Calls Try.prog 9 #[v1, v2, v3] w (RetTrue w) := by
  have hx := hx0
  have hy := hy0
  have hz := hz0
  go_enter Try.func9, Try.ntmps9
  go_wp2_with fail
  refine (whole_calls _ xs 100 _ _ hx (by rfl) (by omega)).mono ?_
  rintro e w1 ⟨va, rfl, ha, _, b1⟩
  replace hx := hx.mono b1
  replace hy := hy.mono b1
  replace hz := hz.mono b1
  have B := b1
  clear b1
  go_wp2_with fail
  refine (whole_calls _ ys 100 _ _ hy (by rfl) (by omega)).mono ?_
  rintro e w2 ⟨vb, rfl, hb, _, b2⟩
  replace hy := hy.mono b2
  replace hz := hz.mono b2
  replace ha := ha.mono b2
  replace B := below_trans B b2
  clear b2
  go_wp2_with fail
  refine (whole_calls _ zs 100 _ _ hz (by rfl) (by omega)).mono ?_
  rintro e w3 ⟨vc, rfl, hc, _, b3⟩
  replace hz := hz.mono b3
  replace ha := ha.mono b3
  replace hb := hb.mono b3
  replace B := below_trans B b3
  clear b3
  have la := In.short hx0 100
  have lb := In.short hy0 100
  have lc := In.short hz0 100
  generalize val (xs.take 100) = a at *
  generalize val (ys.take 100) = b at *
  generalize val (zs.take 100) = c at *
  clear hx hy hz hx0 hy0 hz0
  by_cases hlt : c < b
  · have t9 : ¬ (0 : Int) ≤ -1 := by omega
    have mab : (limbs (a * b)).length ≤ 200 := by have := limbs_length_mul a b; omega
    have sab : (limbs (a * b + c)).length ≤ 202 := by have := limbs_length_add (a * b) c; omega
    have hd : (a * b + c) / b = a := by rw [Nat.mul_comm, Nat.mul_add_div (by omega), Nat.div_eq_of_lt hlt, Nat.add_zero]
    have hm : (a * b + c) % b = c := by rw [Nat.mul_comm, Nat.mul_add_mod, Nat.mod_eq_of_lt hlt]
    have Hd := Lib.hid hd
    have Hm := Lib.hid hm
    clear hd hm
    go_wp2_with fail
    refine (rcmp_calls _ _ c b _ _ hc hb (cmpInt_lt hlt) (by omega) (by omega)).mono ?_
    rintro e w4 ⟨rfl, b4⟩
    replace ha := ha.mono b4
    replace hb := hb.mono b4
    replace hc := hc.mono b4
    replace B := below_trans B b4
    clear b4
    go_wp2_with fail
    refine (lmul_calls _ _ a b _ ha hb (by omega) (by omega)).mono ?_
    rintro e w5 ⟨vp, rfl, p, _, b5⟩
    replace ha := ha.mono b5
    replace hb := hb.mono b5
    replace hc := hc.mono b5
    replace B := below_trans B b5
    clear b5
    go_wp2_with fail
    refine (ladd_calls _ _ (a * b) c _ p hc (by omega) (by omega)).mono ?_
    rintro e w6 ⟨vs, rfl, s, _, b6⟩
    replace ha := ha.mono b6
    replace hb := hb.mono b6
    replace hc := hc.mono b6
    replace p := p.mono b6
    replace B := below_trans B b6
    clear b6
    go_wp2_with fail
    refine (divmod_ok _ _ (a * b + c) b _ s hb (by omega) (by omega)).mono ?_
    rintro e w7 ⟨vq, vr, rfl, q, r, _, _, _, b7⟩
    replace ha := ha.mono b7
    replace hb := hb.mono b7
    replace hc := hc.mono b7
    replace p := p.mono b7
    replace s := s.mono b7
    replace B := below_trans B b7
    clear b7
    rw [Hd.out] at q
    rw [Hm.out] at r
    go_wp2_with fail
    refine (lsame_calls _ _ a _ q ha).mono ?_
    rintro e w8 ⟨rfl, b8⟩
    replace ha := ha.mono b8
    replace hb := hb.mono b8
    replace hc := hc.mono b8
    replace p := p.mono b8
    replace s := s.mono b8
    replace q := q.mono b8
    replace r := r.mono b8
    replace B := below_trans B b8
    clear b8
    go_wp2_with fail
    refine (lsame_calls _ _ c _ r hc).mono ?_
    rintro e w9 ⟨rfl, b9⟩
    replace ha := ha.mono b9
    replace hb := hb.mono b9
    replace hc := hc.mono b9
    replace p := p.mono b9
    replace s := s.mono b9
    replace q := q.mono b9
    replace r := r.mono b9
    replace B := below_trans B b9
    clear b9
    go_wp2_with fail
    refine (lives_calls _).mono ?_
    rintro e w10 ⟨rfl, b10⟩
    replace ha := ha.mono b10
    replace hb := hb.mono b10
    replace hc := hc.mono b10
    replace p := p.mono b10
    replace s := s.mono b10
    replace q := q.mono b10
    replace r := r.mono b10
    replace B := below_trans B b10
    clear b10
    go_wp2
    go_ret
    exact ⟨rfl, B⟩
  · have t9 : (0 : Int) ≤ cmpInt c b := by unfold cmpInt; split <;> (try split) <;> omega
    go_wp2_with fail
    refine (rcmp_calls _ _ c b _ _ hc hb rfl (by omega) (by omega)).mono ?_
    rintro e w4 ⟨rfl, b4⟩
    replace ha := ha.mono b4
    replace hb := hb.mono b4
    replace hc := hc.mono b4
    replace B := below_trans B b4
    clear b4
    go_wp2_with fail
    refine (lives_calls _).mono ?_
    rintro e w5 ⟨rfl, b5⟩
    replace ha := ha.mono b5
    replace hb := hb.mono b5
    replace hc := hc.mono b5
    replace B := below_trans B b5
    clear b5
    go_wp2
    go_ret
    exact ⟨rfl, B⟩

end Go.Proofs
