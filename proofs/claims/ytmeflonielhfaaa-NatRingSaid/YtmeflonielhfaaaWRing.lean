/- The walk of the law NatRing: whatever comes in, it returns true and changes nothing that was there. -/
import Derived.Test.YtmeflonielhfaaaMore
open Go.RowKit
namespace Go.Proofs
set_option linter.unusedVariables false

theorem In.short {w v xs} (h : In w v xs) (n : Nat) : (limbs (val (xs.take n))).length ≤ n := by
  obtain ⟨ad, c, rfl, h1, h2, h3, h4⟩ := h
  have := limbs_length_val (xs.take n) (fun x hx => h3 x (List.mem_of_mem_take hx))
  rw [List.length_take] at this
  omega

set_option maxRecDepth 100000 in
set_option maxHeartbeats 1000000 in
theorem walk_ring (v1 v2 v3 : Value) (xs ys zs : List Nat) (w : World) (hx0 : In w v1 xs) (hy0 : In w v2 ys) (hz0 : In w v3 zs) :
    Calls Try.prog 8 #[v1, v2, v3] w (RetTrue w) := by
  have hx := hx0
  have hy := hy0
  have hz := hz0
  go_enter Try.func8, Try.ntmps8
  go_wp2_with fail
  refine (whole_calls _ xs 80 _ _ hx (by rfl) (by omega)).mono ?_
  rintro e w1 ⟨va, rfl, ha, _, b1⟩
  replace hx := hx.mono b1
  replace hy := hy.mono b1
  replace hz := hz.mono b1
  have B := b1
  clear b1
  go_wp2_with fail
  refine (whole_calls _ ys 80 _ _ hy (by rfl) (by omega)).mono ?_
  rintro e w2 ⟨vb, rfl, hb, _, b2⟩
  replace hy := hy.mono b2
  replace hz := hz.mono b2
  replace ha := ha.mono b2
  replace B := below_trans B b2
  clear b2
  go_wp2_with fail
  refine (whole_calls _ zs 80 _ _ hz (by rfl) (by omega)).mono ?_
  rintro e w3 ⟨vc, rfl, hc, _, b3⟩
  replace hz := hz.mono b3
  replace ha := ha.mono b3
  replace hb := hb.mono b3
  replace B := below_trans B b3
  clear b3
  have la := In.short hx0 80
  have lb := In.short hy0 80
  have lc := In.short hz0 80
  generalize val (xs.take 80) = a at *
  generalize val (ys.take 80) = b at *
  generalize val (zs.take 80) = c at *
  clear hx hy hz hx0 hy0 hz0
  have sab : (limbs (a + b)).length ≤ 81 := by have h1 := limbs_length_add a b; have h2 := limbs_length_add b c; have h3 := limbs_length_add b a; have h4 := limbs_length_add (a + b) c; have h5 := limbs_length_add a (b + c); omega
  have sba : (limbs (b + a)).length ≤ 81 := by have h1 := limbs_length_add a b; have h2 := limbs_length_add b c; have h3 := limbs_length_add b a; have h4 := limbs_length_add (a + b) c; have h5 := limbs_length_add a (b + c); omega
  have sbc : (limbs (b + c)).length ≤ 81 := by have h1 := limbs_length_add a b; have h2 := limbs_length_add b c; have h3 := limbs_length_add b a; have h4 := limbs_length_add (a + b) c; have h5 := limbs_length_add a (b + c); omega
  have sabc : (limbs (a + b + c)).length ≤ 82 := by have h1 := limbs_length_add a b; have h2 := limbs_length_add b c; have h3 := limbs_length_add b a; have h4 := limbs_length_add (a + b) c; have h5 := limbs_length_add a (b + c); omega
  have sabc2 : (limbs (a + (b + c))).length ≤ 82 := by have h1 := limbs_length_add a b; have h2 := limbs_length_add b c; have h3 := limbs_length_add b a; have h4 := limbs_length_add (a + b) c; have h5 := limbs_length_add a (b + c); omega
  have mab : (limbs (a * b)).length ≤ 160 := by have := limbs_length_mul a b; omega
  have mba : (limbs (b * a)).length ≤ 160 := by have := limbs_length_mul b a; omega
  have mbc : (limbs (b * c)).length ≤ 160 := by have := limbs_length_mul b c; omega
  have mac : (limbs (a * c)).length ≤ 160 := by have := limbs_length_mul a c; omega
  go_wp2_with fail
  refine (ladd_calls _ _ (a) (b) _ ha hb (by omega) (by omega)).mono ?_
  rintro e w4 ⟨vp, rfl, p, _, b4⟩
  replace ha := ha.mono b4
  replace hb := hb.mono b4
  replace hc := hc.mono b4
  replace B := below_trans B b4
  clear b4
  go_wp2_with fail
  refine (ladd_calls _ _ (b) (a) _ hb ha (by omega) (by omega)).mono ?_
  rintro e w5 ⟨vq, rfl, q, _, b5⟩
  replace ha := ha.mono b5
  replace hb := hb.mono b5
  replace hc := hc.mono b5
  replace p := p.mono b5
  replace B := below_trans B b5
  clear b5
  go_wp2_with fail
  refine (lsame_calls _ _ (a + b) _ p (by rw [show a + b = _ from Nat.add_comm a b]; exact q)).mono ?_
  rintro e w6 ⟨rfl, b6⟩
  replace ha := ha.mono b6
  replace hb := hb.mono b6
  replace hc := hc.mono b6
  replace p := p.mono b6
  replace q := q.mono b6
  replace B := below_trans B b6
  clear b6
  clear p q
  go_wp2_with fail
  refine (ladd_calls _ _ (a) (b) _ ha hb (by omega) (by omega)).mono ?_
  rintro e w7 ⟨vp, rfl, p, _, b7⟩
  replace ha := ha.mono b7
  replace hb := hb.mono b7
  replace hc := hc.mono b7
  replace B := below_trans B b7
  clear b7
  go_wp2_with fail
  refine (ladd_calls _ _ (a + b) (c) _ p hc (by omega) (by omega)).mono ?_
  rintro e w8 ⟨vq, rfl, q, _, b8⟩
  replace ha := ha.mono b8
  replace hb := hb.mono b8
  replace hc := hc.mono b8
  replace p := p.mono b8
  replace B := below_trans B b8
  clear b8
  go_wp2_with fail
  refine (ladd_calls _ _ (b) (c) _ hb hc (by omega) (by omega)).mono ?_
  rintro e w9 ⟨vr, rfl, r, _, b9⟩
  replace ha := ha.mono b9
  replace hb := hb.mono b9
  replace hc := hc.mono b9
  replace p := p.mono b9
  replace q := q.mono b9
  replace B := below_trans B b9
  clear b9
  go_wp2_with fail
  refine (ladd_calls _ _ (a) (b + c) _ ha r (by omega) (by omega)).mono ?_
  rintro e w10 ⟨vt, rfl, t, _, b10⟩
  replace ha := ha.mono b10
  replace hb := hb.mono b10
  replace hc := hc.mono b10
  replace p := p.mono b10
  replace q := q.mono b10
  replace r := r.mono b10
  replace B := below_trans B b10
  clear b10
  go_wp2_with fail
  refine (lsame_calls _ _ (a + b + c) _ q (by rw [show a + b + c = _ from Nat.add_assoc a b c]; exact t)).mono ?_
  rintro e w11 ⟨rfl, b11⟩
  replace ha := ha.mono b11
  replace hb := hb.mono b11
  replace hc := hc.mono b11
  replace p := p.mono b11
  replace q := q.mono b11
  replace r := r.mono b11
  replace t := t.mono b11
  replace B := below_trans B b11
  clear b11
  clear q t
  clear p r
  go_wp2_with fail
  refine (lmul_calls _ _ (a) (b) _ ha hb (by omega) (by omega)).mono ?_
  rintro e w12 ⟨vp, rfl, p, _, b12⟩
  replace ha := ha.mono b12
  replace hb := hb.mono b12
  replace hc := hc.mono b12
  replace B := below_trans B b12
  clear b12
  go_wp2_with fail
  refine (lmul_calls _ _ (b) (a) _ hb ha (by omega) (by omega)).mono ?_
  rintro e w13 ⟨vq, rfl, q, _, b13⟩
  replace ha := ha.mono b13
  replace hb := hb.mono b13
  replace hc := hc.mono b13
  replace p := p.mono b13
  replace B := below_trans B b13
  clear b13
  go_wp2_with fail
  refine (lsame_calls _ _ (a * b) _ p (by rw [show a * b = _ from Nat.mul_comm a b]; exact q)).mono ?_
  rintro e w14 ⟨rfl, b14⟩
  replace ha := ha.mono b14
  replace hb := hb.mono b14
  replace hc := hc.mono b14
  replace p := p.mono b14
  replace q := q.mono b14
  replace B := below_trans B b14
  clear b14
  clear p q
  go_wp2_with fail
  refine (lmul_calls _ _ (a) (b) _ ha hb (by omega) (by omega)).mono ?_
  rintro e w15 ⟨vp, rfl, p, _, b15⟩
  replace ha := ha.mono b15
  replace hb := hb.mono b15
  replace hc := hc.mono b15
  replace B := below_trans B b15
  clear b15
  go_wp2_with fail
  refine (lmul_calls _ _ (a * b) (c) _ p hc (by omega) (by omega)).mono ?_
  rintro e w16 ⟨vq, rfl, q, _, b16⟩
  replace ha := ha.mono b16
  replace hb := hb.mono b16
  replace hc := hc.mono b16
  replace p := p.mono b16
  replace B := below_trans B b16
  clear b16
  go_wp2_with fail
  refine (lmul_calls _ _ (b) (c) _ hb hc (by omega) (by omega)).mono ?_
  rintro e w17 ⟨vr, rfl, r, _, b17⟩
  replace ha := ha.mono b17
  replace hb := hb.mono b17
  replace hc := hc.mono b17
  replace p := p.mono b17
  replace q := q.mono b17
  replace B := below_trans B b17
  clear b17
  go_wp2_with fail
  refine (lmul_calls _ _ (a) (b * c) _ ha r (by omega) (by omega)).mono ?_
  rintro e w18 ⟨vt, rfl, t, _, b18⟩
  replace ha := ha.mono b18
  replace hb := hb.mono b18
  replace hc := hc.mono b18
  replace p := p.mono b18
  replace q := q.mono b18
  replace r := r.mono b18
  replace B := below_trans B b18
  clear b18
  go_wp2_with fail
  refine (lsame_calls _ _ (a * b * c) _ q (by rw [show a * b * c = _ from Nat.mul_assoc a b c]; exact t)).mono ?_
  rintro e w19 ⟨rfl, b19⟩
  replace ha := ha.mono b19
  replace hb := hb.mono b19
  replace hc := hc.mono b19
  replace p := p.mono b19
  replace q := q.mono b19
  replace r := r.mono b19
  replace t := t.mono b19
  replace B := below_trans B b19
  clear b19
  clear q t
  clear p r
  go_wp2_with fail
  refine (ladd_calls _ _ (b) (c) _ hb hc (by omega) (by omega)).mono ?_
  rintro e w20 ⟨vp, rfl, p, _, b20⟩
  replace ha := ha.mono b20
  replace hb := hb.mono b20
  replace hc := hc.mono b20
  replace B := below_trans B b20
  clear b20
  go_wp2_with fail
  refine (lmul_calls _ _ (a) (b + c) _ ha p (by omega) (by omega)).mono ?_
  rintro e w21 ⟨vq, rfl, q, _, b21⟩
  replace ha := ha.mono b21
  replace hb := hb.mono b21
  replace hc := hc.mono b21
  replace p := p.mono b21
  replace B := below_trans B b21
  clear b21
  go_wp2_with fail
  refine (lmul_calls _ _ (a) (b) _ ha hb (by omega) (by omega)).mono ?_
  rintro e w22 ⟨vr, rfl, r, _, b22⟩
  replace ha := ha.mono b22
  replace hb := hb.mono b22
  replace hc := hc.mono b22
  replace p := p.mono b22
  replace q := q.mono b22
  replace B := below_trans B b22
  clear b22
  go_wp2_with fail
  refine (lmul_calls _ _ (a) (c) _ ha hc (by omega) (by omega)).mono ?_
  rintro e w23 ⟨vt, rfl, t, _, b23⟩
  replace ha := ha.mono b23
  replace hb := hb.mono b23
  replace hc := hc.mono b23
  replace p := p.mono b23
  replace q := q.mono b23
  replace r := r.mono b23
  replace B := below_trans B b23
  clear b23
  go_wp2_with fail
  refine (ladd_calls _ _ (a * b) (a * c) _ r t (by omega) (by omega)).mono ?_
  rintro e w24 ⟨vu, rfl, u, _, b24⟩
  replace ha := ha.mono b24
  replace hb := hb.mono b24
  replace hc := hc.mono b24
  replace p := p.mono b24
  replace q := q.mono b24
  replace r := r.mono b24
  replace t := t.mono b24
  replace B := below_trans B b24
  clear b24
  go_wp2_with fail
  refine (lsame_calls _ _ (a * (b + c)) _ q (by rw [show a * (b + c) = _ from Nat.mul_add a b c]; exact u)).mono ?_
  rintro e w25 ⟨rfl, b25⟩
  replace ha := ha.mono b25
  replace hb := hb.mono b25
  replace hc := hc.mono b25
  replace p := p.mono b25
  replace q := q.mono b25
  replace r := r.mono b25
  replace t := t.mono b25
  replace u := u.mono b25
  replace B := below_trans B b25
  clear b25
  clear q u
  clear p r t
  go_wp2_with fail
  refine (ladd_calls _ _ (a) (b) _ ha hb (by omega) (by omega)).mono ?_
  rintro e w26 ⟨vp, rfl, p, _, b26⟩
  replace ha := ha.mono b26
  replace hb := hb.mono b26
  replace hc := hc.mono b26
  replace B := below_trans B b26
  clear b26
  go_wp2_with fail
  refine (lsub_calls _ _ (a + b) b _ p hb (by omega) (by omega) (by omega)).mono ?_
  rintro e w27 ⟨vq, rfl, q, _, b27⟩
  replace ha := ha.mono b27
  replace hb := hb.mono b27
  replace hc := hc.mono b27
  replace p := p.mono b27
  replace B := below_trans B b27
  clear b27
  go_wp2_with fail
  refine (lsame_calls _ _ a _ (by rw [Nat.add_sub_cancel] at q; exact q) ha).mono ?_
  rintro e w28 ⟨rfl, b28⟩
  replace ha := ha.mono b28
  replace hb := hb.mono b28
  replace hc := hc.mono b28
  replace p := p.mono b28
  replace q := q.mono b28
  replace B := below_trans B b28
  clear b28
  go_wp2_with fail
  refine (lives_calls _).mono ?_
  rintro e w29 ⟨rfl, b29⟩
  replace ha := ha.mono b29
  replace hb := hb.mono b29
  replace hc := hc.mono b29
  replace p := p.mono b29
  replace q := q.mono b29
  replace B := below_trans B b29
  clear b29
  go_wp2
  go_ret
  exact ⟨rfl, B⟩

end Go.Proofs
