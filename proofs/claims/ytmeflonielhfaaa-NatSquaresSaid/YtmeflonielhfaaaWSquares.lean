/- The walk of the law NatSquares: whatever comes in, it returns true and changes nothing that was there. -/
import Derived.Test.YtmeflonielhfaaaMore
open Go.RowKit
namespace Go.Proofs
set_option linter.unusedVariables false

theorem In.short {w v xs} (h : In w v xs) (n : Nat) : (limbs (val (xs.take n))).length ≤ n := by
  obtain ⟨ad, c, rfl, h1, h2, h3, h4⟩ := h
  have := limbs_length_val (xs.take n) (fun x hx => h3 x (List.mem_of_mem_take hx))
  rw [List.length_take] at this
  omega

set_option maxRecDepth 100000 in
set_option maxHeartbeats 1000000 in
theorem walk_squares (v1 v2 : Value) (xs ys : List Nat) (w : World) (hx0 : In w v1 xs) (hy0 : In w v2 ys) :
    Calls Try.prog 14 #[v1, v2] w (RetTrue w) := by
  have hx := hx0
  have hy := hy0
  go_enter Try.func14, Try.ntmps14
  go_wp2_with fail
  refine (whole_calls _ xs 400 _ _ hx (by rfl) (by omega)).mono ?_
  rintro e w1 ⟨va, rfl, ha, _, b1⟩
  replace hx := hx.mono b1
  replace hy := hy.mono b1
  have B := b1
  clear b1
  go_wp2_with fail
  refine (whole_calls _ ys 400 _ _ hy (by rfl) (by omega)).mono ?_
  rintro e w2 ⟨vb, rfl, hb, _, b2⟩
  replace hy := hy.mono b2
  replace ha := ha.mono b2
  replace B := below_trans B b2
  clear b2
  have la := In.short hx0 400
  have lb := In.short hy0 400
  generalize val (xs.take 400) = a at *
  generalize val (ys.take 400) = b at *
  clear hx hy hx0 hy0
  by_cases hlt : a < b
  · have t9 : (-1 : Int) < 0 := by omega
    have hcmp := cmpInt_lt hlt
    have C := cmp_ok _ _ a b _ ha hb (by omega)
    rw [hcmp] at C
    clear hcmp
    go_wp2_with fail
    refine (C).mono ?_
    rintro e w3 ⟨rfl, b3⟩
    replace ha := ha.mono b3
    replace hb := hb.mono b3
    replace B := below_trans B b3
    clear b3
    go_wp2_with fail
    refine (lives_calls _).mono ?_
    rintro e w4 ⟨rfl, b4⟩
    replace ha := ha.mono b4
    replace hb := hb.mono b4
    replace B := below_trans B b4
    clear b4
    clear C
    have m1 : (limbs (b * b)).length ≤ 800 := by have := limbs_length_mul b b; omega
    have m2 : (limbs (a * a)).length ≤ 800 := by have := limbs_length_mul a a; omega
    have s1 : (limbs (b + a)).length ≤ 401 := by have := limbs_length_add b a; omega
    have s2 : (limbs (b - a)).length ≤ 400 := by have := limbs_length_mono (Nat.sub_le b a); omega
    have hle : a * a ≤ b * b := Nat.mul_le_mul (by omega) (by omega)
    go_wp2_with fail
    refine (lmul_calls _ _ b b _ hb hb (by omega) (by omega)).mono ?_
    rintro e w5 ⟨vp, rfl, p, _, b5⟩
    replace ha := ha.mono b5
    replace hb := hb.mono b5
    replace B := below_trans B b5
    clear b5
    go_wp2_with fail
    refine (lmul_calls _ _ a a _ ha ha (by omega) (by omega)).mono ?_
    rintro e w6 ⟨vq, rfl, q, _, b6⟩
    replace ha := ha.mono b6
    replace hb := hb.mono b6
    replace p := p.mono b6
    replace B := below_trans B b6
    clear b6
    go_wp2_with fail
    refine (lsub_calls _ _ (b * b) (a * a) _ p q (by omega) (by omega) hle).mono ?_
    rintro e w7 ⟨vd, rfl, d, _, b7⟩
    replace ha := ha.mono b7
    replace hb := hb.mono b7
    replace p := p.mono b7
    replace q := q.mono b7
    replace B := below_trans B b7
    clear b7
    go_wp2_with fail
    refine (ladd_calls _ _ b a _ hb ha (by omega) (by omega)).mono ?_
    rintro e w8 ⟨vs, rfl, s, _, b8⟩
    replace ha := ha.mono b8
    replace hb := hb.mono b8
    replace p := p.mono b8
    replace q := q.mono b8
    replace d := d.mono b8
    replace B := below_trans B b8
    clear b8
    go_wp2_with fail
    refine (lsub_calls _ _ b a _ hb ha (by omega) (by omega) (by omega)).mono ?_
    rintro e w9 ⟨ve, rfl, e, _, b9⟩
    replace ha := ha.mono b9
    replace hb := hb.mono b9
    replace p := p.mono b9
    replace q := q.mono b9
    replace d := d.mono b9
    replace s := s.mono b9
    replace B := below_trans B b9
    clear b9
    go_wp2_with fail
    refine (lmul_calls _ _ (b + a) (b - a) _ s e (by omega) (by omega)).mono ?_
    rintro e w10 ⟨vf, rfl, f, _, b10⟩
    replace ha := ha.mono b10
    replace hb := hb.mono b10
    replace p := p.mono b10
    replace q := q.mono b10
    replace d := d.mono b10
    replace s := s.mono b10
    replace e := e.mono b10
    replace B := below_trans B b10
    clear b10
    go_wp2_with fail
    refine (lsame_calls _ _ (b * b - a * a) _ d (by rw [Nat.mul_self_sub_mul_self_eq]; exact f)).mono ?_
    rintro e w11 ⟨rfl, b11⟩
    replace ha := ha.mono b11
    replace hb := hb.mono b11
    replace p := p.mono b11
    replace q := q.mono b11
    replace d := d.mono b11
    replace s := s.mono b11
    replace e := e.mono b11
    replace f := f.mono b11
    replace B := below_trans B b11
    clear b11
    go_wp2
    go_ret
    exact ⟨rfl, B⟩
  · have t9 : ¬ cmpInt a b < 0 := by unfold cmpInt; split <;> (try split) <;> omega
    have C := cmp_ok _ _ a b _ ha hb (by omega)
    go_wp2_with fail
    refine (C).mono ?_
    rintro e w3 ⟨rfl, b3⟩
    replace ha := ha.mono b3
    replace hb := hb.mono b3
    replace B := below_trans B b3
    clear b3
    go_wp2_with fail
    refine (lives_calls _).mono ?_
    rintro e w4 ⟨rfl, b4⟩
    replace ha := ha.mono b4
    replace hb := hb.mono b4
    replace B := below_trans B b4
    clear b4
    clear C
    have m1 : (limbs (a * a)).length ≤ 800 := by have := limbs_length_mul a a; omega
    have m2 : (limbs (b * b)).length ≤ 800 := by have := limbs_length_mul b b; omega
    have s1 : (limbs (a + b)).length ≤ 401 := by have := limbs_length_add a b; omega
    have s2 : (limbs (a - b)).length ≤ 400 := by have := limbs_length_mono (Nat.sub_le a b); omega
    have hle : b * b ≤ a * a := Nat.mul_le_mul (by omega) (by omega)
    go_wp2_with fail
    refine (lmul_calls _ _ a a _ ha ha (by omega) (by omega)).mono ?_
    rintro e w5 ⟨vp, rfl, p, _, b5⟩
    replace ha := ha.mono b5
    replace hb := hb.mono b5
    replace B := below_trans B b5
    clear b5
    go_wp2_with fail
    refine (lmul_calls _ _ b b _ hb hb (by omega) (by omega)).mono ?_
    rintro e w6 ⟨vq, rfl, q, _, b6⟩
    replace ha := ha.mono b6
    replace hb := hb.mono b6
    replace p := p.mono b6
    replace B := below_trans B b6
    clear b6
    go_wp2_with fail
    refine (lsub_calls _ _ (a * a) (b * b) _ p q (by omega) (by omega) hle).mono ?_
    rintro e w7 ⟨vd, rfl, d, _, b7⟩
    replace ha := ha.mono b7
    replace hb := hb.mono b7
    replace p := p.mono b7
    replace q := q.mono b7
    replace B := below_trans B b7
    clear b7
    go_wp2_with fail
    refine (ladd_calls _ _ a b _ ha hb (by omega) (by omega)).mono ?_
    rintro e w8 ⟨vs, rfl, s, _, b8⟩
    replace ha := ha.mono b8
    replace hb := hb.mono b8
    replace p := p.mono b8
    replace q := q.mono b8
    replace d := d.mono b8
    replace B := below_trans B b8
    clear b8
    go_wp2_with fail
    refine (lsub_calls _ _ a b _ ha hb (by omega) (by omega) (by omega)).mono ?_
    rintro e w9 ⟨ve, rfl, e, _, b9⟩
    replace ha := ha.mono b9
    replace hb := hb.mono b9
    replace p := p.mono b9
    replace q := q.mono b9
    replace d := d.mono b9
    replace s := s.mono b9
    replace B := below_trans B b9
    clear b9
    go_wp2_with fail
    refine (lmul_calls _ _ (a + b) (a - b) _ s e (by omega) (by omega)).mono ?_
    rintro e w10 ⟨vf, rfl, f, _, b10⟩
    replace ha := ha.mono b10
    replace hb := hb.mono b10
    replace p := p.mono b10
    replace q := q.mono b10
    replace d := d.mono b10
    replace s := s.mono b10
    replace e := e.mono b10
    replace B := below_trans B b10
    clear b10
    go_wp2_with fail
    refine (lsame_calls _ _ (a * a - b * b) _ d (by rw [Nat.mul_self_sub_mul_self_eq]; exact f)).mono ?_
    rintro e w11 ⟨rfl, b11⟩
    replace ha := ha.mono b11
    replace hb := hb.mono b11
    replace p := p.mono b11
    replace q := q.mono b11
    replace d := d.mono b11
    replace s := s.mono b11
    replace e := e.mono b11
    replace f := f.mono b11
    replace B := below_trans B b11
    clear b11
    go_wp2
    go_ret
    exact ⟨rfl, B⟩

end Go.Proofs
