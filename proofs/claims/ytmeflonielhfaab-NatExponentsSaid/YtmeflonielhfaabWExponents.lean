/- The walk of the law NatExponents: whatever comes in, it returns true and changes nothing that was there. -/
import Derived.Test.YtmeflonielhfaabMore
import Derived.Test.YtmeflonielhfaabGcd
import Derived.Test.YtmeflonielhfaabCompare
open Go.RowKit
namespace Go.Proofs
set_option linter.unusedVariables false

theorem In.short {w v xs} (h : In w v xs) (n : Nat) : (limbs (val (xs.take n))).length ≤ n := by
  obtain ⟨ad, c, rfl, h1, h2, h3, h4⟩ := h
  have := limbs_length_val (xs.take n) (fun x hx => h3 x (List.mem_of_mem_take hx))
  rw [List.length_take] at this
  omega

/-- a cell that holds a value -/
def Held (w : World) (p : Addr) (v : Value) : Prop := w.cell? p = some v
theorem Held.mono {w w' : World} {p : Addr} {v : Value} (h : Held w p v) (hb : Below w.heap.size w w') : Held w' p v := (hb.cell (p := p) (lt_cell h)).trans h

theorem and_fifteen (z : Int) (z0 : -9223372036854775808 ≤ z) (z1 : z < 9223372036854775808) : ∃ k : Nat, k < 16 ∧ bits BinOp.and IntKind.i64 z 15 = (k : Int) := by
  refine ⟨(BitVec.ofInt 64 z).toNat &&& 15, Nat.lt_of_le_of_lt Nat.and_le_right (by omega), ?_⟩
  have hlt : (BitVec.ofInt 64 z).toNat &&& 15 < 16 := Nat.lt_of_le_of_lt Nat.and_le_right (by omega)
  have e : (BitVec.ofInt 64 z &&& BitVec.ofInt 64 15).toNat = (BitVec.ofInt 64 z).toNat &&& 15 := by
    rw [BitVec.toNat_and]
    rfl
  show IntKind.i64.wrap ((BitVec.ofInt 64 z &&& BitVec.ofInt 64 15).toNat : Int) = _
  rw [e, IntKind.wrap_i64]
  omega

set_option maxRecDepth 100000 in
set_option maxHeartbeats 1000000 in
theorem walk_exponents (v1 v2 : Value) (xs ys : List Nat) (z0 z1 : Int) (w : World) (hx0 : In w v1 xs) (hy0 : In w v2 ys) (a0 : -9223372036854775808 ≤ z0) (a1 : z0 < 9223372036854775808) (b0 : -9223372036854775808 ≤ z1) (b1 : z1 < 9223372036854775808) :
    Calls Try.prog 9 #[v1, v2, .agg #[.int .i64 z0, .int .i64 z1]] w (RetTrue w) := by
  have hx := hx0
  have hy := hy0
  obtain ⟨n, hn, and0⟩ := and_fifteen z0 a0 a1
  obtain ⟨m, hm, and1⟩ := and_fifteen z1 b0 b1
  clear a0 a1 b0 b1
  go_enter Try.func9, Try.ntmps9
  have B := below_alloc w (.cells #[.int .i64 z0, .int .i64 z1] 58)
  replace hx := hx.mono B
  replace hy := hy.mono B
  have H0 : Held _ ⟨w.heap.size, 0, none⟩ (.int .i64 z0) := cells_two w (.int .i64 z0) (.int .i64 z1) 58 0 (by omega)
  have H1 : Held _ ⟨w.heap.size, 1, none⟩ (.int .i64 z1) := cells_two w (.int .i64 z0) (.int .i64 z1) 58 1 (by omega)
  go_wp2_with fail
  refine (whole_calls _ xs 4 _ _ hx (by rfl) (by omega)).mono ?_
  rintro e w1 ⟨va, rfl, ha, _, b1⟩
  replace hx := hx.mono b1
  replace hy := hy.mono b1
  replace H0 := H0.mono b1
  replace H1 := H1.mono b1
  replace B := below_trans B b1
  clear b1
  go_wp2_with fail
  refine (whole_calls _ ys 4 _ _ hy (by rfl) (by omega)).mono ?_
  rintro e w2 ⟨vk, rfl, hk, _, b2⟩
  replace hy := hy.mono b2
  replace H0 := H0.mono b2
  replace H1 := H1.mono b2
  replace ha := ha.mono b2
  replace B := below_trans B b2
  clear b2
  have la := In.short hx0 4
  have lk := In.short hy0 4
  generalize val (xs.take 4) = a at *
  generalize val (ys.take 4) = k at *
  clear hx hy hx0 hy0
  have c0 : _ = some _ := H0
  have c1 : _ = some _ := H1
  clear H0 H1
  go_wp2_with fail
  go_quiet (fail)
  clear c0 c1 and0 and1
  have bq := below_drewN' w2 nq
  replace ha := ha.mono bq
  replace hk := hk.mono bq
  replace B := below_trans B bq
  clear bq
  generalize w2.drewN nq = wd at *
  have m1 : (limbs a).length * n ≤ 4 * 16 := Nat.mul_le_mul (by omega) (by omega)
  have m2 : (limbs a).length * m ≤ 4 * 16 := Nat.mul_le_mul (by omega) (by omega)
  have m3 : (limbs a).length * (n + m) ≤ 4 * 32 := Nat.mul_le_mul (by omega) (by omega)
  have p1 := limbs_length_pow a n
  have p2 := limbs_length_pow a m
  have p3 := limbs_length_pow a (n + m)
  have kn : IntKind.i64.wrap ((n : Int) + (m : Int)) = ((n + m : Nat) : Int) := by rw [IntWalk.i64_in _ (by omega)]; omega
  go_wp2_with fail
  refine (pow_ok _ a n _ _ ha (by rfl) (by omega) (.inr (by omega)) (by omega)).mono ?_
  rintro e w3 ⟨vp, rfl, hp, _, b3⟩
  replace ha := ha.mono b3
  replace hk := hk.mono b3
  replace B := below_trans B b3
  clear b3
  go_wp2_with fail
  refine (pow_ok _ a m _ _ ha (by rfl) (by omega) (.inr (by omega)) (by omega)).mono ?_
  rintro e w4 ⟨vq, rfl, hq, _, b4⟩
  replace ha := ha.mono b4
  replace hk := hk.mono b4
  replace hp := hp.mono b4
  replace B := below_trans B b4
  clear b4
  go_wp2_with fail
  refine (pow_ok _ a (n + m) _ _ ha (by omega) (by omega) (.inr (by omega)) (by omega)).mono ?_
  rintro e w5 ⟨vs, rfl, hs, _, b5⟩
  replace ha := ha.mono b5
  replace hk := hk.mono b5
  replace hp := hp.mono b5
  replace hq := hq.mono b5
  replace B := below_trans B b5
  clear b5
  go_wp2_with fail
  refine (lmul_calls _ _ (a ^ n) (a ^ m) _ hp hq (by omega) (by omega)).mono ?_
  rintro e w6 ⟨vt, rfl, ht, _, b6⟩
  replace ha := ha.mono b6
  replace hk := hk.mono b6
  replace hp := hp.mono b6
  replace hq := hq.mono b6
  replace hs := hs.mono b6
  replace B := below_trans B b6
  clear b6
  go_wp2_with fail
  refine (lsame_calls _ _ (a ^ (n + m)) _ (by rw [Nat.pow_add]; exact ht) hs).mono ?_
  rintro e w7 ⟨rfl, b7⟩
  replace ha := ha.mono b7
  replace hk := hk.mono b7
  replace hp := hp.mono b7
  replace hq := hq.mono b7
  replace hs := hs.mono b7
  replace ht := ht.mono b7
  replace B := below_trans B b7
  clear b7
  clear hp hq ht
  go_wp2_with fail
  refine (lives_calls _).mono ?_
  rintro e w8 ⟨rfl, b8⟩
  replace ha := ha.mono b8
  replace hk := hk.mono b8
  replace hs := hs.mono b8
  replace B := below_trans B b8
  clear b8
  obtain ⟨adk, capk, rfl, slk⟩ := hk
  have hk : Num _ (.slice adk (limbs (k)).length capk) (k) := ⟨_, _, rfl, slk⟩
  clear slk
  by_cases hk0 : k = 0
  · have t1 : (((limbs k).length : Int) == 0) = true := by rw [(len_zero_iff k).mpr hk0]; rfl
    clear hk0
    go_wp2
    go_ret
    exact ⟨rfl, B⟩
  · have t1 : (((limbs k).length : Int) == 0) = false := by
      rw [beq_eq_false_iff_ne]
      intro h
      exact hk0 ((len_zero_iff k).mp (by omega))
    have lnm : (limbs (n + m)).length ≤ 1 := limbs_length_le (by omega)
    go_wp2_with fail
    refine (of_calls (n + m) _ _ (by omega) (by omega)).mono ?_
    rintro e w9 ⟨vo, rfl, ho, _, b9⟩
    replace ha := ha.mono b9
    replace hk := hk.mono b9
    replace hs := hs.mono b9
    replace B := below_trans B b9
    clear b9
    go_wp2_with fail
    refine (powmod_ok _ _ _ a (n + m) k _ ha ho hk (by omega) hk0).mono ?_
    rintro e w10 ⟨vt, rfl, ht, _, b10⟩
    replace ha := ha.mono b10
    replace hk := hk.mono b10
    replace hs := hs.mono b10
    replace ho := ho.mono b10
    replace B := below_trans B b10
    clear b10
    go_wp2_with fail
    refine (divmod_ok _ _ (a ^ (n + m)) k _ hs hk (by omega) hk0).mono ?_
    rintro e w11 ⟨vx, vr, rfl, _, hr, _, _, _, b11⟩
    replace ha := ha.mono b11
    replace hk := hk.mono b11
    replace hs := hs.mono b11
    replace ho := ho.mono b11
    replace ht := ht.mono b11
    replace B := below_trans B b11
    clear b11
    go_wp2_with fail
    refine (lsame_calls _ _ (a ^ (n + m) % k) _ ht hr).mono ?_
    rintro e w12 ⟨rfl, b12⟩
    replace ha := ha.mono b12
    replace hk := hk.mono b12
    replace hs := hs.mono b12
    replace ho := ho.mono b12
    replace ht := ht.mono b12
    replace hr := hr.mono b12
    replace B := below_trans B b12
    clear b12
    go_wp2
    go_ret
    exact ⟨rfl, B⟩

end Go.Proofs
