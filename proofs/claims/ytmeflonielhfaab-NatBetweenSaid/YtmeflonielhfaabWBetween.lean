/- The walk of the law NatBetween: whatever comes in, it returns true and changes nothing that was there. -/
import Derived.Test.YtmeflonielhfaabMore
import Derived.Test.YtmeflonielhfaabGcd
import Derived.Test.YtmeflonielhfaabRoot
open Go.RowKit
namespace Go.Proofs
set_option linter.unusedVariables false

theorem In.short {w v xs} (h : In w v xs) (n : Nat) : (limbs (val (xs.take n))).length ≤ n := by
  obtain ⟨ad, c, rfl, h1, h2, h3, h4⟩ := h
  have := limbs_length_val (xs.take n) (fun x hx => h3 x (List.mem_of_mem_take hx))
  rw [List.length_take] at this
  omega

theorem and_fifteen (z : Int) (z0 : -9223372036854775808 ≤ z) (z1 : z < 9223372036854775808) : ∃ k : Nat, k < 16 ∧ bits BinOp.and IntKind.i64 z 15 = (k : Int) := by
  refine ⟨(BitVec.ofInt 64 z).toNat &&& 15, Nat.lt_of_le_of_lt Nat.and_le_right (by omega), ?_⟩
  have hlt : (BitVec.ofInt 64 z).toNat &&& 15 < 16 := Nat.lt_of_le_of_lt Nat.and_le_right (by omega)
  have e : (BitVec.ofInt 64 z &&& BitVec.ofInt 64 15).toNat = (BitVec.ofInt 64 z).toNat &&& 15 := by
    rw [BitVec.toNat_and]
    rfl
  show IntKind.i64.wrap ((BitVec.ofInt 64 z &&& BitVec.ofInt 64 15).toNat : Int) = _
  rw [e, IntKind.wrap_i64]
  omega

set_option maxRecDepth 100000 in
set_option maxHeartbeats 1000000 in
theorem walk_between (v1 : Value) (xs : List Nat) (z : Int) (w : World) (hx0 : In w v1 xs) (z0 : -9223372036854775808 ≤ z) (z1 : z < 9223372036854775808) :
    Calls Try.prog 8 #[v1, .int .i64 z] w (RetTrue w) := by
  have hx := hx0
  obtain ⟨k, hk, hand⟩ := and_fifteen z z0 z1
  clear z0 z1
  go_enter Try.func8, Try.ntmps8
  go_wp2_with fail
  refine (whole_calls _ xs 40 _ _ hx (by rfl) (by omega)).mono ?_
  rintro e w1 ⟨va, rfl, ha, _, b1⟩
  replace hx := hx.mono b1
  have B := b1
  clear b1
  have la := In.short hx0 40
  generalize val (xs.take 40) = a at *
  clear hx hx0
  obtain ⟨r, hr⟩ := root_exists (k + 1) (by omega) a
  have hc1 : cmpInt (r ^ (k + 1)) (a ^ 1) ≤ 0 := by rw [Nat.pow_one]; have := hr.1; unfold cmpInt; split <;> (try split) <;> omega
  have hc2 : cmpInt ((r + 1) ^ (k + 1)) (a ^ 1) = 1 := by rw [Nat.pow_one]; exact cmpInt_gt hr.2
  have hra : r ≤ a := by
    have h1 := hr.1
    by_cases h0 : r = 0
    · omega
    · have := Nat.le_self_pow (show k + 1 ≠ 0 by omega) r
      omega
  have lr := limbs_length_mono hra
  have lr1 := limbs_length_add r 1
  have l1 : (limbs 1).length ≤ 1 := limbs_length_le (by omega)
  have m1 : (limbs r).length * (k + 1) ≤ 40 * 16 := Nat.mul_le_mul (by omega) (by omega)
  have m2 : (limbs (r + 1)).length * (k + 1) ≤ 41 * 16 := Nat.mul_le_mul (by omega) (by omega)
  have Hr := Lib.hid hr
  have Hc2 := Lib.hid hc2
  obtain ⟨c, ec⟩ : ∃ c, cmpInt (r ^ (k + 1)) (a ^ 1) = c := ⟨_, rfl⟩
  rw [ec] at hc1
  have Ec := Lib.hid ec
  clear hr hc2 ec hra
  go_wp2_with fail
  refine (root_ok _ a (k + 1) r _ _ ha (by omega) (by omega) (by omega) (by omega) Hr.out).mono ?_
  rintro e w2 ⟨vr, rfl, hr, _, b2⟩
  replace ha := ha.mono b2
  replace B := below_trans B b2
  clear b2
  have F := fits_ok _ _ r a (k + 1) 1 ((k : Int) + 1) 1 _ hr ha (by omega) (by rfl) (by omega) (by omega) (by omega) (by omega) (by omega)
  rw [Ec.out] at F
  go_wp2_with fail
  refine (F).mono ?_
  rintro e w3 ⟨rfl, b3⟩
  replace ha := ha.mono b3
  replace hr := hr.mono b3
  replace B := below_trans B b3
  clear b3
  clear F
  go_wp2_with fail
  refine (of_calls 1 _ _ (by rfl) (by omega)).mono ?_
  rintro e w4 ⟨vo, rfl, ho, _, b4⟩
  replace ha := ha.mono b4
  replace hr := hr.mono b4
  replace B := below_trans B b4
  clear b4
  go_wp2_with fail
  refine (ladd_calls _ _ r 1 _ hr ho (by omega) (by omega)).mono ?_
  rintro e w5 ⟨vs, rfl, hs, _, b5⟩
  replace ha := ha.mono b5
  replace hr := hr.mono b5
  replace ho := ho.mono b5
  replace B := below_trans B b5
  clear b5
  have F := fits_ok _ _ (r + 1) a (k + 1) 1 ((k : Int) + 1) 1 _ hs ha (by omega) (by rfl) (by omega) (by omega) (by omega) (by omega) (by omega)
  rw [Hc2.out] at F
  go_wp2_with fail
  refine (F).mono ?_
  rintro e w6 ⟨rfl, b6⟩
  replace ha := ha.mono b6
  replace hr := hr.mono b6
  replace ho := ho.mono b6
  replace hs := hs.mono b6
  replace B := below_trans B b6
  clear b6
  clear F
  go_wp2_with fail
  refine (lives_calls _).mono ?_
  rintro e w7 ⟨rfl, b7⟩
  replace ha := ha.mono b7
  replace hr := hr.mono b7
  replace ho := ho.mono b7
  replace hs := hs.mono b7
  replace B := below_trans B b7
  clear b7
  go_wp2
  go_ret
  exact ⟨rfl, B⟩

end Go.Proofs
