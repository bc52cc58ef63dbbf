/- The reference: Root, bit by bit. -/
import Derived.Test.YtgdgdaofmjnepaaDoorRPow
import Derived.Test.YtgdgdaofmjnepaaDoorRShift
open Go.RowKit
namespace Go.Proofs
set_option linter.unusedVariables false

set_option maxRecDepth 100000 in
theorem rroot_calls (v : Value) (a n r : Nat) (z : Int) (w : World) (hv : Num w v a) (hz : z = (n : Int)) (hn : 1 ≤ n) (hz2 : n < 9223372036854775808) (hl : (limbs a).length ≤ 1000) (hr : IsRoot a n r) :
    Calls Tryd.prog 83 #[v, .int .i64 z] w fun e w' => ∃ v, e = .returned v ∧ Num w' v r ∧ Below w.heap.size w w' := by
  subst hz
  have g1 := hv
  obtain ⟨ad1, c1, rfl, s1⟩ := g1
  by_cases ha0 : a = 0
  · have t4 : (((limbs a).length : Int) == 0) = true := by rw [ha0, limbs_zero]; rfl
    obtain rfl : r = 0 := by
      subst ha0
      exact hr.unique (root_zero n (by omega))
    have Hr := Lib.hid hr
    have h0 := num_empty (own_made w)
    have b0 := below_alloc w (.cells #[] 102)
    clear hr ha0
    go_enter Tryd.func83, Tryd.ntmps83
    go_wp2
    go_ret
    exact ⟨_, rfl, h0, b0⟩
  · have hal : (limbs a).length ≠ 0 := fun e => ha0 (limbs_eq_nil.mp (List.eq_nil_of_length_eq_zero e))
    have t4 : (((limbs a).length : Int) == 0) = false := by rw [beq_eq_false_iff_ne]; omega
    have hbs := bitlen_spec ha0
    have hbl := bitlen_le_limbs a
    have L := rbits_calls _ a _ hv (by omega)
    by_cases hbn : bitlen a ≤ n
    · obtain rfl : r = 1 := hr.unique ⟨by rw [Nat.one_pow]; omega, Nat.lt_of_lt_of_le hbs.2 (Nat.pow_le_pow_right (by omega) hbn)⟩
      have Hr := Lib.hid hr
      have Hbs := Lib.hid hbs
      clear hr hbs
      generalize bitlen a = bl at *
      go_enter Tryd.func83, Tryd.ntmps83
      go_wp2_with fail
      refine L.mono ?_
      clear L
      rintro e w' ⟨rfl, rfl⟩
      go_wp2_with fail
      refine (rof_calls 1 _ _ (by rfl) (by omega)).mono ?_
      rintro e w1 ⟨v1, rfl, hv1, hf1, b1⟩
      go_wp2
      go_ret
      exact ⟨_, rfl, hv1, b1⟩
    · have hra : r ≤ a := by
        have h1 := hr.1
        by_cases h0 : r = 0
        · omega
        · have := Nat.le_self_pow (show n ≠ 0 by omega) r
          omega
      obtain ⟨bl, ebl⟩ : ∃ bl, bl = bitlen a := ⟨_, rfl⟩
      rw [← ebl] at hbn hbl L hbs
      have Hbs := Lib.hid hbs
      have Hr := Lib.hid hr
      have Ebl := Lib.hid ebl
      clear hbs hr ebl
      obtain ⟨q, eq⟩ : ∃ q, q = (bl - 1) / n := ⟨_, rfl⟩
      have hqi : ((bl : Int) - 1) / (n : Int) = (q : Int) := by
        rw [eq, Int.natCast_ediv]
        congr 1
        omega
      have hqm := Nat.div_add_mod (bl - 1) n
      have hqlt := Nat.mod_lt (bl - 1) (show 0 < n by omega)
      rw [← eq] at hqm
      have hqle : q ≤ bl - 1 := by rw [eq]; exact Nat.div_le_self _ _
      have hstart : a < (0 + 2 ^ (q + 1)) ^ n := by
        rw [Nat.zero_add, ← Nat.pow_mul]
        refine Nat.lt_of_lt_of_le Hbs.out.2 (Nat.pow_le_pow_right (by omega) ?_)
        rw [Nat.add_mul, Nat.mul_comm q n]
        omega
      have Hstart := Lib.hid hstart
      have hn0 : ((n : Int) == 0) = false := by rw [beq_eq_false_iff_ne]; omega
      clear hqm hqlt hstart eq
      go_enter Tryd.func83, Tryd.ntmps83
      go_wp2_with fail
      refine L.mono ?_
      clear L
      rintro e w' ⟨rfl, rfl⟩
      have h0 := num_empty (own_made w)
      have b0 := below_alloc w (.cells #[] 102)
      have k1 := hv.mono b0
      obtain ⟨w1, ew1⟩ : ∃ w1 : World, w1 = w.alloc (.cells #[] 102) := ⟨_, rfl⟩
      go_wp2_with fail
      rw [← ew1] at h0 b0 k1 ⊢
      clear ew1
      have L := rbits_calls _ a _ k1 (by omega)
      rw [← Ebl.out] at L
      refine L.mono ?_
      clear L
      rintro e w' ⟨rfl, rfl⟩
      go_wp2_with fail
      simp only [hqi]
      go_loopw [5, 6] (fun rv iv wr => ∃ j r0 : Nat, j ≤ q + 1 ∧ iv = .int .i64 ((j : Int) - 1) ∧ Num wr rv r0 ∧ r0 ^ n ≤ a ∧ a < (r0 + 2 ^ j) ^ n ∧ Below w1.heap.size w1 wr)
        (fun _ iv _ => (intOf iv + 1).toNat)
      case atStart => exact ⟨q + 1, 0, Nat.le_refl _, congrArg (Value.int .i64) (by omega), h0, by rw [Nat.zero_pow (by omega)]; exact Nat.zero_le _, Hstart.out, Below.refl _ _⟩
      case round =>
        obtain ⟨j, r0, hj, rfl, hr0, hle, hlt, hbel⟩ := hrel
        have Hle := Lib.hid hle
        have Hlt := Lib.hid hlt
        have hra0 : r0 ≤ a := by
          by_cases h0 : r0 = 0
          · omega
          · have := Nat.le_self_pow (show n ≠ 0 by omega) r0
            omega
        clear hle hlt h0
        by_cases h0 : 0 < j
        · obtain ⟨i, rfl⟩ : ∃ i, j = i + 1 := ⟨j - 1, by omega⟩
          rw [show (((i + 1 : Nat) : Int) - 1) = (i : Int) from by omega]
          have hpa : 2 ^ i ≤ a := by
            have h1 := Nat.pow_le_pow_right (show 0 < 2 by omega) (show i ≤ bl - 1 by omega)
            have h2 := Hbs.out.1
            omega
          have hlp := limbs_length_mono hpa
          have hlr := limbs_length_mono hra0
          have hls := limbs_length_add r0 (2 ^ i)
          have h2i : (1 * 2 ^ i) = 2 ^ i := Nat.one_mul _
          have hl1 : (limbs 1).length ≤ 1 := limbs_length_le (by omega)
          have esum : r0 + 2 ^ (i + 1) = r0 + 2 ^ i + 2 ^ i := by rw [Nat.pow_succ]; omega
          have Esum := Lib.hid esum
          clear hpa hra0 esum
          go_wp2_with fail
          refine (rof_calls 1 _ _ (by rfl) (by omega)).mono ?_
          rintro e w2 ⟨v2, rfl, hv2, _, b2⟩
          have hr2 := hr0.mono b2
          go_wp2_with fail
          refine (rleft_calls _ 1 i _ _ hv2 rfl (by omega) (by omega)).mono ?_
          rintro e w3 ⟨v3, rfl, hv3, _, b3⟩
          rw [h2i] at hv3
          have hr3 := hr2.mono b3
          go_wp2_with fail
          refine (radd_calls _ _ r0 (2 ^ i) _ hr3 hv3 (by omega) (by omega)).mono ?_
          rintro e w4 ⟨v4, rfl, hv4, _, b4⟩
          have hr4 := hr3.mono b4
          obtain ⟨s, es⟩ : ∃ s, r0 + 2 ^ i = s := ⟨_, rfl⟩
          rw [es] at hv4 hls
          have Es := Lib.hid es
          have hmul : (limbs s).length * n ≤ 1001 * 32000 := Nat.mul_le_mul (by omega) (by omega)
          have hlps := limbs_length_pow s n
          clear es hv3 hr2 hr3 hv2
          go_wp2_with fail
          refine (rpow_calls _ s n _ _ hv4 rfl (by omega) (by omega) (by omega)).mono ?_
          rintro e w5 ⟨v5, rfl, hv5, _, b5⟩
          have hr5 := hr4.mono b5
          have hv45 := hv4.mono b5
          have b15 := below_trans hbel (below_trans (below_trans b2 b3) (below_trans b4 b5))
          have ka := k1.mono b15
          obtain ⟨p, ep⟩ : ∃ p, s ^ n = p := ⟨_, rfl⟩
          rw [ep] at hv5 hlps
          have Ep := Lib.hid ep
          clear ep hr4 hv4 b2 b3 b4 b5 hbel
          by_cases hpa : p ≤ a
          · have t9 : cmpInt p a ≤ 0 := by unfold cmpInt; split <;> (try split) <;> omega
            go_wp2_with fail
            refine (rcmp_calls _ _ p a _ _ hv5 ka rfl (by omega) (by omega)).mono ?_
            rintro e w6 ⟨rfl, b6⟩
            have hv6 := hv45.mono b6
            go_wp2
            go_roundw
            case rel => exact ⟨i, s, by omega, rfl, hv6, by rw [Ep.out]; exact hpa, by rw [← Es.out, ← Esum.out]; exact Hlt.out, below_trans b15 b6⟩
            case measure => simp [intOf]
          · have t9 : ¬ (1 : Int) ≤ 0 := by omega
            go_wp2_with fail
            refine (rcmp_calls _ _ p a _ _ hv5 ka (cmpInt_gt (by omega)) (by omega) (by omega)).mono ?_
            rintro e w6 ⟨rfl, b6⟩
            have hr6 := hr5.mono b6
            go_wp2
            go_roundw
            case rel => exact ⟨i, r0, by omega, rfl, hr6, Hle.out, by rw [Es.out, Ep.out]; omega, below_trans b15 b6⟩
            case measure => simp [intOf]
        · obtain rfl : j = 0 := by omega
          have e := Hr.out.unique ⟨Hle.out, by have := Hlt.out; rwa [Nat.pow_zero] at this⟩
          rw [← e] at hr0
          clear e
          go_wp2
          go_ret
          exact ⟨_, rfl, hr0, below_trans b0 hbel⟩

end Go.Proofs
