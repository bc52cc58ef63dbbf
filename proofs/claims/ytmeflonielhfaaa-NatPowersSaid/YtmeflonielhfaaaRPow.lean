/- The reference: Pow, PowMod. -/
import Derived.Test.YtmeflonielhfaaaRDiv
open Go.RowKit
namespace Go.Proofs
set_option linter.unusedVariables false

theorem pow_halves (m n bt : Nat) : m ^ (n / bt / 2) * m ^ (n / bt / 2) = m ^ (2 * (n / bt / 2)) := by rw [← Nat.pow_add, Nat.two_mul]

theorem limbs_pow_le (m n k : Nat) (hk : k ≤ n) (hb : (limbs m).length * n ≤ 100000000) : (limbs (m ^ k)).length ≤ 100000001 := by
  have h1 := limbs_length_pow m k
  have h2 := Nat.mul_le_mul_left (limbs m).length hk
  omega

set_option maxRecDepth 100000 in
theorem rpow_calls (v : Value) (m n : Nat) (z : Int) (w : World) (hv : Num w v m) (hz : z = (n : Int)) (hn : n < 2199023255552) (hb : (limbs m).length * n ≤ 100000000) (hm : (limbs m).length ≤ 100000000) :
    Calls Try.prog 53 #[v, .int .i64 z] w (RetNum w (m ^ n)) := by
  subst hz
  go_enter Try.func53, Try.ntmps53
  go_wp2_with fail
  refine (rof_calls 1 _ _ (by rfl) (by omega)).mono ?_
  rintro e w1 ⟨v1, rfl, hv1, hf1, b1⟩
  have hm1 := hv.mono b1
  go_wp2
  go_loopw [5, 6] (fun ov bv wr => ∃ t : Nat, t ≤ 41 ∧ bv = .int .i64 ((2 ^ t / 2 : Nat) : Int) ∧ Num wr ov (m ^ (n / 2 ^ t)) ∧ Fresh w.heap.size ov ∧ Below w.heap.size w wr) (fun _ bv _ => (intOf bv).toNat)
  case atStart =>
    refine ⟨41, Nat.le_refl _, rfl, ?_, hf1, b1⟩
    rw [Nat.div_eq_of_lt (by omega), Nat.pow_zero]
    exact hv1
  case round =>
    obtain ⟨t, ht, rfl, hov, hfr, hbel⟩ := hrel
    clear hv1
    by_cases h0 : t = 0
    · subst h0
      rw [Nat.pow_zero, Nat.div_one] at hov
      rw [show 2 ^ 0 / 2 = 0 by rfl]
      go_wp2
      go_ret
      exact ⟨_, rfl, hov, hfr, hbel⟩
    · obtain ⟨s, rfl⟩ : ∃ s, t = s + 1 := ⟨t - 1, by omega⟩
      have e1 : 2 ^ (s + 1) / 2 = 2 ^ s := by rw [Nat.pow_succ]; omega
      have e2 : n / 2 ^ (s + 1) = n / 2 ^ s / 2 := by rw [Nat.pow_succ, Nat.div_div_eq_div_mul]
      rw [e1]
      rw [e2] at hov
      have hpp := pow_halves m n (2 ^ s)
      have hbt : 2 ^ s ≤ 2 ^ 40 := Nat.pow_le_pow_right (by omega) (by omega)
      have hbt0 := Nat.two_pow_pos s
      have hdn := Nat.div_le_self n (2 ^ s)
      obtain ⟨bt, ebt⟩ : ∃ bt, 2 ^ s = bt := ⟨_, rfl⟩
      rw [ebt] at hov hpp hbt hbt0 hdn ⊢
      have hdi : (n : Int) / (bt : Int) = ((n / bt : Nat) : Int) := (Int.natCast_ediv n bt).symm
      obtain ⟨d, ed⟩ : ∃ d, n / bt = d := ⟨_, rfl⟩
      rw [ed] at hov hpp hdn hdi
      have hfin : m ^ d = m ^ (2 * (d / 2)) * m ^ (d % 2) := by rw [← Nat.pow_add]; congr 1; omega
      have hl1 := limbs_pow_le m n (d / 2) (by omega) hb
      have hl2 := limbs_pow_le m n (2 * (d / 2)) (by omega) hb
      have hb0 : ((bt : Int) == 0) = false := by simp; omega
      have Ebt := Lib.hid ebt
      have Ed := Lib.hid ed
      have Hpp := Lib.hid hpp
      have Hfin := Lib.hid hfin
      have hmw := hv.mono hbel
      clear hpp hfin ed e1 e2 ebt
      have hw1 : (0 : Int) < (bt : Int) := by omega
      go_wp2_with fail
      refine (rmul_calls _ _ _ _ _ hov hov (by omega) (by omega)).mono ?_
      rintro e w2 ⟨v2, rfl, hv2, hf2, b2⟩
      rw [Hpp.out] at hv2
      have hm2 := hmw.mono b2
      rcases Nat.mod_two_eq_zero_or_one d with hpar | hpar
      · have hpi : ((d : Int) % 2 == 1) = false := by simp; omega
        have hv2' : Num w2 v2 (m ^ d) := by rw [Hfin.out, hpar, Nat.pow_zero, Nat.mul_one]; exact hv2
        clear hpar
        go_wp2
        go_roundw
        case rel =>
          refine ⟨s, by omega, ?_, ?_, hf2.mono hbel.size, below_trans hbel b2⟩
          · rw [Ebt.out]; exact congrArg (Value.int .i64) (by omega)
          · rw [Ebt.out, Ed.out]; exact hv2'
        case measure => simp [intOf]; omega
      · have hpi : ((d : Int) % 2 == 1) = true := by simp; omega
        have hv2' : m ^ d = m ^ (2 * (d / 2)) * m := by rw [Hfin.out, hpar, Nat.pow_one]
        have Hv2 := Lib.hid hv2'
        clear hpar hv2'
        go_wp2_with fail
        refine (rmul_calls _ _ _ _ _ hv2 hm2 (by omega) (by omega)).mono ?_
        rintro e w3 ⟨v3, rfl, hv3, hf3, b3⟩
        rw [← Hv2.out] at hv3
        have b23 := below_trans b2 b3
        go_wp2
        go_roundw
        case rel =>
          refine ⟨s, by omega, ?_, ?_, hf3.mono (below_trans hbel b2).size, below_trans hbel b23⟩
          · rw [Ebt.out]; exact congrArg (Value.int .i64) (by omega)
          · rw [Ebt.out, Ed.out]; exact hv3
        case measure => simp [intOf]; omega

theorem powmod_sq (a e m i : Nat) : (a ^ (e / 2 ^ (i + 1)) % m) * (a ^ (e / 2 ^ (i + 1)) % m) % m = a ^ (2 * (e / 2 ^ (i + 1))) % m := by
  rw [← Nat.mul_mod, ← Nat.pow_add, Nat.two_mul]

theorem powmod_mul (a e m i : Nat) (hb : e / 2 ^ i % 2 = 1) : (a ^ (2 * (e / 2 ^ (i + 1))) % m) * (a % m) % m = a ^ (e / 2 ^ i) % m := by
  rw [← Nat.mul_mod, ← Nat.pow_succ]
  congr 2
  have := bit_step e i
  omega

theorem powmod_skip (a e m i : Nat) (hb : e / 2 ^ i % 2 = 0) : a ^ (2 * (e / 2 ^ (i + 1))) % m = a ^ (e / 2 ^ i) % m := by
  congr 2
  have := bit_step e i
  omega

set_option maxRecDepth 100000 in
theorem rpowmod_calls (v1 v2 v3 : Value) (a e m : Nat) (w : World) (h1 : Num w v1 a) (h2 : Num w v2 e) (h3 : Num w v3 m) (hm0 : m ≠ 0) (l1 : (limbs a).length ≤ 1000000) (l2 : (limbs e).length ≤ 1000000) (l3 : (limbs m).length ≤ 1000000) :
    Calls Try.prog 39 #[v1, v2, v3] w fun en w' => ∃ v, en = .returned v ∧ Num w' v (a ^ e % m) ∧ Below w.heap.size w w' := by
  have hbs : e < 2 ^ bitlen e := by
    by_cases h0 : e = 0
    · subst h0; decide
    · exact (bitlen_spec h0).2
  have hbl := bitlen_le_limbs e
  have hlm : ∀ x : Nat, (limbs (x % m)).length ≤ (limbs m).length := fun x => limbs_length_mono (Nat.le_of_lt (Nat.mod_lt _ (by omega)))
  have hl1 : (limbs 1).length ≤ 1 := limbs_length_le (by omega)
  go_enter Try.func39, Try.ntmps39
  go_wp2_with fail
  refine (rof_calls 1 _ _ (by rfl) (by omega)).mono ?_
  rintro en w1 ⟨vo, rfl, ho, _, b1⟩
  have k1 := h1.mono b1
  have k2 := h2.mono b1
  have k3 := h3.mono b1
  go_wp2_with fail
  refine (rdivmod_calls _ _ 1 m _ ho k3 hm0 (by omega) (by omega)).mono ?_
  rintro en w2 ⟨vq, vr, rfl, _, hr, b2⟩
  have k1 := k1.mono b2
  have k2 := k2.mono b2
  have k3 := k3.mono b2
  go_wp2_with fail
  refine (rdivmod_calls _ _ a m _ k1 k3 hm0 (by omega) (by omega)).mono ?_
  rintro en w3 ⟨vq2, va, rfl, _, ha, b3⟩
  have k2 := k2.mono b3
  have k3 := k3.mono b3
  have hr := hr.mono b3
  have b13 := below_trans b1 (below_trans b2 b3)
  clear ho h1 h2 h3 b1 b2 b3
  obtain ⟨bl, ebl⟩ : ∃ bl, bl = bitlen e := ⟨_, rfl⟩
  have L := rbits_calls _ e _ k2 (by omega)
  rw [← ebl] at L hbs hbl
  have Hbs := Lib.hid hbs
  clear ebl hbs
  go_wp2_with fail
  refine L.mono ?_
  clear L
  rintro en w' ⟨rfl, rfl⟩
  go_wp2_with fail
  go_loopw [8, 9] (fun ov iv wr => ∃ j : Nat, j ≤ bl ∧ iv = .int .i64 ((j : Int) - 1) ∧ Num wr ov (a ^ (e / 2 ^ j) % m) ∧ Below w.heap.size w wr ∧ Num wr va (a % m) ∧ Num wr v2 e ∧ Num wr v3 m)
    (fun _ iv _ => (intOf iv + 1).toNat)
  case atStart => exact ⟨bl, Nat.le_refl _, rfl, by rw [Nat.div_eq_of_lt Hbs.out, Nat.pow_zero]; exact hr, b13, ha, k2, k3⟩
  case round =>
    obtain ⟨j, hj, rfl, ho, hbel, ka, ke, km⟩ := hrel
    clear hr b13 ha k2 k3
    by_cases h0 : 0 < j
    · obtain ⟨i, rfl⟩ : ∃ i, j = i + 1 := ⟨j - 1, by omega⟩
      rw [show (((i + 1 : Nat) : Int) - 1) = (i : Int) from by omega]
      have hsq := powmod_sq a e m i
      have hskip := powmod_skip a e m i
      have hmul := powmod_mul a e m i
      have lo := hlm (a ^ (e / 2 ^ (i + 1)))
      have lo2 := hlm (a ^ (2 * (e / 2 ^ (i + 1))))
      have lam := hlm a
      obtain ⟨o, eo⟩ : ∃ x, a ^ (e / 2 ^ (i + 1)) % m = x := ⟨_, rfl⟩
      obtain ⟨o2, eo2⟩ : ∃ x, a ^ (2 * (e / 2 ^ (i + 1))) % m = x := ⟨_, rfl⟩
      obtain ⟨o3, eo3⟩ : ∃ x, a ^ (e / 2 ^ i) % m = x := ⟨_, rfl⟩
      obtain ⟨am, eam⟩ : ∃ x, a % m = x := ⟨_, rfl⟩
      rw [eo] at ho hsq lo
      rw [eo2] at hsq hskip hmul lo2
      rw [eo3] at hskip hmul
      rw [eam] at ka hmul lam
      have Eo3 := Lib.hid eo3
      have Eam := Lib.hid eam
      have Hsq := Lib.hid hsq
      have Hskip := Lib.hid hskip
      have Hmul := Lib.hid hmul
      have hl1 := limbs_length_mul o o
      have hl2 := limbs_length_mul o2 am
      clear eo eo2 eo3 eam hsq hskip hmul
      go_wp2_with fail
      refine (rmul_calls _ _ _ _ _ ho ho (by omega) (by omega)).mono ?_
      rintro en w4 ⟨v4, rfl, hv4, _, b4⟩
      have ka := ka.mono b4
      have ke := ke.mono b4
      have km := km.mono b4
      go_wp2_with fail
      refine (rdivmod_calls _ _ _ m _ hv4 km hm0 (by omega) (by omega)).mono ?_
      rintro en w5 ⟨v5, v6, rfl, _, hv6, b5⟩
      rw [Hsq.out] at hv6
      have ka := ka.mono b5
      have ke := ke.mono b5
      have km := km.mono b5
      have L2 := rbit_calls _ e i i w5 ke rfl (by omega)
      obtain ⟨bit, ebit⟩ : ∃ x, e / 2 ^ i % 2 = x := ⟨_, rfl⟩
      have hbit : bit = 0 ∨ bit = 1 := by omega
      rw [ebit] at L2
      have Ebit := Lib.hid ebit
      clear ebit hv4
      rcases hbit with rfl | rfl
      · have o23 := Hskip.out Ebit.out
        rw [o23] at hv6
        clear o23
        go_wp2_with fail
        refine L2.mono ?_
        clear L2
        rintro en w' ⟨rfl, rfl⟩
        go_wp2
        go_roundw
        case rel => exact ⟨i, by omega, rfl, by rw [Eo3.out]; exact hv6, below_trans hbel (below_trans b4 b5), by rw [Eam.out]; exact ka, ke, km⟩
        case measure => simp [intOf]
      · have o23 := Hmul.out Ebit.out
        have O23 := Lib.hid o23
        clear o23
        go_wp2_with fail
        refine L2.mono ?_
        clear L2
        rintro en w' ⟨rfl, rfl⟩
        go_wp2_with fail
        refine (rmul_calls _ _ _ _ _ hv6 ka (by omega) (by omega)).mono ?_
        rintro en w6 ⟨v7, rfl, hv7, _, b6⟩
        have ka := ka.mono b6
        have ke := ke.mono b6
        have km := km.mono b6
        go_wp2_with fail
        refine (rdivmod_calls _ _ _ m _ hv7 km hm0 (by omega) (by omega)).mono ?_
        rintro en w8 ⟨v8, v9, rfl, _, hv9, b8⟩
        rw [O23.out] at hv9
        have ka := ka.mono b8
        have ke := ke.mono b8
        have km := km.mono b8
        go_wp2
        go_roundw
        case rel => exact ⟨i, by omega, rfl, by rw [Eo3.out]; exact hv9, below_trans hbel (below_trans (below_trans b4 b5) (below_trans b6 b8)), by rw [Eam.out]; exact ka, ke, km⟩
        case measure => simp [intOf]
    · obtain rfl : j = 0 := by omega
      rw [Nat.pow_zero, Nat.div_one] at ho
      go_wp2
      go_ret
      exact ⟨_, rfl, ho, hbel⟩

end Go.Proofs
