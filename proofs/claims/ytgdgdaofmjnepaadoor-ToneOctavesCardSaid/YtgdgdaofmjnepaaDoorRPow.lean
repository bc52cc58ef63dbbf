/- The reference: Pow, PowMod. -/
import Derived.Test.YtgdgdaofmjnepaaDoorRDiv
open Go.RowKit
namespace Go.Proofs
set_option linter.unusedVariables false

theorem pow_halves (m n bt : Nat) : m ^ (n / bt / 2) * m ^ (n / bt / 2) = m ^ (2 * (n / bt / 2)) := by rw [← Nat.pow_add, Nat.two_mul]

theorem limbs_pow_le (m n k : Nat) (hk : k ≤ n) (hb : (limbs m).length * n ≤ 100000000) : (limbs (m ^ k)).length ≤ 100000001 := by
  have h1 := limbs_length_pow m k
  have h2 := Nat.mul_le_mul_left (limbs m).length hk
  omega

set_option maxRecDepth 100000 in
theorem rpow_calls (v : Value) (m n : Nat) (z : Int) (w : World) (hv : Num w v m) (hz : z = (n : Int)) (hn : n < 2199023255552) (hb : (limbs m).length * n ≤ 100000000) (hm : (limbs m).length ≤ 100000000) :
    Calls Tryd.prog 57 #[v, .int .i64 z] w (RetNum w (m ^ n)) := by
  subst hz
  go_enter Tryd.func57, Tryd.ntmps57
  go_wp2_with fail
  refine (rof_calls 1 _ _ (by rfl) (by omega)).mono ?_
  rintro e w1 ⟨v1, rfl, hv1, hf1, b1⟩
  have hm1 := hv.mono b1
  go_wp2
  go_loopw [5, 6] (fun ov bv wr => ∃ t : Nat, t ≤ 41 ∧ bv = .int .i64 ((2 ^ t / 2 : Nat) : Int) ∧ Num wr ov (m ^ (n / 2 ^ t)) ∧ Fresh w.heap.size ov ∧ Below w.heap.size w wr) (fun _ bv _ => (intOf bv).toNat)
  case atStart =>
    refine ⟨41, Nat.le_refl _, rfl, ?_, hf1, b1⟩
    rw [Nat.div_eq_of_lt (by omega), Nat.pow_zero]
    exact hv1
  case round =>
    obtain ⟨t, ht, rfl, hov, hfr, hbel⟩ := hrel
    clear hv1
    by_cases h0 : t = 0
    · subst h0
      rw [Nat.pow_zero, Nat.div_one] at hov
      rw [show 2 ^ 0 / 2 = 0 by rfl]
      go_wp2
      go_ret
      exact ⟨_, rfl, hov, hfr, hbel⟩
    · obtain ⟨s, rfl⟩ : ∃ s, t = s + 1 := ⟨t - 1, by omega⟩
      have e1 : 2 ^ (s + 1) / 2 = 2 ^ s := by rw [Nat.pow_succ]; omega
      have e2 : n / 2 ^ (s + 1) = n / 2 ^ s / 2 := by rw [Nat.pow_succ, Nat.div_div_eq_div_mul]
      rw [e1]
      rw [e2] at hov
      have hpp := pow_halves m n (2 ^ s)
      have hbt : 2 ^ s ≤ 2 ^ 40 := Nat.pow_le_pow_right (by omega) (by omega)
      have hbt0 := Nat.two_pow_pos s
      have hdn := Nat.div_le_self n (2 ^ s)
      obtain ⟨bt, ebt⟩ : ∃ bt, 2 ^ s = bt := ⟨_, rfl⟩
      rw [ebt] at hov hpp hbt hbt0 hdn ⊢
      have hdi : (n : Int) / (bt : Int) = ((n / bt : Nat) : Int) := (Int.natCast_ediv n bt).symm
      obtain ⟨d, ed⟩ : ∃ d, n / bt = d := ⟨_, rfl⟩
      rw [ed] at hov hpp hdn hdi
      have hfin : m ^ d = m ^ (2 * (d / 2)) * m ^ (d % 2) := by rw [← Nat.pow_add]; congr 1; omega
      have hl1 := limbs_pow_le m n (d / 2) (by omega) hb
      have hl2 := limbs_pow_le m n (2 * (d / 2)) (by omega) hb
      have hb0 : ((bt : Int) == 0) = false := by simp; omega
      have Ebt := Lib.hid ebt
      have Ed := Lib.hid ed
      have Hpp := Lib.hid hpp
      have Hfin := Lib.hid hfin
      have hmw := hv.mono hbel
      clear hpp hfin ed e1 e2 ebt
      have hw1 : (0 : Int) < (bt : Int) := by omega
      go_wp2_with fail
      refine (rmul_calls _ _ _ _ _ hov hov (by omega) (by omega)).mono ?_
      rintro e w2 ⟨v2, rfl, hv2, hf2, b2⟩
      rw [Hpp.out] at hv2
      have hm2 := hmw.mono b2
      rcases Nat.mod_two_eq_zero_or_one d with hpar | hpar
      · have hpi : ((d : Int) % 2 == 1) = false := by simp; omega
        have hv2' : Num w2 v2 (m ^ d) := by rw [Hfin.out, hpar, Nat.pow_zero, Nat.mul_one]; exact hv2
        clear hpar
        go_wp2
        go_roundw
        case rel =>
          refine ⟨s, by omega, ?_, ?_, hf2.mono hbel.size, below_trans hbel b2⟩
          · rw [Ebt.out]; exact congrArg (Value.int .i64) (by omega)
          · rw [Ebt.out, Ed.out]; exact hv2'
        case measure => simp [intOf]; omega
      · have hpi : ((d : Int) % 2 == 1) = true := by simp; omega
        have hv2' : m ^ d = m ^ (2 * (d / 2)) * m := by rw [Hfin.out, hpar, Nat.pow_one]
        have Hv2 := Lib.hid hv2'
        clear hpar hv2'
        go_wp2_with fail
        refine (rmul_calls _ _ _ _ _ hv2 hm2 (by omega) (by omega)).mono ?_
        rintro e w3 ⟨v3, rfl, hv3, hf3, b3⟩
        rw [← Hv2.out] at hv3
        have b23 := below_trans b2 b3
        go_wp2
        go_roundw
        case rel =>
          refine ⟨s, by omega, ?_, ?_, hf3.mono (below_trans hbel b2).size, below_trans hbel b23⟩
          · rw [Ebt.out]; exact congrArg (Value.int .i64) (by omega)
          · rw [Ebt.out, Ed.out]; exact hv3
        case measure => simp [intOf]; omega


end Go.Proofs
