/- The reference: Left, Right. -/
import Derived.Test.YtgdgdaofmjnepaaDoorROver
import Derived.Test.YtgdgdaofmjnepaaDoorDown
open Go.RowKit
namespace Go.Proofs
set_option linter.unusedVariables false

theorem pow_lt_u32 {k : Nat} (h : k < 32) : 2 ^ k < 4294967296 := by
  have := Nat.pow_lt_pow_right (show 1 < 2 by omega) h
  omega
theorem pow_lt_u31 {k : Nat} (h : k < 31) : 2 ^ k * 2 < 4294967296 := by
  have := pow_lt_u32 (show k + 1 < 32 by omega)
  rwa [Nat.pow_succ] at this

theorem val_zeros_append (k : Nat) (xs : List Nat) : val (List.replicate k 0 ++ xs) = 4294967296 ^ k * val xs := by
  rw [val_append, val_replicate, List.length_replicate, Nat.zero_add]

theorem left_val (m n : Nat) : 4294967296 ^ (n / 32) * m * 2 ^ (n % 32) = m * 2 ^ n := by
  have e : (4294967296 : Nat) ^ (n / 32) * 2 ^ (n % 32) = 2 ^ n := by
    rw [show (4294967296 : Nat) = 2 ^ 32 by rfl, ← Nat.pow_mul, ← Nat.pow_add]
    congr 1
    omega
  rw [← e]
  generalize 4294967296 ^ (n / 32) = p
  generalize 2 ^ (n % 32) = q
  grind

set_option maxRecDepth 100000 in
theorem rleft_calls (v : Value) (m n : Nat) (z : Int) (w : World) (hv : Num w v m) (hz : z = (n : Int)) (hn : n ≤ 3200000000) (hb : (limbs m).length ≤ 100000000) :
    Calls Tryd.prog 106 #[v, .int .i64 z] w (RetNum w (m * 2 ^ n)) := by
  subst hz
  obtain ⟨ad, c, rfl, hs⟩ := hv
  have hlv := left_val m n
  have hvm := val_limbs m
  obtain ⟨r, er⟩ : ∃ r, m * 2 ^ n = r := ⟨_, rfl⟩
  rw [er] at hlv ⊢
  have Hlv := Lib.hid hlv
  have Hvm := Lib.hid hvm
  have hlm : (limbs (4294967296 ^ (n / 32) * m)).length ≤ 300000000 := by
    have := limbs_length_val (List.replicate (n / 32) 0 ++ limbs m) (by
      intro x hx
      rcases List.mem_append.1 hx with h | h
      · rw [List.mem_replicate] at h; omega
      · exact limbs_lt m x h)
    rw [val_zeros_append, val_limbs, List.length_append, List.length_replicate] at this
    omega
  have Hlm := Lib.hid hlm
  clear hlv hvm er hlm
  generalize limbs m = xs at *
  have hc := hs.1
  have hcm := hs.2.1
  unfold maxLen at hcm
  have hmade := own_made w
  have hb0 := below_alloc w (.cells #[] 102)
  go_enter Tryd.func106, Tryd.ntmps106
  go_wp2_with fail
  go_loopw [5, 6] (fun ov iv wr => ∃ i : Nat, i ≤ n / 32 ∧ iv = .int .i64 i ∧ Own w.heap.size wr ov (List.replicate i 0) ∧ Below w.heap.size w wr) (fun _ iv _ => n / 32 - (intOf iv).toNat)
  case atStart => exact ⟨0, Nat.zero_le _, rfl, hmade, hb0⟩
  case round =>
    obtain ⟨i, hi, rfl, hown, hbel⟩ := hrel
    by_cases hlt : i < n / 32
    · have hown2 := hown.mono (below_alloc wr (.cells #[Value.int .u32 0] 102))
      have hsl2 := sl_one wr 0 0 rfl (by omega) 102
      have hbel2 := below_trans hbel (below_alloc wr (.cells #[Value.int .u32 0] 102))
      have t1 : (i : Int) < (n : Int) / 32 := by omega
      go_wp2_with (at_builtin; refine wpList_append_lims rfl (.tmp 17) (.tmp 18) _ rfl Tryd.underlying56 info32 w.heap.size _ _ rfl hown2 hbel2.size _ 1 _ _ rfl rfl hsl2 (by simp; omega) ?_; intro v3 w3 hown3 hb3)
      go_roundw
      case rel =>
        rw [← List.replicate_succ'] at hown3
        exact ⟨i + 1, by omega, by go_num, hown3, hbel2.trans hb3⟩
      case measure => simp [intOf]; omega
    · obtain ⟨k0, ek⟩ : ∃ k0, k0 = n / 32 := ⟨_, rfl⟩
      obtain rfl : i = k0 := by omega
      have t1 : ¬ (i : Int) < (n : Int) / 32 := by omega
      have Ek := Lib.hid ek
      have hi3 : i ≤ 100000000 := by omega
      clear hlt ek hmade hb0
      have htake : ∀ j, j < xs.length → List.replicate i 0 ++ xs.take j ++ [xs.getD j 0] = List.replicate i 0 ++ xs.take (j + 1) := by
        intro j hj
        rw [List.append_assoc]
        congr 1
        rw [List.take_add_one]
        simp [List.getD, hj]
      have Htake := Lib.hid htake
      clear htake
      go_wp2
      obtain ⟨wo, rfl⟩ : ∃ wo : World, wo = wr := ⟨_, rfl⟩
      go_loopw [5, 7] (fun ov iv wr => ∃ j : Nat, j ≤ xs.length ∧ iv = .int .i64 j ∧ Own w.heap.size wr ov (List.replicate i 0 ++ xs.take j) ∧ Below w.heap.size w wr) (fun _ iv _ => xs.length - (intOf iv).toNat)
      case atStart => exact ⟨0, Nat.zero_le _, rfl, by simpa using hown, hbel⟩
      case round =>
        obtain ⟨j, hj, rfl, hown', hbel'⟩ := hrel
        by_cases hlt : j < xs.length
        · obtain ⟨b2, o2, rfl, hbs2, hcell2, _⟩ := hs.open hlt
          have hlt2 := hs.lt j
          have htk := Htake.out j hlt
          obtain ⟨d, ed⟩ : ∃ d, xs.getD j 0 = d := ⟨_, rfl⟩
          rw [ed] at hcell2 hlt2 htk
          have hcell3 := (hbel'.cell (p := ⟨b2, o2 + j, none⟩) hbs2).trans hcell2
          have Htk := Lib.hid htk
          have hlen : (List.replicate i 0 ++ xs.take j).length = i + j := by rw [List.length_append, List.length_replicate, List.length_take, Nat.min_eq_left (by omega)]
          clear hcell2 ed htk
          have hown2 := hown'.mono (below_alloc wr (.cells #[Value.int .u32 (d : Int)] 102))
          have hsl2 := sl_one wr d d rfl hlt2 102
          have hbel2 := below_trans hbel' (below_alloc wr (.cells #[Value.int .u32 (d : Int)] 102))
          go_wp2_with (at_builtin; refine wpList_append_lims rfl (.tmp 26) (.tmp 31) _ rfl Tryd.underlying56 info32 w.heap.size _ _ rfl hown2 hbel2.size _ 1 _ _ rfl rfl hsl2 (by rw [hlen]; simp; omega) ?_; intro v3 w3 hown3 hb3)
          go_roundw
          case rel =>
            rw [Htk.out] at hown3
            exact ⟨j + 1, by omega, by go_num, hown3, hbel2.trans hb3⟩
          case measure => simp [intOf]; omega
        · obtain rfl : j = xs.length := by omega
          rw [List.take_of_length_le (Nat.le_refl _)] at hown'
          clear hlt Htake hown
          go_wp2
          go_loop [8, 9] (fun pv kv => ∃ k : Nat, k ≤ n % 32 ∧ kv = .int .i64 k ∧ pv = .int .u32 ((2 ^ k : Nat) : Int)) (fun _ kv => n % 32 - (intOf kv).toNat)
          case atStart => exact ⟨0, Nat.zero_le _, rfl, rfl⟩
          case round =>
            obtain ⟨k, hk, rfl, rfl⟩ := hrel
            have hp := pow_lt_u32 (show k < 32 by omega)
            by_cases hlt : k < n % 32
            · have t2 : (k : Int) < (n : Int) % 32 := by omega
              have hp2 := pow_lt_u31 (show k < 31 by omega)
              have ep : 2 ^ (k + 1) = 2 ^ k * 2 := Nat.pow_succ 2 k
              have Ep := Lib.hid ep
              clear ep
              generalize 2 ^ k = p at *
              go_wp2
              go_round
              case rel => exact ⟨k + 1, by omega, by go_num, by rw [Ep.out]; go_num⟩
              case measure => simp [intOf]; omega
            · obtain ⟨k1, ek1⟩ : ∃ k1, k1 = n % 32 := ⟨_, rfl⟩
              obtain rfl : k = k1 := by omega
              have t2 : ¬ (k : Int) < (n : Int) % 32 := by omega
              have Ek1 := Lib.hid ek1
              clear ek1 hlt
              obtain ⟨ad', c', rfl, hs', hf'⟩ := hown'.sl
              have hlen2 : (List.replicate i 0 ++ xs).length ≤ 300000000 := by rw [List.length_append, List.length_replicate]; omega
              have hvv : val (List.replicate i 0 ++ xs) = 4294967296 ^ (n / 32) * m := by rw [val_zeros_append, Hvm.out, Ek.out]
              have Hvv := Lib.hid hvv
              clear hvv
              obtain ⟨p, ep⟩ : ∃ p, p = 2 ^ k := ⟨_, rfl⟩
              rw [← ep] at hp ⊢
              have Ep := Lib.hid ep
              clear ep
              go_wp2_with fail
              refine (rtrim_calls _ _ _ _ _ hs' (by first | rfl | (simp; done)) (by omega)).mono ?_
              rintro e w4 ⟨v4, rfl, hv4, hf4, hb4⟩
              rw [Hvv.out] at hv4
              go_wp2_with fail
              refine (rtimes_calls _ _ p _ _ hv4 rfl hp (by have := Hlm.out; omega)).mono ?_
              rintro e w5 ⟨v5, rfl, hv5, hf5, hb5⟩
              go_wp2
              go_ret
              rw [Ep.out, Ek1.out, Hlv.out] at hv5
              exact ⟨_, rfl, hv5, hf5.mono (below_trans hbel' hb4).size, below_trans (below_trans hbel' hb4) hb5⟩


end Go.Proofs
