/- The reference: trim returns a new slice of the limbs of a number. The reference: Cmp. The reference: Bits, Bit. The reference: Mul is the product, limb by limb. The reference: at, Of, Add, Sub. The reference: Over, Times. -/
import Derived.Test.YtmnalmmffphnpaaGrow
import Derived.Test.YtmnalmmffphnpaaNatA
open Go.RowKit
namespace Go.Proofs
set_option linter.unusedVariables false
set_option linter.unusedSimpArgs false

theorem rtrim_raw (ad : Option Addr) (c : Nat) (xs : List Nat) (w : World) (hx : Sl w ad c xs) (hreach : xs.length ≤ 1000000000) :
    Calls Try.prog 66 #[.slice ad xs.length c] w (RetNum w (val xs)) := by
  have hc := hx.1
  have hcm := hx.2.1
  unfold maxLen at hcm
  go_enter Try.func66, Try.ntmps66
  go_wp2
  go_loop [3] (fun v => ∃ m : Nat, m ≤ xs.length ∧ v = .int .i64 m ∧ val (xs.take m) = val xs) (fun v => (intOf v).toNat)
  case atStart => exact ⟨xs.length, Nat.le_refl _, rfl, by simp⟩
  case round =>
    obtain ⟨m, hm, rfl, hv⟩ := hrel
    have Hv := Lib.hid hv
    clear hv
    have key : ∀ (hl : m = 0 ∨ xs.getD (m - 1) 0 ≠ 0), limbs (val xs) = xs.take m := fun hl => limbs_of_take xs m hm hx.2.2.1 Hv.out hl
    by_cases h0 : 0 < m ∧ xs.getD (m - 1) 0 = 0
    · obtain ⟨b, o, rfl, hbs, hcell, hfr⟩ := hx.open (i := m - 1) (by omega)
      have hx0 := h0.2
      rw [hx0] at hcell
      have Hx := Lib.hid hx0
      have ht : (0 : Int) < (m : Int) := by omega
      have hm0 := h0.1
      clear h0 hx0 hfr
      go_wp2
      go_round
      case rel => exact ⟨m - 1, by omega, by go_num, (val_take_pred xs m hm0 hm Hx.out).trans Hv.out⟩
      case measure => simp [intOf]; omega
    · have hlim := key (by omega)
      have hlen : (limbs (val xs)).length = m := by rw [hlim, List.length_take, Nat.min_eq_left hm]
      have Hlim := Lib.hid hlim
      have Hlen := Lib.hid hlen
      clear hlim hlen key
      have hmade := own_made w
      have hb0 := below_alloc w (.cells #[] 91)
      have htake : ∀ i, i < m → xs.take i ++ [xs.getD i 0] = xs.take (i + 1) := by
        intro i hi
        rw [List.take_add_one]
        simp [List.getD, show i < xs.length by omega]
      have fin : ∀ (wr : World) (ov : Value), Own w.heap.size wr ov (xs.take m) → Num wr ov (val xs) ∧ Fresh w.heap.size ov := by
        intro wr ov ho
        have e : val (xs.take m) = val xs := Hv.out
        have := ho.num (by rw [e]; exact Hlim.out)
        rwa [e] at this
      have Htake := Lib.hid htake
      have Fin := Lib.hid fin
      clear htake fin
      have ways : (m = 0) ∨ (0 < m ∧ (0 : Int) < (m : Int) ∧ ∃ (b o x : Nat), ad = some ⟨b, o, none⟩ ∧ w.cell? ⟨b, o + (m - 1), none⟩ = some (.int .u32 x) ∧ ((x : Int) == 0) = false) := by
        by_cases hm0 : m = 0
        · exact .inl hm0
        · obtain ⟨b, o, rfl, hbs, hcell, hfr⟩ := hx.open (i := m - 1) (by omega)
          refine .inr ⟨by omega, by omega, b, o, _, rfl, hcell, ?_⟩
          rw [beq_eq_false_iff_ne]
          intro e
          exact h0 ⟨by omega, by omega⟩
      clear h0
      rcases ways with rfl | ⟨hm0, hm1, b, o, x, rfl, hcell, hxx⟩
      · go_wp2
        go_loopw [4, 5] (fun ov iv wr => iv = .int .i64 0 ∧ Own w.heap.size wr ov (xs.take 0) ∧ Below w.heap.size w wr) (fun _ iv _ => 0)
        case atStart => exact ⟨rfl, hmade, hb0⟩
        case round =>
          obtain ⟨rfl, hown, hbel⟩ := hrel
          go_wp2
          go_ret
          obtain ⟨h1, h2⟩ := Fin.out _ _ hown
          exact ⟨_, rfl, h1, h2, hbel⟩
      · go_wp2
        go_loopw [4, 5] (fun ov iv wr => ∃ i : Nat, i ≤ m ∧ iv = .int .i64 i ∧ Own w.heap.size wr ov (xs.take i) ∧ Below w.heap.size w wr) (fun _ iv _ => m - (intOf iv).toNat)
        case atStart => exact ⟨0, Nat.zero_le _, rfl, hmade, hb0⟩
        case round =>
          obtain ⟨i, hi, rfl, hown, hbel⟩ := hrel
          by_cases hlt : i < m
          · obtain ⟨b2, o2, e2, hbs2, hcell2, _⟩ := hx.open (i := i) (by omega)
            cases e2
            have hlt2 := hx.lt i
            have htk := Htake.out i hlt
            obtain ⟨d, ed⟩ : ∃ d, xs.getD i 0 = d := ⟨_, rfl⟩
            rw [ed] at hcell2 hlt2 htk
            have hcell3 := (hbel.cell (p := ⟨b, o + i, none⟩) hbs2).trans hcell2
            have Htk := Lib.hid htk
            have hlen : (xs.take i).length = i := by rw [List.length_take, Nat.min_eq_left (by omega)]
            clear hcell2 ed htk
            have hown2 := hown.mono (below_alloc wr (.cells #[Value.int .u32 (d : Int)] 91))
            have hsl2 := sl_one wr d d rfl hlt2 91
            have hbel2 := below_trans hbel (below_alloc wr (.cells #[Value.int .u32 (d : Int)] 91))
            go_wp2_with (at_builtin; refine wpList_append_lims rfl (.tmp 26) (.tmp 31) _ rfl Try.underlying80 info32 w.heap.size _ _ rfl hown2 hbel2.size _ 1 _ _ rfl rfl hsl2 (by rw [hlen]; simp; omega) ?_; intro v3 w3 hown3 hb3)
            go_roundw
            case rel =>
              rw [Htk.out] at hown3
              exact ⟨i + 1, by omega, by go_num, hown3, hbel2.trans hb3⟩
            case measure => simp [intOf]; omega
          · obtain rfl : i = m := by omega
            go_wp2
            go_ret
            obtain ⟨h1, h2⟩ := Fin.out _ _ hown
            exact ⟨_, rfl, h1, h2, hbel⟩

theorem rtrim_calls (ad : Option Addr) (c n : Nat) (xs : List Nat) (w : World) (hx : Sl w ad c xs) (hn : n = xs.length) (hreach : xs.length ≤ 1000000000) :
    Calls Try.prog 66 #[.slice ad n c] w (RetNum w (val xs)) := by
  subst hn
  exact rtrim_raw ad c xs w hx hreach

end Go.Proofs

open Go.RowKit
namespace Go.Proofs
set_option linter.unusedVariables false
set_option linter.unusedSimpArgs false

set_option maxRecDepth 100000 in
theorem rcmp_raw (ad1 ad2 : Option Addr) (c1 c2 : Nat) (xs zs : List Nat) (w : World) (r : Int) (hx : Sl w ad1 c1 xs) (hz : Sl w ad2 c2 zs) (hlen : xs.length = zs.length)
    (hr : cmpInt (val xs) (val zs) = r) (hreach : xs.length ≤ 4000000000) :
    Calls Try.prog 55 #[.slice ad1 xs.length c1, .slice ad2 zs.length c2] w (RetInt w r) := by
  have HR := Lib.hid hr
  clear hr
  rw [← hlen]
  have HL := Lib.hid hlen
  clear hlen
  go_enter Try.func55, Try.ntmps55
  go_wp2
  go_loopw [5] (fun iv wr => ∃ i : Nat, i ≤ xs.length ∧ iv = .int .i64 ((i : Int) - 1) ∧ xs.drop i = zs.drop i ∧ Below w.heap.size w wr)
    (fun iv _ => (intOf iv + 1).toNat)
  case atStart => exact ⟨xs.length, Nat.le_refl _, rfl, by rw [List.drop_of_length_le (Nat.le_refl _), List.drop_of_length_le (by rw [HL.out]; exact Nat.le_refl _)], Below.refl _ _⟩
  case round =>
    obtain ⟨i, hi, rfl, hdrop, hbel⟩ := hrel
    have HD := Lib.hid hdrop
    clear hdrop
    by_cases h0 : 0 < i
    · obtain ⟨j, rfl⟩ : ∃ j, i = j + 1 := ⟨i - 1, by omega⟩
      have hL := HL.out
      obtain ⟨b, o, rfl, hbs, hcell, hfr⟩ := hx.open (i := j) (by omega)
      obtain ⟨b2, o2, rfl, hbs2, hcell2, hfr2⟩ := hz.open (i := j) (by omega)
      obtain ⟨x, ex⟩ : ∃ x, xs.getD j 0 = x := ⟨_, rfl⟩
      obtain ⟨y, ey⟩ : ∃ x, zs.getD j 0 = x := ⟨_, rfl⟩
      have hx1 := hx.lt j
      have hz1 := hz.lt j
      rw [ex] at hcell hx1
      rw [ey] at hcell2 hz1
      have hcell' := (hbel.cell (p := ⟨b, o + j, none⟩) hbs).trans hcell
      have hcell2' := (hbel.cell (p := ⟨b2, o2 + j, none⟩) hbs2).trans hcell2
      have Hx := Lib.hid ex
      have Hy := Lib.hid ey
      clear hcell hfr ex hcell2 hfr2 ey hL
      rw [show (((j + 1 : Nat) : Int) - 1) = (j : Int) from by omega]
      by_cases hxy : x = y
      · subst hxy
        have t1 : decide ((x : Int) < (x : Int)) = false := by simp
        go_wp2_with fail
        go_quiet (fail)
        go_wp2_with fail
        go_quiet (fail)
        go_wp2
        go_roundw
        case rel => exact ⟨j, by omega, rfl, drop_succ_eq HD.out (by omega) HL.out (by rw [Hx.out, Hy.out]), below_drewN hbel _⟩
        case measure => simp [intOf]
      · by_cases hl : x < y
        · have t2 : decide ((x : Int) < (y : Int)) = true := by simp; omega
          have hv := val_lt_of_limb hx.2.2.1 HL.out (by omega) HD.out (by rw [Hx.out, Hy.out]; exact hl)
          have hr := (cmpInt_lt hv).symm.trans HR.out
          have HRR := Lib.hid hr
          clear hr hv
          go_wp2_with fail
          go_quiet (fail)
          go_wp2
          go_ret
          exact ⟨by rw [← HRR.out]; rfl, below_drewN hbel _⟩
        · have t3 : decide ((y : Int) < (x : Int)) = true := by simp; omega
          have t2 : decide ((x : Int) < (y : Int)) = false := by simp; omega
          have hv := val_lt_of_limb (xs := zs) (ys := xs) hz.2.2.1 HL.out.symm (by have := HL.out; omega) HD.out.symm (by rw [Hx.out, Hy.out]; omega)
          have hr := (cmpInt_gt hv).symm.trans HR.out
          have HRR := Lib.hid hr
          clear hr hv
          go_wp2_with fail
          go_quiet (fail)
          go_wp2_with fail
          go_quiet (fail)
          go_wp2
          go_ret
          exact ⟨by rw [← HRR.out]; rfl, below_drewN (below_drewN hbel _) _⟩
    · obtain rfl : i = 0 := by omega
      have e : xs = zs := by have := HD.out; simpa using this
      have hr : 0 = r := by have := HR.out; rwa [e, cmpInt_eq] at this
      have HRR := Lib.hid hr
      clear hr e
      go_wp2
      go_ret
      exact ⟨by rw [← HRR.out]; rfl, hbel⟩

/-- Cmp returns the order of two numbers. -/
theorem rcmp_calls (v1 v2 : Value) (m n : Nat) (w : World) (r : Int) (h1 : Num w v1 m) (h2 : Num w v2 n) (hr : cmpInt m n = r) (b1 : (limbs m).length ≤ 4000000000) (b2 : (limbs n).length ≤ 4000000000) :
    Calls Try.prog 55 #[v1, v2] w (RetInt w r) := by
  obtain ⟨ad1, c1, rfl, s1⟩ := h1
  obtain ⟨ad2, c2, rfl, s2⟩ := h2
  by_cases hl : (limbs m).length = (limbs n).length
  · have := rcmp_raw ad1 ad2 c1 c2 _ _ w r s1 s2 hl (by rw [val_limbs, val_limbs]; exact hr) b1
    exact this
  · have HR := Lib.hid hr
    clear hr
    by_cases hlt : (limbs m).length < (limbs n).length
    · have e := (cmpInt_lt (lt_of_length_lt hlt)).symm.trans HR.out
      have HRR := Lib.hid e
      have t1 : (((limbs m).length : Int) != ((limbs n).length : Int)) = true := by rw [bne_iff_ne]; omega
      clear hl e
      go_enter Try.func55, Try.ntmps55
      go_wp2
      go_ret
      exact ⟨by rw [← HRR.out]; rfl, Below.refl _ _⟩
    · have e := (cmpInt_gt (lt_of_length_lt (by omega : (limbs n).length < (limbs m).length))).symm.trans HR.out
      have HRR := Lib.hid e
      have t1 : (((limbs m).length : Int) != ((limbs n).length : Int)) = true := by rw [bne_iff_ne]; omega
      clear hl e
      go_enter Try.func55, Try.ntmps55
      go_wp2
      go_ret
      exact ⟨by rw [← HRR.out]; rfl, Below.refl _ _⟩

end Go.Proofs

open Go.RowKit
namespace Go.Proofs
set_option linter.unusedVariables false
set_option linter.unusedSimpArgs false

theorem bitlen_le_limbs (a : Nat) : bitlen a ≤ 32 * (limbs a).length := by
  refine bitlen_of_lt ?_
  rw [Nat.pow_mul]
  exact lt_pow_length a

theorem bitlen_half {x : Nat} (h : x ≠ 0) : bitlen x = bitlen (x / 2) + 1 := by
  have hs := bitlen_spec h
  by_cases h1 : x / 2 = 0
  · have : x = 1 := by omega
    subst this
    decide
  · have hs2 := bitlen_spec h1
    have hb2 : bitlen (x / 2) ≠ 0 := by
      intro e
      rw [e] at hs2
      simp at hs2
      omega
    refine bitlen_unique ?_ ?_
    · have h3 : 2 ^ (bitlen (x / 2)) = 2 * 2 ^ (bitlen (x / 2) - 1) := by
        rw [← Nat.pow_succ', Nat.succ_eq_add_one, show bitlen (x / 2) - 1 + 1 = bitlen (x / 2) by omega]
      rw [h3]
      omega
    · rw [Nat.pow_succ]
      omega

set_option maxRecDepth 100000 in
theorem rbits_calls (v : Value) (n : Nat) (w : World) (hv : Num w v n) (hb : (limbs n).length ≤ 400000000) :
    Calls Try.prog 83 #[v] w fun e w' => e = .returned (.int .i64 (bitlen n)) ∧ w = w' := by
  obtain ⟨ad, c, rfl, hs⟩ := hv
  have hc := hs.1
  have hcm := hs.2.1
  unfold maxLen at hcm
  by_cases h0 : n = 0
  · subst h0
    rw [limbs_zero]
    go_enter Try.func83, Try.ntmps83
    go_wp2
    go_ret
    exact ⟨rfl, rfl⟩
  · have hne : limbs n ≠ [] := fun e => h0 (limbs_eq_nil.1 e)
    have hlen : 0 < (limbs n).length := List.length_pos_iff.2 hne
    have e := bitlen_limbs h0
    obtain ⟨b, o, rfl, hbs, hcell, hfr⟩ := hs.open (i := (limbs n).length - 1) (by omega)
    have hx1 := hs.lt ((limbs n).length - 1)
    generalize (limbs n).getD ((limbs n).length - 1) 0 = t at *
    have hbt : bitlen t ≤ 32 := bitlen_of_lt (by omega)
    have t1 : (((limbs n).length : Int) == 0) = false := by simp; omega
    have He := Lib.hid e
    clear e hfr hs hne h0
    generalize limbs n = xs at *
    go_enter Try.func83, Try.ntmps83
    go_wp2_with fail
    go_loop [3, 4] (fun kv vv => ∃ k x : Nat, kv = .int .i64 k ∧ vv = .int .u32 x ∧ x < 4294967296 ∧ bitlen t = k + bitlen x) (fun _ vv => (intOf vv).toNat)
    case atStart => exact ⟨0, t, rfl, rfl, hx1, by omega⟩
    case round =>
      obtain ⟨k, x, rfl, rfl, hx, hk⟩ := hrel
      by_cases hx0 : x = 0
      · subst hx0
        have hkt : bitlen t = k := by rw [hk, bitlen_zero]; rfl
        have Hk := Lib.hid hkt
        have hk32 : k ≤ 32 := by omega
        clear hk hkt hbt
        go_wp2
        go_ret
        refine ⟨?_, rfl⟩
        rw [He.out, Hk.out]
        exact congrArg (fun z : Int => Ending.returned (.int .i64 z)) (by omega)
      · have hh := bitlen_half hx0
        have hk2 : bitlen t = k + 1 + bitlen (x / 2) := by omega
        have hk32 : k ≤ 32 := by omega
        have Hk := Lib.hid hk2
        have t2 : (0 : Int) < (x : Int) := by omega
        clear hk hk2 hh
        go_wp2
        go_round
        case rel => exact ⟨k + 1, x / 2, by go_num, congrArg (Value.int .u32) (by omega), by omega, Hk.out⟩
        case measure => simp [intOf]; omega

theorem limb_at : ∀ (k n : Nat), (limbs n).getD k 0 = n / 4294967296 ^ k % 4294967296 := by
  intro k
  induction k with
  | zero =>
    intro n
    by_cases h : n = 0
    · subst h; rw [limbs_zero]; rfl
    · rw [limbs_pos h]; simp
  | succ k ih =>
    intro n
    by_cases h : n = 0
    · subst h; rw [limbs_zero]; simp
    · rw [limbs_pos h]
      have := ih (n / 4294967296)
      rw [Nat.div_div_eq_div_mul, Nat.mul_comm, ← Nat.pow_succ] at this
      simpa [List.getD] using this

theorem mod_bit (x r : Nat) (hr : r < 32) : x % 4294967296 / 2 ^ r % 2 = x / 2 ^ r % 2 := by
  have e : (4294967296 : Nat) = 2 ^ r * (2 * 2 ^ (31 - r)) := by
    rw [← Nat.pow_succ', ← Nat.pow_add, show r + (31 - r).succ = 32 by omega]
  have h := Nat.div_add_mod x 4294967296
  generalize x % 4294967296 = s at *
  generalize x / 4294967296 = q at *
  rw [← h, e, Nat.mul_assoc, Nat.mul_add_div (Nat.two_pow_pos r), Nat.mul_assoc, Nat.mul_add_mod]

theorem limb_bit (n i : Nat) : (limbs n).getD (i / 32) 0 / 2 ^ (i % 32) % 2 = n / 2 ^ i % 2 := by
  rw [limb_at, mod_bit _ _ (Nat.mod_lt _ (by omega)), Nat.div_div_eq_div_mul]
  have e : (4294967296 : Nat) ^ (i / 32) * 2 ^ (i % 32) = 2 ^ i := by
    rw [show (4294967296 : Nat) = 2 ^ 32 by rfl, ← Nat.pow_mul, ← Nat.pow_add]
    congr 1
    omega
  rw [e]

set_option maxRecDepth 100000 in
theorem rbit_calls (v : Value) (n i : Nat) (z : Int) (w : World) (hv : Num w v n) (hz : z = (i : Int)) (hi : i < 9223372036854775808) :
    Calls Try.prog 86 #[v, .int .i64 z] w fun e w' => e = .returned (.int .u32 ((n / 2 ^ i % 2 : Nat) : Int)) ∧ w = w' := by
  subst hz
  have hlb := limb_bit n i
  obtain ⟨bt, ebt⟩ : ∃ b, n / 2 ^ i % 2 = b := ⟨_, rfl⟩
  rw [ebt] at hlb ⊢
  clear ebt
  obtain ⟨ad, c, rfl, hs⟩ := hv
  have hc := hs.1
  have hcm := hs.2.1
  unfold maxLen at hcm
  by_cases hl : i / 32 < (limbs n).length
  · obtain ⟨b, o, rfl, hbs, hcell, hfr⟩ := hs.open hl
    have hx1 := hs.lt (i / 32)
    generalize (limbs n).getD (i / 32) 0 = t at *
    have Hlb := Lib.hid hlb
    have k1 : ((i : Int) / 32).toNat = i / 32 := by omega
    clear hlb hfr
    generalize limbs n = xs at *
    go_enter Try.func86, Try.ntmps86
    go_wp2_with fail
    go_loop [5, 6] (fun vv kv => ∃ k x : Nat, kv = .int .i64 k ∧ vv = .int .u32 x ∧ k ≤ i % 32 ∧ x < 4294967296 ∧ x = t / 2 ^ k) (fun _ kv => i % 32 - (intOf kv).toNat)
    case atStart => exact ⟨0, t, rfl, rfl, Nat.zero_le _, hx1, by simp⟩
    case round =>
      obtain ⟨k, x, rfl, rfl, hk, hx, hxe⟩ := hrel
      have Hxe := Lib.hid hxe
      clear hxe
      by_cases hlt : k < i % 32
      · have t2 : (k : Int) < (i : Int) % 32 := by omega
        go_wp2
        go_round
        case rel => exact ⟨k + 1, x / 2, by go_num, congrArg (Value.int .u32) (by omega), by omega, by omega, by rw [Hxe.out, Nat.pow_succ, Nat.div_div_eq_div_mul]⟩
        case measure => simp [intOf]; omega
      · have t2 : ¬ (k : Int) < (i : Int) % 32 := by omega
        have hres : x % 2 = bt := by rw [Hxe.out, ← Hlb.out, show k = i % 32 by omega]
        have Hres := Lib.hid hres
        clear hres
        go_wp2
        go_ret
        refine ⟨?_, rfl⟩
        rw [← Hres.out]
        exact congrArg (fun z : Int => Ending.returned (.int .u32 z)) (by omega)
  · have e : bt = 0 := by
      rw [← hlb]
      simp [List.getD, show (limbs n).length ≤ i / 32 by omega]
    have E := Lib.hid e
    have t1 : ((limbs n).length : Int) ≤ (i : Int) / 32 := by omega
    clear e hlb
    go_enter Try.func86, Try.ntmps86
    go_wp2
    go_ret
    exact ⟨by rw [E.out]; rfl, rfl⟩

end Go.Proofs

open Go.RowKit
namespace Go.Proofs
set_option linter.unusedVariables false
set_option linter.unusedSimpArgs false

theorem rmul_step (p pi x y o c vr vz q r : Nat) (v0 vs : Nat) (hs : vs + (p * pi) * o = vr + (p * pi) * r) (hi : vr + c * (p * pi) = v0 + pi * (x * vz)) (hq : 4294967296 * q + r = x * y + o + c) :
    vs + q * (p * 4294967296 * pi) = v0 + pi * (x * (vz + p * y)) := by
  grind

theorem rmul_row (pi pl x c vr v0 vs vz va : Nat) (h : vr + c * (pl * pi) = v0 + pi * (x * vz)) (hs : vs + pl * pi * 0 = vr + pl * pi * c) (h0 : v0 = va * vz) : vs = (va + pi * x) * vz := by
  grind

set_option maxRecDepth 100000 in
theorem rmul_raw (ad1 ad2 : Option Addr) (c1 c2 : Nat) (xs zs : List Nat) (w : World) (hx : Sl w ad1 c1 xs) (hz : Sl w ad2 c2 zs) (b1 : xs.length ≤ 400000000) (b2 : zs.length ≤ 400000000) :
    Calls Try.prog 57 #[.slice ad1 xs.length c1, .slice ad2 zs.length c2] w (RetNum w (val xs * val zs)) := by
  go_enter Try.func57, Try.ntmps57
  go_wp2_with (at_make; refine wpList_make_nums _ rfl _ _ 80 rfl 91 Try.underlying80 info32 _ _ _ _ (xs.length + zs.length + 1) rfl rfl (by omega) (by omega) (by omega) ?_; intro w1 hr1 hb1 hs1)
  go_loopw [6] (fun iv wr => ∃ (i : Nat) (R : List Nat), i ≤ xs.length ∧ iv = .int .i64 i ∧ R.length = xs.length + zs.length + 1 ∧ Row wr w.heap.size R ∧ Below w.heap.size w wr ∧
      val R = val (xs.take i) * val zs ∧ (∀ k, i + zs.length ≤ k → R.getD k 0 = 0))
    (fun iv _ => xs.length - (intOf iv).toNat)
  case atStart => exact ⟨0, List.replicate (xs.length + zs.length + 1) 0, Nat.zero_le _, rfl, by simp, hr1, hb1, by rw [val_replicate]; simp [val], by intro k _; exact getD_replicate _ _⟩
  case round =>
    obtain ⟨i, R, hi, rfl, hlR, hrow, hbel, hval, htail⟩ := hrel
    have HlR := Lib.hid hlR
    have Hrow := Lib.hid hrow
    have Hval := Lib.hid hval
    have Htail := Lib.hid htail
    clear hlR hrow hval htail
    by_cases hlt : i < xs.length
    · obtain ⟨b, o, rfl, hbs, hcell0, hfr⟩ := hx.open hlt
      have hx1 := hx.lt i
      obtain ⟨x, ex⟩ : ∃ x, xs.getD i 0 = x := ⟨_, rfl⟩
      rw [ex] at hcell0 hx1
      have Hx := Lib.hid ex
      have Hcell := Lib.hid hcell0
      clear hcell0 hfr ex
      go_wp2
      obtain ⟨wo, rfl⟩ : ∃ wo : World, wo = wr := ⟨_, rfl⟩
      go_loopw [7, 8] (fun cv jv wr => ∃ (j c : Nat) (R' : List Nat), j ≤ zs.length ∧ c < 4294967296 ∧ jv = .int .i64 j ∧ cv = .int .u64 c ∧ R'.length = xs.length + zs.length + 1 ∧ Row wr w.heap.size R' ∧ Below w.heap.size w wr ∧
          val R' + c * (4294967296 ^ j * 4294967296 ^ i) = val R + 4294967296 ^ i * (x * val (zs.take j)) ∧ (∀ k, i + zs.length ≤ k → R'.getD k 0 = 0))
        (fun _ jv _ => zs.length - (intOf jv).toNat)
      case atStart => exact ⟨0, 0, R, Nat.zero_le _, by omega, rfl, rfl, HlR.out, Hrow.out, hbel, by simp [val], Htail.out⟩
      case round =>
        obtain ⟨j, c, R', hj, hc, rfl, rfl, hlR', hrow', hbel', hval', htail'⟩ := hrel
        have HlR' := Lib.hid hlR'
        have Hrow' := Lib.hid hrow'
        have Hval' := Lib.hid hval'
        have Htail' := Lib.hid htail'
        clear hlR' hrow' hval' htail'
        by_cases hjt : j < zs.length
        · obtain ⟨b2, o2, rfl, hbs2, hcell2, hfr2⟩ := hz.open hjt
          have hz1 := hz.lt j
          obtain ⟨y, ey⟩ : ∃ x, zs.getD j 0 = x := ⟨_, rfl⟩
          rw [ey] at hcell2 hz1
          have hcell2' := (hbel'.cell (p := ⟨b2, o2 + j, none⟩) hbs2).trans hcell2
          have hcell' := (hbel'.cell (p := ⟨b, o + i, none⟩) hbs).trans Hcell.out
          have Hy := Lib.hid ey
          have oc := Hrow'.out.cell (i := i + j) (by have := HlR'.out; omega)
          have of := Hrow'.out.free (i + j)
          have hv1 := getD_lt_of Hrow'.out.1 (i + j)
          obtain ⟨v0, ev0⟩ : ∃ x, R'.getD (i + j) 0 = x := ⟨_, rfl⟩
          rw [ev0] at oc hv1
          have Hv0 := Lib.hid ev0
          have m0 : (0 : Int) ≤ (x : Int) * (y : Int) := Int.mul_nonneg (by omega) (by omega)
          have m1 : (x : Int) * (y : Int) ≤ 18446744065119617025 := by
            have := Nat.mul_le_mul (show x ≤ 4294967295 by omega) (show y ≤ 4294967295 by omega)
            have h2 : ((x * y : Nat) : Int) ≤ ((4294967295 * 4294967295 : Nat) : Int) := by exact_mod_cast this
            rw [Int.natCast_mul] at h2
            omega
          have hij : IntKind.i64.wrap ((i : Int) + (j : Int)) = (i : Int) + (j : Int) := IntWalk.i64_in _ (by omega)
          have hjn : ((i : Int) + (j : Int)).toNat = i + j := by omega
          clear hcell2 hfr2 ey ev0
          go_wp2_with (go_quiet (fail))
          go_roundw
          case rel =>
            have hxy : ((x * y : Nat) : Int) = (x : Int) * (y : Int) := Int.natCast_mul _ _
            have hset := val_set R' (i + j) ((x * y + v0 + c) % 4294967296) (by have := HlR'.out; omega)
            rw [Hv0.out, Nat.add_comm i j, Nat.pow_add] at hset
            refine ⟨j + 1, (x * y + v0 + c) / 4294967296, R'.set (i + j) ((x * y + v0 + c) % 4294967296), by omega, by omega, by go_num, congrArg (Value.int .u64) (by omega), by simp [HlR'.out], (Hrow'.out.drewN _).put _ _ (by omega) _ (by omega), (below_drewN hbel' _).setCell (Nat.le_refl _) _, ?_, ?_⟩
            · have hv' := Hval'.out
              have hd := Nat.div_add_mod (x * y + v0 + c) 4294967296
              rw [Nat.add_comm j i] at hset
              rw [val_take_succ _ _ hjt, Hy.out, Nat.pow_succ]
              generalize (x * y + v0 + c) / 4294967296 = q at *
              generalize (x * y + v0 + c) % 4294967296 = r at *
              generalize 4294967296 ^ j = p at *
              generalize 4294967296 ^ i = pi at *
              exact rmul_step p pi x y v0 c _ _ q r _ _ hset hv' hd
            · intro k hk
              rw [getD_set_ne _ _ (by omega)]
              exact Htail'.out k hk
          case measure => simp [intOf]; omega
        · obtain rfl : j = zs.length := by omega
          have oc := Hrow'.out.cell (i := i + zs.length) (by have := HlR'.out; omega)
          have of := Hrow'.out.free (i + zs.length)
          rw [Htail'.out _ (Nat.le_refl _)] at oc
          go_wp2
          go_roundw
          case rel =>
            have hset := val_set R' (i + zs.length) c (by have := HlR'.out; omega)
            rw [Htail'.out _ (Nat.le_refl _), Nat.add_comm i, Nat.pow_add] at hset
            have hv' := Hval'.out
            rw [List.take_of_length_le (Nat.le_refl _)] at hv'
            refine ⟨i + 1, R'.set (i + zs.length) c, by omega, by go_num, by simp [HlR'.out], Hrow'.out.put _ _ hc _ (by omega), hbel'.setCell (Nat.le_refl _) _, ?_, ?_⟩
            · rw [Nat.add_comm i, val_take_succ _ _ hlt, Hx.out]
              exact rmul_row _ _ _ _ _ _ _ _ _ hv' hset Hval.out
            · intro k hk
              rw [getD_set_ne _ _ (by omega)]
              exact Htail'.out k (by omega)
          case measure => simp [intOf]; omega
    · obtain rfl : i = xs.length := by omega
      have hsl := Hrow.out.whole (by rw [HlR.out]; unfold maxLen; omega)
      have hv2 := Hval.out
      rw [List.take_of_length_le (Nat.le_refl _)] at hv2
      rw [HlR.out] at hsl
      have Hv := Lib.hid hv2
      clear hv2
      go_wp2_with fail
      refine (rtrim_calls _ _ _ _ _ hsl HlR.out.symm (by rw [HlR.out]; omega)).mono ?_
      rintro e w' ⟨v, rfl, hnum, hfr, hb⟩
      go_wp2
      go_ret
      rw [Hv.out] at hnum
      exact ⟨_, rfl, hnum, hfr.mono hbel.size, below_trans hbel hb⟩

theorem rmul_calls (v1 v2 : Value) (m n : Nat) (w : World) (h1 : Num w v1 m) (h2 : Num w v2 n) (b1 : (limbs m).length ≤ 400000000) (b2 : (limbs n).length ≤ 400000000) :
    Calls Try.prog 57 #[v1, v2] w (RetNum w (m * n)) := by
  obtain ⟨ad1, c1, rfl, s1⟩ := h1
  obtain ⟨ad2, c2, rfl, s2⟩ := h2
  have := rmul_raw ad1 ad2 c1 c2 _ _ w s1 s2 b1 b2
  rwa [val_limbs, val_limbs] at this

end Go.Proofs

open Go.RowKit
namespace Go.Proofs
set_option linter.unusedVariables false
set_option linter.unusedSimpArgs false

theorem at_calls (ad : Option Addr) (c : Nat) (xs : List Nat) (i : Nat) (z : Int) (w : World) (hx : Sl w ad c xs) (hz : z = (i : Int)) :
    Calls Try.prog 99 #[.slice ad xs.length c, .int .i64 z] w fun e w' => e = .returned (.int .u64 ((xs.getD i 0 : Nat) : Int)) ∧ w = w' := by
  subst hz
  have hc := hx.1
  have hcm := hx.2.1
  unfold maxLen at hcm
  by_cases hi : i < xs.length
  · obtain ⟨b, o, rfl, hbs, hcell, hfr⟩ := hx.open hi
    have hlt := hx.lt i
    generalize xs.getD i 0 = x at *
    go_enter Try.func99, Try.ntmps99
    go_wp2
    go_ret
    exact ⟨rfl, rfl⟩
  · have e : xs.getD i 0 = 0 := by simp [List.getD, show xs.length ≤ i by omega]
    rw [e]
    clear e
    go_enter Try.func99, Try.ntmps99
    go_wp2
    go_ret
    exact ⟨rfl, rfl⟩

theorem row_pair (w : World) (x y : Nat) (e : Nat) (hx : x < 4294967296) (hy : y < 4294967296) : Row (w.alloc (.cells #[Value.int .u32 (x : Int), Value.int .u32 (y : Int)] e)) w.heap.size [x, y] := by
  refine ⟨by intro z hz; simp at hz; omega, e, ?_⟩
  rw [heap_alloc_new]; rfl

theorem rof_calls (n : Nat) (z : Int) (w : World) (hz : z = (n : Int)) (hn : n < 18446744073709551616) :
    Calls Try.prog 65 #[.int .u64 z] w (RetNum w n) := by
  subst hz
  have hlo : (n : Int) % 4294967296 = ((n % 4294967296 : Nat) : Int) := rfl
  have hlo2 : (n : Int) % 4294967296 % 4294967296 = ((n % 4294967296 : Nat) : Int) := by omega
  have hhi : (n : Int) / 4294967296 = ((n / 4294967296 : Nat) : Int) := rfl
  have hhi2 : (n : Int) / 4294967296 % 4294967296 = ((n / 4294967296 : Nat) : Int) := by omega
  have hr := row_pair w (n % 4294967296) (n / 4294967296) 91 (by omega) (by omega)
  have hb := below_alloc w (.cells #[Value.int .u32 ((n % 4294967296 : Nat) : Int), Value.int .u32 ((n / 4294967296 : Nat) : Int)] 91)
  have hs := hr.whole (by simp [maxLen])
  have hval : val [n % 4294967296, n / 4294967296] = n := by simp only [val]; omega
  generalize n % 4294967296 = lo at *
  generalize n / 4294967296 = hi at *
  go_enter Try.func65, Try.ntmps65
  go_wp2_with fail
  refine (rtrim_calls _ _ 2 _ _ hs rfl (by simp)).mono ?_
  rintro e w1 ⟨v, rfl, hv, hf, hb2⟩
  rw [hval] at hv
  go_wp2
  go_ret
  exact ⟨_, rfl, hv, hf.mono hb.size, below_trans hb hb2⟩

theorem val_take_getD (xs : List Nat) (i : Nat) : val (xs.take (i + 1)) = val (xs.take i) + 4294967296 ^ i * xs.getD i 0 := by
  by_cases hi : i < xs.length
  · exact val_take_succ xs i hi
  · rw [val_take_of_le xs i (by omega), show xs.getD i 0 = 0 by simp [List.getD, show xs.length ≤ i by omega]]
    omega

theorem radd_step (p o c m n x y d q : Nat) (h : o + c * p = m + n) (hd : 4294967296 * q + d = x + y + c) : o + p * d + q * (p * 4294967296) = m + p * x + (n + p * y) := by
  grind

set_option maxRecDepth 100000 in
theorem radd_raw (ad1 ad2 : Option Addr) (c1 c2 : Nat) (xs zs : List Nat) (w : World) (hx : Sl w ad1 c1 xs) (hz : Sl w ad2 c2 zs) (b1 : xs.length ≤ 400000000) (b2 : zs.length ≤ 400000000) :
    Calls Try.prog 84 #[.slice ad1 xs.length c1, .slice ad2 zs.length c2] w (RetNum w (val xs + val zs)) := by
  have hmade := own_made w
  have hb0 := below_alloc w (.cells #[] 91)
  go_enter Try.func84, Try.ntmps84
  go_wp2_with fail
  go_loopw [5, 6, 7] (fun ov cv iv wr => ∃ (i c : Nat) (out : List Nat), i ≤ xs.length + zs.length ∧ iv = .int .i64 i ∧ cv = .int .u64 c ∧ c ≤ 1 ∧ out.length = i ∧ Own w.heap.size wr ov out ∧ Below w.heap.size w wr ∧
      val out + c * 4294967296 ^ i = val (xs.take i) + val (zs.take i)) (fun _ _ iv _ => xs.length + zs.length - (intOf iv).toNat)
  case atStart => exact ⟨0, 0, [], Nat.zero_le _, rfl, rfl, by omega, rfl, hmade, hb0, by simp [val]⟩
  case round =>
    obtain ⟨i, c, out, hi, rfl, rfl, hc, hlo, hown, hbel, hval⟩ := hrel
    have Hval := Lib.hid hval
    have Hlo := Lib.hid hlo
    clear hval hlo
    by_cases hlt : i < xs.length ∨ i < zs.length
    · have hxw := hx.mono (Nat.le_refl _) hbel
      have hzw := hz.mono (Nat.le_refl _) hbel
      have hx1 := hx.lt i
      have hz1 := hz.lt i
      have hi2 : i < xs.length + zs.length := by omega
      have Ex := Lib.hid (val_take_getD xs i)
      have Ez := Lib.hid (val_take_getD zs i)
      have ways : (i < xs.length) ∨ (¬ i < xs.length ∧ i < zs.length) := by omega
      have ca1 := at_calls ad1 c1 xs i _ wr hxw rfl
      have ca2 := at_calls ad2 c2 zs i _ wr hzw rfl
      obtain ⟨x, ex⟩ : ∃ x, xs.getD i 0 = x := ⟨_, rfl⟩
      obtain ⟨y, ey⟩ : ∃ x, zs.getD i 0 = x := ⟨_, rfl⟩
      rw [ex] at hx1 ca1
      rw [ey] at hz1 ca2
      have Ex2 := Lib.hid ex
      have Ey2 := Lib.hid ey
      clear ex ey hlt
      have hd : ((x : Int) + (y : Int) + (c : Int)) % 4294967296 = (((x + y + c) % 4294967296 : Nat) : Int) := by omega
      have hd2 : (x + y + c) % 4294967296 < 4294967296 := Nat.mod_lt _ (by omega)
      have hq : ((x : Int) + (y : Int) + (c : Int)) / 4294967296 = (((x + y + c) / 4294967296 : Nat) : Int) := by omega
      have hq2 : (x + y + c) / 4294967296 ≤ 1 := by omega
      have hdm := Nat.div_add_mod (x + y + c) 4294967296
      generalize (x + y + c) / 4294967296 = q at *
      generalize (x + y + c) % 4294967296 = d at *
      have Hdm := Lib.hid hdm
      clear hdm
      have hown2 := hown.mono (below_alloc wr (.cells #[Value.int .u32 (d : Int)] 91))
      have hsl2 := sl_one wr d d rfl hd2 91
      have hbel2 := below_trans hbel (below_alloc wr (.cells #[Value.int .u32 (d : Int)] 91))
      rcases ways with hw1 | ⟨hw1, hw2⟩
      all_goals
        go_wp2_with fail
        refine ca1.mono ?_
        rintro e w' ⟨rfl, rfl⟩
        go_wp2_with fail
        refine ca2.mono ?_
        rintro e w' ⟨rfl, rfl⟩
        go_wp2_with (at_builtin; refine wpList_append_lims rfl (.tmp 31) (.tmp 35) _ rfl Try.underlying80 info32 w.heap.size _ _ rfl hown2 hbel2.size _ 1 _ _ rfl rfl hsl2 (by rw [Hlo.out]; simp; omega) ?_; intro v3 w3 hown3 hb3)
        go_roundw
        case rel =>
          refine ⟨i + 1, q, out ++ [d], by omega, by go_num, congrArg (Value.int .u64) hq, hq2, by simp [Hlo.out], hown3, hbel2.trans hb3, ?_⟩
          rw [Ex.out, Ez.out, Ex2.out, Ey2.out, val_snoc, Hlo.out, Nat.pow_succ]
          exact radd_step _ _ _ _ _ _ _ _ _ Hval.out Hdm.out
        case measure => simp [intOf]; omega
    · have hv : val out + c * 4294967296 ^ i = val xs + val zs := by
        have := Hval.out
        rw [List.take_of_length_le (by omega), List.take_of_length_le (by omega)] at this
        exact this
      have Hv := Lib.hid hv
      have hw1 : ¬ i < xs.length := by omega
      have hw2 : ¬ i < zs.length := by omega
      clear hv hlt
      have hown2 := hown.mono (below_alloc wr (.cells #[Value.int .u32 (c : Int)] 91))
      have hsl2 := sl_one wr c c rfl (by omega) 91
      have hbel2 := below_trans hbel (below_alloc wr (.cells #[Value.int .u32 (c : Int)] 91))
      go_wp2_with (at_builtin; refine wpList_append_lims rfl (.tmp 39) (.tmp 42) _ rfl Try.underlying80 info32 w.heap.size _ _ rfl hown2 hbel2.size _ 1 _ _ rfl rfl hsl2 (by rw [Hlo.out]; simp; omega) ?_; intro v3 w3 hown3 hb3)
      obtain ⟨ad', c', rfl, hs', hf'⟩ := hown3.sl
      refine (rtrim_calls _ _ _ _ _ hs' rfl (by simp [Hlo.out]; omega)).mono ?_
      rintro e w4 ⟨v4, rfl, hv4, hf4, hb4⟩
      have hvv : val (out ++ [c]) = val xs + val zs := by rw [val_snoc, Hlo.out, ← Hv.out, Nat.mul_comm]
      rw [hvv] at hv4
      go_wp2
      go_ret
      have hb3' := hbel2.trans hb3
      exact ⟨_, rfl, hv4, hf4.mono hb3'.size, below_trans hb3' hb4⟩

theorem radd_calls (v1 v2 : Value) (m n : Nat) (w : World) (h1 : Num w v1 m) (h2 : Num w v2 n) (b1 : (limbs m).length ≤ 400000000) (b2 : (limbs n).length ≤ 400000000) :
    Calls Try.prog 84 #[v1, v2] w (RetNum w (m + n)) := by
  obtain ⟨ad1, c1, rfl, s1⟩ := h1
  obtain ⟨ad2, c2, rfl, s2⟩ := h2
  have := radd_raw ad1 ad2 c1 c2 _ _ w s1 s2 b1 b2
  rwa [val_limbs, val_limbs] at this

theorem rsub_step (p o m n b x y d q : Nat) (h : o + n = m + b * p) (hd : 4294967296 * q + d + y + b = 4294967296 + x) (hq : q ≤ 1) : o + p * d + (n + p * y) = m + p * x + (1 - q) * (p * 4294967296) := by
  obtain ⟨t, ht⟩ : ∃ t, t + q = 1 := ⟨1 - q, by omega⟩
  rw [show 1 - q = t by omega]
  have e : d + y + b = x + 4294967296 * t := by omega
  have e2 : p * (d + y + b) = p * (x + 4294967296 * t) := by rw [e]
  grind

set_option maxRecDepth 100000 in
theorem rsub_raw (ad1 ad2 : Option Addr) (c1 c2 : Nat) (xs zs : List Nat) (w : World) (hx : Sl w ad1 c1 xs) (hz : Sl w ad2 c2 zs) (b1 : xs.length ≤ 400000000) (b2 : zs.length ≤ xs.length) (hle : val zs ≤ val xs) :
    Calls Try.prog 87 #[.slice ad1 xs.length c1, .slice ad2 zs.length c2] w (RetNum w (val xs - val zs)) := by
  have hmade := own_made w
  have hb0 := below_alloc w (.cells #[] 91)
  go_enter Try.func87, Try.ntmps87
  go_wp2_with fail
  go_loopw [5, 6, 7] (fun ov cv iv wr => ∃ (i c : Nat) (out : List Nat), i ≤ xs.length ∧ iv = .int .i64 i ∧ cv = .int .u64 c ∧ c ≤ 1 ∧ out.length = i ∧ Own w.heap.size wr ov out ∧ Below w.heap.size w wr ∧
      val out + val (zs.take i) = val (xs.take i) + c * 4294967296 ^ i) (fun _ _ iv _ => xs.length - (intOf iv).toNat)
  case atStart => exact ⟨0, 0, [], Nat.zero_le _, rfl, rfl, by omega, rfl, hmade, hb0, by simp [val]⟩
  case round =>
    obtain ⟨i, c, out, hi, rfl, rfl, hc, hlo, hown, hbel, hval⟩ := hrel
    have Hval := Lib.hid hval
    have Hlo := Lib.hid hlo
    clear hval hlo
    by_cases hlt : i < xs.length
    · have hxw := hx.mono (Nat.le_refl _) hbel
      have hzw := hz.mono (Nat.le_refl _) hbel
      have hx1 := hx.lt i
      have hz1 := hz.lt i
      have Ex := Lib.hid (val_take_getD xs i)
      have Ez := Lib.hid (val_take_getD zs i)
      have ca1 := at_calls ad1 c1 xs i _ wr hxw rfl
      have ca2 := at_calls ad2 c2 zs i _ wr hzw rfl
      obtain ⟨x, ex⟩ : ∃ x, xs.getD i 0 = x := ⟨_, rfl⟩
      obtain ⟨y, ey⟩ : ∃ x, zs.getD i 0 = x := ⟨_, rfl⟩
      rw [ex] at hx1 ca1
      rw [ey] at hz1 ca2
      have Ex2 := Lib.hid ex
      have Ey2 := Lib.hid ey
      clear ex ey
      have hd : (4294967296 + (x : Int) - (y : Int) - (c : Int)) % 4294967296 = (((4294967296 + x - y - c) % 4294967296 : Nat) : Int) := by omega
      have hd2 : (4294967296 + x - y - c) % 4294967296 < 4294967296 := Nat.mod_lt _ (by omega)
      have hq : (4294967296 + (x : Int) - (y : Int) - (c : Int)) / 4294967296 = (((4294967296 + x - y - c) / 4294967296 : Nat) : Int) := by omega
      have hq2 : (4294967296 + x - y - c) / 4294967296 ≤ 1 := by omega
      have hdm := Nat.div_add_mod (4294967296 + x - y - c) 4294967296
      have hsum : 4294967296 + x - y - c + y + c = 4294967296 + x := by omega
      generalize (4294967296 + x - y - c) / 4294967296 = q at *
      generalize (4294967296 + x - y - c) % 4294967296 = d at *
      have hq3 : (1 : Int) - (q : Int) = ((1 - q : Nat) : Int) := by omega
      have hdm2 : 4294967296 * q + d + y + c = 4294967296 + x := by omega
      have Hdm := Lib.hid hdm2
      clear hdm hdm2 hsum
      have hown2 := hown.mono (below_alloc wr (.cells #[Value.int .u32 (d : Int)] 91))
      have hsl2 := sl_one wr d d rfl hd2 91
      have hbel2 := below_trans hbel (below_alloc wr (.cells #[Value.int .u32 (d : Int)] 91))
      go_wp2_with fail
      refine ca1.mono ?_
      rintro e w' ⟨rfl, rfl⟩
      go_wp2_with fail
      refine ca2.mono ?_
      rintro e w' ⟨rfl, rfl⟩
      go_wp2_with (at_builtin; refine wpList_append_lims rfl (.tmp 26) (.tmp 30) _ rfl Try.underlying80 info32 w.heap.size _ _ rfl hown2 hbel2.size _ 1 _ _ rfl rfl hsl2 (by rw [Hlo.out]; simp; omega) ?_; intro v3 w3 hown3 hb3)
      go_roundw
      case rel =>
        refine ⟨i + 1, 1 - q, out ++ [d], by omega, by go_num, congrArg (Value.int .u64) (by omega), by omega, by simp [Hlo.out], hown3, hbel2.trans hb3, ?_⟩
        rw [Ex.out, Ez.out, Ex2.out, Ey2.out, val_snoc, Hlo.out, Nat.pow_succ]
        exact rsub_step _ _ _ _ _ _ _ _ _ Hval.out Hdm.out hq2
      case measure => simp [intOf]; omega
    · obtain rfl : i = xs.length := by omega
      have hv : val out = val xs - val zs := by
        have h := Hval.out
        rw [List.take_of_length_le (Nat.le_refl _), List.take_of_length_le b2] at h
        have hlt := val_lt out hown.2
        rw [Hlo.out] at hlt
        have hc0 : c = 0 := by
          by_cases h0 : c = 0
          · exact h0
          · obtain rfl : c = 1 := by omega
            omega
        subst hc0
        omega
      have Hv := Lib.hid hv
      clear hv
      obtain ⟨ad', c', rfl, hs', hf'⟩ := hown.sl
      rw [Hlo.out]
      go_wp2_with fail
      refine (rtrim_calls _ _ _ _ _ hs' Hlo.out.symm (by rw [Hlo.out]; omega)).mono ?_
      rintro e w4 ⟨v4, rfl, hv4, hf4, hb4⟩
      rw [Hv.out] at hv4
      go_wp2
      go_ret
      exact ⟨_, rfl, hv4, hf4.mono hbel.size, below_trans hbel hb4⟩

theorem rsub_calls (v1 v2 : Value) (m n : Nat) (w : World) (h1 : Num w v1 m) (h2 : Num w v2 n) (hle : n ≤ m) (b1 : (limbs m).length ≤ 400000000) :
    Calls Try.prog 87 #[v1, v2] w (RetNum w (m - n)) := by
  obtain ⟨ad1, c1, rfl, s1⟩ := h1
  obtain ⟨ad2, c2, rfl, s2⟩ := h2
  have := rsub_raw ad1 ad2 c1 c2 _ _ w s1 s2 b1 (limbs_length_mono hle) (by rw [val_limbs, val_limbs]; exact hle)
  rwa [val_limbs, val_limbs] at this

end Go.Proofs

open Go.RowKit
namespace Go.Proofs
set_option linter.unusedVariables false
set_option linter.unusedSimpArgs false


theorem rtimes_calls (v : Value) (m d : Nat) (z : Int) (w : World) (hv : Num w v m) (hz : z = (d : Int)) (hd2 : d < 4294967296) (hreach : (limbs m).length ≤ 400000000) :
    Calls Try.prog 85 #[v, .int .u32 z] w (RetNum w (m * d)) := by
  subst hz
  have hl : (limbs d).length ≤ 1 := limbs_length_le (by omega)
  go_enter Try.func85, Try.ntmps85
  go_wp2_with fail
  refine (rof_calls d _ _ (by first | rfl | omega) (by omega)).mono ?_
  rintro e w1 ⟨v1, rfl, h1, _, b1⟩
  have hv1 := hv.mono b1
  go_wp2_with fail
  refine (rmul_calls _ _ m d _ hv1 h1 hreach (by omega)).mono ?_
  rintro e w2 ⟨v2, rfl, h2, f2, b2⟩
  go_wp2
  go_ret
  exact ⟨_, rfl, h2, f2.mono b1.size, below_trans b1 b2⟩

end Go.Proofs
