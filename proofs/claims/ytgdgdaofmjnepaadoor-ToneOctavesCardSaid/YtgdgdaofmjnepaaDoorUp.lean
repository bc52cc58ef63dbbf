/- nat.up: times a power of 2. -/
import Derived.Test.YtgdgdaofmjnepaaDoorTrim
open Go.RowKit
namespace Go.Proofs
set_option linter.unusedVariables false

theorem up_lo (x r : Nat) (hr : r ≤ 32) : (x * 2 ^ r) % 4294967296 = (x % 2 ^ (32 - r)) * 2 ^ r := by
  have e : (4294967296 : Nat) = 2 ^ (32 - r) * 2 ^ r := by
    rw [← Nat.pow_add, Nat.sub_add_cancel hr]
  rw [e, Nat.mul_mod_mul_right]

theorem or_small (k y r : Nat) (hk : k < 2 ^ r) (h : y * 2 ^ r < 4294967296) (hk2 : k < 4294967296) : bits BinOp.or IntKind.u32 (k : Int) ((y * 2 ^ r : Nat) : Int) = ((k + y * 2 ^ r : Nat) : Int) := by
  rw [(bits_u32 k (y * 2 ^ r) hk2 h).2.1, Nat.or_comm, Nat.mul_comm y, ← Nat.two_pow_add_eq_or_of_lt hk, Nat.add_comm]

theorem wrap_shl (x r : Nat) (hx : x < 4294967296) (hp : 2 ^ r ≤ 2147483648) : IntKind.u64.wrap ((x : Int) * 2 ^ r) = ((x * 2 ^ r : Nat) : Int) := by
  have hle : x * 2 ^ r ≤ 4294967296 * 2147483648 := Nat.mul_le_mul (by omega) hp
  have e : (x : Int) * 2 ^ r = ((x * 2 ^ r : Nat) : Int) := by rw [Int.natCast_mul]; congr 1
  rw [e, IntKind.wrap_u64]
  omega

theorem up_val (pw pi p2 vt x lo hi k vR v1 v2 : Nat) (h0 : vR = pw * (vt * p2)) (h1 : v1 + (pw * pi) * k = vR + (pw * pi) * (k + lo)) (h2 : v2 + (pw * pi) * 4294967296 * 0 = v1 + (pw * pi) * 4294967296 * hi) (ht : 4294967296 * hi + lo = x * p2) :
    v2 = pw * ((vt + pi * x) * p2) := by
  grind

set_option maxRecDepth 100000 in
theorem up_raw (ad : Option Addr) (c n : Nat) (xs : List Nat) (w : World) (hx : Sl w ad c xs) (h0 : 0 < xs.length) (hreach : xs.length ≤ 1000000000) (hn : n ≤ 32000000000) :
    Calls Tryd.prog 122 #[.slice ad xs.length c, .int .i64 n] w (RetNum w (val xs * 2 ^ n)) := by
  obtain ⟨words, hw⟩ : ∃ k, k = n / 32 := ⟨_, rfl⟩
  obtain ⟨rest, hr⟩ : ∃ k, k = n % 32 := ⟨_, rfl⟩
  have ew : (n : Int) / 32 = (words : Int) := by omega
  have er : (n : Int) % 32 = (rest : Int) := by omega
  have hr31 : rest ≤ 31 := by omega
  have hwb : words ≤ 1000000000 := by omega
  have Hw := Lib.hid hw
  have Hr := Lib.hid hr
  clear hw hr
  have t0 : ((xs.length : Int) == 0) = false := by rw [beq_eq_false_iff_ne]; omega
  go_enter Tryd.func122, Tryd.ntmps122
  go_wp2_with (at_make; refine wpList_make_nums _ rfl _ _ 55 rfl 102 Tryd.underlying55 info32 _ _ _ _ (xs.length + words + 1) rfl rfl (by omega) (by omega) (by omega) ?_; intro w1 hr1 hb1 hs1)
  clear ew er
  go_loopw [27] (fun iv wr => ∃ (i k : Nat) (R : List Nat), i ≤ xs.length ∧ k < 2 ^ rest ∧ iv = .int .i64 i ∧ R.length = xs.length + words + 1 ∧ Row wr w.heap.size R ∧ Below w.heap.size w wr ∧
      R.getD (i + words) 0 = k ∧ (∀ j, i + words < j → R.getD j 0 = 0) ∧ val R = 4294967296 ^ words * (val (xs.take i) * 2 ^ rest))
    (fun iv _ => xs.length - (intOf iv).toNat)
  case atStart =>
    refine ⟨0, 0, List.replicate (xs.length + words + 1) 0, Nat.zero_le _, Nat.two_pow_pos _, rfl, by simp, hr1, hb1, getD_replicate _ _, fun j _ => getD_replicate _ _, ?_⟩
    rw [val_replicate, List.take_zero, val, Nat.zero_mul, Nat.mul_zero]
  case round =>
    obtain ⟨i, k, R, hi, hk, rfl, hlR, hrow, hbel, hcar, htail, hval⟩ := hrel
    have hp : 2 ^ rest ≤ 2147483648 := Nat.le_trans (Nat.pow_le_pow_right (by omega) hr31) (by decide)
    have HlR := Lib.hid hlR
    have Hval := Lib.hid hval
    have Hrow := Lib.hid hrow
    have Htail := Lib.hid htail
    have Hcar := Lib.hid hcar
    clear hlR hval hrow htail hcar
    by_cases hlt : i < xs.length
    · obtain ⟨b, o, rfl, hbs, hcell, hfr⟩ := hx.open hlt
      have hx1 := hx.lt i
      obtain ⟨x, ex⟩ : ∃ x, xs.getD i 0 = x := ⟨_, rfl⟩
      rw [ex] at hcell hx1
      have hcell' := (hbel.cell (p := ⟨b, o + i, none⟩) hbs).trans hcell
      have Hx := Lib.hid ex
      have oc := Hrow.out.cell (i := i + words) (by have := HlR.out; omega)
      have of := Hrow.out.free (i + words)
      have oc2 := Hrow.out.cell (i := i + words + 1) (by have := HlR.out; omega)
      have of2 := Hrow.out.free (i + words + 1)
      rw [Hcar.out] at oc
      rw [Htail.out _ (by omega)] at oc2
      clear ex hcell hfr
      have e1 := wrap_shl x rest hx1 hp
      have elo := up_lo x rest (by omega)
      have hdm := Nat.div_add_mod (x * 2 ^ rest) 4294967296
      have hhi : x * 2 ^ rest / 4294967296 < 2 ^ rest := Nat.div_lt_of_lt_mul (Nat.mul_lt_mul_of_pos_right hx1 (Nat.two_pow_pos _))
      have hlo : x * 2 ^ rest % 4294967296 < 4294967296 := Nat.mod_lt _ (by omega)
      have hlo2 : x % 2 ^ (32 - rest) * 2 ^ rest + 2 ^ rest ≤ 4294967296 := by
        have h1 : x % 2 ^ (32 - rest) < 2 ^ (32 - rest) := Nat.mod_lt _ (Nat.two_pow_pos _)
        have h2 : (x % 2 ^ (32 - rest) + 1) * 2 ^ rest ≤ 2 ^ (32 - rest) * 2 ^ rest := Nat.mul_le_mul_right _ h1
        rw [← Nat.pow_add, Nat.sub_add_cancel (by omega)] at h2
        have e : (2 : Nat) ^ 32 = 4294967296 := by decide
        rw [e, Nat.add_mul] at h2
        omega
      have eor := or_small k (x % 2 ^ (32 - rest)) rest hk (by omega) (by omega)
      rw [← elo] at eor hlo2
      have E1 := Lib.hid e1
      have Hdm := Lib.hid hdm
      have Eor := Lib.hid eor
      have Hhi := Lib.hid hhi
      have Hlo2 := Lib.hid hlo2
      clear e1 hdm eor elo hhi hlo2 hlo
      go_wp2
      go_roundw
      case rel =>
        have hlo2 := Hlo2.out
        have hhi := Hhi.out
        rw [E1.out]
        have e3 : ((x * 2 ^ rest : Nat) : Int) % 4294967296 = ((x * 2 ^ rest % 4294967296 : Nat) : Int) := by omega
        have e4 : ((x * 2 ^ rest : Nat) : Int) / 4294967296 % 4294967296 = ((x * 2 ^ rest / 4294967296 : Nat) : Int) := by omega
        rw [e3, e4, Eor.out]
        have hs1 := val_set R (i + words) (k + x * 2 ^ rest % 4294967296) (by have := HlR.out; omega)
        have hs2 := val_set (R.set (i + words) (k + x * 2 ^ rest % 4294967296)) (i + words + 1) (x * 2 ^ rest / 4294967296) (by have := HlR.out; rw [List.length_set]; omega)
        rw [Hcar.out, Nat.add_comm i words, Nat.pow_add] at hs1
        rw [getD_set_ne _ _ (by omega), Htail.out _ (by omega), Nat.pow_succ, Nat.add_comm i words, Nat.pow_add] at hs2
        refine ⟨i + 1, x * 2 ^ rest / 4294967296, (R.set (i + words) (k + x * 2 ^ rest % 4294967296)).set (i + words + 1) (x * 2 ^ rest / 4294967296), by omega, hhi, by go_num, by simp [HlR.out],
          (Hrow.out.put _ _ (by omega) _ rfl).put _ _ (by omega) _ rfl, (hbel.setCell (Nat.le_refl _) _).setCell (Nat.le_refl _) _, ?_, ?_, ?_⟩
        · rw [show i + 1 + words = i + words + 1 by omega]
          exact getD_set_eq _ _ (by have := HlR.out; rw [List.length_set]; omega)
        · intro j hj
          rw [getD_set_ne _ _ (by omega), getD_set_ne _ _ (by omega)]
          exact Htail.out j (by omega)
        · have hv := Hval.out
          have hd := Hdm.out
          rw [val_take_succ _ _ hlt, Hx.out]
          rw [Nat.add_comm words i] at hs1 hs2
          generalize x * 2 ^ rest / 4294967296 = hi at *
          generalize x * 2 ^ rest % 4294967296 = lo at *
          generalize 4294967296 ^ words = pw at *
          generalize 4294967296 ^ i = pi at *
          generalize 2 ^ rest = p2 at *
          exact up_val pw pi p2 _ x lo hi k _ _ _ hv hs1 hs2 hd
      case measure => simp [intOf]; omega
    · obtain rfl : i = xs.length := by omega
      have hsl := Hrow.out.whole (by rw [HlR.out]; unfold maxLen; omega)
      rw [HlR.out] at hsl
      have hv2 : val R = val xs * 2 ^ n := by
        rw [Hval.out, List.take_of_length_le (Nat.le_refl _)]
        have e : n = 32 * words + rest := by have := Hw.out; have := Hr.out; omega
        have e2 : (4294967296 : Nat) = 2 ^ 32 := by decide
        rw [e, Nat.pow_add, Nat.pow_mul, ← e2]
        grind
      have Hv2 := Lib.hid hv2
      clear hv2
      go_wp2_with (go_at_call 116; refine (trim_calls _ _ _ R _ hsl HlR.out.symm).mono ?_; rintro e w' ⟨kk, rfl, hnum, rfl⟩)
      go_ret
      rw [Hv2.out] at hnum
      exact ⟨_, rfl, hnum, Nat.le_refl _, hbel⟩

/-- up multiplies by a power of 2. -/
theorem up_calls (v : Value) (m n : Nat) (z : Int) (w : World) (hv : Num w v m) (hz : z = (n : Int)) (hreach : (limbs m).length ≤ 1000000000) (hn : n ≤ 32000000000) :
    Calls Tryd.prog 122 #[v, .int .i64 z] w (RetNum w (m * 2 ^ n)) := by
  obtain ⟨ad, c, rfl, hs⟩ := hv
  subst hz
  by_cases h0 : 0 < (limbs m).length
  · have := up_raw ad c n _ w hs h0 hreach hn
    rwa [val_limbs] at this
  · have hm : m = 0 := limbs_eq_nil.1 (List.eq_nil_of_length_eq_zero (by omega))
    subst hm
    have t0 : (((limbs 0).length : Int) == 0) = true := by rw [beq_iff_eq]; omega
    rw [Nat.zero_mul]
    go_enter Tryd.func122, Tryd.ntmps122
    go_wp2
    go_ret
    exact ⟨_, rfl, Num.nil _, trivial, Below.refl _ _⟩

end Go.Proofs
