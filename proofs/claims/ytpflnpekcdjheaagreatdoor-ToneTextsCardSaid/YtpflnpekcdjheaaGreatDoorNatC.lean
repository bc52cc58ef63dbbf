/- nat.up: times a power of 2. nat.down: divided by a power of 2. The guess of a quotient's limb (Knuth, algorithm D): plain arithmetic. nat.digit: one limb of a quotient. nat.part: the quotient and the remainder. nat.Check, nat.valid, nat.short. -/
import Derived.Test.YtpflnpekcdjheaaGreatDoorNatA
import Derived.Deep.RegionWith
import Derived.Deep.DeepCutAuto
import Derived.Deep.CutBlock
open Go.RowKit
namespace Go.Proofs
set_option linter.unusedVariables false
set_option linter.unusedSimpArgs false

theorem up_lo (x r : Nat) (hr : r ≤ 32) : (x * 2 ^ r) % 4294967296 = (x % 2 ^ (32 - r)) * 2 ^ r := by
  have e : (4294967296 : Nat) = 2 ^ (32 - r) * 2 ^ r := by
    rw [← Nat.pow_add, Nat.sub_add_cancel hr]
  rw [e, Nat.mul_mod_mul_right]

theorem or_small (k y r : Nat) (hk : k < 2 ^ r) (h : y * 2 ^ r < 4294967296) (hk2 : k < 4294967296) : bits BinOp.or IntKind.u32 (k : Int) ((y * 2 ^ r : Nat) : Int) = ((k + y * 2 ^ r : Nat) : Int) := by
  rw [(bits_u32 k (y * 2 ^ r) hk2 h).2.1, Nat.or_comm, Nat.mul_comm y, ← Nat.two_pow_add_eq_or_of_lt hk, Nat.add_comm]

theorem wrap_shl (x r : Nat) (hx : x < 4294967296) (hp : 2 ^ r ≤ 2147483648) : IntKind.u64.wrap ((x : Int) * 2 ^ r) = ((x * 2 ^ r : Nat) : Int) := by
  have hle : x * 2 ^ r ≤ 4294967296 * 2147483648 := Nat.mul_le_mul (by omega) hp
  have e : (x : Int) * 2 ^ r = ((x * 2 ^ r : Nat) : Int) := by rw [Int.natCast_mul]; congr 1
  rw [e, IntKind.wrap_u64]
  omega

theorem up_val (pw pi p2 vt x lo hi k vR v1 v2 : Nat) (h0 : vR = pw * (vt * p2)) (h1 : v1 + (pw * pi) * k = vR + (pw * pi) * (k + lo)) (h2 : v2 + (pw * pi) * 4294967296 * 0 = v1 + (pw * pi) * 4294967296 * hi) (ht : 4294967296 * hi + lo = x * p2) :
    v2 = pw * ((vt + pi * x) * p2) := by
  grind

set_option maxRecDepth 100000 in
theorem up_raw (ad : Option Addr) (c n : Nat) (xs : List Nat) (w : World) (hx : Sl w ad c xs) (h0 : 0 < xs.length) (hreach : xs.length ≤ 1000000000) (hn : n ≤ 32000000000) :
    Calls Tryz.prog 81 #[.slice ad xs.length c, .int .i64 n] w (RetNum w (val xs * 2 ^ n)) := by
  obtain ⟨words, hw⟩ : ∃ k, k = n / 32 := ⟨_, rfl⟩
  obtain ⟨rest, hr⟩ : ∃ k, k = n % 32 := ⟨_, rfl⟩
  have ew : (n : Int) / 32 = (words : Int) := by omega
  have er : (n : Int) % 32 = (rest : Int) := by omega
  have hr31 : rest ≤ 31 := by omega
  have hwb : words ≤ 1000000000 := by omega
  have Hw := Lib.hid hw
  have Hr := Lib.hid hr
  clear hw hr
  have t0 : ((xs.length : Int) == 0) = false := by rw [beq_eq_false_iff_ne]; omega
  go_enter Tryz.func81, Tryz.ntmps81
  go_wp2_with (at_make; refine wpList_make_nums _ rfl _ _ 66 rfl 93 Tryz.underlying66 info32 _ _ _ _ (xs.length + words + 1) rfl rfl (by omega) (by omega) (by omega) ?_; intro w1 hr1 hb1 hs1)
  clear ew er
  go_loopw [27] (fun iv wr => ∃ (i k : Nat) (R : List Nat), i ≤ xs.length ∧ k < 2 ^ rest ∧ iv = .int .i64 i ∧ R.length = xs.length + words + 1 ∧ Row wr w.heap.size R ∧ Below w.heap.size w wr ∧
      R.getD (i + words) 0 = k ∧ (∀ j, i + words < j → R.getD j 0 = 0) ∧ val R = 4294967296 ^ words * (val (xs.take i) * 2 ^ rest))
    (fun iv _ => xs.length - (intOf iv).toNat)
  case atStart =>
    refine ⟨0, 0, List.replicate (xs.length + words + 1) 0, Nat.zero_le _, Nat.two_pow_pos _, rfl, by simp, hr1, hb1, getD_replicate _ _, fun j _ => getD_replicate _ _, ?_⟩
    rw [val_replicate, List.take_zero, val, Nat.zero_mul, Nat.mul_zero]
  case round =>
    obtain ⟨i, k, R, hi, hk, rfl, hlR, hrow, hbel, hcar, htail, hval⟩ := hrel
    have hp : 2 ^ rest ≤ 2147483648 := Nat.le_trans (Nat.pow_le_pow_right (by omega) hr31) (by decide)
    have HlR := Lib.hid hlR
    have Hval := Lib.hid hval
    have Hrow := Lib.hid hrow
    have Htail := Lib.hid htail
    have Hcar := Lib.hid hcar
    clear hlR hval hrow htail hcar
    by_cases hlt : i < xs.length
    · obtain ⟨b, o, rfl, hbs, hcell, hfr⟩ := hx.open hlt
      have hx1 := hx.lt i
      obtain ⟨x, ex⟩ : ∃ x, xs.getD i 0 = x := ⟨_, rfl⟩
      rw [ex] at hcell hx1
      have hcell' := (hbel.cell (p := ⟨b, o + i, none⟩) hbs).trans hcell
      have Hx := Lib.hid ex
      have oc := Hrow.out.cell (i := i + words) (by have := HlR.out; omega)
      have of := Hrow.out.free (i + words)
      have oc2 := Hrow.out.cell (i := i + words + 1) (by have := HlR.out; omega)
      have of2 := Hrow.out.free (i + words + 1)
      rw [Hcar.out] at oc
      rw [Htail.out _ (by omega)] at oc2
      clear ex hcell hfr
      have e1 := wrap_shl x rest hx1 hp
      have elo := up_lo x rest (by omega)
      have hdm := Nat.div_add_mod (x * 2 ^ rest) 4294967296
      have hhi : x * 2 ^ rest / 4294967296 < 2 ^ rest := Nat.div_lt_of_lt_mul (Nat.mul_lt_mul_of_pos_right hx1 (Nat.two_pow_pos _))
      have hlo : x * 2 ^ rest % 4294967296 < 4294967296 := Nat.mod_lt _ (by omega)
      have hlo2 : x % 2 ^ (32 - rest) * 2 ^ rest + 2 ^ rest ≤ 4294967296 := by
        have h1 : x % 2 ^ (32 - rest) < 2 ^ (32 - rest) := Nat.mod_lt _ (Nat.two_pow_pos _)
        have h2 : (x % 2 ^ (32 - rest) + 1) * 2 ^ rest ≤ 2 ^ (32 - rest) * 2 ^ rest := Nat.mul_le_mul_right _ h1
        rw [← Nat.pow_add, Nat.sub_add_cancel (by omega)] at h2
        have e : (2 : Nat) ^ 32 = 4294967296 := by decide
        rw [e, Nat.add_mul] at h2
        omega
      have eor := or_small k (x % 2 ^ (32 - rest)) rest hk (by omega) (by omega)
      rw [← elo] at eor hlo2
      have E1 := Lib.hid e1
      have Hdm := Lib.hid hdm
      have Eor := Lib.hid eor
      have Hhi := Lib.hid hhi
      have Hlo2 := Lib.hid hlo2
      clear e1 hdm eor elo hhi hlo2 hlo
      go_wp2
      go_roundw
      case rel =>
        have hlo2 := Hlo2.out
        have hhi := Hhi.out
        rw [E1.out]
        have e3 : ((x * 2 ^ rest : Nat) : Int) % 4294967296 = ((x * 2 ^ rest % 4294967296 : Nat) : Int) := by omega
        have e4 : ((x * 2 ^ rest : Nat) : Int) / 4294967296 % 4294967296 = ((x * 2 ^ rest / 4294967296 : Nat) : Int) := by omega
        rw [e3, e4, Eor.out]
        have hs1 := val_set R (i + words) (k + x * 2 ^ rest % 4294967296) (by have := HlR.out; omega)
        have hs2 := val_set (R.set (i + words) (k + x * 2 ^ rest % 4294967296)) (i + words + 1) (x * 2 ^ rest / 4294967296) (by have := HlR.out; rw [List.length_set]; omega)
        rw [Hcar.out, Nat.add_comm i words, Nat.pow_add] at hs1
        rw [getD_set_ne _ _ (by omega), Htail.out _ (by omega), Nat.pow_succ, Nat.add_comm i words, Nat.pow_add] at hs2
        refine ⟨i + 1, x * 2 ^ rest / 4294967296, (R.set (i + words) (k + x * 2 ^ rest % 4294967296)).set (i + words + 1) (x * 2 ^ rest / 4294967296), by omega, hhi, by go_num, by simp [HlR.out],
          (Hrow.out.put _ _ (by omega) _ rfl).put _ _ (by omega) _ rfl, (hbel.setCell (Nat.le_refl _) _).setCell (Nat.le_refl _) _, ?_, ?_, ?_⟩
        · rw [show i + 1 + words = i + words + 1 by omega]
          exact getD_set_eq _ _ (by have := HlR.out; rw [List.length_set]; omega)
        · intro j hj
          rw [getD_set_ne _ _ (by omega), getD_set_ne _ _ (by omega)]
          exact Htail.out j (by omega)
        · have hv := Hval.out
          have hd := Hdm.out
          rw [val_take_succ _ _ hlt, Hx.out]
          rw [Nat.add_comm words i] at hs1 hs2
          generalize x * 2 ^ rest / 4294967296 = hi at *
          generalize x * 2 ^ rest % 4294967296 = lo at *
          generalize 4294967296 ^ words = pw at *
          generalize 4294967296 ^ i = pi at *
          generalize 2 ^ rest = p2 at *
          exact up_val pw pi p2 _ x lo hi k _ _ _ hv hs1 hs2 hd
      case measure => simp [intOf]; omega
    · obtain rfl : i = xs.length := by omega
      have hsl := Hrow.out.whole (by rw [HlR.out]; unfold maxLen; omega)
      rw [HlR.out] at hsl
      have hv2 : val R = val xs * 2 ^ n := by
        rw [Hval.out, List.take_of_length_le (Nat.le_refl _)]
        have e : n = 32 * words + rest := by have := Hw.out; have := Hr.out; omega
        have e2 : (4294967296 : Nat) = 2 ^ 32 := by decide
        rw [e, Nat.pow_add, Nat.pow_mul, ← e2]
        grind
      have Hv2 := Lib.hid hv2
      clear hv2
      go_wp2_with (go_at_call 83; refine (trim_calls _ _ _ R _ hsl HlR.out.symm).mono ?_; rintro e w' ⟨kk, rfl, hnum, rfl⟩)
      go_ret
      rw [Hv2.out] at hnum
      exact ⟨_, rfl, hnum, Nat.le_refl _, hbel⟩

/-- up multiplies by a power of 2. -/
theorem up_calls (v : Value) (m n : Nat) (z : Int) (w : World) (hv : Num w v m) (hz : z = (n : Int)) (hreach : (limbs m).length ≤ 1000000000) (hn : n ≤ 32000000000) :
    Calls Tryz.prog 81 #[v, .int .i64 z] w (RetNum w (m * 2 ^ n)) := by
  obtain ⟨ad, c, rfl, hs⟩ := hv
  subst hz
  by_cases h0 : 0 < (limbs m).length
  · have := up_raw ad c n _ w hs h0 hreach hn
    rwa [val_limbs] at this
  · have hm : m = 0 := limbs_eq_nil.1 (List.eq_nil_of_length_eq_zero (by omega))
    subst hm
    have t0 : (((limbs 0).length : Int) == 0) = true := by rw [beq_iff_eq]; omega
    rw [Nat.zero_mul]
    go_enter Tryz.func81, Tryz.ntmps81
    go_wp2
    go_ret
    exact ⟨_, rfl, Num.nil _, trivial, Below.refl _ _⟩

end Go.Proofs

open Go.RowKit
namespace Go.Proofs
set_option linter.unusedVariables false
set_option linter.unusedSimpArgs false

theorem set_at_end (ds zs : List Nat) (i d : Nat) (hl : ds.length = i) (hi : i < zs.length) : (ds ++ zs.drop i).set i d = (ds ++ [d]) ++ zs.drop (i + 1) := by
  subst hl
  rw [List.set_append_right _ _ (Nat.le_refl _), Nat.sub_self, List.drop_eq_getElem_cons hi, List.set_cons_zero, List.append_assoc]
  rfl

theorem getD_at_end (ds zs : List Nat) (i k : Nat) (hl : ds.length = i) : (ds ++ zs.drop i).getD (i + k) 0 = zs.getD (i + k) 0 := by
  subst hl
  simp [List.getD, List.getElem?_append_right]

theorem cast_shr (x y r : Nat) : ((y : Int) * 4294967296 + (x : Int)) / 2 ^ r % 4294967296 = (((x + 4294967296 * y) / 2 ^ r % 4294967296 : Nat) : Int) := by
  have e1 : (y : Int) * 4294967296 + (x : Int) = ((x + 4294967296 * y : Nat) : Int) := by omega
  have e2 : (2 : Int) ^ r = ((2 ^ r : Nat) : Int) := by simp
  rw [e1, e2, ← Int.natCast_ediv]
  omega

theorem cast_shr0 (x r : Nat) : (x : Int) / 2 ^ r % 4294967296 = (((x + 4294967296 * 0) / 2 ^ r % 4294967296 : Nat) : Int) := by
  have e2 : (2 : Int) ^ r = ((2 ^ r : Nat) : Int) := by simp
  rw [Nat.mul_zero, Nat.add_zero, e2, ← Int.natCast_ediv]
  omega

set_option maxRecDepth 100000 in
theorem down_raw (ad : Option Addr) (c n : Nat) (xs : List Nat) (w : World) (hx : Sl w ad c xs) (h0 : n / 32 < xs.length) (hreach : xs.length ≤ 1000000000) (hn : n ≤ 32000000000) :
    Calls Tryz.prog 79 #[.slice ad xs.length c, .int .i64 n] w (RetNum w (val (xs.drop (n / 32)) / 2 ^ (n % 32))) := by
  obtain ⟨words, hw⟩ : ∃ k, k = n / 32 := ⟨_, rfl⟩
  obtain ⟨rest, hr⟩ : ∃ k, k = n % 32 := ⟨_, rfl⟩
  have ew : (n : Int) / 32 = (words : Int) := by omega
  have er : (n : Int) % 32 = (rest : Int) := by omega
  have hr31 : rest ≤ 31 := by omega
  rw [← hw] at h0
  rw [← hw, ← hr]
  obtain ⟨b, o, rfl, hbs, _, _⟩ := hx.open h0
  have hc := hx.1
  have hcm := hx.2.1
  unfold maxLen at hcm
  have hsd := hx.drop b o words rfl (by omega)
  have hdl : (xs.drop words).length = xs.length - words := List.length_drop
  have Hdl := Lib.hid hdl
  clear hw hr hdl
  go_enter Tryz.func79, Tryz.ntmps79
  go_wp2_with fail
  clear ew er
  refine (own_raw _ _ _ _ w hsd Hdl.out.symm (by have := Hdl.out; omega)).mono ?_
  rintro e w1 ⟨ad', c', rfl, hs1, hf1, hb1⟩
  have Hs1 := Lib.hid hs1
  have hzl : (xs.drop words).length ≤ 4000000000 := by have := Hdl.out; omega
  rw [← Hdl.out]
  generalize xs.drop words = zs at *
  clear Hdl hsd hs1
  go_wp2_with fail
  go_loopw [25] (fun iv wr => ∃ (i : Nat) (ds : List Nat), i ≤ zs.length ∧ ds.length = i ∧ iv = .int .i64 i ∧ Sl wr ad' c' (ds ++ zs.drop i) ∧ Below w.heap.size w wr ∧
      val ds + 4294967296 ^ i * (val (zs.drop i) / 2 ^ rest) = val zs / 2 ^ rest)
    (fun iv _ => zs.length - (intOf iv).toNat)
  case atStart => exact ⟨0, [], Nat.zero_le _, rfl, rfl, by simpa using Hs1.out, hb1, by simp [val]⟩
  case round =>
    obtain ⟨i, ds, hi, hdl, rfl, hsl, hbel, hval⟩ := hrel
    have Hdl := Lib.hid hdl
    have Hval := Lib.hid hval
    have Hsl := Lib.hid hsl
    clear hdl hval hsl
    by_cases hlt : i < zs.length
    · have hfull : (ds ++ zs.drop i).length = zs.length := by rw [List.length_append, List.length_drop, Hdl.out]; omega
      obtain ⟨b2, o2, rfl, hbs2, hcell, hfr⟩ := Hsl.out.open (i := i) (by omega)
      have hB := hf1 _ rfl
      have hz1 := Hsl.out.lt i
      have ez : (ds ++ zs.drop i).getD i 0 = zs.getD i 0 := getD_at_end ds zs i 0 Hdl.out
      rw [ez] at hcell hz1
      have hnext : i + 1 < zs.length → wr.cell? ⟨b2, o2 + (i + 1), none⟩ = some (.int .u32 (zs.getD (i + 1) 0)) ∧ zs.getD (i + 1) 0 < 4294967296 := by
        intro h
        obtain ⟨b3, o3, e3, _, hc3, _⟩ := Hsl.out.open (i := i + 1) (by omega)
        have hl3 := Hsl.out.lt (i + 1)
        cases e3
        have ez3 : (ds ++ zs.drop i).getD (i + 1) 0 = zs.getD (i + 1) 0 := getD_at_end ds zs i 1 Hdl.out
        rw [ez3] at hc3 hl3
        exact ⟨hc3, hl3⟩
      have hvi := val_drop_cons zs i hlt
      obtain ⟨x, ex⟩ : ∃ x, zs.getD i 0 = x := ⟨_, rfl⟩
      rw [ex] at hcell hz1 hvi
      have Hfull := Lib.hid hfull
      clear hfull ez ex
      by_cases hn1 : i + 1 < zs.length
      · obtain ⟨hcell2, hy1⟩ := hnext hn1
        have hvi2 := val_drop_cons zs (i + 1) hn1
        obtain ⟨y, ey⟩ : ∃ x, zs.getD (i + 1) 0 = x := ⟨_, rfl⟩
        rw [ey] at hcell2 hy1 hvi2
        have hor := or_limbs' y x hy1 hz1
        have Hvi := Lib.hid hvi
        have Hvi2 := Lib.hid hvi2
        clear hnext ey hvi hvi2
        go_wp2
        go_roundw
        case rel =>
          have hd := down_digit x (val (zs.drop (i + 1))) rest (by omega) hz1
          have hm : val (zs.drop (i + 1)) % 4294967296 = y := by rw [Hvi2.out, Nat.add_mul_mod_self_left, Nat.mod_eq_of_lt hy1]
          rw [hm, ← Hvi.out] at hd
          have hset := Hsl.out.set i ((x + 4294967296 * y) / 2 ^ rest % 4294967296) (by rw [Hfull.out]; exact hlt) (Nat.mod_lt _ (by omega)) _ (cast_shr x y rest)
          rw [set_at_end _ _ _ _ Hdl.out hlt] at hset
          refine ⟨i + 1, ds ++ [(x + 4294967296 * y) / 2 ^ rest % 4294967296], by omega, by simp [Hdl.out], by go_num, hset, hbel.setCell (p := ⟨b2, o2 + i, none⟩) hB _, ?_⟩
          rw [val_snoc, Hdl.out, ← Hval.out, hd, Nat.pow_succ]
          generalize (x + 4294967296 * y) / 2 ^ rest % 4294967296 = d
          generalize val (zs.drop (i + 1)) / 2 ^ rest = q
          generalize 4294967296 ^ i = p
          grind
        case measure => simp [intOf]; omega
      · have hv0 : val (zs.drop (i + 1)) = 0 := by rw [List.drop_of_length_le (by omega)]; rfl
        have Hvi := Lib.hid hvi
        have Hv0 := Lib.hid hv0
        clear hnext hvi hv0
        go_wp2
        go_roundw
        case rel =>
          have hd := down_digit x (val (zs.drop (i + 1))) rest (by omega) hz1
          rw [← Hvi.out, Hv0.out, Nat.zero_mod] at hd
          have hset := Hsl.out.set i ((x + 4294967296 * 0) / 2 ^ rest % 4294967296) (by rw [Hfull.out]; exact hlt) (Nat.mod_lt _ (by omega)) _ (cast_shr0 x rest)
          rw [set_at_end _ _ _ _ Hdl.out hlt] at hset
          refine ⟨i + 1, ds ++ [(x + 4294967296 * 0) / 2 ^ rest % 4294967296], by omega, by simp [Hdl.out], by go_num, hset, hbel.setCell (p := ⟨b2, o2 + i, none⟩) hB _, ?_⟩
          rw [val_snoc, Hdl.out, ← Hval.out, hd, Nat.pow_succ, Hv0.out]
          generalize (x + 4294967296 * 0) / 2 ^ rest % 4294967296 = d
          generalize 0 / 2 ^ rest = q
          generalize 4294967296 ^ i = p
          grind
        case measure => simp [intOf]; omega
    · obtain rfl : i = zs.length := by omega
      have hsl := Hsl.out
      rw [List.drop_of_length_le (Nat.le_refl _), List.append_nil] at hsl
      have hv : val ds = val zs / 2 ^ rest := by
        have := Hval.out
        rw [List.drop_of_length_le (Nat.le_refl _), val, Nat.zero_div, Nat.mul_zero, Nat.add_zero] at this
        exact this
      have Hv := Lib.hid hv
      clear hv
      go_wp2_with (go_at_call 83; refine (trim_calls _ _ _ ds _ hsl Hdl.out.symm).mono ?_; rintro e w' ⟨kk, rfl, hnum, rfl⟩)
      go_ret
      rw [Hv.out] at hnum
      exact ⟨_, rfl, hnum, fresh_of hf1, hbel⟩

theorem down_div (m n : Nat) : m / 4294967296 ^ (n / 32) / 2 ^ (n % 32) = m / 2 ^ n := by
  have e : (4294967296 : Nat) = 2 ^ 32 := by decide
  rw [e, ← Nat.pow_mul, Nat.div_div_eq_div_mul, ← Nat.pow_add, Nat.div_add_mod]

/-- down divides by a power of 2. -/
theorem down_calls (v : Value) (m n : Nat) (z : Int) (w : World) (hv : Num w v m) (hz : z = (n : Int)) (hreach : (limbs m).length ≤ 1000000000) (hn : n ≤ 32000000000) :
    Calls Tryz.prog 79 #[v, .int .i64 z] w (RetNum w (m / 2 ^ n)) := by
  obtain ⟨ad, c, rfl, hs⟩ := hv
  subst hz
  by_cases h0 : n / 32 < (limbs m).length
  · have := down_raw ad c n _ w hs h0 hreach hn
    rwa [← limbs_drop h0, val_limbs, down_div] at this
  · have hlt : m < 4294967296 ^ (n / 32) := limbs_length_le_iff.1 (by omega)
    have e : m / 2 ^ n = 0 := by rw [← down_div, Nat.div_eq_of_lt hlt, Nat.zero_div]
    rw [e]
    have t0 : ((limbs m).length : Int) ≤ (n : Int) / 32 := by omega
    clear e hlt
    go_enter Tryz.func79, Tryz.ntmps79
    go_wp2
    go_ret
    exact ⟨_, rfl, Num.nil _, trivial, Below.refl _ _⟩

end Go.Proofs

namespace Go.Proofs
set_option linter.unusedVariables false
set_option linter.unusedSimpArgs false

/-- The parts of the numbers that the guess looks at: P is a power of the base, u0 u1 u2 and v1 v2 the leading limbs. -/
structure Lead (P U V u0 u1 u2 v1 v2 : Nat) : Prop where
  u : P * (u2 + 4294967296 * (u0 * 4294967296 + u1)) ≤ U
  u' : U < P * (u2 + 4294967296 * (u0 * 4294967296 + u1)) + P
  v : P * (v2 + 4294967296 * v1) ≤ V
  v' : V < P * (v2 + 4294967296 * v1) + P
  lt : U < 4294967296 * V
  b0 : u0 < 4294967296
  b1 : u1 < 4294967296
  b2 : u2 < 4294967296
  c1 : v1 < 4294967296
  c2 : v2 < 4294967296
  top : 2147483648 ≤ v1

variable {P U V u0 u1 u2 v1 v2 : Nat}

theorem Lead.ppos (h : Lead P U V u0 u1 u2 v1 v2) : 0 < P := by
  have h1 := h.v; have h2 := h.v'
  omega

theorem Lead.vpos (h : Lead P U V u0 u1 u2 v1 v2) : 0 < V := by
  have h1 := h.v
  have h2 := h.ppos
  have h3 := h.top
  have : 0 < P * (v2 + 4294967296 * v1) := Nat.mul_pos h2 (by omega)
  omega

theorem Lead.first (h : Lead P U V u0 u1 u2 v1 v2) : u0 ≤ v1 := by
  rcases Nat.lt_or_ge v1 u0 with hlt | hge
  · exfalso
    have h1 := h.u; have h2 := h.v'; have h3 := h.lt; have h4 := h.c2
    have e1 : P * (4294967296 * ((v1 + 1) * 4294967296)) ≤ P * (u2 + 4294967296 * (u0 * 4294967296 + u1)) := Nat.mul_le_mul_left P (by omega)
    have e2 : P * (v2 + 4294967296 * v1) + P ≤ P * (4294967296 * (v1 + 1)) := by
      have := Nat.mul_le_mul_left P (show v2 + 4294967296 * v1 + 1 ≤ 4294967296 * (v1 + 1) by omega)
      rw [Nat.mul_add P _ 1, Nat.mul_one] at this
      exact this
    have e3 : 4294967296 * V < 4294967296 * (P * (4294967296 * (v1 + 1))) := by omega
    have e4 : 4294967296 * (P * (4294967296 * (v1 + 1))) = P * (4294967296 * ((v1 + 1) * 4294967296)) := by grind
    omega
  · exact hge

theorem Lead.quo (h : Lead P U V u0 u1 u2 v1 v2) : U / V < 4294967296 := Nat.div_lt_of_lt_mul (by rw [Nat.mul_comm]; exact h.lt)

/-- the first guess is not less than the quotient -/
theorem Lead.init (h : Lead P U V u0 u1 u2 v1 v2) : U / V ≤ (u0 * 4294967296 + u1) / v1 := by
  have hq : U / V * V ≤ U := Nat.div_mul_le_self U V
  have h2 := h.u'; have h3 := h.v; have h4 := h.b2; have h5 := h.top
  generalize U / V = q at *
  generalize u0 * 4294967296 + u1 = t at *
  refine (Nat.le_div_iff_mul_le (by omega)).2 ?_
  rcases Nat.lt_or_ge t (q * v1) with hlt | hge
  · exfalso
    have e1 : q * (P * (v2 + 4294967296 * v1)) ≤ q * V := Nat.mul_le_mul_left q h3
    have e2 : P * (4294967296 * (t + 1)) ≤ P * (4294967296 * (q * v1)) := Nat.mul_le_mul_left P (by omega)
    have e3 : q * (P * (v2 + 4294967296 * v1)) = q * P * v2 + P * (4294967296 * (q * v1)) := by grind
    have e4 : P * (u2 + 4294967296 * t) + P ≤ P * (4294967296 * (t + 1)) := by
      have := Nat.mul_le_mul_left P (show u2 + 4294967296 * t + 1 ≤ 4294967296 * (t + 1) by omega)
      rw [Nat.mul_add P _ 1, Nat.mul_one] at this
      exact this
    omega
  · exact hge

theorem Lead.init_le (h : Lead P U V u0 u1 u2 v1 v2) : (u0 * 4294967296 + u1) / v1 ≤ 4294967297 := by
  have h0 := h.first; have h1 := h.b1; have h5 := h.top
  have e : u0 * 4294967296 + u1 < v1 * 4294967298 := by omega
  have : (u0 * 4294967296 + u1) / v1 < 4294967298 := Nat.div_lt_of_lt_mul e
  omega

/-- a guess that is too great for two limbs is too great -/
theorem Lead.down (h : Lead P U V u0 u1 u2 v1 v2) {g r t : Nat} (ht : u0 * 4294967296 + u1 = t) (he : g * v1 + r = t) (hg : r * 4294967296 + u2 < g * v2) : U / V < g := by
  rcases Nat.lt_or_ge (U / V) g with hlt | hge
  · exact hlt
  · exfalso
    have hq : U / V * V ≤ U := Nat.div_mul_le_self U V
    have h1 : g * V ≤ U := Nat.le_trans (Nat.mul_le_mul_right V hge) hq
    have h2 := h.u'; have h3 := h.v
    rw [ht] at h2
    have e1 : g * (P * (v2 + 4294967296 * v1)) ≤ g * V := Nat.mul_le_mul_left g h3
    have e2 : g * (P * (v2 + 4294967296 * v1)) = P * (g * v2 + 4294967296 * (g * v1)) := by grind
    have e3 : P * (u2 + 4294967296 * t + 1) ≤ P * (g * v2 + 4294967296 * (g * v1)) := Nat.mul_le_mul_left P (by omega)
    rw [Nat.mul_add P _ 1, Nat.mul_one] at e3
    omega

/-- a guess that is right for two limbs is at most one too great -/
theorem Lead.near (h : Lead P U V u0 u1 u2 v1 v2) {g r t : Nat} (ht : u0 * 4294967296 + u1 = t) (he : g * v1 + r = t) (hg : g * v2 ≤ r * 4294967296 + u2) (hw : g ≤ 4294967296) : g ≤ U / V + 1 := by
  have h2 := h.u; have h3 := h.v'; have h3' := h.v; have h5 := h.top; have hp := h.ppos; have hv := h.vpos
  rw [ht] at h2
  have e1 : P * (g * v2 + 4294967296 * (g * v1)) ≤ P * (u2 + 4294967296 * t) := Nat.mul_le_mul_left P (by omega)
  obtain ⟨v0, hv0⟩ : ∃ v0, V = P * (v2 + 4294967296 * v1) + v0 := ⟨V - P * (v2 + 4294967296 * v1), by omega⟩
  have hv1 : v0 < P := by omega
  have e2 : g * V = P * (g * v2 + 4294967296 * (g * v1)) + g * v0 := by rw [hv0]; grind
  have e3 : g * v0 < V := by
    have a1 : g * v0 ≤ 4294967296 * v0 := Nat.mul_le_mul_right v0 hw
    have a2 : P * 4294967296 ≤ P * (v2 + 4294967296 * v1) := Nat.mul_le_mul_left P (by omega)
    omega
  rcases Nat.eq_zero_or_pos g with h0 | h0
  · rw [h0]; exact Nat.zero_le _
  · obtain ⟨k, rfl⟩ : ∃ k, g = k + 1 := ⟨g - 1, by omega⟩
    have : k ≤ U / V := (Nat.le_div_iff_mul_le hv).2 (by rw [Nat.add_mul, Nat.one_mul] at e2; omega)
    exact Nat.succ_le_succ this

/-- where the loop is left because the remainder has no room any more -/
theorem Lead.left (h : Lead P U V u0 u1 u2 v1 v2) {g r t : Nat} (ht : u0 * 4294967296 + u1 = t) (he : g * v1 + r = t) (hr : 4294967296 ≤ r) : g < 4294967296 ∧ g * v2 ≤ r * 4294967296 + u2 := by
  have h0 := h.first; have h1 := h.b1; have h2 := h.c2
  have hg : g < 4294967296 := by
    rcases Nat.lt_or_ge g 4294967296 with hlt | hge
    · exact hlt
    · exfalso
      have : 4294967296 * v1 ≤ g * v1 := Nat.mul_le_mul_right v1 hge
      omega
  refine ⟨hg, ?_⟩
  have : g * v2 ≤ 4294967296 * 4294967296 := Nat.mul_le_mul (by omega) (by omega)
  omega

/-- taking the guess's multiple away: no borrow tells that the guess is right -/
theorem sub_right {U V g D Wn : Nat} (hv : 0 < V) (h : D + g * V = U) (h1 : U / V ≤ g) : U / V = g ∧ U % V = D := by
  have hle : g ≤ U / V := (Nat.le_div_iff_mul_le hv).2 (by omega)
  have e : U / V = g := by omega
  have := Nat.div_add_mod U V
  rw [e, Nat.mul_comm] at this
  exact ⟨e, by omega⟩

/-- a borrow tells that it is one too great -/
theorem sub_wrong {U V g D Wn : Nat} (hv : 0 < V) (h : D + g * V = U + Wn) (hD : D < Wn) (h1 : g ≤ U / V + 1) : U / V + 1 = g ∧ D + V = U % V + Wn := by
  have hlt : ¬ g ≤ U / V := by
    intro hle
    have := Nat.mul_le_mul_right V hle
    have := Nat.div_mul_le_self U V
    omega
  have e : U / V + 1 = g := by omega
  have hd := Nat.div_add_mod U V
  rw [← e, Nat.add_mul, Nat.one_mul, Nat.mul_comm (U / V)] at h
  exact ⟨e, by omega⟩

end Go.Proofs

open Go.RowKit
namespace Go.Proofs
set_option linter.unusedVariables false
set_option linter.unusedSimpArgs false

/-- what digit leaves -/
def Digit (w : World) (B : Nat) (L T : List Nat) (n U V : Nat) (e : Ending) (w' : World) : Prop :=
  ∃ us, e = .returned (.int .u32 ((U / V : Nat) : Int)) ∧ us.length = n + 1 ∧ val us = U % V ∧ Row w' B (L ++ us ++ T) ∧ Only B w w'

/-- the leading limbs of both numbers -/
theorem lead_of (us vs : List Nat) (n : Nat) (hu : us.length = n + 1) (hv : vs.length = n) (hn : 2 ≤ n) (hus : ∀ x ∈ us, x < 4294967296) (hvs : ∀ x ∈ vs, x < 4294967296) (htop : 2147483648 ≤ vs.getD (n - 1) 0) (hlt : val us < 4294967296 * val vs) :
    Lead (4294967296 ^ (n - 2)) (val us) (val vs) (us.getD n 0) (us.getD (n - 1) 0) (us.getD (n - 2) 0) (vs.getD (n - 1) 0) (vs.getD (n - 2) 0) := by
  have eu := val_take_drop us (n - 2) (by omega)
  have ev := val_take_drop vs (n - 2) (by omega)
  have lu := val_lt (us.take (n - 2)) fun x h => hus x (List.mem_of_mem_take h)
  have lv := val_lt (vs.take (n - 2)) fun x h => hvs x (List.mem_of_mem_take h)
  rw [List.length_take, Nat.min_eq_left (by omega)] at lu lv
  have du0 := val_drop_cons us (n - 2) (by omega)
  have du1 := val_drop_cons us (n - 2 + 1) (by omega)
  have du2 := val_drop_cons us (n - 2 + 1 + 1) (by omega)
  have du3 : us.drop (n - 2 + 1 + 1 + 1) = [] := List.drop_of_length_le (by omega)
  have dv0 := val_drop_cons vs (n - 2) (by omega)
  have dv1 := val_drop_cons vs (n - 2 + 1) (by omega)
  have dv2 : vs.drop (n - 2 + 1 + 1) = [] := List.drop_of_length_le (by omega)
  rw [show n - 2 + 1 + 1 = n by omega] at du1 du2 dv1 dv2
  rw [show n - 2 + 1 = n - 1 by omega] at du0 du1 dv0 dv1
  rw [show n - 2 + 1 + 1 + 1 = n + 1 by omega] at du3
  rw [du3] at du2
  rw [dv2] at dv1
  simp only [val, Nat.mul_zero, Nat.add_zero] at du2 dv1
  rw [dv1] at dv0
  rw [du2] at du1
  rw [du1] at du0
  rw [du0] at eu
  rw [dv0] at ev
  have b0 := getD_lt_of hus n
  have b1 := getD_lt_of hus (n - 1)
  have b2 := getD_lt_of hus (n - 2)
  have c1 := getD_lt_of hvs (n - 1)
  have c2 := getD_lt_of hvs (n - 2)
  have e1 : us.getD (n - 2) 0 + 4294967296 * (us.getD (n - 1) 0 + 4294967296 * us.getD n 0) = us.getD (n - 2) 0 + 4294967296 * (us.getD n 0 * 4294967296 + us.getD (n - 1) 0) := by omega
  rw [e1] at eu
  exact ⟨by omega, by omega, by omega, by omega, hlt, b0, b1, b2, c1, c2, htop⟩

theorem sub_step (p g y c b c' q r d x vs vt vu v0 : Nat) (h : vu + g * vt = v0 + (c + b) * p) (hs : vs + p * x = vu + p * d) (he : d + r + b = x + 4294967296 * q) (hd : 4294967296 * c' + r = g * y + c) :
    vs + g * (vt + p * y) = v0 + (c' + q) * (p * 4294967296) := by
  grind

theorem sub_last (p g c b q d x vs vt vu v0 : Nat) (h : vu + g * vt = v0 + (c + b) * p) (hs : vs + p * x = vu + p * d) (he : d + c + b = x + 4294967296 * q) :
    vs + g * vt = v0 + q * (p * 4294967296) := by
  grind

theorem back_step (p x y k q r vs vt vu v0 : Nat) (h : vu + k * p = v0 + vt) (hs : vs + p * x = vu + p * r) (hd : 4294967296 * q + r = x + y + k) : vs + q * (p * 4294967296) = v0 + (vt + p * y) := by
  grind

theorem back_end (p x k v3 vs v2 vt m : Nat) (hx : x < 4294967296) (hm : m < p) (hlow : vs < p) (h1 : v3 + k * p = v2 + vt) (hset : vs + p * x = v3) (h2 : v2 + vt = m + p * 4294967296) : x + k = 4294967296 ∧ vs = m := by
  have e : vs + p * (x + k) = m + p * 4294967296 := by grind
  have h3 : x + k = 4294967296 := by
    rcases Nat.lt_trichotomy (x + k) 4294967296 with h | h | h
    · exfalso
      have := Nat.mul_le_mul_left p (show x + k + 1 ≤ 4294967296 by omega)
      rw [Nat.mul_add, Nat.mul_one] at this
      omega
    · exact h
    · exfalso
      have := Nat.mul_le_mul_left p (show 4294967296 + 1 ≤ x + k by omega)
      rw [Nat.mul_add, Nat.mul_one] at this
      omega
  rw [h3] at e
  exact ⟨h3, by omega⟩

end Go.Proofs

open Go.RowKit
namespace Go.Proofs
set_option linter.unusedVariables false
set_option linter.unusedSimpArgs false

/-- The two lie in no common block. -/
def Sep (v1 v2 : Value) : Prop := ∀ B, v1.ownBlock = some B → Apart B v2

theorem sep_nil (v : Value) : Sep (.slice none 0 0) v := by intro B h; cases h
theorem sep_of {b o n c : Nat} {v : Value} (h : Apart b v) : Sep (.slice (some ⟨b, o, none⟩) n c) v := by
  intro B hB
  cases hB
  exact h

/-- Quotient and remainder, both new and apart. -/
def RetQR (w : World) (q r : Nat) (e : Ending) (w' : World) : Prop :=
  ∃ v1 v2, e = .returned (.tuple #[v1, v2]) ∧ Num w' v1 q ∧ Num w' v2 r ∧ Fresh w.heap.size v1 ∧ Fresh w.heap.size v2 ∧ Sep v1 v2 ∧ Below w.heap.size w w'

/-- a divisor moved up so that its first bit is set -/
theorem shift_top {n s : Nat} (h : n ≠ 0) (hs : bitlen ((limbs n).getD ((limbs n).length - 1) 0) + s = 32) :
    (limbs (n * 2 ^ s)).length = (limbs n).length ∧ 2147483648 ≤ (limbs (n * 2 ^ s)).getD ((limbs n).length - 1) 0 := by
  have hb := bitlen_limbs h
  have hsp := bitlen_spec h
  have hne : limbs n ≠ [] := fun e => h (limbs_eq_nil.1 e)
  have hlen : 0 < (limbs n).length := List.length_pos_iff.2 hne
  have hn0 : n * 2 ^ s ≠ 0 := Nat.mul_ne_zero h (by have := Nat.two_pow_pos s; omega)
  have hb0 : bitlen n ≠ 0 := by intro e; rw [e] at hsp; simp at hsp; omega
  have e1 : bitlen (n * 2 ^ s) = 32 * (limbs n).length := by
    obtain ⟨j, hj⟩ : ∃ j, bitlen n = j + 1 := ⟨bitlen n - 1, by omega⟩
    rw [hj] at hsp
    simp only [Nat.add_sub_cancel] at hsp
    have := bitlen_unique (n := n * 2 ^ s) (k := j + s) (by rw [Nat.pow_add]; exact Nat.mul_le_mul_right _ hsp.1) (by rw [show j + s + 1 = (j + 1) + s by omega, Nat.pow_add]; exact Nat.mul_lt_mul_of_pos_right hsp.2 (Nat.two_pow_pos s))
    omega
  have hsp2 := bitlen_spec hn0
  rw [e1] at hsp2
  have hW : (4294967296 : Nat) = 2 ^ 32 := by decide
  have l1 : (limbs (n * 2 ^ s)).length ≤ (limbs n).length := limbs_length_le (by rw [hW, ← Nat.pow_mul]; exact hsp2.2)
  have l2 : (limbs n).length ≤ (limbs (n * 2 ^ s)).length := limbs_length_mono (Nat.le_mul_of_pos_right n (Nat.two_pow_pos s))
  have hl : (limbs (n * 2 ^ s)).length = (limbs n).length := by omega
  refine ⟨hl, ?_⟩
  have hb2 := bitlen_limbs hn0
  rw [e1, hl] at hb2
  have hb3 : bitlen ((limbs (n * 2 ^ s)).getD ((limbs n).length - 1) 0) = 32 := by omega
  generalize (limbs (n * 2 ^ s)).getD ((limbs n).length - 1) 0 = t at *
  have ht : t ≠ 0 := by intro e; rw [e] at hb3; simp [bitlen] at hb3
  have := (bitlen_spec ht).1
  rw [hb3] at this
  exact this

theorem take_drop_split (R : List Nat) (j k : Nat) (h : j + k ≤ R.length) : R = R.take j ++ (R.drop j).take k ++ R.drop (j + k) := by
  have e := List.take_append_drop k (R.drop j)
  rw [List.drop_drop] at e
  rw [List.append_assoc, e, List.take_append_drop]

theorem val_zeros (l : List Nat) (h : ∀ i, l.getD i 0 = 0) : val l = 0 := by
  induction l with
  | nil => rfl
  | cons x xs ih =>
    have h0 := h 0
    have : val xs = 0 := ih fun i => by have := h (i + 1); simpa [List.getD] using this
    have hx : x = 0 := by simpa [List.getD] using h0
    rw [val, this, hx]

theorem getD_drop (l : List Nat) (j i : Nat) : (l.drop j).getD i 0 = l.getD (j + i) 0 := by simp [List.getD]

theorem quo_bound (m V sh la nn : Nat) (hs : 2 ^ sh ≤ 2147483648) (hm : m < 4294967296 ^ la) (hnn : 1 ≤ nn) (hle : nn ≤ la) (hV : 4294967296 ^ (nn - 1) * 2147483648 ≤ V) : m * 2 ^ sh < 4294967296 ^ (la - nn + 1) * V := by
  have h1 : m * 2 ^ sh < 4294967296 ^ la * 2147483648 := Nat.lt_of_lt_of_le (Nat.mul_lt_mul_of_pos_right hm (Nat.two_pow_pos _)) (Nat.mul_le_mul_left _ hs)
  have h2 : 4294967296 ^ (la - nn + 1) * (4294967296 ^ (nn - 1) * 2147483648) ≤ 4294967296 ^ (la - nn + 1) * V := Nat.mul_le_mul_left _ hV
  rw [← Nat.mul_assoc, ← Nat.pow_add, show la - nn + 1 + (nn - 1) = la by omega] at h2
  omega

end Go.Proofs

open Go.RowKit
namespace Go.Proofs
set_option linter.unusedVariables false
set_option linter.unusedSimpArgs false

theorem getLast_getD (xs : List Nat) (h : 0 < xs.length) : xs.getLast? = some (xs.getD (xs.length - 1) 0) := by
  rw [List.getLast?_eq_getElem?]
  simp [List.getD, show xs.length - 1 < xs.length by omega]

theorem check_calls (v : Value) (xs : List Nat) (w : World) (hv : Raw w v xs) :
    Calls Tryz.prog 96 #[v] w fun e w' => e = .returned (.int .i64 (chk xs)) ∧ w = w' := by
  obtain ⟨ad, c, rfl, hs⟩ := hv
  have hc := hs.1
  have hcm := hs.2.1
  unfold maxLen at hcm
  by_cases hl : 262144 < xs.length
  · have e : chk xs = 3 := by unfold chk; rw [if_pos hl]
    rw [e]
    clear e
    go_enter Tryz.func96, Tryz.ntmps96
    go_wp2
    go_ret
    exact ⟨rfl, rfl⟩
  · by_cases h0 : 0 < xs.length
    · obtain ⟨b, o, rfl, hbs, hcell, hfr⟩ := hs.open (i := xs.length - 1) (by omega)
      have hlast := getLast_getD xs h0
      obtain ⟨x, ex⟩ : ∃ x, xs.getD (xs.length - 1) 0 = x := ⟨_, rfl⟩
      rw [ex] at hcell hlast
      have t0 : (0 : Int) < (xs.length : Int) := by omega
      by_cases hx : x = 0
      · subst hx
        have e : chk xs = 2 := by unfold chk; rw [if_neg hl, if_pos hlast]
        rw [e]
        clear e hlast ex
        go_enter Tryz.func96, Tryz.ntmps96
        go_wp2
        go_ret
        exact ⟨rfl, rfl⟩
      · have e : chk xs = 0 := by unfold chk; rw [if_neg hl, if_neg (by rw [hlast]; intro h; cases h; exact hx rfl)]
        have t1 : ((x : Int) == 0) = false := by rw [beq_eq_false_iff_ne]; omega
        rw [e]
        clear e hlast ex
        go_enter Tryz.func96, Tryz.ntmps96
        go_wp2
        go_ret
        exact ⟨rfl, rfl⟩
    · have hx : xs = [] := List.eq_nil_of_length_eq_zero (by omega)
      subst hx
      have e : chk [] = 0 := rfl
      rw [e]
      clear e
      go_enter Tryz.func96, Tryz.ntmps96
      go_wp2
      go_ret
      exact ⟨rfl, rfl⟩

theorem firstErr_skip (l : List (List Nat)) : ∀ k, k ≤ l.length → (∀ i, i < k → chk (l.getD i []) = 0) → firstErr l = firstErr (l.drop k) := by
  induction l with
  | nil => intro k hk _; simp at hk; subst hk; rfl
  | cons xs l ih =>
    intro k hk h
    cases k with
    | zero => rfl
    | succ k =>
      have h0 := h 0 (by omega)
      have h0' : chk xs = 0 := by simpa [List.getD] using h0
      rw [firstErr, if_pos h0', List.drop_succ_cons]
      exact ih k (by simpa using hk) fun i hi => by have := h (i + 1) (by omega); simpa [List.getD] using this

theorem valid_calls (b n : Nat) (vs : List Value) (l : List (List Nat)) (w : World) (hn : vs.length = n) (hl : l.length = n) (hb : n ≤ 1000)
    (hcell : ∀ i, i < n → w.cell? ⟨b, i, none⟩ = some (vs.getD i undef)) (hraw : ∀ i, i < n → Raw w (vs.getD i undef) (l.getD i [])) :
    Calls Tryz.prog 77 #[.slice (some ⟨b, 0, none⟩) n n] w fun e w' => e = .returned (.int .i64 (firstErr l)) ∧ w = w' := by
  have Hn := Lib.hid hn
  have Hl := Lib.hid hl
  have Hcell := Lib.hid hcell
  have Hraw := Lib.hid hraw
  clear hn hl hcell hraw
  go_enter Tryz.func77, Tryz.ntmps77
  go_wp2
  go_loop [8] (fun iv => ∃ i : Nat, i ≤ n ∧ iv = .int .i64 i ∧ ∀ j, j < i → chk (l.getD j []) = 0) (fun iv => n - (intOf iv).toNat)
  case atStart => exact ⟨0, Nat.zero_le _, rfl, fun j h => (Nat.not_lt_zero _ h).elim⟩
  case round =>
    obtain ⟨i, hi, rfl, hok⟩ := hrel
    have Hok := Lib.hid hok
    clear hok
    by_cases hlt : i < n
    · have hc := Hcell.out i hlt
      have hr := Hraw.out i hlt
      have hsk := firstErr_skip l i (by have := Hl.out; omega) Hok.out
      have hd : l.drop i = l.getD i [] :: l.drop (i + 1) := by
        rw [List.drop_eq_getElem_cons (by have := Hl.out; omega)]
        simp [List.getD, show i < l.length by have := Hl.out; omega]
      rw [hd, firstErr] at hsk
      have hor := chk_cases (l.getD i [])
      obtain ⟨xs, exs⟩ : ∃ xs, l.getD i [] = xs := ⟨_, rfl⟩
      rw [exs] at hr hsk hor
      obtain ⟨v, ev⟩ : ∃ v, vs.getD i undef = v := ⟨_, rfl⟩
      rw [ev] at hc hr
      have Hxs := Lib.hid exs
      clear exs ev hd
      by_cases h0 : chk xs = 0
      · have t1 : (chk xs != 0) = false := by simp [h0]
        have H0 := Lib.hid h0
        clear h0 hsk hor
        go_wp2_with (go_at_call 96; refine (check_calls v xs _ hr).mono ?_; rintro e w' ⟨rfl, rfl⟩)
        go_round
        case rel =>
          refine ⟨i + 1, by omega, by go_num, fun j hj => ?_⟩
          by_cases e : j = i
          · rw [e, Hxs.out]; exact H0.out
          · exact Hok.out j (by omega)
        case measure => simp [intOf]; omega
      · have t1 : (chk xs != 0) = true := by rw [bne_iff_ne]; exact h0
        rw [if_neg h0] at hsk
        have Hsk := Lib.hid hsk
        clear hsk h0 hor
        go_wp2_with (go_at_call 96; refine (check_calls v xs _ hr).mono ?_; rintro e w' ⟨rfl, rfl⟩)
        go_ret
        exact ⟨by rw [Hsk.out]; rfl, rfl⟩
    · obtain rfl : i = n := by omega
      have hsk := firstErr_skip l i (by have := Hl.out; omega) Hok.out
      rw [List.drop_of_length_le (by rw [Hl.out]; exact Nat.le_refl _)] at hsk
      have Hsk := Lib.hid hsk
      clear hsk
      go_wp2
      go_ret
      exact ⟨by rw [Hsk.out]; rfl, rfl⟩

theorem cells_one (w : World) (v : Value) (e : Nat) : ∀ i, i < 1 → (w.alloc (.cells #[v] e)).cell? ⟨w.heap.size, i, none⟩ = some ([v].getD i undef) := by
  intro i hi
  obtain rfl : i = 0 := by omega
  simp only [World.cell?]; rw [heap_alloc_new]; rfl

theorem cells_two (w : World) (v1 v2 : Value) (e : Nat) : ∀ i, i < 2 → (w.alloc (.cells #[v1, v2] e)).cell? ⟨w.heap.size, i, none⟩ = some ([v1, v2].getD i undef) := by
  intro i hi
  rcases (show i = 0 ∨ i = 1 by omega) with rfl | rfl <;> (simp only [World.cell?]; rw [heap_alloc_new]; rfl)

theorem cells_three (w : World) (v1 v2 v3 : Value) (e : Nat) : ∀ i, i < 3 → (w.alloc (.cells #[v1, v2, v3] e)).cell? ⟨w.heap.size, i, none⟩ = some ([v1, v2, v3].getD i undef) := by
  intro i hi
  rcases (show i = 0 ∨ i = 1 ∨ i = 2 by omega) with rfl | rfl | rfl <;> (simp only [World.cell?]; rw [heap_alloc_new]; rfl)

/-- valid over one, two, three numbers, laid in a new block -/
theorem valid1 (v1 : Value) (x1 : List Nat) (w : World) (h1 : Raw w v1 x1) :
    Calls Tryz.prog 77 #[.slice (some ⟨w.heap.size, 0, none⟩) 1 1] (w.alloc (.cells #[v1] 67)) fun e w' => e = .returned (.int .i64 (firstErr [x1])) ∧ w.alloc (.cells #[v1] 67) = w' :=
  valid_calls _ 1 [v1] [x1] _ rfl rfl (by omega) (cells_one w v1 _) (by
    intro i hi
    obtain rfl : i = 0 := by omega
    exact h1.mono (below_alloc _ _))

theorem valid2 (v1 v2 : Value) (x1 x2 : List Nat) (w : World) (h1 : Raw w v1 x1) (h2 : Raw w v2 x2) :
    Calls Tryz.prog 77 #[.slice (some ⟨w.heap.size, 0, none⟩) 2 2] (w.alloc (.cells #[v1, v2] 67)) fun e w' => e = .returned (.int .i64 (firstErr [x1, x2])) ∧ w.alloc (.cells #[v1, v2] 67) = w' :=
  valid_calls _ 2 [v1, v2] [x1, x2] _ rfl rfl (by omega) (cells_two w v1 v2 _) (by
    intro i hi
    rcases (show i = 0 ∨ i = 1 by omega) with rfl | rfl
    · exact h1.mono (below_alloc _ _)
    · exact h2.mono (below_alloc _ _))

theorem valid3 (v1 v2 v3 : Value) (x1 x2 x3 : List Nat) (w : World) (h1 : Raw w v1 x1) (h2 : Raw w v2 x2) (h3 : Raw w v3 x3) :
    Calls Tryz.prog 77 #[.slice (some ⟨w.heap.size, 0, none⟩) 3 3] (w.alloc (.cells #[v1, v2, v3] 67)) fun e w' => e = .returned (.int .i64 (firstErr [x1, x2, x3])) ∧ w.alloc (.cells #[v1, v2, v3] 67) = w' :=
  valid_calls _ 3 [v1, v2, v3] [x1, x2, x3] _ rfl rfl (by omega) (cells_three w v1 v2 v3 _) (by
    intro i hi
    rcases (show i = 0 ∨ i = 1 ∨ i = 2 by omega) with rfl | rfl | rfl
    · exact h1.mono (below_alloc _ _)
    · exact h2.mono (below_alloc _ _)
    · exact h3.mono (below_alloc _ _))

/-- what an exported function returns: a number, or an error and nothing -/
def Got (w : World) (n : Nat) (er : Int) (e : Ending) (w' : World) : Prop :=
  ∃ v, e = .returned (.tuple #[v, .int .i64 er]) ∧ Num w' v n ∧ Fresh w.heap.size v ∧ Below w.heap.size w w'

/-- short, where the number is new -/
theorem short_calls (v : Value) (n B : Nat) (w : World) (hv : Num w v n) (hf : Fresh B v) :
    Calls Tryz.prog 80 #[v] w fun e w' => ∃ v', e = .returned (.tuple #[v', .int .i64 (if 262144 < (limbs n).length then 3 else 0)]) ∧ Num w' v' (if 262144 < (limbs n).length then 0 else n) ∧ Fresh B v' ∧ w = w' := by
  have g := hv
  obtain ⟨ad, c, rfl, hs⟩ := hv
  by_cases hl : 262144 < (limbs n).length
  · rw [if_pos hl, if_pos hl]
    go_enter Tryz.func80, Tryz.ntmps80
    go_wp2
    go_ret2
    exact ⟨_, rfl, Num.nil _, trivial, rfl⟩
  · rw [if_neg hl, if_neg hl]
    go_enter Tryz.func80, Tryz.ntmps80
    go_wp2
    go_ret2
    exact ⟨_, rfl, g, hf, rfl⟩

end Go.Proofs
