/- nat.up: times a power of 2. nat.down: divided by a power of 2. The guess of a quotient's limb (Knuth, algorithm D): plain arithmetic. nat.digit: one limb of a quotient. nat.part: the quotient and the remainder. nat.Check, nat.valid, nat.short. -/
import Derived.Test.YtghbjhcbldnenaaGreatDoorPk02
import Derived.Deep.RegionWith
import Derived.Deep.DeepCutAuto
import Derived.Deep.CutBlock

section
open Go.RowKit
namespace Go.Proofs
set_option linter.unusedVariables false
set_option linter.unusedSimpArgs false

theorem up_lo (x r : Nat) (hr : r ≤ 32) : (x * 2 ^ r) % 4294967296 = (x % 2 ^ (32 - r)) * 2 ^ r := by
  have e : (4294967296 : Nat) = 2 ^ (32 - r) * 2 ^ r := by
    rw [← Nat.pow_add, Nat.sub_add_cancel hr]
  rw [e, Nat.mul_mod_mul_right]

theorem or_small (k y r : Nat) (hk : k < 2 ^ r) (h : y * 2 ^ r < 4294967296) (hk2 : k < 4294967296) : bits BinOp.or IntKind.u32 (k : Int) ((y * 2 ^ r : Nat) : Int) = ((k + y * 2 ^ r : Nat) : Int) := by
  rw [(bits_u32 k (y * 2 ^ r) hk2 h).2.1, Nat.or_comm, Nat.mul_comm y, ← Nat.two_pow_add_eq_or_of_lt hk, Nat.add_comm]

theorem wrap_shl (x r : Nat) (hx : x < 4294967296) (hp : 2 ^ r ≤ 2147483648) : IntKind.u64.wrap ((x : Int) * 2 ^ r) = ((x * 2 ^ r : Nat) : Int) := by
  have hle : x * 2 ^ r ≤ 4294967296 * 2147483648 := Nat.mul_le_mul (by omega) hp
  have e : (x : Int) * 2 ^ r = ((x * 2 ^ r : Nat) : Int) := by rw [Int.natCast_mul]; congr 1
  rw [e, IntKind.wrap_u64]
  omega

theorem up_val (pw pi p2 vt x lo hi k vR v1 v2 : Nat) (h0 : vR = pw * (vt * p2)) (h1 : v1 + (pw * pi) * k = vR + (pw * pi) * (k + lo)) (h2 : v2 + (pw * pi) * 4294967296 * 0 = v1 + (pw * pi) * 4294967296 * hi) (ht : 4294967296 * hi + lo = x * p2) :
    v2 = pw * ((vt + pi * x) * p2) := by
  grind

set_option maxRecDepth 100000 in
theorem up_raw (ad : Option Addr) (c n : Nat) (xs : List Nat) (w : World) (hx : Sl w ad c xs) (h0 : 0 < xs.length) (hreach : xs.length ≤ 1000000000) (hn : n ≤ 32000000000) :
    Calls Tryz.prog 117 #[.slice ad xs.length c, .int .i64 n] w (RetNum w (val xs * 2 ^ n)) := by
  obtain ⟨words, hw⟩ : ∃ k, k = n / 32 := ⟨_, rfl⟩
  obtain ⟨rest, hr⟩ : ∃ k, k = n % 32 := ⟨_, rfl⟩
  have ew : (n : Int) / 32 = (words : Int) := by omega
  have er : (n : Int) % 32 = (rest : Int) := by omega
  have hr31 : rest ≤ 31 := by omega
  have hwb : words ≤ 1000000000 := by omega
  have Hw := Lib.hid hw
  have Hr := Lib.hid hr
  clear hw hr
  have t0 : ((xs.length : Int) == 0) = false := by rw [beq_eq_false_iff_ne]; omega
  go_enter Tryz.func117, Tryz.ntmps117
  go_wp2_with (at_make; refine wpList_make_nums _ rfl _ _ 118 rfl 87 Tryz.underlying118 info32 _ _ _ _ (xs.length + words + 1) rfl rfl (by omega) (by omega) (by omega) ?_; intro w1 hr1 hb1 hs1)
  clear ew er
  go_loopw [27] (fun iv wr => ∃ (i k : Nat) (R : List Nat), i ≤ xs.length ∧ k < 2 ^ rest ∧ iv = .int .i64 i ∧ R.length = xs.length + words + 1 ∧ Row wr w.heap.size R ∧ Below w.heap.size w wr ∧
      R.getD (i + words) 0 = k ∧ (∀ j, i + words < j → R.getD j 0 = 0) ∧ val R = 4294967296 ^ words * (val (xs.take i) * 2 ^ rest))
    (fun iv _ => xs.length - (intOf iv).toNat)
  case atStart =>
    refine ⟨0, 0, List.replicate (xs.length + words + 1) 0, Nat.zero_le _, Nat.two_pow_pos _, rfl, by simp, hr1, hb1, getD_replicate _ _, fun j _ => getD_replicate _ _, ?_⟩
    rw [val_replicate, List.take_zero, val, Nat.zero_mul, Nat.mul_zero]
  case round =>
    obtain ⟨i, k, R, hi, hk, rfl, hlR, hrow, hbel, hcar, htail, hval⟩ := hrel
    have hp : 2 ^ rest ≤ 2147483648 := Nat.le_trans (Nat.pow_le_pow_right (by omega) hr31) (by decide)
    have HlR := Lib.hid hlR
    have Hval := Lib.hid hval
    have Hrow := Lib.hid hrow
    have Htail := Lib.hid htail
    have Hcar := Lib.hid hcar
    clear hlR hval hrow htail hcar
    by_cases hlt : i < xs.length
    · obtain ⟨b, o, rfl, hbs, hcell, hfr⟩ := hx.open hlt
      have hx1 := hx.lt i
      obtain ⟨x, ex⟩ : ∃ x, xs.getD i 0 = x := ⟨_, rfl⟩
      rw [ex] at hcell hx1
      have hcell' := (hbel.cell (p := ⟨b, o + i, none⟩) hbs).trans hcell
      have Hx := Lib.hid ex
      have oc := Hrow.out.cell (i := i + words) (by have := HlR.out; omega)
      have of := Hrow.out.free (i + words)
      have oc2 := Hrow.out.cell (i := i + words + 1) (by have := HlR.out; omega)
      have of2 := Hrow.out.free (i + words + 1)
      rw [Hcar.out] at oc
      rw [Htail.out _ (by omega)] at oc2
      clear ex hcell hfr
      have e1 := wrap_shl x rest hx1 hp
      have elo := up_lo x rest (by omega)
      have hdm := Nat.div_add_mod (x * 2 ^ rest) 4294967296
      have hhi : x * 2 ^ rest / 4294967296 < 2 ^ rest := Nat.div_lt_of_lt_mul (Nat.mul_lt_mul_of_pos_right hx1 (Nat.two_pow_pos _))
      have hlo : x * 2 ^ rest % 4294967296 < 4294967296 := Nat.mod_lt _ (by omega)
      have hlo2 : x % 2 ^ (32 - rest) * 2 ^ rest + 2 ^ rest ≤ 4294967296 := by
        have h1 : x % 2 ^ (32 - rest) < 2 ^ (32 - rest) := Nat.mod_lt _ (Nat.two_pow_pos _)
        have h2 : (x % 2 ^ (32 - rest) + 1) * 2 ^ rest ≤ 2 ^ (32 - rest) * 2 ^ rest := Nat.mul_le_mul_right _ h1
        rw [← Nat.pow_add, Nat.sub_add_cancel (by omega)] at h2
        have e : (2 : Nat) ^ 32 = 4294967296 := by decide
        rw [e, Nat.add_mul] at h2
        omega
      have eor := or_small k (x % 2 ^ (32 - rest)) rest hk (by omega) (by omega)
      rw [← elo] at eor hlo2
      have E1 := Lib.hid e1
      have Hdm := Lib.hid hdm
      have Eor := Lib.hid eor
      have Hhi := Lib.hid hhi
      have Hlo2 := Lib.hid hlo2
      clear e1 hdm eor elo hhi hlo2 hlo
      go_wp2
      go_roundw
      case rel =>
        have hlo2 := Hlo2.out
        have hhi := Hhi.out
        rw [E1.out]
        have e3 : ((x * 2 ^ rest : Nat) : Int) % 4294967296 = ((x * 2 ^ rest % 4294967296 : Nat) : Int) := by omega
        have e4 : ((x * 2 ^ rest : Nat) : Int) / 4294967296 % 4294967296 = ((x * 2 ^ rest / 4294967296 : Nat) : Int) := by omega
        rw [e3, e4, Eor.out]
        have hs1 := val_set R (i + words) (k + x * 2 ^ rest % 4294967296) (by have := HlR.out; omega)
        have hs2 := val_set (R.set (i + words) (k + x * 2 ^ rest % 4294967296)) (i + words + 1) (x * 2 ^ rest / 4294967296) (by have := HlR.out; rw [List.length_set]; omega)
        rw [Hcar.out, Nat.add_comm i words, Nat.pow_add] at hs1
        rw [getD_set_ne _ _ (by omega), Htail.out _ (by omega), Nat.pow_succ, Nat.add_comm i words, Nat.pow_add] at hs2
        refine ⟨i + 1, x * 2 ^ rest / 4294967296, (R.set (i + words) (k + x * 2 ^ rest % 4294967296)).set (i + words + 1) (x * 2 ^ rest / 4294967296), by omega, hhi, by go_num, by simp [HlR.out],
          (Hrow.out.put _ _ (by omega) _ rfl).put _ _ (by omega) _ rfl, (hbel.setCell (Nat.le_refl _) _).setCell (Nat.le_refl _) _, ?_, ?_, ?_⟩
        · rw [show i + 1 + words = i + words + 1 by omega]
          exact getD_set_eq _ _ (by have := HlR.out; rw [List.length_set]; omega)
        · intro j hj
          rw [getD_set_ne _ _ (by omega), getD_set_ne _ _ (by omega)]
          exact Htail.out j (by omega)
        · have hv := Hval.out
          have hd := Hdm.out
          rw [val_take_succ _ _ hlt, Hx.out]
          rw [Nat.add_comm words i] at hs1 hs2
          generalize x * 2 ^ rest / 4294967296 = hi at *
          generalize x * 2 ^ rest % 4294967296 = lo at *
          generalize 4294967296 ^ words = pw at *
          generalize 4294967296 ^ i = pi at *
          generalize 2 ^ rest = p2 at *
          exact up_val pw pi p2 _ x lo hi k _ _ _ hv hs1 hs2 hd
      case measure => simp [intOf]; omega
    · obtain rfl : i = xs.length := by omega
      have hsl := Hrow.out.whole (by rw [HlR.out]; unfold maxLen; omega)
      rw [HlR.out] at hsl
      have hv2 : val R = val xs * 2 ^ n := by
        rw [Hval.out, List.take_of_length_le (Nat.le_refl _)]
        have e : n = 32 * words + rest := by have := Hw.out; have := Hr.out; omega
        have e2 : (4294967296 : Nat) = 2 ^ 32 := by decide
        rw [e, Nat.pow_add, Nat.pow_mul, ← e2]
        grind
      have Hv2 := Lib.hid hv2
      clear hv2
      go_wp2_with (go_at_call 96; refine (trim_calls _ _ _ R _ hsl HlR.out.symm).mono ?_; rintro e w' ⟨kk, rfl, hnum, rfl⟩)
      go_ret
      rw [Hv2.out] at hnum
      exact ⟨_, rfl, hnum, Nat.le_refl _, hbel⟩

/-- up multiplies by a power of 2. -/
theorem up_calls (v : Value) (m n : Nat) (z : Int) (w : World) (hv : Num w v m) (hz : z = (n : Int)) (hreach : (limbs m).length ≤ 1000000000) (hn : n ≤ 32000000000) :
    Calls Tryz.prog 117 #[v, .int .i64 z] w (RetNum w (m * 2 ^ n)) := by
  obtain ⟨ad, c, rfl, hs⟩ := hv
  subst hz
  by_cases h0 : 0 < (limbs m).length
  · have := up_raw ad c n _ w hs h0 hreach hn
    rwa [val_limbs] at this
  · have hm : m = 0 := limbs_eq_nil.1 (List.eq_nil_of_length_eq_zero (by omega))
    subst hm
    have t0 : (((limbs 0).length : Int) == 0) = true := by rw [beq_iff_eq]; omega
    rw [Nat.zero_mul]
    go_enter Tryz.func117, Tryz.ntmps117
    go_wp2
    go_ret
    exact ⟨_, rfl, Num.nil _, trivial, Below.refl _ _⟩

end Go.Proofs

open Go.RowKit
namespace Go.Proofs
set_option linter.unusedVariables false
set_option linter.unusedSimpArgs false

theorem set_at_end (ds zs : List Nat) (i d : Nat) (hl : ds.length = i) (hi : i < zs.length) : (ds ++ zs.drop i).set i d = (ds ++ [d]) ++ zs.drop (i + 1) := by
  subst hl
  rw [List.set_append_right _ _ (Nat.le_refl _), Nat.sub_self, List.drop_eq_getElem_cons hi, List.set_cons_zero, List.append_assoc]
  rfl

theorem getD_at_end (ds zs : List Nat) (i k : Nat) (hl : ds.length = i) : (ds ++ zs.drop i).getD (i + k) 0 = zs.getD (i + k) 0 := by
  subst hl
  simp [List.getD, List.getElem?_append_right]

theorem cast_shr (x y r : Nat) : ((y : Int) * 4294967296 + (x : Int)) / 2 ^ r % 4294967296 = (((x + 4294967296 * y) / 2 ^ r % 4294967296 : Nat) : Int) := by
  have e1 : (y : Int) * 4294967296 + (x : Int) = ((x + 4294967296 * y : Nat) : Int) := by omega
  have e2 : (2 : Int) ^ r = ((2 ^ r : Nat) : Int) := by simp
  rw [e1, e2, ← Int.natCast_ediv]
  omega

theorem cast_shr0 (x r : Nat) : (x : Int) / 2 ^ r % 4294967296 = (((x + 4294967296 * 0) / 2 ^ r % 4294967296 : Nat) : Int) := by
  have e2 : (2 : Int) ^ r = ((2 ^ r : Nat) : Int) := by simp
  rw [Nat.mul_zero, Nat.add_zero, e2, ← Int.natCast_ediv]
  omega

set_option maxRecDepth 100000 in
theorem down_raw (ad : Option Addr) (c n : Nat) (xs : List Nat) (w : World) (hx : Sl w ad c xs) (h0 : n / 32 < xs.length) (hreach : xs.length ≤ 1000000000) (hn : n ≤ 32000000000) :
    Calls Tryz.prog 119 #[.slice ad xs.length c, .int .i64 n] w (RetNum w (val (xs.drop (n / 32)) / 2 ^ (n % 32))) := by
  obtain ⟨words, hw⟩ : ∃ k, k = n / 32 := ⟨_, rfl⟩
  obtain ⟨rest, hr⟩ : ∃ k, k = n % 32 := ⟨_, rfl⟩
  have ew : (n : Int) / 32 = (words : Int) := by omega
  have er : (n : Int) % 32 = (rest : Int) := by omega
  have hr31 : rest ≤ 31 := by omega
  rw [← hw] at h0
  rw [← hw, ← hr]
  obtain ⟨b, o, rfl, hbs, _, _⟩ := hx.open h0
  have hc := hx.1
  have hcm := hx.2.1
  unfold maxLen at hcm
  have hsd := hx.drop b o words rfl (by omega)
  have hdl : (xs.drop words).length = xs.length - words := List.length_drop
  have Hdl := Lib.hid hdl
  clear hw hr hdl
  go_enter Tryz.func119, Tryz.ntmps119
  go_wp2_with fail
  clear ew er
  refine (own_raw _ _ _ _ w hsd Hdl.out.symm (by have := Hdl.out; omega)).mono ?_
  rintro e w1 ⟨ad', c', rfl, hs1, hf1, hb1⟩
  have Hs1 := Lib.hid hs1
  have hzl : (xs.drop words).length ≤ 4000000000 := by have := Hdl.out; omega
  rw [← Hdl.out]
  generalize xs.drop words = zs at *
  clear Hdl hsd hs1
  go_wp2_with fail
  go_loopw [25] (fun iv wr => ∃ (i : Nat) (ds : List Nat), i ≤ zs.length ∧ ds.length = i ∧ iv = .int .i64 i ∧ Sl wr ad' c' (ds ++ zs.drop i) ∧ Below w.heap.size w wr ∧
      val ds + 4294967296 ^ i * (val (zs.drop i) / 2 ^ rest) = val zs / 2 ^ rest)
    (fun iv _ => zs.length - (intOf iv).toNat)
  case atStart => exact ⟨0, [], Nat.zero_le _, rfl, rfl, by simpa using Hs1.out, hb1, by simp [val]⟩
  case round =>
    obtain ⟨i, ds, hi, hdl, rfl, hsl, hbel, hval⟩ := hrel
    have Hdl := Lib.hid hdl
    have Hval := Lib.hid hval
    have Hsl := Lib.hid hsl
    clear hdl hval hsl
    by_cases hlt : i < zs.length
    · have hfull : (ds ++ zs.drop i).length = zs.length := by rw [List.length_append, List.length_drop, Hdl.out]; omega
      obtain ⟨b2, o2, rfl, hbs2, hcell, hfr⟩ := Hsl.out.open (i := i) (by omega)
      have hB := hf1 _ rfl
      have hz1 := Hsl.out.lt i
      have ez : (ds ++ zs.drop i).getD i 0 = zs.getD i 0 := getD_at_end ds zs i 0 Hdl.out
      rw [ez] at hcell hz1
      have hnext : i + 1 < zs.length → wr.cell? ⟨b2, o2 + (i + 1), none⟩ = some (.int .u32 (zs.getD (i + 1) 0)) ∧ zs.getD (i + 1) 0 < 4294967296 := by
        intro h
        obtain ⟨b3, o3, e3, _, hc3, _⟩ := Hsl.out.open (i := i + 1) (by omega)
        have hl3 := Hsl.out.lt (i + 1)
        cases e3
        have ez3 : (ds ++ zs.drop i).getD (i + 1) 0 = zs.getD (i + 1) 0 := getD_at_end ds zs i 1 Hdl.out
        rw [ez3] at hc3 hl3
        exact ⟨hc3, hl3⟩
      have hvi := val_drop_cons zs i hlt
      obtain ⟨x, ex⟩ : ∃ x, zs.getD i 0 = x := ⟨_, rfl⟩
      rw [ex] at hcell hz1 hvi
      have Hfull := Lib.hid hfull
      clear hfull ez ex
      by_cases hn1 : i + 1 < zs.length
      · obtain ⟨hcell2, hy1⟩ := hnext hn1
        have hvi2 := val_drop_cons zs (i + 1) hn1
        obtain ⟨y, ey⟩ : ∃ x, zs.getD (i + 1) 0 = x := ⟨_, rfl⟩
        rw [ey] at hcell2 hy1 hvi2
        have hor := or_limbs' y x hy1 hz1
        have Hvi := Lib.hid hvi
        have Hvi2 := Lib.hid hvi2
        clear hnext ey hvi hvi2
        go_wp2
        go_roundw
        case rel =>
          have hd := down_digit x (val (zs.drop (i + 1))) rest (by omega) hz1
          have hm : val (zs.drop (i + 1)) % 4294967296 = y := by rw [Hvi2.out, Nat.add_mul_mod_self_left, Nat.mod_eq_of_lt hy1]
          rw [hm, ← Hvi.out] at hd
          have hset := Hsl.out.set i ((x + 4294967296 * y) / 2 ^ rest % 4294967296) (by rw [Hfull.out]; exact hlt) (Nat.mod_lt _ (by omega)) _ (cast_shr x y rest)
          rw [set_at_end _ _ _ _ Hdl.out hlt] at hset
          refine ⟨i + 1, ds ++ [(x + 4294967296 * y) / 2 ^ rest % 4294967296], by omega, by simp [Hdl.out], by go_num, hset, hbel.setCell (p := ⟨b2, o2 + i, none⟩) hB _, ?_⟩
          rw [val_snoc, Hdl.out, ← Hval.out, hd, Nat.pow_succ]
          generalize (x + 4294967296 * y) / 2 ^ rest % 4294967296 = d
          generalize val (zs.drop (i + 1)) / 2 ^ rest = q
          generalize 4294967296 ^ i = p
          grind
        case measure => simp [intOf]; omega
      · have hv0 : val (zs.drop (i + 1)) = 0 := by rw [List.drop_of_length_le (by omega)]; rfl
        have Hvi := Lib.hid hvi
        have Hv0 := Lib.hid hv0
        clear hnext hvi hv0
        go_wp2
        go_roundw
        case rel =>
          have hd := down_digit x (val (zs.drop (i + 1))) rest (by omega) hz1
          rw [← Hvi.out, Hv0.out, Nat.zero_mod] at hd
          have hset := Hsl.out.set i ((x + 4294967296 * 0) / 2 ^ rest % 4294967296) (by rw [Hfull.out]; exact hlt) (Nat.mod_lt _ (by omega)) _ (cast_shr0 x rest)
          rw [set_at_end _ _ _ _ Hdl.out hlt] at hset
          refine ⟨i + 1, ds ++ [(x + 4294967296 * 0) / 2 ^ rest % 4294967296], by omega, by simp [Hdl.out], by go_num, hset, hbel.setCell (p := ⟨b2, o2 + i, none⟩) hB _, ?_⟩
          rw [val_snoc, Hdl.out, ← Hval.out, hd, Nat.pow_succ, Hv0.out]
          generalize (x + 4294967296 * 0) / 2 ^ rest % 4294967296 = d
          generalize 0 / 2 ^ rest = q
          generalize 4294967296 ^ i = p
          grind
        case measure => simp [intOf]; omega
    · obtain rfl : i = zs.length := by omega
      have hsl := Hsl.out
      rw [List.drop_of_length_le (Nat.le_refl _), List.append_nil] at hsl
      have hv : val ds = val zs / 2 ^ rest := by
        have := Hval.out
        rw [List.drop_of_length_le (Nat.le_refl _), val, Nat.zero_div, Nat.mul_zero, Nat.add_zero] at this
        exact this
      have Hv := Lib.hid hv
      clear hv
      go_wp2_with (go_at_call 96; refine (trim_calls _ _ _ ds _ hsl Hdl.out.symm).mono ?_; rintro e w' ⟨kk, rfl, hnum, rfl⟩)
      go_ret
      rw [Hv.out] at hnum
      exact ⟨_, rfl, hnum, fresh_of hf1, hbel⟩

theorem down_div (m n : Nat) : m / 4294967296 ^ (n / 32) / 2 ^ (n % 32) = m / 2 ^ n := by
  have e : (4294967296 : Nat) = 2 ^ 32 := by decide
  rw [e, ← Nat.pow_mul, Nat.div_div_eq_div_mul, ← Nat.pow_add, Nat.div_add_mod]

/-- down divides by a power of 2. -/
theorem down_calls (v : Value) (m n : Nat) (z : Int) (w : World) (hv : Num w v m) (hz : z = (n : Int)) (hreach : (limbs m).length ≤ 1000000000) (hn : n ≤ 32000000000) :
    Calls Tryz.prog 119 #[v, .int .i64 z] w (RetNum w (m / 2 ^ n)) := by
  obtain ⟨ad, c, rfl, hs⟩ := hv
  subst hz
  by_cases h0 : n / 32 < (limbs m).length
  · have := down_raw ad c n _ w hs h0 hreach hn
    rwa [← limbs_drop h0, val_limbs, down_div] at this
  · have hlt : m < 4294967296 ^ (n / 32) := limbs_length_le_iff.1 (by omega)
    have e : m / 2 ^ n = 0 := by rw [← down_div, Nat.div_eq_of_lt hlt, Nat.zero_div]
    rw [e]
    have t0 : ((limbs m).length : Int) ≤ (n : Int) / 32 := by omega
    clear e hlt
    go_enter Tryz.func119, Tryz.ntmps119
    go_wp2
    go_ret
    exact ⟨_, rfl, Num.nil _, trivial, Below.refl _ _⟩

end Go.Proofs

namespace Go.Proofs
set_option linter.unusedVariables false
set_option linter.unusedSimpArgs false

/-- The parts of the numbers that the guess looks at: P is a power of the base, u0 u1 u2 and v1 v2 the leading limbs. -/
structure Lead (P U V u0 u1 u2 v1 v2 : Nat) : Prop where
  u : P * (u2 + 4294967296 * (u0 * 4294967296 + u1)) ≤ U
  u' : U < P * (u2 + 4294967296 * (u0 * 4294967296 + u1)) + P
  v : P * (v2 + 4294967296 * v1) ≤ V
  v' : V < P * (v2 + 4294967296 * v1) + P
  lt : U < 4294967296 * V
  b0 : u0 < 4294967296
  b1 : u1 < 4294967296
  b2 : u2 < 4294967296
  c1 : v1 < 4294967296
  c2 : v2 < 4294967296
  top : 2147483648 ≤ v1

variable {P U V u0 u1 u2 v1 v2 : Nat}

theorem Lead.ppos (h : Lead P U V u0 u1 u2 v1 v2) : 0 < P := by
  have h1 := h.v; have h2 := h.v'
  omega

theorem Lead.vpos (h : Lead P U V u0 u1 u2 v1 v2) : 0 < V := by
  have h1 := h.v
  have h2 := h.ppos
  have h3 := h.top
  have : 0 < P * (v2 + 4294967296 * v1) := Nat.mul_pos h2 (by omega)
  omega

theorem Lead.first (h : Lead P U V u0 u1 u2 v1 v2) : u0 ≤ v1 := by
  rcases Nat.lt_or_ge v1 u0 with hlt | hge
  · exfalso
    have h1 := h.u; have h2 := h.v'; have h3 := h.lt; have h4 := h.c2
    have e1 : P * (4294967296 * ((v1 + 1) * 4294967296)) ≤ P * (u2 + 4294967296 * (u0 * 4294967296 + u1)) := Nat.mul_le_mul_left P (by omega)
    have e2 : P * (v2 + 4294967296 * v1) + P ≤ P * (4294967296 * (v1 + 1)) := by
      have := Nat.mul_le_mul_left P (show v2 + 4294967296 * v1 + 1 ≤ 4294967296 * (v1 + 1) by omega)
      rw [Nat.mul_add P _ 1, Nat.mul_one] at this
      exact this
    have e3 : 4294967296 * V < 4294967296 * (P * (4294967296 * (v1 + 1))) := by omega
    have e4 : 4294967296 * (P * (4294967296 * (v1 + 1))) = P * (4294967296 * ((v1 + 1) * 4294967296)) := by grind
    omega
  · exact hge

theorem Lead.quo (h : Lead P U V u0 u1 u2 v1 v2) : U / V < 4294967296 := Nat.div_lt_of_lt_mul (by rw [Nat.mul_comm]; exact h.lt)

/-- the first guess is not less than the quotient -/
theorem Lead.init (h : Lead P U V u0 u1 u2 v1 v2) : U / V ≤ (u0 * 4294967296 + u1) / v1 := by
  have hq : U / V * V ≤ U := Nat.div_mul_le_self U V
  have h2 := h.u'; have h3 := h.v; have h4 := h.b2; have h5 := h.top
  generalize U / V = q at *
  generalize u0 * 4294967296 + u1 = t at *
  refine (Nat.le_div_iff_mul_le (by omega)).2 ?_
  rcases Nat.lt_or_ge t (q * v1) with hlt | hge
  · exfalso
    have e1 : q * (P * (v2 + 4294967296 * v1)) ≤ q * V := Nat.mul_le_mul_left q h3
    have e2 : P * (4294967296 * (t + 1)) ≤ P * (4294967296 * (q * v1)) := Nat.mul_le_mul_left P (by omega)
    have e3 : q * (P * (v2 + 4294967296 * v1)) = q * P * v2 + P * (4294967296 * (q * v1)) := by grind
    have e4 : P * (u2 + 4294967296 * t) + P ≤ P * (4294967296 * (t + 1)) := by
      have := Nat.mul_le_mul_left P (show u2 + 4294967296 * t + 1 ≤ 4294967296 * (t + 1) by omega)
      rw [Nat.mul_add P _ 1, Nat.mul_one] at this
      exact this
    omega
  · exact hge

theorem Lead.init_le (h : Lead P U V u0 u1 u2 v1 v2) : (u0 * 4294967296 + u1) / v1 ≤ 4294967297 := by
  have h0 := h.first; have h1 := h.b1; have h5 := h.top
  have e : u0 * 4294967296 + u1 < v1 * 4294967298 := by omega
  have : (u0 * 4294967296 + u1) / v1 < 4294967298 := Nat.div_lt_of_lt_mul e
  omega

/-- a guess that is too great for two limbs is too great -/
theorem Lead.down (h : Lead P U V u0 u1 u2 v1 v2) {g r t : Nat} (ht : u0 * 4294967296 + u1 = t) (he : g * v1 + r = t) (hg : r * 4294967296 + u2 < g * v2) : U / V < g := by
  rcases Nat.lt_or_ge (U / V) g with hlt | hge
  · exact hlt
  · exfalso
    have hq : U / V * V ≤ U := Nat.div_mul_le_self U V
    have h1 : g * V ≤ U := Nat.le_trans (Nat.mul_le_mul_right V hge) hq
    have h2 := h.u'; have h3 := h.v
    rw [ht] at h2
    have e1 : g * (P * (v2 + 4294967296 * v1)) ≤ g * V := Nat.mul_le_mul_left g h3
    have e2 : g * (P * (v2 + 4294967296 * v1)) = P * (g * v2 + 4294967296 * (g * v1)) := by grind
    have e3 : P * (u2 + 4294967296 * t + 1) ≤ P * (g * v2 + 4294967296 * (g * v1)) := Nat.mul_le_mul_left P (by omega)
    rw [Nat.mul_add P _ 1, Nat.mul_one] at e3
    omega

/-- a guess that is right for two limbs is at most one too great -/
theorem Lead.near (h : Lead P U V u0 u1 u2 v1 v2) {g r t : Nat} (ht : u0 * 4294967296 + u1 = t) (he : g * v1 + r = t) (hg : g * v2 ≤ r * 4294967296 + u2) (hw : g ≤ 4294967296) : g ≤ U / V + 1 := by
  have h2 := h.u; have h3 := h.v'; have h3' := h.v; have h5 := h.top; have hp := h.ppos; have hv := h.vpos
  rw [ht] at h2
  have e1 : P * (g * v2 + 4294967296 * (g * v1)) ≤ P * (u2 + 4294967296 * t) := Nat.mul_le_mul_left P (by omega)
  obtain ⟨v0, hv0⟩ : ∃ v0, V = P * (v2 + 4294967296 * v1) + v0 := ⟨V - P * (v2 + 4294967296 * v1), by omega⟩
  have hv1 : v0 < P := by omega
  have e2 : g * V = P * (g * v2 + 4294967296 * (g * v1)) + g * v0 := by rw [hv0]; grind
  have e3 : g * v0 < V := by
    have a1 : g * v0 ≤ 4294967296 * v0 := Nat.mul_le_mul_right v0 hw
    have a2 : P * 4294967296 ≤ P * (v2 + 4294967296 * v1) := Nat.mul_le_mul_left P (by omega)
    omega
  rcases Nat.eq_zero_or_pos g with h0 | h0
  · rw [h0]; exact Nat.zero_le _
  · obtain ⟨k, rfl⟩ : ∃ k, g = k + 1 := ⟨g - 1, by omega⟩
    have : k ≤ U / V := (Nat.le_div_iff_mul_le hv).2 (by rw [Nat.add_mul, Nat.one_mul] at e2; omega)
    exact Nat.succ_le_succ this

/-- where the loop is left because the remainder has no room any more -/
theorem Lead.left (h : Lead P U V u0 u1 u2 v1 v2) {g r t : Nat} (ht : u0 * 4294967296 + u1 = t) (he : g * v1 + r = t) (hr : 4294967296 ≤ r) : g < 4294967296 ∧ g * v2 ≤ r * 4294967296 + u2 := by
  have h0 := h.first; have h1 := h.b1; have h2 := h.c2
  have hg : g < 4294967296 := by
    rcases Nat.lt_or_ge g 4294967296 with hlt | hge
    · exact hlt
    · exfalso
      have : 4294967296 * v1 ≤ g * v1 := Nat.mul_le_mul_right v1 hge
      omega
  refine ⟨hg, ?_⟩
  have : g * v2 ≤ 4294967296 * 4294967296 := Nat.mul_le_mul (by omega) (by omega)
  omega

/-- taking the guess's multiple away: no borrow tells that the guess is right -/
theorem sub_right {U V g D Wn : Nat} (hv : 0 < V) (h : D + g * V = U) (h1 : U / V ≤ g) : U / V = g ∧ U % V = D := by
  have hle : g ≤ U / V := (Nat.le_div_iff_mul_le hv).2 (by omega)
  have e : U / V = g := by omega
  have := Nat.div_add_mod U V
  rw [e, Nat.mul_comm] at this
  exact ⟨e, by omega⟩

/-- a borrow tells that it is one too great -/
theorem sub_wrong {U V g D Wn : Nat} (hv : 0 < V) (h : D + g * V = U + Wn) (hD : D < Wn) (h1 : g ≤ U / V + 1) : U / V + 1 = g ∧ D + V = U % V + Wn := by
  have hlt : ¬ g ≤ U / V := by
    intro hle
    have := Nat.mul_le_mul_right V hle
    have := Nat.div_mul_le_self U V
    omega
  have e : U / V + 1 = g := by omega
  have hd := Nat.div_add_mod U V
  rw [← e, Nat.add_mul, Nat.one_mul, Nat.mul_comm (U / V)] at h
  exact ⟨e, by omega⟩

end Go.Proofs

open Go.RowKit
namespace Go.Proofs
set_option linter.unusedVariables false
set_option linter.unusedSimpArgs false

/-- what digit leaves -/
def Digit (w : World) (B : Nat) (L T : List Nat) (n U V : Nat) (e : Ending) (w' : World) : Prop :=
  ∃ us, e = .returned (.int .u32 ((U / V : Nat) : Int)) ∧ us.length = n + 1 ∧ val us = U % V ∧ Row w' B (L ++ us ++ T) ∧ Only B w w'

/-- the leading limbs of both numbers -/
theorem lead_of (us vs : List Nat) (n : Nat) (hu : us.length = n + 1) (hv : vs.length = n) (hn : 2 ≤ n) (hus : ∀ x ∈ us, x < 4294967296) (hvs : ∀ x ∈ vs, x < 4294967296) (htop : 2147483648 ≤ vs.getD (n - 1) 0) (hlt : val us < 4294967296 * val vs) :
    Lead (4294967296 ^ (n - 2)) (val us) (val vs) (us.getD n 0) (us.getD (n - 1) 0) (us.getD (n - 2) 0) (vs.getD (n - 1) 0) (vs.getD (n - 2) 0) := by
  have eu := val_take_drop us (n - 2) (by omega)
  have ev := val_take_drop vs (n - 2) (by omega)
  have lu := val_lt (us.take (n - 2)) fun x h => hus x (List.mem_of_mem_take h)
  have lv := val_lt (vs.take (n - 2)) fun x h => hvs x (List.mem_of_mem_take h)
  rw [List.length_take, Nat.min_eq_left (by omega)] at lu lv
  have du0 := val_drop_cons us (n - 2) (by omega)
  have du1 := val_drop_cons us (n - 2 + 1) (by omega)
  have du2 := val_drop_cons us (n - 2 + 1 + 1) (by omega)
  have du3 : us.drop (n - 2 + 1 + 1 + 1) = [] := List.drop_of_length_le (by omega)
  have dv0 := val_drop_cons vs (n - 2) (by omega)
  have dv1 := val_drop_cons vs (n - 2 + 1) (by omega)
  have dv2 : vs.drop (n - 2 + 1 + 1) = [] := List.drop_of_length_le (by omega)
  rw [show n - 2 + 1 + 1 = n by omega] at du1 du2 dv1 dv2
  rw [show n - 2 + 1 = n - 1 by omega] at du0 du1 dv0 dv1
  rw [show n - 2 + 1 + 1 + 1 = n + 1 by omega] at du3
  rw [du3] at du2
  rw [dv2] at dv1
  simp only [val, Nat.mul_zero, Nat.add_zero] at du2 dv1
  rw [dv1] at dv0
  rw [du2] at du1
  rw [du1] at du0
  rw [du0] at eu
  rw [dv0] at ev
  have b0 := getD_lt_of hus n
  have b1 := getD_lt_of hus (n - 1)
  have b2 := getD_lt_of hus (n - 2)
  have c1 := getD_lt_of hvs (n - 1)
  have c2 := getD_lt_of hvs (n - 2)
  have e1 : us.getD (n - 2) 0 + 4294967296 * (us.getD (n - 1) 0 + 4294967296 * us.getD n 0) = us.getD (n - 2) 0 + 4294967296 * (us.getD n 0 * 4294967296 + us.getD (n - 1) 0) := by omega
  rw [e1] at eu
  exact ⟨by omega, by omega, by omega, by omega, hlt, b0, b1, b2, c1, c2, htop⟩

theorem sub_step (p g y c b c' q r d x vs vt vu v0 : Nat) (h : vu + g * vt = v0 + (c + b) * p) (hs : vs + p * x = vu + p * d) (he : d + r + b = x + 4294967296 * q) (hd : 4294967296 * c' + r = g * y + c) :
    vs + g * (vt + p * y) = v0 + (c' + q) * (p * 4294967296) := by
  grind

theorem sub_last (p g c b q d x vs vt vu v0 : Nat) (h : vu + g * vt = v0 + (c + b) * p) (hs : vs + p * x = vu + p * d) (he : d + c + b = x + 4294967296 * q) :
    vs + g * vt = v0 + q * (p * 4294967296) := by
  grind

theorem back_step (p x y k q r vs vt vu v0 : Nat) (h : vu + k * p = v0 + vt) (hs : vs + p * x = vu + p * r) (hd : 4294967296 * q + r = x + y + k) : vs + q * (p * 4294967296) = v0 + (vt + p * y) := by
  grind

theorem back_end (p x k v3 vs v2 vt m : Nat) (hx : x < 4294967296) (hm : m < p) (hlow : vs < p) (h1 : v3 + k * p = v2 + vt) (hset : vs + p * x = v3) (h2 : v2 + vt = m + p * 4294967296) : x + k = 4294967296 ∧ vs = m := by
  have e : vs + p * (x + k) = m + p * 4294967296 := by grind
  have h3 : x + k = 4294967296 := by
    rcases Nat.lt_trichotomy (x + k) 4294967296 with h | h | h
    · exfalso
      have := Nat.mul_le_mul_left p (show x + k + 1 ≤ 4294967296 by omega)
      rw [Nat.mul_add, Nat.mul_one] at this
      omega
    · exact h
    · exfalso
      have := Nat.mul_le_mul_left p (show 4294967296 + 1 ≤ x + k by omega)
      rw [Nat.mul_add, Nat.mul_one] at this
      omega
  rw [h3] at e
  exact ⟨h3, by omega⟩

set_option maxHeartbeats 1000000 in
set_option maxRecDepth 100000 in
theorem digit_raw (B o n cu : Nat) (L us T : List Nat) (adv : Option Addr) (cv : Nat) (vs : List Nat) (w : World) (hrow : Row w B (L ++ us ++ T)) (hL : L.length = o) (hus : us.length = n + 1) (hvs : vs.length = n)
    (hv : Sl w adv cv vs) (hap : ∀ a, adv = some a → a.block ≠ B) (hn : 2 ≤ n) (htop : 2147483648 ≤ vs.getD (n - 1) 0) (hlt : val us < 4294967296 * val vs) (hcu : n + 1 ≤ cu) (hreach : n ≤ 4000000000) :
    Calls Tryz.prog 118 #[.slice (some ⟨B, o, none⟩) (n + 1) cu, .slice adv n cv] w (Digit w B L T n (val us) (val vs)) := by
  have hlead := lead_of us vs n hus hvs hn hrow.midLt hv.2.2.1 htop hlt
  obtain ⟨bv, ov, rfl, hbv, hcv1, _⟩ := hv.open (i := n - 1) (by omega)
  have hbB : bv ≠ B := hap _ rfl
  obtain ⟨bv', ov', e', _, hcv2, _⟩ := hv.open (i := n - 2) (by omega)
  cases e'
  have hcu0 := hrow.midCell hL (i := n) (by omega)
  have hcu1 := hrow.midCell hL (i := n - 1) (by omega)
  have hcu2 := hrow.midCell hL (i := n - 2) (by omega)
  obtain ⟨u0, hu0⟩ : ∃ x, us.getD n 0 = x := ⟨_, rfl⟩
  obtain ⟨u1, hu1⟩ : ∃ x, us.getD (n - 1) 0 = x := ⟨_, rfl⟩
  obtain ⟨u2, hu2⟩ : ∃ x, us.getD (n - 2) 0 = x := ⟨_, rfl⟩
  obtain ⟨v1, hv1⟩ : ∃ x, vs.getD (n - 1) 0 = x := ⟨_, rfl⟩
  obtain ⟨v2, hv2⟩ : ∃ x, vs.getD (n - 2) 0 = x := ⟨_, rfl⟩
  rw [hu0] at hcu0
  rw [hu1] at hcu1
  rw [hu2] at hcu2
  rw [hv1] at hcv1
  rw [hv2] at hcv2
  rw [hu0, hu1, hu2, hv1, hv2] at hlead
  have b0 := hlead.b0; have b1 := hlead.b1; have b2 := hlead.b2; have c1 := hlead.c1; have c2 := hlead.c2; have ctop := hlead.top
  have HL := Lib.hid hL
  have Hus := Lib.hid hus
  have Hvs := Lib.hid hvs
  have Hlead := Lib.hid hlead
  have Hv1 := Lib.hid hv1
  have hor := or_limbs u0 u1 b0 b1
  have k1 : IntKind.i64.wrap ((n : Int) - 1) = (n : Int) - 1 := IntWalk.i64_in _ (by omega)
  have k2 : (0 : Int) ≤ (n : Int) - 1 := by omega
  have k3 : ((n : Int) - 1).toNat = n - 1 := by omega
  have k4 : (n : Int) - 1 < (n : Int) + 1 := by omega
  have k5 : (n : Int) - 1 < (n : Int) := by omega
  have k6 : (n : Int) < (n : Int) + 1 := by omega
  have d0 : ((v1 : Int) == 0) = false := by rw [beq_eq_false_iff_ne]; omega
  have d1 : (1 : Int) ≤ (v1 : Int) := by omega
  clear hu0 hu1 hu2 hv1 hv2 hL hus hvs hlead htop hlt hap
  go_enter Tryz.func118, Tryz.ntmps118
  go_wp2_with fail
  go_quiet (fail)
  go_wp2_with fail
  go_quiet (fail)
  go_upto_block 0 with (fail)
  have hB := hrow.lt
  obtain ⟨t, ht⟩ : ∃ t, u0 * 4294967296 + u1 = t := ⟨_, rfl⟩
  have et : (u0 : Int) * 4294967296 + (u1 : Int) = (t : Int) := by omega
  rw [et]
  have hinit := Hlead.out.init
  have hile := Hlead.out.init_le
  rw [ht] at hinit hile
  have Ht := Lib.hid ht
  clear et ht hor
  go_cut [7, 8] (fun gv rv wx => ∃ g : Nat, val us / val vs ≤ g ∧ g ≤ val us / val vs + 1 ∧ g < 4294967296 ∧ gv = .int .u64 g ∧ Below w.heap.size w wx)
  case first =>
    go_wp2_with fail
    go_loopw [7, 8] (fun gv rv wr => ∃ g r : Nat, val us / val vs ≤ g ∧ g ≤ 4294967297 ∧ g * v1 + r = t ∧ r < 4294967296 ∧ gv = .int .u64 g ∧ rv = .int .u64 r ∧ Below w.heap.size w wr)
      (fun gv _ _ => (intOf gv).toNat)
    case atStart =>
      exact ⟨t / v1, t % v1, hinit, hile, by rw [Nat.mul_comm]; exact Nat.div_add_mod t v1, Nat.lt_of_lt_of_le (Nat.mod_lt _ (by omega)) (by omega), congrArg (Value.int .u64) (Int.natCast_ediv t v1).symm, congrArg (Value.int .u64) (Int.natCast_emod t v1).symm, below_drewN (below_drewN (Below.refl _ _) _) _⟩
    case round =>
      obtain ⟨g, r, hg, hg2, hgr, hr, rfl, rfl, hbel⟩ := hrel
      have Hg := Lib.hid hg
      have Hgr := Lib.hid hgr
      have cu0 := (hbel.cell (p := ⟨B, o + n, none⟩) hB).trans hcu0
      have cu1 := (hbel.cell (p := ⟨B, o + (n - 1), none⟩) hB).trans hcu1
      have cu2 := (hbel.cell (p := ⟨B, o + (n - 2), none⟩) hB).trans hcu2
      have cv1 := (hbel.cell (p := ⟨bv, ov + (n - 1), none⟩) hbv).trans hcv1
      have cv2 := (hbel.cell (p := ⟨bv, ov + (n - 2), none⟩) hbv).trans hcv2
      have j1 : IntKind.i64.wrap ((n : Int) - 2) = (n : Int) - 2 := IntWalk.i64_in _ (by omega)
      have j2 : (0 : Int) ≤ (n : Int) - 2 := by omega
      have j3 : ((n : Int) - 2).toNat = n - 2 := by omega
      have j4 : (n : Int) - 2 < (n : Int) + 1 := by omega
      have j5 : (n : Int) - 2 < (n : Int) := by omega
      clear hg hgr hinit hile
      have finish : ∀ r', (4294967296 ≤ r' → (g - 1) * v1 + r' = t → val us / val vs ≤ g - 1 → g - 1 < 4294967296 ∧ g - 1 ≤ val us / val vs + 1) := by
        intro r' h1 h2 h3
        have h4 := Hlead.out.left Ht.out h2 h1
        exact ⟨h4.1, Hlead.out.near Ht.out h2 h4.2 (by omega)⟩
      by_cases hbig : 4294967296 ≤ g
      · have q1 : decide ((0 : Int) < (g : Int) / 4294967296) = true := by simp; omega
        have hlow : val us / val vs ≤ g - 1 := by have := Hlead.out.quo; omega
        have hmul : (g - 1) * v1 + (r + v1) = t := by
          have := Hgr.out
          obtain ⟨k, rfl⟩ : ∃ k, g = k + 1 := ⟨g - 1, by omega⟩
          rw [Nat.add_mul, Nat.one_mul] at this
          rw [Nat.add_sub_cancel]
          omega
        have fin := finish (r + v1)
        have Hlow := Lib.hid hlow
        have Hmul := Lib.hid hmul
        have Fin := Lib.hid fin
        clear hlow hmul fin finish
        by_cases hbr : 4294967296 ≤ r + v1
        · have q2 : decide ((0 : Int) < ((r : Int) + (v1 : Int)) / 4294967296) = true := by simp; omega
          go_wp2_with fail
          go_quiet (fail)
          go_wp2_with fail
          go_meet
          have hf := Fin.out hbr Hmul.out Hlow.out
          exact ⟨g - 1, Hlow.out, hf.2, hf.1, congrArg (Value.int .u64) (by omega), below_drewN hbel _⟩
        · have q2 : decide ((0 : Int) < ((r : Int) + (v1 : Int)) / 4294967296) = false := by simp; omega
          go_wp2_with fail
          go_quiet (fail)
          go_wp2_with fail
          go_roundw
          case rel => exact ⟨g - 1, r + v1, Hlow.out, by omega, Hmul.out, by omega, congrArg (Value.int .u64) (by omega), by go_num, below_drewN hbel _⟩
          case measure => simp [intOf]; omega
      · have q1 : decide ((0 : Int) < (g : Int) / 4294967296) = false := by simp; omega
        have hor := or_limbs r u2 hr b2
        have m0 : (0 : Int) ≤ (g : Int) * (v2 : Int) := Int.mul_nonneg (by omega) (by omega)
        have m1 : (g : Int) * (v2 : Int) ≤ 18446744065119617025 := by
          have := Nat.mul_le_mul (show g ≤ 4294967295 by omega) (show v2 ≤ 4294967295 by omega)
          have h2 : ((g * v2 : Nat) : Int) ≤ ((4294967295 * 4294967295 : Nat) : Int) := by exact_mod_cast this
          rw [Int.natCast_mul] at h2
          omega
        have hgv : ((g * v2 : Nat) : Int) = (g : Int) * (v2 : Int) := Int.natCast_mul _ _
        by_cases hgt : r * 4294967296 + u2 < g * v2
        · have q3 : decide ((r : Int) * 4294967296 + (u2 : Int) < (g : Int) * (v2 : Int)) = true := by rw [decide_eq_true_eq]; omega
          have hlow : val us / val vs ≤ g - 1 := by
            have := Hlead.out.down Ht.out Hgr.out hgt
            exact Nat.le_sub_one_of_lt this
          have hg0 : 1 ≤ g := by
            rcases Nat.eq_zero_or_pos g with h0 | h0
            · rw [h0, Nat.zero_mul] at hgt; omega
            · exact h0
          have hmul : (g - 1) * v1 + (r + v1) = t := by
            have := Hgr.out
            obtain ⟨k, rfl⟩ : ∃ k, g = k + 1 := ⟨g - 1, by omega⟩
            rw [Nat.add_mul, Nat.one_mul] at this
            rw [Nat.add_sub_cancel]
            omega
          have fin := finish (r + v1)
          have Hlow := Lib.hid hlow
          have Hmul := Lib.hid hmul
          have Fin := Lib.hid fin
          clear hlow hmul fin finish hgv hgt
          by_cases hbr : 4294967296 ≤ r + v1
          · have q2 : decide ((0 : Int) < ((r : Int) + (v1 : Int)) / 4294967296) = true := by simp; omega
            go_wp2_with fail
            go_quiet (fail)
            go_wp2_with fail
            go_meet
            have hf := Fin.out hbr Hmul.out Hlow.out
            exact ⟨g - 1, Hlow.out, hf.2, hf.1, congrArg (Value.int .u64) (by omega), below_drewN hbel _⟩
          · have q2 : decide ((0 : Int) < ((r : Int) + (v1 : Int)) / 4294967296) = false := by simp; omega
            go_wp2_with fail
            go_quiet (fail)
            go_wp2_with fail
            go_roundw
            case rel => exact ⟨g - 1, r + v1, Hlow.out, by omega, Hmul.out, by omega, congrArg (Value.int .u64) (by omega), by go_num, below_drewN hbel _⟩
            case measure => simp [intOf]; omega
        · have q3 : decide ((r : Int) * 4294967296 + (u2 : Int) < (g : Int) * (v2 : Int)) = false := by rw [decide_eq_false_iff_not]; omega
          have hnear := Hlead.out.near Ht.out Hgr.out (by omega) (by omega)
          have Hnear := Lib.hid hnear
          clear hnear finish hgv hgt
          go_wp2_with fail
          go_quiet (fail)
          go_wp2_with fail
          go_meet
          exact ⟨g, Hg.out, Hnear.out, by omega, rfl, below_drewN hbel _⟩
  case rest =>
    obtain ⟨g, hg1, hg2, hgW, rfl, hbel⟩ := hcut
    have Hg1 := Lib.hid hg1
    have Hg2 := Lib.hid hg2
    have honly := below_toOnly hbel B
    have hrowc := hrow.below hbel hB
    clear k1 k2 k3 k4 k5 k6 d0 d1 hinit hile hcu0 hcu1 hcu2 hcv1 hcv2 hg1 hg2
    go_wp2_with fail
    go_loopw [9, 10, 84] (fun cv bv iv wr => ∃ (i c b : Nat) (us' : List Nat), i ≤ n ∧ c < 4294967296 ∧ b ≤ 1 ∧ us'.length = n + 1 ∧ iv = .int .i64 i ∧ cv = .int .u64 c ∧ bv = .int .u32 b ∧ Row wr B (L ++ us' ++ T) ∧ Only B w wr ∧
        val us' + g * val (vs.take i) = val us + (c + b) * 4294967296 ^ i)
      (fun _ _ iv _ => n - (intOf iv).toNat)
    case atStart => exact ⟨0, 0, 0, us, Nat.zero_le _, by omega, by omega, Hus.out, rfl, rfl, rfl, hrowc, honly, by simp [val]⟩
    case round =>
      obtain ⟨i, c, b, us', hi, hc, hb, hlen, rfl, rfl, rfl, hrow', honly', hval⟩ := hrel
      have Hlen := Lib.hid hlen
      have Hval := Lib.hid hval
      have Hrow := Lib.hid hrow'
      clear hlen hval hrow'
      by_cases hlt : i < n
      · obtain ⟨bv2, ov2, e2, _, hcell, _⟩ := hv.open (i := i) (by rw [Hvs.out]; exact hlt)
        cases e2
        have hy1 := hv.lt i
        obtain ⟨y, ey⟩ : ∃ x, vs.getD i 0 = x := ⟨_, rfl⟩
        rw [ey] at hcell hy1
        have hcell' := (honly'.cell (p := ⟨bv, ov + i, none⟩) hbv hbB).trans hcell
        have ucell := Hrow.out.midCell HL.out (i := i) (by rw [Hlen.out]; omega)
        have ufree := Hrow.out.free (o + i)
        have hx1 := getD_lt_of Hrow.out.midLt i
        obtain ⟨x, ex⟩ : ∃ x, us'.getD i 0 = x := ⟨_, rfl⟩
        rw [ex] at ucell hx1
        have Hy := Lib.hid ey
        have Hx := Lib.hid ex
        have m0 : (0 : Int) ≤ (g : Int) * (y : Int) := Int.mul_nonneg (by omega) (by omega)
        have m1 : (g : Int) * (y : Int) ≤ 18446744065119617025 := by
          have := Nat.mul_le_mul (show g ≤ 4294967295 by omega) (show y ≤ 4294967295 by omega)
          have h2 : ((g * y : Nat) : Int) ≤ ((4294967295 * 4294967295 : Nat) : Int) := by exact_mod_cast this
          rw [Int.natCast_mul] at h2
          omega
        clear ey ex hcell
        go_wp2_with (go_at_call 121; refine (sub32_int _ _ _ _ (by omega) (by omega) (by omega) (by omega) (by omega) (by omega)).mono ?_; rintro e w' ⟨d, q, rfl, hd, hq, he, rfl⟩; have HE := Lib.hid he; clear he)
        go_roundw
        case rel =>
          have hgy : ((g * y : Nat) : Int) = (g : Int) * (y : Int) := Int.natCast_mul _ _
          have hset := val_set us' i d (by rw [Hlen.out]; omega)
          have he := HE.out
          refine ⟨i + 1, (g * y + c) / 4294967296, q, us'.set i d, by omega, by omega, hq, by simp [Hlen.out], by go_num, by go_num, rfl, Hrow.out.midPut HL.out i d (by rw [Hlen.out]; omega) hd _ rfl, honly'.setCell rfl _, ?_⟩
          rw [val_take_succ _ _ (by rw [Hvs.out]; exact hlt), Hy.out, Nat.pow_succ]
          rw [Hx.out] at hset
          have hv' := Hval.out
          have e3 : d + (g * y + c) % 4294967296 + b = x + 4294967296 * q := by omega
          have hdm := Nat.div_add_mod (g * y + c) 4294967296
          generalize (g * y + c) / 4294967296 = c' at *
          generalize (g * y + c) % 4294967296 = r at *
          generalize 4294967296 ^ i = p at *
          exact sub_step p g y c b c' q r d x _ _ _ _ hv' hset e3 hdm
        case measure => simp [intOf]; omega
      · obtain rfl : i = n := by omega
        have ucell := Hrow.out.midCell HL.out (i := i) (by rw [Hlen.out]; omega)
        have ufree := Hrow.out.free (o + i)
        have hx1 := getD_lt_of Hrow.out.midLt i
        obtain ⟨x, ex⟩ : ∃ x, us'.getD i 0 = x := ⟨_, rfl⟩
        rw [ex] at ucell hx1
        have Hx := Lib.hid ex
        clear ex
        go_wp2_with fail
        refine (sub32_int _ _ _ _ (by omega) (by omega) (by omega) (by omega) (by omega) (by omega)).mono ?_
        rintro e w' ⟨d, q, rfl, hd, hq, he, rfl⟩
        have hfin : val (us'.set i d) + g * val vs = val us + q * 4294967296 ^ (i + 1) := by
          have hset := val_set us' i d (by rw [Hlen.out]; omega)
          have hv' := Hval.out
          rw [List.take_of_length_le (by rw [Hvs.out]; exact Nat.le_refl _)] at hv'
          rw [Hx.out] at hset
          rw [Nat.pow_succ]
          have e3 : d + c + b = x + 4294967296 * q := by omega
          generalize 4294967296 ^ i = p at *
          exact sub_last p g c b q d x _ _ _ _ hv' hset e3
        have hVpos := Hlead.out.vpos
        have hrow2 := Hrow.out.midPut HL.out i d (by rw [Hlen.out]; omega) hd _ rfl
        have honly2 := honly'.setCell (p := ⟨B, o + i, none⟩) rfl (.int .u32 d)
        have hlen2 : (us'.set i d).length = i + 1 := by simp [Hlen.out]
        clear he
        by_cases hq0 : q = 0
        · subst hq0
          have hr := sub_right (Wn := 0) hVpos (by rw [hfin, Nat.zero_mul, Nat.add_zero]) Hg1.out
          have Hr := Lib.hid hr
          clear hfin hr
          go_wp2
          go_ret
          exact ⟨us'.set i d, by rw [Hr.out.1]; rfl, hlen2, Hr.out.2.symm, hrow2, honly2⟩
        · obtain rfl : q = 1 := by omega
          have hlt2 : val (us'.set i d) < 4294967296 ^ (i + 1) := by
            have := val_lt _ hrow2.midLt
            rwa [hlen2] at this
          have hw := sub_wrong hVpos (by rw [hfin, Nat.one_mul]) hlt2 Hg2.out
          have hg1 : 1 ≤ g := by rw [← hw.1]; exact Nat.le_add_left 1 _
          have Hw := Lib.hid hw
          have Hlen2 := Lib.hid hlen2
          have Hrow2 := Lib.hid hrow2
          generalize us'.set i d = u2 at *
          clear hfin hw hlt2 hlen2 hrow2 hVpos Hlen Hval Hrow Hx
          go_wp2_with fail
          go_loopw [13, 133] (fun ov2 jv wr => ∃ (j c : Nat) (us' : List Nat), j ≤ i ∧ c ≤ 1 ∧ us'.length = i + 1 ∧ jv = .int .i64 j ∧ ov2 = .int .u32 c ∧ Row wr B (L ++ us' ++ T) ∧ Only B w wr ∧
              val us' + c * 4294967296 ^ j = val u2 + val (vs.take j) ∧ us'.getD i 0 = u2.getD i 0)
            (fun _ jv _ => i - (intOf jv).toNat)
          case atStart => exact ⟨0, 0, u2, Nat.zero_le _, by omega, Hlen2.out, rfl, rfl, Hrow2.out, honly2, by simp [val], rfl⟩
          case round =>
            obtain ⟨j, k, u3, hj, hk, hlen3, rfl, rfl, hrow3, honly3, hval3, hlast3⟩ := hrel
            have Hlen3 := Lib.hid hlen3
            have Hval3 := Lib.hid hval3
            have Hrow3 := Lib.hid hrow3
            have Hlast3 := Lib.hid hlast3
            clear hlen3 hval3 hrow3 hlast3 ucell ufree
            by_cases hjt : j < i
            · obtain ⟨bv2, ov2, e2, _, hcell, _⟩ := hv.open (i := j) (by rw [Hvs.out]; exact hjt)
              cases e2
              have hy1 := hv.lt j
              obtain ⟨y, ey⟩ : ∃ x, vs.getD j 0 = x := ⟨_, rfl⟩
              rw [ey] at hcell hy1
              have hcell' := (honly3.cell (p := ⟨bv, ov + j, none⟩) hbv hbB).trans hcell
              have ucell := Hrow3.out.midCell HL.out (i := j) (by rw [Hlen3.out]; omega)
              have ufree := Hrow3.out.free (o + j)
              have hx1 := getD_lt_of Hrow3.out.midLt j
              obtain ⟨x, ex⟩ : ∃ x, u3.getD j 0 = x := ⟨_, rfl⟩
              rw [ex] at ucell hx1
              have Hy := Lib.hid ey
              have Hx := Lib.hid ex
              have k5 : (j : Int) < (i : Int) := by omega
              have k6 : (j : Int) < (i : Int) + 1 := by omega
              clear ey ex hcell
              go_wp2_with fail
              go_region_with (go_at_call 120; refine (add32_calls _ _ _ _ (by omega) (by omega) (by omega) (by omega) (by omega) (by omega)).mono ?_; rintro e w' ⟨rfl, rfl⟩)
              all_goals go_wp2
              all_goals
                go_roundw
                case rel =>
                  have hset := val_set u3 j ((x + y + k) % 4294967296) (by have := Hlen3.out; omega)
                  have hd := Nat.div_add_mod (x + y + k) 4294967296
                  refine ⟨j + 1, (x + y + k) / 4294967296, u3.set j ((x + y + k) % 4294967296), by omega, by omega, by simp [Hlen3.out], by go_num, by go_num, Row.drew (Hrow3.out.midPut HL.out j _ (by rw [Hlen3.out]; omega) (by omega) _ (by omega)), (honly3.setCell rfl _).drew, ?_, ?_⟩
                  · have hv' := Hval3.out
                    rw [val_take_succ _ _ (by rw [Hvs.out]; exact hjt), Hy.out, Nat.pow_succ]
                    rw [Hx.out] at hset
                    generalize (x + y + k) / 4294967296 = q at *
                    generalize (x + y + k) % 4294967296 = r at *
                    generalize 4294967296 ^ j = p at *
                    exact back_step p x y k q r _ _ _ _ hv' hset hd
                  · rw [getD_set_ne _ _ (by omega)]
                    exact Hlast3.out
                case measure => simp [intOf]; omega
            · obtain rfl : j = i := by omega
              have hd1 := getD_lt_of Hrow2.out.midLt j
              have hov : u2.getD j 0 + k = 4294967296 ∧ val (u3.set j 0) = val us % val vs := by
                have h1 := Hval3.out
                have h2 := Hw.out.2
                have hvl : val vs < 4294967296 ^ j := by
                  have := val_lt vs hv.2.2.1
                  rwa [Hvs.out] at this
                rw [List.take_of_length_le (by rw [Hvs.out]; exact Nat.le_refl _)] at h1
                have hset := val_set u3 j 0 (by rw [Hlen3.out]; omega)
                rw [Hlast3.out, Nat.mul_zero, Nat.add_zero] at hset
                have hlow : val (u3.set j 0) < 4294967296 ^ j := by
                  have e1 : u3.set j 0 = u3.take j ++ [0] := by
                    rw [List.set_eq_take_append_cons_drop, if_pos (by rw [Hlen3.out]; omega), List.drop_of_length_le (by rw [Hlen3.out]; omega)]
                  rw [e1, val_snoc, Nat.mul_zero, Nat.add_zero]
                  have := val_lt (u3.take j) fun x hx => Hrow3.out.midLt x (List.mem_of_mem_take hx)
                  rwa [List.length_take, Nat.min_eq_left (by rw [Hlen3.out]; omega)] at this
                have hrem : val us % val vs < val vs := Nat.mod_lt _ Hlead.out.vpos
                rw [Nat.pow_succ] at h2
                generalize 4294967296 ^ j = p at *
                exact back_end p _ k _ _ _ _ _ (by omega) (by omega) hlow h1 hset h2
              have ucell := Hrow3.out.midCell HL.out (i := j) (by rw [Hlen3.out]; omega)
              have ufree := Hrow3.out.free (o + j)
              rw [Hlast3.out] at ucell
              obtain ⟨x, ex⟩ : ∃ x, u2.getD j 0 = x := ⟨_, rfl⟩
              rw [ex] at ucell hd1 hov
              have Hov := Lib.hid hov
              have Hgw := Lib.hid hgW
              clear ex hov
              go_wp2
              go_ret
              have hov := Hov.out
              have hw1 := Hw.out.1
              refine ⟨u3.set j 0, ?_, by simp [Hlen3.out], hov.2, Hrow3.out.midPut HL.out j 0 (by rw [Hlen3.out]; omega) (by omega) _ (by omega), honly3.setCell rfl _⟩
              refine congrArg (fun z : Int => Ending.returned (.int .u32 z)) ?_
              rw [← hw1]
              omega

end Go.Proofs

open Go.RowKit
namespace Go.Proofs
set_option linter.unusedVariables false
set_option linter.unusedSimpArgs false

/-- The two lie in no common block. -/
def Sep (v1 v2 : Value) : Prop := ∀ B, v1.ownBlock = some B → Apart B v2

theorem sep_nil (v : Value) : Sep (.slice none 0 0) v := by intro B h; cases h
theorem sep_of {b o n c : Nat} {v : Value} (h : Apart b v) : Sep (.slice (some ⟨b, o, none⟩) n c) v := by
  intro B hB
  cases hB
  exact h

/-- Quotient and remainder, both new and apart. -/
def RetQR (w : World) (q r : Nat) (e : Ending) (w' : World) : Prop :=
  ∃ v1 v2, e = .returned (.tuple #[v1, v2]) ∧ Num w' v1 q ∧ Num w' v2 r ∧ Fresh w.heap.size v1 ∧ Fresh w.heap.size v2 ∧ Sep v1 v2 ∧ Below w.heap.size w w'

/-- a divisor moved up so that its first bit is set -/
theorem shift_top {n s : Nat} (h : n ≠ 0) (hs : bitlen ((limbs n).getD ((limbs n).length - 1) 0) + s = 32) :
    (limbs (n * 2 ^ s)).length = (limbs n).length ∧ 2147483648 ≤ (limbs (n * 2 ^ s)).getD ((limbs n).length - 1) 0 := by
  have hb := bitlen_limbs h
  have hsp := bitlen_spec h
  have hne : limbs n ≠ [] := fun e => h (limbs_eq_nil.1 e)
  have hlen : 0 < (limbs n).length := List.length_pos_iff.2 hne
  have hn0 : n * 2 ^ s ≠ 0 := Nat.mul_ne_zero h (by have := Nat.two_pow_pos s; omega)
  have hb0 : bitlen n ≠ 0 := by intro e; rw [e] at hsp; simp at hsp; omega
  have e1 : bitlen (n * 2 ^ s) = 32 * (limbs n).length := by
    obtain ⟨j, hj⟩ : ∃ j, bitlen n = j + 1 := ⟨bitlen n - 1, by omega⟩
    rw [hj] at hsp
    simp only [Nat.add_sub_cancel] at hsp
    have := bitlen_unique (n := n * 2 ^ s) (k := j + s) (by rw [Nat.pow_add]; exact Nat.mul_le_mul_right _ hsp.1) (by rw [show j + s + 1 = (j + 1) + s by omega, Nat.pow_add]; exact Nat.mul_lt_mul_of_pos_right hsp.2 (Nat.two_pow_pos s))
    omega
  have hsp2 := bitlen_spec hn0
  rw [e1] at hsp2
  have hW : (4294967296 : Nat) = 2 ^ 32 := by decide
  have l1 : (limbs (n * 2 ^ s)).length ≤ (limbs n).length := limbs_length_le (by rw [hW, ← Nat.pow_mul]; exact hsp2.2)
  have l2 : (limbs n).length ≤ (limbs (n * 2 ^ s)).length := limbs_length_mono (Nat.le_mul_of_pos_right n (Nat.two_pow_pos s))
  have hl : (limbs (n * 2 ^ s)).length = (limbs n).length := by omega
  refine ⟨hl, ?_⟩
  have hb2 := bitlen_limbs hn0
  rw [e1, hl] at hb2
  have hb3 : bitlen ((limbs (n * 2 ^ s)).getD ((limbs n).length - 1) 0) = 32 := by omega
  generalize (limbs (n * 2 ^ s)).getD ((limbs n).length - 1) 0 = t at *
  have ht : t ≠ 0 := by intro e; rw [e] at hb3; simp [bitlen] at hb3
  have := (bitlen_spec ht).1
  rw [hb3] at this
  exact this

theorem take_drop_split (R : List Nat) (j k : Nat) (h : j + k ≤ R.length) : R = R.take j ++ (R.drop j).take k ++ R.drop (j + k) := by
  have e := List.take_append_drop k (R.drop j)
  rw [List.drop_drop] at e
  rw [List.append_assoc, e, List.take_append_drop]

theorem val_zeros (l : List Nat) (h : ∀ i, l.getD i 0 = 0) : val l = 0 := by
  induction l with
  | nil => rfl
  | cons x xs ih =>
    have h0 := h 0
    have : val xs = 0 := ih fun i => by have := h (i + 1); simpa [List.getD] using this
    have hx : x = 0 := by simpa [List.getD] using h0
    rw [val, this, hx]

theorem getD_drop (l : List Nat) (j i : Nat) : (l.drop j).getD i 0 = l.getD (j + i) 0 := by simp [List.getD]

theorem part_byte (va vb : Value) (m n : Nat) (w : World) (h1 : Num w va m) (h2 : Num w vb n) (hnm : n ≤ m) (hl : (limbs n).length = 1) (b1 : (limbs m).length ≤ 1000000000) :
    Calls Tryz.prog 110 #[va, vb] w (RetQR w (m / n) (m % n)) := by
  have g1 := h1
  have g2 := h2
  obtain ⟨ad1, c1, rfl, s1⟩ := h1
  obtain ⟨ad2, c2, rfl, s2⟩ := h2
  have hn : n = (limbs n).getD 0 0 := by
    have e := val_limbs n
    match hln : limbs n, hl with
    | [x], _ =>
      rw [hln, val, val] at e
      simp [List.getD]
      omega
  have hn0 : n ≠ 0 := by intro e; rw [e, limbs_zero] at hl; cases hl
  have hnW : n < 4294967296 := by rw [hn]; exact s2.lt 0
  obtain ⟨b, o, rfl, hbs, hcell, _⟩ := s2.open (i := 0) (by omega)
  rw [← hn] at hcell
  have Hl := Lib.hid hl
  have t1 : (((limbs n).length : Int) == 1) = true := by rw [beq_iff_eq]; omega
  have k1 : (0 : Int) < ((limbs n).length : Int) := by omega
  have hmod : m % n < n := Nat.mod_lt _ (by omega)
  obtain ⟨x, hx⟩ : ∃ x, cmpInt m n = x := ⟨_, rfl⟩
  have hx0 : 0 ≤ x := by
    rw [← hx]; unfold cmpInt
    rw [if_neg (by omega)]
    split <;> omega
  have t2 : decide (x < 0) = false := by rw [decide_eq_false_iff_not]; omega
  have Hx := Lib.hid hx
  clear hl hx hn
  go_enter Tryz.func110, Tryz.ntmps110
  go_wp2_with fail
  refine (compare_calls _ _ m n w x g1 g2 Hx.out (by omega) (by have := Hl.out; omega)).mono ?_
  rintro e w1 ⟨rfl, hb1⟩
  have hcell' := (hb1.cell (p := ⟨b, o + 0, none⟩) hbs).trans hcell
  rw [Nat.add_zero] at hcell'
  have g1' := g1.mono hb1
  go_wp2_with fail
  refine (byWord_calls _ m n _ w1 g1' rfl (by omega) hnW (by omega)).mono ?_
  rintro e w2 ⟨v, rfl, hv, hf, hb2⟩
  obtain ⟨r, hr⟩ : ∃ r, m % n = r := ⟨_, rfl⟩
  rw [hr] at hmod ⊢
  have hrow : Row (w2.alloc (.cells #[Value.int .u32 (r : Int)] 87)) w2.heap.size [r] := by
    refine ⟨by intro y hy; simp at hy; omega, 87, ?_⟩
    rw [heap_alloc_new]; rfl
  have hsl := hrow.whole (by simp [maxLen])
  have hb3 := below_alloc w2 (.cells #[Value.int .u32 (r : Int)] 87)
  have Hr := Lib.hid hr
  clear hr
  go_wp2_with fail
  refine (trim_calls _ _ 1 [r] _ hsl rfl).mono ?_
  rintro e w3 ⟨k, rfl, hnum, rfl⟩
  go_wp2
  go_ret2
  have ev : val [r] = r := by simp [val]
  rw [ev] at hnum
  rw [Hr.out]
  exact ⟨_, _, rfl, hv.mono hb3, hnum, hf.mono hb1.size, by have := hb1.size; have := hb2.size; show w.heap.size ≤ w2.heap.size; omega, fun B hB => by
    show w2.heap.size ≠ B
    obtain ⟨ad, c, rfl, hsv⟩ := hv
    rcases hsv.2.2.2 with ⟨rfl, _⟩ | ⟨b3, o3, rfl, hb3', _⟩
    · cases hB
    · cases hB
      show w2.heap.size ≠ b3
      omega, below_trans (below_trans hb1 hb2) hb3⟩

theorem part_small (va vb : Value) (m n : Nat) (w : World) (h1 : Num w va m) (h2 : Num w vb n) (hmn : m < n) (b1 : (limbs n).length ≤ 1000000000) :
    Calls Tryz.prog 110 #[va, vb] w (RetQR w 0 m) := by
  have hl := limbs_length_mono (Nat.le_of_lt hmn)
  go_enter Tryz.func110, Tryz.ntmps110
  go_wp2_with fail
  refine (compare_calls _ _ m n w (-1) h1 h2 (cmpInt_lt hmn) (by omega) (by omega)).mono ?_
  rintro e w1 ⟨rfl, hb1⟩
  have h1' := h1.mono hb1
  go_wp2_with fail
  refine (own_calls _ m w1 h1' (by omega)).mono ?_
  rintro e w2 ⟨v, rfl, hv, hf, hb2⟩
  go_wp2
  go_ret2
  exact ⟨_, _, rfl, Num.nil _, hv, trivial, hf.mono hb1.size, sep_nil _, below_trans hb1 hb2⟩


theorem quo_bound (m V sh la nn : Nat) (hs : 2 ^ sh ≤ 2147483648) (hm : m < 4294967296 ^ la) (hnn : 1 ≤ nn) (hle : nn ≤ la) (hV : 4294967296 ^ (nn - 1) * 2147483648 ≤ V) : m * 2 ^ sh < 4294967296 ^ (la - nn + 1) * V := by
  have h1 : m * 2 ^ sh < 4294967296 ^ la * 2147483648 := Nat.lt_of_lt_of_le (Nat.mul_lt_mul_of_pos_right hm (Nat.two_pow_pos _)) (Nat.mul_le_mul_left _ hs)
  have h2 : 4294967296 ^ (la - nn + 1) * (4294967296 ^ (nn - 1) * 2147483648) ≤ 4294967296 ^ (la - nn + 1) * V := Nat.mul_le_mul_left _ hV
  rw [← Nat.mul_assoc, ← Nat.pow_add, show la - nn + 1 + (nn - 1) = la by omega] at h2
  omega

set_option maxHeartbeats 1000000 in
set_option maxRecDepth 100000 in
theorem part_long (va vb : Value) (m n : Nat) (w : World) (h1 : Num w va m) (h2 : Num w vb n) (hnm : n ≤ m) (hl : 2 ≤ (limbs n).length) (b1 : (limbs m).length ≤ 900000000) :
    Calls Tryz.prog 110 #[va, vb] w (RetQR w (m / n) (m % n)) := by
  have g1 := h1
  have g2 := h2
  obtain ⟨ad1, c1, rfl, s1⟩ := h1
  obtain ⟨ad2, c2, rfl, s2⟩ := h2
  have hn0 : n ≠ 0 := by intro e; rw [e, limbs_zero] at hl; simp at hl
  obtain ⟨b, o, rfl, hbs, hcell, _⟩ := s2.open (i := (limbs n).length - 1) (by omega)
  have htb := s2.lt ((limbs n).length - 1)
  obtain ⟨lo0, el0, ll0, htop0⟩ := limbs_top hn0
  clear el0 ll0
  have hsh := @shift_top n
  obtain ⟨tb, etb⟩ : ∃ x, (limbs n).getD ((limbs n).length - 1) 0 = x := ⟨_, rfl⟩
  rw [etb] at hcell htb htop0 hsh
  have hbt : bitlen tb ≤ 32 := bitlen_of_lt htb
  have hbt0 : 1 ≤ bitlen tb := by
    rcases Nat.eq_zero_or_pos (bitlen tb) with h | h
    · have := (bitlen_spec htop0).2
      rw [h] at this; simp at this; omega
    · exact h
  obtain ⟨sh, esh⟩ : ∃ s, bitlen tb + s = 32 := ⟨32 - bitlen tb, by omega⟩
  obtain ⟨hVl, hVt⟩ := hsh hn0 esh
  have hnl := limbs_length_mono hnm
  have t1 : (((limbs n).length : Int) == 1) = false := by rw [beq_eq_false_iff_ne]; omega
  obtain ⟨x, hx⟩ : ∃ x, cmpInt m n = x := ⟨_, rfl⟩
  have hx0 : 0 ≤ x := by
    rw [← hx]; unfold cmpInt
    rw [if_neg (by omega)]
    split <;> omega
  have t2 : decide (x < 0) = false := by rw [decide_eq_false_iff_not]; omega
  have hlA : (limbs (m * 2 ^ sh)).length ≤ (limbs m).length + 1 := by
    refine limbs_length_le ?_
    rw [Nat.pow_succ]
    exact Nat.mul_lt_mul_of_lt_of_le (lt_pow_length m) (Nat.le_trans (Nat.pow_le_pow_right (by omega) (show sh ≤ 32 by omega)) (by decide)) (by omega)
  have hquo : m * 2 ^ sh < 4294967296 ^ ((limbs m).length - (limbs n).length + 1) * (n * 2 ^ sh) := by
    refine quo_bound _ _ sh _ _ (Nat.le_trans (Nat.pow_le_pow_right (by omega) (show sh ≤ 31 by omega)) (by decide)) (lt_pow_length m) (by omega) hnl ?_
    have hne : n * 2 ^ sh ≠ 0 := Nat.mul_ne_zero hn0 (by have := Nat.two_pow_pos sh; omega)
    obtain ⟨lo, e1, _, _⟩ := limbs_top hne
    rw [hVl] at e1
    have := Nat.mul_le_mul_left (4294967296 ^ ((limbs n).length - 1)) hVt
    omega
  have hVpos : 0 < n * 2 ^ sh := Nat.mul_pos (by omega) (Nat.two_pow_pos _)
  have Hx := Lib.hid hx
  have Hesh := Lib.hid esh
  have HVl := Lib.hid hVl
  have HVt := Lib.hid hVt
  have Hquo := Lib.hid hquo
  have Hetb := Lib.hid etb
  have HlA := Lib.hid hlA
  have HVpos := Lib.hid hVpos
  have hsh31 : sh ≤ 31 := by omega
  clear hlA hVpos hx esh hVl hVt hquo hsh htop0 etb
  have ksh : 32 - (bitlen tb : Int) = (sh : Int) := by have := Hesh.out; omega
  go_enter Tryz.func110, Tryz.ntmps110
  go_wp2_with fail
  refine (compare_calls _ _ m n w x g1 g2 Hx.out (by omega) (by omega)).mono ?_
  rintro e w1 ⟨rfl, hb1⟩
  have hcell1 := (hb1.cell (p := ⟨b, o + ((limbs n).length - 1), none⟩) hbs).trans hcell
  have g1' := g1.mono hb1
  have g2' := g2.mono hb1
  go_wp2_with fail
  refine (lz32_calls _ w1 (by omega) (by omega)).mono ?_
  rw [Int.toNat_natCast, ksh]
  rintro e w2 ⟨rfl, rfl⟩
  clear ksh
  go_wp2_with fail
  refine (up_calls _ n sh _ w1 g2' rfl (by omega) (by omega)).mono ?_
  rintro e w2 ⟨v, rfl, ⟨adv, cv, rfl, hsv⟩, hfv, hb2⟩
  rw [HVl.out]
  have hapv : ∀ a, adv = some a → a.block < w2.heap.size := by
    intro a ha
    rcases hsv.2.2.2 with ⟨h, _⟩ | ⟨b3, o3, h, h3, _⟩
    · rw [h] at ha; cases ha
    · rw [h] at ha; cases ha; exact h3
  have Hapv := Lib.hid hapv
  have g1'' := g1'.mono hb2
  replace hb2 := below_trans hb1 hb2
  clear hapv
  go_wp2_with (at_make; refine wpList_make_nums _ rfl _ _ 118 rfl 87 Tryz.underlying118 info32 _ _ _ _ ((limbs m).length + 1) rfl rfl (by omega) (by omega) (by omega) ?_; intro w3 hrow3 hb3 hs3)
  -- the second factor and the copy
  have g3 := g1''.mono hb3
  have hsv3 := hsv.mono (Nat.le_refl _) hb3
  replace hb3 := below_trans hb2 hb3
  go_wp2_with fail
  refine (up_calls _ m sh _ w3 g3 rfl (by omega) (by omega)).mono ?_
  rintro e w4 ⟨va2, rfl, hva2, hfa2, hb4⟩
  have hrow4 := hrow3.below hb4 hs3
  have hsv4 := hsv3.mono (Nat.le_refl _) hb4
  have hs4 := Nat.lt_of_lt_of_le hs3 hb4.size
  replace hb4 := below_trans hb3 hb4
  obtain ⟨ada, ca, rfl, hsa⟩ := hva2
  have HrA := Lib.hid hrow4
  clear hrow3 hrow4 hsv3 g3 g1''
  go_wp2_with (first | (with_reducible refine wpList_copy_nums rfl (.tmp 49) (.tmp 52) 118 118 rfl 87 Tryz.underlying118 info32 w2.heap.size ((limbs m).length + 1) _ HrA.out (by simp) ada _ ca _ hsa rfl HlA.out rfl rfl ?_; intro w5 hrow5 hb5) | (at_make; refine wpList_make_nums _ rfl _ _ 118 rfl 87 Tryz.underlying118 info32 _ _ _ _ ((limbs m).length - (limbs n).length + 1) rfl rfl (by omega) (by omega) (by omega) ?_; intro w6 hrow6 hb6 hs6))
  have hsv5 : Sl w5 adv cv (limbs (n * 2 ^ sh)) := by
    obtain ⟨q1, q2, q3, q4 | ⟨b3, o3, q4, q5, q6⟩⟩ := hsv4
    · exact ⟨q1, q2, q3, .inl q4⟩
    · have hlt := Hapv.out _ q4
      exact ⟨q1, q2, q3, .inr ⟨b3, o3, q4, Nat.lt_of_lt_of_le q5 hb5.size, fun i hi => by
        rw [hb5.cell (p := ⟨b3, o3 + i, none⟩) hlt, hb5.frozen (p := ⟨b3, o3 + i, none⟩) hlt]
        exact q6 i hi⟩⟩
  have hs5 := Nat.lt_of_lt_of_le hs4 hb5.size
  replace hb5 := hb4.trans (hb5.mono hb2.size)
  -- the row of the dividend
  obtain ⟨R0, hR0⟩ : ∃ R0, limbs (m * 2 ^ sh) ++ (List.replicate ((limbs m).length + 1) 0).drop (limbs (m * 2 ^ sh)).length = R0 := ⟨_, rfl⟩
  have hR0l : R0.length = (limbs m).length + 1 := by rw [← hR0]; have := HlA.out; simp; omega
  have hR0v : val R0 = m * 2 ^ sh := by
    rw [← hR0, val_append, List.drop_replicate, val_replicate, val_limbs]; simp
  rw [hR0] at hrow5
  have HR0l := Lib.hid hR0l
  have HR0v := Lib.hid hR0v
  have HrowR := Lib.hid hrow5
  clear hR0 hR0l hR0v hrow5 hsv4 hsa HrA
  have hrowR6 := HrowR.out.below hb6 hs5
  have hsv6 := hsv5.mono (Nat.le_refl _) hb6
  have hbq := Nat.lt_of_le_of_lt hb5.size hs6
  replace hb6 := below_trans hb5 hb6
  have g0 : w5.heap.size ≠ w2.heap.size := by omega
  have hre : (limbs n).length - 1 < (limbs n).length := by omega
  have Hq0 := hrow6
  go_loopw [13] (fun jv wr => ∃ (k : Nat) (R Q : List Nat), k ≤ (limbs m).length - (limbs n).length + 1 ∧ jv = .int .i64 ((k : Int) - 1) ∧ R.length = (limbs m).length + 1 ∧ Q.length = (limbs m).length - (limbs n).length + 1 ∧
      Row wr w2.heap.size R ∧ Row wr w5.heap.size Q ∧ Sl wr adv cv (limbs (n * 2 ^ sh)) ∧ Below w.heap.size w wr ∧ w5.heap.size < wr.heap.size ∧
      (∀ i, k + (limbs n).length ≤ i → R.getD i 0 = 0) ∧ val (R.drop k) < n * 2 ^ sh ∧ val R + 4294967296 ^ k * (val (Q.drop k) * (n * 2 ^ sh)) = m * 2 ^ sh)
    (fun jv _ => (intOf jv + 1).toNat)
  case atStart =>
    refine ⟨(limbs m).length - (limbs n).length + 1, R0, List.replicate ((limbs m).length - (limbs n).length + 1) 0, Nat.le_refl _, ?_, HR0l.out, by simp, hrowR6, hrow6, hsv6, hb6, hs6, ?_, ?_, ?_⟩
    · exact congrArg (Value.int .i64) (by omega)
    · intro i hi
      have := HR0l.out
      simp [List.getD, List.getElem?_eq_none (show R0.length ≤ i by omega)]
    · have e := val_take_drop R0 ((limbs m).length - (limbs n).length + 1) (by have := HR0l.out; omega)
      have hq := Hquo.out
      rw [HR0v.out] at e
      rcases Nat.lt_or_ge (val (R0.drop ((limbs m).length - (limbs n).length + 1))) (n * 2 ^ sh) with h | h
      · exact h
      · have := Nat.mul_le_mul_left (4294967296 ^ ((limbs m).length - (limbs n).length + 1)) h
        omega
    · rw [List.drop_of_length_le (by simp), val, Nat.zero_mul, Nat.mul_zero, Nat.add_zero]
      exact HR0v.out
  case round =>
    obtain ⟨k, R, Q, hk, rfl, hRl, hQl, hR, hQ, hv7, hbel, hs7, htail, hrem, hval⟩ := hrel
    have HRl := Lib.hid hRl
    have HQl := Lib.hid hQl
    have HR := Lib.hid hR
    have HQ := Lib.hid hQ
    have Hv7 := Lib.hid hv7
    have Htail := Lib.hid htail
    have Hrem := Lib.hid hrem
    have Hval := Lib.hid hval
    clear hRl hQl hR hQ hv7 htail hrem hval
    by_cases h0 : 0 < k
    · obtain ⟨j, rfl⟩ : ∃ j, k = j + 1 := ⟨k - 1, by omega⟩
      rw [show (((j + 1 : Nat) : Int) - 1) = (j : Int) from by omega]
      have hRl := HRl.out
      have hspl := take_drop_split R j ((limbs n).length + 1) (by omega)
      have hLl : (R.take j).length = j := by rw [List.length_take]; omega
      have hul : ((R.drop j).take ((limbs n).length + 1)).length = (limbs n).length + 1 := by rw [List.length_take, List.length_drop]; omega
      have hTz : val (R.drop (j + ((limbs n).length + 1))) = 0 := by
        refine val_zeros _ fun i => ?_
        rw [getD_drop]
        exact Htail.out _ (by omega)
      have hdj := val_take_drop (R.drop j) ((limbs n).length + 1) (by rw [List.length_drop]; omega)
      rw [List.drop_drop, hTz, Nat.mul_zero, Nat.add_zero] at hdj
      have hdc := val_drop_cons R j (by omega)
      have hRj := getD_lt_of HR.out.1 j
      have hlt : val ((R.drop j).take ((limbs n).length + 1)) < 4294967296 * val (limbs (n * 2 ^ sh)) := by
        rw [← hdj, hdc, val_limbs]
        have := Hrem.out
        omega
      have hRR : Row wr w2.heap.size (R.take j ++ (R.drop j).take ((limbs n).length + 1) ++ R.drop (j + ((limbs n).length + 1))) := by rw [← hspl]; exact HR.out
      have eq0 := val_take_drop R j (by omega)
      have Hspl := Lib.hid hspl
      have HRR := Lib.hid hRR
      have HLl := Lib.hid hLl
      have Hul := Lib.hid hul
      have HTz := Lib.hid hTz
      have Hdj := Lib.hid hdj
      have Hlt := Lib.hid hlt
      have Heq0 := Lib.hid eq0
      clear hspl hRR hLl hul hTz hdj hdc hRj hlt eq0 hRl
      have qcell := HQ.out.cell (i := j) (by rw [HQl.out]; omega)
      have qfree := HQ.out.free j
      have k1 : (j : Int) < ((limbs m).length : Int) - ((limbs n).length : Int) + 1 := by omega
      have e1 : j + (limbs n).length + 1 - j = (limbs n).length + 1 := by omega
      go_wp2_with fail
      rw [e1]
      clear e1
      refine (digit_raw w2.heap.size j (limbs n).length _ _ _ _ adv cv (limbs (n * 2 ^ sh)) wr HRR.out HLl.out Hul.out HVl.out Hv7.out (fun a ha => Nat.ne_of_lt (Hapv.out a ha)) hl HVt.out Hlt.out (by omega) (by omega)).mono ?_
      rintro e w8 ⟨us, rfl, hul8, hus8, hrow8, ho8⟩
      rw [val_limbs] at hus8 ⊢
      have hV0 := HVpos.out
      have hquo : val ((R.drop j).take ((limbs n).length + 1)) / (n * 2 ^ sh) < 4294967296 := by
        have := Hlt.out
        rw [val_limbs] at this
        exact Nat.div_lt_of_lt_mul (by rw [Nat.mul_comm]; exact this)
      have hdm := Nat.div_add_mod (val ((R.drop j).take ((limbs n).length + 1))) (n * 2 ^ sh)
      rw [← hus8] at hdm
      have hrem8 : val us < n * 2 ^ sh := by rw [hus8]; exact Nat.mod_lt _ hV0
      have Hus8 := Lib.hid hus8
      have Hul8 := Lib.hid hul8
      have Hrow8 := Lib.hid hrow8
      have Hdm := Lib.hid hdm
      have Hrem8 := Lib.hid hrem8
      have hQ8 : Row w8 w5.heap.size Q := HQ.out.only ho8 g0
      have hv8 : Sl w8 adv cv (limbs (n * 2 ^ sh)) := Hv7.out.only ho8 (fun a ha => Nat.ne_of_lt (Hapv.out a ha))
      have hbel8 : Below w.heap.size w w8 := below_only hbel ho8 hb2.size hbel.size
      have hs8 : w5.heap.size < w8.heap.size := Nat.lt_of_lt_of_le hs7 ho8.size
      obtain ⟨q, eq⟩ : ∃ q, val ((R.drop j).take ((limbs n).length + 1)) / (n * 2 ^ sh) = q := ⟨_, rfl⟩
      rw [eq] at hquo ⊢
      have Heq := Lib.hid eq
      have HQ8 := Lib.hid hQ8
      have Hv8 := Lib.hid hv8
      have qcell8 := hQ8.cell (i := j) (by rw [HQl.out]; omega)
      have qfree8 := hQ8.free j
      clear hus8 hul8 hrow8 hdm hrem8 eq hQ8 hv8 hV0 qcell qfree
      go_wp2
      go_roundw
      case rel =>
        have hul8 := Hul8.out
        have hlow : val us < 4294967296 ^ (limbs n).length := by
          have h1 := Hrem8.out
          have h2 := lt_pow_length (n * 2 ^ sh)
          rw [HVl.out] at h2
          omega
        have hlast : us.getD (limbs n).length 0 = 0 := by
          have e2 := val_take_succ us (limbs n).length (by omega)
          rw [List.take_of_length_le (by omega)] at e2
          rcases Nat.eq_zero_or_pos (us.getD (limbs n).length 0) with h | h
          · exact h
          · have := Nat.le_mul_of_pos_right (4294967296 ^ (limbs n).length) h
            omega
        have hT0 : ∀ i, (R.drop (j + ((limbs n).length + 1))).getD i 0 = 0 := by
          intro i
          rw [getD_drop]
          exact Htail.out _ (by omega)
        have hdr : (R.take j ++ us ++ R.drop (j + ((limbs n).length + 1))).drop j = us ++ R.drop (j + ((limbs n).length + 1)) := by
          have hLl := HLl.out
          rw [List.append_assoc, List.drop_append, List.drop_of_length_le (by omega), List.nil_append, hLl, Nat.sub_self, List.drop_zero]
        refine ⟨j, R.take j ++ us ++ R.drop (j + ((limbs n).length + 1)), Q.set j q, by omega, rfl, ?_, by simp [HQl.out], Hrow8.out.only_set w5.heap.size g0 _ _, HQ8.out.put j q hquo _ rfl, Hv8.out.only (only_set _ _ _) ?_, hbel8.setCell (p := ⟨w5.heap.size, j, none⟩) hb5.size _, by simpa [World.setCell] using hs8, ?_, ?_, ?_⟩
        · have := HRl.out
          simp only [List.length_append, List.length_take, List.length_drop]
          omega
        · intro a ha
          have := Hapv.out a ha
          show a.block ≠ w5.heap.size
          omega
        · intro i hi
          rw [show i = j + (i - j) by omega, ← getD_drop, hdr]
          by_cases he : i - j < us.length
          · have : i - j = (limbs n).length := by omega
            rw [this]
            simp only [List.getD, List.getElem?_append_left (show (limbs n).length < us.length by omega)]
            exact hlast
          · have := hT0 (i - j - us.length)
            simp only [List.getD, List.getElem?_append_right (show us.length ≤ i - j by omega)]
            exact this
        · rw [hdr, val_append, HTz.out, Nat.mul_zero, Nat.add_zero]
          exact Hrem8.out
        · have hv := Hval.out
          rw [val_append, val_append, HTz.out, Nat.mul_zero, Nat.add_zero, HLl.out, val_drop_set _ _ _ (by rw [HQl.out]; omega)]
          rw [Heq0.out, Hdj.out, Nat.pow_succ] at hv
          have hd := Hdm.out
          rw [Heq.out] at hd
          generalize 4294967296 ^ j = p at *
          generalize n * 2 ^ sh = V at *
          rw [← hv, ← hd]
          grind
      case measure => simp [intOf]
    · obtain rfl : k = 0 := by omega
      have hval := Hval.out
      rw [Nat.pow_zero, Nat.one_mul, List.drop_zero] at hval
      have hrem : val R < n * 2 ^ sh := Hrem.out
      have hp := Nat.two_pow_pos sh
      have hq : m / n = val Q := by
        rw [← Nat.mul_div_mul_right m n hp, ← hval, Nat.add_comm, Nat.mul_comm (val Q), Nat.mul_add_div HVpos.out, Nat.div_eq_of_lt hrem, Nat.add_zero]
      have hr : val R / 2 ^ sh = m % n := by
        have e : val R = m % n * 2 ^ sh := by
          rw [← Nat.mul_mod_mul_right, ← hval, Nat.add_comm, Nat.mul_comm (val Q), Nat.mul_add_mod, Nat.mod_eq_of_lt hrem]
        rw [e, Nat.mul_div_cancel _ hp]
      have hRt : val (R.take (limbs n).length) = val R := by
        have e := val_take_drop R (limbs n).length (by have := HRl.out; omega)
        rw [val_zeros (R.drop (limbs n).length) (fun i => by rw [getD_drop]; exact Htail.out _ (by omega)), Nat.mul_zero, Nat.add_zero] at e
        exact e.symm
      have hslQ := HQ.out.whole (by rw [HQl.out]; unfold maxLen; omega)
      rw [HQl.out] at hslQ
      have hslR := HR.out.sl 0 (limbs n).length ((limbs m).length + 1) (by have := HRl.out; omega) (by omega) (by unfold maxLen; omega)
      rw [List.drop_zero] at hslR
      have hlR : (R.take (limbs n).length).length = (limbs n).length := by rw [List.length_take]; have := HRl.out; omega
      have HslQ := Lib.hid hslQ
      have HslR := Lib.hid hslR
      have HlR := Lib.hid hlR
      have HRt := Lib.hid hRt
      have Hqq := Lib.hid hq
      have Hrr := Lib.hid hr
      clear hval hrem hp hq hr hRt hslQ hslR hlR
      have hapq : ∀ W : World, Below wr.heap.size wr W → Sl W (some ⟨w5.heap.size, 0, none⟩) ((limbs m).length - (limbs n).length + 1) Q := fun W h => HslQ.out.mono (Nat.le_refl _) h
      have hapr : ∀ W : World, Below wr.heap.size wr W → Sl W (some ⟨w2.heap.size, 0, none⟩) ((limbs m).length + 1) (R.take (limbs n).length) := fun W h => HslR.out.mono (Nat.le_refl _) h
      have Hapq := Lib.hid hapq
      have Hapr := Lib.hid hapr
      have hlimR : (limbs (val R)).length ≤ 1000000000 := by
        have := limbs_length_val R HR.out.1
        rw [HRl.out] at this
        omega
      clear hapq hapr
      have k1 : (0 : Int) ≤ ((limbs n).length : Int) := by omega
      go_wp2_with fail
      have hbd : Below wr.heap.size wr wr.drew := (Below.refl _ _).drew
      go_region_with (first
        | (go_at_call 96; with_reducible refine (trim_calls (some ⟨w5.heap.size, 0, none⟩) ((limbs m).length - (limbs n).length + 1) _ Q _ (Hapq.out _ (by assumption)) HQl.out.symm).mono ?_; rintro e w' ⟨kq, rfl, hnq, rfl⟩)
        | (go_at_call 96; with_reducible refine (trim_calls (some ⟨w2.heap.size, 0, none⟩) ((limbs m).length + 1) _ (R.take (limbs n).length) _ (Hapr.out _ (by assumption)) HlR.out.symm).mono ?_; rintro e w' ⟨kr, rfl, hnr, rfl⟩)
        | (go_at_call 119; refine (down_calls _ (val R) sh _ _ (by rw [← HRt.out]; assumption) rfl hlimR (by omega)).mono ?_; rintro e w9 ⟨vr, rfl, hvr, hfr, hb9⟩; have hbd2 : Below wr.heap.size wr w9 := hbd.trans hb9))
      all_goals
        have hq9 : Num w9 (.slice (some ⟨w5.heap.size, 0, none⟩) kq ((limbs m).length - (limbs n).length + 1)) (m / n) := by
          rw [Hqq.out]
          first | exact hnq | exact hnq.mono hb9
        have hr9 : Num w9 vr (m % n) := by rw [← Hrr.out]; exact hvr
        have hbT : Below w.heap.size w w9 := hbel.trans (hbd2.mono hbel.size)
        go_wp2
        go_ret2
        refine ⟨.slice (some ⟨w5.heap.size, 0, none⟩) kq ((limbs m).length - (limbs n).length + 1), vr, rfl, hq9, hr9, hb5.size, hfr.mono hbel.size, sep_of (hfr.apart hs7), hbT⟩

/-- part divides: the quotient and the remainder, both new. -/
theorem part_calls (va vb : Value) (m n : Nat) (w : World) (h1 : Num w va m) (h2 : Num w vb n) (hn : n ≠ 0) (b1 : (limbs m).length ≤ 900000000) (b2 : (limbs n).length ≤ 900000000) :
    Calls Tryz.prog 110 #[va, vb] w (RetQR w (m / n) (m % n)) := by
  by_cases hlt : m < n
  · rw [Nat.div_eq_of_lt hlt, Nat.mod_eq_of_lt hlt]
    exact part_small va vb m n w h1 h2 hlt (by omega)
  · have hne : limbs n ≠ [] := fun e => hn (limbs_eq_nil.1 e)
    have hlen : 0 < (limbs n).length := List.length_pos_iff.2 hne
    by_cases hl : (limbs n).length = 1
    · exact part_byte va vb m n w h1 h2 (by omega) hl (by omega)
    · exact part_long va vb m n w h1 h2 (by omega) (by omega) b1

end Go.Proofs

open Go.RowKit
namespace Go.Proofs
set_option linter.unusedVariables false
set_option linter.unusedSimpArgs false

theorem getLast_getD (xs : List Nat) (h : 0 < xs.length) : xs.getLast? = some (xs.getD (xs.length - 1) 0) := by
  rw [List.getLast?_eq_getElem?]
  simp [List.getD, show xs.length - 1 < xs.length by omega]

theorem check_calls (v : Value) (xs : List Nat) (w : World) (hv : Raw w v xs) :
    Calls Tryz.prog 94 #[v] w fun e w' => e = .returned (.int .i64 (chk xs)) ∧ w = w' := by
  obtain ⟨ad, c, rfl, hs⟩ := hv
  have hc := hs.1
  have hcm := hs.2.1
  unfold maxLen at hcm
  by_cases hl : 262144 < xs.length
  · have e : chk xs = 3 := by unfold chk; rw [if_pos hl]
    rw [e]
    clear e
    go_enter Tryz.func94, Tryz.ntmps94
    go_wp2
    go_ret
    exact ⟨rfl, rfl⟩
  · by_cases h0 : 0 < xs.length
    · obtain ⟨b, o, rfl, hbs, hcell, hfr⟩ := hs.open (i := xs.length - 1) (by omega)
      have hlast := getLast_getD xs h0
      obtain ⟨x, ex⟩ : ∃ x, xs.getD (xs.length - 1) 0 = x := ⟨_, rfl⟩
      rw [ex] at hcell hlast
      have t0 : (0 : Int) < (xs.length : Int) := by omega
      by_cases hx : x = 0
      · subst hx
        have e : chk xs = 2 := by unfold chk; rw [if_neg hl, if_pos hlast]
        rw [e]
        clear e hlast ex
        go_enter Tryz.func94, Tryz.ntmps94
        go_wp2
        go_ret
        exact ⟨rfl, rfl⟩
      · have e : chk xs = 0 := by unfold chk; rw [if_neg hl, if_neg (by rw [hlast]; intro h; cases h; exact hx rfl)]
        have t1 : ((x : Int) == 0) = false := by rw [beq_eq_false_iff_ne]; omega
        rw [e]
        clear e hlast ex
        go_enter Tryz.func94, Tryz.ntmps94
        go_wp2
        go_ret
        exact ⟨rfl, rfl⟩
    · have hx : xs = [] := List.eq_nil_of_length_eq_zero (by omega)
      subst hx
      have e : chk [] = 0 := rfl
      rw [e]
      clear e
      go_enter Tryz.func94, Tryz.ntmps94
      go_wp2
      go_ret
      exact ⟨rfl, rfl⟩

theorem firstErr_skip (l : List (List Nat)) : ∀ k, k ≤ l.length → (∀ i, i < k → chk (l.getD i []) = 0) → firstErr l = firstErr (l.drop k) := by
  induction l with
  | nil => intro k hk _; simp at hk; subst hk; rfl
  | cons xs l ih =>
    intro k hk h
    cases k with
    | zero => rfl
    | succ k =>
      have h0 := h 0 (by omega)
      have h0' : chk xs = 0 := by simpa [List.getD] using h0
      rw [firstErr, if_pos h0', List.drop_succ_cons]
      exact ih k (by simpa using hk) fun i hi => by have := h (i + 1) (by omega); simpa [List.getD] using this

theorem valid_calls (b n : Nat) (vs : List Value) (l : List (List Nat)) (w : World) (hn : vs.length = n) (hl : l.length = n) (hb : n ≤ 1000)
    (hcell : ∀ i, i < n → w.cell? ⟨b, i, none⟩ = some (vs.getD i undef)) (hraw : ∀ i, i < n → Raw w (vs.getD i undef) (l.getD i [])) :
    Calls Tryz.prog 79 #[.slice (some ⟨b, 0, none⟩) n n] w fun e w' => e = .returned (.int .i64 (firstErr l)) ∧ w = w' := by
  have Hn := Lib.hid hn
  have Hl := Lib.hid hl
  have Hcell := Lib.hid hcell
  have Hraw := Lib.hid hraw
  clear hn hl hcell hraw
  go_enter Tryz.func79, Tryz.ntmps79
  go_wp2
  go_loop [8] (fun iv => ∃ i : Nat, i ≤ n ∧ iv = .int .i64 i ∧ ∀ j, j < i → chk (l.getD j []) = 0) (fun iv => n - (intOf iv).toNat)
  case atStart => exact ⟨0, Nat.zero_le _, rfl, fun j h => (Nat.not_lt_zero _ h).elim⟩
  case round =>
    obtain ⟨i, hi, rfl, hok⟩ := hrel
    have Hok := Lib.hid hok
    clear hok
    by_cases hlt : i < n
    · have hc := Hcell.out i hlt
      have hr := Hraw.out i hlt
      have hsk := firstErr_skip l i (by have := Hl.out; omega) Hok.out
      have hd : l.drop i = l.getD i [] :: l.drop (i + 1) := by
        rw [List.drop_eq_getElem_cons (by have := Hl.out; omega)]
        simp [List.getD, show i < l.length by have := Hl.out; omega]
      rw [hd, firstErr] at hsk
      have hor := chk_cases (l.getD i [])
      obtain ⟨xs, exs⟩ : ∃ xs, l.getD i [] = xs := ⟨_, rfl⟩
      rw [exs] at hr hsk hor
      obtain ⟨v, ev⟩ : ∃ v, vs.getD i undef = v := ⟨_, rfl⟩
      rw [ev] at hc hr
      have Hxs := Lib.hid exs
      clear exs ev hd
      by_cases h0 : chk xs = 0
      · have t1 : (chk xs != 0) = false := by simp [h0]
        have H0 := Lib.hid h0
        clear h0 hsk hor
        go_wp2_with (go_at_call 94; refine (check_calls v xs _ hr).mono ?_; rintro e w' ⟨rfl, rfl⟩)
        go_round
        case rel =>
          refine ⟨i + 1, by omega, by go_num, fun j hj => ?_⟩
          by_cases e : j = i
          · rw [e, Hxs.out]; exact H0.out
          · exact Hok.out j (by omega)
        case measure => simp [intOf]; omega
      · have t1 : (chk xs != 0) = true := by rw [bne_iff_ne]; exact h0
        rw [if_neg h0] at hsk
        have Hsk := Lib.hid hsk
        clear hsk h0 hor
        go_wp2_with (go_at_call 94; refine (check_calls v xs _ hr).mono ?_; rintro e w' ⟨rfl, rfl⟩)
        go_ret
        exact ⟨by rw [Hsk.out]; rfl, rfl⟩
    · obtain rfl : i = n := by omega
      have hsk := firstErr_skip l i (by have := Hl.out; omega) Hok.out
      rw [List.drop_of_length_le (by rw [Hl.out]; exact Nat.le_refl _)] at hsk
      have Hsk := Lib.hid hsk
      clear hsk
      go_wp2
      go_ret
      exact ⟨by rw [Hsk.out]; rfl, rfl⟩

theorem cells_one (w : World) (v : Value) (e : Nat) : ∀ i, i < 1 → (w.alloc (.cells #[v] e)).cell? ⟨w.heap.size, i, none⟩ = some ([v].getD i undef) := by
  intro i hi
  obtain rfl : i = 0 := by omega
  simp only [World.cell?]; rw [heap_alloc_new]; rfl

theorem cells_two (w : World) (v1 v2 : Value) (e : Nat) : ∀ i, i < 2 → (w.alloc (.cells #[v1, v2] e)).cell? ⟨w.heap.size, i, none⟩ = some ([v1, v2].getD i undef) := by
  intro i hi
  rcases (show i = 0 ∨ i = 1 by omega) with rfl | rfl <;> (simp only [World.cell?]; rw [heap_alloc_new]; rfl)

theorem cells_three (w : World) (v1 v2 v3 : Value) (e : Nat) : ∀ i, i < 3 → (w.alloc (.cells #[v1, v2, v3] e)).cell? ⟨w.heap.size, i, none⟩ = some ([v1, v2, v3].getD i undef) := by
  intro i hi
  rcases (show i = 0 ∨ i = 1 ∨ i = 2 by omega) with rfl | rfl | rfl <;> (simp only [World.cell?]; rw [heap_alloc_new]; rfl)

/-- valid over one, two, three numbers, laid in a new block -/
theorem valid1 (v1 : Value) (x1 : List Nat) (w : World) (h1 : Raw w v1 x1) :
    Calls Tryz.prog 79 #[.slice (some ⟨w.heap.size, 0, none⟩) 1 1] (w.alloc (.cells #[v1] 119)) fun e w' => e = .returned (.int .i64 (firstErr [x1])) ∧ w.alloc (.cells #[v1] 119) = w' :=
  valid_calls _ 1 [v1] [x1] _ rfl rfl (by omega) (cells_one w v1 _) (by
    intro i hi
    obtain rfl : i = 0 := by omega
    exact h1.mono (below_alloc _ _))

theorem valid2 (v1 v2 : Value) (x1 x2 : List Nat) (w : World) (h1 : Raw w v1 x1) (h2 : Raw w v2 x2) :
    Calls Tryz.prog 79 #[.slice (some ⟨w.heap.size, 0, none⟩) 2 2] (w.alloc (.cells #[v1, v2] 119)) fun e w' => e = .returned (.int .i64 (firstErr [x1, x2])) ∧ w.alloc (.cells #[v1, v2] 119) = w' :=
  valid_calls _ 2 [v1, v2] [x1, x2] _ rfl rfl (by omega) (cells_two w v1 v2 _) (by
    intro i hi
    rcases (show i = 0 ∨ i = 1 by omega) with rfl | rfl
    · exact h1.mono (below_alloc _ _)
    · exact h2.mono (below_alloc _ _))

theorem valid3 (v1 v2 v3 : Value) (x1 x2 x3 : List Nat) (w : World) (h1 : Raw w v1 x1) (h2 : Raw w v2 x2) (h3 : Raw w v3 x3) :
    Calls Tryz.prog 79 #[.slice (some ⟨w.heap.size, 0, none⟩) 3 3] (w.alloc (.cells #[v1, v2, v3] 119)) fun e w' => e = .returned (.int .i64 (firstErr [x1, x2, x3])) ∧ w.alloc (.cells #[v1, v2, v3] 119) = w' :=
  valid_calls _ 3 [v1, v2, v3] [x1, x2, x3] _ rfl rfl (by omega) (cells_three w v1 v2 v3 _) (by
    intro i hi
    rcases (show i = 0 ∨ i = 1 ∨ i = 2 by omega) with rfl | rfl | rfl
    · exact h1.mono (below_alloc _ _)
    · exact h2.mono (below_alloc _ _)
    · exact h3.mono (below_alloc _ _))

/-- what an exported function returns: a number, or an error and nothing -/
def Got (w : World) (n : Nat) (er : Int) (e : Ending) (w' : World) : Prop :=
  ∃ v, e = .returned (.tuple #[v, .int .i64 er]) ∧ Num w' v n ∧ Fresh w.heap.size v ∧ Below w.heap.size w w'

/-- short, where the number is new -/
theorem short_calls (v : Value) (n B : Nat) (w : World) (hv : Num w v n) (hf : Fresh B v) :
    Calls Tryz.prog 97 #[v] w fun e w' => ∃ v', e = .returned (.tuple #[v', .int .i64 (if 262144 < (limbs n).length then 3 else 0)]) ∧ Num w' v' (if 262144 < (limbs n).length then 0 else n) ∧ Fresh B v' ∧ w = w' := by
  have g := hv
  obtain ⟨ad, c, rfl, hs⟩ := hv
  by_cases hl : 262144 < (limbs n).length
  · rw [if_pos hl, if_pos hl]
    go_enter Tryz.func97, Tryz.ntmps97
    go_wp2
    go_ret2
    exact ⟨_, rfl, Num.nil _, trivial, rfl⟩
  · rw [if_neg hl, if_neg hl]
    go_enter Tryz.func97, Tryz.ntmps97
    go_wp2
    go_ret2
    exact ⟨_, rfl, g, hf, rfl⟩

end Go.Proofs
end

