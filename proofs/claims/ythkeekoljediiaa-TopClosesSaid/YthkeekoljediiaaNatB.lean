/- nat.plus: the sum. nat.minus: the difference. nat.school: the product, limb by limb. nat.split: a number is parted behind some limbs. -/
import Derived.Test.YthkeekoljediiaaNatA
open Go.RowKit
namespace Go.Proofs
set_option linter.unusedVariables false
set_option linter.unusedSimpArgs false

/-- one digit of a sum -/
theorem plus_digit (p a b c x y vy : Nat) (h : vy + c * p = a + b) : (vy + p * ((x + y + c) % 4294967296)) + ((x + y + c) / 4294967296) * (p * 4294967296) = (a + p * x) + (b + p * y) := by
  have e := Nat.div_add_mod (x + y + c) 4294967296
  generalize (x + y + c) / 4294967296 = q at *
  generalize (x + y + c) % 4294967296 = r at *
  grind

set_option maxRecDepth 100000 in
theorem plus_raw (ad1 ad2 : Option Addr) (c1 c2 : Nat) (xs zs : List Nat) (w : World) (hx : Sl w ad1 c1 xs) (hz : Sl w ad2 c2 zs) (hlen : zs.length ≤ xs.length) (hreach : xs.length ≤ 4000000000) :
    Calls Try.prog 66 #[.slice ad1 xs.length c1, .slice ad2 zs.length c2] w (RetNum w (val xs + val zs)) ∧
    (zs.length < xs.length → Calls Try.prog 66 #[.slice ad2 zs.length c2, .slice ad1 xs.length c1] w (RetNum w (val xs + val zs))) := by
  refine ⟨?_, fun hlt2 => ?_⟩
  all_goals
    go_enter Try.func66, Try.ntmps66
    go_wp2_with (at_make; refine wpList_make_nums _ rfl _ _ 74 rfl 109 Try.underlying74 info32 _ _ _ _ (xs.length + 1) rfl rfl (by omega) (by omega) (by omega) ?_; intro w1 hr1 hb1 hs1)
    go_loopw [6, 22] (fun cv iv wr => ∃ (i c : Nat) (ys : List Nat), i ≤ xs.length ∧ c ≤ 1 ∧ ys.length = i ∧ iv = .int .i64 i ∧ cv = .int .u32 c ∧
        Row wr w.heap.size (ys ++ List.replicate (xs.length + 1 - i) 0) ∧ Below w.heap.size w wr ∧ val ys + c * 4294967296 ^ i = val (xs.take i) + val (zs.take i))
      (fun _ iv _ => xs.length - (intOf iv).toNat)
    case atStart => exact ⟨0, 0, [], Nat.zero_le _, by omega, rfl, rfl, rfl, by simpa using hr1, hb1, by simp [val]⟩
    case round =>
      obtain ⟨i, c, ys, hi, hc, hys, rfl, rfl, hrow, hbel, hval⟩ := hrel
      have hlen' : (ys ++ List.replicate (xs.length + 1 - i) 0).length = xs.length + 1 := by simp; omega
      have oc := hrow.cell (i := i) (by omega)
      have of := hrow.free i
      obtain ⟨v0, ev0⟩ : ∃ x, (ys ++ List.replicate (xs.length + 1 - i) 0).getD i 0 = x := ⟨_, rfl⟩
      rw [ev0] at oc
      have Hrow := Lib.hid hrow
      have Hval := Lib.hid hval
      have Hys := Lib.hid hys
      clear hrow hval ev0 hys hlen'
      by_cases hlt : i < xs.length
      · obtain ⟨b, o, rfl, hbs, hcell, hfr⟩ := hx.open hlt
        have hx1 := hx.lt i
        have hz1 := hz.lt i
        obtain ⟨x, ex⟩ : ∃ x, xs.getD i 0 = x := ⟨_, rfl⟩
        rw [ex] at hcell hx1
        have hcell' := (hbel.cell (p := ⟨b, o + i, none⟩) hbs).trans hcell
        have Hx := Lib.hid ex
        clear hcell hfr ex
        by_cases hlz : i < zs.length
        · obtain ⟨b2, o2, rfl, hbs2, hcell2, hfr2⟩ := hz.open hlz
          obtain ⟨y, ey⟩ : ∃ x, zs.getD i 0 = x := ⟨_, rfl⟩
          rw [ey] at hcell2 hz1
          have hcell2' := (hbel.cell (p := ⟨b2, o2 + i, none⟩) hbs2).trans hcell2
          have Hy := Lib.hid ey
          clear hcell2 hfr2 ey
          go_wp2_with (go_at_call 91; refine (add32_calls _ _ _ _ (by omega) (by omega) (by omega) (by omega) (by omega) (by omega)).mono ?_; rintro e w' ⟨rfl, rfl⟩)
          go_roundw
          case rel =>
            refine ⟨i + 1, (x + y + c) / 4294967296, ys ++ [(x + y + c) % 4294967296], by omega, by omega, by simp [Hys.out], by go_num, by go_num, Hrow.out.push Hys.out (by omega) _ (by omega) _ (by omega), hbel.setCell (Nat.le_refl _) _, ?_⟩
            rw [val_snoc, Hys.out, val_take_succ _ _ hlt, val_take_succ _ _ hlz, Hx.out, Hy.out, Nat.pow_succ]
            exact plus_digit _ _ _ _ _ _ _ Hval.out
          case measure => simp [intOf]; omega
        · go_wp2_with (go_at_call 91; refine (add32_calls _ _ _ _ (by omega) (by omega) (by omega) (by omega) (by omega) (by omega)).mono ?_; rintro e w' ⟨rfl, rfl⟩)
          go_roundw
          case rel =>
            refine ⟨i + 1, (x + 0 + c) / 4294967296, ys ++ [(x + 0 + c) % 4294967296], by omega, by omega, by simp [Hys.out], by go_num, by go_num, Hrow.out.push Hys.out (by omega) _ (by omega) _ (by omega), hbel.setCell (Nat.le_refl _) _, ?_⟩
            rw [val_snoc, Hys.out, val_take_succ _ _ hlt, val_take_of_le _ _ (by omega), Hx.out, Nat.pow_succ]
            have := plus_digit _ _ _ _ x 0 _ Hval.out
            simpa using this
          case measure => simp [intOf]; omega
      · obtain rfl : i = xs.length := by omega
        have hpush := Hrow.out.push Hys.out (by omega) c (by omega) (c : Int) rfl
        have hsl := hpush.whole (by simp [Hys.out, maxLen]; omega)
        have hlen2 : (ys ++ [c] ++ List.replicate (xs.length + 1 - (xs.length + 1)) 0).length = xs.length + 1 := by simp [Hys.out]
        have hv2 : val (ys ++ [c] ++ List.replicate (xs.length + 1 - (xs.length + 1)) 0) = val xs + val zs := by
          have := Hval.out
          rw [List.take_of_length_le (Nat.le_refl _), List.take_of_length_le hlen] at this
          rw [Nat.sub_self, List.replicate_zero, List.append_nil, val_snoc, Hys.out, ← this, Nat.mul_comm c]
        have hb2 := hbel.setCell (p := ⟨w.heap.size, xs.length, none⟩) (Nat.le_refl _) (.int .u32 c)
        rw [hlen2] at hsl
        have Hl := Lib.hid hlen2
        have Hv := Lib.hid hv2
        clear hlen2 hv2
        go_wp2_with (go_at_call 58; refine (trim_calls _ _ _ _ _ hsl Hl.out.symm).mono ?_; rintro e w' ⟨k, rfl, hnum, rfl⟩)
        go_ret
        rw [Hv.out] at hnum
        exact ⟨_, rfl, hnum, Nat.le_refl _, hb2⟩

/-- plus returns the sum. -/
theorem plus_calls (v1 v2 : Value) (m n : Nat) (w : World) (h1 : Num w v1 m) (h2 : Num w v2 n) (b1 : (limbs m).length ≤ 4000000000) (b2 : (limbs n).length ≤ 4000000000) :
    Calls Try.prog 66 #[v1, v2] w (RetNum w (m + n)) := by
  obtain ⟨ad1, c1, rfl, s1⟩ := h1
  obtain ⟨ad2, c2, rfl, s2⟩ := h2
  by_cases hlen : (limbs n).length ≤ (limbs m).length
  · have := (plus_raw ad1 ad2 c1 c2 _ _ w s1 s2 hlen b1).1
    rwa [val_limbs, val_limbs] at this
  · have := (plus_raw ad2 ad1 c2 c1 _ _ w s2 s1 (by omega) b2).2 (by omega)
    rwa [val_limbs, val_limbs, Nat.add_comm] at this

end Go.Proofs

open Go.RowKit
namespace Go.Proofs
set_option linter.unusedVariables false
set_option linter.unusedSimpArgs false

theorem minus_digit (p a b c x y d q vy : Nat) (h : vy + b = a + c * p) (hd : d + y + c = x + 4294967296 * q) : (vy + p * d) + (b + p * y) = (a + p * x) + q * (p * 4294967296) := by
  grind

theorem minus_end (vy p a b c : Nat) (h : vy + b = a + c * p) (hv : vy < p) (hba : b ≤ a) : vy = a - b := by
  have : c = 0 := by
    rcases Nat.eq_zero_or_pos c with h0 | h0
    · exact h0
    · have : p ≤ c * p := Nat.le_mul_of_pos_left _ h0
      omega
  subst this
  omega

set_option maxRecDepth 100000 in
theorem minus_raw (ad1 ad2 : Option Addr) (c1 c2 : Nat) (xs zs : List Nat) (w : World) (hx : Sl w ad1 c1 xs) (hz : Sl w ad2 c2 zs) (hlen : zs.length ≤ xs.length) (hreach : xs.length ≤ 4000000000) (hval : val zs ≤ val xs) :
    Calls Try.prog 100 #[.slice ad1 xs.length c1, .slice ad2 zs.length c2] w (RetNum w (val xs - val zs)) := by
  have HV := Lib.hid hval
  clear hval
  go_enter Try.func100, Try.ntmps100
  go_wp2_with (at_make; refine wpList_make_nums _ rfl _ _ 74 rfl 109 Try.underlying74 info32 _ _ _ _ xs.length rfl rfl (by omega) (by omega) (by omega) ?_; intro w1 hr1 hb1 hs1)
  go_loopw [6, 14] (fun cv iv wr => ∃ (i c : Nat) (ys : List Nat), i ≤ xs.length ∧ c ≤ 1 ∧ ys.length = i ∧ iv = .int .i64 i ∧ cv = .int .u32 c ∧
      Row wr w.heap.size (ys ++ List.replicate (xs.length - i) 0) ∧ Below w.heap.size w wr ∧ val ys + val (zs.take i) = val (xs.take i) + c * 4294967296 ^ i)
    (fun _ iv _ => xs.length - (intOf iv).toNat)
  case atStart => exact ⟨0, 0, [], Nat.zero_le _, by omega, rfl, rfl, rfl, by simpa using hr1, hb1, by simp [val]⟩
  case round =>
    obtain ⟨i, c, ys, hi, hc, hys, rfl, rfl, hrow, hbel, hval⟩ := hrel
    have Hrow := Lib.hid hrow
    have Hval := Lib.hid hval
    have Hys := Lib.hid hys
    clear hrow hval hys
    by_cases hlt : i < xs.length
    · have hlen' : (ys ++ List.replicate (xs.length - i) 0).length = xs.length := by have := Hys.out; simp; omega
      have oc := Hrow.out.cell (i := i) (by omega)
      have of := Hrow.out.free i
      obtain ⟨v0, ev0⟩ : ∃ x, (ys ++ List.replicate (xs.length - i) 0).getD i 0 = x := ⟨_, rfl⟩
      rw [ev0] at oc
      clear ev0 hlen'
      obtain ⟨b, o, rfl, hbs, hcell, hfr⟩ := hx.open hlt
      have hx1 := hx.lt i
      have hz1 := hz.lt i
      obtain ⟨x, ex⟩ : ∃ x, xs.getD i 0 = x := ⟨_, rfl⟩
      rw [ex] at hcell hx1
      have hcell' := (hbel.cell (p := ⟨b, o + i, none⟩) hbs).trans hcell
      have Hx := Lib.hid ex
      clear hcell hfr ex
      by_cases hlz : i < zs.length
      · obtain ⟨b2, o2, rfl, hbs2, hcell2, hfr2⟩ := hz.open hlz
        obtain ⟨y, ey⟩ : ∃ x, zs.getD i 0 = x := ⟨_, rfl⟩
        rw [ey] at hcell2 hz1
        have hcell2' := (hbel.cell (p := ⟨b2, o2 + i, none⟩) hbs2).trans hcell2
        have Hy := Lib.hid ey
        clear hcell2 hfr2 ey
        go_wp2_with (go_at_call 101; refine (sub32_calls x y c _ hx1 hz1 hc).mono ?_; rintro e w' ⟨d, q, rfl, hd, hq, he, rfl⟩; have HE := Lib.hid he; clear he)
        go_roundw
        case rel =>
          refine ⟨i + 1, q, ys ++ [d], by omega, hq, by simp [Hys.out], by go_num, rfl, Hrow.out.push Hys.out hlt d hd _ rfl, hbel.setCell (Nat.le_refl _) _, ?_⟩
          rw [val_snoc, Hys.out, val_take_succ _ _ hlt, val_take_succ _ _ hlz, Hx.out, Hy.out, Nat.pow_succ]
          exact minus_digit _ _ _ _ _ _ _ _ _ Hval.out HE.out
        case measure => simp [intOf]; omega
      · go_wp2_with (go_at_call 101; refine (sub32_calls x 0 c _ hx1 (by omega) hc).mono ?_; rintro e w' ⟨d, q, rfl, hd, hq, he, rfl⟩; have HE := Lib.hid he; clear he)
        go_roundw
        case rel =>
          refine ⟨i + 1, q, ys ++ [d], by omega, hq, by simp [Hys.out], by go_num, rfl, Hrow.out.push Hys.out hlt d hd _ rfl, hbel.setCell (Nat.le_refl _) _, ?_⟩
          rw [val_snoc, Hys.out, val_take_succ _ _ hlt, val_take_of_le _ _ (by omega), Hx.out, Nat.pow_succ]
          have := minus_digit _ _ _ _ x 0 d q _ Hval.out HE.out
          simpa using this
        case measure => simp [intOf]; omega
    · obtain rfl : i = xs.length := by omega
      have hrow := Hrow.out
      rw [Nat.sub_self, List.replicate_zero, List.append_nil] at hrow
      have hsl := hrow.whole (by rw [Hys.out]; unfold maxLen; omega)
      have hv2 : val ys = val xs - val zs := by
        have := Hval.out
        rw [List.take_of_length_le (Nat.le_refl _), List.take_of_length_le hlen] at this
        have hlt := val_lt ys hrow.1
        rw [Hys.out] at hlt
        exact minus_end _ _ _ _ _ this hlt HV.out
      rw [Hys.out] at hsl
      have Hv := Lib.hid hv2
      clear hv2 hrow
      go_wp2_with (go_at_call 58; refine (trim_calls _ _ _ _ _ hsl Hys.out.symm).mono ?_; rintro e w' ⟨k, rfl, hnum, rfl⟩)
      go_ret
      rw [Hv.out] at hnum
      exact ⟨_, rfl, hnum, Nat.le_refl _, hbel⟩

/-- minus returns the difference. -/
theorem minus_calls (v1 v2 : Value) (m n : Nat) (w : World) (h1 : Num w v1 m) (h2 : Num w v2 n) (hnm : n ≤ m) (b1 : (limbs m).length ≤ 4000000000) :
    Calls Try.prog 100 #[v1, v2] w (RetNum w (m - n)) := by
  obtain ⟨ad1, c1, rfl, s1⟩ := h1
  obtain ⟨ad2, c2, rfl, s2⟩ := h2
  have := minus_raw ad1 ad2 c1 c2 _ _ w s1 s2 (limbs_length_mono hnm) b1 (by rw [val_limbs, val_limbs]; exact hnm)
  rwa [val_limbs, val_limbs] at this

end Go.Proofs

open Go.RowKit
namespace Go.Proofs
set_option linter.unusedVariables false
set_option linter.unusedSimpArgs false

theorem school_step (p pi x y o c vr vz q r : Nat) (v0 vs : Nat) (hs : vs + (p * pi) * o = vr + (p * pi) * r) (hi : vr + c * (p * pi) = v0 + pi * (x * vz)) (hq : 4294967296 * q + r = x * y + o + c) :
    vs + q * (p * 4294967296 * pi) = v0 + pi * (x * (vz + p * y)) := by
  grind

theorem school_row (pi pl x c vr v0 vs vz va : Nat) (h : vr + c * (pl * pi) = v0 + pi * (x * vz)) (hs : vs + pl * pi * 0 = vr + pl * pi * c) (h0 : v0 = va * vz) : vs = (va + pi * x) * vz := by
  grind

set_option maxRecDepth 100000 in
theorem school_raw (ad1 ad2 : Option Addr) (c1 c2 : Nat) (xs zs : List Nat) (w : World) (hx : Sl w ad1 c1 xs) (hz : Sl w ad2 c2 zs) (b1 : xs.length ≤ 1000000000) (b2 : zs.length ≤ 1000000000) :
    Calls Try.prog 85 #[.slice ad1 xs.length c1, .slice ad2 zs.length c2] w (RetNum w (val xs * val zs)) := by
  go_enter Try.func85, Try.ntmps85
  go_wp2_with (at_make; refine wpList_make_nums _ rfl _ _ 74 rfl 109 Try.underlying74 info32 _ _ _ _ (xs.length + zs.length) rfl rfl (by omega) (by omega) (by omega) ?_; intro w1 hr1 hb1 hs1)
  go_loopw [20] (fun iv wr => ∃ (i : Nat) (R : List Nat), i ≤ xs.length ∧ iv = .int .i64 i ∧ R.length = xs.length + zs.length ∧ Row wr w.heap.size R ∧ Below w.heap.size w wr ∧
      val R = val (xs.take i) * val zs ∧ (∀ k, i + zs.length ≤ k → R.getD k 0 = 0))
    (fun iv _ => xs.length - (intOf iv).toNat)
  case atStart => exact ⟨0, List.replicate (xs.length + zs.length) 0, Nat.zero_le _, rfl, by simp, hr1, hb1, by simp [val, val_replicate], by intro k _; simp [List.getD, List.getElem?_replicate]; split <;> rfl⟩
  case round =>
    obtain ⟨i, R, hi, rfl, hlR, hrow, hbel, hval, htail⟩ := hrel
    have HlR := Lib.hid hlR
    have Hrow := Lib.hid hrow
    have Hval := Lib.hid hval
    have Htail := Lib.hid htail
    clear hlR hrow hval htail
    by_cases hlt : i < xs.length
    · obtain ⟨b, o, rfl, hbs, hcell, hfr⟩ := hx.open hlt
      have hx1 := hx.lt i
      obtain ⟨x, ex⟩ : ∃ x, xs.getD i 0 = x := ⟨_, rfl⟩
      rw [ex] at hcell hx1
      have hcell' := (hbel.cell (p := ⟨b, o + i, none⟩) hbs).trans hcell
      have Hx := Lib.hid ex
      clear hcell hfr ex
      go_wp2
      obtain ⟨wo, rfl⟩ : ∃ wo : World, wo = wr := ⟨_, rfl⟩
      go_loopw [8, 27] (fun cv jv wr => ∃ (j c : Nat) (R' : List Nat), j ≤ zs.length ∧ c < 4294967296 ∧ jv = .int .i64 j ∧ cv = .int .u64 c ∧ R'.length = xs.length + zs.length ∧ Row wr w.heap.size R' ∧ Below w.heap.size w wr ∧
          val R' + c * (4294967296 ^ j * 4294967296 ^ i) = val R + 4294967296 ^ i * (x * val (zs.take j)) ∧ (∀ k, i + zs.length ≤ k → R'.getD k 0 = 0))
        (fun _ jv _ => zs.length - (intOf jv).toNat)
      case atStart => exact ⟨0, 0, R, Nat.zero_le _, by omega, rfl, rfl, HlR.out, Hrow.out, hbel, by simp [val], Htail.out⟩
      case round =>
        obtain ⟨j, c, R', hj, hc, rfl, rfl, hlR', hrow', hbel', hval', htail'⟩ := hrel
        have HlR' := Lib.hid hlR'
        have Hrow' := Lib.hid hrow'
        have Hval' := Lib.hid hval'
        have Htail' := Lib.hid htail'
        clear hlR' hrow' hval' htail'
        by_cases hjt : j < zs.length
        · obtain ⟨b2, o2, rfl, hbs2, hcell2, hfr2⟩ := hz.open hjt
          have hz1 := hz.lt j
          obtain ⟨y, ey⟩ : ∃ x, zs.getD j 0 = x := ⟨_, rfl⟩
          rw [ey] at hcell2 hz1
          have hcell2' := (hbel'.cell (p := ⟨b2, o2 + j, none⟩) hbs2).trans hcell2
          have Hy := Lib.hid ey
          have oc := Hrow'.out.cell (i := i + j) (by have := HlR'.out; omega)
          have of := Hrow'.out.free (i + j)
          have hv1 := getD_lt_of Hrow'.out.1 (i + j)
          obtain ⟨v0, ev0⟩ : ∃ x, R'.getD (i + j) 0 = x := ⟨_, rfl⟩
          rw [ev0] at oc hv1
          have Hv0 := Lib.hid ev0
          have m0 : (0 : Int) ≤ (x : Int) * (y : Int) := Int.mul_nonneg (by omega) (by omega)
          have m1 : (x : Int) * (y : Int) ≤ 18446744065119617025 := by
            have := Nat.mul_le_mul (show x ≤ 4294967295 by omega) (show y ≤ 4294967295 by omega)
            have h2 : ((x * y : Nat) : Int) ≤ ((4294967295 * 4294967295 : Nat) : Int) := by exact_mod_cast this
            rw [Int.natCast_mul] at h2
            omega
          clear hcell2 hfr2 ey ev0
          go_wp2
          go_roundw
          case rel =>
            have hxy : ((x * y : Nat) : Int) = (x : Int) * (y : Int) := Int.natCast_mul _ _
            have hset := val_set R' (i + j) ((x * y + v0 + c) % 4294967296) (by have := HlR'.out; omega)
            rw [Hv0.out, Nat.add_comm i j, Nat.pow_add] at hset
            refine ⟨j + 1, (x * y + v0 + c) / 4294967296, R'.set (i + j) ((x * y + v0 + c) % 4294967296), by omega, by omega, by go_num, by go_num, by simp [HlR'.out], Hrow'.out.put _ _ (by omega) _ (by omega), hbel'.setCell (Nat.le_refl _) _, ?_, ?_⟩
            · have hv' := Hval'.out
              have hd := Nat.div_add_mod (x * y + v0 + c) 4294967296
              rw [Nat.add_comm j i] at hset
              rw [val_take_succ _ _ hjt, Hy.out, Nat.pow_succ]
              generalize (x * y + v0 + c) / 4294967296 = q at *
              generalize (x * y + v0 + c) % 4294967296 = r at *
              generalize 4294967296 ^ j = p at *
              generalize 4294967296 ^ i = pi at *
              exact school_step p pi x y v0 c _ _ q r _ _ hset hv' hd
            · intro k hk
              rw [getD_set_ne _ _ (by omega)]
              exact Htail'.out k hk
          case measure => simp [intOf]; omega
        · obtain rfl : j = zs.length := by omega
          have oc := Hrow'.out.cell (i := i + zs.length) (by have := HlR'.out; omega)
          have of := Hrow'.out.free (i + zs.length)
          rw [Htail'.out _ (Nat.le_refl _)] at oc
          go_wp2
          go_roundw
          case rel =>
            have hset := val_set R' (i + zs.length) c (by have := HlR'.out; omega)
            rw [Htail'.out _ (Nat.le_refl _), Nat.add_comm i, Nat.pow_add] at hset
            have hv' := Hval'.out
            rw [List.take_of_length_le (Nat.le_refl _)] at hv'
            refine ⟨i + 1, R'.set (i + zs.length) c, by omega, by go_num, by simp [HlR'.out], Hrow'.out.put _ _ hc _ (by omega), hbel'.setCell (Nat.le_refl _) _, ?_, ?_⟩
            · rw [Nat.add_comm i, val_take_succ _ _ hlt, Hx.out]
              exact school_row _ _ _ _ _ _ _ _ _ hv' hset Hval.out
            · intro k hk
              rw [getD_set_ne _ _ (by omega)]
              exact Htail'.out k (by omega)
          case measure => simp [intOf]; omega
    · obtain rfl : i = xs.length := by omega
      have hsl := Hrow.out.whole (by rw [HlR.out]; unfold maxLen; omega)
      have hv2 := Hval.out
      rw [List.take_of_length_le (Nat.le_refl _)] at hv2
      rw [HlR.out] at hsl
      have Hv := Lib.hid hv2
      clear hv2
      go_wp2_with (go_at_call 58; refine (trim_calls _ _ _ _ _ hsl HlR.out.symm).mono ?_; rintro e w' ⟨k, rfl, hnum, rfl⟩)
      go_ret
      rw [Hv.out] at hnum
      exact ⟨_, rfl, hnum, Nat.le_refl _, hbel⟩

/-- school returns the product. -/
theorem school_calls (v1 v2 : Value) (m n : Nat) (w : World) (h1 : Num w v1 m) (h2 : Num w v2 n) (b1 : (limbs m).length ≤ 1000000000) (b2 : (limbs n).length ≤ 1000000000) :
    Calls Try.prog 85 #[v1, v2] w (RetNum w (m * n)) := by
  obtain ⟨ad1, c1, rfl, s1⟩ := h1
  obtain ⟨ad2, c2, rfl, s2⟩ := h2
  have := school_raw ad1 ad2 c1 c2 _ _ w s1 s2 b1 b2
  rwa [val_limbs, val_limbs] at this

end Go.Proofs

open Go.RowKit
namespace Go.Proofs
set_option linter.unusedVariables false
set_option linter.unusedSimpArgs false

/-- Two numbers come back; what was there is as it was. -/
def RetTwo (w : World) (m n : Nat) (e : Ending) (w' : World) : Prop :=
  ∃ v1 v2, e = .returned (.tuple #[v1, v2]) ∧ Num w' v1 m ∧ Num w' v2 n ∧ Below w.heap.size w w'

theorem trim_same (ad : Option Addr) (c n : Nat) (xs : List Nat) (w : World) (hx : Sl w ad c xs) (hn : n = xs.length) :
    Calls Try.prog 58 #[.slice ad n c] w fun e w' => e = .returned (.slice ad (limbs (val xs)).length c) ∧ w' = w := by
  subst hn
  exact (trim_raw ad c xs w hx).mono fun e w' ⟨he, hw⟩ => ⟨he, hw.symm⟩

set_option maxRecDepth 100000 in
theorem split_calls (v : Value) (m n : Nat) (z : Int) (w : World) (hv : Num w v m) (hz : z = (n : Int)) (b1 : (limbs m).length ≤ 1000000000) (b2 : n ≤ 1000000000) :
    Calls Try.prog 99 #[v, .int .i64 z] w (RetTwo w (m % 4294967296 ^ n) (m / 4294967296 ^ n)) := by
  subst hz
  obtain ⟨ad, c, rfl, hs⟩ := hv
  by_cases hle : (limbs m).length ≤ n
  · have hlt := limbs_length_le_iff.1 hle
    have e1 := Nat.mod_eq_of_lt hlt
    have e2 := Nat.div_eq_of_lt hlt
    rw [e1, e2]
    clear e1 e2 hlt
    go_enter Try.func99, Try.ntmps99
    go_wp2
    go_ret2
    exact ⟨_, _, rfl, ⟨ad, c, rfl, hs⟩, Num.nil _, Below.refl _ _⟩
  · obtain ⟨b, o, rfl, hbs, _, _⟩ := hs.open (i := n) (by omega)
    have hc := hs.1
    have hcm := hs.2.1
    unfold maxLen at hcm
    have htl : ((limbs m).take n).length = n := by rw [List.length_take]; omega
    have hst := (hs.take n)
    have hsd := hs.drop b o n rfl (by omega)
    have ev := val_take_mod m n (by omega)
    have ed := limbs_drop (m := m) (n := n) (by omega)
    have Hst : ∀ k, Sl (w.drewN k) (some ⟨b, o, none⟩) c ((limbs m).take n) := fun k => hst.mono (Nat.le_refl _) (below_drewN (Below.refl _ _) k)
    have Htl := Lib.hid htl
    have Hev := Lib.hid ev
    have Hed := Lib.hid ed
    have HH := Lib.hid Hst
    have t1 : (n : Int) < ((limbs m).length : Int) := by omega
    clear htl ev ed Hst
    go_enter Try.func99, Try.ntmps99
    go_wp2_with fail
    go_quiet ((go_at_call 58; exact Calls.quiet_of_same (trim_same _ _ _ _ _ (HH.out _) Htl.out.symm)))
    go_wp2
    go_ret2
    refine ⟨_, _, rfl, ?_, ?_, below_drewN (Below.refl _ _) _⟩
    · rw [← Hev.out]
      exact ⟨_, c, rfl, (hst.mono (Nat.le_refl _) (below_drewN (Below.refl _ _) _)).trimmed⟩
    · refine ⟨some ⟨b, o + n, none⟩, c - n, ?_, ?_⟩
      · rw [Hed.out, List.length_drop]; rfl
      · rw [Hed.out]
        exact hsd.mono (Nat.le_refl _) (below_drewN (Below.refl _ _) _)

end Go.Proofs
