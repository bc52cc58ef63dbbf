/- nat.school: the product, limb by limb. -/
import Derived.Test.YtgdgdaofmjnepaaDoorTrim
open Go.RowKit
namespace Go.Proofs
set_option linter.unusedVariables false

theorem school_step (p pi x y o c vr vz q r : Nat) (v0 vs : Nat) (hs : vs + (p * pi) * o = vr + (p * pi) * r) (hi : vr + c * (p * pi) = v0 + pi * (x * vz)) (hq : 4294967296 * q + r = x * y + o + c) :
    vs + q * (p * 4294967296 * pi) = v0 + pi * (x * (vz + p * y)) := by
  grind

theorem school_row (pi pl x c vr v0 vs vz va : Nat) (h : vr + c * (pl * pi) = v0 + pi * (x * vz)) (hs : vs + pl * pi * 0 = vr + pl * pi * c) (h0 : v0 = va * vz) : vs = (va + pi * x) * vz := by
  grind

set_option maxRecDepth 100000 in
theorem school_raw (ad1 ad2 : Option Addr) (c1 c2 : Nat) (xs zs : List Nat) (w : World) (hx : Sl w ad1 c1 xs) (hz : Sl w ad2 c2 zs) (b1 : xs.length ≤ 1000000000) (b2 : zs.length ≤ 1000000000) :
    Calls Tryd.prog 136 #[.slice ad1 xs.length c1, .slice ad2 zs.length c2] w (RetNum w (val xs * val zs)) := by
  go_enter Tryd.func136, Tryd.ntmps136
  go_wp2_with (at_make; refine wpList_make_nums _ rfl _ _ 55 rfl 102 Tryd.underlying55 info32 _ _ _ _ (xs.length + zs.length) rfl rfl (by omega) (by omega) (by omega) ?_; intro w1 hr1 hb1 hs1)
  go_loopw [20] (fun iv wr => ∃ (i : Nat) (R : List Nat), i ≤ xs.length ∧ iv = .int .i64 i ∧ R.length = xs.length + zs.length ∧ Row wr w.heap.size R ∧ Below w.heap.size w wr ∧
      val R = val (xs.take i) * val zs ∧ (∀ k, i + zs.length ≤ k → R.getD k 0 = 0))
    (fun iv _ => xs.length - (intOf iv).toNat)
  case atStart => exact ⟨0, List.replicate (xs.length + zs.length) 0, Nat.zero_le _, rfl, by simp, hr1, hb1, by simp [val, val_replicate], by intro k _; simp [List.getD, List.getElem?_replicate]; split <;> rfl⟩
  case round =>
    obtain ⟨i, R, hi, rfl, hlR, hrow, hbel, hval, htail⟩ := hrel
    have HlR := Lib.hid hlR
    have Hrow := Lib.hid hrow
    have Hval := Lib.hid hval
    have Htail := Lib.hid htail
    clear hlR hrow hval htail
    by_cases hlt : i < xs.length
    · obtain ⟨b, o, rfl, hbs, hcell, hfr⟩ := hx.open hlt
      have hx1 := hx.lt i
      obtain ⟨x, ex⟩ : ∃ x, xs.getD i 0 = x := ⟨_, rfl⟩
      rw [ex] at hcell hx1
      have hcell' := (hbel.cell (p := ⟨b, o + i, none⟩) hbs).trans hcell
      have Hx := Lib.hid ex
      clear hcell hfr ex
      go_wp2
      obtain ⟨wo, rfl⟩ : ∃ wo : World, wo = wr := ⟨_, rfl⟩
      go_loopw [8, 27] (fun cv jv wr => ∃ (j c : Nat) (R' : List Nat), j ≤ zs.length ∧ c < 4294967296 ∧ jv = .int .i64 j ∧ cv = .int .u64 c ∧ R'.length = xs.length + zs.length ∧ Row wr w.heap.size R' ∧ Below w.heap.size w wr ∧
          val R' + c * (4294967296 ^ j * 4294967296 ^ i) = val R + 4294967296 ^ i * (x * val (zs.take j)) ∧ (∀ k, i + zs.length ≤ k → R'.getD k 0 = 0))
        (fun _ jv _ => zs.length - (intOf jv).toNat)
      case atStart => exact ⟨0, 0, R, Nat.zero_le _, by omega, rfl, rfl, HlR.out, Hrow.out, hbel, by simp [val], Htail.out⟩
      case round =>
        obtain ⟨j, c, R', hj, hc, rfl, rfl, hlR', hrow', hbel', hval', htail'⟩ := hrel
        have HlR' := Lib.hid hlR'
        have Hrow' := Lib.hid hrow'
        have Hval' := Lib.hid hval'
        have Htail' := Lib.hid htail'
        clear hlR' hrow' hval' htail'
        by_cases hjt : j < zs.length
        · obtain ⟨b2, o2, rfl, hbs2, hcell2, hfr2⟩ := hz.open hjt
          have hz1 := hz.lt j
          obtain ⟨y, ey⟩ : ∃ x, zs.getD j 0 = x := ⟨_, rfl⟩
          rw [ey] at hcell2 hz1
          have hcell2' := (hbel'.cell (p := ⟨b2, o2 + j, none⟩) hbs2).trans hcell2
          have Hy := Lib.hid ey
          have oc := Hrow'.out.cell (i := i + j) (by have := HlR'.out; omega)
          have of := Hrow'.out.free (i + j)
          have hv1 := getD_lt_of Hrow'.out.1 (i + j)
          obtain ⟨v0, ev0⟩ : ∃ x, R'.getD (i + j) 0 = x := ⟨_, rfl⟩
          rw [ev0] at oc hv1
          have Hv0 := Lib.hid ev0
          have m0 : (0 : Int) ≤ (x : Int) * (y : Int) := Int.mul_nonneg (by omega) (by omega)
          have m1 : (x : Int) * (y : Int) ≤ 18446744065119617025 := by
            have := Nat.mul_le_mul (show x ≤ 4294967295 by omega) (show y ≤ 4294967295 by omega)
            have h2 : ((x * y : Nat) : Int) ≤ ((4294967295 * 4294967295 : Nat) : Int) := by exact_mod_cast this
            rw [Int.natCast_mul] at h2
            omega
          clear hcell2 hfr2 ey ev0
          go_wp2
          go_roundw
          case rel =>
            have hxy : ((x * y : Nat) : Int) = (x : Int) * (y : Int) := Int.natCast_mul _ _
            have hset := val_set R' (i + j) ((x * y + v0 + c) % 4294967296) (by have := HlR'.out; omega)
            rw [Hv0.out, Nat.add_comm i j, Nat.pow_add] at hset
            refine ⟨j + 1, (x * y + v0 + c) / 4294967296, R'.set (i + j) ((x * y + v0 + c) % 4294967296), by omega, by omega, by go_num, by go_num, by simp [HlR'.out], Hrow'.out.put _ _ (by omega) _ (by omega), hbel'.setCell (Nat.le_refl _) _, ?_, ?_⟩
            · have hv' := Hval'.out
              have hd := Nat.div_add_mod (x * y + v0 + c) 4294967296
              rw [Nat.add_comm j i] at hset
              rw [val_take_succ _ _ hjt, Hy.out, Nat.pow_succ]
              generalize (x * y + v0 + c) / 4294967296 = q at *
              generalize (x * y + v0 + c) % 4294967296 = r at *
              generalize 4294967296 ^ j = p at *
              generalize 4294967296 ^ i = pi at *
              exact school_step p pi x y v0 c _ _ q r _ _ hset hv' hd
            · intro k hk
              rw [getD_set_ne _ _ (by omega)]
              exact Htail'.out k hk
          case measure => simp [intOf]; omega
        · obtain rfl : j = zs.length := by omega
          have oc := Hrow'.out.cell (i := i + zs.length) (by have := HlR'.out; omega)
          have of := Hrow'.out.free (i + zs.length)
          rw [Htail'.out _ (Nat.le_refl _)] at oc
          go_wp2
          go_roundw
          case rel =>
            have hset := val_set R' (i + zs.length) c (by have := HlR'.out; omega)
            rw [Htail'.out _ (Nat.le_refl _), Nat.add_comm i, Nat.pow_add] at hset
            have hv' := Hval'.out
            rw [List.take_of_length_le (Nat.le_refl _)] at hv'
            refine ⟨i + 1, R'.set (i + zs.length) c, by omega, by go_num, by simp [HlR'.out], Hrow'.out.put _ _ hc _ (by omega), hbel'.setCell (Nat.le_refl _) _, ?_, ?_⟩
            · rw [Nat.add_comm i, val_take_succ _ _ hlt, Hx.out]
              exact school_row _ _ _ _ _ _ _ _ _ hv' hset Hval.out
            · intro k hk
              rw [getD_set_ne _ _ (by omega)]
              exact Htail'.out k (by omega)
          case measure => simp [intOf]; omega
    · obtain rfl : i = xs.length := by omega
      have hsl := Hrow.out.whole (by rw [HlR.out]; unfold maxLen; omega)
      have hv2 := Hval.out
      rw [List.take_of_length_le (Nat.le_refl _)] at hv2
      rw [HlR.out] at hsl
      have Hv := Lib.hid hv2
      clear hv2
      go_wp2_with (go_at_call 116; refine (trim_calls _ _ _ _ _ hsl HlR.out.symm).mono ?_; rintro e w' ⟨k, rfl, hnum, rfl⟩)
      go_ret
      rw [Hv.out] at hnum
      exact ⟨_, rfl, hnum, Nat.le_refl _, hbel⟩

/-- school returns the product. -/
theorem school_calls (v1 v2 : Value) (m n : Nat) (w : World) (h1 : Num w v1 m) (h2 : Num w v2 n) (b1 : (limbs m).length ≤ 1000000000) (b2 : (limbs n).length ≤ 1000000000) :
    Calls Tryd.prog 136 #[v1, v2] w (RetNum w (m * n)) := by
  obtain ⟨ad1, c1, rfl, s1⟩ := h1
  obtain ⟨ad2, c2, rfl, s2⟩ := h2
  have := school_raw ad1 ad2 c1 c2 _ _ w s1 s2 b1 b2
  rwa [val_limbs, val_limbs] at this

end Go.Proofs
