/- nat.minus: the difference. -/
import Derived.Test.YtgdgdaofmjnepaaDoorTrim
open Go.RowKit
namespace Go.Proofs
set_option linter.unusedVariables false

theorem minus_digit (p a b c x y d q vy : Nat) (h : vy + b = a + c * p) (hd : d + y + c = x + 4294967296 * q) : (vy + p * d) + (b + p * y) = (a + p * x) + q * (p * 4294967296) := by
  grind

theorem minus_end (vy p a b c : Nat) (h : vy + b = a + c * p) (hv : vy < p) (hba : b ≤ a) : vy = a - b := by
  have : c = 0 := by
    rcases Nat.eq_zero_or_pos c with h0 | h0
    · exact h0
    · have : p ≤ c * p := Nat.le_mul_of_pos_left _ h0
      omega
  subst this
  omega

set_option maxRecDepth 100000 in
theorem minus_raw (ad1 ad2 : Option Addr) (c1 c2 : Nat) (xs zs : List Nat) (w : World) (hx : Sl w ad1 c1 xs) (hz : Sl w ad2 c2 zs) (hlen : zs.length ≤ xs.length) (hreach : xs.length ≤ 4000000000) (hval : val zs ≤ val xs) :
    Calls Tryd.prog 157 #[.slice ad1 xs.length c1, .slice ad2 zs.length c2] w (RetNum w (val xs - val zs)) := by
  have HV := Lib.hid hval
  clear hval
  go_enter Tryd.func157, Tryd.ntmps157
  go_wp2_with (at_make; refine wpList_make_nums _ rfl _ _ 55 rfl 102 Tryd.underlying55 info32 _ _ _ _ xs.length rfl rfl (by omega) (by omega) (by omega) ?_; intro w1 hr1 hb1 hs1)
  go_loopw [6, 14] (fun cv iv wr => ∃ (i c : Nat) (ys : List Nat), i ≤ xs.length ∧ c ≤ 1 ∧ ys.length = i ∧ iv = .int .i64 i ∧ cv = .int .u32 c ∧
      Row wr w.heap.size (ys ++ List.replicate (xs.length - i) 0) ∧ Below w.heap.size w wr ∧ val ys + val (zs.take i) = val (xs.take i) + c * 4294967296 ^ i)
    (fun _ iv _ => xs.length - (intOf iv).toNat)
  case atStart => exact ⟨0, 0, [], Nat.zero_le _, by omega, rfl, rfl, rfl, by simpa using hr1, hb1, by simp [val]⟩
  case round =>
    obtain ⟨i, c, ys, hi, hc, hys, rfl, rfl, hrow, hbel, hval⟩ := hrel
    have Hrow := Lib.hid hrow
    have Hval := Lib.hid hval
    have Hys := Lib.hid hys
    clear hrow hval hys
    by_cases hlt : i < xs.length
    · have hlen' : (ys ++ List.replicate (xs.length - i) 0).length = xs.length := by have := Hys.out; simp; omega
      have oc := Hrow.out.cell (i := i) (by omega)
      have of := Hrow.out.free i
      obtain ⟨v0, ev0⟩ : ∃ x, (ys ++ List.replicate (xs.length - i) 0).getD i 0 = x := ⟨_, rfl⟩
      rw [ev0] at oc
      clear ev0 hlen'
      obtain ⟨b, o, rfl, hbs, hcell, hfr⟩ := hx.open hlt
      have hx1 := hx.lt i
      have hz1 := hz.lt i
      obtain ⟨x, ex⟩ : ∃ x, xs.getD i 0 = x := ⟨_, rfl⟩
      rw [ex] at hcell hx1
      have hcell' := (hbel.cell (p := ⟨b, o + i, none⟩) hbs).trans hcell
      have Hx := Lib.hid ex
      clear hcell hfr ex
      by_cases hlz : i < zs.length
      · obtain ⟨b2, o2, rfl, hbs2, hcell2, hfr2⟩ := hz.open hlz
        obtain ⟨y, ey⟩ : ∃ x, zs.getD i 0 = x := ⟨_, rfl⟩
        rw [ey] at hcell2 hz1
        have hcell2' := (hbel.cell (p := ⟨b2, o2 + i, none⟩) hbs2).trans hcell2
        have Hy := Lib.hid ey
        clear hcell2 hfr2 ey
        go_wp2_with (go_at_call 158; refine (sub32_calls x y c _ hx1 hz1 hc).mono ?_; rintro e w' ⟨d, q, rfl, hd, hq, he, rfl⟩; have HE := Lib.hid he; clear he)
        go_roundw
        case rel =>
          refine ⟨i + 1, q, ys ++ [d], by omega, hq, by simp [Hys.out], by go_num, rfl, Hrow.out.push Hys.out hlt d hd _ rfl, hbel.setCell (Nat.le_refl _) _, ?_⟩
          rw [val_snoc, Hys.out, val_take_succ _ _ hlt, val_take_succ _ _ hlz, Hx.out, Hy.out, Nat.pow_succ]
          exact minus_digit _ _ _ _ _ _ _ _ _ Hval.out HE.out
        case measure => simp [intOf]; omega
      · go_wp2_with (go_at_call 158; refine (sub32_calls x 0 c _ hx1 (by omega) hc).mono ?_; rintro e w' ⟨d, q, rfl, hd, hq, he, rfl⟩; have HE := Lib.hid he; clear he)
        go_roundw
        case rel =>
          refine ⟨i + 1, q, ys ++ [d], by omega, hq, by simp [Hys.out], by go_num, rfl, Hrow.out.push Hys.out hlt d hd _ rfl, hbel.setCell (Nat.le_refl _) _, ?_⟩
          rw [val_snoc, Hys.out, val_take_succ _ _ hlt, val_take_of_le _ _ (by omega), Hx.out, Nat.pow_succ]
          have := minus_digit _ _ _ _ x 0 d q _ Hval.out HE.out
          simpa using this
        case measure => simp [intOf]; omega
    · obtain rfl : i = xs.length := by omega
      have hrow := Hrow.out
      rw [Nat.sub_self, List.replicate_zero, List.append_nil] at hrow
      have hsl := hrow.whole (by rw [Hys.out]; unfold maxLen; omega)
      have hv2 : val ys = val xs - val zs := by
        have := Hval.out
        rw [List.take_of_length_le (Nat.le_refl _), List.take_of_length_le hlen] at this
        have hlt := val_lt ys hrow.1
        rw [Hys.out] at hlt
        exact minus_end _ _ _ _ _ this hlt HV.out
      rw [Hys.out] at hsl
      have Hv := Lib.hid hv2
      clear hv2 hrow
      go_wp2_with (go_at_call 116; refine (trim_calls _ _ _ _ _ hsl Hys.out.symm).mono ?_; rintro e w' ⟨k, rfl, hnum, rfl⟩)
      go_ret
      rw [Hv.out] at hnum
      exact ⟨_, rfl, hnum, Nat.le_refl _, hbel⟩

/-- minus returns the difference. -/
theorem minus_calls (v1 v2 : Value) (m n : Nat) (w : World) (h1 : Num w v1 m) (h2 : Num w v2 n) (hnm : n ≤ m) (b1 : (limbs m).length ≤ 4000000000) :
    Calls Tryd.prog 157 #[v1, v2] w (RetNum w (m - n)) := by
  obtain ⟨ad1, c1, rfl, s1⟩ := h1
  obtain ⟨ad2, c2, rfl, s2⟩ := h2
  have := minus_raw ad1 ad2 c1 c2 _ _ w s1 s2 (limbs_length_mono hnm) b1 (by rw [val_limbs, val_limbs]; exact hnm)
  rwa [val_limbs, val_limbs] at this

end Go.Proofs
