/- nat.plus: the sum. -/
import Derived.Test.YtgdgdaofmjnepaaDoorTrim
open Go.RowKit
namespace Go.Proofs
set_option linter.unusedVariables false

/-- one digit of a sum -/
theorem plus_digit (p a b c x y vy : Nat) (h : vy + c * p = a + b) : (vy + p * ((x + y + c) % 4294967296)) + ((x + y + c) / 4294967296) * (p * 4294967296) = (a + p * x) + (b + p * y) := by
  have e := Nat.div_add_mod (x + y + c) 4294967296
  generalize (x + y + c) / 4294967296 = q at *
  generalize (x + y + c) % 4294967296 = r at *
  grind

set_option maxRecDepth 100000 in
theorem plus_raw (ad1 ad2 : Option Addr) (c1 c2 : Nat) (xs zs : List Nat) (w : World) (hx : Sl w ad1 c1 xs) (hz : Sl w ad2 c2 zs) (hlen : zs.length ≤ xs.length) (hreach : xs.length ≤ 4000000000) :
    Calls Tryd.prog 124 #[.slice ad1 xs.length c1, .slice ad2 zs.length c2] w (RetNum w (val xs + val zs)) ∧
    (zs.length < xs.length → Calls Tryd.prog 124 #[.slice ad2 zs.length c2, .slice ad1 xs.length c1] w (RetNum w (val xs + val zs))) := by
  refine ⟨?_, fun hlt2 => ?_⟩
  all_goals
    go_enter Tryd.func124, Tryd.ntmps124
    go_wp2_with (at_make; refine wpList_make_nums _ rfl _ _ 55 rfl 102 Tryd.underlying55 info32 _ _ _ _ (xs.length + 1) rfl rfl (by omega) (by omega) (by omega) ?_; intro w1 hr1 hb1 hs1)
    go_loopw [6, 22] (fun cv iv wr => ∃ (i c : Nat) (ys : List Nat), i ≤ xs.length ∧ c ≤ 1 ∧ ys.length = i ∧ iv = .int .i64 i ∧ cv = .int .u32 c ∧
        Row wr w.heap.size (ys ++ List.replicate (xs.length + 1 - i) 0) ∧ Below w.heap.size w wr ∧ val ys + c * 4294967296 ^ i = val (xs.take i) + val (zs.take i))
      (fun _ iv _ => xs.length - (intOf iv).toNat)
    case atStart => exact ⟨0, 0, [], Nat.zero_le _, by omega, rfl, rfl, rfl, by simpa using hr1, hb1, by simp [val]⟩
    case round =>
      obtain ⟨i, c, ys, hi, hc, hys, rfl, rfl, hrow, hbel, hval⟩ := hrel
      have hlen' : (ys ++ List.replicate (xs.length + 1 - i) 0).length = xs.length + 1 := by simp; omega
      have oc := hrow.cell (i := i) (by omega)
      have of := hrow.free i
      obtain ⟨v0, ev0⟩ : ∃ x, (ys ++ List.replicate (xs.length + 1 - i) 0).getD i 0 = x := ⟨_, rfl⟩
      rw [ev0] at oc
      have Hrow := Lib.hid hrow
      have Hval := Lib.hid hval
      have Hys := Lib.hid hys
      clear hrow hval ev0 hys hlen'
      by_cases hlt : i < xs.length
      · obtain ⟨b, o, rfl, hbs, hcell, hfr⟩ := hx.open hlt
        have hx1 := hx.lt i
        have hz1 := hz.lt i
        obtain ⟨x, ex⟩ : ∃ x, xs.getD i 0 = x := ⟨_, rfl⟩
        rw [ex] at hcell hx1
        have hcell' := (hbel.cell (p := ⟨b, o + i, none⟩) hbs).trans hcell
        have Hx := Lib.hid ex
        clear hcell hfr ex
        by_cases hlz : i < zs.length
        · obtain ⟨b2, o2, rfl, hbs2, hcell2, hfr2⟩ := hz.open hlz
          obtain ⟨y, ey⟩ : ∃ x, zs.getD i 0 = x := ⟨_, rfl⟩
          rw [ey] at hcell2 hz1
          have hcell2' := (hbel.cell (p := ⟨b2, o2 + i, none⟩) hbs2).trans hcell2
          have Hy := Lib.hid ey
          clear hcell2 hfr2 ey
          go_wp2_with (go_at_call 142; refine (add32_calls _ _ _ _ (by omega) (by omega) (by omega) (by omega) (by omega) (by omega)).mono ?_; rintro e w' ⟨rfl, rfl⟩)
          go_roundw
          case rel =>
            refine ⟨i + 1, (x + y + c) / 4294967296, ys ++ [(x + y + c) % 4294967296], by omega, by omega, by simp [Hys.out], by go_num, by go_num, Hrow.out.push Hys.out (by omega) _ (by omega) _ (by omega), hbel.setCell (Nat.le_refl _) _, ?_⟩
            rw [val_snoc, Hys.out, val_take_succ _ _ hlt, val_take_succ _ _ hlz, Hx.out, Hy.out, Nat.pow_succ]
            exact plus_digit _ _ _ _ _ _ _ Hval.out
          case measure => simp [intOf]; omega
        · go_wp2_with (go_at_call 142; refine (add32_calls _ _ _ _ (by omega) (by omega) (by omega) (by omega) (by omega) (by omega)).mono ?_; rintro e w' ⟨rfl, rfl⟩)
          go_roundw
          case rel =>
            refine ⟨i + 1, (x + 0 + c) / 4294967296, ys ++ [(x + 0 + c) % 4294967296], by omega, by omega, by simp [Hys.out], by go_num, by go_num, Hrow.out.push Hys.out (by omega) _ (by omega) _ (by omega), hbel.setCell (Nat.le_refl _) _, ?_⟩
            rw [val_snoc, Hys.out, val_take_succ _ _ hlt, val_take_of_le _ _ (by omega), Hx.out, Nat.pow_succ]
            have := plus_digit _ _ _ _ x 0 _ Hval.out
            simpa using this
          case measure => simp [intOf]; omega
      · obtain rfl : i = xs.length := by omega
        have hpush := Hrow.out.push Hys.out (by omega) c (by omega) (c : Int) rfl
        have hsl := hpush.whole (by simp [Hys.out, maxLen]; omega)
        have hlen2 : (ys ++ [c] ++ List.replicate (xs.length + 1 - (xs.length + 1)) 0).length = xs.length + 1 := by simp [Hys.out]
        have hv2 : val (ys ++ [c] ++ List.replicate (xs.length + 1 - (xs.length + 1)) 0) = val xs + val zs := by
          have := Hval.out
          rw [List.take_of_length_le (Nat.le_refl _), List.take_of_length_le hlen] at this
          rw [Nat.sub_self, List.replicate_zero, List.append_nil, val_snoc, Hys.out, ← this, Nat.mul_comm c]
        have hb2 := hbel.setCell (p := ⟨w.heap.size, xs.length, none⟩) (Nat.le_refl _) (.int .u32 c)
        rw [hlen2] at hsl
        have Hl := Lib.hid hlen2
        have Hv := Lib.hid hv2
        clear hlen2 hv2
        go_wp2_with (go_at_call 116; refine (trim_calls _ _ _ _ _ hsl Hl.out.symm).mono ?_; rintro e w' ⟨k, rfl, hnum, rfl⟩)
        go_ret
        rw [Hv.out] at hnum
        exact ⟨_, rfl, hnum, Nat.le_refl _, hb2⟩

/-- plus returns the sum. -/
theorem plus_calls (v1 v2 : Value) (m n : Nat) (w : World) (h1 : Num w v1 m) (h2 : Num w v2 n) (b1 : (limbs m).length ≤ 4000000000) (b2 : (limbs n).length ≤ 4000000000) :
    Calls Tryd.prog 124 #[v1, v2] w (RetNum w (m + n)) := by
  obtain ⟨ad1, c1, rfl, s1⟩ := h1
  obtain ⟨ad2, c2, rfl, s2⟩ := h2
  by_cases hlen : (limbs n).length ≤ (limbs m).length
  · have := (plus_raw ad1 ad2 c1 c2 _ _ w s1 s2 hlen b1).1
    rwa [val_limbs, val_limbs] at this
  · have := (plus_raw ad2 ad1 c2 c1 _ _ w s2 s1 (by omega) b2).2 (by omega)
    rwa [val_limbs, val_limbs, Nat.add_comm] at this

end Go.Proofs
