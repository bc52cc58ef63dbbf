/- The reference: at, Of, Add, Sub. -/
import Derived.Test.YtgdgdaofmjnepaaDoorRTrim
import Derived.Test.YtgdgdaofmjnepaaDoorCompare
open Go.RowKit
namespace Go.Proofs
set_option linter.unusedVariables false

theorem at_calls (ad : Option Addr) (c : Nat) (xs : List Nat) (i : Nat) (z : Int) (w : World) (hx : Sl w ad c xs) (hz : z = (i : Int)) :
    Calls Tryd.prog 135 #[.slice ad xs.length c, .int .i64 z] w fun e w' => e = .returned (.int .u64 ((xs.getD i 0 : Nat) : Int)) ∧ w = w' := by
  subst hz
  have hc := hx.1
  have hcm := hx.2.1
  unfold maxLen at hcm
  by_cases hi : i < xs.length
  · obtain ⟨b, o, rfl, hbs, hcell, hfr⟩ := hx.open hi
    have hlt := hx.lt i
    generalize xs.getD i 0 = x at *
    go_enter Tryd.func135, Tryd.ntmps135
    go_wp2
    go_ret
    exact ⟨rfl, rfl⟩
  · have e : xs.getD i 0 = 0 := by simp [List.getD, show xs.length ≤ i by omega]
    rw [e]
    clear e
    go_enter Tryd.func135, Tryd.ntmps135
    go_wp2
    go_ret
    exact ⟨rfl, rfl⟩

theorem row_pair (w : World) (x y : Nat) (e : Nat) (hx : x < 4294967296) (hy : y < 4294967296) : Row (w.alloc (.cells #[Value.int .u32 (x : Int), Value.int .u32 (y : Int)] e)) w.heap.size [x, y] := by
  refine ⟨by intro z hz; simp at hz; omega, e, ?_⟩
  rw [heap_alloc_new]; rfl

theorem rof_calls (n : Nat) (z : Int) (w : World) (hz : z = (n : Int)) (hn : n < 18446744073709551616) :
    Calls Tryd.prog 58 #[.int .u64 z] w (RetNum w n) := by
  subst hz
  have hlo : (n : Int) % 4294967296 = ((n % 4294967296 : Nat) : Int) := rfl
  have hlo2 : (n : Int) % 4294967296 % 4294967296 = ((n % 4294967296 : Nat) : Int) := by omega
  have hhi : (n : Int) / 4294967296 = ((n / 4294967296 : Nat) : Int) := rfl
  have hhi2 : (n : Int) / 4294967296 % 4294967296 = ((n / 4294967296 : Nat) : Int) := by omega
  have hr := row_pair w (n % 4294967296) (n / 4294967296) 102 (by omega) (by omega)
  have hb := below_alloc w (.cells #[Value.int .u32 ((n % 4294967296 : Nat) : Int), Value.int .u32 ((n / 4294967296 : Nat) : Int)] 102)
  have hs := hr.whole (by simp [maxLen])
  have hval : val [n % 4294967296, n / 4294967296] = n := by simp only [val]; omega
  generalize n % 4294967296 = lo at *
  generalize n / 4294967296 = hi at *
  go_enter Tryd.func58, Tryd.ntmps58
  go_wp2_with fail
  refine (rtrim_calls _ _ 2 _ _ hs rfl (by simp)).mono ?_
  rintro e w1 ⟨v, rfl, hv, hf, hb2⟩
  rw [hval] at hv
  go_wp2
  go_ret
  exact ⟨_, rfl, hv, hf.mono hb.size, below_trans hb hb2⟩

theorem val_take_getD (xs : List Nat) (i : Nat) : val (xs.take (i + 1)) = val (xs.take i) + 4294967296 ^ i * xs.getD i 0 := by
  by_cases hi : i < xs.length
  · exact val_take_succ xs i hi
  · rw [val_take_of_le xs i (by omega), show xs.getD i 0 = 0 by simp [List.getD, show xs.length ≤ i by omega]]
    omega

theorem radd_step (p o c m n x y d q : Nat) (h : o + c * p = m + n) (hd : 4294967296 * q + d = x + y + c) : o + p * d + q * (p * 4294967296) = m + p * x + (n + p * y) := by
  grind

set_option maxRecDepth 100000 in
theorem radd_raw (ad1 ad2 : Option Addr) (c1 c2 : Nat) (xs zs : List Nat) (w : World) (hx : Sl w ad1 c1 xs) (hz : Sl w ad2 c2 zs) (b1 : xs.length ≤ 400000000) (b2 : zs.length ≤ 400000000) :
    Calls Tryd.prog 111 #[.slice ad1 xs.length c1, .slice ad2 zs.length c2] w (RetNum w (val xs + val zs)) := by
  have hmade := own_made w
  have hb0 := below_alloc w (.cells #[] 102)
  go_enter Tryd.func111, Tryd.ntmps111
  go_wp2_with fail
  go_loopw [5, 6, 7] (fun ov cv iv wr => ∃ (i c : Nat) (out : List Nat), i ≤ xs.length + zs.length ∧ iv = .int .i64 i ∧ cv = .int .u64 c ∧ c ≤ 1 ∧ out.length = i ∧ Own w.heap.size wr ov out ∧ Below w.heap.size w wr ∧
      val out + c * 4294967296 ^ i = val (xs.take i) + val (zs.take i)) (fun _ _ iv _ => xs.length + zs.length - (intOf iv).toNat)
  case atStart => exact ⟨0, 0, [], Nat.zero_le _, rfl, rfl, by omega, rfl, hmade, hb0, by simp [val]⟩
  case round =>
    obtain ⟨i, c, out, hi, rfl, rfl, hc, hlo, hown, hbel, hval⟩ := hrel
    have Hval := Lib.hid hval
    have Hlo := Lib.hid hlo
    clear hval hlo
    by_cases hlt : i < xs.length ∨ i < zs.length
    · have hxw := hx.mono (Nat.le_refl _) hbel
      have hzw := hz.mono (Nat.le_refl _) hbel
      have hx1 := hx.lt i
      have hz1 := hz.lt i
      have hi2 : i < xs.length + zs.length := by omega
      have Ex := Lib.hid (val_take_getD xs i)
      have Ez := Lib.hid (val_take_getD zs i)
      have ways : (i < xs.length) ∨ (¬ i < xs.length ∧ i < zs.length) := by omega
      have ca1 := at_calls ad1 c1 xs i _ wr hxw rfl
      have ca2 := at_calls ad2 c2 zs i _ wr hzw rfl
      obtain ⟨x, ex⟩ : ∃ x, xs.getD i 0 = x := ⟨_, rfl⟩
      obtain ⟨y, ey⟩ : ∃ x, zs.getD i 0 = x := ⟨_, rfl⟩
      rw [ex] at hx1 ca1
      rw [ey] at hz1 ca2
      have Ex2 := Lib.hid ex
      have Ey2 := Lib.hid ey
      clear ex ey hlt
      have hd : ((x : Int) + (y : Int) + (c : Int)) % 4294967296 = (((x + y + c) % 4294967296 : Nat) : Int) := by omega
      have hd2 : (x + y + c) % 4294967296 < 4294967296 := Nat.mod_lt _ (by omega)
      have hq : ((x : Int) + (y : Int) + (c : Int)) / 4294967296 = (((x + y + c) / 4294967296 : Nat) : Int) := by omega
      have hq2 : (x + y + c) / 4294967296 ≤ 1 := by omega
      have hdm := Nat.div_add_mod (x + y + c) 4294967296
      generalize (x + y + c) / 4294967296 = q at *
      generalize (x + y + c) % 4294967296 = d at *
      have Hdm := Lib.hid hdm
      clear hdm
      have hown2 := hown.mono (below_alloc wr (.cells #[Value.int .u32 (d : Int)] 102))
      have hsl2 := sl_one wr d d rfl hd2 102
      have hbel2 := below_trans hbel (below_alloc wr (.cells #[Value.int .u32 (d : Int)] 102))
      rcases ways with hw1 | ⟨hw1, hw2⟩
      all_goals
        go_wp2_with fail
        refine ca1.mono ?_
        rintro e w' ⟨rfl, rfl⟩
        go_wp2_with fail
        refine ca2.mono ?_
        rintro e w' ⟨rfl, rfl⟩
        go_wp2_with (at_builtin; refine wpList_append_lims rfl (.tmp 31) (.tmp 35) _ rfl Tryd.underlying56 info32 w.heap.size _ _ rfl hown2 hbel2.size _ 1 _ _ rfl rfl hsl2 (by rw [Hlo.out]; simp; omega) ?_; intro v3 w3 hown3 hb3)
        go_roundw
        case rel =>
          refine ⟨i + 1, q, out ++ [d], by omega, by go_num, congrArg (Value.int .u64) hq, hq2, by simp [Hlo.out], hown3, hbel2.trans hb3, ?_⟩
          rw [Ex.out, Ez.out, Ex2.out, Ey2.out, val_snoc, Hlo.out, Nat.pow_succ]
          exact radd_step _ _ _ _ _ _ _ _ _ Hval.out Hdm.out
        case measure => simp [intOf]; omega
    · have hv : val out + c * 4294967296 ^ i = val xs + val zs := by
        have := Hval.out
        rw [List.take_of_length_le (by omega), List.take_of_length_le (by omega)] at this
        exact this
      have Hv := Lib.hid hv
      have hw1 : ¬ i < xs.length := by omega
      have hw2 : ¬ i < zs.length := by omega
      clear hv hlt
      have hown2 := hown.mono (below_alloc wr (.cells #[Value.int .u32 (c : Int)] 102))
      have hsl2 := sl_one wr c c rfl (by omega) 102
      have hbel2 := below_trans hbel (below_alloc wr (.cells #[Value.int .u32 (c : Int)] 102))
      go_wp2_with (at_builtin; refine wpList_append_lims rfl (.tmp 39) (.tmp 42) _ rfl Tryd.underlying56 info32 w.heap.size _ _ rfl hown2 hbel2.size _ 1 _ _ rfl rfl hsl2 (by rw [Hlo.out]; simp; omega) ?_; intro v3 w3 hown3 hb3)
      obtain ⟨ad', c', rfl, hs', hf'⟩ := hown3.sl
      refine (rtrim_calls _ _ _ _ _ hs' rfl (by simp [Hlo.out]; omega)).mono ?_
      rintro e w4 ⟨v4, rfl, hv4, hf4, hb4⟩
      have hvv : val (out ++ [c]) = val xs + val zs := by rw [val_snoc, Hlo.out, ← Hv.out, Nat.mul_comm]
      rw [hvv] at hv4
      go_wp2
      go_ret
      have hb3' := hbel2.trans hb3
      exact ⟨_, rfl, hv4, hf4.mono hb3'.size, below_trans hb3' hb4⟩

theorem radd_calls (v1 v2 : Value) (m n : Nat) (w : World) (h1 : Num w v1 m) (h2 : Num w v2 n) (b1 : (limbs m).length ≤ 400000000) (b2 : (limbs n).length ≤ 400000000) :
    Calls Tryd.prog 111 #[v1, v2] w (RetNum w (m + n)) := by
  obtain ⟨ad1, c1, rfl, s1⟩ := h1
  obtain ⟨ad2, c2, rfl, s2⟩ := h2
  have := radd_raw ad1 ad2 c1 c2 _ _ w s1 s2 b1 b2
  rwa [val_limbs, val_limbs] at this

theorem rsub_step (p o m n b x y d q : Nat) (h : o + n = m + b * p) (hd : 4294967296 * q + d + y + b = 4294967296 + x) (hq : q ≤ 1) : o + p * d + (n + p * y) = m + p * x + (1 - q) * (p * 4294967296) := by
  obtain ⟨t, ht⟩ : ∃ t, t + q = 1 := ⟨1 - q, by omega⟩
  rw [show 1 - q = t by omega]
  have e : d + y + b = x + 4294967296 * t := by omega
  have e2 : p * (d + y + b) = p * (x + 4294967296 * t) := by rw [e]
  grind

set_option maxRecDepth 100000 in
theorem rsub_raw (ad1 ad2 : Option Addr) (c1 c2 : Nat) (xs zs : List Nat) (w : World) (hx : Sl w ad1 c1 xs) (hz : Sl w ad2 c2 zs) (b1 : xs.length ≤ 400000000) (b2 : zs.length ≤ xs.length) (hle : val zs ≤ val xs) :
    Calls Tryd.prog 114 #[.slice ad1 xs.length c1, .slice ad2 zs.length c2] w (RetNum w (val xs - val zs)) := by
  have hmade := own_made w
  have hb0 := below_alloc w (.cells #[] 102)
  go_enter Tryd.func114, Tryd.ntmps114
  go_wp2_with fail
  go_loopw [5, 6, 7] (fun ov cv iv wr => ∃ (i c : Nat) (out : List Nat), i ≤ xs.length ∧ iv = .int .i64 i ∧ cv = .int .u64 c ∧ c ≤ 1 ∧ out.length = i ∧ Own w.heap.size wr ov out ∧ Below w.heap.size w wr ∧
      val out + val (zs.take i) = val (xs.take i) + c * 4294967296 ^ i) (fun _ _ iv _ => xs.length - (intOf iv).toNat)
  case atStart => exact ⟨0, 0, [], Nat.zero_le _, rfl, rfl, by omega, rfl, hmade, hb0, by simp [val]⟩
  case round =>
    obtain ⟨i, c, out, hi, rfl, rfl, hc, hlo, hown, hbel, hval⟩ := hrel
    have Hval := Lib.hid hval
    have Hlo := Lib.hid hlo
    clear hval hlo
    by_cases hlt : i < xs.length
    · have hxw := hx.mono (Nat.le_refl _) hbel
      have hzw := hz.mono (Nat.le_refl _) hbel
      have hx1 := hx.lt i
      have hz1 := hz.lt i
      have Ex := Lib.hid (val_take_getD xs i)
      have Ez := Lib.hid (val_take_getD zs i)
      have ca1 := at_calls ad1 c1 xs i _ wr hxw rfl
      have ca2 := at_calls ad2 c2 zs i _ wr hzw rfl
      obtain ⟨x, ex⟩ : ∃ x, xs.getD i 0 = x := ⟨_, rfl⟩
      obtain ⟨y, ey⟩ : ∃ x, zs.getD i 0 = x := ⟨_, rfl⟩
      rw [ex] at hx1 ca1
      rw [ey] at hz1 ca2
      have Ex2 := Lib.hid ex
      have Ey2 := Lib.hid ey
      clear ex ey
      have hd : (4294967296 + (x : Int) - (y : Int) - (c : Int)) % 4294967296 = (((4294967296 + x - y - c) % 4294967296 : Nat) : Int) := by omega
      have hd2 : (4294967296 + x - y - c) % 4294967296 < 4294967296 := Nat.mod_lt _ (by omega)
      have hq : (4294967296 + (x : Int) - (y : Int) - (c : Int)) / 4294967296 = (((4294967296 + x - y - c) / 4294967296 : Nat) : Int) := by omega
      have hq2 : (4294967296 + x - y - c) / 4294967296 ≤ 1 := by omega
      have hdm := Nat.div_add_mod (4294967296 + x - y - c) 4294967296
      have hsum : 4294967296 + x - y - c + y + c = 4294967296 + x := by omega
      generalize (4294967296 + x - y - c) / 4294967296 = q at *
      generalize (4294967296 + x - y - c) % 4294967296 = d at *
      have hq3 : (1 : Int) - (q : Int) = ((1 - q : Nat) : Int) := by omega
      have hdm2 : 4294967296 * q + d + y + c = 4294967296 + x := by omega
      have Hdm := Lib.hid hdm2
      clear hdm hdm2 hsum
      have hown2 := hown.mono (below_alloc wr (.cells #[Value.int .u32 (d : Int)] 102))
      have hsl2 := sl_one wr d d rfl hd2 102
      have hbel2 := below_trans hbel (below_alloc wr (.cells #[Value.int .u32 (d : Int)] 102))
      go_wp2_with fail
      refine ca1.mono ?_
      rintro e w' ⟨rfl, rfl⟩
      go_wp2_with fail
      refine ca2.mono ?_
      rintro e w' ⟨rfl, rfl⟩
      go_wp2_with (at_builtin; refine wpList_append_lims rfl (.tmp 26) (.tmp 30) _ rfl Tryd.underlying56 info32 w.heap.size _ _ rfl hown2 hbel2.size _ 1 _ _ rfl rfl hsl2 (by rw [Hlo.out]; simp; omega) ?_; intro v3 w3 hown3 hb3)
      go_roundw
      case rel =>
        refine ⟨i + 1, 1 - q, out ++ [d], by omega, by go_num, congrArg (Value.int .u64) (by omega), by omega, by simp [Hlo.out], hown3, hbel2.trans hb3, ?_⟩
        rw [Ex.out, Ez.out, Ex2.out, Ey2.out, val_snoc, Hlo.out, Nat.pow_succ]
        exact rsub_step _ _ _ _ _ _ _ _ _ Hval.out Hdm.out hq2
      case measure => simp [intOf]; omega
    · obtain rfl : i = xs.length := by omega
      have hv : val out = val xs - val zs := by
        have h := Hval.out
        rw [List.take_of_length_le (Nat.le_refl _), List.take_of_length_le b2] at h
        have hlt := val_lt out hown.2
        rw [Hlo.out] at hlt
        have hc0 : c = 0 := by
          by_cases h0 : c = 0
          · exact h0
          · obtain rfl : c = 1 := by omega
            omega
        subst hc0
        omega
      have Hv := Lib.hid hv
      clear hv
      obtain ⟨ad', c', rfl, hs', hf'⟩ := hown.sl
      rw [Hlo.out]
      go_wp2_with fail
      refine (rtrim_calls _ _ _ _ _ hs' Hlo.out.symm (by rw [Hlo.out]; omega)).mono ?_
      rintro e w4 ⟨v4, rfl, hv4, hf4, hb4⟩
      rw [Hv.out] at hv4
      go_wp2
      go_ret
      exact ⟨_, rfl, hv4, hf4.mono hbel.size, below_trans hbel hb4⟩

theorem rsub_calls (v1 v2 : Value) (m n : Nat) (w : World) (h1 : Num w v1 m) (h2 : Num w v2 n) (hle : n ≤ m) (b1 : (limbs m).length ≤ 400000000) :
    Calls Tryd.prog 114 #[v1, v2] w (RetNum w (m - n)) := by
  obtain ⟨ad1, c1, rfl, s1⟩ := h1
  obtain ⟨ad2, c2, rfl, s2⟩ := h2
  have := rsub_raw ad1 ad2 c1 c2 _ _ w s1 s2 b1 (limbs_length_mono hle) (by rw [val_limbs, val_limbs]; exact hle)
  rwa [val_limbs, val_limbs] at this

end Go.Proofs
