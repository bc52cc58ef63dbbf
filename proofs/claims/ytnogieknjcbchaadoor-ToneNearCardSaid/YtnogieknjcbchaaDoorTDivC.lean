/- tone: hidden.with, hidden.sign, often. -/
import Derived.Test.YtnogieknjcbchaaDoorTone11
import Derived.Test.YtnogieknjcbchaaDoorTDivS
open Go.RowKit Go.Deep
namespace Go.Proofs
set_option linter.unusedVariables false
set_option linter.unusedSimpArgs false

theorem Vals.set3 {w : World} {b : Nat} {v0 v1 v2 : Value} (h : Vals w b [v0, v1, v2]) (x y z : Value) : Vals (((w.setCell ⟨b, 0, none⟩ x).setCell ⟨b, 1, none⟩ y).setCell ⟨b, 2, none⟩ z) b [x, y, z] := ((h.set 0 x).set 1 y).set 2 z
theorem below_set3 {B b : Nat} {a w : World} (h : Below B a w) (hb : B ≤ b) (x y z : Value) : Below B a (((w.setCell ⟨b, 0, none⟩ x).setCell ⟨b, 1, none⟩ y).setCell ⟨b, 2, none⟩ z) :=
  ((h.setCell (p := ⟨b, 0, none⟩) hb x).setCell (p := ⟨b, 1, none⟩) hb y).setCell (p := ⟨b, 2, none⟩) hb z

theorem wrap_with {x n a z : Int} (hx : x.natAbs ≤ 1000000) (hn : n.natAbs ≤ 8192) (ha : a.natAbs ≤ 1000000) (hz : x * n + a = z) : wrap64 (wrap64 (x * n) + a) = z := by
  have h := Nat.mul_le_mul hx hn
  rw [← Int.natAbs_mul] at h
  rw [wrap64_small (x := x * n) (by omega), wrap64_small (by omega)]
  exact hz

/-- a hidden number's values -/
def hv3 (u : H3) : List Value := [.int .i64 u.x, .int .i64 u.y, .int .i64 u.z]

set_option maxRecDepth 100000 in
set_option maxHeartbeats 2000000 in
theorem hwith_calls (a b c n d e f x y z : Int) (w : World) (hx : wrap64 (wrap64 (a * n) + d) = x) (hy : wrap64 (wrap64 (b * n) + e) = y) (hz : wrap64 (wrap64 (c * n) + f) = z) :
    Calls Tryd.prog 41 #[.agg #[.int .i64 a, .int .i64 b, .int .i64 c], .int .i64 n, .agg #[.int .i64 d, .int .i64 e, .int .i64 f]] w fun e w' => e = .returned (.agg #[.int .i64 x, .int .i64 y, .int .i64 z]) ∧ Below w.heap.size w w' := by
  have HX := Lib.hid hx
  have HY := Lib.hid hy
  have HZ := Lib.hid hz
  clear hx hy hz
  have sz0 := World.size_alloc w (.cells #[.int .i64 a, .int .i64 b, .int .i64 c] 75)
  have sz := World.size_alloc (w.alloc (.cells #[.int .i64 a, .int .i64 b, .int .i64 c] 75)) (.cells #[.int .i64 d, .int .i64 e, .int .i64 f] 75)
  rw [sz0] at sz
  have B := below_trans (below_alloc w (.cells #[.int .i64 a, .int .i64 b, .int .i64 c] 75)) (below_alloc (w.alloc (.cells #[.int .i64 a, .int .i64 b, .int .i64 c] 75)) (.cells #[.int .i64 d, .int .i64 e, .int .i64 f] 75))
  have SZ := Lib.hid sz
  clear sz sz0
  go_enter Tryd.func41, Tryd.ntmps41
  go_wp2
  generalize (w.alloc (.cells #[.int .i64 a, .int .i64 b, .int .i64 c] 75)).alloc (.cells #[.int .i64 d, .int .i64 e, .int .i64 f] 75) = w0 at *
  rw [HX.out, HY.out, HZ.out]
  have vr := Vals.newL w0 (w.heap.size + 1 + 1) [.int .i64 x, .int .i64 y, .int .i64 z] 75 SZ.out.symm
  have bb := below_alloc w0 (.cells #[.int .i64 x, .int .i64 y, .int .i64 z] 75)
  obtain ⟨te, hg⟩ := vr
  refine bodyPost_ret_by (results_cell_row rfl _ _ (w.heap.size + 1 + 1) te _ (0, 0) _ rfl hg Tryd.underlying75 rfl (by kernel_rfl)) rfl ?_
  exact ⟨rfl, below_trans B bb⟩

set_option maxRecDepth 100000 in
theorem hsign_calls (a b c r : Int) (w : World) (ha : a.natAbs ≤ 1200000) (hb : b.natAbs ≤ 1200000) (hc : c.natAbs ≤ 1200000) (hr : sg ⟨a, b, c⟩ = r) :
    Calls Tryd.prog 42 #[.agg #[.int .i64 a, .int .i64 b, .int .i64 c]] w fun e w' => e = .returned (.int .i64 r) ∧ Below w.heap.size w w' := by
  have R := fun w : World => ratio_calls a b c w (by omega) (by omega) (by omega)
  have l1 := over_len ha hb hc
  have l2 := under_len ha hb hc
  have C := fun (v1 v2 : Value) (w : World) (h1 : Num w v1 (overN a b c)) (h2 : Num w v2 (underN a b c)) => cmp_ok v1 v2 _ _ w h1 h2 ⟨by omega, by omega⟩
  change ∀ (v1 v2 : Value) (w : World) (h1 : Num w v1 _) (h2 : Num w v2 _), Calls _ _ _ w fun e w' => e = .returned (.tuple #[.int .i64 (sg ⟨a, b, c⟩), _]) ∧ _ at C
  rw [hr] at C
  generalize overN a b c = O at *
  generalize underN a b c = U at *
  have HR := Lib.hid R
  have HC := Lib.hid C
  clear R C l1 l2 ha hb hc hr
  have vs := Vals.newL w (w.heap.size) [.int .i64 a, .int .i64 b, .int .i64 c] 75 rfl
  have bb := below_alloc w (.cells #[.int .i64 a, .int .i64 b, .int .i64 c] 75)
  have B := bb
  clear bb
  go_enter Tryd.func42, Tryd.ntmps42
  go_wp2_with fail
  generalize (w.alloc (.cells #[.int .i64 a, .int .i64 b, .int .i64 c] 75)) = w0 at *
  have cvs0 := vs.cell (i := 0) (by simp)
  have cvs1 := vs.cell (i := 1) (by simp)
  have cvs2 := vs.cell (i := 2) (by simp)
  simp only [List.getD_cons_zero, List.getD_cons_succ] at cvs0 cvs1 cvs2
  have ltvs := vs.lt
  try go_wp2_with fail
  clear cvs0 cvs1 cvs2 ltvs
  refine (HR.out _).mono ?_
  rintro e w1 ⟨v1, v2, rfl, h5, h6, b1⟩
  replace vs := vs.mono b1
  replace B := below_trans B b1
  clear b1
  go_wp2_with fail
  refine (HC.out _ _ _ h5 h6).mono ?_
  rintro e w2 ⟨rfl, b2⟩
  replace vs := vs.mono b2
  replace h5 := h5.mono b2
  replace h6 := h6.mono b2
  replace B := below_trans B b2
  clear b2
  go_wp2
  go_ret
  exact ⟨rfl, B⟩

set_option maxRecDepth 100000 in
theorem often_calls (a b c d e f : Int) (lim k : Nat) (w : World) (hu : a.natAbs ≤ 1000000 ∧ b.natAbs ≤ 1000000 ∧ c.natAbs ≤ 1000000) (hv : d.natAbs ≤ 1000000 ∧ e.natAbs ≤ 1000000 ∧ f.natAbs ≤ 1000000)
    (hl : lim ≤ 7680) (hc : k ≤ lim) (hb : ∀ i : Nat, i ≤ lim → (d * -(i : Int) + a).natAbs ≤ 1200000 ∧ (e * -(i : Int) + b).natAbs ≤ 1200000 ∧ (f * -(i : Int) + c).natAbs ≤ 1200000)
    (hP : ∀ i : Nat, i ≤ lim → (0 ≤ sg ⟨d * -(i : Int) + a, e * -(i : Int) + b, f * -(i : Int) + c⟩ ↔ i ≤ k)) :
    Calls Tryd.prog 40 #[.agg #[.int .i64 a, .int .i64 b, .int .i64 c], .agg #[.int .i64 d, .int .i64 e, .int .i64 f], .int .i64 (lim : Int)] w fun e w' => e = .returned (.int .i64 (k : Int)) ∧ Below w.heap.size w w' := by
  have LN := fun w : World => Tryd.bits_Len ((lim : Nat) : Int) w (by omega) (by omega)
  have hL : Lib.bitLen (((lim : Nat) : Int)).toNat = bitlen lim := by
    rw [Int.toNat_natCast]
    exact lib_bitlen _ (by omega)
  simp only [hL] at LN
  have hlt : lim < 2 ^ bitlen lim := bitlen_lt
  have hb13 : bitlen lim ≤ 13 := bitlen_of_lt (by omega)
  have hp13 : 2 ^ bitlen lim ≤ 8192 := Nat.le_trans (Nat.pow_le_pow_right (by omega) hb13) (by decide)
  have hst := steps_first k (bitlen lim) (by omega)
  have HST := Lib.hid hst
  have HP := Lib.hid hP
  have HB := Lib.hid hb
  have HLN := Lib.hid LN
  generalize bitlen lim = bl at *
  have hb64 : bl < 64 := by omega
  have pw : wrap64 ((2 : Int) ^ bl) = ((2 ^ bl : Nat) : Int) := by
    rw [show ((2 : Int) ^ bl) = ((2 ^ bl : Nat) : Int) by simp]
    exact wrap64_small (by omega)
  have HPW := Lib.hid pw
  have HHU := Lib.hid hu
  have HHV := Lib.hid hv
  clear hst hP hb LN hL hlt pw hu hv
  have vu := Vals.newL w (w.heap.size) [.int .i64 a, .int .i64 b, .int .i64 c] 75 rfl
  have bb := below_alloc w (.cells #[.int .i64 a, .int .i64 b, .int .i64 c] 75)
  have B := bb
  have sz0 := World.size_alloc w (.cells #[.int .i64 a, .int .i64 b, .int .i64 c] 75)
  have sz := sz0
  clear sz0
  clear bb
  have vv := Vals.newL (w.alloc (.cells #[.int .i64 a, .int .i64 b, .int .i64 c] 75)) (w.heap.size + 1) [.int .i64 d, .int .i64 e, .int .i64 f] 75 sz.symm
  have bb := below_alloc (w.alloc (.cells #[.int .i64 a, .int .i64 b, .int .i64 c] 75)) (.cells #[.int .i64 d, .int .i64 e, .int .i64 f] 75)
  replace vu := vu.mono bb
  replace B := below_trans B bb
  clear sz
  clear bb
  go_enter Tryd.func40, Tryd.ntmps40
  go_wp2_with fail
  generalize ((w.alloc (.cells #[.int .i64 a, .int .i64 b, .int .i64 c] 75)).alloc (.cells #[.int .i64 d, .int .i64 e, .int .i64 f] 75)) = w0 at *
  go_wp2_with fail
  refine (HLN.out _).mono ?_
  rintro e wx ⟨rfl, rfl⟩
  go_wp2
  go_loopw [7, 8] (fun nv tv wr => ∃ n t : Nat, nv = .int .i64 (n : Int) ∧ tv = .int .i64 (t : Int) ∧ Steps k n t ∧ t ≤ 8192 ∧ Below w.heap.size w wr ∧ Vals wr w.heap.size [.int .i64 a, .int .i64 b, .int .i64 c] ∧ Vals wr (w.heap.size + 1) [.int .i64 d, .int .i64 e, .int .i64 f])
    (fun _ tv _ => (intOf tv).toNat)
  case atStart => exact ⟨0, 2 ^ bl, rfl, by rw [HPW.out], HST.out, hp13, B, vu, vv⟩
  case round =>
    obtain ⟨n, t, rfl, rfl, hst, ht8, hbel, vu, vv⟩ := hrel
    have hnc := steps_le hst
    have HS := Lib.hid hst
    clear hst
    by_cases h0 : 0 < t
    · have hK : n + t ≤ lim ∨ ¬ n + t ≤ lim := by omega
      rcases hK with hK | hK
      · skip
        obtain ⟨b1, b2, b3⟩ := HB.out (n + t) hK
        have hp := HP.out (n + t) hK
        have W0 := Lib.hid (show -((n : Int) + (t : Int)) = -((n + t : Nat) : Int) by omega)
        have HWW := Lib.hid (fun w : World => hwith_calls d e f (-((n + t : Nat) : Int)) a b c _ _ _ w (wrap_with HHV.out.1 (by omega) HHU.out.1 rfl) (wrap_with HHV.out.2.1 (by omega) HHU.out.2.1 rfl) (wrap_with HHV.out.2.2 (by omega) HHU.out.2.2 rfl))
        have hv := sg_cases ⟨d * -((n + t : Nat) : Int) + a, e * -((n + t : Nat) : Int) + b, f * -((n + t : Nat) : Int) + c⟩
        have HSG := fun w : World => hsign_calls _ _ _ _ w b1 b2 b3 rfl
        generalize sg ⟨d * -((n + t : Nat) : Int) + a, e * -((n + t : Nat) : Int) + b, f * -((n + t : Nat) : Int) + c⟩ = v at *
        clear b1 b2 b3
        generalize d * -((n + t : Nat) : Int) + a = X at *
        generalize e * -((n + t : Nat) : Int) + b = Y at *
        generalize f * -((n + t : Nat) : Int) + c = Z at *
        generalize -((n + t : Nat) : Int) = K at *
        have hk' : (n : Int) + (t : Int) ≤ (lim : Int) := by omega
        rcases hv with hv | hv | hv
        · subst hv
          have hpp : ¬ n + t ≤ k := by omega
          have HSS := Lib.hid HSG
          clear HSG hp
          have cu0 := vu.cell (i := 0) (by simp)
          have cu1 := vu.cell (i := 1) (by simp)
          have cu2 := vu.cell (i := 2) (by simp)
          have cv0 := vv.cell (i := 0) (by simp)
          have cv1 := vv.cell (i := 1) (by simp)
          have cv2 := vv.cell (i := 2) (by simp)
          simp only [List.getD_cons_zero, List.getD_cons_succ] at cu0 cu1 cu2 cv0 cv1 cv2
          go_wp2_with fail
          clear cu0 cu1 cu2 cv0 cv1 cv2
          rw [W0.out]
          refine (HWW.out _).mono ?_
          rintro e w3 ⟨rfl, b3⟩
          replace vu := vu.mono b3
          replace vv := vv.mono b3
          replace hbel := below_trans hbel b3
          clear b3
          go_wp2_with fail
          refine (HSS.out _).mono ?_
          rintro e w4 ⟨rfl, b4⟩
          replace vu := vu.mono b4
          replace vv := vv.mono b4
          replace hbel := below_trans hbel b4
          clear b4
          go_wp2
          go_roundw
          case rel => exact ⟨n, t / 2, rfl, rfl, steps_pass HS.out h0 hpp, by omega, hbel, vu, vv⟩
          case measure => simp [intOf]; omega
        · subst hv
          have hpp : n + t ≤ k := by omega
          have HSS := Lib.hid HSG
          clear HSG hp
          have cu0 := vu.cell (i := 0) (by simp)
          have cu1 := vu.cell (i := 1) (by simp)
          have cu2 := vu.cell (i := 2) (by simp)
          have cv0 := vv.cell (i := 0) (by simp)
          have cv1 := vv.cell (i := 1) (by simp)
          have cv2 := vv.cell (i := 2) (by simp)
          simp only [List.getD_cons_zero, List.getD_cons_succ] at cu0 cu1 cu2 cv0 cv1 cv2
          go_wp2_with fail
          clear cu0 cu1 cu2 cv0 cv1 cv2
          rw [W0.out]
          refine (HWW.out _).mono ?_
          rintro e w3 ⟨rfl, b3⟩
          replace vu := vu.mono b3
          replace vv := vv.mono b3
          replace hbel := below_trans hbel b3
          clear b3
          go_wp2_with fail
          refine (HSS.out _).mono ?_
          rintro e w4 ⟨rfl, b4⟩
          replace vu := vu.mono b4
          replace vv := vv.mono b4
          replace hbel := below_trans hbel b4
          clear b4
          go_wp2
          go_roundw
          case rel => exact ⟨n + t, t / 2, by go_num, rfl, steps_take HS.out h0 hpp, by omega, hbel, vu, vv⟩
          case measure => simp [intOf]; omega
        · subst hv
          have hpp : n + t ≤ k := by omega
          have HSS := Lib.hid HSG
          clear HSG hp
          have cu0 := vu.cell (i := 0) (by simp)
          have cu1 := vu.cell (i := 1) (by simp)
          have cu2 := vu.cell (i := 2) (by simp)
          have cv0 := vv.cell (i := 0) (by simp)
          have cv1 := vv.cell (i := 1) (by simp)
          have cv2 := vv.cell (i := 2) (by simp)
          simp only [List.getD_cons_zero, List.getD_cons_succ] at cu0 cu1 cu2 cv0 cv1 cv2
          go_wp2_with fail
          clear cu0 cu1 cu2 cv0 cv1 cv2
          rw [W0.out]
          refine (HWW.out _).mono ?_
          rintro e w3 ⟨rfl, b3⟩
          replace vu := vu.mono b3
          replace vv := vv.mono b3
          replace hbel := below_trans hbel b3
          clear b3
          go_wp2_with fail
          refine (HSS.out _).mono ?_
          rintro e w4 ⟨rfl, b4⟩
          replace vu := vu.mono b4
          replace vv := vv.mono b4
          replace hbel := below_trans hbel b4
          clear b4
          go_wp2
          go_roundw
          case rel => exact ⟨n + t, t / 2, by go_num, rfl, steps_take HS.out h0 hpp, by omega, hbel, vu, vv⟩
          case measure => simp [intOf]; omega
      · have hk' : ¬ ((n : Int) + (t : Int) ≤ (lim : Int)) := by omega
        go_wp2
        go_roundw
        case rel => exact ⟨n, t / 2, rfl, rfl, steps_pass HS.out h0 (by omega), by omega, hbel, vu, vv⟩
        case measure => simp [intOf]; omega
    · obtain rfl : t = 0 := by omega
      obtain rfl := steps_end HS.out
      clear HS
      go_wp2
      go_ret
      exact ⟨rfl, hbel⟩

end Go.Proofs
