/- The walk of the law WireSum: whatever comes in, it returns true and changes nothing that was there. -/
import Derived.Test.YtfbfamfgdodncaaSum
import Derived.Test.YtfbfamfgdodncaaFold
open Go.RowKit Go.Deep
namespace Go.Proofs
set_option linter.unusedVariables false

theorem map_getD (ys : List Int) (f : Int → Int) {i : Nat} (h : i < ys.length) : (ys.map f).getD i 0 = f (ys.getD i 0) := by
  simp [List.getD, h]
theorem getD_mem_bound {ys : List Int} (h : ∀ z ∈ ys, -9223372036854775808 ≤ z ∧ z < 9223372036854775808) {i : Nat} (hi : i < ys.length) : -9223372036854775808 ≤ ys.getD i 0 ∧ ys.getD i 0 < 9223372036854775808 := by
  have : ys.getD i 0 = ys[i] := by simp [List.getD, hi]
  rw [this]
  exact h _ (List.getElem_mem hi)

set_option maxRecDepth 100000 in
theorem walk_sum (v : Value) (x : Int) (zs : List Int) (w : World) (hv : InZ w v zs) (hzb : ∀ z ∈ zs, -9223372036854775808 ≤ z ∧ z < 9223372036854775808) (hx : -9223372036854775808 ≤ x ∧ x < 9223372036854775808) :
    Calls Try.prog 8 #[v, .int .i64 x] w (RetTrue w) := by
  have CUT := cutz_calls v zs 14 14 w hv rfl (by omega)
  have hyb : ∀ z ∈ zs.take 14, -9223372036854775808 ≤ z ∧ z < 9223372036854775808 := fun z hz => hzb z (List.mem_of_mem_take hz)
  have hl : (zs.take 14).length ≤ 14 := by rw [List.length_take]; omega
  obtain ⟨ys, ey⟩ : ∃ ys, zs.take 14 = ys := ⟨_, rfl⟩
  rw [ey] at CUT hyb hl
  obtain ⟨ad, cp, rfl, _⟩ := hv
  obtain ⟨n, hn⟩ : ∃ n, n = ys.length := ⟨_, rfl⟩
  obtain ⟨C, eC, c1, c2⟩ := foldZ_some x 100000 (by omega) 100000 rfl
  have hx0 := hx.1
  have hx1 := hx.2
  have hfine : Fine (ys.map fun z => foldZ z C) C n := by
    refine ⟨by omega, by omega, by omega, fun i hi => ?_⟩
    rw [map_getD ys _ (by omega)]
    obtain ⟨d, ed, d1, d2⟩ := foldZ_some (ys.getD i 0) C (by omega) C rfl
    rw [ed]
    omega
  have hfl : n = (ys.map fun z => foldZ z C).length := by simp [hn]
  have hcode : codeZ (ys.map fun z => foldZ z C) C = 0 := codeZ_of (by rw [← hfl]; exact hfine)
  have hge := best_enough hfine
  have hle := bestTo_le hfine n
  have hb0 := bestTo_bounds hfine n
  have HF := Lib.hid (fun (g c : Nat) (w : World) (h : CellZ w g (ys.map fun z => foldZ z C)) => wfloor_ok g c n _ C w hfl h hcode)
  have hstep : ∀ i, i < n → ∃ p : Int, foldZ (ys.getD i 0) C = p ∧ 1 ≤ p ∧ p ≤ 100000 ∧ sumTo (ys.map fun z => foldZ z C) (i + 1) = sumTo (ys.map fun z => foldZ z C) i + p := by
    intro i hi
    obtain ⟨d, ed, d1, d2⟩ := foldZ_some (ys.getD i 0) C (by omega) C rfl
    refine ⟨_, rfl, by omega, by omega, ?_⟩
    rw [sumTo, map_getD ys _ (by omega)]
  have HS := Lib.hid hstep
  have HY := Lib.hid hyb
  have HN := Lib.hid hn
  have hn14 : n ≤ 14 := by omega
  have HG := Lib.hid (And.intro hge (And.intro hle hb0))
  clear hstep hyb hge hle hb0 hcode hfl hfine hx hzb hl ey hn
  go_enter Try.func8, Try.ntmps8
  go_wp2_with fail
  refine CUT.mono ?_
  clear CUT
  rintro e w1 ⟨g, c, rfl, hg, hgc, hgm, hz, b1⟩
  rw [← HN.out]
  clear hgc hgm
  go_wp2_with fail
  refine (fold_same _ _ _ (by omega) (by omega) (by assumption) (by assumption)).mono ?_
  rintro e w9 ⟨rfl, rfl⟩
  rw [eC]
  clear eC
  go_wp2
  go_loopw [6, 7] (fun sv iv wr => ∃ i : Nat, i ≤ n ∧ iv = .int .i64 i ∧ sv = .int .i64 (sumTo (ys.map fun z => foldZ z C) i) ∧ 0 ≤ sumTo (ys.map fun z => foldZ z C) i ∧ sumTo (ys.map fun z => foldZ z C) i ≤ i * 100000 ∧ CellZ wr g (mix ys (fun z => foldZ z C) i) ∧ Below w.heap.size w wr) (fun _ iv _ => n - (intOf iv).toNat)
  case atStart => exact ⟨0, by omega, rfl, rfl, by simp [sumTo], by simp [sumTo], by simpa [mix] using hz, b1⟩
  case round =>
    obtain ⟨i, hi, rfl, rfl, s1, s2, hz, hbel⟩ := hrel
    by_cases hlt : i < n
    · have hcell := hz.cell (i := i) (by rw [mix_length]; have := HN.out; omega)
      have hfr := hz.frozen i
      have hlt' : g < wr.heap.size := hz.lt
      rw [mix_at ys _ (by have := HN.out; omega)] at hcell
      obtain ⟨p, ep, p1, p2, e1⟩ := HS.out i hlt
      have hyb := getD_mem_bound HY.out (i := i) (by have := HN.out; omega)
      have hset := hz.set i p
      have hset2 := hset.cell (i := i) (by rw [List.length_set, mix_length]; have := HN.out; omega)
      have hil : i < (mix ys (fun z => foldZ z C) i).length := by rw [mix_length]; have := HN.out; omega
      rw [show ((mix ys (fun z => foldZ z C) i).set i p).getD i 0 = p from by simp [List.getD, hil]] at hset2
      clear hil
      rw [← ep, mix_set ys _ (by have := HN.out; omega)] at hset
      obtain ⟨y, ey⟩ : ∃ y, ys.getD i 0 = y := ⟨_, rfl⟩
      rw [ey] at hcell hyb ep hset
      rw [ep] at hset
      obtain ⟨y0, y1⟩ := hyb
      generalize sumTo (ys.map fun z => foldZ z C) i = s at *
      have E1 := Lib.hid e1
      have EP := Lib.hid ep
      have t1 : (i : Int) < (n : Int) := by omega
      clear e1 ey hlt
      go_wp2_with (go_at_call 16; refine (fold_same _ _ _ (by omega) (by omega) (by assumption) (by assumption)).mono ?_; rintro e w9 ⟨rfl, rfl⟩)
      go_roundw
      case rel => exact ⟨i + 1, by omega, by go_num, by rw [E1.out], by rw [E1.out]; omega, by rw [E1.out]; omega, hset, hbel.setCell (by assumption) _⟩
      case measure => simp [intOf]; omega
    · obtain rfl : i = n := by omega
      have t1 : ¬ (i : Int) < (i : Int) := by omega
      rw [HN.out, mix_all] at hz
      clear hlt
      obtain ⟨h1, h2, h3⟩ := HG.out
      have F := HF.out g c wr hz
      generalize sumTo (ys.map fun z => foldZ z C) i = s at *
      generalize bestTo (ys.map fun z => foldZ z C) C i i = best at *
      obtain ⟨M, eM⟩ : ∃ M, best * (C : Int) = M := ⟨_, rfl⟩
      rw [eM] at h1
      have hM1 : 0 ≤ M := by rw [← eM]; exact Int.mul_nonneg h3.1 (by omega)
      have hM2 : M ≤ 14 * (C : Int) := by rw [← eM]; exact Int.mul_le_mul_of_nonneg_right (by omega) (by omega)
      go_wp2_with fail
      refine F.mono ?_
      rintro e w2 ⟨rfl, b2⟩
      have bb := below_trans hbel b2
      go_wp2_with fail
      refine (lives_calls _).mono ?_
      rintro e w3 ⟨rfl, b3⟩
      have bb2 := below_trans bb b3
      go_wp2
      go_ret
      exact ⟨rfl, bb2⟩

end Go.Proofs
