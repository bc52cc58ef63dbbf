/- temper: a circle in memory; above, bounds. -/
import Derived.Test.YthkeekoljediiaaCircLaw
open Go.RowKit Go.Deep
namespace Go.Proofs
set_option linter.unusedVariables false
set_option linter.unusedSimpArgs false

/-- the cells of a circle -/
def ccl9 (R : Rg) (fv tv fs rv : Value) : List Value := [.int .i64 12, .int .i64 (R.sp : Int), .int .i64 (R.lo : Int), .int .i64 ((R.lo : Int) + 2), .int .i64 (R.tot : Int), .int .i64 (R.pu : Int), .int .i64 (R.wo : Int), fv, tv, fs, .int .i64 (cds R : Int), .int .i64 37, rv]
/-- the first steps, which can be read -/
def InF (w : World) (fs : Value) (R : Rg) (first : Nat → Nat) : Prop := ∃ g c, fs = .slice (some ⟨g, 0, none⟩) (R.sp - 1) c ∧ (g < w.heap.size ∧ R.sp - 1 ≤ c ∧ c ≤ maxLen) ∧ ∀ i, i + 1 < R.sp → w.cell? ⟨g, i, none⟩ = some (.int .i64 (first i : Int))
theorem InF.mono {w w' : World} {v R f} (h : InF w v R f) (hb : Below w.heap.size w w') : InF w' v R f := by
  obtain ⟨g, c, e, h1, h2⟩ := h
  exact ⟨g, c, e, ⟨Nat.lt_of_lt_of_le h1.1 hb.size, h1.2⟩, fun i hi => (hb.cell (p := ⟨g, i, none⟩) h1.1).trans (h2 i hi)⟩

set_option maxRecDepth 100000 in
theorem above_calls (R : Rg) (fv tv fs : Value) (first : Nat → Nat) (w : World) (hR : RgOk R) (hst : ∀ i, i + 1 < R.sp → StOk R (first i)) (hF : InF w fs R first) :
    Calls Try.prog 18 #[.agg #[.int .i64 12, .int .i64 (R.sp : Int), .int .i64 (R.lo : Int), .int .i64 ((R.lo : Int) + 2), .int .i64 (R.tot : Int), .int .i64 (R.pu : Int), .int .i64 (R.wo : Int), fv, tv], fs] w fun e w' => e = .returned (.int .i64 (sumE R first (R.sp - 1) : Int)) ∧ Below w.heap.size w w' := by
  have vr := Vals.newL w w.heap.size (rgl R fv tv) 24 rfl
  have bb := below_alloc w (.cells (rgl R fv tv).toArray 24)
  obtain ⟨g, c, rfl, ⟨hg, _⟩, hc⟩ := hF.mono bb
  have c2 := vr.cell (i := 2) (by simp [rgl])
  simp only [rgl, List.getD_cons_zero, List.getD_cons_succ] at c2
  have hlo := hR.lo
  have h3 := hR.s2
  obtain ⟨m, hm⟩ : ∃ m, R.sp - 1 = m := ⟨_, rfl⟩
  have hm2 : m ≤ 2 := by omega
  have HC := Lib.hid (show ∀ i, i < m → _ from fun i hi => hc i (by omega))
  have HS := Lib.hid (show ∀ i, i < m → StOk R (first i) from fun i hi => hst i (by omega))
  have HB := Lib.hid bb
  have C2 := Lib.hid c2
  rw [hm]
  clear hc vr bb hF hR hst h3 hm c2
  simp only [rgl] at *
  go_enter Try.func18, Try.ntmps18
  go_wp2
  generalize w.alloc (.cells #[.int .i64 12, .int .i64 (R.sp : Int), .int .i64 (R.lo : Int), .int .i64 ((R.lo : Int) + 2), .int .i64 (R.tot : Int), .int .i64 (R.pu : Int), .int .i64 (R.wo : Int), fv, tv] 24) = w0 at *
  go_loopw [5, 10] (fun sv iv wr => ∃ i : Nat, i ≤ m ∧ iv = .int .i64 (i : Int) ∧ sv = .int .i64 (sumE R first i : Int) ∧ sumE R first i ≤ 2 * i ∧ wr = w0) (fun _ iv _ => ((m : Int) - intOf iv).toNat)
  case atStart => exact ⟨0, by omega, rfl, rfl, Nat.le_refl _, rfl⟩
  case round =>
    obtain ⟨i, hi, rfl, rfl, hb, rfl⟩ := hrel
    by_cases h12 : i < m
    · have t1 : (i : Int) < (m : Int) := by omega
      have ce := HC.out i h12
      have hs := HS.out i h12
      have e1 : sumE R first (i + 1) = sumE R first i + (first i - R.lo) := rfl
      obtain ⟨S, hS⟩ : ∃ S, sumE R first i = S := ⟨_, rfl⟩
      obtain ⟨f, hf⟩ : ∃ f, first i = f := ⟨_, rfl⟩
      unfold StOk at hs
      rw [hS] at hb e1 ⊢
      rw [hf] at hs ce e1
      have q1 : IntKind.i64.wrap ((f : Int) - (R.lo : Int)) = ((f - R.lo : Nat) : Int) := by rw [IntWalk.i64_in _ (by omega)]; omega
      have q2 : IntKind.i64.wrap ((S : Int) + ((f - R.lo : Nat) : Int)) = ((S + (f - R.lo) : Nat) : Int) := by rw [IntWalk.i64_in _ (by omega)]; omega
      have C2' := C2.out
      have hb2 : S + (f - R.lo) ≤ 2 * (i + 1) := by omega
      have E1 := Lib.hid e1
      clear hS hf e1
      go_wp2
      go_roundw
      case rel => exact ⟨i + 1, by omega, by go_num, by rw [E1.out, Int.natCast_add], by rw [E1.out]; exact hb2, trivial⟩
      case measure => simp [intOf]; omega
    · obtain rfl : i = m := by omega
      go_wp2
      go_ret
      exact ⟨rfl, HB.out⟩

set_option maxRecDepth 100000 in
theorem bounds_calls (R : Rg) (fv tv fs rv : Value) (first : Nat → Nat) (cb at_ : Nat) (w : World) (hR : RgOk R) (hF : InF w fs R first) (hc : Vals w cb (ccl9 R fv tv fs rv)) (h1 : at_ < 11 + R.sp) :
    Calls Try.prog 68 #[.pointer (some ⟨cb, 0, none⟩), .int .i64 (at_ : Int)] w fun e w' => e = .returned (.tuple #[.int .i64 (lowS R first at_ : Int), .int .i64 ((lowS R first at_ : Int) + (cntS at_ : Int) - 1)]) ∧ Below w.heap.size w w' := by
  obtain ⟨g, c, rfl, ⟨hg, _⟩, hcf⟩ := hF
  have c0 := hc.cell (i := 0) (by simp [ccl9])
  have c2 := hc.cell (i := 2) (by simp [ccl9])
  have c3 := hc.cell (i := 3) (by simp [ccl9])
  have c9 := hc.cell (i := 9) (by simp [ccl9])
  simp only [ccl9, List.getD_cons_zero, List.getD_cons_succ] at c0 c2 c3 c9
  have hlt := hc.lt
  have h3 := hR.s2
  obtain ⟨m, hm⟩ : ∃ m, R.sp - 1 = m := ⟨_, rfl⟩
  rw [hm] at c9
  have hf := hcf (at_ - 12)
  clear hc hcf
  unfold lowS cntS
  by_cases h : at_ < 12
  · have t1 : (at_ : Int) < 12 := by omega
    simp only [if_pos h]
    rw [show (R.lo : Int) + ((3 : Nat) : Int) - 1 = (R.lo : Int) + 2 by omega]
    have hhd := Lib.hid (show w.drew.cell? ⟨cb, 2, none⟩ = some (.int .i64 (R.lo : Int)) ∧ w.drew.cell? ⟨cb, 3, none⟩ = some (.int .i64 ((R.lo : Int) + 2)) from ⟨c2, c3⟩)
    clear hf c9 c2 c3
    go_enter Try.func68, Try.ntmps68
    go_upto_region 2 with (fail)
    go_region_held3 (fun w' => w'.cell? ⟨cb, 2, none⟩ = some (.int .i64 (R.lo : Int)) ∧ w'.cell? ⟨cb, 3, none⟩ = some (.int .i64 ((R.lo : Int) + 2))) (exact hhd.out) (fail)
    go_wp2
    go_ret2
    exact ⟨rfl, (Below.refl _ _).drew⟩
  · have t1 : ¬ (at_ : Int) < 12 := by omega
    simp only [if_neg h]
    obtain ⟨k, hk⟩ : ∃ k, at_ - 12 = k := ⟨_, rfl⟩
    rw [hk] at hf ⊢
    replace hf := hf (by omega)
    obtain ⟨f, hff⟩ : ∃ f, first k = f := ⟨_, rfl⟩
    rw [hff] at hf ⊢
    rw [show (f : Int) + ((1 : Nat) : Int) - 1 = (f : Int) by omega]
    have q1 : IntKind.i64.wrap ((at_ : Int) - 12) = (k : Int) := by rw [IntWalk.i64_in _ (by omega)]; omega
    have t2 : (k : Int) < (m : Int) := by omega
    have hhd := Lib.hid (show w.drew.cell? ⟨cb, 9, none⟩ = some (.slice (some ⟨g, 0, none⟩) m c) ∧ w.drew.cell? ⟨cb, 0, none⟩ = some (.int .i64 12) ∧ w.drew.cell? ⟨g, k, none⟩ = some (.int .i64 (f : Int)) from ⟨c9, c0, hf⟩)
    have t0 : (0 : Int) ≤ (k : Int) := by omega
    clear hff hm c2 c3 hk
    go_enter Try.func68, Try.ntmps68
    go_upto_region 3 with (fail)
    go_region_held3 (fun w' => w'.cell? ⟨cb, 9, none⟩ = some (.slice (some ⟨g, 0, none⟩) m c) ∧ w'.cell? ⟨cb, 0, none⟩ = some (.int .i64 12) ∧ w'.cell? ⟨g, k, none⟩ = some (.int .i64 (f : Int))) (exact hhd.out) (fail)
    go_wp2
    go_ret2
    exact ⟨rfl, (Below.refl _ _).drew⟩

end Go.Proofs
