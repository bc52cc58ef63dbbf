/- temper: a ring in memory; within, weights, Check, fits, off. -/
import Derived.Test.YthkeekoljediiaaTemper1
import Derived.Deep.RegionHeld3
import Derived.Deep.Cut
open Go.RowKit Go.Deep
namespace Go.Proofs
set_option linter.unusedVariables false
set_option linter.unusedSimpArgs false

/-- a ring of twelve fifths -/
structure Rg where
  sp : Nat
  lo : Nat
  tot : Nat
  pu : Nat
  wo : Nat
  F : Nat → Int
  T : Nat → Int
structure RgOk (R : Rg) : Prop where
  sp : R.sp = 2 ∨ R.sp = 3
  lo : R.lo ≤ 1
  t1 : 8 ≤ R.tot
  t2 : R.tot ≤ 23
  pu : R.pu ≤ 15
  w1 : 4 ≤ R.wo
  w2 : R.wo ≤ 19
  F : ∀ i, i < 12 → 0 ≤ R.F i ∧ R.F i ≤ 1000
  T : ∀ i, i < 12 → 0 ≤ R.T i ∧ R.T i ≤ 6
/-- its cells -/
def rgl (R : Rg) (fv tv : Value) : List Value := [.int .i64 12, .int .i64 (R.sp : Int), .int .i64 (R.lo : Int), .int .i64 ((R.lo : Int) + 2), .int .i64 (R.tot : Int), .int .i64 (R.pu : Int), .int .i64 (R.wo : Int), fv, tv]
/-- twelve integers that can be read -/
def In12 (w : World) (v : Value) (f : Nat → Int) : Prop := ∃ g c, v = .slice (some ⟨g, 0, none⟩) 12 c ∧ g < w.heap.size ∧ ∀ i, i < 12 → w.cell? ⟨g, i, none⟩ = some (.int .i64 (f i))
theorem In12.mono {w w' : World} {v f} (h : In12 w v f) (hb : Below w.heap.size w w') : In12 w' v f := by
  obtain ⟨g, c, e, h1, h2⟩ := h
  exact ⟨g, c, e, Nat.lt_of_lt_of_le h1 hb.size, fun i hi => (hb.cell (p := ⟨g, i, none⟩) h1).trans (h2 i hi)⟩
def InRg (w : World) (fv tv : Value) (R : Rg) : Prop := In12 w fv R.F ∧ In12 w tv R.T
theorem InRg.mono {w w' : World} {fv tv R} (h : InRg w fv tv R) (hb : Below w.heap.size w w') : InRg w' fv tv R := ⟨h.1.mono hb, h.2.mono hb⟩

theorem within_no (n lo hi : Int) (w : World) (h : ¬ (lo ≤ n ∧ n ≤ hi)) : Calls Try.prog 38 #[.int .i64 n, .int .i64 lo, .int .i64 hi] w fun e w' => e = .returned (.bool false) ∧ w = w' := by
  by_cases h1 : lo ≤ n
  · have h2 : ¬ n ≤ hi := fun h2 => h ⟨h1, h2⟩
    clear h
    go_enter Try.func38, Try.ntmps38
    go_wp2
    go_ret
    exact ⟨rfl, rfl⟩
  · clear h
    go_enter Try.func38, Try.ntmps38
    go_wp2
    go_ret
    exact ⟨rfl, rfl⟩

set_option maxRecDepth 100000 in
theorem weights_calls (v : Value) (f : Nat → Int) (w : World) (hv : In12 w v f) (hf : ∀ i, i < 12 → 0 ≤ f i ∧ f i ≤ 1000) : Calls Try.prog 39 #[v, .int .i64 12] w fun e w' => e = .returned (.bool true) ∧ w = w' := by
  have HW := Lib.hid (fun (n : Int) (w : World) (h1 : 0 ≤ n) (h2 : n ≤ 1000) => within_calls n 0 1000 w h1 h2)
  obtain ⟨g, c, rfl, hg, hc⟩ := hv
  have HC := Lib.hid hc
  have HF := Lib.hid hf
  clear hc hf
  go_enter Try.func39, Try.ntmps39
  go_wp2
  go_loopw [9] (fun iv wr => ∃ i : Nat, i ≤ 12 ∧ iv = .int .i64 (i : Int) ∧ wr = w) (fun iv _ => (12 - intOf iv).toNat)
  case atStart => exact ⟨0, by omega, rfl, rfl⟩
  case round =>
    obtain ⟨i, hi, rfl, rfl⟩ := hrel
    by_cases h12 : i < 12
    · have t1 : (i : Int) < 12 := by omega
      have ce := HC.out i h12
      obtain ⟨f1, f2⟩ := HF.out i h12
      obtain ⟨z, hz⟩ : ∃ z, f i = z := ⟨_, rfl⟩
      rw [hz] at ce f1 f2
      clear hz
      go_wp2_with fail
      refine (HW.out _ _ f1 f2).mono ?_
      rintro e w' ⟨rfl, rfl⟩
      go_wp2
      go_roundw
      case rel => exact ⟨i + 1, by omega, by go_num, trivial⟩
      case measure => simp [intOf]; omega
    · obtain rfl : i = 12 := by omega
      go_wp2
      go_ret
      exact ⟨rfl, rfl⟩

set_option maxRecDepth 100000 in
set_option maxHeartbeats 1000000 in
theorem rcheck_calls (R : Rg) (fv tv : Value) (w : World) (hR : RgOk R) (hI : InRg w fv tv R) : Calls Try.prog 15 #[.agg #[.int .i64 12, .int .i64 (R.sp : Int), .int .i64 (R.lo : Int), .int .i64 ((R.lo : Int) + 2), .int .i64 (R.tot : Int), .int .i64 (R.pu : Int), .int .i64 (R.wo : Int), fv, tv]] w fun e w' => e = .returned (.int .i64 0) ∧ Below w.heap.size w w' := by
  have HW := Lib.hid (fun (n lo hi : Int) (w : World) (h1 : lo ≤ n) (h2 : n ≤ hi) => within_calls n lo hi w h1 h2)
  have HF := Lib.hid (fun (w : World) (h : InRg w fv tv R) => weights_calls fv R.F w h.1 hR.F)
  have HT := Lib.hid (fun (w : World) (h : InRg w fv tv R) => weights_calls tv R.T w h.2 (fun i hi => ⟨(hR.T i hi).1, by have := (hR.T i hi).2; omega⟩))
  have t1 : (R.sp : Int) < 12 := by have := hR.sp; omega
  have q1 : IntKind.i64.wrap ((R.lo : Int) + 3) = (R.lo : Int) + 3 := IntWalk.i64_in _ (by have := hR.lo; omega)
  have vr := Vals.newL w w.heap.size (rgl R fv tv) 24 rfl
  have bb := below_alloc w (.cells #[.int .i64 12, .int .i64 (R.sp : Int), .int .i64 (R.lo : Int), .int .i64 ((R.lo : Int) + 2), .int .i64 (R.tot : Int), .int .i64 (R.pu : Int), .int .i64 (R.wo : Int), fv, tv] 24)
  have HI := Lib.hid (hI.mono bb)
  have HB := Lib.hid bb
  have hsz : (w.alloc (.cells #[.int .i64 12, .int .i64 (R.sp : Int), .int .i64 (R.lo : Int), .int .i64 ((R.lo : Int) + 2), .int .i64 (R.tot : Int), .int .i64 (R.pu : Int), .int .i64 (R.wo : Int), fv, tv] 24)).heap.size = w.heap.size + 1 := World.size_alloc _ _
  have c0 := vr.cell (i := 0) (by simp [rgl])
  have c1 := vr.cell (i := 1) (by simp [rgl])
  have c2 := vr.cell (i := 2) (by simp [rgl])
  have c3 := vr.cell (i := 3) (by simp [rgl])
  have c4 := vr.cell (i := 4) (by simp [rgl])
  have c5 := vr.cell (i := 5) (by simp [rgl])
  have c6 := vr.cell (i := 6) (by simp [rgl])
  have c7 := vr.cell (i := 7) (by simp [rgl])
  have c8 := vr.cell (i := 8) (by simp [rgl])
  simp only [rgl, List.getD_cons_zero, List.getD_cons_succ] at c0 c1 c2 c3 c4 c5 c6 c7 c8
  have HCC := Lib.hid (And.intro c0 (And.intro c1 (And.intro c2 (And.intro c3 (And.intro c4 (And.intro c5 (And.intro c6 (And.intro c7 c8))))))))
  clear c0 c1 c2 c3 c4 c5 c6 c7 c8 vr bb
  go_enter Try.func15, Try.ntmps15
  go_wp2_with fail
  generalize w.alloc (.cells #[.int .i64 12, .int .i64 (R.sp : Int), .int .i64 (R.lo : Int), .int .i64 ((R.lo : Int) + 2), .int .i64 (R.tot : Int), .int .i64 (R.pu : Int), .int .i64 (R.wo : Int), fv, tv] 24) = w0 at *
  obtain ⟨c0, c1, c2, c3, c4, c5, c6, c7, c8⟩ := HCC.out
  refine (HW.out _ _ _ _ (by omega) (by omega)).mono ?_
  rintro e w' ⟨rfl, rfl⟩
  go_wp2_with fail
  refine (HW.out _ _ _ _ (by have := hR.sp; omega) (by have := hR.sp; omega)).mono ?_
  rintro e w' ⟨rfl, rfl⟩
  go_wp2_with fail
  refine (HW.out _ _ _ _ (by have := hR.lo; omega) (by have := hR.lo; omega)).mono ?_
  rintro e w' ⟨rfl, rfl⟩
  go_wp2_with fail
  refine (HW.out _ _ _ _ (by omega) (by omega)).mono ?_
  rintro e w' ⟨rfl, rfl⟩
  go_wp2_with fail
  refine (HW.out _ _ _ _ (by have := hR.t1; omega) (by have := hR.t2; omega)).mono ?_
  rintro e w' ⟨rfl, rfl⟩
  go_wp2_with fail
  refine (HW.out _ _ _ _ (by have := hR.pu; omega) (by have := hR.pu; omega)).mono ?_
  rintro e w' ⟨rfl, rfl⟩
  go_wp2_with fail
  refine (HW.out _ _ _ _ (by have := hR.w1; omega) (by have := hR.w2; omega)).mono ?_
  rintro e w' ⟨rfl, rfl⟩
  go_wp2_with fail
  refine (HF.out _ HI.out).mono ?_
  rintro e w' ⟨rfl, rfl⟩
  go_wp2_with fail
  refine (HT.out _ HI.out).mono ?_
  rintro e w' ⟨rfl, rfl⟩
  go_wp2
  go_ret
  exact ⟨rfl, HB.out⟩

end Go.Proofs
