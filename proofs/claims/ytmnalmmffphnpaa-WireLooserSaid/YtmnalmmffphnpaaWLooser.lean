/- The walk of WireLooser: whatever comes in, it returns true and changes nothing that was there. -/
import Derived.Test.YtmnalmmffphnpaaWLaw
import Derived.Test.YtmnalmmffphnpaaFold
import Derived.Deep.RegionHeld3
import Derived.Deep.QuietTactic
import Derived.BigQuiet
import Derived.Deep.Cut
open Go.RowKit Go.Deep
namespace Go.Proofs
set_option linter.unusedVariables false
set_option linter.unusedSimpArgs false

/-- what Best says besides its picks -/
def bz (S : Scl) : Int := if (bestV S).1 = -1 then 0 else (bestV S).1
def be (S : Scl) : Int := if (bestV S).1 = -1 then 6 else 0
theorem wbest_any (S : Scl) (cv mv gv : Value) (w : World) (hS : InS w cv mv gv S) (hI : SclI S) (hs : sclOk S = true) :
    Calls Try.prog 20 #[.agg #[cv, mv, gv, .int .i64 S.sf, .int .i64 S.ch]] w fun e w' => ∃ v, e = .returned (.tuple #[v, .int .i64 (bz S), .int .i64 (be S)]) ∧ Below w.heap.size w w' := by
  unfold bz be
  by_cases h : (bestV S).1 = -1
  · rw [if_pos h, if_pos h]
    exact (wbest_none S cv mv gv w hS hI hs h).mono fun e w' h => ⟨_, h⟩
  · rw [if_neg h, if_neg h]
    exact (wbest_ok S cv mv gv w hS hI hs h).mono fun e w' ⟨v, h1, _, h2⟩ => ⟨v, h1, h2⟩

/-- the same lists, another safety and number of changes -/
def withSC (S : Scl) (y c : Int) : Scl := ⟨S.cs, S.ms, S.gs, y, c⟩
theorem with_ok {S : Scl} (h : sclOk S = true) {y c : Int} (hy : 1 ≤ y ∧ y ≤ 100) (hc : 0 ≤ c ∧ c ≤ 96) : sclOk (withSC S y c) = true := by
  unfold sclOk at h ⊢
  simp only [Bool.and_eq_true] at h ⊢
  obtain ⟨⟨⟨h1, h2⟩, h3⟩, h4⟩ := h
  refine ⟨⟨⟨?_, h2⟩, h3⟩, h4⟩
  unfold headOk at h1 ⊢
  simp only [Bool.and_eq_true] at h1 ⊢
  obtain ⟨⟨⟨⟨a1, a2⟩, a3⟩, a4⟩, a5⟩ := h1
  refine ⟨⟨⟨⟨a1, a2⟩, a3⟩, ?_⟩, ?_⟩
  · unfold inR withSC
    exact decide_eq_true hy
  · unfold withSC
    exact decide_eq_true hc
theorem with_I {S : Scl} (h : SclI S) {y c : Int} (hy : 1 ≤ y ∧ y ≤ 100) (hc : 0 ≤ c ∧ c ≤ 96) : SclI (withSC S y c) :=
  ⟨h.cs, h.ms, h.gs, by unfold zI withSC; dsimp only; omega, by unfold zI withSC; dsimp only; omega⟩
theorem with_cost (S : Scl) (y c : Int) (P : List Pk) : ∀ n, costTo (withSC S y c) P n = costTo S P n
  | 0 => rfl
  | n + 1 => by
    show costTo (withSC S y c) P n + _ = costTo S P n + _
    rw [with_cost S y c P n]
    rfl
theorem holds_loose {d s l f y z : Nat} (h : holdsB d s l f y = true) (hy : y ≤ z) : holdsB d s l f z = true := by
  unfold holdsB at h ⊢
  have h1 := of_decide_eq_true h
  exact decide_eq_true (Nat.le_trans h1 (Nat.mul_le_mul_left _ (Nat.mul_le_mul_right _ hy)))
theorem with_best {S : Scl} (hs : sclOk S = true) {y c : Int} (hy : 1 ≤ y ∧ y ≤ 100) (hc : 0 ≤ c ∧ c ≤ 96) (hy2 : S.sf ≤ y) (hc2 : S.ch ≤ c) (hv : (bestV S).1 ≠ -1) : (bestV (withSC S y c)).1 ≠ -1 ∧ (bestV (withSC S y c)).1 ≤ (bestV S).1 := by
  have hu := with_ok hs hy hc
  obtain ⟨b1, b2, b3⟩ := best_yes hs hv
  have hf := bestP_fits hv
  have hf2 : fitsB (withSC S y c) (bestP S) = true := hf
  have ha : allowedB (withSC S y c) (bestP S) = true := by
    unfold allowedB at b1 ⊢
    rw [Bool.and_eq_true, allTo_iff, decide_eq_true_eq] at b1 ⊢
    refine ⟨fun i hi => ?_, ?_⟩
    · have := b1.1 i hi
      unfold okAt at this ⊢
      rw [Bool.and_eq_true] at this ⊢
      exact ⟨this.1, holds_loose this.2 (by unfold withSC; dsimp only; omega)⟩
    · have := b1.2
      unfold withSC
      dsimp only
      omega
  have hne : (bestV (withSC S y c)).1 ≠ -1 := fun e => by
    rw [best_no hu e hf2] at ha
    cases ha
  refine ⟨hne, ?_⟩
  have h := ((best_yes hu hne).2.2 (bestP S) hf2 ha).1
  rw [with_cost, b2] at h
  exact h
theorem set5_3 {w : World} {b : Nat} {v0 v1 v2 v3 v4 : Value} (h : Vals w b [v0, v1, v2, v3, v4]) (x : Value) : Vals (w.setCell ⟨b, 3, none⟩ x) b [v0, v1, v2, x, v4] := h.set 3 x
theorem set5_4 {w : World} {b : Nat} {v0 v1 v2 v3 v4 : Value} (h : Vals w b [v0, v1, v2, v3, v4]) (x : Value) : Vals (w.setCell ⟨b, 4, none⟩ x) b [v0, v1, v2, v3, x] := h.set 4 x
theorem lcells {w : World} {b : Nat} {v0 v1 v2 v3 v4 : Value} (h : Vals w b [v0, v1, v2, v3, v4]) : w.cell? ⟨b, 0, none⟩ = some v0 ∧ w.cell? ⟨b, 1, none⟩ = some v1 ∧ w.cell? ⟨b, 2, none⟩ = some v2 ∧ w.cell? ⟨b, 3, none⟩ = some v3 ∧ w.cell? ⟨b, 4, none⟩ = some v4 := by
  have s0 := h.cell (i := 0) (by simp)
  have s1 := h.cell (i := 1) (by simp)
  have s2 := h.cell (i := 2) (by simp)
  have s3 := h.cell (i := 3) (by simp)
  have s4 := h.cell (i := 4) (by simp)
  exact ⟨s0, s1, s2, s3, s4⟩

set_option maxRecDepth 100000 in
set_option maxHeartbeats 1000000 in
theorem wlooser_a (S : Scl) (y : Int) (cv mv gv : Value) (w : World) (hS : InS w cv mv gv S) (hI : SclI S) (hy : -9223372036854775808 ≤ y ∧ y < 9223372036854775808) (h1 : sclOk (shortS S) = false) :
    Calls Try.prog 5 #[.agg #[cv, mv, gv, .int .i64 S.sf, .int .i64 S.ch], .int .i64 y] w (RetTrue w) := by
  obtain ⟨T, hT⟩ : ∃ T, shortS S = T := ⟨_, rfl⟩
  rw [hT] at h1
  have TI : SclI T := by rw [← hT]; exact shortS_I hI
  have SH := fun (W : World) (hb : Below w.heap.size w W) => wshort_calls S cv mv gv W (hS.mono hb)
  rw [hT] at SH
  obtain ⟨⟨bdc, dc, rfl, rc0⟩, ⟨bdm, dm, rfl, rm0⟩, ⟨bdg, dg, rfl, rg0⟩⟩ := hS
  obtain ⟨mc, hmc⟩ : ∃ n, S.cs.length = n := ⟨_, rfl⟩
  obtain ⟨mm, hmm⟩ : ∃ n, S.ms.length = n := ⟨_, rfl⟩
  obtain ⟨mg, hmg⟩ : ∃ n, S.gs.length = n := ⟨_, rfl⟩
  rw [hmc, hmm, hmg] at SH ⊢
  have HSH := Lib.hid SH
  clear SH hT hI rc0 rm0 rg0 hmc hmm hmg
  have RCK := fun (cv mv gv : Value) (W : World) (h : InS W cv mv gv T) => rscheck_calls T cv mv gv W h TI
  rw [h1] at RCK
  simp only [Bool.false_eq_true, if_true, if_false] at RCK
  have HRCK := Lib.hid RCK
  clear RCK TI h1
  have vs := Vals.newL w (w.heap.size) [.slice bdc mc dc, .slice bdm mm dm, .slice bdg mg dg, .int .i64 S.sf, .int .i64 S.ch] 26 rfl
  have bb := below_alloc w (.cells #[.slice bdc mc dc, .slice bdm mm dm, .slice bdg mg dg, .int .i64 S.sf, .int .i64 S.ch] 26)
  have B := bb
  clear bb
  go_enter Try.func5, Try.ntmps5
  go_upto_region 1 with (fail)
  generalize (w.alloc (.cells #[.slice bdc mc dc, .slice bdm mm dm, .slice bdg mg dg, .int .i64 S.sf, .int .i64 S.ch] 26)) = w0 at *
  have cvs0 := vs.cell (i := 0) (by simp)
  have cvs1 := vs.cell (i := 1) (by simp)
  have cvs2 := vs.cell (i := 2) (by simp)
  have cvs3 := vs.cell (i := 3) (by simp)
  have cvs4 := vs.cell (i := 4) (by simp)
  simp only [List.getD_cons_zero, List.getD_cons_succ] at cvs0 cvs1 cvs2 cvs3 cvs4
  have ltvs := vs.lt
  go_wp2_with fail
  clear cvs0 cvs1 cvs2 cvs3 cvs4 ltvs
  clear vs
  refine (HSH.out _ B).mono ?_
  rintro e w1 ⟨cv, mv, gv, rfl, hs1, b1⟩
  replace B := below_trans B b1
  clear b1
  obtain ⟨⟨adc, cc, rfl, rc⟩, ⟨adm, cm, rfl, rm⟩, ⟨adg, cg, rfl, rg⟩⟩ := hs1
  obtain ⟨nc, hnc⟩ : ∃ n, T.cs.length = n := ⟨_, rfl⟩
  obtain ⟨nm, hnm⟩ : ∃ n, T.ms.length = n := ⟨_, rfl⟩
  obtain ⟨ng, hng⟩ : ∃ n, T.gs.length = n := ⟨_, rfl⟩
  rw [hnc, hnm, hng]
  have HNC := Lib.hid hnc
  have HNM := Lib.hid hnm
  have HNG := Lib.hid hng
  clear hnc hnm hng HSH
  go_upto_region 2 with (fail)
  have vx := Vals.newL w1 w1.heap.size [.slice adc nc cc, .slice adm nm cm, .slice adg ng cg, .int .i64 T.sf, .int .i64 T.ch] 26 rfl
  have bb := below_alloc w1 (.cells #[.slice adc nc cc, .slice adm nm cm, .slice adg ng cg, .int .i64 T.sf, .int .i64 T.ch] 26)
  replace rc := rc.mono bb
  replace rm := rm.mono bb
  replace rg := rg.mono bb
  replace B := below_trans B bb
  clear bb
  generalize w1.alloc (.cells #[.slice adc nc cc, .slice adm nm cm, .slice adg ng cg, .int .i64 T.sf, .int .i64 T.ch] 26) = w2 at *
  have cvx0 := vx.cell (i := 0) (by simp)
  have cvx1 := vx.cell (i := 1) (by simp)
  have cvx2 := vx.cell (i := 2) (by simp)
  have cvx3 := vx.cell (i := 3) (by simp)
  have cvx4 := vx.cell (i := 4) (by simp)
  simp only [List.getD_cons_zero, List.getD_cons_succ] at cvx0 cvx1 cvx2 cvx3 cvx4
  have ltvx := vx.lt
  go_wp2_with fail
  clear cvx0 cvx1 cvx2 cvx3 cvx4 ltvx
  refine (HRCK.out _ _ _ _ ⟨⟨adc, cc, by rw [HNC.out], rc⟩, ⟨adm, cm, by rw [HNM.out], rm⟩, ⟨adg, cg, by rw [HNG.out], rg⟩⟩).mono ?_
  rintro e w3 ⟨rfl, b3⟩
  replace rc := rc.mono b3
  replace rm := rm.mono b3
  replace rg := rg.mono b3
  replace vx := vx.mono b3
  replace B := below_trans B b3
  clear b3
  go_wp2_with fail
  refine (lives_calls _).mono ?_
  rintro e w4 ⟨rfl, b4⟩
  replace rc := rc.mono b4
  replace rm := rm.mono b4
  replace rg := rg.mono b4
  replace vx := vx.mono b4
  replace B := below_trans B b4
  clear b4
  go_wp2
  go_ret
  exact ⟨rfl, B⟩

set_option maxRecDepth 100000 in
set_option maxHeartbeats 1000000 in
theorem wlooser_b (S : Scl) (y : Int) (cv mv gv : Value) (w : World) (hS : InS w cv mv gv S) (hI : SclI S) (hy : -9223372036854775808 ≤ y ∧ y < 9223372036854775808) (h1 : sclOk (shortS S) = true) (h2 : dearB (shortS S) = true) :
    Calls Try.prog 5 #[.agg #[cv, mv, gv, .int .i64 S.sf, .int .i64 S.ch], .int .i64 y] w (RetTrue w) := by
  obtain ⟨T, hT⟩ : ∃ T, shortS S = T := ⟨_, rfl⟩
  rw [hT] at h1
  rw [hT] at h2
  have TI : SclI T := by rw [← hT]; exact shortS_I hI
  have SH := fun (W : World) (hb : Below w.heap.size w W) => wshort_calls S cv mv gv W (hS.mono hb)
  rw [hT] at SH
  obtain ⟨⟨bdc, dc, rfl, rc0⟩, ⟨bdm, dm, rfl, rm0⟩, ⟨bdg, dg, rfl, rg0⟩⟩ := hS
  obtain ⟨mc, hmc⟩ : ∃ n, S.cs.length = n := ⟨_, rfl⟩
  obtain ⟨mm, hmm⟩ : ∃ n, S.ms.length = n := ⟨_, rfl⟩
  obtain ⟨mg, hmg⟩ : ∃ n, S.gs.length = n := ⟨_, rfl⟩
  rw [hmc, hmm, hmg] at SH ⊢
  have HSH := Lib.hid SH
  clear SH hT hI rc0 rm0 rg0 hmc hmm hmg
  have RCK := fun (cv mv gv : Value) (W : World) (h : InS W cv mv gv T) => rscheck_calls T cv mv gv W h TI
  rw [h1] at RCK
  have DE := fun (cv mv gv : Value) (W : World) (h : InS W cv mv gv T) => dear_calls T cv mv gv W h h1
  rw [h2] at DE
  simp only [Bool.false_eq_true, if_true, if_false] at RCK
  have HRCK := Lib.hid RCK
  have HDE := Lib.hid DE
  clear RCK DE TI h1 h2
  have vs := Vals.newL w (w.heap.size) [.slice bdc mc dc, .slice bdm mm dm, .slice bdg mg dg, .int .i64 S.sf, .int .i64 S.ch] 26 rfl
  have bb := below_alloc w (.cells #[.slice bdc mc dc, .slice bdm mm dm, .slice bdg mg dg, .int .i64 S.sf, .int .i64 S.ch] 26)
  have B := bb
  clear bb
  go_enter Try.func5, Try.ntmps5
  go_upto_region 1 with (fail)
  generalize (w.alloc (.cells #[.slice bdc mc dc, .slice bdm mm dm, .slice bdg mg dg, .int .i64 S.sf, .int .i64 S.ch] 26)) = w0 at *
  have cvs0 := vs.cell (i := 0) (by simp)
  have cvs1 := vs.cell (i := 1) (by simp)
  have cvs2 := vs.cell (i := 2) (by simp)
  have cvs3 := vs.cell (i := 3) (by simp)
  have cvs4 := vs.cell (i := 4) (by simp)
  simp only [List.getD_cons_zero, List.getD_cons_succ] at cvs0 cvs1 cvs2 cvs3 cvs4
  have ltvs := vs.lt
  go_wp2_with fail
  clear cvs0 cvs1 cvs2 cvs3 cvs4 ltvs
  clear vs
  refine (HSH.out _ B).mono ?_
  rintro e w1 ⟨cv, mv, gv, rfl, hs1, b1⟩
  replace B := below_trans B b1
  clear b1
  obtain ⟨⟨adc, cc, rfl, rc⟩, ⟨adm, cm, rfl, rm⟩, ⟨adg, cg, rfl, rg⟩⟩ := hs1
  obtain ⟨nc, hnc⟩ : ∃ n, T.cs.length = n := ⟨_, rfl⟩
  obtain ⟨nm, hnm⟩ : ∃ n, T.ms.length = n := ⟨_, rfl⟩
  obtain ⟨ng, hng⟩ : ∃ n, T.gs.length = n := ⟨_, rfl⟩
  rw [hnc, hnm, hng]
  have HNC := Lib.hid hnc
  have HNM := Lib.hid hnm
  have HNG := Lib.hid hng
  clear hnc hnm hng HSH
  go_upto_region 2 with (fail)
  have vx := Vals.newL w1 w1.heap.size [.slice adc nc cc, .slice adm nm cm, .slice adg ng cg, .int .i64 T.sf, .int .i64 T.ch] 26 rfl
  have bb := below_alloc w1 (.cells #[.slice adc nc cc, .slice adm nm cm, .slice adg ng cg, .int .i64 T.sf, .int .i64 T.ch] 26)
  replace rc := rc.mono bb
  replace rm := rm.mono bb
  replace rg := rg.mono bb
  replace B := below_trans B bb
  clear bb
  generalize w1.alloc (.cells #[.slice adc nc cc, .slice adm nm cm, .slice adg ng cg, .int .i64 T.sf, .int .i64 T.ch] 26) = w2 at *
  have cvx0 := vx.cell (i := 0) (by simp)
  have cvx1 := vx.cell (i := 1) (by simp)
  have cvx2 := vx.cell (i := 2) (by simp)
  have cvx3 := vx.cell (i := 3) (by simp)
  have cvx4 := vx.cell (i := 4) (by simp)
  simp only [List.getD_cons_zero, List.getD_cons_succ] at cvx0 cvx1 cvx2 cvx3 cvx4
  have ltvx := vx.lt
  go_wp2_with fail
  clear cvx0 cvx1 cvx2 cvx3 cvx4 ltvx
  refine (HRCK.out _ _ _ _ ⟨⟨adc, cc, by rw [HNC.out], rc⟩, ⟨adm, cm, by rw [HNM.out], rm⟩, ⟨adg, cg, by rw [HNG.out], rg⟩⟩).mono ?_
  rintro e w3 ⟨rfl, b3⟩
  replace rc := rc.mono b3
  replace rm := rm.mono b3
  replace rg := rg.mono b3
  replace vx := vx.mono b3
  replace B := below_trans B b3
  clear b3
  have cvx0 := vx.cell (i := 0) (by simp)
  have cvx1 := vx.cell (i := 1) (by simp)
  have cvx2 := vx.cell (i := 2) (by simp)
  have cvx3 := vx.cell (i := 3) (by simp)
  have cvx4 := vx.cell (i := 4) (by simp)
  simp only [List.getD_cons_zero, List.getD_cons_succ] at cvx0 cvx1 cvx2 cvx3 cvx4
  have ltvx := vx.lt
  go_wp2_with fail
  clear cvx0 cvx1 cvx2 cvx3 cvx4 ltvx
  refine (HDE.out _ _ _ _ ⟨⟨adc, cc, by rw [HNC.out], rc⟩, ⟨adm, cm, by rw [HNM.out], rm⟩, ⟨adg, cg, by rw [HNG.out], rg⟩⟩).mono ?_
  rintro e w4 ⟨rfl, b4⟩
  replace rc := rc.mono b4
  replace rm := rm.mono b4
  replace rg := rg.mono b4
  replace vx := vx.mono b4
  replace B := below_trans B b4
  clear b4
  go_wp2_with fail
  refine (lives_calls _).mono ?_
  rintro e w5 ⟨rfl, b5⟩
  replace rc := rc.mono b5
  replace rm := rm.mono b5
  replace rg := rg.mono b5
  replace vx := vx.mono b5
  replace B := below_trans B b5
  clear b5
  go_wp2
  go_ret
  exact ⟨rfl, B⟩

set_option maxRecDepth 100000 in
set_option maxHeartbeats 1000000 in
theorem wlooser_c (S : Scl) (y : Int) (cv mv gv : Value) (w : World) (hS : InS w cv mv gv S) (hI : SclI S) (hy : -9223372036854775808 ≤ y ∧ y < 9223372036854775808) (h1 : sclOk (shortS S) = true) (h2 : dearB (shortS S) = false) (h3 : (bestV (shortS S)).1 = -1) :
    Calls Try.prog 5 #[.agg #[cv, mv, gv, .int .i64 S.sf, .int .i64 S.ch], .int .i64 y] w (RetTrue w) := by
  obtain ⟨T, hT⟩ : ∃ T, shortS S = T := ⟨_, rfl⟩
  rw [hT] at h1
  rw [hT] at h2
  rw [hT] at h3
  have TI : SclI T := by rw [← hT]; exact shortS_I hI
  have SH := fun (W : World) (hb : Below w.heap.size w W) => wshort_calls S cv mv gv W (hS.mono hb)
  rw [hT] at SH
  obtain ⟨⟨bdc, dc, rfl, rc0⟩, ⟨bdm, dm, rfl, rm0⟩, ⟨bdg, dg, rfl, rg0⟩⟩ := hS
  obtain ⟨mc, hmc⟩ : ∃ n, S.cs.length = n := ⟨_, rfl⟩
  obtain ⟨mm, hmm⟩ : ∃ n, S.ms.length = n := ⟨_, rfl⟩
  obtain ⟨mg, hmg⟩ : ∃ n, S.gs.length = n := ⟨_, rfl⟩
  rw [hmc, hmm, hmg] at SH ⊢
  have HSH := Lib.hid SH
  clear SH hT hI rc0 rm0 rg0 hmc hmm hmg
  have RCK := fun (cv mv gv : Value) (W : World) (h : InS W cv mv gv T) => rscheck_calls T cv mv gv W h TI
  rw [h1] at RCK
  have DE := fun (cv mv gv : Value) (W : World) (h : InS W cv mv gv T) => dear_calls T cv mv gv W h h1
  rw [h2] at DE
  have FO := fun (W : World) => fold_same y 100 W (by omega) (by omega) hy.1 hy.2
  obtain ⟨yn, hyn, hy1, hy2⟩ := foldZ_some y 100 (by omega) 100 rfl
  rw [hyn] at FO
  obtain ⟨_, _, _, hsf, hch⟩ := headOk_lens (headOk_of h1)
  have hs1 : 1 ≤ T.sf ∧ T.sf ≤ 100 := hsf
  have hc1 : 0 ≤ min (T.ch + 1) 96 ∧ min (T.ch + 1) 96 ≤ 96 := by omega
  have hm1 : 1 ≤ max T.sf (yn : Int) ∧ max T.sf (yn : Int) ≤ 100 := by omega
  have BE := fun (cv mv gv : Value) (W : World) (h : InS W cv mv gv T) => wbest_any T cv mv gv W h TI h1
  have BT := fun (cv mv gv : Value) (W : World) (h : InS W cv mv gv T) => wbest_any (withSC T T.sf (min (T.ch + 1) 96)) cv mv gv W h (with_I TI hs1 hc1) (with_ok h1 hs1 hc1)
  have BU := fun (cv mv gv : Value) (W : World) (h : InS W cv mv gv T) => wbest_any (withSC T (max T.sf (yn : Int)) T.ch) cv mv gv W h (with_I TI hm1 hch) (with_ok h1 hm1 hch)
  have hbT : bz T = if (bestV T).1 = -1 then 0 else (bestV T).1 := rfl
  have heT : be T = if (bestV T).1 = -1 then 6 else 0 := rfl
  rw [if_pos h3] at hbT heT
  rw [hbT, heT] at BE
  obtain ⟨z1, hz1⟩ : ∃ z, bz (withSC T T.sf (min (T.ch + 1) 96)) = z := ⟨_, rfl⟩
  obtain ⟨e1, he1⟩ : ∃ z, be (withSC T T.sf (min (T.ch + 1) 96)) = z := ⟨_, rfl⟩
  rw [hz1, he1] at BT
  obtain ⟨z2, hz2⟩ : ∃ z, bz (withSC T (max T.sf (yn : Int)) T.ch) = z := ⟨_, rfl⟩
  obtain ⟨e2, he2⟩ : ∃ z, be (withSC T (max T.sf (yn : Int)) T.ch) = z := ⟨_, rfl⟩
  rw [hz2, he2] at BU
  clear hz1 he1 hz2 he2
  unfold withSC at BT BU
  dsimp only at BT BU
  clear hbT heT hyn hc1 hm1 hsf
  simp only [Bool.false_eq_true, if_true, if_false] at RCK
  have HRCK := Lib.hid RCK
  have HDE := Lib.hid DE
  have HFO := Lib.hid FO
  have HBE := Lib.hid BE
  have HBT := Lib.hid BT
  have HBU := Lib.hid BU
  clear RCK DE FO BE BT BU TI h1 h2 h3 hy
  have vs := Vals.newL w (w.heap.size) [.slice bdc mc dc, .slice bdm mm dm, .slice bdg mg dg, .int .i64 S.sf, .int .i64 S.ch] 26 rfl
  have bb := below_alloc w (.cells #[.slice bdc mc dc, .slice bdm mm dm, .slice bdg mg dg, .int .i64 S.sf, .int .i64 S.ch] 26)
  have B := bb
  clear bb
  go_enter Try.func5, Try.ntmps5
  go_upto_region 1 with (fail)
  generalize (w.alloc (.cells #[.slice bdc mc dc, .slice bdm mm dm, .slice bdg mg dg, .int .i64 S.sf, .int .i64 S.ch] 26)) = w0 at *
  have cvs0 := vs.cell (i := 0) (by simp)
  have cvs1 := vs.cell (i := 1) (by simp)
  have cvs2 := vs.cell (i := 2) (by simp)
  have cvs3 := vs.cell (i := 3) (by simp)
  have cvs4 := vs.cell (i := 4) (by simp)
  simp only [List.getD_cons_zero, List.getD_cons_succ] at cvs0 cvs1 cvs2 cvs3 cvs4
  have ltvs := vs.lt
  go_wp2_with fail
  clear cvs0 cvs1 cvs2 cvs3 cvs4 ltvs
  clear vs
  refine (HSH.out _ B).mono ?_
  rintro e w1 ⟨cv, mv, gv, rfl, hs1, b1⟩
  replace B := below_trans B b1
  clear b1
  obtain ⟨⟨adc, cc, rfl, rc⟩, ⟨adm, cm, rfl, rm⟩, ⟨adg, cg, rfl, rg⟩⟩ := hs1
  obtain ⟨nc, hnc⟩ : ∃ n, T.cs.length = n := ⟨_, rfl⟩
  obtain ⟨nm, hnm⟩ : ∃ n, T.ms.length = n := ⟨_, rfl⟩
  obtain ⟨ng, hng⟩ : ∃ n, T.gs.length = n := ⟨_, rfl⟩
  rw [hnc, hnm, hng]
  have HNC := Lib.hid hnc
  have HNM := Lib.hid hnm
  have HNG := Lib.hid hng
  clear hnc hnm hng HSH
  go_upto_region 2 with (fail)
  have vx := Vals.newL w1 w1.heap.size [.slice adc nc cc, .slice adm nm cm, .slice adg ng cg, .int .i64 T.sf, .int .i64 T.ch] 26 rfl
  have bb := below_alloc w1 (.cells #[.slice adc nc cc, .slice adm nm cm, .slice adg ng cg, .int .i64 T.sf, .int .i64 T.ch] 26)
  replace rc := rc.mono bb
  replace rm := rm.mono bb
  replace rg := rg.mono bb
  replace B := below_trans B bb
  clear bb
  generalize w1.alloc (.cells #[.slice adc nc cc, .slice adm nm cm, .slice adg ng cg, .int .i64 T.sf, .int .i64 T.ch] 26) = w2 at *
  have cvx0 := vx.cell (i := 0) (by simp)
  have cvx1 := vx.cell (i := 1) (by simp)
  have cvx2 := vx.cell (i := 2) (by simp)
  have cvx3 := vx.cell (i := 3) (by simp)
  have cvx4 := vx.cell (i := 4) (by simp)
  simp only [List.getD_cons_zero, List.getD_cons_succ] at cvx0 cvx1 cvx2 cvx3 cvx4
  have ltvx := vx.lt
  go_wp2_with fail
  clear cvx0 cvx1 cvx2 cvx3 cvx4 ltvx
  refine (HRCK.out _ _ _ _ ⟨⟨adc, cc, by rw [HNC.out], rc⟩, ⟨adm, cm, by rw [HNM.out], rm⟩, ⟨adg, cg, by rw [HNG.out], rg⟩⟩).mono ?_
  rintro e w3 ⟨rfl, b3⟩
  replace rc := rc.mono b3
  replace rm := rm.mono b3
  replace rg := rg.mono b3
  replace vx := vx.mono b3
  replace B := below_trans B b3
  clear b3
  have cvx0 := vx.cell (i := 0) (by simp)
  have cvx1 := vx.cell (i := 1) (by simp)
  have cvx2 := vx.cell (i := 2) (by simp)
  have cvx3 := vx.cell (i := 3) (by simp)
  have cvx4 := vx.cell (i := 4) (by simp)
  simp only [List.getD_cons_zero, List.getD_cons_succ] at cvx0 cvx1 cvx2 cvx3 cvx4
  have ltvx := vx.lt
  go_wp2_with fail
  clear cvx0 cvx1 cvx2 cvx3 cvx4 ltvx
  refine (HDE.out _ _ _ _ ⟨⟨adc, cc, by rw [HNC.out], rc⟩, ⟨adm, cm, by rw [HNM.out], rm⟩, ⟨adg, cg, by rw [HNG.out], rg⟩⟩).mono ?_
  rintro e w4 ⟨rfl, b4⟩
  replace rc := rc.mono b4
  replace rm := rm.mono b4
  replace rg := rg.mono b4
  replace vx := vx.mono b4
  replace B := below_trans B b4
  clear b4
  have cvx0 := vx.cell (i := 0) (by simp)
  have cvx1 := vx.cell (i := 1) (by simp)
  have cvx2 := vx.cell (i := 2) (by simp)
  have cvx3 := vx.cell (i := 3) (by simp)
  have cvx4 := vx.cell (i := 4) (by simp)
  simp only [List.getD_cons_zero, List.getD_cons_succ] at cvx0 cvx1 cvx2 cvx3 cvx4
  have ltvx := vx.lt
  go_wp2_with fail
  clear cvx0 cvx1 cvx2 cvx3 cvx4 ltvx
  refine (HBE.out _ _ _ _ ⟨⟨adc, cc, by rw [HNC.out], rc⟩, ⟨adm, cm, by rw [HNM.out], rm⟩, ⟨adg, cg, by rw [HNG.out], rg⟩⟩).mono ?_
  rintro e w5 ⟨bv, rfl, b5⟩
  replace rc := rc.mono b5
  replace rm := rm.mono b5
  replace rg := rg.mono b5
  replace vx := vx.mono b5
  replace B := below_trans B b5
  clear b5
  have HSX := Lib.hid (fun (W : World) (hb : Below w5.heap.size w5 W) => lcells (vx.mono hb))
  have hvx := vx.lt
  go_upto_region 5 with (fail)
  go_cut [9, 10] from 33 (fun pt pu wx => ∃ bt bu, pt = .pointer (some ⟨bt, 0, none⟩) ∧ pu = .pointer (some ⟨bu, 0, none⟩) ∧ Vals wx bt [.slice adc nc cc, .slice adm nm cm, .slice adg ng cg, .int .i64 T.sf, .int .i64 T.ch] ∧ Vals wx bu [.slice adc nc cc, .slice adm nm cm, .slice adg ng cg, .int .i64 T.sf, .int .i64 T.ch] ∧ bt ≠ bu ∧ w5.heap.size ≤ bt ∧ w5.heap.size ≤ bu ∧ Below w5.heap.size w5 wx)
  case first =>
    go_region_held3 (fun W => W.cell? ⟨w1.heap.size, 0, none⟩ = some (.slice adc nc cc) ∧ W.cell? ⟨w1.heap.size, 1, none⟩ = some (.slice adm nm cm) ∧ W.cell? ⟨w1.heap.size, 2, none⟩ = some (.slice adg ng cg) ∧ W.cell? ⟨w1.heap.size, 3, none⟩ = some (.int .i64 T.sf) ∧ W.cell? ⟨w1.heap.size, 4, none⟩ = some (.int .i64 T.ch))
      (first | exact HSX.out _ (bel0 _) | exact HSX.out _ (bel1 _ _) | exact HSX.out _ (bel2 _ _ _))
      (fail)
    all_goals
      obtain ⟨x1, x2, x3⟩ := vals_two w5 [.slice adc nc cc, .slice adm nm cm, .slice adg ng cg, .int .i64 T.sf, .int .i64 T.ch] [.slice adc nc cc, .slice adm nm cm, .slice adg ng cg, .int .i64 T.sf, .int .i64 T.ch] 26 26
      go_wp2
      go_meet
      first
      | exact ⟨_, _, rfl, rfl, x1, x2, by omega, Nat.le_refl _, Nat.le_succ _, x3⟩
      | exact ⟨_, _, rfl, rfl, x2, x1, by omega, Nat.le_succ _, Nat.le_refl _, x3⟩
  case rest =>
    obtain ⟨bt, bu, rfl, rfl, vt, vu, hne, hbt, hbu, bw⟩ := hcut
    obtain ⟨cx0, cx1, cx2, cx3, cx4⟩ := HSX.out _ bw
    have ct4 := vt.cell (i := 4) (by simp)
    simp only [List.getD_cons_zero, List.getD_cons_succ] at ct4
    have ft4 := vt.frozen 4
    have ltt := vt.lt
    have ltx := Nat.lt_of_lt_of_le hvx bw.size
    go_upto_region 7 with (fail)
    clear cx0 cx1 cx2 cx3 cx4 ct4 ft4 ltt ltx
    replace vu := vu.other ⟨bt, 4, none⟩ hne (.int .i64 (min (T.ch + 1) 96))
    replace vt := set5_4 vt (.int .i64 (min (T.ch + 1) 96))
    replace bw := bw.setCell (p := ⟨bt, 4, none⟩) hbt (.int .i64 (min (T.ch + 1) 96))
    generalize wc.setCell ⟨bt, 4, none⟩ (.int .i64 (min (T.ch + 1) 96)) = W7 at *
    have HS7 := Lib.hid (fun (W : World) (hs : Same (w1.heap.size) (w1.heap.size + 1) W7 W) => (lcells ((vx.mono bw).same hs (Nat.le_refl _) (Nat.lt_succ_self _))).2.2.2.1)
    have cu3 := vu.cell (i := 3) (by simp)
    simp only [List.getD_cons_zero, List.getD_cons_succ] at cu3
    have fu3 := vu.frozen 3
    have ltu := vu.lt
    go_region_held3 (fun W => W.cell? ⟨w1.heap.size, 3, none⟩ = some (.int .i64 T.sf))
      (first | exact HS7.out _ (Same.refl _ _ _) | exact HS7.out _ ((Same.refl _ _ W7).setCell _ (by dsimp only; omega) _))
      (first | (go_at_call 24; (with_reducible refine (HFO.out _).mono ?_); rintro e wz ⟨rfl, rfl⟩))
    replace vt := (vt.other ⟨bu, 3, none⟩ (Ne.symm hne) (.int .i64 (max T.sf (yn : Int)))).drew
    replace vu := (set5_3 vu (.int .i64 (max T.sf (yn : Int)))).drew
    replace bw := (bw.setCell (p := ⟨bu, 3, none⟩) hbu (.int .i64 (max T.sf (yn : Int)))).drew
    clear cu3 fu3 ltu HS7 HSX HFO
    generalize (W7.setCell ⟨bu, 3, none⟩ (.int .i64 (max T.sf (yn : Int)))).drew = W8 at *
    have cvt0 := vt.cell (i := 0) (by simp)
    have cvt1 := vt.cell (i := 1) (by simp)
    have cvt2 := vt.cell (i := 2) (by simp)
    have cvt3 := vt.cell (i := 3) (by simp)
    have cvt4 := vt.cell (i := 4) (by simp)
    simp only [List.getD_cons_zero, List.getD_cons_succ] at cvt0 cvt1 cvt2 cvt3 cvt4
    have ltvt := vt.lt
    go_wp2_with fail
    clear cvt0 cvt1 cvt2 cvt3 cvt4 ltvt
    have IS := Lib.hid (show InS W8 _ _ _ T from ⟨⟨adc, cc, by rw [HNC.out], rc.mono bw⟩, ⟨adm, cm, by rw [HNM.out], rm.mono bw⟩, ⟨adg, cg, by rw [HNG.out], rg.mono bw⟩⟩)
    refine (HBT.out _ _ _ _ IS.out).mono ?_
    rintro e wt ⟨tv, rfl, b5⟩
    replace vu := vu.mono b5
    replace bw := below_trans bw b5
    clear b5 IS vt
    have cvu0 := vu.cell (i := 0) (by simp)
    have cvu1 := vu.cell (i := 1) (by simp)
    have cvu2 := vu.cell (i := 2) (by simp)
    have cvu3 := vu.cell (i := 3) (by simp)
    have cvu4 := vu.cell (i := 4) (by simp)
    simp only [List.getD_cons_zero, List.getD_cons_succ] at cvu0 cvu1 cvu2 cvu3 cvu4
    have ltvu := vu.lt
    go_wp2_with fail
    clear cvu0 cvu1 cvu2 cvu3 cvu4 ltvu
    have IS := Lib.hid (show InS wt _ _ _ T from ⟨⟨adc, cc, by rw [HNC.out], rc.mono bw⟩, ⟨adm, cm, by rw [HNM.out], rm.mono bw⟩, ⟨adg, cg, by rw [HNG.out], rg.mono bw⟩⟩)
    refine (HBU.out _ _ _ _ IS.out).mono ?_
    rintro e wu ⟨uv, rfl, b5⟩
    replace bw := below_trans bw b5
    clear b5 IS vu
    go_wp2_with fail
    refine (lives_calls _).mono ?_
    rintro e wl ⟨rfl, b5⟩
    replace bw := below_trans bw b5
    go_wp2
    go_ret
    exact ⟨rfl, below_trans B bw⟩

set_option maxRecDepth 100000 in
set_option maxHeartbeats 1000000 in
theorem wlooser_d (S : Scl) (y : Int) (cv mv gv : Value) (w : World) (hS : InS w cv mv gv S) (hI : SclI S) (hy : -9223372036854775808 ≤ y ∧ y < 9223372036854775808) (h1 : sclOk (shortS S) = true) (h2 : dearB (shortS S) = false) (h3 : (bestV (shortS S)).1 ≠ -1) :
    Calls Try.prog 5 #[.agg #[cv, mv, gv, .int .i64 S.sf, .int .i64 S.ch], .int .i64 y] w (RetTrue w) := by
  obtain ⟨T, hT⟩ : ∃ T, shortS S = T := ⟨_, rfl⟩
  rw [hT] at h1
  rw [hT] at h2
  rw [hT] at h3
  have TI : SclI T := by rw [← hT]; exact shortS_I hI
  have SH := fun (W : World) (hb : Below w.heap.size w W) => wshort_calls S cv mv gv W (hS.mono hb)
  rw [hT] at SH
  obtain ⟨⟨bdc, dc, rfl, rc0⟩, ⟨bdm, dm, rfl, rm0⟩, ⟨bdg, dg, rfl, rg0⟩⟩ := hS
  obtain ⟨mc, hmc⟩ : ∃ n, S.cs.length = n := ⟨_, rfl⟩
  obtain ⟨mm, hmm⟩ : ∃ n, S.ms.length = n := ⟨_, rfl⟩
  obtain ⟨mg, hmg⟩ : ∃ n, S.gs.length = n := ⟨_, rfl⟩
  rw [hmc, hmm, hmg] at SH ⊢
  have HSH := Lib.hid SH
  clear SH hT hI rc0 rm0 rg0 hmc hmm hmg
  have RCK := fun (cv mv gv : Value) (W : World) (h : InS W cv mv gv T) => rscheck_calls T cv mv gv W h TI
  rw [h1] at RCK
  have DE := fun (cv mv gv : Value) (W : World) (h : InS W cv mv gv T) => dear_calls T cv mv gv W h h1
  rw [h2] at DE
  have FO := fun (W : World) => fold_same y 100 W (by omega) (by omega) hy.1 hy.2
  obtain ⟨yn, hyn, hy1, hy2⟩ := foldZ_some y 100 (by omega) 100 rfl
  rw [hyn] at FO
  obtain ⟨_, _, _, hsf, hch⟩ := headOk_lens (headOk_of h1)
  have hs1 : 1 ≤ T.sf ∧ T.sf ≤ 100 := hsf
  have hc1 : 0 ≤ min (T.ch + 1) 96 ∧ min (T.ch + 1) 96 ≤ 96 := by omega
  have hm1 : 1 ≤ max T.sf (yn : Int) ∧ max T.sf (yn : Int) ≤ 100 := by omega
  have BE := fun (cv mv gv : Value) (W : World) (h : InS W cv mv gv T) => wbest_any T cv mv gv W h TI h1
  have BT := fun (cv mv gv : Value) (W : World) (h : InS W cv mv gv T) => wbest_any (withSC T T.sf (min (T.ch + 1) 96)) cv mv gv W h (with_I TI hs1 hc1) (with_ok h1 hs1 hc1)
  have BU := fun (cv mv gv : Value) (W : World) (h : InS W cv mv gv T) => wbest_any (withSC T (max T.sf (yn : Int)) T.ch) cv mv gv W h (with_I TI hm1 hch) (with_ok h1 hm1 hch)
  have hbT : bz T = if (bestV T).1 = -1 then 0 else (bestV T).1 := rfl
  have heT : be T = if (bestV T).1 = -1 then 6 else 0 := rfl
  rw [if_neg h3] at hbT heT
  rw [hbT, heT] at BE
  obtain ⟨n1, n2⟩ := with_best h1 hs1 hc1 (Int.le_refl _) (by omega) h3
  obtain ⟨n3, n4⟩ := with_best h1 hm1 hch (by omega) (Int.le_refl _) h3
  have e1 : bz (withSC T T.sf (min (T.ch + 1) 96)) = _ := if_neg n1
  have e2 : be (withSC T T.sf (min (T.ch + 1) 96)) = 0 := if_neg n1
  have e3 : bz (withSC T (max T.sf (yn : Int)) T.ch) = _ := if_neg n3
  have e4 : be (withSC T (max T.sf (yn : Int)) T.ch) = 0 := if_neg n3
  rw [e1, e2] at BT
  rw [e3, e4] at BU
  clear e1 e2 e3 e4 n1 n3
  obtain ⟨z, hz⟩ : ∃ z, (bestV T).1 = z := ⟨_, rfl⟩
  rw [hz] at BE n2 n4
  obtain ⟨z1, hz1⟩ : ∃ z, (bestV (withSC T T.sf (min (T.ch + 1) 96))).1 = z := ⟨_, rfl⟩
  rw [hz1] at BT n2
  obtain ⟨z2, hz2⟩ : ∃ z, (bestV (withSC T (max T.sf (yn : Int)) T.ch)).1 = z := ⟨_, rfl⟩
  rw [hz2] at BU n4
  clear hz hz1 hz2
  unfold withSC at BT BU
  dsimp only at BT BU
  clear hbT heT hyn hc1 hm1 hsf
  simp only [Bool.false_eq_true, if_true, if_false] at RCK
  have HRCK := Lib.hid RCK
  have HDE := Lib.hid DE
  have HFO := Lib.hid FO
  have HBE := Lib.hid BE
  have HBT := Lib.hid BT
  have HBU := Lib.hid BU
  clear RCK DE FO BE BT BU TI h1 h2 h3 hy
  have vs := Vals.newL w (w.heap.size) [.slice bdc mc dc, .slice bdm mm dm, .slice bdg mg dg, .int .i64 S.sf, .int .i64 S.ch] 26 rfl
  have bb := below_alloc w (.cells #[.slice bdc mc dc, .slice bdm mm dm, .slice bdg mg dg, .int .i64 S.sf, .int .i64 S.ch] 26)
  have B := bb
  clear bb
  go_enter Try.func5, Try.ntmps5
  go_upto_region 1 with (fail)
  generalize (w.alloc (.cells #[.slice bdc mc dc, .slice bdm mm dm, .slice bdg mg dg, .int .i64 S.sf, .int .i64 S.ch] 26)) = w0 at *
  have cvs0 := vs.cell (i := 0) (by simp)
  have cvs1 := vs.cell (i := 1) (by simp)
  have cvs2 := vs.cell (i := 2) (by simp)
  have cvs3 := vs.cell (i := 3) (by simp)
  have cvs4 := vs.cell (i := 4) (by simp)
  simp only [List.getD_cons_zero, List.getD_cons_succ] at cvs0 cvs1 cvs2 cvs3 cvs4
  have ltvs := vs.lt
  go_wp2_with fail
  clear cvs0 cvs1 cvs2 cvs3 cvs4 ltvs
  clear vs
  refine (HSH.out _ B).mono ?_
  rintro e w1 ⟨cv, mv, gv, rfl, hs1, b1⟩
  replace B := below_trans B b1
  clear b1
  obtain ⟨⟨adc, cc, rfl, rc⟩, ⟨adm, cm, rfl, rm⟩, ⟨adg, cg, rfl, rg⟩⟩ := hs1
  obtain ⟨nc, hnc⟩ : ∃ n, T.cs.length = n := ⟨_, rfl⟩
  obtain ⟨nm, hnm⟩ : ∃ n, T.ms.length = n := ⟨_, rfl⟩
  obtain ⟨ng, hng⟩ : ∃ n, T.gs.length = n := ⟨_, rfl⟩
  rw [hnc, hnm, hng]
  have HNC := Lib.hid hnc
  have HNM := Lib.hid hnm
  have HNG := Lib.hid hng
  clear hnc hnm hng HSH
  go_upto_region 2 with (fail)
  have vx := Vals.newL w1 w1.heap.size [.slice adc nc cc, .slice adm nm cm, .slice adg ng cg, .int .i64 T.sf, .int .i64 T.ch] 26 rfl
  have bb := below_alloc w1 (.cells #[.slice adc nc cc, .slice adm nm cm, .slice adg ng cg, .int .i64 T.sf, .int .i64 T.ch] 26)
  replace rc := rc.mono bb
  replace rm := rm.mono bb
  replace rg := rg.mono bb
  replace B := below_trans B bb
  clear bb
  generalize w1.alloc (.cells #[.slice adc nc cc, .slice adm nm cm, .slice adg ng cg, .int .i64 T.sf, .int .i64 T.ch] 26) = w2 at *
  have cvx0 := vx.cell (i := 0) (by simp)
  have cvx1 := vx.cell (i := 1) (by simp)
  have cvx2 := vx.cell (i := 2) (by simp)
  have cvx3 := vx.cell (i := 3) (by simp)
  have cvx4 := vx.cell (i := 4) (by simp)
  simp only [List.getD_cons_zero, List.getD_cons_succ] at cvx0 cvx1 cvx2 cvx3 cvx4
  have ltvx := vx.lt
  go_wp2_with fail
  clear cvx0 cvx1 cvx2 cvx3 cvx4 ltvx
  refine (HRCK.out _ _ _ _ ⟨⟨adc, cc, by rw [HNC.out], rc⟩, ⟨adm, cm, by rw [HNM.out], rm⟩, ⟨adg, cg, by rw [HNG.out], rg⟩⟩).mono ?_
  rintro e w3 ⟨rfl, b3⟩
  replace rc := rc.mono b3
  replace rm := rm.mono b3
  replace rg := rg.mono b3
  replace vx := vx.mono b3
  replace B := below_trans B b3
  clear b3
  have cvx0 := vx.cell (i := 0) (by simp)
  have cvx1 := vx.cell (i := 1) (by simp)
  have cvx2 := vx.cell (i := 2) (by simp)
  have cvx3 := vx.cell (i := 3) (by simp)
  have cvx4 := vx.cell (i := 4) (by simp)
  simp only [List.getD_cons_zero, List.getD_cons_succ] at cvx0 cvx1 cvx2 cvx3 cvx4
  have ltvx := vx.lt
  go_wp2_with fail
  clear cvx0 cvx1 cvx2 cvx3 cvx4 ltvx
  refine (HDE.out _ _ _ _ ⟨⟨adc, cc, by rw [HNC.out], rc⟩, ⟨adm, cm, by rw [HNM.out], rm⟩, ⟨adg, cg, by rw [HNG.out], rg⟩⟩).mono ?_
  rintro e w4 ⟨rfl, b4⟩
  replace rc := rc.mono b4
  replace rm := rm.mono b4
  replace rg := rg.mono b4
  replace vx := vx.mono b4
  replace B := below_trans B b4
  clear b4
  have cvx0 := vx.cell (i := 0) (by simp)
  have cvx1 := vx.cell (i := 1) (by simp)
  have cvx2 := vx.cell (i := 2) (by simp)
  have cvx3 := vx.cell (i := 3) (by simp)
  have cvx4 := vx.cell (i := 4) (by simp)
  simp only [List.getD_cons_zero, List.getD_cons_succ] at cvx0 cvx1 cvx2 cvx3 cvx4
  have ltvx := vx.lt
  go_wp2_with fail
  clear cvx0 cvx1 cvx2 cvx3 cvx4 ltvx
  refine (HBE.out _ _ _ _ ⟨⟨adc, cc, by rw [HNC.out], rc⟩, ⟨adm, cm, by rw [HNM.out], rm⟩, ⟨adg, cg, by rw [HNG.out], rg⟩⟩).mono ?_
  rintro e w5 ⟨bv, rfl, b5⟩
  replace rc := rc.mono b5
  replace rm := rm.mono b5
  replace rg := rg.mono b5
  replace vx := vx.mono b5
  replace B := below_trans B b5
  clear b5
  have HSX := Lib.hid (fun (W : World) (hb : Below w5.heap.size w5 W) => lcells (vx.mono hb))
  have hvx := vx.lt
  go_upto_region 5 with (fail)
  go_cut [9, 10] from 33 (fun pt pu wx => ∃ bt bu, pt = .pointer (some ⟨bt, 0, none⟩) ∧ pu = .pointer (some ⟨bu, 0, none⟩) ∧ Vals wx bt [.slice adc nc cc, .slice adm nm cm, .slice adg ng cg, .int .i64 T.sf, .int .i64 T.ch] ∧ Vals wx bu [.slice adc nc cc, .slice adm nm cm, .slice adg ng cg, .int .i64 T.sf, .int .i64 T.ch] ∧ bt ≠ bu ∧ w5.heap.size ≤ bt ∧ w5.heap.size ≤ bu ∧ Below w5.heap.size w5 wx)
  case first =>
    go_region_held3 (fun W => W.cell? ⟨w1.heap.size, 0, none⟩ = some (.slice adc nc cc) ∧ W.cell? ⟨w1.heap.size, 1, none⟩ = some (.slice adm nm cm) ∧ W.cell? ⟨w1.heap.size, 2, none⟩ = some (.slice adg ng cg) ∧ W.cell? ⟨w1.heap.size, 3, none⟩ = some (.int .i64 T.sf) ∧ W.cell? ⟨w1.heap.size, 4, none⟩ = some (.int .i64 T.ch))
      (first | exact HSX.out _ (bel0 _) | exact HSX.out _ (bel1 _ _) | exact HSX.out _ (bel2 _ _ _))
      (fail)
    all_goals
      obtain ⟨x1, x2, x3⟩ := vals_two w5 [.slice adc nc cc, .slice adm nm cm, .slice adg ng cg, .int .i64 T.sf, .int .i64 T.ch] [.slice adc nc cc, .slice adm nm cm, .slice adg ng cg, .int .i64 T.sf, .int .i64 T.ch] 26 26
      go_wp2
      go_meet
      first
      | exact ⟨_, _, rfl, rfl, x1, x2, by omega, Nat.le_refl _, Nat.le_succ _, x3⟩
      | exact ⟨_, _, rfl, rfl, x2, x1, by omega, Nat.le_succ _, Nat.le_refl _, x3⟩
  case rest =>
    obtain ⟨bt, bu, rfl, rfl, vt, vu, hne, hbt, hbu, bw⟩ := hcut
    obtain ⟨cx0, cx1, cx2, cx3, cx4⟩ := HSX.out _ bw
    have ct4 := vt.cell (i := 4) (by simp)
    simp only [List.getD_cons_zero, List.getD_cons_succ] at ct4
    have ft4 := vt.frozen 4
    have ltt := vt.lt
    have ltx := Nat.lt_of_lt_of_le hvx bw.size
    go_upto_region 7 with (fail)
    clear cx0 cx1 cx2 cx3 cx4 ct4 ft4 ltt ltx
    replace vu := vu.other ⟨bt, 4, none⟩ hne (.int .i64 (min (T.ch + 1) 96))
    replace vt := set5_4 vt (.int .i64 (min (T.ch + 1) 96))
    replace bw := bw.setCell (p := ⟨bt, 4, none⟩) hbt (.int .i64 (min (T.ch + 1) 96))
    generalize wc.setCell ⟨bt, 4, none⟩ (.int .i64 (min (T.ch + 1) 96)) = W7 at *
    have HS7 := Lib.hid (fun (W : World) (hs : Same (w1.heap.size) (w1.heap.size + 1) W7 W) => (lcells ((vx.mono bw).same hs (Nat.le_refl _) (Nat.lt_succ_self _))).2.2.2.1)
    have cu3 := vu.cell (i := 3) (by simp)
    simp only [List.getD_cons_zero, List.getD_cons_succ] at cu3
    have fu3 := vu.frozen 3
    have ltu := vu.lt
    go_region_held3 (fun W => W.cell? ⟨w1.heap.size, 3, none⟩ = some (.int .i64 T.sf))
      (first | exact HS7.out _ (Same.refl _ _ _) | exact HS7.out _ ((Same.refl _ _ W7).setCell _ (by dsimp only; omega) _))
      (first | (go_at_call 24; (with_reducible refine (HFO.out _).mono ?_); rintro e wz ⟨rfl, rfl⟩))
    replace vt := (vt.other ⟨bu, 3, none⟩ (Ne.symm hne) (.int .i64 (max T.sf (yn : Int)))).drew
    replace vu := (set5_3 vu (.int .i64 (max T.sf (yn : Int)))).drew
    replace bw := (bw.setCell (p := ⟨bu, 3, none⟩) hbu (.int .i64 (max T.sf (yn : Int)))).drew
    clear cu3 fu3 ltu HS7 HSX HFO
    generalize (W7.setCell ⟨bu, 3, none⟩ (.int .i64 (max T.sf (yn : Int)))).drew = W8 at *
    have cvt0 := vt.cell (i := 0) (by simp)
    have cvt1 := vt.cell (i := 1) (by simp)
    have cvt2 := vt.cell (i := 2) (by simp)
    have cvt3 := vt.cell (i := 3) (by simp)
    have cvt4 := vt.cell (i := 4) (by simp)
    simp only [List.getD_cons_zero, List.getD_cons_succ] at cvt0 cvt1 cvt2 cvt3 cvt4
    have ltvt := vt.lt
    go_wp2_with fail
    clear cvt0 cvt1 cvt2 cvt3 cvt4 ltvt
    have IS := Lib.hid (show InS W8 _ _ _ T from ⟨⟨adc, cc, by rw [HNC.out], rc.mono bw⟩, ⟨adm, cm, by rw [HNM.out], rm.mono bw⟩, ⟨adg, cg, by rw [HNG.out], rg.mono bw⟩⟩)
    refine (HBT.out _ _ _ _ IS.out).mono ?_
    rintro e wt ⟨tv, rfl, b5⟩
    replace vu := vu.mono b5
    replace bw := below_trans bw b5
    clear b5 IS vt
    have cvu0 := vu.cell (i := 0) (by simp)
    have cvu1 := vu.cell (i := 1) (by simp)
    have cvu2 := vu.cell (i := 2) (by simp)
    have cvu3 := vu.cell (i := 3) (by simp)
    have cvu4 := vu.cell (i := 4) (by simp)
    simp only [List.getD_cons_zero, List.getD_cons_succ] at cvu0 cvu1 cvu2 cvu3 cvu4
    have ltvu := vu.lt
    go_wp2_with fail
    clear cvu0 cvu1 cvu2 cvu3 cvu4 ltvu
    have IS := Lib.hid (show InS wt _ _ _ T from ⟨⟨adc, cc, by rw [HNC.out], rc.mono bw⟩, ⟨adm, cm, by rw [HNM.out], rm.mono bw⟩, ⟨adg, cg, by rw [HNG.out], rg.mono bw⟩⟩)
    refine (HBU.out _ _ _ _ IS.out).mono ?_
    rintro e wu ⟨uv, rfl, b5⟩
    replace bw := below_trans bw b5
    clear b5 IS vu
    go_wp2_with fail
    refine (lives_calls _).mono ?_
    rintro e wl ⟨rfl, b5⟩
    replace bw := below_trans bw b5
    go_wp2
    go_ret
    exact ⟨rfl, below_trans B bw⟩

theorem walk_wlooser (S : Scl) (y : Int) (cv mv gv : Value) (w : World) (hS : InS w cv mv gv S) (hI : SclI S) (hy : -9223372036854775808 ≤ y ∧ y < 9223372036854775808) :
    Calls Try.prog 5 #[.agg #[cv, mv, gv, .int .i64 S.sf, .int .i64 S.ch], .int .i64 y] w (RetTrue w) := by
  cases h1 : sclOk (shortS S) with
  | false => exact wlooser_a S y cv mv gv w hS hI hy h1
  | true =>
    cases h2 : dearB (shortS S) with
    | true => exact wlooser_b S y cv mv gv w hS hI hy h1 h2
    | false =>
      by_cases h3 : (bestV (shortS S)).1 = -1
      · exact wlooser_c S y cv mv gv w hS hI hy h1 h2 h3
      · exact wlooser_d S y cv mv gv w hS hI hy h1 h2 h3

end Go.Proofs
