/- The walk of WireBests: whatever comes in, it returns true and changes nothing that was there. -/
import Derived.Test.YtmnalmmffphnpaaBestRef
import Derived.Test.YtmnalmmffphnpaaWMany
import Derived.Test.YtmnalmmffphnpaaBestW
import Derived.Test.YtmnalmmffphnpaaFold
import Derived.Deep.RegionHeld3
import Derived.Deep.QuietTactic
import Derived.BigQuiet
import Derived.Deep.Cut
open Go.RowKit Go.Deep
namespace Go.Proofs
set_option linter.unusedVariables false
set_option linter.unusedSimpArgs false

theorem wbest_all (S : Scl) (cv mv gv : Value) (w : World) (hS : InS w cv mv gv S) (hI : SclI S) (hs : sclOk S = true) :
    Calls Try.prog 20 #[.agg #[cv, mv, gv, .int .i64 S.sf, .int .i64 S.ch]] w fun e w' => ∃ bv, e = .returned (.tuple #[bv, .int .i64 (bZ S), .int .i64 (bE S)]) ∧ InP w' bv (bRes S) ∧ Below w.heap.size w w' := by
  unfold bZ bE bRes
  by_cases h : (bestV S).1 = -1
  · rw [if_pos h, if_pos h, if_pos h]
    exact (wbest_none S cv mv gv w hS hI hs h).mono fun e w' h => ⟨_, h.1, ⟨none, 0, rfl, Nat.le_refl _, Nat.zero_le _, .inl rfl⟩, h.2⟩
  · rw [if_neg h, if_neg h, if_neg h]
    exact (wbest_ok S cv mv gv w hS hI hs h).mono fun e w' ⟨v, h1, h2, h3⟩ => ⟨v, h1, h2, h3⟩

set_option maxRecDepth 100000 in
set_option maxHeartbeats 1000000 in
theorem wbests_a (S : Scl) (cv mv gv : Value) (w : World) (hS : InS w cv mv gv S) (hI : SclI S) (h1 : sclOk (shortS S) = false) :
    Calls Try.prog 4 #[.agg #[cv, mv, gv, .int .i64 S.sf, .int .i64 S.ch]] w (RetTrue w) := by
  obtain ⟨T, hT⟩ : ∃ T, shortS S = T := ⟨_, rfl⟩
  rw [hT] at h1
  have TI : SclI T := by rw [← hT]; exact shortS_I hI
  have SH := fun (W : World) (hb : Below w.heap.size w W) => wshort_calls S cv mv gv W (hS.mono hb)
  rw [hT] at SH
  obtain ⟨⟨bdc, dc, rfl, rc0⟩, ⟨bdm, dm, rfl, rm0⟩, ⟨bdg, dg, rfl, rg0⟩⟩ := hS
  obtain ⟨mc, hmc⟩ : ∃ n, S.cs.length = n := ⟨_, rfl⟩
  obtain ⟨mm, hmm⟩ : ∃ n, S.ms.length = n := ⟨_, rfl⟩
  obtain ⟨mg, hmg⟩ : ∃ n, S.gs.length = n := ⟨_, rfl⟩
  rw [hmc, hmm, hmg] at SH ⊢
  have HSH := Lib.hid SH
  clear SH hT hI rc0 rm0 rg0 hmc hmm hmg
  have RCK := fun (cv mv gv : Value) (W : World) (h : InS W cv mv gv T) => rscheck_calls T cv mv gv W h TI
  rw [h1] at RCK
  have BB := fun (cv mv gv : Value) (W : World) (h : InS W cv mv gv T) => wbest_bad T cv mv gv W h TI h1
  simp only [Bool.false_eq_true, if_true, if_false] at RCK
  have HRCK := Lib.hid RCK
  have HBB := Lib.hid BB
  clear RCK BB TI h1
  have vs := Vals.newL w (w.heap.size) [.slice bdc mc dc, .slice bdm mm dm, .slice bdg mg dg, .int .i64 S.sf, .int .i64 S.ch] 26 rfl
  have bb := below_alloc w (.cells #[.slice bdc mc dc, .slice bdm mm dm, .slice bdg mg dg, .int .i64 S.sf, .int .i64 S.ch] 26)
  have B := bb
  clear bb
  go_enter Try.func4, Try.ntmps4
  go_upto_region 1 with (fail)
  generalize (w.alloc (.cells #[.slice bdc mc dc, .slice bdm mm dm, .slice bdg mg dg, .int .i64 S.sf, .int .i64 S.ch] 26)) = w0 at *
  have cvs0 := vs.cell (i := 0) (by simp)
  have cvs1 := vs.cell (i := 1) (by simp)
  have cvs2 := vs.cell (i := 2) (by simp)
  have cvs3 := vs.cell (i := 3) (by simp)
  have cvs4 := vs.cell (i := 4) (by simp)
  simp only [List.getD_cons_zero, List.getD_cons_succ] at cvs0 cvs1 cvs2 cvs3 cvs4
  have ltvs := vs.lt
  go_wp2_with fail
  clear cvs0 cvs1 cvs2 cvs3 cvs4 ltvs
  clear vs
  refine (HSH.out _ B).mono ?_
  rintro e w1 ⟨cv, mv, gv, rfl, hs1, b1⟩
  replace B := below_trans B b1
  clear b1
  obtain ⟨⟨adc, cc, rfl, rc⟩, ⟨adm, cm, rfl, rm⟩, ⟨adg, cg, rfl, rg⟩⟩ := hs1
  obtain ⟨nc, hnc⟩ : ∃ n, T.cs.length = n := ⟨_, rfl⟩
  obtain ⟨nm, hnm⟩ : ∃ n, T.ms.length = n := ⟨_, rfl⟩
  obtain ⟨ng, hng⟩ : ∃ n, T.gs.length = n := ⟨_, rfl⟩
  rw [hnc, hnm, hng]
  have HNC := Lib.hid hnc
  have HNM := Lib.hid hnm
  have HNG := Lib.hid hng
  clear hnc hnm hng HSH
  go_upto_region 2 with (fail)
  have vx := Vals.newL w1 w1.heap.size [.slice adc nc cc, .slice adm nm cm, .slice adg ng cg, .int .i64 T.sf, .int .i64 T.ch] 26 rfl
  have bb := below_alloc w1 (.cells #[.slice adc nc cc, .slice adm nm cm, .slice adg ng cg, .int .i64 T.sf, .int .i64 T.ch] 26)
  replace rc := rc.mono bb
  replace rm := rm.mono bb
  replace rg := rg.mono bb
  replace B := below_trans B bb
  clear bb
  generalize w1.alloc (.cells #[.slice adc nc cc, .slice adm nm cm, .slice adg ng cg, .int .i64 T.sf, .int .i64 T.ch] 26) = w2 at *
  have cvx0 := vx.cell (i := 0) (by simp)
  have cvx1 := vx.cell (i := 1) (by simp)
  have cvx2 := vx.cell (i := 2) (by simp)
  have cvx3 := vx.cell (i := 3) (by simp)
  have cvx4 := vx.cell (i := 4) (by simp)
  simp only [List.getD_cons_zero, List.getD_cons_succ] at cvx0 cvx1 cvx2 cvx3 cvx4
  have ltvx := vx.lt
  go_wp2_with fail
  clear cvx0 cvx1 cvx2 cvx3 cvx4 ltvx
  refine (HRCK.out _ _ _ _ ⟨⟨adc, cc, by rw [HNC.out], rc⟩, ⟨adm, cm, by rw [HNM.out], rm⟩, ⟨adg, cg, by rw [HNG.out], rg⟩⟩).mono ?_
  rintro e w3 ⟨rfl, b3⟩
  replace rc := rc.mono b3
  replace rm := rm.mono b3
  replace rg := rg.mono b3
  replace vx := vx.mono b3
  replace B := below_trans B b3
  clear b3
  have cvx0 := vx.cell (i := 0) (by simp)
  have cvx1 := vx.cell (i := 1) (by simp)
  have cvx2 := vx.cell (i := 2) (by simp)
  have cvx3 := vx.cell (i := 3) (by simp)
  have cvx4 := vx.cell (i := 4) (by simp)
  simp only [List.getD_cons_zero, List.getD_cons_succ] at cvx0 cvx1 cvx2 cvx3 cvx4
  have ltvx := vx.lt
  go_wp2_with fail
  clear cvx0 cvx1 cvx2 cvx3 cvx4 ltvx
  refine (HBB.out _ _ _ _ ⟨⟨adc, cc, by rw [HNC.out], rc⟩, ⟨adm, cm, by rw [HNM.out], rm⟩, ⟨adg, cg, by rw [HNG.out], rg⟩⟩).mono ?_
  rintro e w4 ⟨rfl, b4⟩
  replace rc := rc.mono b4
  replace rm := rm.mono b4
  replace rg := rg.mono b4
  replace vx := vx.mono b4
  replace B := below_trans B b4
  clear b4
  go_wp2_with fail
  refine (lives_calls _).mono ?_
  rintro e w5 ⟨rfl, b5⟩
  replace rc := rc.mono b5
  replace rm := rm.mono b5
  replace rg := rg.mono b5
  replace vx := vx.mono b5
  replace B := below_trans B b5
  clear b5
  go_wp2
  go_ret
  exact ⟨rfl, B⟩

set_option maxRecDepth 100000 in
set_option maxHeartbeats 1000000 in
theorem wbests_b (S : Scl) (cv mv gv : Value) (w : World) (hS : InS w cv mv gv S) (hI : SclI S) (h1 : sclOk (shortS S) = true) (h2 : manyB (shortS S) = true) :
    Calls Try.prog 4 #[.agg #[cv, mv, gv, .int .i64 S.sf, .int .i64 S.ch]] w (RetTrue w) := by
  obtain ⟨T, hT⟩ : ∃ T, shortS S = T := ⟨_, rfl⟩
  rw [hT] at h1
  rw [hT] at h2
  have TI : SclI T := by rw [← hT]; exact shortS_I hI
  have SH := fun (W : World) (hb : Below w.heap.size w W) => wshort_calls S cv mv gv W (hS.mono hb)
  rw [hT] at SH
  obtain ⟨⟨bdc, dc, rfl, rc0⟩, ⟨bdm, dm, rfl, rm0⟩, ⟨bdg, dg, rfl, rg0⟩⟩ := hS
  obtain ⟨mc, hmc⟩ : ∃ n, S.cs.length = n := ⟨_, rfl⟩
  obtain ⟨mm, hmm⟩ : ∃ n, S.ms.length = n := ⟨_, rfl⟩
  obtain ⟨mg, hmg⟩ : ∃ n, S.gs.length = n := ⟨_, rfl⟩
  rw [hmc, hmm, hmg] at SH ⊢
  have HSH := Lib.hid SH
  clear SH hT hI rc0 rm0 rg0 hmc hmm hmg
  have RCK := fun (cv mv gv : Value) (W : World) (h : InS W cv mv gv T) => rscheck_calls T cv mv gv W h TI
  rw [h1] at RCK
  have MA := fun (cv mv gv : Value) (W : World) (h : InS W cv mv gv T) => many_calls T cv mv gv W h h1
  rw [h2] at MA
  simp only [Bool.false_eq_true, if_true, if_false] at RCK
  have HRCK := Lib.hid RCK
  have HMA := Lib.hid MA
  clear RCK MA TI h1 h2
  have vs := Vals.newL w (w.heap.size) [.slice bdc mc dc, .slice bdm mm dm, .slice bdg mg dg, .int .i64 S.sf, .int .i64 S.ch] 26 rfl
  have bb := below_alloc w (.cells #[.slice bdc mc dc, .slice bdm mm dm, .slice bdg mg dg, .int .i64 S.sf, .int .i64 S.ch] 26)
  have B := bb
  clear bb
  go_enter Try.func4, Try.ntmps4
  go_upto_region 1 with (fail)
  generalize (w.alloc (.cells #[.slice bdc mc dc, .slice bdm mm dm, .slice bdg mg dg, .int .i64 S.sf, .int .i64 S.ch] 26)) = w0 at *
  have cvs0 := vs.cell (i := 0) (by simp)
  have cvs1 := vs.cell (i := 1) (by simp)
  have cvs2 := vs.cell (i := 2) (by simp)
  have cvs3 := vs.cell (i := 3) (by simp)
  have cvs4 := vs.cell (i := 4) (by simp)
  simp only [List.getD_cons_zero, List.getD_cons_succ] at cvs0 cvs1 cvs2 cvs3 cvs4
  have ltvs := vs.lt
  go_wp2_with fail
  clear cvs0 cvs1 cvs2 cvs3 cvs4 ltvs
  clear vs
  refine (HSH.out _ B).mono ?_
  rintro e w1 ⟨cv, mv, gv, rfl, hs1, b1⟩
  replace B := below_trans B b1
  clear b1
  obtain ⟨⟨adc, cc, rfl, rc⟩, ⟨adm, cm, rfl, rm⟩, ⟨adg, cg, rfl, rg⟩⟩ := hs1
  obtain ⟨nc, hnc⟩ : ∃ n, T.cs.length = n := ⟨_, rfl⟩
  obtain ⟨nm, hnm⟩ : ∃ n, T.ms.length = n := ⟨_, rfl⟩
  obtain ⟨ng, hng⟩ : ∃ n, T.gs.length = n := ⟨_, rfl⟩
  rw [hnc, hnm, hng]
  have HNC := Lib.hid hnc
  have HNM := Lib.hid hnm
  have HNG := Lib.hid hng
  clear hnc hnm hng HSH
  go_upto_region 2 with (fail)
  have vx := Vals.newL w1 w1.heap.size [.slice adc nc cc, .slice adm nm cm, .slice adg ng cg, .int .i64 T.sf, .int .i64 T.ch] 26 rfl
  have bb := below_alloc w1 (.cells #[.slice adc nc cc, .slice adm nm cm, .slice adg ng cg, .int .i64 T.sf, .int .i64 T.ch] 26)
  replace rc := rc.mono bb
  replace rm := rm.mono bb
  replace rg := rg.mono bb
  replace B := below_trans B bb
  clear bb
  generalize w1.alloc (.cells #[.slice adc nc cc, .slice adm nm cm, .slice adg ng cg, .int .i64 T.sf, .int .i64 T.ch] 26) = w2 at *
  have cvx0 := vx.cell (i := 0) (by simp)
  have cvx1 := vx.cell (i := 1) (by simp)
  have cvx2 := vx.cell (i := 2) (by simp)
  have cvx3 := vx.cell (i := 3) (by simp)
  have cvx4 := vx.cell (i := 4) (by simp)
  simp only [List.getD_cons_zero, List.getD_cons_succ] at cvx0 cvx1 cvx2 cvx3 cvx4
  have ltvx := vx.lt
  go_wp2_with fail
  clear cvx0 cvx1 cvx2 cvx3 cvx4 ltvx
  refine (HRCK.out _ _ _ _ ⟨⟨adc, cc, by rw [HNC.out], rc⟩, ⟨adm, cm, by rw [HNM.out], rm⟩, ⟨adg, cg, by rw [HNG.out], rg⟩⟩).mono ?_
  rintro e w3 ⟨rfl, b3⟩
  replace rc := rc.mono b3
  replace rm := rm.mono b3
  replace rg := rg.mono b3
  replace vx := vx.mono b3
  replace B := below_trans B b3
  clear b3
  have cvx0 := vx.cell (i := 0) (by simp)
  have cvx1 := vx.cell (i := 1) (by simp)
  have cvx2 := vx.cell (i := 2) (by simp)
  have cvx3 := vx.cell (i := 3) (by simp)
  have cvx4 := vx.cell (i := 4) (by simp)
  simp only [List.getD_cons_zero, List.getD_cons_succ] at cvx0 cvx1 cvx2 cvx3 cvx4
  have ltvx := vx.lt
  go_wp2_with fail
  clear cvx0 cvx1 cvx2 cvx3 cvx4 ltvx
  refine (HMA.out _ _ _ _ ⟨⟨adc, cc, by rw [HNC.out], rc⟩, ⟨adm, cm, by rw [HNM.out], rm⟩, ⟨adg, cg, by rw [HNG.out], rg⟩⟩).mono ?_
  rintro e w4 ⟨rfl, b4⟩
  replace rc := rc.mono b4
  replace rm := rm.mono b4
  replace rg := rg.mono b4
  replace vx := vx.mono b4
  replace B := below_trans B b4
  clear b4
  go_wp2_with fail
  refine (lives_calls _).mono ?_
  rintro e w5 ⟨rfl, b5⟩
  replace rc := rc.mono b5
  replace rm := rm.mono b5
  replace rg := rg.mono b5
  replace vx := vx.mono b5
  replace B := below_trans B b5
  clear b5
  go_wp2
  go_ret
  exact ⟨rfl, B⟩

set_option maxRecDepth 100000 in
set_option maxHeartbeats 1000000 in
theorem wbests_c (S : Scl) (cv mv gv : Value) (w : World) (hS : InS w cv mv gv S) (hI : SclI S) (h1 : sclOk (shortS S) = true) (h2 : manyB (shortS S) = false) :
    Calls Try.prog 4 #[.agg #[cv, mv, gv, .int .i64 S.sf, .int .i64 S.ch]] w (RetTrue w) := by
  obtain ⟨T, hT⟩ : ∃ T, shortS S = T := ⟨_, rfl⟩
  rw [hT] at h1
  rw [hT] at h2
  have TI : SclI T := by rw [← hT]; exact shortS_I hI
  have SH := fun (W : World) (hb : Below w.heap.size w W) => wshort_calls S cv mv gv W (hS.mono hb)
  rw [hT] at SH
  obtain ⟨⟨bdc, dc, rfl, rc0⟩, ⟨bdm, dm, rfl, rm0⟩, ⟨bdg, dg, rfl, rg0⟩⟩ := hS
  obtain ⟨mc, hmc⟩ : ∃ n, S.cs.length = n := ⟨_, rfl⟩
  obtain ⟨mm, hmm⟩ : ∃ n, S.ms.length = n := ⟨_, rfl⟩
  obtain ⟨mg, hmg⟩ : ∃ n, S.gs.length = n := ⟨_, rfl⟩
  rw [hmc, hmm, hmg] at SH ⊢
  have HSH := Lib.hid SH
  clear SH hT hI rc0 rm0 rg0 hmc hmm hmg
  have RCK := fun (cv mv gv : Value) (W : World) (h : InS W cv mv gv T) => rscheck_calls T cv mv gv W h TI
  rw [h1] at RCK
  have MA := fun (cv mv gv : Value) (W : World) (h : InS W cv mv gv T) => many_calls T cv mv gv W h h1
  rw [h2] at MA
  have BE := fun (cv mv gv : Value) (W : World) (h : InS W cv mv gv T) => wbest_all T cv mv gv W h TI h1
  have BR := fun (cv mv gv : Value) (W : World) (h : InS W cv mv gv T) => rbest_calls T cv mv gv W h h1
  obtain ⟨z, hz⟩ : ∃ z, bZ T = z := ⟨_, rfl⟩
  obtain ⟨ez, hez⟩ : ∃ z, bE T = z := ⟨_, rfl⟩
  obtain ⟨PP, hPP⟩ : ∃ z, bRes T = z := ⟨_, rfl⟩
  rw [hz, hez, hPP] at BE BR
  clear hz hez hPP
  simp only [Bool.false_eq_true, if_true, if_false] at RCK
  have HRCK := Lib.hid RCK
  have HMA := Lib.hid MA
  have HBE := Lib.hid BE
  have HBR := Lib.hid BR
  clear RCK MA BE BR TI h1 h2
  have vs := Vals.newL w (w.heap.size) [.slice bdc mc dc, .slice bdm mm dm, .slice bdg mg dg, .int .i64 S.sf, .int .i64 S.ch] 26 rfl
  have bb := below_alloc w (.cells #[.slice bdc mc dc, .slice bdm mm dm, .slice bdg mg dg, .int .i64 S.sf, .int .i64 S.ch] 26)
  have B := bb
  clear bb
  go_enter Try.func4, Try.ntmps4
  go_upto_region 1 with (fail)
  generalize (w.alloc (.cells #[.slice bdc mc dc, .slice bdm mm dm, .slice bdg mg dg, .int .i64 S.sf, .int .i64 S.ch] 26)) = w0 at *
  have cvs0 := vs.cell (i := 0) (by simp)
  have cvs1 := vs.cell (i := 1) (by simp)
  have cvs2 := vs.cell (i := 2) (by simp)
  have cvs3 := vs.cell (i := 3) (by simp)
  have cvs4 := vs.cell (i := 4) (by simp)
  simp only [List.getD_cons_zero, List.getD_cons_succ] at cvs0 cvs1 cvs2 cvs3 cvs4
  have ltvs := vs.lt
  go_wp2_with fail
  clear cvs0 cvs1 cvs2 cvs3 cvs4 ltvs
  clear vs
  refine (HSH.out _ B).mono ?_
  rintro e w1 ⟨cv, mv, gv, rfl, hs1, b1⟩
  replace B := below_trans B b1
  clear b1
  obtain ⟨⟨adc, cc, rfl, rc⟩, ⟨adm, cm, rfl, rm⟩, ⟨adg, cg, rfl, rg⟩⟩ := hs1
  obtain ⟨nc, hnc⟩ : ∃ n, T.cs.length = n := ⟨_, rfl⟩
  obtain ⟨nm, hnm⟩ : ∃ n, T.ms.length = n := ⟨_, rfl⟩
  obtain ⟨ng, hng⟩ : ∃ n, T.gs.length = n := ⟨_, rfl⟩
  rw [hnc, hnm, hng]
  have HNC := Lib.hid hnc
  have HNM := Lib.hid hnm
  have HNG := Lib.hid hng
  clear hnc hnm hng HSH
  go_upto_region 2 with (fail)
  have vx := Vals.newL w1 w1.heap.size [.slice adc nc cc, .slice adm nm cm, .slice adg ng cg, .int .i64 T.sf, .int .i64 T.ch] 26 rfl
  have bb := below_alloc w1 (.cells #[.slice adc nc cc, .slice adm nm cm, .slice adg ng cg, .int .i64 T.sf, .int .i64 T.ch] 26)
  replace rc := rc.mono bb
  replace rm := rm.mono bb
  replace rg := rg.mono bb
  replace B := below_trans B bb
  clear bb
  generalize w1.alloc (.cells #[.slice adc nc cc, .slice adm nm cm, .slice adg ng cg, .int .i64 T.sf, .int .i64 T.ch] 26) = w2 at *
  have cvx0 := vx.cell (i := 0) (by simp)
  have cvx1 := vx.cell (i := 1) (by simp)
  have cvx2 := vx.cell (i := 2) (by simp)
  have cvx3 := vx.cell (i := 3) (by simp)
  have cvx4 := vx.cell (i := 4) (by simp)
  simp only [List.getD_cons_zero, List.getD_cons_succ] at cvx0 cvx1 cvx2 cvx3 cvx4
  have ltvx := vx.lt
  go_wp2_with fail
  clear cvx0 cvx1 cvx2 cvx3 cvx4 ltvx
  refine (HRCK.out _ _ _ _ ⟨⟨adc, cc, by rw [HNC.out], rc⟩, ⟨adm, cm, by rw [HNM.out], rm⟩, ⟨adg, cg, by rw [HNG.out], rg⟩⟩).mono ?_
  rintro e w3 ⟨rfl, b3⟩
  replace rc := rc.mono b3
  replace rm := rm.mono b3
  replace rg := rg.mono b3
  replace vx := vx.mono b3
  replace B := below_trans B b3
  clear b3
  have cvx0 := vx.cell (i := 0) (by simp)
  have cvx1 := vx.cell (i := 1) (by simp)
  have cvx2 := vx.cell (i := 2) (by simp)
  have cvx3 := vx.cell (i := 3) (by simp)
  have cvx4 := vx.cell (i := 4) (by simp)
  simp only [List.getD_cons_zero, List.getD_cons_succ] at cvx0 cvx1 cvx2 cvx3 cvx4
  have ltvx := vx.lt
  go_wp2_with fail
  clear cvx0 cvx1 cvx2 cvx3 cvx4 ltvx
  refine (HMA.out _ _ _ _ ⟨⟨adc, cc, by rw [HNC.out], rc⟩, ⟨adm, cm, by rw [HNM.out], rm⟩, ⟨adg, cg, by rw [HNG.out], rg⟩⟩).mono ?_
  rintro e w4 ⟨rfl, b4⟩
  replace rc := rc.mono b4
  replace rm := rm.mono b4
  replace rg := rg.mono b4
  replace vx := vx.mono b4
  replace B := below_trans B b4
  clear b4
  have cvx0 := vx.cell (i := 0) (by simp)
  have cvx1 := vx.cell (i := 1) (by simp)
  have cvx2 := vx.cell (i := 2) (by simp)
  have cvx3 := vx.cell (i := 3) (by simp)
  have cvx4 := vx.cell (i := 4) (by simp)
  simp only [List.getD_cons_zero, List.getD_cons_succ] at cvx0 cvx1 cvx2 cvx3 cvx4
  have ltvx := vx.lt
  go_wp2_with fail
  clear cvx0 cvx1 cvx2 cvx3 cvx4 ltvx
  refine (HBE.out _ _ _ _ ⟨⟨adc, cc, by rw [HNC.out], rc⟩, ⟨adm, cm, by rw [HNM.out], rm⟩, ⟨adg, cg, by rw [HNG.out], rg⟩⟩).mono ?_
  rintro e w5 ⟨bv, rfl, hb, b5⟩
  replace rc := rc.mono b5
  replace rm := rm.mono b5
  replace rg := rg.mono b5
  replace vx := vx.mono b5
  replace B := below_trans B b5
  clear b5
  have cvx0 := vx.cell (i := 0) (by simp)
  have cvx1 := vx.cell (i := 1) (by simp)
  have cvx2 := vx.cell (i := 2) (by simp)
  have cvx3 := vx.cell (i := 3) (by simp)
  have cvx4 := vx.cell (i := 4) (by simp)
  simp only [List.getD_cons_zero, List.getD_cons_succ] at cvx0 cvx1 cvx2 cvx3 cvx4
  have ltvx := vx.lt
  go_wp2_with fail
  clear cvx0 cvx1 cvx2 cvx3 cvx4 ltvx
  refine (HBR.out _ _ _ _ ⟨⟨adc, cc, by rw [HNC.out], rc⟩, ⟨adm, cm, by rw [HNM.out], rm⟩, ⟨adg, cg, by rw [HNG.out], rg⟩⟩).mono ?_
  rintro e w6 ⟨qv, rfl, hq, b6⟩
  replace rc := rc.mono b6
  replace rm := rm.mono b6
  replace rg := rg.mono b6
  replace vx := vx.mono b6
  replace hb := hb.mono b6
  replace B := below_trans B b6
  clear b6
  have hb2 := Lib.hid hb
  have hq2 := Lib.hid hq
  go_wp2_with fail
  refine (alike_calls _ _ _ _ hb2.out hq2.out).mono ?_
  rintro e w7 ⟨rfl, b7⟩
  replace rc := rc.mono b7
  replace rm := rm.mono b7
  replace rg := rg.mono b7
  replace vx := vx.mono b7
  replace hb := hb.mono b7
  replace hq := hq.mono b7
  replace B := below_trans B b7
  clear b7
  go_wp2_with fail
  refine (lives_calls _).mono ?_
  rintro e w8 ⟨rfl, b8⟩
  replace rc := rc.mono b8
  replace rm := rm.mono b8
  replace rg := rg.mono b8
  replace vx := vx.mono b8
  replace hb := hb.mono b8
  replace hq := hq.mono b8
  replace B := below_trans B b8
  clear b8
  go_wp2
  go_ret
  exact ⟨rfl, B⟩

theorem walk_wbests (S : Scl) (cv mv gv : Value) (w : World) (hS : InS w cv mv gv S) (hI : SclI S) :
    Calls Try.prog 4 #[.agg #[cv, mv, gv, .int .i64 S.sf, .int .i64 S.ch]] w (RetTrue w) := by
  cases h1 : sclOk (shortS S) with
  | false => exact wbests_a S cv mv gv w hS hI h1
  | true =>
    cases h2 : manyB (shortS S) with
    | true => exact wbests_b S cv mv gv w hS hI h1 h2
    | false => exact wbests_c S cv mv gv w hS hI h1 h2

end Go.Proofs
