/- The walk of WireChecks: whatever comes in, it returns true and changes nothing that was there. -/
import Derived.Test.YtmnalmmffphnpaaWOpen
import Derived.Deep.QuietTactic
import Derived.BigQuiet
import Derived.Deep.Cut
open Go.RowKit Go.Deep
namespace Go.Proofs
set_option linter.unusedVariables false
set_option linter.unusedSimpArgs false

set_option maxRecDepth 100000 in
set_option maxHeartbeats 1000000 in
theorem wlchecks_a (S : Scl) (P : List Pk) (cv mv gv pv : Value) (w : World) (hS : InS w cv mv gv S) (hI : SclI S) (hP : InP w pv P) (hPI : PksI P) (h1 : sclOk (shortS S) = false) (h2 : (shortS S) = (shortS S) ∧ (P.take 97) = (P.take 97)) :
    Calls Try.prog 3 #[.agg #[cv, mv, gv, .int .i64 S.sf, .int .i64 S.ch], pv] w (RetTrue w) := by
  obtain ⟨T, hT⟩ : ∃ T, shortS S = T := ⟨_, rfl⟩
  obtain ⟨Q, hQ⟩ : ∃ Q, P.take 97 = Q := ⟨_, rfl⟩
  rw [hT] at h1
  rw [hT, hQ] at h2
  have TI : SclI T := by rw [← hT]; exact shortS_I hI
  have QI : PksI Q := by rw [← hQ]; exact fun p hp => hPI p (List.mem_of_mem_take hp)
  have tl : T.ms.length ≤ 1000000000000 ∧ T.gs.length ≤ 1000000000000 := by
    rw [← hT]
    unfold shortS
    dsimp only
    rw [List.length_map, List.length_take, List.length_take]
    omega
  have SH := fun (W : World) (hb : Below w.heap.size w W) => wshort_calls S cv mv gv W (hS.mono hb)
  have PK := fun (W : World) (hb : Below w.heap.size w W) => picks_calls pv P W (hP.mono hb)
  rw [hT] at SH
  rw [hQ] at PK
  obtain ⟨⟨bdc, dc, rfl, rc0⟩, ⟨bdm, dm, rfl, rm0⟩, ⟨bdg, dg, rfl, rg0⟩⟩ := hS
  obtain ⟨bdp, dp, rfl, rp0⟩ := hP
  obtain ⟨mc, hmc⟩ : ∃ n, S.cs.length = n := ⟨_, rfl⟩
  obtain ⟨mm, hmm⟩ : ∃ n, S.ms.length = n := ⟨_, rfl⟩
  obtain ⟨mg, hmg⟩ : ∃ n, S.gs.length = n := ⟨_, rfl⟩
  obtain ⟨mp, hmp⟩ : ∃ n, P.length = n := ⟨_, rfl⟩
  rw [hmc, hmm, hmg] at SH ⊢
  rw [hmp] at PK ⊢
  have HSH := Lib.hid SH
  have HPK := Lib.hid PK
  clear SH PK hT hQ hI hPI rc0 rm0 rg0 rp0 hmc hmm hmg hmp
  have CK := fun (cv mv gv : Value) (W : World) (h : InS W cv mv gv T) => scheck_calls T cv mv gv W h TI
  have RCK := fun (cv mv gv : Value) (W : World) (h : InS W cv mv gv T) => rscheck_calls T cv mv gv W h TI
  rw [h1] at CK RCK
  have hk : fitsCode T Q = 1 := by unfold fitsCode; rw [h1]; rfl
  have CO := fun (cv mv gv pv : Value) (W : World) (h : InS W cv mv gv T) (hp : InP W pv Q) => wCost_err1 T Q cv mv gv pv W h TI hp QI hk
  have PU := fun (cv mv gv pv : Value) (W : World) (h : InS W cv mv gv T) (hp : InP W pv Q) => wPull_err1 T Q cv mv gv pv W h TI hp QI hk
  clear hk
  simp only [Bool.false_eq_true, if_true, if_false] at CK RCK CO
  have HCK := Lib.hid CK
  have HRCK := Lib.hid RCK
  have HCO := Lib.hid CO
  have HPU := Lib.hid PU
  clear CK RCK CO PU TI QI tl h1 h2
  have vs := Vals.newL w (w.heap.size) [.slice bdc mc dc, .slice bdm mm dm, .slice bdg mg dg, .int .i64 S.sf, .int .i64 S.ch] 26 rfl
  have bb := below_alloc w (.cells #[.slice bdc mc dc, .slice bdm mm dm, .slice bdg mg dg, .int .i64 S.sf, .int .i64 S.ch] 26)
  have B := bb
  clear bb
  go_enter Try.func3, Try.ntmps3
  go_upto_region 1 with (fail)
  generalize (w.alloc (.cells #[.slice bdc mc dc, .slice bdm mm dm, .slice bdg mg dg, .int .i64 S.sf, .int .i64 S.ch] 26)) = w0 at *
  have cvs0 := vs.cell (i := 0) (by simp)
  have cvs1 := vs.cell (i := 1) (by simp)
  have cvs2 := vs.cell (i := 2) (by simp)
  have cvs3 := vs.cell (i := 3) (by simp)
  have cvs4 := vs.cell (i := 4) (by simp)
  simp only [List.getD_cons_zero, List.getD_cons_succ] at cvs0 cvs1 cvs2 cvs3 cvs4
  have ltvs := vs.lt
  go_wp2_with fail
  clear cvs0 cvs1 cvs2 cvs3 cvs4 ltvs
  clear vs
  refine (HSH.out _ B).mono ?_
  rintro e w1 ⟨cv, mv, gv, rfl, hs1, b1⟩
  replace B := below_trans B b1
  clear b1
  obtain ⟨⟨adc, cc, rfl, rc⟩, ⟨adm, cm, rfl, rm⟩, ⟨adg, cg, rfl, rg⟩⟩ := hs1
  obtain ⟨nc, hnc⟩ : ∃ n, T.cs.length = n := ⟨_, rfl⟩
  obtain ⟨nm, hnm⟩ : ∃ n, T.ms.length = n := ⟨_, rfl⟩
  obtain ⟨ng, hng⟩ : ∃ n, T.gs.length = n := ⟨_, rfl⟩
  rw [hnc, hnm, hng]
  have HNC := Lib.hid hnc
  have HNM := Lib.hid hnm
  have HNG := Lib.hid hng
  clear hnc hnm hng HSH
  go_wp2_with fail
  refine (HPK.out _ B).mono ?_
  rintro e w2 ⟨pv, rfl, hp1, _, b2⟩
  replace rc := rc.mono b2
  replace rm := rm.mono b2
  replace rg := rg.mono b2
  replace B := below_trans B b2
  clear b2
  obtain ⟨adp, cp, rfl, rp⟩ := hp1
  obtain ⟨np, hnp⟩ : ∃ n, Q.length = n := ⟨_, rfl⟩
  rw [hnp]
  have HNP := Lib.hid hnp
  clear hnp HPK
  go_upto_region 2 with (fail)
  have vx := Vals.newL w2 w2.heap.size [.slice adc nc cc, .slice adm nm cm, .slice adg ng cg, .int .i64 T.sf, .int .i64 T.ch] 26 rfl
  have bb := below_alloc w2 (.cells #[.slice adc nc cc, .slice adm nm cm, .slice adg ng cg, .int .i64 T.sf, .int .i64 T.ch] 26)
  replace rc := rc.mono bb
  replace rm := rm.mono bb
  replace rg := rg.mono bb
  replace rp := rp.mono bb
  replace B := below_trans B bb
  clear bb
  generalize w2.alloc (.cells #[.slice adc nc cc, .slice adm nm cm, .slice adg ng cg, .int .i64 T.sf, .int .i64 T.ch] 26) = w3 at *
  have cvx0 := vx.cell (i := 0) (by simp)
  have cvx1 := vx.cell (i := 1) (by simp)
  have cvx2 := vx.cell (i := 2) (by simp)
  have cvx3 := vx.cell (i := 3) (by simp)
  have cvx4 := vx.cell (i := 4) (by simp)
  simp only [List.getD_cons_zero, List.getD_cons_succ] at cvx0 cvx1 cvx2 cvx3 cvx4
  have ltvx := vx.lt
  go_wp2_with fail
  clear cvx0 cvx1 cvx2 cvx3 cvx4 ltvx
  refine (HRCK.out _ _ _ _ ⟨⟨adc, cc, by rw [HNC.out], rc⟩, ⟨adm, cm, by rw [HNM.out], rm⟩, ⟨adg, cg, by rw [HNG.out], rg⟩⟩).mono ?_
  rintro e w4 ⟨rfl, b4⟩
  replace rc := rc.mono b4
  replace rm := rm.mono b4
  replace rg := rg.mono b4
  replace rp := rp.mono b4
  replace vx := vx.mono b4
  replace B := below_trans B b4
  clear b4
  have cvx0 := vx.cell (i := 0) (by simp)
  have cvx1 := vx.cell (i := 1) (by simp)
  have cvx2 := vx.cell (i := 2) (by simp)
  have cvx3 := vx.cell (i := 3) (by simp)
  have cvx4 := vx.cell (i := 4) (by simp)
  simp only [List.getD_cons_zero, List.getD_cons_succ] at cvx0 cvx1 cvx2 cvx3 cvx4
  have ltvx := vx.lt
  go_wp2_with fail
  clear cvx0 cvx1 cvx2 cvx3 cvx4 ltvx
  refine (HCO.out _ _ _ _ _ ⟨⟨adc, cc, by rw [HNC.out], rc⟩, ⟨adm, cm, by rw [HNM.out], rm⟩, ⟨adg, cg, by rw [HNG.out], rg⟩⟩ ⟨adp, cp, by rw [HNP.out], rp⟩).mono ?_
  rintro e w5 ⟨rfl, b5⟩
  replace rc := rc.mono b5
  replace rm := rm.mono b5
  replace rg := rg.mono b5
  replace rp := rp.mono b5
  replace vx := vx.mono b5
  replace B := below_trans B b5
  clear b5
  have cvx0 := vx.cell (i := 0) (by simp)
  have cvx1 := vx.cell (i := 1) (by simp)
  have cvx2 := vx.cell (i := 2) (by simp)
  have cvx3 := vx.cell (i := 3) (by simp)
  have cvx4 := vx.cell (i := 4) (by simp)
  simp only [List.getD_cons_zero, List.getD_cons_succ] at cvx0 cvx1 cvx2 cvx3 cvx4
  have ltvx := vx.lt
  go_wp2_with fail
  clear cvx0 cvx1 cvx2 cvx3 cvx4 ltvx
  refine (HPU.out _ _ _ _ _ ⟨⟨adc, cc, by rw [HNC.out], rc⟩, ⟨adm, cm, by rw [HNM.out], rm⟩, ⟨adg, cg, by rw [HNG.out], rg⟩⟩ ⟨adp, cp, by rw [HNP.out], rp⟩).mono ?_
  rintro e w6 ⟨rfl, b6⟩
  replace rc := rc.mono b6
  replace rm := rm.mono b6
  replace rg := rg.mono b6
  replace rp := rp.mono b6
  replace vx := vx.mono b6
  replace B := below_trans B b6
  clear b6
  have cvx0 := vx.cell (i := 0) (by simp)
  have cvx1 := vx.cell (i := 1) (by simp)
  have cvx2 := vx.cell (i := 2) (by simp)
  have cvx3 := vx.cell (i := 3) (by simp)
  have cvx4 := vx.cell (i := 4) (by simp)
  simp only [List.getD_cons_zero, List.getD_cons_succ] at cvx0 cvx1 cvx2 cvx3 cvx4
  have ltvx := vx.lt
  go_wp2_with fail
  clear cvx0 cvx1 cvx2 cvx3 cvx4 ltvx
  refine (HCK.out _ _ _ _ ⟨⟨adc, cc, by rw [HNC.out], rc⟩, ⟨adm, cm, by rw [HNM.out], rm⟩, ⟨adg, cg, by rw [HNG.out], rg⟩⟩).mono ?_
  rintro e w7 ⟨rfl, b7⟩
  replace rc := rc.mono b7
  replace rm := rm.mono b7
  replace rg := rg.mono b7
  replace rp := rp.mono b7
  replace vx := vx.mono b7
  replace B := below_trans B b7
  clear b7
  go_wp2_with fail
  refine (lives_calls _).mono ?_
  rintro e w8 ⟨rfl, b8⟩
  replace rc := rc.mono b8
  replace rm := rm.mono b8
  replace rg := rg.mono b8
  replace rp := rp.mono b8
  replace vx := vx.mono b8
  replace B := below_trans B b8
  clear b8
  go_wp2
  go_ret
  exact ⟨rfl, B⟩

set_option maxRecDepth 100000 in
set_option maxHeartbeats 1000000 in
theorem wlchecks_b (S : Scl) (P : List Pk) (cv mv gv pv : Value) (w : World) (hS : InS w cv mv gv S) (hI : SclI S) (hP : InP w pv P) (hPI : PksI P) (h1 : sclOk (shortS S) = true) (h2 : fitsB (shortS S) (P.take 97) = false) :
    Calls Try.prog 3 #[.agg #[cv, mv, gv, .int .i64 S.sf, .int .i64 S.ch], pv] w (RetTrue w) := by
  obtain ⟨T, hT⟩ : ∃ T, shortS S = T := ⟨_, rfl⟩
  obtain ⟨Q, hQ⟩ : ∃ Q, P.take 97 = Q := ⟨_, rfl⟩
  rw [hT] at h1
  rw [hT, hQ] at h2
  have TI : SclI T := by rw [← hT]; exact shortS_I hI
  have QI : PksI Q := by rw [← hQ]; exact fun p hp => hPI p (List.mem_of_mem_take hp)
  have tl : T.ms.length ≤ 1000000000000 ∧ T.gs.length ≤ 1000000000000 := by
    rw [← hT]
    unfold shortS
    dsimp only
    rw [List.length_map, List.length_take, List.length_take]
    omega
  have SH := fun (W : World) (hb : Below w.heap.size w W) => wshort_calls S cv mv gv W (hS.mono hb)
  have PK := fun (W : World) (hb : Below w.heap.size w W) => picks_calls pv P W (hP.mono hb)
  rw [hT] at SH
  rw [hQ] at PK
  obtain ⟨⟨bdc, dc, rfl, rc0⟩, ⟨bdm, dm, rfl, rm0⟩, ⟨bdg, dg, rfl, rg0⟩⟩ := hS
  obtain ⟨bdp, dp, rfl, rp0⟩ := hP
  obtain ⟨mc, hmc⟩ : ∃ n, S.cs.length = n := ⟨_, rfl⟩
  obtain ⟨mm, hmm⟩ : ∃ n, S.ms.length = n := ⟨_, rfl⟩
  obtain ⟨mg, hmg⟩ : ∃ n, S.gs.length = n := ⟨_, rfl⟩
  obtain ⟨mp, hmp⟩ : ∃ n, P.length = n := ⟨_, rfl⟩
  rw [hmc, hmm, hmg] at SH ⊢
  rw [hmp] at PK ⊢
  have HSH := Lib.hid SH
  have HPK := Lib.hid PK
  clear SH PK hT hQ hI hPI rc0 rm0 rg0 rp0 hmc hmm hmg hmp
  have CK := fun (cv mv gv : Value) (W : World) (h : InS W cv mv gv T) => scheck_calls T cv mv gv W h TI
  have RCK := fun (cv mv gv : Value) (W : World) (h : InS W cv mv gv T) => rscheck_calls T cv mv gv W h TI
  rw [h1] at CK RCK
  have hk : fitsCode T Q = 2 := by unfold fitsCode; rw [h1, h2]; rfl
  have CO := fun (cv mv gv pv : Value) (W : World) (h : InS W cv mv gv T) (hp : InP W pv Q) => wCost_err2 T Q cv mv gv pv W h TI hp QI hk
  have PU := fun (cv mv gv pv : Value) (W : World) (h : InS W cv mv gv T) (hp : InP W pv Q) => wPull_err2 T Q cv mv gv pv W h TI hp QI hk
  have FI := fun (cv mv gv pv : Value) (W : World) (h : InS W cv mv gv T) (hp : InP W pv Q) => rfits_calls T Q cv mv gv pv W h hp tl
  rw [h2] at FI
  clear hk
  simp only [Bool.false_eq_true, if_true, if_false] at CK RCK CO
  have HCK := Lib.hid CK
  have HRCK := Lib.hid RCK
  have HCO := Lib.hid CO
  have HPU := Lib.hid PU
  have HFI := Lib.hid FI
  clear CK RCK CO PU FI TI QI tl h1 h2
  have vs := Vals.newL w (w.heap.size) [.slice bdc mc dc, .slice bdm mm dm, .slice bdg mg dg, .int .i64 S.sf, .int .i64 S.ch] 26 rfl
  have bb := below_alloc w (.cells #[.slice bdc mc dc, .slice bdm mm dm, .slice bdg mg dg, .int .i64 S.sf, .int .i64 S.ch] 26)
  have B := bb
  clear bb
  go_enter Try.func3, Try.ntmps3
  go_upto_region 1 with (fail)
  generalize (w.alloc (.cells #[.slice bdc mc dc, .slice bdm mm dm, .slice bdg mg dg, .int .i64 S.sf, .int .i64 S.ch] 26)) = w0 at *
  have cvs0 := vs.cell (i := 0) (by simp)
  have cvs1 := vs.cell (i := 1) (by simp)
  have cvs2 := vs.cell (i := 2) (by simp)
  have cvs3 := vs.cell (i := 3) (by simp)
  have cvs4 := vs.cell (i := 4) (by simp)
  simp only [List.getD_cons_zero, List.getD_cons_succ] at cvs0 cvs1 cvs2 cvs3 cvs4
  have ltvs := vs.lt
  go_wp2_with fail
  clear cvs0 cvs1 cvs2 cvs3 cvs4 ltvs
  clear vs
  refine (HSH.out _ B).mono ?_
  rintro e w1 ⟨cv, mv, gv, rfl, hs1, b1⟩
  replace B := below_trans B b1
  clear b1
  obtain ⟨⟨adc, cc, rfl, rc⟩, ⟨adm, cm, rfl, rm⟩, ⟨adg, cg, rfl, rg⟩⟩ := hs1
  obtain ⟨nc, hnc⟩ : ∃ n, T.cs.length = n := ⟨_, rfl⟩
  obtain ⟨nm, hnm⟩ : ∃ n, T.ms.length = n := ⟨_, rfl⟩
  obtain ⟨ng, hng⟩ : ∃ n, T.gs.length = n := ⟨_, rfl⟩
  rw [hnc, hnm, hng]
  have HNC := Lib.hid hnc
  have HNM := Lib.hid hnm
  have HNG := Lib.hid hng
  clear hnc hnm hng HSH
  go_wp2_with fail
  refine (HPK.out _ B).mono ?_
  rintro e w2 ⟨pv, rfl, hp1, _, b2⟩
  replace rc := rc.mono b2
  replace rm := rm.mono b2
  replace rg := rg.mono b2
  replace B := below_trans B b2
  clear b2
  obtain ⟨adp, cp, rfl, rp⟩ := hp1
  obtain ⟨np, hnp⟩ : ∃ n, Q.length = n := ⟨_, rfl⟩
  rw [hnp]
  have HNP := Lib.hid hnp
  clear hnp HPK
  go_upto_region 2 with (fail)
  have vx := Vals.newL w2 w2.heap.size [.slice adc nc cc, .slice adm nm cm, .slice adg ng cg, .int .i64 T.sf, .int .i64 T.ch] 26 rfl
  have bb := below_alloc w2 (.cells #[.slice adc nc cc, .slice adm nm cm, .slice adg ng cg, .int .i64 T.sf, .int .i64 T.ch] 26)
  replace rc := rc.mono bb
  replace rm := rm.mono bb
  replace rg := rg.mono bb
  replace rp := rp.mono bb
  replace B := below_trans B bb
  clear bb
  generalize w2.alloc (.cells #[.slice adc nc cc, .slice adm nm cm, .slice adg ng cg, .int .i64 T.sf, .int .i64 T.ch] 26) = w3 at *
  have cvx0 := vx.cell (i := 0) (by simp)
  have cvx1 := vx.cell (i := 1) (by simp)
  have cvx2 := vx.cell (i := 2) (by simp)
  have cvx3 := vx.cell (i := 3) (by simp)
  have cvx4 := vx.cell (i := 4) (by simp)
  simp only [List.getD_cons_zero, List.getD_cons_succ] at cvx0 cvx1 cvx2 cvx3 cvx4
  have ltvx := vx.lt
  go_wp2_with fail
  clear cvx0 cvx1 cvx2 cvx3 cvx4 ltvx
  refine (HRCK.out _ _ _ _ ⟨⟨adc, cc, by rw [HNC.out], rc⟩, ⟨adm, cm, by rw [HNM.out], rm⟩, ⟨adg, cg, by rw [HNG.out], rg⟩⟩).mono ?_
  rintro e w4 ⟨rfl, b4⟩
  replace rc := rc.mono b4
  replace rm := rm.mono b4
  replace rg := rg.mono b4
  replace rp := rp.mono b4
  replace vx := vx.mono b4
  replace B := below_trans B b4
  clear b4
  have cvx0 := vx.cell (i := 0) (by simp)
  have cvx1 := vx.cell (i := 1) (by simp)
  have cvx2 := vx.cell (i := 2) (by simp)
  have cvx3 := vx.cell (i := 3) (by simp)
  have cvx4 := vx.cell (i := 4) (by simp)
  simp only [List.getD_cons_zero, List.getD_cons_succ] at cvx0 cvx1 cvx2 cvx3 cvx4
  have ltvx := vx.lt
  go_wp2_with fail
  clear cvx0 cvx1 cvx2 cvx3 cvx4 ltvx
  refine (HCO.out _ _ _ _ _ ⟨⟨adc, cc, by rw [HNC.out], rc⟩, ⟨adm, cm, by rw [HNM.out], rm⟩, ⟨adg, cg, by rw [HNG.out], rg⟩⟩ ⟨adp, cp, by rw [HNP.out], rp⟩).mono ?_
  rintro e w5 ⟨rfl, b5⟩
  replace rc := rc.mono b5
  replace rm := rm.mono b5
  replace rg := rg.mono b5
  replace rp := rp.mono b5
  replace vx := vx.mono b5
  replace B := below_trans B b5
  clear b5
  have cvx0 := vx.cell (i := 0) (by simp)
  have cvx1 := vx.cell (i := 1) (by simp)
  have cvx2 := vx.cell (i := 2) (by simp)
  have cvx3 := vx.cell (i := 3) (by simp)
  have cvx4 := vx.cell (i := 4) (by simp)
  simp only [List.getD_cons_zero, List.getD_cons_succ] at cvx0 cvx1 cvx2 cvx3 cvx4
  have ltvx := vx.lt
  go_wp2_with fail
  clear cvx0 cvx1 cvx2 cvx3 cvx4 ltvx
  refine (HPU.out _ _ _ _ _ ⟨⟨adc, cc, by rw [HNC.out], rc⟩, ⟨adm, cm, by rw [HNM.out], rm⟩, ⟨adg, cg, by rw [HNG.out], rg⟩⟩ ⟨adp, cp, by rw [HNP.out], rp⟩).mono ?_
  rintro e w6 ⟨rfl, b6⟩
  replace rc := rc.mono b6
  replace rm := rm.mono b6
  replace rg := rg.mono b6
  replace rp := rp.mono b6
  replace vx := vx.mono b6
  replace B := below_trans B b6
  clear b6
  have cvx0 := vx.cell (i := 0) (by simp)
  have cvx1 := vx.cell (i := 1) (by simp)
  have cvx2 := vx.cell (i := 2) (by simp)
  have cvx3 := vx.cell (i := 3) (by simp)
  have cvx4 := vx.cell (i := 4) (by simp)
  simp only [List.getD_cons_zero, List.getD_cons_succ] at cvx0 cvx1 cvx2 cvx3 cvx4
  have ltvx := vx.lt
  go_wp2_with fail
  clear cvx0 cvx1 cvx2 cvx3 cvx4 ltvx
  refine (HCK.out _ _ _ _ ⟨⟨adc, cc, by rw [HNC.out], rc⟩, ⟨adm, cm, by rw [HNM.out], rm⟩, ⟨adg, cg, by rw [HNG.out], rg⟩⟩).mono ?_
  rintro e w7 ⟨rfl, b7⟩
  replace rc := rc.mono b7
  replace rm := rm.mono b7
  replace rg := rg.mono b7
  replace rp := rp.mono b7
  replace vx := vx.mono b7
  replace B := below_trans B b7
  clear b7
  go_wp2_with fail
  refine (lives_calls _).mono ?_
  rintro e w8 ⟨rfl, b8⟩
  replace rc := rc.mono b8
  replace rm := rm.mono b8
  replace rg := rg.mono b8
  replace rp := rp.mono b8
  replace vx := vx.mono b8
  replace B := below_trans B b8
  clear b8
  have cvx0 := vx.cell (i := 0) (by simp)
  have cvx1 := vx.cell (i := 1) (by simp)
  have cvx2 := vx.cell (i := 2) (by simp)
  have cvx3 := vx.cell (i := 3) (by simp)
  have cvx4 := vx.cell (i := 4) (by simp)
  simp only [List.getD_cons_zero, List.getD_cons_succ] at cvx0 cvx1 cvx2 cvx3 cvx4
  have ltvx := vx.lt
  go_wp2_with fail
  clear cvx0 cvx1 cvx2 cvx3 cvx4 ltvx
  refine (HFI.out _ _ _ _ _ ⟨⟨adc, cc, by rw [HNC.out], rc⟩, ⟨adm, cm, by rw [HNM.out], rm⟩, ⟨adg, cg, by rw [HNG.out], rg⟩⟩ ⟨adp, cp, by rw [HNP.out], rp⟩).mono ?_
  rintro e w9 ⟨rfl, b9⟩
  replace rc := rc.mono b9
  replace rm := rm.mono b9
  replace rg := rg.mono b9
  replace rp := rp.mono b9
  replace vx := vx.mono b9
  replace B := below_trans B b9
  clear b9
  go_wp2
  go_ret
  exact ⟨rfl, B⟩

set_option maxRecDepth 100000 in
set_option maxHeartbeats 1000000 in
theorem wlchecks_c (S : Scl) (P : List Pk) (cv mv gv pv : Value) (w : World) (hS : InS w cv mv gv S) (hI : SclI S) (hP : InP w pv P) (hPI : PksI P) (h1 : sclOk (shortS S) = true) (h2 : fitsB (shortS S) (P.take 97) = true) (h3 : allowedB (shortS S) (P.take 97) = false) :
    Calls Try.prog 3 #[.agg #[cv, mv, gv, .int .i64 S.sf, .int .i64 S.ch], pv] w (RetTrue w) := by
  obtain ⟨T, hT⟩ : ∃ T, shortS S = T := ⟨_, rfl⟩
  obtain ⟨Q, hQ⟩ : ∃ Q, P.take 97 = Q := ⟨_, rfl⟩
  rw [hT] at h1
  rw [hT, hQ] at h2 h3
  have TI : SclI T := by rw [← hT]; exact shortS_I hI
  have QI : PksI Q := by rw [← hQ]; exact fun p hp => hPI p (List.mem_of_mem_take hp)
  have tl : T.ms.length ≤ 1000000000000 ∧ T.gs.length ≤ 1000000000000 := by
    rw [← hT]
    unfold shortS
    dsimp only
    rw [List.length_map, List.length_take, List.length_take]
    omega
  have SH := fun (W : World) (hb : Below w.heap.size w W) => wshort_calls S cv mv gv W (hS.mono hb)
  have PK := fun (W : World) (hb : Below w.heap.size w W) => picks_calls pv P W (hP.mono hb)
  rw [hT] at SH
  rw [hQ] at PK
  obtain ⟨⟨bdc, dc, rfl, rc0⟩, ⟨bdm, dm, rfl, rm0⟩, ⟨bdg, dg, rfl, rg0⟩⟩ := hS
  obtain ⟨bdp, dp, rfl, rp0⟩ := hP
  obtain ⟨mc, hmc⟩ : ∃ n, S.cs.length = n := ⟨_, rfl⟩
  obtain ⟨mm, hmm⟩ : ∃ n, S.ms.length = n := ⟨_, rfl⟩
  obtain ⟨mg, hmg⟩ : ∃ n, S.gs.length = n := ⟨_, rfl⟩
  obtain ⟨mp, hmp⟩ : ∃ n, P.length = n := ⟨_, rfl⟩
  rw [hmc, hmm, hmg] at SH ⊢
  rw [hmp] at PK ⊢
  have HSH := Lib.hid SH
  have HPK := Lib.hid PK
  clear SH PK hT hQ hI hPI rc0 rm0 rg0 rp0 hmc hmm hmg hmp
  have CK := fun (cv mv gv : Value) (W : World) (h : InS W cv mv gv T) => scheck_calls T cv mv gv W h TI
  have RCK := fun (cv mv gv : Value) (W : World) (h : InS W cv mv gv T) => rscheck_calls T cv mv gv W h TI
  rw [h1] at CK RCK
  have CO := fun (cv mv gv pv : Value) (W : World) (h : InS W cv mv gv T) (hp : InP W pv Q) => wCost_ok T Q cv mv gv pv W h TI hp QI h1 h2
  have PU := fun (cv mv gv pv : Value) (W : World) (h : InS W cv mv gv T) (hp : InP W pv Q) => wPull_ok T Q cv mv gv pv W h TI hp QI h1 h2
  have RPU := fun (cv mv gv pv : Value) (W : World) (h : InS W cv mv gv T) (hp : InP W pv Q) => rpull_calls T Q cv mv gv pv W h hp h1 h2
  have RAL := fun (cv mv gv pv : Value) (W : World) (h : InS W cv mv gv T) (hp : InP W pv Q) => rallowed_calls T Q cv mv gv pv W h hp h1 h2
  have FI := fun (cv mv gv pv : Value) (W : World) (h : InS W cv mv gv T) (hp : InP W pv Q) => rfits_calls T Q cv mv gv pv W h hp tl
  rw [h2] at FI
  rw [h3] at CO RAL
  obtain ⟨np2, hnp2⟩ : ∃ r, pullTo T Q Q.length = r := ⟨_, rfl⟩
  rw [hnp2] at PU RPU
  obtain ⟨nc2, hnc2⟩ : ∃ r, costTo T Q Q.length = r := ⟨_, rfl⟩
  rw [hnc2] at CO
  clear hnp2 hnc2
  simp only [Bool.false_eq_true, if_true, if_false] at CK RCK CO
  have HCK := Lib.hid CK
  have HRCK := Lib.hid RCK
  have HCO := Lib.hid CO
  have HPU := Lib.hid PU
  have HFI := Lib.hid FI
  have HRPU := Lib.hid RPU
  have HRAL := Lib.hid RAL
  clear CK RCK CO PU FI RPU RAL TI QI tl h1 h2 h3
  have vs := Vals.newL w (w.heap.size) [.slice bdc mc dc, .slice bdm mm dm, .slice bdg mg dg, .int .i64 S.sf, .int .i64 S.ch] 26 rfl
  have bb := below_alloc w (.cells #[.slice bdc mc dc, .slice bdm mm dm, .slice bdg mg dg, .int .i64 S.sf, .int .i64 S.ch] 26)
  have B := bb
  clear bb
  go_enter Try.func3, Try.ntmps3
  go_upto_region 1 with (fail)
  generalize (w.alloc (.cells #[.slice bdc mc dc, .slice bdm mm dm, .slice bdg mg dg, .int .i64 S.sf, .int .i64 S.ch] 26)) = w0 at *
  have cvs0 := vs.cell (i := 0) (by simp)
  have cvs1 := vs.cell (i := 1) (by simp)
  have cvs2 := vs.cell (i := 2) (by simp)
  have cvs3 := vs.cell (i := 3) (by simp)
  have cvs4 := vs.cell (i := 4) (by simp)
  simp only [List.getD_cons_zero, List.getD_cons_succ] at cvs0 cvs1 cvs2 cvs3 cvs4
  have ltvs := vs.lt
  go_wp2_with fail
  clear cvs0 cvs1 cvs2 cvs3 cvs4 ltvs
  clear vs
  refine (HSH.out _ B).mono ?_
  rintro e w1 ⟨cv, mv, gv, rfl, hs1, b1⟩
  replace B := below_trans B b1
  clear b1
  obtain ⟨⟨adc, cc, rfl, rc⟩, ⟨adm, cm, rfl, rm⟩, ⟨adg, cg, rfl, rg⟩⟩ := hs1
  obtain ⟨nc, hnc⟩ : ∃ n, T.cs.length = n := ⟨_, rfl⟩
  obtain ⟨nm, hnm⟩ : ∃ n, T.ms.length = n := ⟨_, rfl⟩
  obtain ⟨ng, hng⟩ : ∃ n, T.gs.length = n := ⟨_, rfl⟩
  rw [hnc, hnm, hng]
  have HNC := Lib.hid hnc
  have HNM := Lib.hid hnm
  have HNG := Lib.hid hng
  clear hnc hnm hng HSH
  go_wp2_with fail
  refine (HPK.out _ B).mono ?_
  rintro e w2 ⟨pv, rfl, hp1, _, b2⟩
  replace rc := rc.mono b2
  replace rm := rm.mono b2
  replace rg := rg.mono b2
  replace B := below_trans B b2
  clear b2
  obtain ⟨adp, cp, rfl, rp⟩ := hp1
  obtain ⟨np, hnp⟩ : ∃ n, Q.length = n := ⟨_, rfl⟩
  rw [hnp]
  have HNP := Lib.hid hnp
  clear hnp HPK
  go_upto_region 2 with (fail)
  have vx := Vals.newL w2 w2.heap.size [.slice adc nc cc, .slice adm nm cm, .slice adg ng cg, .int .i64 T.sf, .int .i64 T.ch] 26 rfl
  have bb := below_alloc w2 (.cells #[.slice adc nc cc, .slice adm nm cm, .slice adg ng cg, .int .i64 T.sf, .int .i64 T.ch] 26)
  replace rc := rc.mono bb
  replace rm := rm.mono bb
  replace rg := rg.mono bb
  replace rp := rp.mono bb
  replace B := below_trans B bb
  clear bb
  generalize w2.alloc (.cells #[.slice adc nc cc, .slice adm nm cm, .slice adg ng cg, .int .i64 T.sf, .int .i64 T.ch] 26) = w3 at *
  have cvx0 := vx.cell (i := 0) (by simp)
  have cvx1 := vx.cell (i := 1) (by simp)
  have cvx2 := vx.cell (i := 2) (by simp)
  have cvx3 := vx.cell (i := 3) (by simp)
  have cvx4 := vx.cell (i := 4) (by simp)
  simp only [List.getD_cons_zero, List.getD_cons_succ] at cvx0 cvx1 cvx2 cvx3 cvx4
  have ltvx := vx.lt
  go_wp2_with fail
  clear cvx0 cvx1 cvx2 cvx3 cvx4 ltvx
  refine (HRCK.out _ _ _ _ ⟨⟨adc, cc, by rw [HNC.out], rc⟩, ⟨adm, cm, by rw [HNM.out], rm⟩, ⟨adg, cg, by rw [HNG.out], rg⟩⟩).mono ?_
  rintro e w4 ⟨rfl, b4⟩
  replace rc := rc.mono b4
  replace rm := rm.mono b4
  replace rg := rg.mono b4
  replace rp := rp.mono b4
  replace vx := vx.mono b4
  replace B := below_trans B b4
  clear b4
  have cvx0 := vx.cell (i := 0) (by simp)
  have cvx1 := vx.cell (i := 1) (by simp)
  have cvx2 := vx.cell (i := 2) (by simp)
  have cvx3 := vx.cell (i := 3) (by simp)
  have cvx4 := vx.cell (i := 4) (by simp)
  simp only [List.getD_cons_zero, List.getD_cons_succ] at cvx0 cvx1 cvx2 cvx3 cvx4
  have ltvx := vx.lt
  go_wp2_with fail
  clear cvx0 cvx1 cvx2 cvx3 cvx4 ltvx
  refine (HCO.out _ _ _ _ _ ⟨⟨adc, cc, by rw [HNC.out], rc⟩, ⟨adm, cm, by rw [HNM.out], rm⟩, ⟨adg, cg, by rw [HNG.out], rg⟩⟩ ⟨adp, cp, by rw [HNP.out], rp⟩).mono ?_
  rintro e w5 ⟨rfl, b5⟩
  replace rc := rc.mono b5
  replace rm := rm.mono b5
  replace rg := rg.mono b5
  replace rp := rp.mono b5
  replace vx := vx.mono b5
  replace B := below_trans B b5
  clear b5
  have cvx0 := vx.cell (i := 0) (by simp)
  have cvx1 := vx.cell (i := 1) (by simp)
  have cvx2 := vx.cell (i := 2) (by simp)
  have cvx3 := vx.cell (i := 3) (by simp)
  have cvx4 := vx.cell (i := 4) (by simp)
  simp only [List.getD_cons_zero, List.getD_cons_succ] at cvx0 cvx1 cvx2 cvx3 cvx4
  have ltvx := vx.lt
  go_wp2_with fail
  clear cvx0 cvx1 cvx2 cvx3 cvx4 ltvx
  refine (HPU.out _ _ _ _ _ ⟨⟨adc, cc, by rw [HNC.out], rc⟩, ⟨adm, cm, by rw [HNM.out], rm⟩, ⟨adg, cg, by rw [HNG.out], rg⟩⟩ ⟨adp, cp, by rw [HNP.out], rp⟩).mono ?_
  rintro e w6 ⟨rfl, b6⟩
  replace rc := rc.mono b6
  replace rm := rm.mono b6
  replace rg := rg.mono b6
  replace rp := rp.mono b6
  replace vx := vx.mono b6
  replace B := below_trans B b6
  clear b6
  have cvx0 := vx.cell (i := 0) (by simp)
  have cvx1 := vx.cell (i := 1) (by simp)
  have cvx2 := vx.cell (i := 2) (by simp)
  have cvx3 := vx.cell (i := 3) (by simp)
  have cvx4 := vx.cell (i := 4) (by simp)
  simp only [List.getD_cons_zero, List.getD_cons_succ] at cvx0 cvx1 cvx2 cvx3 cvx4
  have ltvx := vx.lt
  go_wp2_with fail
  clear cvx0 cvx1 cvx2 cvx3 cvx4 ltvx
  refine (HCK.out _ _ _ _ ⟨⟨adc, cc, by rw [HNC.out], rc⟩, ⟨adm, cm, by rw [HNM.out], rm⟩, ⟨adg, cg, by rw [HNG.out], rg⟩⟩).mono ?_
  rintro e w7 ⟨rfl, b7⟩
  replace rc := rc.mono b7
  replace rm := rm.mono b7
  replace rg := rg.mono b7
  replace rp := rp.mono b7
  replace vx := vx.mono b7
  replace B := below_trans B b7
  clear b7
  go_wp2_with fail
  refine (lives_calls _).mono ?_
  rintro e w8 ⟨rfl, b8⟩
  replace rc := rc.mono b8
  replace rm := rm.mono b8
  replace rg := rg.mono b8
  replace rp := rp.mono b8
  replace vx := vx.mono b8
  replace B := below_trans B b8
  clear b8
  have cvx0 := vx.cell (i := 0) (by simp)
  have cvx1 := vx.cell (i := 1) (by simp)
  have cvx2 := vx.cell (i := 2) (by simp)
  have cvx3 := vx.cell (i := 3) (by simp)
  have cvx4 := vx.cell (i := 4) (by simp)
  simp only [List.getD_cons_zero, List.getD_cons_succ] at cvx0 cvx1 cvx2 cvx3 cvx4
  have ltvx := vx.lt
  go_wp2_with fail
  clear cvx0 cvx1 cvx2 cvx3 cvx4 ltvx
  refine (HFI.out _ _ _ _ _ ⟨⟨adc, cc, by rw [HNC.out], rc⟩, ⟨adm, cm, by rw [HNM.out], rm⟩, ⟨adg, cg, by rw [HNG.out], rg⟩⟩ ⟨adp, cp, by rw [HNP.out], rp⟩).mono ?_
  rintro e w9 ⟨rfl, b9⟩
  replace rc := rc.mono b9
  replace rm := rm.mono b9
  replace rg := rg.mono b9
  replace rp := rp.mono b9
  replace vx := vx.mono b9
  replace B := below_trans B b9
  clear b9
  have cvx0 := vx.cell (i := 0) (by simp)
  have cvx1 := vx.cell (i := 1) (by simp)
  have cvx2 := vx.cell (i := 2) (by simp)
  have cvx3 := vx.cell (i := 3) (by simp)
  have cvx4 := vx.cell (i := 4) (by simp)
  simp only [List.getD_cons_zero, List.getD_cons_succ] at cvx0 cvx1 cvx2 cvx3 cvx4
  have ltvx := vx.lt
  go_wp2_with fail
  clear cvx0 cvx1 cvx2 cvx3 cvx4 ltvx
  refine (HRPU.out _ _ _ _ _ ⟨⟨adc, cc, by rw [HNC.out], rc⟩, ⟨adm, cm, by rw [HNM.out], rm⟩, ⟨adg, cg, by rw [HNG.out], rg⟩⟩ ⟨adp, cp, by rw [HNP.out], rp⟩).mono ?_
  rintro e w10 ⟨rfl, b10⟩
  replace rc := rc.mono b10
  replace rm := rm.mono b10
  replace rg := rg.mono b10
  replace rp := rp.mono b10
  replace vx := vx.mono b10
  replace B := below_trans B b10
  clear b10
  have cvx0 := vx.cell (i := 0) (by simp)
  have cvx1 := vx.cell (i := 1) (by simp)
  have cvx2 := vx.cell (i := 2) (by simp)
  have cvx3 := vx.cell (i := 3) (by simp)
  have cvx4 := vx.cell (i := 4) (by simp)
  simp only [List.getD_cons_zero, List.getD_cons_succ] at cvx0 cvx1 cvx2 cvx3 cvx4
  have ltvx := vx.lt
  go_wp2_with fail
  clear cvx0 cvx1 cvx2 cvx3 cvx4 ltvx
  refine (HRAL.out _ _ _ _ _ ⟨⟨adc, cc, by rw [HNC.out], rc⟩, ⟨adm, cm, by rw [HNM.out], rm⟩, ⟨adg, cg, by rw [HNG.out], rg⟩⟩ ⟨adp, cp, by rw [HNP.out], rp⟩).mono ?_
  rintro e w11 ⟨rfl, b11⟩
  replace rc := rc.mono b11
  replace rm := rm.mono b11
  replace rg := rg.mono b11
  replace rp := rp.mono b11
  replace vx := vx.mono b11
  replace B := below_trans B b11
  clear b11
  go_wp2
  go_ret
  exact ⟨rfl, B⟩

set_option maxRecDepth 100000 in
set_option maxHeartbeats 1000000 in
theorem wlchecks_d (S : Scl) (P : List Pk) (cv mv gv pv : Value) (w : World) (hS : InS w cv mv gv S) (hI : SclI S) (hP : InP w pv P) (hPI : PksI P) (h1 : sclOk (shortS S) = true) (h2 : fitsB (shortS S) (P.take 97) = true) (h3 : allowedB (shortS S) (P.take 97) = true) :
    Calls Try.prog 3 #[.agg #[cv, mv, gv, .int .i64 S.sf, .int .i64 S.ch], pv] w (RetTrue w) := by
  obtain ⟨T, hT⟩ : ∃ T, shortS S = T := ⟨_, rfl⟩
  obtain ⟨Q, hQ⟩ : ∃ Q, P.take 97 = Q := ⟨_, rfl⟩
  rw [hT] at h1
  rw [hT, hQ] at h2 h3
  have TI : SclI T := by rw [← hT]; exact shortS_I hI
  have QI : PksI Q := by rw [← hQ]; exact fun p hp => hPI p (List.mem_of_mem_take hp)
  have tl : T.ms.length ≤ 1000000000000 ∧ T.gs.length ≤ 1000000000000 := by
    rw [← hT]
    unfold shortS
    dsimp only
    rw [List.length_map, List.length_take, List.length_take]
    omega
  have SH := fun (W : World) (hb : Below w.heap.size w W) => wshort_calls S cv mv gv W (hS.mono hb)
  have PK := fun (W : World) (hb : Below w.heap.size w W) => picks_calls pv P W (hP.mono hb)
  rw [hT] at SH
  rw [hQ] at PK
  obtain ⟨⟨bdc, dc, rfl, rc0⟩, ⟨bdm, dm, rfl, rm0⟩, ⟨bdg, dg, rfl, rg0⟩⟩ := hS
  obtain ⟨bdp, dp, rfl, rp0⟩ := hP
  obtain ⟨mc, hmc⟩ : ∃ n, S.cs.length = n := ⟨_, rfl⟩
  obtain ⟨mm, hmm⟩ : ∃ n, S.ms.length = n := ⟨_, rfl⟩
  obtain ⟨mg, hmg⟩ : ∃ n, S.gs.length = n := ⟨_, rfl⟩
  obtain ⟨mp, hmp⟩ : ∃ n, P.length = n := ⟨_, rfl⟩
  rw [hmc, hmm, hmg] at SH ⊢
  rw [hmp] at PK ⊢
  have HSH := Lib.hid SH
  have HPK := Lib.hid PK
  clear SH PK hT hQ hI hPI rc0 rm0 rg0 rp0 hmc hmm hmg hmp
  have CK := fun (cv mv gv : Value) (W : World) (h : InS W cv mv gv T) => scheck_calls T cv mv gv W h TI
  have RCK := fun (cv mv gv : Value) (W : World) (h : InS W cv mv gv T) => rscheck_calls T cv mv gv W h TI
  rw [h1] at CK RCK
  have CO := fun (cv mv gv pv : Value) (W : World) (h : InS W cv mv gv T) (hp : InP W pv Q) => wCost_ok T Q cv mv gv pv W h TI hp QI h1 h2
  have PU := fun (cv mv gv pv : Value) (W : World) (h : InS W cv mv gv T) (hp : InP W pv Q) => wPull_ok T Q cv mv gv pv W h TI hp QI h1 h2
  have RPU := fun (cv mv gv pv : Value) (W : World) (h : InS W cv mv gv T) (hp : InP W pv Q) => rpull_calls T Q cv mv gv pv W h hp h1 h2
  have RAL := fun (cv mv gv pv : Value) (W : World) (h : InS W cv mv gv T) (hp : InP W pv Q) => rallowed_calls T Q cv mv gv pv W h hp h1 h2
  have FI := fun (cv mv gv pv : Value) (W : World) (h : InS W cv mv gv T) (hp : InP W pv Q) => rfits_calls T Q cv mv gv pv W h hp tl
  rw [h2] at FI
  rw [h3] at CO RAL
  obtain ⟨np2, hnp2⟩ : ∃ r, pullTo T Q Q.length = r := ⟨_, rfl⟩
  rw [hnp2] at PU RPU
  obtain ⟨nc2, hnc2⟩ : ∃ r, costTo T Q Q.length = r := ⟨_, rfl⟩
  have RCO := fun (cv mv gv pv : Value) (W : World) (h : InS W cv mv gv T) (hp : InP W pv Q) => rcost_calls T Q cv mv gv pv W h hp h1 h2
  rw [hnc2] at CO RCO
  clear hnp2 hnc2
  simp only [Bool.false_eq_true, if_true, if_false] at CK RCK CO
  have HCK := Lib.hid CK
  have HRCK := Lib.hid RCK
  have HCO := Lib.hid CO
  have HPU := Lib.hid PU
  have HFI := Lib.hid FI
  have HRPU := Lib.hid RPU
  have HRAL := Lib.hid RAL
  have HRCO := Lib.hid RCO
  clear CK RCK CO PU FI RPU RAL RCO TI QI tl h1 h2 h3
  have vs := Vals.newL w (w.heap.size) [.slice bdc mc dc, .slice bdm mm dm, .slice bdg mg dg, .int .i64 S.sf, .int .i64 S.ch] 26 rfl
  have bb := below_alloc w (.cells #[.slice bdc mc dc, .slice bdm mm dm, .slice bdg mg dg, .int .i64 S.sf, .int .i64 S.ch] 26)
  have B := bb
  clear bb
  go_enter Try.func3, Try.ntmps3
  go_upto_region 1 with (fail)
  generalize (w.alloc (.cells #[.slice bdc mc dc, .slice bdm mm dm, .slice bdg mg dg, .int .i64 S.sf, .int .i64 S.ch] 26)) = w0 at *
  have cvs0 := vs.cell (i := 0) (by simp)
  have cvs1 := vs.cell (i := 1) (by simp)
  have cvs2 := vs.cell (i := 2) (by simp)
  have cvs3 := vs.cell (i := 3) (by simp)
  have cvs4 := vs.cell (i := 4) (by simp)
  simp only [List.getD_cons_zero, List.getD_cons_succ] at cvs0 cvs1 cvs2 cvs3 cvs4
  have ltvs := vs.lt
  go_wp2_with fail
  clear cvs0 cvs1 cvs2 cvs3 cvs4 ltvs
  clear vs
  refine (HSH.out _ B).mono ?_
  rintro e w1 ⟨cv, mv, gv, rfl, hs1, b1⟩
  replace B := below_trans B b1
  clear b1
  obtain ⟨⟨adc, cc, rfl, rc⟩, ⟨adm, cm, rfl, rm⟩, ⟨adg, cg, rfl, rg⟩⟩ := hs1
  obtain ⟨nc, hnc⟩ : ∃ n, T.cs.length = n := ⟨_, rfl⟩
  obtain ⟨nm, hnm⟩ : ∃ n, T.ms.length = n := ⟨_, rfl⟩
  obtain ⟨ng, hng⟩ : ∃ n, T.gs.length = n := ⟨_, rfl⟩
  rw [hnc, hnm, hng]
  have HNC := Lib.hid hnc
  have HNM := Lib.hid hnm
  have HNG := Lib.hid hng
  clear hnc hnm hng HSH
  go_wp2_with fail
  refine (HPK.out _ B).mono ?_
  rintro e w2 ⟨pv, rfl, hp1, _, b2⟩
  replace rc := rc.mono b2
  replace rm := rm.mono b2
  replace rg := rg.mono b2
  replace B := below_trans B b2
  clear b2
  obtain ⟨adp, cp, rfl, rp⟩ := hp1
  obtain ⟨np, hnp⟩ : ∃ n, Q.length = n := ⟨_, rfl⟩
  rw [hnp]
  have HNP := Lib.hid hnp
  clear hnp HPK
  go_upto_region 2 with (fail)
  have vx := Vals.newL w2 w2.heap.size [.slice adc nc cc, .slice adm nm cm, .slice adg ng cg, .int .i64 T.sf, .int .i64 T.ch] 26 rfl
  have bb := below_alloc w2 (.cells #[.slice adc nc cc, .slice adm nm cm, .slice adg ng cg, .int .i64 T.sf, .int .i64 T.ch] 26)
  replace rc := rc.mono bb
  replace rm := rm.mono bb
  replace rg := rg.mono bb
  replace rp := rp.mono bb
  replace B := below_trans B bb
  clear bb
  generalize w2.alloc (.cells #[.slice adc nc cc, .slice adm nm cm, .slice adg ng cg, .int .i64 T.sf, .int .i64 T.ch] 26) = w3 at *
  have cvx0 := vx.cell (i := 0) (by simp)
  have cvx1 := vx.cell (i := 1) (by simp)
  have cvx2 := vx.cell (i := 2) (by simp)
  have cvx3 := vx.cell (i := 3) (by simp)
  have cvx4 := vx.cell (i := 4) (by simp)
  simp only [List.getD_cons_zero, List.getD_cons_succ] at cvx0 cvx1 cvx2 cvx3 cvx4
  have ltvx := vx.lt
  go_wp2_with fail
  clear cvx0 cvx1 cvx2 cvx3 cvx4 ltvx
  refine (HRCK.out _ _ _ _ ⟨⟨adc, cc, by rw [HNC.out], rc⟩, ⟨adm, cm, by rw [HNM.out], rm⟩, ⟨adg, cg, by rw [HNG.out], rg⟩⟩).mono ?_
  rintro e w4 ⟨rfl, b4⟩
  replace rc := rc.mono b4
  replace rm := rm.mono b4
  replace rg := rg.mono b4
  replace rp := rp.mono b4
  replace vx := vx.mono b4
  replace B := below_trans B b4
  clear b4
  have cvx0 := vx.cell (i := 0) (by simp)
  have cvx1 := vx.cell (i := 1) (by simp)
  have cvx2 := vx.cell (i := 2) (by simp)
  have cvx3 := vx.cell (i := 3) (by simp)
  have cvx4 := vx.cell (i := 4) (by simp)
  simp only [List.getD_cons_zero, List.getD_cons_succ] at cvx0 cvx1 cvx2 cvx3 cvx4
  have ltvx := vx.lt
  go_wp2_with fail
  clear cvx0 cvx1 cvx2 cvx3 cvx4 ltvx
  refine (HCO.out _ _ _ _ _ ⟨⟨adc, cc, by rw [HNC.out], rc⟩, ⟨adm, cm, by rw [HNM.out], rm⟩, ⟨adg, cg, by rw [HNG.out], rg⟩⟩ ⟨adp, cp, by rw [HNP.out], rp⟩).mono ?_
  rintro e w5 ⟨rfl, b5⟩
  replace rc := rc.mono b5
  replace rm := rm.mono b5
  replace rg := rg.mono b5
  replace rp := rp.mono b5
  replace vx := vx.mono b5
  replace B := below_trans B b5
  clear b5
  have cvx0 := vx.cell (i := 0) (by simp)
  have cvx1 := vx.cell (i := 1) (by simp)
  have cvx2 := vx.cell (i := 2) (by simp)
  have cvx3 := vx.cell (i := 3) (by simp)
  have cvx4 := vx.cell (i := 4) (by simp)
  simp only [List.getD_cons_zero, List.getD_cons_succ] at cvx0 cvx1 cvx2 cvx3 cvx4
  have ltvx := vx.lt
  go_wp2_with fail
  clear cvx0 cvx1 cvx2 cvx3 cvx4 ltvx
  refine (HPU.out _ _ _ _ _ ⟨⟨adc, cc, by rw [HNC.out], rc⟩, ⟨adm, cm, by rw [HNM.out], rm⟩, ⟨adg, cg, by rw [HNG.out], rg⟩⟩ ⟨adp, cp, by rw [HNP.out], rp⟩).mono ?_
  rintro e w6 ⟨rfl, b6⟩
  replace rc := rc.mono b6
  replace rm := rm.mono b6
  replace rg := rg.mono b6
  replace rp := rp.mono b6
  replace vx := vx.mono b6
  replace B := below_trans B b6
  clear b6
  have cvx0 := vx.cell (i := 0) (by simp)
  have cvx1 := vx.cell (i := 1) (by simp)
  have cvx2 := vx.cell (i := 2) (by simp)
  have cvx3 := vx.cell (i := 3) (by simp)
  have cvx4 := vx.cell (i := 4) (by simp)
  simp only [List.getD_cons_zero, List.getD_cons_succ] at cvx0 cvx1 cvx2 cvx3 cvx4
  have ltvx := vx.lt
  go_wp2_with fail
  clear cvx0 cvx1 cvx2 cvx3 cvx4 ltvx
  refine (HCK.out _ _ _ _ ⟨⟨adc, cc, by rw [HNC.out], rc⟩, ⟨adm, cm, by rw [HNM.out], rm⟩, ⟨adg, cg, by rw [HNG.out], rg⟩⟩).mono ?_
  rintro e w7 ⟨rfl, b7⟩
  replace rc := rc.mono b7
  replace rm := rm.mono b7
  replace rg := rg.mono b7
  replace rp := rp.mono b7
  replace vx := vx.mono b7
  replace B := below_trans B b7
  clear b7
  go_wp2_with fail
  refine (lives_calls _).mono ?_
  rintro e w8 ⟨rfl, b8⟩
  replace rc := rc.mono b8
  replace rm := rm.mono b8
  replace rg := rg.mono b8
  replace rp := rp.mono b8
  replace vx := vx.mono b8
  replace B := below_trans B b8
  clear b8
  have cvx0 := vx.cell (i := 0) (by simp)
  have cvx1 := vx.cell (i := 1) (by simp)
  have cvx2 := vx.cell (i := 2) (by simp)
  have cvx3 := vx.cell (i := 3) (by simp)
  have cvx4 := vx.cell (i := 4) (by simp)
  simp only [List.getD_cons_zero, List.getD_cons_succ] at cvx0 cvx1 cvx2 cvx3 cvx4
  have ltvx := vx.lt
  go_wp2_with fail
  clear cvx0 cvx1 cvx2 cvx3 cvx4 ltvx
  refine (HFI.out _ _ _ _ _ ⟨⟨adc, cc, by rw [HNC.out], rc⟩, ⟨adm, cm, by rw [HNM.out], rm⟩, ⟨adg, cg, by rw [HNG.out], rg⟩⟩ ⟨adp, cp, by rw [HNP.out], rp⟩).mono ?_
  rintro e w9 ⟨rfl, b9⟩
  replace rc := rc.mono b9
  replace rm := rm.mono b9
  replace rg := rg.mono b9
  replace rp := rp.mono b9
  replace vx := vx.mono b9
  replace B := below_trans B b9
  clear b9
  have cvx0 := vx.cell (i := 0) (by simp)
  have cvx1 := vx.cell (i := 1) (by simp)
  have cvx2 := vx.cell (i := 2) (by simp)
  have cvx3 := vx.cell (i := 3) (by simp)
  have cvx4 := vx.cell (i := 4) (by simp)
  simp only [List.getD_cons_zero, List.getD_cons_succ] at cvx0 cvx1 cvx2 cvx3 cvx4
  have ltvx := vx.lt
  go_wp2_with fail
  clear cvx0 cvx1 cvx2 cvx3 cvx4 ltvx
  refine (HRPU.out _ _ _ _ _ ⟨⟨adc, cc, by rw [HNC.out], rc⟩, ⟨adm, cm, by rw [HNM.out], rm⟩, ⟨adg, cg, by rw [HNG.out], rg⟩⟩ ⟨adp, cp, by rw [HNP.out], rp⟩).mono ?_
  rintro e w10 ⟨rfl, b10⟩
  replace rc := rc.mono b10
  replace rm := rm.mono b10
  replace rg := rg.mono b10
  replace rp := rp.mono b10
  replace vx := vx.mono b10
  replace B := below_trans B b10
  clear b10
  have cvx0 := vx.cell (i := 0) (by simp)
  have cvx1 := vx.cell (i := 1) (by simp)
  have cvx2 := vx.cell (i := 2) (by simp)
  have cvx3 := vx.cell (i := 3) (by simp)
  have cvx4 := vx.cell (i := 4) (by simp)
  simp only [List.getD_cons_zero, List.getD_cons_succ] at cvx0 cvx1 cvx2 cvx3 cvx4
  have ltvx := vx.lt
  go_wp2_with fail
  clear cvx0 cvx1 cvx2 cvx3 cvx4 ltvx
  refine (HRAL.out _ _ _ _ _ ⟨⟨adc, cc, by rw [HNC.out], rc⟩, ⟨adm, cm, by rw [HNM.out], rm⟩, ⟨adg, cg, by rw [HNG.out], rg⟩⟩ ⟨adp, cp, by rw [HNP.out], rp⟩).mono ?_
  rintro e w11 ⟨rfl, b11⟩
  replace rc := rc.mono b11
  replace rm := rm.mono b11
  replace rg := rg.mono b11
  replace rp := rp.mono b11
  replace vx := vx.mono b11
  replace B := below_trans B b11
  clear b11
  have cvx0 := vx.cell (i := 0) (by simp)
  have cvx1 := vx.cell (i := 1) (by simp)
  have cvx2 := vx.cell (i := 2) (by simp)
  have cvx3 := vx.cell (i := 3) (by simp)
  have cvx4 := vx.cell (i := 4) (by simp)
  simp only [List.getD_cons_zero, List.getD_cons_succ] at cvx0 cvx1 cvx2 cvx3 cvx4
  have ltvx := vx.lt
  go_wp2_with fail
  clear cvx0 cvx1 cvx2 cvx3 cvx4 ltvx
  refine (HRCO.out _ _ _ _ _ ⟨⟨adc, cc, by rw [HNC.out], rc⟩, ⟨adm, cm, by rw [HNM.out], rm⟩, ⟨adg, cg, by rw [HNG.out], rg⟩⟩ ⟨adp, cp, by rw [HNP.out], rp⟩).mono ?_
  rintro e w12 ⟨rfl, b12⟩
  replace rc := rc.mono b12
  replace rm := rm.mono b12
  replace rg := rg.mono b12
  replace rp := rp.mono b12
  replace vx := vx.mono b12
  replace B := below_trans B b12
  clear b12
  go_wp2
  go_ret
  exact ⟨rfl, B⟩

theorem walk_wchecks (S : Scl) (P : List Pk) (cv mv gv pv : Value) (w : World) (hS : InS w cv mv gv S) (hI : SclI S) (hP : InP w pv P) (hPI : PksI P) :
    Calls Try.prog 3 #[.agg #[cv, mv, gv, .int .i64 S.sf, .int .i64 S.ch], pv] w (RetTrue w) := by
  cases h1 : sclOk (shortS S) with
  | false => exact wlchecks_a S P cv mv gv pv w hS hI hP hPI h1 ⟨rfl, rfl⟩
  | true =>
    cases h2 : fitsB (shortS S) (P.take 97) with
    | false => exact wlchecks_b S P cv mv gv pv w hS hI hP hPI h1 h2
    | true =>
      cases h3 : allowedB (shortS S) (P.take 97) with
      | false => exact wlchecks_c S P cv mv gv pv w hS hI hP hPI h1 h2 h3
      | true => exact wlchecks_d S P cv mv gv pv w hS hI hP hPI h1 h2 h3

end Go.Proofs
