/- The walk of WireOptimal: whatever comes in, it returns true and changes nothing that was there. -/
import Derived.Test.YtmnalmmffphnpaaWLaw
import Derived.Deep.QuietTactic
import Derived.BigQuiet
import Derived.Deep.Cut
open Go.RowKit Go.Deep
namespace Go.Proofs
set_option linter.unusedVariables false
set_option linter.unusedSimpArgs false

theorem bestP_I {S : Scl} (hs : sclOk S = true) (hv : (bestV S).1 ≠ -1) : PksI (bestP S) := by
  intro p hp
  obtain ⟨i, hi, rfl⟩ := List.mem_map.1 hp
  have hi2 := List.mem_range.1 hi
  have h := (idx_pkAt ((best_steps hv).2.1 i hi2).1).1
  obtain ⟨⟨h1, h2⟩, h3, h4⟩ := pk_facts h
  obtain ⟨_, l2, l3, _⟩ := headOk_lens (headOk_of hs)
  unfold zI
  omega

set_option maxRecDepth 100000 in
set_option maxHeartbeats 1000000 in
theorem woptimal_a (S : Scl) (P : List Pk) (cv mv gv pv : Value) (w : World) (hS : InS w cv mv gv S) (hI : SclI S) (hP : InP w pv P) (hPI : PksI P) (h1 : sclOk (shortS S) = false) :
    Calls Try.prog 7 #[.agg #[cv, mv, gv, .int .i64 S.sf, .int .i64 S.ch], pv] w (RetTrue w) := by
  obtain ⟨T, hT⟩ : ∃ T, shortS S = T := ⟨_, rfl⟩
  obtain ⟨Q, hQ⟩ : ∃ Q, P.take 97 = Q := ⟨_, rfl⟩
  rw [hT] at h1
  have TI : SclI T := by rw [← hT]; exact shortS_I hI
  have QI : PksI Q := by rw [← hQ]; exact fun p hp => hPI p (List.mem_of_mem_take hp)
  have tl : T.ms.length ≤ 1000000000000 ∧ T.gs.length ≤ 1000000000000 := by
    rw [← hT]
    unfold shortS
    dsimp only
    rw [List.length_map, List.length_take, List.length_take]
    omega
  have SH := fun (W : World) (hb : Below w.heap.size w W) => wshort_calls S cv mv gv W (hS.mono hb)
  have PK := fun (W : World) (hb : Below w.heap.size w W) => picks_calls pv P W (hP.mono hb)
  rw [hT] at SH
  rw [hQ] at PK
  obtain ⟨⟨bdc, dc, rfl, rc0⟩, ⟨bdm, dm, rfl, rm0⟩, ⟨bdg, dg, rfl, rg0⟩⟩ := hS
  obtain ⟨bdp, dp, rfl, rp0⟩ := hP
  obtain ⟨mc, hmc⟩ : ∃ n, S.cs.length = n := ⟨_, rfl⟩
  obtain ⟨mm, hmm⟩ : ∃ n, S.ms.length = n := ⟨_, rfl⟩
  obtain ⟨mg, hmg⟩ : ∃ n, S.gs.length = n := ⟨_, rfl⟩
  obtain ⟨mp, hmp⟩ : ∃ n, P.length = n := ⟨_, rfl⟩
  rw [hmc, hmm, hmg] at SH ⊢
  rw [hmp] at PK ⊢
  have HSH := Lib.hid SH
  have HPK := Lib.hid PK
  clear SH PK hT hQ hI hPI rc0 rm0 rg0 rp0 hmc hmm hmg hmp
  have RCK := fun (cv mv gv : Value) (W : World) (h : InS W cv mv gv T) => rscheck_calls T cv mv gv W h TI
  rw [h1] at RCK
  simp only [Bool.false_eq_true, if_true, if_false] at RCK
  have HRCK := Lib.hid RCK
  clear RCK TI QI tl h1
  have vs := Vals.newL w (w.heap.size) [.slice bdc mc dc, .slice bdm mm dm, .slice bdg mg dg, .int .i64 S.sf, .int .i64 S.ch] 26 rfl
  have bb := below_alloc w (.cells #[.slice bdc mc dc, .slice bdm mm dm, .slice bdg mg dg, .int .i64 S.sf, .int .i64 S.ch] 26)
  have B := bb
  clear bb
  go_enter Try.func7, Try.ntmps7
  go_upto_region 1 with (fail)
  generalize (w.alloc (.cells #[.slice bdc mc dc, .slice bdm mm dm, .slice bdg mg dg, .int .i64 S.sf, .int .i64 S.ch] 26)) = w0 at *
  have cvs0 := vs.cell (i := 0) (by simp)
  have cvs1 := vs.cell (i := 1) (by simp)
  have cvs2 := vs.cell (i := 2) (by simp)
  have cvs3 := vs.cell (i := 3) (by simp)
  have cvs4 := vs.cell (i := 4) (by simp)
  simp only [List.getD_cons_zero, List.getD_cons_succ] at cvs0 cvs1 cvs2 cvs3 cvs4
  have ltvs := vs.lt
  go_wp2_with fail
  clear cvs0 cvs1 cvs2 cvs3 cvs4 ltvs
  clear vs
  refine (HSH.out _ B).mono ?_
  rintro e w1 ⟨cv, mv, gv, rfl, hs1, b1⟩
  replace B := below_trans B b1
  clear b1
  obtain ⟨⟨adc, cc, rfl, rc⟩, ⟨adm, cm, rfl, rm⟩, ⟨adg, cg, rfl, rg⟩⟩ := hs1
  obtain ⟨nc, hnc⟩ : ∃ n, T.cs.length = n := ⟨_, rfl⟩
  obtain ⟨nm, hnm⟩ : ∃ n, T.ms.length = n := ⟨_, rfl⟩
  obtain ⟨ng, hng⟩ : ∃ n, T.gs.length = n := ⟨_, rfl⟩
  rw [hnc, hnm, hng]
  have HNC := Lib.hid hnc
  have HNM := Lib.hid hnm
  have HNG := Lib.hid hng
  clear hnc hnm hng HSH
  go_wp2_with fail
  refine (HPK.out _ B).mono ?_
  rintro e w2 ⟨pv, rfl, hp1, _, b2⟩
  replace rc := rc.mono b2
  replace rm := rm.mono b2
  replace rg := rg.mono b2
  replace B := below_trans B b2
  clear b2
  obtain ⟨adp, cp, rfl, rp⟩ := hp1
  obtain ⟨np, hnp⟩ : ∃ n, Q.length = n := ⟨_, rfl⟩
  rw [hnp]
  have HNP := Lib.hid hnp
  clear hnp HPK
  go_upto_region 2 with (fail)
  have vx := Vals.newL w2 w2.heap.size [.slice adc nc cc, .slice adm nm cm, .slice adg ng cg, .int .i64 T.sf, .int .i64 T.ch] 26 rfl
  have bb := below_alloc w2 (.cells #[.slice adc nc cc, .slice adm nm cm, .slice adg ng cg, .int .i64 T.sf, .int .i64 T.ch] 26)
  replace rc := rc.mono bb
  replace rm := rm.mono bb
  replace rg := rg.mono bb
  replace rp := rp.mono bb
  replace B := below_trans B bb
  clear bb
  generalize w2.alloc (.cells #[.slice adc nc cc, .slice adm nm cm, .slice adg ng cg, .int .i64 T.sf, .int .i64 T.ch] 26) = w3 at *
  have cvx0 := vx.cell (i := 0) (by simp)
  have cvx1 := vx.cell (i := 1) (by simp)
  have cvx2 := vx.cell (i := 2) (by simp)
  have cvx3 := vx.cell (i := 3) (by simp)
  have cvx4 := vx.cell (i := 4) (by simp)
  simp only [List.getD_cons_zero, List.getD_cons_succ] at cvx0 cvx1 cvx2 cvx3 cvx4
  have ltvx := vx.lt
  go_wp2_with fail
  clear cvx0 cvx1 cvx2 cvx3 cvx4 ltvx
  refine (HRCK.out _ _ _ _ ⟨⟨adc, cc, by rw [HNC.out], rc⟩, ⟨adm, cm, by rw [HNM.out], rm⟩, ⟨adg, cg, by rw [HNG.out], rg⟩⟩).mono ?_
  rintro e w4 ⟨rfl, b4⟩
  replace rc := rc.mono b4
  replace rm := rm.mono b4
  replace rg := rg.mono b4
  replace rp := rp.mono b4
  replace vx := vx.mono b4
  replace B := below_trans B b4
  clear b4
  go_wp2_with fail
  refine (lives_calls _).mono ?_
  rintro e w5 ⟨rfl, b5⟩
  replace rc := rc.mono b5
  replace rm := rm.mono b5
  replace rg := rg.mono b5
  replace rp := rp.mono b5
  replace vx := vx.mono b5
  replace B := below_trans B b5
  clear b5
  go_wp2
  go_ret
  exact ⟨rfl, B⟩

set_option maxRecDepth 100000 in
set_option maxHeartbeats 1000000 in
theorem woptimal_b (S : Scl) (P : List Pk) (cv mv gv pv : Value) (w : World) (hS : InS w cv mv gv S) (hI : SclI S) (hP : InP w pv P) (hPI : PksI P) (h1 : sclOk (shortS S) = true) (h2 : dearB (shortS S) = true) :
    Calls Try.prog 7 #[.agg #[cv, mv, gv, .int .i64 S.sf, .int .i64 S.ch], pv] w (RetTrue w) := by
  obtain ⟨T, hT⟩ : ∃ T, shortS S = T := ⟨_, rfl⟩
  obtain ⟨Q, hQ⟩ : ∃ Q, P.take 97 = Q := ⟨_, rfl⟩
  rw [hT] at h1
  rw [hT] at h2
  have TI : SclI T := by rw [← hT]; exact shortS_I hI
  have QI : PksI Q := by rw [← hQ]; exact fun p hp => hPI p (List.mem_of_mem_take hp)
  have tl : T.ms.length ≤ 1000000000000 ∧ T.gs.length ≤ 1000000000000 := by
    rw [← hT]
    unfold shortS
    dsimp only
    rw [List.length_map, List.length_take, List.length_take]
    omega
  have SH := fun (W : World) (hb : Below w.heap.size w W) => wshort_calls S cv mv gv W (hS.mono hb)
  have PK := fun (W : World) (hb : Below w.heap.size w W) => picks_calls pv P W (hP.mono hb)
  rw [hT] at SH
  rw [hQ] at PK
  obtain ⟨⟨bdc, dc, rfl, rc0⟩, ⟨bdm, dm, rfl, rm0⟩, ⟨bdg, dg, rfl, rg0⟩⟩ := hS
  obtain ⟨bdp, dp, rfl, rp0⟩ := hP
  obtain ⟨mc, hmc⟩ : ∃ n, S.cs.length = n := ⟨_, rfl⟩
  obtain ⟨mm, hmm⟩ : ∃ n, S.ms.length = n := ⟨_, rfl⟩
  obtain ⟨mg, hmg⟩ : ∃ n, S.gs.length = n := ⟨_, rfl⟩
  obtain ⟨mp, hmp⟩ : ∃ n, P.length = n := ⟨_, rfl⟩
  rw [hmc, hmm, hmg] at SH ⊢
  rw [hmp] at PK ⊢
  have HSH := Lib.hid SH
  have HPK := Lib.hid PK
  clear SH PK hT hQ hI hPI rc0 rm0 rg0 rp0 hmc hmm hmg hmp
  have RCK := fun (cv mv gv : Value) (W : World) (h : InS W cv mv gv T) => rscheck_calls T cv mv gv W h TI
  rw [h1] at RCK
  have DE := fun (cv mv gv : Value) (W : World) (h : InS W cv mv gv T) => dear_calls T cv mv gv W h h1
  rw [h2] at DE
  simp only [Bool.false_eq_true, if_true, if_false] at RCK
  have HRCK := Lib.hid RCK
  have HDE := Lib.hid DE
  clear RCK DE TI QI tl h1 h2
  have vs := Vals.newL w (w.heap.size) [.slice bdc mc dc, .slice bdm mm dm, .slice bdg mg dg, .int .i64 S.sf, .int .i64 S.ch] 26 rfl
  have bb := below_alloc w (.cells #[.slice bdc mc dc, .slice bdm mm dm, .slice bdg mg dg, .int .i64 S.sf, .int .i64 S.ch] 26)
  have B := bb
  clear bb
  go_enter Try.func7, Try.ntmps7
  go_upto_region 1 with (fail)
  generalize (w.alloc (.cells #[.slice bdc mc dc, .slice bdm mm dm, .slice bdg mg dg, .int .i64 S.sf, .int .i64 S.ch] 26)) = w0 at *
  have cvs0 := vs.cell (i := 0) (by simp)
  have cvs1 := vs.cell (i := 1) (by simp)
  have cvs2 := vs.cell (i := 2) (by simp)
  have cvs3 := vs.cell (i := 3) (by simp)
  have cvs4 := vs.cell (i := 4) (by simp)
  simp only [List.getD_cons_zero, List.getD_cons_succ] at cvs0 cvs1 cvs2 cvs3 cvs4
  have ltvs := vs.lt
  go_wp2_with fail
  clear cvs0 cvs1 cvs2 cvs3 cvs4 ltvs
  clear vs
  refine (HSH.out _ B).mono ?_
  rintro e w1 ⟨cv, mv, gv, rfl, hs1, b1⟩
  replace B := below_trans B b1
  clear b1
  obtain ⟨⟨adc, cc, rfl, rc⟩, ⟨adm, cm, rfl, rm⟩, ⟨adg, cg, rfl, rg⟩⟩ := hs1
  obtain ⟨nc, hnc⟩ : ∃ n, T.cs.length = n := ⟨_, rfl⟩
  obtain ⟨nm, hnm⟩ : ∃ n, T.ms.length = n := ⟨_, rfl⟩
  obtain ⟨ng, hng⟩ : ∃ n, T.gs.length = n := ⟨_, rfl⟩
  rw [hnc, hnm, hng]
  have HNC := Lib.hid hnc
  have HNM := Lib.hid hnm
  have HNG := Lib.hid hng
  clear hnc hnm hng HSH
  go_wp2_with fail
  refine (HPK.out _ B).mono ?_
  rintro e w2 ⟨pv, rfl, hp1, _, b2⟩
  replace rc := rc.mono b2
  replace rm := rm.mono b2
  replace rg := rg.mono b2
  replace B := below_trans B b2
  clear b2
  obtain ⟨adp, cp, rfl, rp⟩ := hp1
  obtain ⟨np, hnp⟩ : ∃ n, Q.length = n := ⟨_, rfl⟩
  rw [hnp]
  have HNP := Lib.hid hnp
  clear hnp HPK
  go_upto_region 2 with (fail)
  have vx := Vals.newL w2 w2.heap.size [.slice adc nc cc, .slice adm nm cm, .slice adg ng cg, .int .i64 T.sf, .int .i64 T.ch] 26 rfl
  have bb := below_alloc w2 (.cells #[.slice adc nc cc, .slice adm nm cm, .slice adg ng cg, .int .i64 T.sf, .int .i64 T.ch] 26)
  replace rc := rc.mono bb
  replace rm := rm.mono bb
  replace rg := rg.mono bb
  replace rp := rp.mono bb
  replace B := below_trans B bb
  clear bb
  generalize w2.alloc (.cells #[.slice adc nc cc, .slice adm nm cm, .slice adg ng cg, .int .i64 T.sf, .int .i64 T.ch] 26) = w3 at *
  have cvx0 := vx.cell (i := 0) (by simp)
  have cvx1 := vx.cell (i := 1) (by simp)
  have cvx2 := vx.cell (i := 2) (by simp)
  have cvx3 := vx.cell (i := 3) (by simp)
  have cvx4 := vx.cell (i := 4) (by simp)
  simp only [List.getD_cons_zero, List.getD_cons_succ] at cvx0 cvx1 cvx2 cvx3 cvx4
  have ltvx := vx.lt
  go_wp2_with fail
  clear cvx0 cvx1 cvx2 cvx3 cvx4 ltvx
  refine (HRCK.out _ _ _ _ ⟨⟨adc, cc, by rw [HNC.out], rc⟩, ⟨adm, cm, by rw [HNM.out], rm⟩, ⟨adg, cg, by rw [HNG.out], rg⟩⟩).mono ?_
  rintro e w4 ⟨rfl, b4⟩
  replace rc := rc.mono b4
  replace rm := rm.mono b4
  replace rg := rg.mono b4
  replace rp := rp.mono b4
  replace vx := vx.mono b4
  replace B := below_trans B b4
  clear b4
  have cvx0 := vx.cell (i := 0) (by simp)
  have cvx1 := vx.cell (i := 1) (by simp)
  have cvx2 := vx.cell (i := 2) (by simp)
  have cvx3 := vx.cell (i := 3) (by simp)
  have cvx4 := vx.cell (i := 4) (by simp)
  simp only [List.getD_cons_zero, List.getD_cons_succ] at cvx0 cvx1 cvx2 cvx3 cvx4
  have ltvx := vx.lt
  go_wp2_with fail
  clear cvx0 cvx1 cvx2 cvx3 cvx4 ltvx
  refine (HDE.out _ _ _ _ ⟨⟨adc, cc, by rw [HNC.out], rc⟩, ⟨adm, cm, by rw [HNM.out], rm⟩, ⟨adg, cg, by rw [HNG.out], rg⟩⟩).mono ?_
  rintro e w5 ⟨rfl, b5⟩
  replace rc := rc.mono b5
  replace rm := rm.mono b5
  replace rg := rg.mono b5
  replace rp := rp.mono b5
  replace vx := vx.mono b5
  replace B := below_trans B b5
  clear b5
  go_wp2_with fail
  refine (lives_calls _).mono ?_
  rintro e w6 ⟨rfl, b6⟩
  replace rc := rc.mono b6
  replace rm := rm.mono b6
  replace rg := rg.mono b6
  replace rp := rp.mono b6
  replace vx := vx.mono b6
  replace B := below_trans B b6
  clear b6
  go_wp2
  go_ret
  exact ⟨rfl, B⟩

set_option maxRecDepth 100000 in
set_option maxHeartbeats 1000000 in
theorem woptimal_c1 (S : Scl) (P : List Pk) (cv mv gv pv : Value) (w : World) (hS : InS w cv mv gv S) (hI : SclI S) (hP : InP w pv P) (hPI : PksI P) (h1 : sclOk (shortS S) = true) (h2 : dearB (shortS S) = false) (h3 : (bestV (shortS S)).1 = -1) (h4 : fitsB (shortS S) (P.take 97) = false) :
    Calls Try.prog 7 #[.agg #[cv, mv, gv, .int .i64 S.sf, .int .i64 S.ch], pv] w (RetTrue w) := by
  obtain ⟨T, hT⟩ : ∃ T, shortS S = T := ⟨_, rfl⟩
  obtain ⟨Q, hQ⟩ : ∃ Q, P.take 97 = Q := ⟨_, rfl⟩
  rw [hT] at h1
  rw [hT] at h2
  rw [hT] at h3
  rw [hT, hQ] at h4
  have TI : SclI T := by rw [← hT]; exact shortS_I hI
  have QI : PksI Q := by rw [← hQ]; exact fun p hp => hPI p (List.mem_of_mem_take hp)
  have tl : T.ms.length ≤ 1000000000000 ∧ T.gs.length ≤ 1000000000000 := by
    rw [← hT]
    unfold shortS
    dsimp only
    rw [List.length_map, List.length_take, List.length_take]
    omega
  have SH := fun (W : World) (hb : Below w.heap.size w W) => wshort_calls S cv mv gv W (hS.mono hb)
  have PK := fun (W : World) (hb : Below w.heap.size w W) => picks_calls pv P W (hP.mono hb)
  rw [hT] at SH
  rw [hQ] at PK
  obtain ⟨⟨bdc, dc, rfl, rc0⟩, ⟨bdm, dm, rfl, rm0⟩, ⟨bdg, dg, rfl, rg0⟩⟩ := hS
  obtain ⟨bdp, dp, rfl, rp0⟩ := hP
  obtain ⟨mc, hmc⟩ : ∃ n, S.cs.length = n := ⟨_, rfl⟩
  obtain ⟨mm, hmm⟩ : ∃ n, S.ms.length = n := ⟨_, rfl⟩
  obtain ⟨mg, hmg⟩ : ∃ n, S.gs.length = n := ⟨_, rfl⟩
  obtain ⟨mp, hmp⟩ : ∃ n, P.length = n := ⟨_, rfl⟩
  rw [hmc, hmm, hmg] at SH ⊢
  rw [hmp] at PK ⊢
  have HSH := Lib.hid SH
  have HPK := Lib.hid PK
  clear SH PK hT hQ hI hPI rc0 rm0 rg0 rp0 hmc hmm hmg hmp
  have RCK := fun (cv mv gv : Value) (W : World) (h : InS W cv mv gv T) => rscheck_calls T cv mv gv W h TI
  rw [h1] at RCK
  have DE := fun (cv mv gv : Value) (W : World) (h : InS W cv mv gv T) => dear_calls T cv mv gv W h h1
  rw [h2] at DE
  have BE := fun (cv mv gv : Value) (W : World) (h : InS W cv mv gv T) => wbest_none T cv mv gv W h TI h1 h3
  have hk : fitsCode T Q = 2 := by unfold fitsCode; rw [h1, h4]; rfl
  have CO := fun (cv mv gv pv : Value) (W : World) (h : InS W cv mv gv T) (hp : InP W pv Q) => wCost_err2 T Q cv mv gv pv W h TI hp QI hk
  clear hk
  simp only [Bool.false_eq_true, if_true, if_false] at RCK
  have HRCK := Lib.hid RCK
  have HDE := Lib.hid DE
  have HBE := Lib.hid BE
  have HCO := Lib.hid CO
  clear RCK DE BE CO TI QI tl h1 h2 h4 h3
  have vs := Vals.newL w (w.heap.size) [.slice bdc mc dc, .slice bdm mm dm, .slice bdg mg dg, .int .i64 S.sf, .int .i64 S.ch] 26 rfl
  have bb := below_alloc w (.cells #[.slice bdc mc dc, .slice bdm mm dm, .slice bdg mg dg, .int .i64 S.sf, .int .i64 S.ch] 26)
  have B := bb
  clear bb
  go_enter Try.func7, Try.ntmps7
  go_upto_region 1 with (fail)
  generalize (w.alloc (.cells #[.slice bdc mc dc, .slice bdm mm dm, .slice bdg mg dg, .int .i64 S.sf, .int .i64 S.ch] 26)) = w0 at *
  have cvs0 := vs.cell (i := 0) (by simp)
  have cvs1 := vs.cell (i := 1) (by simp)
  have cvs2 := vs.cell (i := 2) (by simp)
  have cvs3 := vs.cell (i := 3) (by simp)
  have cvs4 := vs.cell (i := 4) (by simp)
  simp only [List.getD_cons_zero, List.getD_cons_succ] at cvs0 cvs1 cvs2 cvs3 cvs4
  have ltvs := vs.lt
  go_wp2_with fail
  clear cvs0 cvs1 cvs2 cvs3 cvs4 ltvs
  clear vs
  refine (HSH.out _ B).mono ?_
  rintro e w1 ⟨cv, mv, gv, rfl, hs1, b1⟩
  replace B := below_trans B b1
  clear b1
  obtain ⟨⟨adc, cc, rfl, rc⟩, ⟨adm, cm, rfl, rm⟩, ⟨adg, cg, rfl, rg⟩⟩ := hs1
  obtain ⟨nc, hnc⟩ : ∃ n, T.cs.length = n := ⟨_, rfl⟩
  obtain ⟨nm, hnm⟩ : ∃ n, T.ms.length = n := ⟨_, rfl⟩
  obtain ⟨ng, hng⟩ : ∃ n, T.gs.length = n := ⟨_, rfl⟩
  rw [hnc, hnm, hng]
  have HNC := Lib.hid hnc
  have HNM := Lib.hid hnm
  have HNG := Lib.hid hng
  clear hnc hnm hng HSH
  go_wp2_with fail
  refine (HPK.out _ B).mono ?_
  rintro e w2 ⟨pv, rfl, hp1, _, b2⟩
  replace rc := rc.mono b2
  replace rm := rm.mono b2
  replace rg := rg.mono b2
  replace B := below_trans B b2
  clear b2
  obtain ⟨adp, cp, rfl, rp⟩ := hp1
  obtain ⟨np, hnp⟩ : ∃ n, Q.length = n := ⟨_, rfl⟩
  rw [hnp]
  have HNP := Lib.hid hnp
  clear hnp HPK
  go_upto_region 2 with (fail)
  have vx := Vals.newL w2 w2.heap.size [.slice adc nc cc, .slice adm nm cm, .slice adg ng cg, .int .i64 T.sf, .int .i64 T.ch] 26 rfl
  have bb := below_alloc w2 (.cells #[.slice adc nc cc, .slice adm nm cm, .slice adg ng cg, .int .i64 T.sf, .int .i64 T.ch] 26)
  replace rc := rc.mono bb
  replace rm := rm.mono bb
  replace rg := rg.mono bb
  replace rp := rp.mono bb
  replace B := below_trans B bb
  clear bb
  generalize w2.alloc (.cells #[.slice adc nc cc, .slice adm nm cm, .slice adg ng cg, .int .i64 T.sf, .int .i64 T.ch] 26) = w3 at *
  have cvx0 := vx.cell (i := 0) (by simp)
  have cvx1 := vx.cell (i := 1) (by simp)
  have cvx2 := vx.cell (i := 2) (by simp)
  have cvx3 := vx.cell (i := 3) (by simp)
  have cvx4 := vx.cell (i := 4) (by simp)
  simp only [List.getD_cons_zero, List.getD_cons_succ] at cvx0 cvx1 cvx2 cvx3 cvx4
  have ltvx := vx.lt
  go_wp2_with fail
  clear cvx0 cvx1 cvx2 cvx3 cvx4 ltvx
  refine (HRCK.out _ _ _ _ ⟨⟨adc, cc, by rw [HNC.out], rc⟩, ⟨adm, cm, by rw [HNM.out], rm⟩, ⟨adg, cg, by rw [HNG.out], rg⟩⟩).mono ?_
  rintro e w4 ⟨rfl, b4⟩
  replace rc := rc.mono b4
  replace rm := rm.mono b4
  replace rg := rg.mono b4
  replace rp := rp.mono b4
  replace vx := vx.mono b4
  replace B := below_trans B b4
  clear b4
  have cvx0 := vx.cell (i := 0) (by simp)
  have cvx1 := vx.cell (i := 1) (by simp)
  have cvx2 := vx.cell (i := 2) (by simp)
  have cvx3 := vx.cell (i := 3) (by simp)
  have cvx4 := vx.cell (i := 4) (by simp)
  simp only [List.getD_cons_zero, List.getD_cons_succ] at cvx0 cvx1 cvx2 cvx3 cvx4
  have ltvx := vx.lt
  go_wp2_with fail
  clear cvx0 cvx1 cvx2 cvx3 cvx4 ltvx
  refine (HDE.out _ _ _ _ ⟨⟨adc, cc, by rw [HNC.out], rc⟩, ⟨adm, cm, by rw [HNM.out], rm⟩, ⟨adg, cg, by rw [HNG.out], rg⟩⟩).mono ?_
  rintro e w5 ⟨rfl, b5⟩
  replace rc := rc.mono b5
  replace rm := rm.mono b5
  replace rg := rg.mono b5
  replace rp := rp.mono b5
  replace vx := vx.mono b5
  replace B := below_trans B b5
  clear b5
  have cvx0 := vx.cell (i := 0) (by simp)
  have cvx1 := vx.cell (i := 1) (by simp)
  have cvx2 := vx.cell (i := 2) (by simp)
  have cvx3 := vx.cell (i := 3) (by simp)
  have cvx4 := vx.cell (i := 4) (by simp)
  simp only [List.getD_cons_zero, List.getD_cons_succ] at cvx0 cvx1 cvx2 cvx3 cvx4
  have ltvx := vx.lt
  go_wp2_with fail
  clear cvx0 cvx1 cvx2 cvx3 cvx4 ltvx
  refine (HBE.out _ _ _ _ ⟨⟨adc, cc, by rw [HNC.out], rc⟩, ⟨adm, cm, by rw [HNM.out], rm⟩, ⟨adg, cg, by rw [HNG.out], rg⟩⟩).mono ?_
  rintro e w6 ⟨rfl, b6⟩
  replace rc := rc.mono b6
  replace rm := rm.mono b6
  replace rg := rg.mono b6
  replace rp := rp.mono b6
  replace vx := vx.mono b6
  replace B := below_trans B b6
  clear b6
  have cvx0 := vx.cell (i := 0) (by simp)
  have cvx1 := vx.cell (i := 1) (by simp)
  have cvx2 := vx.cell (i := 2) (by simp)
  have cvx3 := vx.cell (i := 3) (by simp)
  have cvx4 := vx.cell (i := 4) (by simp)
  simp only [List.getD_cons_zero, List.getD_cons_succ] at cvx0 cvx1 cvx2 cvx3 cvx4
  have ltvx := vx.lt
  go_wp2_with fail
  clear cvx0 cvx1 cvx2 cvx3 cvx4 ltvx
  refine (HCO.out _ _ _ _ _ ⟨⟨adc, cc, by rw [HNC.out], rc⟩, ⟨adm, cm, by rw [HNM.out], rm⟩, ⟨adg, cg, by rw [HNG.out], rg⟩⟩ ⟨adp, cp, by rw [HNP.out], rp⟩).mono ?_
  rintro e w7 ⟨rfl, b7⟩
  replace rc := rc.mono b7
  replace rm := rm.mono b7
  replace rg := rg.mono b7
  replace rp := rp.mono b7
  replace vx := vx.mono b7
  replace B := below_trans B b7
  clear b7
  go_wp2_with fail
  refine (lives_calls _).mono ?_
  rintro e w8 ⟨rfl, b8⟩
  replace rc := rc.mono b8
  replace rm := rm.mono b8
  replace rg := rg.mono b8
  replace rp := rp.mono b8
  replace vx := vx.mono b8
  replace B := below_trans B b8
  clear b8
  go_wp2
  go_ret
  exact ⟨rfl, B⟩

set_option maxRecDepth 100000 in
set_option maxHeartbeats 1000000 in
theorem woptimal_c2 (S : Scl) (P : List Pk) (cv mv gv pv : Value) (w : World) (hS : InS w cv mv gv S) (hI : SclI S) (hP : InP w pv P) (hPI : PksI P) (h1 : sclOk (shortS S) = true) (h2 : dearB (shortS S) = false) (h3 : (bestV (shortS S)).1 = -1) (h4 : fitsB (shortS S) (P.take 97) = true) :
    Calls Try.prog 7 #[.agg #[cv, mv, gv, .int .i64 S.sf, .int .i64 S.ch], pv] w (RetTrue w) := by
  obtain ⟨T, hT⟩ : ∃ T, shortS S = T := ⟨_, rfl⟩
  obtain ⟨Q, hQ⟩ : ∃ Q, P.take 97 = Q := ⟨_, rfl⟩
  rw [hT] at h1
  rw [hT] at h2
  rw [hT] at h3
  rw [hT, hQ] at h4
  have TI : SclI T := by rw [← hT]; exact shortS_I hI
  have QI : PksI Q := by rw [← hQ]; exact fun p hp => hPI p (List.mem_of_mem_take hp)
  have tl : T.ms.length ≤ 1000000000000 ∧ T.gs.length ≤ 1000000000000 := by
    rw [← hT]
    unfold shortS
    dsimp only
    rw [List.length_map, List.length_take, List.length_take]
    omega
  have SH := fun (W : World) (hb : Below w.heap.size w W) => wshort_calls S cv mv gv W (hS.mono hb)
  have PK := fun (W : World) (hb : Below w.heap.size w W) => picks_calls pv P W (hP.mono hb)
  rw [hT] at SH
  rw [hQ] at PK
  obtain ⟨⟨bdc, dc, rfl, rc0⟩, ⟨bdm, dm, rfl, rm0⟩, ⟨bdg, dg, rfl, rg0⟩⟩ := hS
  obtain ⟨bdp, dp, rfl, rp0⟩ := hP
  obtain ⟨mc, hmc⟩ : ∃ n, S.cs.length = n := ⟨_, rfl⟩
  obtain ⟨mm, hmm⟩ : ∃ n, S.ms.length = n := ⟨_, rfl⟩
  obtain ⟨mg, hmg⟩ : ∃ n, S.gs.length = n := ⟨_, rfl⟩
  obtain ⟨mp, hmp⟩ : ∃ n, P.length = n := ⟨_, rfl⟩
  rw [hmc, hmm, hmg] at SH ⊢
  rw [hmp] at PK ⊢
  have HSH := Lib.hid SH
  have HPK := Lib.hid PK
  clear SH PK hT hQ hI hPI rc0 rm0 rg0 rp0 hmc hmm hmg hmp
  have RCK := fun (cv mv gv : Value) (W : World) (h : InS W cv mv gv T) => rscheck_calls T cv mv gv W h TI
  rw [h1] at RCK
  have DE := fun (cv mv gv : Value) (W : World) (h : InS W cv mv gv T) => dear_calls T cv mv gv W h h1
  rw [h2] at DE
  have BE := fun (cv mv gv : Value) (W : World) (h : InS W cv mv gv T) => wbest_none T cv mv gv W h TI h1 h3
  have h5 := best_no h1 h3 h4
  have CO := fun (cv mv gv pv : Value) (W : World) (h : InS W cv mv gv T) (hp : InP W pv Q) => wCost_ok T Q cv mv gv pv W h TI hp QI h1 h4
  rw [h5] at CO
  simp only [Bool.false_eq_true, if_true, if_false] at RCK CO
  have HRCK := Lib.hid RCK
  have HDE := Lib.hid DE
  have HBE := Lib.hid BE
  have HCO := Lib.hid CO
  clear RCK DE BE CO TI QI tl h1 h2 h4 h5 h3
  have vs := Vals.newL w (w.heap.size) [.slice bdc mc dc, .slice bdm mm dm, .slice bdg mg dg, .int .i64 S.sf, .int .i64 S.ch] 26 rfl
  have bb := below_alloc w (.cells #[.slice bdc mc dc, .slice bdm mm dm, .slice bdg mg dg, .int .i64 S.sf, .int .i64 S.ch] 26)
  have B := bb
  clear bb
  go_enter Try.func7, Try.ntmps7
  go_upto_region 1 with (fail)
  generalize (w.alloc (.cells #[.slice bdc mc dc, .slice bdm mm dm, .slice bdg mg dg, .int .i64 S.sf, .int .i64 S.ch] 26)) = w0 at *
  have cvs0 := vs.cell (i := 0) (by simp)
  have cvs1 := vs.cell (i := 1) (by simp)
  have cvs2 := vs.cell (i := 2) (by simp)
  have cvs3 := vs.cell (i := 3) (by simp)
  have cvs4 := vs.cell (i := 4) (by simp)
  simp only [List.getD_cons_zero, List.getD_cons_succ] at cvs0 cvs1 cvs2 cvs3 cvs4
  have ltvs := vs.lt
  go_wp2_with fail
  clear cvs0 cvs1 cvs2 cvs3 cvs4 ltvs
  clear vs
  refine (HSH.out _ B).mono ?_
  rintro e w1 ⟨cv, mv, gv, rfl, hs1, b1⟩
  replace B := below_trans B b1
  clear b1
  obtain ⟨⟨adc, cc, rfl, rc⟩, ⟨adm, cm, rfl, rm⟩, ⟨adg, cg, rfl, rg⟩⟩ := hs1
  obtain ⟨nc, hnc⟩ : ∃ n, T.cs.length = n := ⟨_, rfl⟩
  obtain ⟨nm, hnm⟩ : ∃ n, T.ms.length = n := ⟨_, rfl⟩
  obtain ⟨ng, hng⟩ : ∃ n, T.gs.length = n := ⟨_, rfl⟩
  rw [hnc, hnm, hng]
  have HNC := Lib.hid hnc
  have HNM := Lib.hid hnm
  have HNG := Lib.hid hng
  clear hnc hnm hng HSH
  go_wp2_with fail
  refine (HPK.out _ B).mono ?_
  rintro e w2 ⟨pv, rfl, hp1, _, b2⟩
  replace rc := rc.mono b2
  replace rm := rm.mono b2
  replace rg := rg.mono b2
  replace B := below_trans B b2
  clear b2
  obtain ⟨adp, cp, rfl, rp⟩ := hp1
  obtain ⟨np, hnp⟩ : ∃ n, Q.length = n := ⟨_, rfl⟩
  rw [hnp]
  have HNP := Lib.hid hnp
  clear hnp HPK
  go_upto_region 2 with (fail)
  have vx := Vals.newL w2 w2.heap.size [.slice adc nc cc, .slice adm nm cm, .slice adg ng cg, .int .i64 T.sf, .int .i64 T.ch] 26 rfl
  have bb := below_alloc w2 (.cells #[.slice adc nc cc, .slice adm nm cm, .slice adg ng cg, .int .i64 T.sf, .int .i64 T.ch] 26)
  replace rc := rc.mono bb
  replace rm := rm.mono bb
  replace rg := rg.mono bb
  replace rp := rp.mono bb
  replace B := below_trans B bb
  clear bb
  generalize w2.alloc (.cells #[.slice adc nc cc, .slice adm nm cm, .slice adg ng cg, .int .i64 T.sf, .int .i64 T.ch] 26) = w3 at *
  have cvx0 := vx.cell (i := 0) (by simp)
  have cvx1 := vx.cell (i := 1) (by simp)
  have cvx2 := vx.cell (i := 2) (by simp)
  have cvx3 := vx.cell (i := 3) (by simp)
  have cvx4 := vx.cell (i := 4) (by simp)
  simp only [List.getD_cons_zero, List.getD_cons_succ] at cvx0 cvx1 cvx2 cvx3 cvx4
  have ltvx := vx.lt
  go_wp2_with fail
  clear cvx0 cvx1 cvx2 cvx3 cvx4 ltvx
  refine (HRCK.out _ _ _ _ ⟨⟨adc, cc, by rw [HNC.out], rc⟩, ⟨adm, cm, by rw [HNM.out], rm⟩, ⟨adg, cg, by rw [HNG.out], rg⟩⟩).mono ?_
  rintro e w4 ⟨rfl, b4⟩
  replace rc := rc.mono b4
  replace rm := rm.mono b4
  replace rg := rg.mono b4
  replace rp := rp.mono b4
  replace vx := vx.mono b4
  replace B := below_trans B b4
  clear b4
  have cvx0 := vx.cell (i := 0) (by simp)
  have cvx1 := vx.cell (i := 1) (by simp)
  have cvx2 := vx.cell (i := 2) (by simp)
  have cvx3 := vx.cell (i := 3) (by simp)
  have cvx4 := vx.cell (i := 4) (by simp)
  simp only [List.getD_cons_zero, List.getD_cons_succ] at cvx0 cvx1 cvx2 cvx3 cvx4
  have ltvx := vx.lt
  go_wp2_with fail
  clear cvx0 cvx1 cvx2 cvx3 cvx4 ltvx
  refine (HDE.out _ _ _ _ ⟨⟨adc, cc, by rw [HNC.out], rc⟩, ⟨adm, cm, by rw [HNM.out], rm⟩, ⟨adg, cg, by rw [HNG.out], rg⟩⟩).mono ?_
  rintro e w5 ⟨rfl, b5⟩
  replace rc := rc.mono b5
  replace rm := rm.mono b5
  replace rg := rg.mono b5
  replace rp := rp.mono b5
  replace vx := vx.mono b5
  replace B := below_trans B b5
  clear b5
  have cvx0 := vx.cell (i := 0) (by simp)
  have cvx1 := vx.cell (i := 1) (by simp)
  have cvx2 := vx.cell (i := 2) (by simp)
  have cvx3 := vx.cell (i := 3) (by simp)
  have cvx4 := vx.cell (i := 4) (by simp)
  simp only [List.getD_cons_zero, List.getD_cons_succ] at cvx0 cvx1 cvx2 cvx3 cvx4
  have ltvx := vx.lt
  go_wp2_with fail
  clear cvx0 cvx1 cvx2 cvx3 cvx4 ltvx
  refine (HBE.out _ _ _ _ ⟨⟨adc, cc, by rw [HNC.out], rc⟩, ⟨adm, cm, by rw [HNM.out], rm⟩, ⟨adg, cg, by rw [HNG.out], rg⟩⟩).mono ?_
  rintro e w6 ⟨rfl, b6⟩
  replace rc := rc.mono b6
  replace rm := rm.mono b6
  replace rg := rg.mono b6
  replace rp := rp.mono b6
  replace vx := vx.mono b6
  replace B := below_trans B b6
  clear b6
  have cvx0 := vx.cell (i := 0) (by simp)
  have cvx1 := vx.cell (i := 1) (by simp)
  have cvx2 := vx.cell (i := 2) (by simp)
  have cvx3 := vx.cell (i := 3) (by simp)
  have cvx4 := vx.cell (i := 4) (by simp)
  simp only [List.getD_cons_zero, List.getD_cons_succ] at cvx0 cvx1 cvx2 cvx3 cvx4
  have ltvx := vx.lt
  go_wp2_with fail
  clear cvx0 cvx1 cvx2 cvx3 cvx4 ltvx
  refine (HCO.out _ _ _ _ _ ⟨⟨adc, cc, by rw [HNC.out], rc⟩, ⟨adm, cm, by rw [HNM.out], rm⟩, ⟨adg, cg, by rw [HNG.out], rg⟩⟩ ⟨adp, cp, by rw [HNP.out], rp⟩).mono ?_
  rintro e w7 ⟨rfl, b7⟩
  replace rc := rc.mono b7
  replace rm := rm.mono b7
  replace rg := rg.mono b7
  replace rp := rp.mono b7
  replace vx := vx.mono b7
  replace B := below_trans B b7
  clear b7
  go_wp2_with fail
  refine (lives_calls _).mono ?_
  rintro e w8 ⟨rfl, b8⟩
  replace rc := rc.mono b8
  replace rm := rm.mono b8
  replace rg := rg.mono b8
  replace rp := rp.mono b8
  replace vx := vx.mono b8
  replace B := below_trans B b8
  clear b8
  go_wp2
  go_ret
  exact ⟨rfl, B⟩

set_option maxRecDepth 100000 in
set_option maxHeartbeats 1000000 in
theorem woptimal_d1 (S : Scl) (P : List Pk) (cv mv gv pv : Value) (w : World) (hS : InS w cv mv gv S) (hI : SclI S) (hP : InP w pv P) (hPI : PksI P) (h1 : sclOk (shortS S) = true) (h2 : dearB (shortS S) = false) (h3 : (bestV (shortS S)).1 ≠ -1) (h4 : fitsB (shortS S) (P.take 97) = false) :
    Calls Try.prog 7 #[.agg #[cv, mv, gv, .int .i64 S.sf, .int .i64 S.ch], pv] w (RetTrue w) := by
  obtain ⟨T, hT⟩ : ∃ T, shortS S = T := ⟨_, rfl⟩
  obtain ⟨Q, hQ⟩ : ∃ Q, P.take 97 = Q := ⟨_, rfl⟩
  rw [hT] at h1
  rw [hT] at h2
  rw [hT] at h3
  rw [hT, hQ] at h4
  have TI : SclI T := by rw [← hT]; exact shortS_I hI
  have QI : PksI Q := by rw [← hQ]; exact fun p hp => hPI p (List.mem_of_mem_take hp)
  have tl : T.ms.length ≤ 1000000000000 ∧ T.gs.length ≤ 1000000000000 := by
    rw [← hT]
    unfold shortS
    dsimp only
    rw [List.length_map, List.length_take, List.length_take]
    omega
  have SH := fun (W : World) (hb : Below w.heap.size w W) => wshort_calls S cv mv gv W (hS.mono hb)
  have PK := fun (W : World) (hb : Below w.heap.size w W) => picks_calls pv P W (hP.mono hb)
  rw [hT] at SH
  rw [hQ] at PK
  obtain ⟨⟨bdc, dc, rfl, rc0⟩, ⟨bdm, dm, rfl, rm0⟩, ⟨bdg, dg, rfl, rg0⟩⟩ := hS
  obtain ⟨bdp, dp, rfl, rp0⟩ := hP
  obtain ⟨mc, hmc⟩ : ∃ n, S.cs.length = n := ⟨_, rfl⟩
  obtain ⟨mm, hmm⟩ : ∃ n, S.ms.length = n := ⟨_, rfl⟩
  obtain ⟨mg, hmg⟩ : ∃ n, S.gs.length = n := ⟨_, rfl⟩
  obtain ⟨mp, hmp⟩ : ∃ n, P.length = n := ⟨_, rfl⟩
  rw [hmc, hmm, hmg] at SH ⊢
  rw [hmp] at PK ⊢
  have HSH := Lib.hid SH
  have HPK := Lib.hid PK
  clear SH PK hT hQ hI hPI rc0 rm0 rg0 rp0 hmc hmm hmg hmp
  have RCK := fun (cv mv gv : Value) (W : World) (h : InS W cv mv gv T) => rscheck_calls T cv mv gv W h TI
  rw [h1] at RCK
  have DE := fun (cv mv gv : Value) (W : World) (h : InS W cv mv gv T) => dear_calls T cv mv gv W h h1
  rw [h2] at DE
  have BE := fun (cv mv gv : Value) (W : World) (h : InS W cv mv gv T) => wbest_ok T cv mv gv W h TI h1 h3
  obtain ⟨b1, b2, b3⟩ := best_yes h1 h3
  have CB := fun (cv mv gv pv : Value) (W : World) (h : InS W cv mv gv T) (hp : InP W pv (bestP T)) => wCost_ok T (bestP T) cv mv gv pv W h TI hp (bestP_I h1 h3) h1 (bestP_fits h3)
  rw [b1, b2] at CB
  have hk : fitsCode T Q = 2 := by unfold fitsCode; rw [h1, h4]; rfl
  have CO := fun (cv mv gv pv : Value) (W : World) (h : InS W cv mv gv T) (hp : InP W pv Q) => wCost_err2 T Q cv mv gv pv W h TI hp QI hk
  clear hk
  simp only [Bool.false_eq_true, if_true, if_false] at RCK CB
  have HRCK := Lib.hid RCK
  have HDE := Lib.hid DE
  have HBE := Lib.hid BE
  have HCB := Lib.hid CB
  have HCO := Lib.hid CO
  clear RCK DE BE CB CO TI QI tl h1 h2 h4 b1 b2 b3
  have H3 := Lib.hid h3
  clear h3
  have vs := Vals.newL w (w.heap.size) [.slice bdc mc dc, .slice bdm mm dm, .slice bdg mg dg, .int .i64 S.sf, .int .i64 S.ch] 26 rfl
  have bb := below_alloc w (.cells #[.slice bdc mc dc, .slice bdm mm dm, .slice bdg mg dg, .int .i64 S.sf, .int .i64 S.ch] 26)
  have B := bb
  clear bb
  go_enter Try.func7, Try.ntmps7
  go_upto_region 1 with (fail)
  generalize (w.alloc (.cells #[.slice bdc mc dc, .slice bdm mm dm, .slice bdg mg dg, .int .i64 S.sf, .int .i64 S.ch] 26)) = w0 at *
  have cvs0 := vs.cell (i := 0) (by simp)
  have cvs1 := vs.cell (i := 1) (by simp)
  have cvs2 := vs.cell (i := 2) (by simp)
  have cvs3 := vs.cell (i := 3) (by simp)
  have cvs4 := vs.cell (i := 4) (by simp)
  simp only [List.getD_cons_zero, List.getD_cons_succ] at cvs0 cvs1 cvs2 cvs3 cvs4
  have ltvs := vs.lt
  go_wp2_with fail
  clear cvs0 cvs1 cvs2 cvs3 cvs4 ltvs
  clear vs
  refine (HSH.out _ B).mono ?_
  rintro e w1 ⟨cv, mv, gv, rfl, hs1, b1⟩
  replace B := below_trans B b1
  clear b1
  obtain ⟨⟨adc, cc, rfl, rc⟩, ⟨adm, cm, rfl, rm⟩, ⟨adg, cg, rfl, rg⟩⟩ := hs1
  obtain ⟨nc, hnc⟩ : ∃ n, T.cs.length = n := ⟨_, rfl⟩
  obtain ⟨nm, hnm⟩ : ∃ n, T.ms.length = n := ⟨_, rfl⟩
  obtain ⟨ng, hng⟩ : ∃ n, T.gs.length = n := ⟨_, rfl⟩
  rw [hnc, hnm, hng]
  have HNC := Lib.hid hnc
  have HNM := Lib.hid hnm
  have HNG := Lib.hid hng
  clear hnc hnm hng HSH
  go_wp2_with fail
  refine (HPK.out _ B).mono ?_
  rintro e w2 ⟨pv, rfl, hp1, _, b2⟩
  replace rc := rc.mono b2
  replace rm := rm.mono b2
  replace rg := rg.mono b2
  replace B := below_trans B b2
  clear b2
  obtain ⟨adp, cp, rfl, rp⟩ := hp1
  obtain ⟨np, hnp⟩ : ∃ n, Q.length = n := ⟨_, rfl⟩
  rw [hnp]
  have HNP := Lib.hid hnp
  clear hnp HPK
  go_upto_region 2 with (fail)
  have vx := Vals.newL w2 w2.heap.size [.slice adc nc cc, .slice adm nm cm, .slice adg ng cg, .int .i64 T.sf, .int .i64 T.ch] 26 rfl
  have bb := below_alloc w2 (.cells #[.slice adc nc cc, .slice adm nm cm, .slice adg ng cg, .int .i64 T.sf, .int .i64 T.ch] 26)
  replace rc := rc.mono bb
  replace rm := rm.mono bb
  replace rg := rg.mono bb
  replace rp := rp.mono bb
  replace B := below_trans B bb
  clear bb
  generalize w2.alloc (.cells #[.slice adc nc cc, .slice adm nm cm, .slice adg ng cg, .int .i64 T.sf, .int .i64 T.ch] 26) = w3 at *
  have cvx0 := vx.cell (i := 0) (by simp)
  have cvx1 := vx.cell (i := 1) (by simp)
  have cvx2 := vx.cell (i := 2) (by simp)
  have cvx3 := vx.cell (i := 3) (by simp)
  have cvx4 := vx.cell (i := 4) (by simp)
  simp only [List.getD_cons_zero, List.getD_cons_succ] at cvx0 cvx1 cvx2 cvx3 cvx4
  have ltvx := vx.lt
  go_wp2_with fail
  clear cvx0 cvx1 cvx2 cvx3 cvx4 ltvx
  refine (HRCK.out _ _ _ _ ⟨⟨adc, cc, by rw [HNC.out], rc⟩, ⟨adm, cm, by rw [HNM.out], rm⟩, ⟨adg, cg, by rw [HNG.out], rg⟩⟩).mono ?_
  rintro e w4 ⟨rfl, b4⟩
  replace rc := rc.mono b4
  replace rm := rm.mono b4
  replace rg := rg.mono b4
  replace rp := rp.mono b4
  replace vx := vx.mono b4
  replace B := below_trans B b4
  clear b4
  have cvx0 := vx.cell (i := 0) (by simp)
  have cvx1 := vx.cell (i := 1) (by simp)
  have cvx2 := vx.cell (i := 2) (by simp)
  have cvx3 := vx.cell (i := 3) (by simp)
  have cvx4 := vx.cell (i := 4) (by simp)
  simp only [List.getD_cons_zero, List.getD_cons_succ] at cvx0 cvx1 cvx2 cvx3 cvx4
  have ltvx := vx.lt
  go_wp2_with fail
  clear cvx0 cvx1 cvx2 cvx3 cvx4 ltvx
  refine (HDE.out _ _ _ _ ⟨⟨adc, cc, by rw [HNC.out], rc⟩, ⟨adm, cm, by rw [HNM.out], rm⟩, ⟨adg, cg, by rw [HNG.out], rg⟩⟩).mono ?_
  rintro e w5 ⟨rfl, b5⟩
  replace rc := rc.mono b5
  replace rm := rm.mono b5
  replace rg := rg.mono b5
  replace rp := rp.mono b5
  replace vx := vx.mono b5
  replace B := below_trans B b5
  clear b5
  have cvx0 := vx.cell (i := 0) (by simp)
  have cvx1 := vx.cell (i := 1) (by simp)
  have cvx2 := vx.cell (i := 2) (by simp)
  have cvx3 := vx.cell (i := 3) (by simp)
  have cvx4 := vx.cell (i := 4) (by simp)
  simp only [List.getD_cons_zero, List.getD_cons_succ] at cvx0 cvx1 cvx2 cvx3 cvx4
  have ltvx := vx.lt
  go_wp2_with fail
  clear cvx0 cvx1 cvx2 cvx3 cvx4 ltvx
  refine (HBE.out _ _ _ _ ⟨⟨adc, cc, by rw [HNC.out], rc⟩, ⟨adm, cm, by rw [HNM.out], rm⟩, ⟨adg, cg, by rw [HNG.out], rg⟩⟩).mono ?_
  rintro e w6 ⟨bv, rfl, hb1, b6⟩
  replace rc := rc.mono b6
  replace rm := rm.mono b6
  replace rg := rg.mono b6
  replace rp := rp.mono b6
  replace vx := vx.mono b6
  replace B := below_trans B b6
  clear b6
  obtain ⟨adb, cb, rfl, rb⟩ := hb1
  obtain ⟨nb, hnb⟩ : ∃ n, (bestP T).length = n := ⟨_, rfl⟩
  rw [hnb]
  have HNB := Lib.hid hnb
  clear hnb
  obtain ⟨z, hz⟩ : ∃ z, (bestV T).1 = z := ⟨_, rfl⟩
  rw [hz]
  have HZ := Lib.hid hz
  clear hz
  have cvx0 := vx.cell (i := 0) (by simp)
  have cvx1 := vx.cell (i := 1) (by simp)
  have cvx2 := vx.cell (i := 2) (by simp)
  have cvx3 := vx.cell (i := 3) (by simp)
  have cvx4 := vx.cell (i := 4) (by simp)
  simp only [List.getD_cons_zero, List.getD_cons_succ] at cvx0 cvx1 cvx2 cvx3 cvx4
  have ltvx := vx.lt
  go_wp2_with fail
  clear cvx0 cvx1 cvx2 cvx3 cvx4 ltvx
  refine (HCO.out _ _ _ _ _ ⟨⟨adc, cc, by rw [HNC.out], rc⟩, ⟨adm, cm, by rw [HNM.out], rm⟩, ⟨adg, cg, by rw [HNG.out], rg⟩⟩ ⟨adp, cp, by rw [HNP.out], rp⟩).mono ?_
  rintro e w7 ⟨rfl, b7⟩
  replace rc := rc.mono b7
  replace rm := rm.mono b7
  replace rg := rg.mono b7
  replace rp := rp.mono b7
  replace vx := vx.mono b7
  replace rb := rb.mono b7
  replace B := below_trans B b7
  clear b7
  have cvx0 := vx.cell (i := 0) (by simp)
  have cvx1 := vx.cell (i := 1) (by simp)
  have cvx2 := vx.cell (i := 2) (by simp)
  have cvx3 := vx.cell (i := 3) (by simp)
  have cvx4 := vx.cell (i := 4) (by simp)
  simp only [List.getD_cons_zero, List.getD_cons_succ] at cvx0 cvx1 cvx2 cvx3 cvx4
  have ltvx := vx.lt
  go_wp2_with fail
  clear cvx0 cvx1 cvx2 cvx3 cvx4 ltvx
  refine (HCB.out _ _ _ _ _ ⟨⟨adc, cc, by rw [HNC.out], rc⟩, ⟨adm, cm, by rw [HNM.out], rm⟩, ⟨adg, cg, by rw [HNG.out], rg⟩⟩ ⟨adb, cb, by rw [HNB.out], rb⟩).mono ?_
  rintro e w8 ⟨rfl, b8⟩
  replace rc := rc.mono b8
  replace rm := rm.mono b8
  replace rg := rg.mono b8
  replace rp := rp.mono b8
  replace vx := vx.mono b8
  replace rb := rb.mono b8
  replace B := below_trans B b8
  clear b8
  rw [HZ.out]
  go_wp2_with fail
  refine (lives_calls _).mono ?_
  rintro e w9 ⟨rfl, b9⟩
  replace rc := rc.mono b9
  replace rm := rm.mono b9
  replace rg := rg.mono b9
  replace rp := rp.mono b9
  replace vx := vx.mono b9
  replace rb := rb.mono b9
  replace B := below_trans B b9
  clear b9
  go_wp2
  go_ret
  exact ⟨rfl, B⟩

set_option maxRecDepth 100000 in
set_option maxHeartbeats 1000000 in
theorem woptimal_d2 (S : Scl) (P : List Pk) (cv mv gv pv : Value) (w : World) (hS : InS w cv mv gv S) (hI : SclI S) (hP : InP w pv P) (hPI : PksI P) (h1 : sclOk (shortS S) = true) (h2 : dearB (shortS S) = false) (h3 : (bestV (shortS S)).1 ≠ -1) (h4 : fitsB (shortS S) (P.take 97) = true) (h5 : allowedB (shortS S) (P.take 97) = false) :
    Calls Try.prog 7 #[.agg #[cv, mv, gv, .int .i64 S.sf, .int .i64 S.ch], pv] w (RetTrue w) := by
  obtain ⟨T, hT⟩ : ∃ T, shortS S = T := ⟨_, rfl⟩
  obtain ⟨Q, hQ⟩ : ∃ Q, P.take 97 = Q := ⟨_, rfl⟩
  rw [hT] at h1
  rw [hT] at h2
  rw [hT] at h3
  rw [hT, hQ] at h4
  rw [hT, hQ] at h5
  have TI : SclI T := by rw [← hT]; exact shortS_I hI
  have QI : PksI Q := by rw [← hQ]; exact fun p hp => hPI p (List.mem_of_mem_take hp)
  have tl : T.ms.length ≤ 1000000000000 ∧ T.gs.length ≤ 1000000000000 := by
    rw [← hT]
    unfold shortS
    dsimp only
    rw [List.length_map, List.length_take, List.length_take]
    omega
  have SH := fun (W : World) (hb : Below w.heap.size w W) => wshort_calls S cv mv gv W (hS.mono hb)
  have PK := fun (W : World) (hb : Below w.heap.size w W) => picks_calls pv P W (hP.mono hb)
  rw [hT] at SH
  rw [hQ] at PK
  obtain ⟨⟨bdc, dc, rfl, rc0⟩, ⟨bdm, dm, rfl, rm0⟩, ⟨bdg, dg, rfl, rg0⟩⟩ := hS
  obtain ⟨bdp, dp, rfl, rp0⟩ := hP
  obtain ⟨mc, hmc⟩ : ∃ n, S.cs.length = n := ⟨_, rfl⟩
  obtain ⟨mm, hmm⟩ : ∃ n, S.ms.length = n := ⟨_, rfl⟩
  obtain ⟨mg, hmg⟩ : ∃ n, S.gs.length = n := ⟨_, rfl⟩
  obtain ⟨mp, hmp⟩ : ∃ n, P.length = n := ⟨_, rfl⟩
  rw [hmc, hmm, hmg] at SH ⊢
  rw [hmp] at PK ⊢
  have HSH := Lib.hid SH
  have HPK := Lib.hid PK
  clear SH PK hT hQ hI hPI rc0 rm0 rg0 rp0 hmc hmm hmg hmp
  have RCK := fun (cv mv gv : Value) (W : World) (h : InS W cv mv gv T) => rscheck_calls T cv mv gv W h TI
  rw [h1] at RCK
  have DE := fun (cv mv gv : Value) (W : World) (h : InS W cv mv gv T) => dear_calls T cv mv gv W h h1
  rw [h2] at DE
  have BE := fun (cv mv gv : Value) (W : World) (h : InS W cv mv gv T) => wbest_ok T cv mv gv W h TI h1 h3
  obtain ⟨b1, b2, b3⟩ := best_yes h1 h3
  have CB := fun (cv mv gv pv : Value) (W : World) (h : InS W cv mv gv T) (hp : InP W pv (bestP T)) => wCost_ok T (bestP T) cv mv gv pv W h TI hp (bestP_I h1 h3) h1 (bestP_fits h3)
  rw [b1, b2] at CB
  have CO := fun (cv mv gv pv : Value) (W : World) (h : InS W cv mv gv T) (hp : InP W pv Q) => wCost_ok T Q cv mv gv pv W h TI hp QI h1 h4
  rw [h5] at CO
  simp only [Bool.false_eq_true, if_true, if_false] at RCK CB CO
  have HRCK := Lib.hid RCK
  have HDE := Lib.hid DE
  have HBE := Lib.hid BE
  have HCB := Lib.hid CB
  have HCO := Lib.hid CO
  clear RCK DE BE CB CO TI QI tl h1 h2 h4 h5 b1 b2 b3
  have H3 := Lib.hid h3
  clear h3
  have vs := Vals.newL w (w.heap.size) [.slice bdc mc dc, .slice bdm mm dm, .slice bdg mg dg, .int .i64 S.sf, .int .i64 S.ch] 26 rfl
  have bb := below_alloc w (.cells #[.slice bdc mc dc, .slice bdm mm dm, .slice bdg mg dg, .int .i64 S.sf, .int .i64 S.ch] 26)
  have B := bb
  clear bb
  go_enter Try.func7, Try.ntmps7
  go_upto_region 1 with (fail)
  generalize (w.alloc (.cells #[.slice bdc mc dc, .slice bdm mm dm, .slice bdg mg dg, .int .i64 S.sf, .int .i64 S.ch] 26)) = w0 at *
  have cvs0 := vs.cell (i := 0) (by simp)
  have cvs1 := vs.cell (i := 1) (by simp)
  have cvs2 := vs.cell (i := 2) (by simp)
  have cvs3 := vs.cell (i := 3) (by simp)
  have cvs4 := vs.cell (i := 4) (by simp)
  simp only [List.getD_cons_zero, List.getD_cons_succ] at cvs0 cvs1 cvs2 cvs3 cvs4
  have ltvs := vs.lt
  go_wp2_with fail
  clear cvs0 cvs1 cvs2 cvs3 cvs4 ltvs
  clear vs
  refine (HSH.out _ B).mono ?_
  rintro e w1 ⟨cv, mv, gv, rfl, hs1, b1⟩
  replace B := below_trans B b1
  clear b1
  obtain ⟨⟨adc, cc, rfl, rc⟩, ⟨adm, cm, rfl, rm⟩, ⟨adg, cg, rfl, rg⟩⟩ := hs1
  obtain ⟨nc, hnc⟩ : ∃ n, T.cs.length = n := ⟨_, rfl⟩
  obtain ⟨nm, hnm⟩ : ∃ n, T.ms.length = n := ⟨_, rfl⟩
  obtain ⟨ng, hng⟩ : ∃ n, T.gs.length = n := ⟨_, rfl⟩
  rw [hnc, hnm, hng]
  have HNC := Lib.hid hnc
  have HNM := Lib.hid hnm
  have HNG := Lib.hid hng
  clear hnc hnm hng HSH
  go_wp2_with fail
  refine (HPK.out _ B).mono ?_
  rintro e w2 ⟨pv, rfl, hp1, _, b2⟩
  replace rc := rc.mono b2
  replace rm := rm.mono b2
  replace rg := rg.mono b2
  replace B := below_trans B b2
  clear b2
  obtain ⟨adp, cp, rfl, rp⟩ := hp1
  obtain ⟨np, hnp⟩ : ∃ n, Q.length = n := ⟨_, rfl⟩
  rw [hnp]
  have HNP := Lib.hid hnp
  clear hnp HPK
  go_upto_region 2 with (fail)
  have vx := Vals.newL w2 w2.heap.size [.slice adc nc cc, .slice adm nm cm, .slice adg ng cg, .int .i64 T.sf, .int .i64 T.ch] 26 rfl
  have bb := below_alloc w2 (.cells #[.slice adc nc cc, .slice adm nm cm, .slice adg ng cg, .int .i64 T.sf, .int .i64 T.ch] 26)
  replace rc := rc.mono bb
  replace rm := rm.mono bb
  replace rg := rg.mono bb
  replace rp := rp.mono bb
  replace B := below_trans B bb
  clear bb
  generalize w2.alloc (.cells #[.slice adc nc cc, .slice adm nm cm, .slice adg ng cg, .int .i64 T.sf, .int .i64 T.ch] 26) = w3 at *
  have cvx0 := vx.cell (i := 0) (by simp)
  have cvx1 := vx.cell (i := 1) (by simp)
  have cvx2 := vx.cell (i := 2) (by simp)
  have cvx3 := vx.cell (i := 3) (by simp)
  have cvx4 := vx.cell (i := 4) (by simp)
  simp only [List.getD_cons_zero, List.getD_cons_succ] at cvx0 cvx1 cvx2 cvx3 cvx4
  have ltvx := vx.lt
  go_wp2_with fail
  clear cvx0 cvx1 cvx2 cvx3 cvx4 ltvx
  refine (HRCK.out _ _ _ _ ⟨⟨adc, cc, by rw [HNC.out], rc⟩, ⟨adm, cm, by rw [HNM.out], rm⟩, ⟨adg, cg, by rw [HNG.out], rg⟩⟩).mono ?_
  rintro e w4 ⟨rfl, b4⟩
  replace rc := rc.mono b4
  replace rm := rm.mono b4
  replace rg := rg.mono b4
  replace rp := rp.mono b4
  replace vx := vx.mono b4
  replace B := below_trans B b4
  clear b4
  have cvx0 := vx.cell (i := 0) (by simp)
  have cvx1 := vx.cell (i := 1) (by simp)
  have cvx2 := vx.cell (i := 2) (by simp)
  have cvx3 := vx.cell (i := 3) (by simp)
  have cvx4 := vx.cell (i := 4) (by simp)
  simp only [List.getD_cons_zero, List.getD_cons_succ] at cvx0 cvx1 cvx2 cvx3 cvx4
  have ltvx := vx.lt
  go_wp2_with fail
  clear cvx0 cvx1 cvx2 cvx3 cvx4 ltvx
  refine (HDE.out _ _ _ _ ⟨⟨adc, cc, by rw [HNC.out], rc⟩, ⟨adm, cm, by rw [HNM.out], rm⟩, ⟨adg, cg, by rw [HNG.out], rg⟩⟩).mono ?_
  rintro e w5 ⟨rfl, b5⟩
  replace rc := rc.mono b5
  replace rm := rm.mono b5
  replace rg := rg.mono b5
  replace rp := rp.mono b5
  replace vx := vx.mono b5
  replace B := below_trans B b5
  clear b5
  have cvx0 := vx.cell (i := 0) (by simp)
  have cvx1 := vx.cell (i := 1) (by simp)
  have cvx2 := vx.cell (i := 2) (by simp)
  have cvx3 := vx.cell (i := 3) (by simp)
  have cvx4 := vx.cell (i := 4) (by simp)
  simp only [List.getD_cons_zero, List.getD_cons_succ] at cvx0 cvx1 cvx2 cvx3 cvx4
  have ltvx := vx.lt
  go_wp2_with fail
  clear cvx0 cvx1 cvx2 cvx3 cvx4 ltvx
  refine (HBE.out _ _ _ _ ⟨⟨adc, cc, by rw [HNC.out], rc⟩, ⟨adm, cm, by rw [HNM.out], rm⟩, ⟨adg, cg, by rw [HNG.out], rg⟩⟩).mono ?_
  rintro e w6 ⟨bv, rfl, hb1, b6⟩
  replace rc := rc.mono b6
  replace rm := rm.mono b6
  replace rg := rg.mono b6
  replace rp := rp.mono b6
  replace vx := vx.mono b6
  replace B := below_trans B b6
  clear b6
  obtain ⟨adb, cb, rfl, rb⟩ := hb1
  obtain ⟨nb, hnb⟩ : ∃ n, (bestP T).length = n := ⟨_, rfl⟩
  rw [hnb]
  have HNB := Lib.hid hnb
  clear hnb
  obtain ⟨z, hz⟩ : ∃ z, (bestV T).1 = z := ⟨_, rfl⟩
  rw [hz]
  have HZ := Lib.hid hz
  clear hz
  have cvx0 := vx.cell (i := 0) (by simp)
  have cvx1 := vx.cell (i := 1) (by simp)
  have cvx2 := vx.cell (i := 2) (by simp)
  have cvx3 := vx.cell (i := 3) (by simp)
  have cvx4 := vx.cell (i := 4) (by simp)
  simp only [List.getD_cons_zero, List.getD_cons_succ] at cvx0 cvx1 cvx2 cvx3 cvx4
  have ltvx := vx.lt
  go_wp2_with fail
  clear cvx0 cvx1 cvx2 cvx3 cvx4 ltvx
  refine (HCO.out _ _ _ _ _ ⟨⟨adc, cc, by rw [HNC.out], rc⟩, ⟨adm, cm, by rw [HNM.out], rm⟩, ⟨adg, cg, by rw [HNG.out], rg⟩⟩ ⟨adp, cp, by rw [HNP.out], rp⟩).mono ?_
  rintro e w7 ⟨rfl, b7⟩
  replace rc := rc.mono b7
  replace rm := rm.mono b7
  replace rg := rg.mono b7
  replace rp := rp.mono b7
  replace vx := vx.mono b7
  replace rb := rb.mono b7
  replace B := below_trans B b7
  clear b7
  have cvx0 := vx.cell (i := 0) (by simp)
  have cvx1 := vx.cell (i := 1) (by simp)
  have cvx2 := vx.cell (i := 2) (by simp)
  have cvx3 := vx.cell (i := 3) (by simp)
  have cvx4 := vx.cell (i := 4) (by simp)
  simp only [List.getD_cons_zero, List.getD_cons_succ] at cvx0 cvx1 cvx2 cvx3 cvx4
  have ltvx := vx.lt
  go_wp2_with fail
  clear cvx0 cvx1 cvx2 cvx3 cvx4 ltvx
  refine (HCB.out _ _ _ _ _ ⟨⟨adc, cc, by rw [HNC.out], rc⟩, ⟨adm, cm, by rw [HNM.out], rm⟩, ⟨adg, cg, by rw [HNG.out], rg⟩⟩ ⟨adb, cb, by rw [HNB.out], rb⟩).mono ?_
  rintro e w8 ⟨rfl, b8⟩
  replace rc := rc.mono b8
  replace rm := rm.mono b8
  replace rg := rg.mono b8
  replace rp := rp.mono b8
  replace vx := vx.mono b8
  replace rb := rb.mono b8
  replace B := below_trans B b8
  clear b8
  rw [HZ.out]
  go_wp2_with fail
  refine (lives_calls _).mono ?_
  rintro e w9 ⟨rfl, b9⟩
  replace rc := rc.mono b9
  replace rm := rm.mono b9
  replace rg := rg.mono b9
  replace rp := rp.mono b9
  replace vx := vx.mono b9
  replace rb := rb.mono b9
  replace B := below_trans B b9
  clear b9
  go_wp2
  go_ret
  exact ⟨rfl, B⟩

set_option maxRecDepth 100000 in
set_option maxHeartbeats 1000000 in
theorem woptimal_d3 (S : Scl) (P : List Pk) (cv mv gv pv : Value) (w : World) (hS : InS w cv mv gv S) (hI : SclI S) (hP : InP w pv P) (hPI : PksI P) (h1 : sclOk (shortS S) = true) (h2 : dearB (shortS S) = false) (h3 : (bestV (shortS S)).1 ≠ -1) (h4 : fitsB (shortS S) (P.take 97) = true) (h5 : allowedB (shortS S) (P.take 97) = true) :
    Calls Try.prog 7 #[.agg #[cv, mv, gv, .int .i64 S.sf, .int .i64 S.ch], pv] w (RetTrue w) := by
  obtain ⟨T, hT⟩ : ∃ T, shortS S = T := ⟨_, rfl⟩
  obtain ⟨Q, hQ⟩ : ∃ Q, P.take 97 = Q := ⟨_, rfl⟩
  rw [hT] at h1
  rw [hT] at h2
  rw [hT] at h3
  rw [hT, hQ] at h4
  rw [hT, hQ] at h5
  have TI : SclI T := by rw [← hT]; exact shortS_I hI
  have QI : PksI Q := by rw [← hQ]; exact fun p hp => hPI p (List.mem_of_mem_take hp)
  have tl : T.ms.length ≤ 1000000000000 ∧ T.gs.length ≤ 1000000000000 := by
    rw [← hT]
    unfold shortS
    dsimp only
    rw [List.length_map, List.length_take, List.length_take]
    omega
  have SH := fun (W : World) (hb : Below w.heap.size w W) => wshort_calls S cv mv gv W (hS.mono hb)
  have PK := fun (W : World) (hb : Below w.heap.size w W) => picks_calls pv P W (hP.mono hb)
  rw [hT] at SH
  rw [hQ] at PK
  obtain ⟨⟨bdc, dc, rfl, rc0⟩, ⟨bdm, dm, rfl, rm0⟩, ⟨bdg, dg, rfl, rg0⟩⟩ := hS
  obtain ⟨bdp, dp, rfl, rp0⟩ := hP
  obtain ⟨mc, hmc⟩ : ∃ n, S.cs.length = n := ⟨_, rfl⟩
  obtain ⟨mm, hmm⟩ : ∃ n, S.ms.length = n := ⟨_, rfl⟩
  obtain ⟨mg, hmg⟩ : ∃ n, S.gs.length = n := ⟨_, rfl⟩
  obtain ⟨mp, hmp⟩ : ∃ n, P.length = n := ⟨_, rfl⟩
  rw [hmc, hmm, hmg] at SH ⊢
  rw [hmp] at PK ⊢
  have HSH := Lib.hid SH
  have HPK := Lib.hid PK
  clear SH PK hT hQ hI hPI rc0 rm0 rg0 rp0 hmc hmm hmg hmp
  have RCK := fun (cv mv gv : Value) (W : World) (h : InS W cv mv gv T) => rscheck_calls T cv mv gv W h TI
  rw [h1] at RCK
  have DE := fun (cv mv gv : Value) (W : World) (h : InS W cv mv gv T) => dear_calls T cv mv gv W h h1
  rw [h2] at DE
  have BE := fun (cv mv gv : Value) (W : World) (h : InS W cv mv gv T) => wbest_ok T cv mv gv W h TI h1 h3
  obtain ⟨b1, b2, b3⟩ := best_yes h1 h3
  have CB := fun (cv mv gv pv : Value) (W : World) (h : InS W cv mv gv T) (hp : InP W pv (bestP T)) => wCost_ok T (bestP T) cv mv gv pv W h TI hp (bestP_I h1 h3) h1 (bestP_fits h3)
  rw [b1, b2] at CB
  have CO := fun (cv mv gv pv : Value) (W : World) (h : InS W cv mv gv T) (hp : InP W pv Q) => wCost_ok T Q cv mv gv pv W h TI hp QI h1 h4
  rw [h5] at CO
  obtain ⟨b4, b5⟩ := b3 Q h4 h5
  obtain ⟨cq, hcq⟩ : ∃ c, costTo T Q Q.length = c := ⟨_, rfl⟩
  rw [hcq] at b4 b5 CO
  have BF := fun (pv qv : Value) (W : World) (h : InP W pv Q) (h' : InP W qv (bestP T)) => before_calls Q (bestP T) pv qv W h h'
  have B5 := Lib.hid (show (cq : Int) = (bestV T).1 → befB Q (bestP T) = false from fun e => by cases hb : befB Q (bestP T) with | false => rfl | true => exact absurd (befB_lt hb) (b5 e))
  clear b5 hcq
  simp only [Bool.false_eq_true, if_true, if_false] at RCK CB CO
  have HRCK := Lib.hid RCK
  have HDE := Lib.hid DE
  have HBE := Lib.hid BE
  have HCB := Lib.hid CB
  have HCO := Lib.hid CO
  have HBF := Lib.hid BF
  have B4 := Lib.hid b4
  clear b4
  clear RCK DE BE CB CO BF TI QI tl h1 h2 h4 h5 b1 b2 b3
  have H3 := Lib.hid h3
  clear h3
  have vs := Vals.newL w (w.heap.size) [.slice bdc mc dc, .slice bdm mm dm, .slice bdg mg dg, .int .i64 S.sf, .int .i64 S.ch] 26 rfl
  have bb := below_alloc w (.cells #[.slice bdc mc dc, .slice bdm mm dm, .slice bdg mg dg, .int .i64 S.sf, .int .i64 S.ch] 26)
  have B := bb
  clear bb
  go_enter Try.func7, Try.ntmps7
  go_upto_region 1 with (fail)
  generalize (w.alloc (.cells #[.slice bdc mc dc, .slice bdm mm dm, .slice bdg mg dg, .int .i64 S.sf, .int .i64 S.ch] 26)) = w0 at *
  have cvs0 := vs.cell (i := 0) (by simp)
  have cvs1 := vs.cell (i := 1) (by simp)
  have cvs2 := vs.cell (i := 2) (by simp)
  have cvs3 := vs.cell (i := 3) (by simp)
  have cvs4 := vs.cell (i := 4) (by simp)
  simp only [List.getD_cons_zero, List.getD_cons_succ] at cvs0 cvs1 cvs2 cvs3 cvs4
  have ltvs := vs.lt
  go_wp2_with fail
  clear cvs0 cvs1 cvs2 cvs3 cvs4 ltvs
  clear vs
  refine (HSH.out _ B).mono ?_
  rintro e w1 ⟨cv, mv, gv, rfl, hs1, b1⟩
  replace B := below_trans B b1
  clear b1
  obtain ⟨⟨adc, cc, rfl, rc⟩, ⟨adm, cm, rfl, rm⟩, ⟨adg, cg, rfl, rg⟩⟩ := hs1
  obtain ⟨nc, hnc⟩ : ∃ n, T.cs.length = n := ⟨_, rfl⟩
  obtain ⟨nm, hnm⟩ : ∃ n, T.ms.length = n := ⟨_, rfl⟩
  obtain ⟨ng, hng⟩ : ∃ n, T.gs.length = n := ⟨_, rfl⟩
  rw [hnc, hnm, hng]
  have HNC := Lib.hid hnc
  have HNM := Lib.hid hnm
  have HNG := Lib.hid hng
  clear hnc hnm hng HSH
  go_wp2_with fail
  refine (HPK.out _ B).mono ?_
  rintro e w2 ⟨pv, rfl, hp1, _, b2⟩
  replace rc := rc.mono b2
  replace rm := rm.mono b2
  replace rg := rg.mono b2
  replace B := below_trans B b2
  clear b2
  obtain ⟨adp, cp, rfl, rp⟩ := hp1
  obtain ⟨np, hnp⟩ : ∃ n, Q.length = n := ⟨_, rfl⟩
  rw [hnp]
  have HNP := Lib.hid hnp
  clear hnp HPK
  go_upto_region 2 with (fail)
  have vx := Vals.newL w2 w2.heap.size [.slice adc nc cc, .slice adm nm cm, .slice adg ng cg, .int .i64 T.sf, .int .i64 T.ch] 26 rfl
  have bb := below_alloc w2 (.cells #[.slice adc nc cc, .slice adm nm cm, .slice adg ng cg, .int .i64 T.sf, .int .i64 T.ch] 26)
  replace rc := rc.mono bb
  replace rm := rm.mono bb
  replace rg := rg.mono bb
  replace rp := rp.mono bb
  replace B := below_trans B bb
  clear bb
  generalize w2.alloc (.cells #[.slice adc nc cc, .slice adm nm cm, .slice adg ng cg, .int .i64 T.sf, .int .i64 T.ch] 26) = w3 at *
  have cvx0 := vx.cell (i := 0) (by simp)
  have cvx1 := vx.cell (i := 1) (by simp)
  have cvx2 := vx.cell (i := 2) (by simp)
  have cvx3 := vx.cell (i := 3) (by simp)
  have cvx4 := vx.cell (i := 4) (by simp)
  simp only [List.getD_cons_zero, List.getD_cons_succ] at cvx0 cvx1 cvx2 cvx3 cvx4
  have ltvx := vx.lt
  go_wp2_with fail
  clear cvx0 cvx1 cvx2 cvx3 cvx4 ltvx
  refine (HRCK.out _ _ _ _ ⟨⟨adc, cc, by rw [HNC.out], rc⟩, ⟨adm, cm, by rw [HNM.out], rm⟩, ⟨adg, cg, by rw [HNG.out], rg⟩⟩).mono ?_
  rintro e w4 ⟨rfl, b4⟩
  replace rc := rc.mono b4
  replace rm := rm.mono b4
  replace rg := rg.mono b4
  replace rp := rp.mono b4
  replace vx := vx.mono b4
  replace B := below_trans B b4
  clear b4
  have cvx0 := vx.cell (i := 0) (by simp)
  have cvx1 := vx.cell (i := 1) (by simp)
  have cvx2 := vx.cell (i := 2) (by simp)
  have cvx3 := vx.cell (i := 3) (by simp)
  have cvx4 := vx.cell (i := 4) (by simp)
  simp only [List.getD_cons_zero, List.getD_cons_succ] at cvx0 cvx1 cvx2 cvx3 cvx4
  have ltvx := vx.lt
  go_wp2_with fail
  clear cvx0 cvx1 cvx2 cvx3 cvx4 ltvx
  refine (HDE.out _ _ _ _ ⟨⟨adc, cc, by rw [HNC.out], rc⟩, ⟨adm, cm, by rw [HNM.out], rm⟩, ⟨adg, cg, by rw [HNG.out], rg⟩⟩).mono ?_
  rintro e w5 ⟨rfl, b5⟩
  replace rc := rc.mono b5
  replace rm := rm.mono b5
  replace rg := rg.mono b5
  replace rp := rp.mono b5
  replace vx := vx.mono b5
  replace B := below_trans B b5
  clear b5
  have cvx0 := vx.cell (i := 0) (by simp)
  have cvx1 := vx.cell (i := 1) (by simp)
  have cvx2 := vx.cell (i := 2) (by simp)
  have cvx3 := vx.cell (i := 3) (by simp)
  have cvx4 := vx.cell (i := 4) (by simp)
  simp only [List.getD_cons_zero, List.getD_cons_succ] at cvx0 cvx1 cvx2 cvx3 cvx4
  have ltvx := vx.lt
  go_wp2_with fail
  clear cvx0 cvx1 cvx2 cvx3 cvx4 ltvx
  refine (HBE.out _ _ _ _ ⟨⟨adc, cc, by rw [HNC.out], rc⟩, ⟨adm, cm, by rw [HNM.out], rm⟩, ⟨adg, cg, by rw [HNG.out], rg⟩⟩).mono ?_
  rintro e w6 ⟨bv, rfl, hb1, b6⟩
  replace rc := rc.mono b6
  replace rm := rm.mono b6
  replace rg := rg.mono b6
  replace rp := rp.mono b6
  replace vx := vx.mono b6
  replace B := below_trans B b6
  clear b6
  obtain ⟨adb, cb, rfl, rb⟩ := hb1
  obtain ⟨nb, hnb⟩ : ∃ n, (bestP T).length = n := ⟨_, rfl⟩
  rw [hnb]
  have HNB := Lib.hid hnb
  clear hnb
  obtain ⟨z, hz⟩ : ∃ z, (bestV T).1 = z := ⟨_, rfl⟩
  rw [hz]
  have HZ := Lib.hid hz
  clear hz
  have cvx0 := vx.cell (i := 0) (by simp)
  have cvx1 := vx.cell (i := 1) (by simp)
  have cvx2 := vx.cell (i := 2) (by simp)
  have cvx3 := vx.cell (i := 3) (by simp)
  have cvx4 := vx.cell (i := 4) (by simp)
  simp only [List.getD_cons_zero, List.getD_cons_succ] at cvx0 cvx1 cvx2 cvx3 cvx4
  have ltvx := vx.lt
  go_wp2_with fail
  clear cvx0 cvx1 cvx2 cvx3 cvx4 ltvx
  refine (HCO.out _ _ _ _ _ ⟨⟨adc, cc, by rw [HNC.out], rc⟩, ⟨adm, cm, by rw [HNM.out], rm⟩, ⟨adg, cg, by rw [HNG.out], rg⟩⟩ ⟨adp, cp, by rw [HNP.out], rp⟩).mono ?_
  rintro e w7 ⟨rfl, b7⟩
  replace rc := rc.mono b7
  replace rm := rm.mono b7
  replace rg := rg.mono b7
  replace rp := rp.mono b7
  replace vx := vx.mono b7
  replace rb := rb.mono b7
  replace B := below_trans B b7
  clear b7
  have cvx0 := vx.cell (i := 0) (by simp)
  have cvx1 := vx.cell (i := 1) (by simp)
  have cvx2 := vx.cell (i := 2) (by simp)
  have cvx3 := vx.cell (i := 3) (by simp)
  have cvx4 := vx.cell (i := 4) (by simp)
  simp only [List.getD_cons_zero, List.getD_cons_succ] at cvx0 cvx1 cvx2 cvx3 cvx4
  have ltvx := vx.lt
  go_wp2_with fail
  clear cvx0 cvx1 cvx2 cvx3 cvx4 ltvx
  refine (HCB.out _ _ _ _ _ ⟨⟨adc, cc, by rw [HNC.out], rc⟩, ⟨adm, cm, by rw [HNM.out], rm⟩, ⟨adg, cg, by rw [HNG.out], rg⟩⟩ ⟨adb, cb, by rw [HNB.out], rb⟩).mono ?_
  rintro e w8 ⟨rfl, b8⟩
  replace rc := rc.mono b8
  replace rm := rm.mono b8
  replace rg := rg.mono b8
  replace rp := rp.mono b8
  replace vx := vx.mono b8
  replace rb := rb.mono b8
  replace B := below_trans B b8
  clear b8
  rw [HZ.out]
  go_wp2_with fail
  refine (lives_calls _).mono ?_
  rintro e w9 ⟨rfl, b9⟩
  replace rc := rc.mono b9
  replace rm := rm.mono b9
  replace rg := rg.mono b9
  replace rp := rp.mono b9
  replace vx := vx.mono b9
  replace rb := rb.mono b9
  replace B := below_trans B b9
  clear b9
  have b4 := B4.out
  rw [HZ.out] at b4
  by_cases hlt : z < (cq : Int)
  · go_wp2
    go_ret
    exact ⟨rfl, B⟩
  have he : z = (cq : Int) := by omega
  have hbf := B5.out (by rw [HZ.out]; exact he.symm)
  have HBF2 := Lib.hid hbf
  subst he
  clear hbf b4
  go_wp2_with fail
  refine (HBF.out _ _ _ ⟨adp, cp, by rw [HNP.out], rp⟩ ⟨adb, cb, by rw [HNB.out], rb⟩).mono ?_
  rintro e wz ⟨rfl, bz⟩
  rw [HBF2.out]
  replace B := below_trans B bz
  go_wp2
  go_ret
  exact ⟨rfl, B⟩

theorem walk_woptimal (S : Scl) (P : List Pk) (cv mv gv pv : Value) (w : World) (hS : InS w cv mv gv S) (hI : SclI S) (hP : InP w pv P) (hPI : PksI P) :
    Calls Try.prog 7 #[.agg #[cv, mv, gv, .int .i64 S.sf, .int .i64 S.ch], pv] w (RetTrue w) := by
  cases h1 : sclOk (shortS S) with
  | false => exact woptimal_a S P cv mv gv pv w hS hI hP hPI h1
  | true =>
    cases h2 : dearB (shortS S) with
    | true => exact woptimal_b S P cv mv gv pv w hS hI hP hPI h1 h2
    | false =>
      by_cases h3 : (bestV (shortS S)).1 = -1
      · cases h4 : fitsB (shortS S) (P.take 97) with
        | false => exact woptimal_c1 S P cv mv gv pv w hS hI hP hPI h1 h2 h3 h4
        | true => exact woptimal_c2 S P cv mv gv pv w hS hI hP hPI h1 h2 h3 h4
      · cases h4 : fitsB (shortS S) (P.take 97) with
        | false => exact woptimal_d1 S P cv mv gv pv w hS hI hP hPI h1 h2 h3 h4
        | true =>
          cases h5 : allowedB (shortS S) (P.take 97) with
          | false => exact woptimal_d2 S P cv mv gv pv w hS hI hP hPI h1 h2 h3 h4 h5
          | true => exact woptimal_d3 S P cv mv gv pv w hS hI hP hPI h1 h2 h3 h4 h5

end Go.Proofs
