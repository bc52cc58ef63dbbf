/- The walk of WireNeeds: whatever comes in, it returns true and changes nothing that was there. -/
import Derived.Test.YtmnalmmffphnpaaDoorNeedsL
import Derived.Test.YtmnalmmffphnpaaDoorNeedsW
import Derived.Test.YtmnalmmffphnpaaDoorNeedsR
import Derived.Test.YtmnalmmffphnpaaDoorWShort
import Derived.Test.YtmnalmmffphnpaaDoorWRef
import Derived.Test.YtmnalmmffphnpaaDoorWLives
import Derived.Deep.QuietTactic
import Derived.BigQuiet
import Derived.Deep.Cut
open Go.RowKit Go.Deep
namespace Go.Proofs
set_option linter.unusedVariables false
set_option linter.unusedSimpArgs false

set_option maxRecDepth 100000 in
set_option maxHeartbeats 1000000 in
theorem wlneeds_a (S : Scl) (P : List Pk) (tail : Int) (cv mv gv pv : Value) (w : World) (hS : InS w cv mv gv S) (hI : SclI S) (hP : InP w pv P) (hPI : PksI P) (htz : zI tail) (h1 : sclOk (shortS S) = false) :
    Calls Tryd.prog 3 #[.agg #[cv, mv, gv, .int .i64 S.sf, .int .i64 S.ch], pv, .int .i64 tail] w (RetTrue w) := by
  obtain ⟨T, hT⟩ : ∃ T, shortS S = T := ⟨_, rfl⟩
  obtain ⟨Q, hQ⟩ : ∃ Q, P.take 97 = Q := ⟨_, rfl⟩
  rw [hT] at h1
  have TI : SclI T := by rw [← hT]; exact shortS_I hI
  have QI : PksI Q := by rw [← hQ]; exact fun p hp => hPI p (List.mem_of_mem_take hp)
  have tl : T.ms.length ≤ 1000000000000 ∧ T.gs.length ≤ 1000000000000 := by
    rw [← hT]
    unfold shortS
    dsimp only
    rw [List.length_map, List.length_take, List.length_take]
    omega
  have SH := fun (W : World) (hb : Below w.heap.size w W) => wshort_calls S cv mv gv W (hS.mono hb)
  have PK := fun (W : World) (hb : Below w.heap.size w W) => picks_calls pv P W (hP.mono hb)
  rw [hT] at SH
  rw [hQ] at PK
  obtain ⟨⟨bdc, dc, rfl, rc0⟩, ⟨bdm, dm, rfl, rm0⟩, ⟨bdg, dg, rfl, rg0⟩⟩ := hS
  obtain ⟨bdp, dp, rfl, rp0⟩ := hP
  obtain ⟨mc, hmc⟩ : ∃ n, S.cs.length = n := ⟨_, rfl⟩
  obtain ⟨mm, hmm⟩ : ∃ n, S.ms.length = n := ⟨_, rfl⟩
  obtain ⟨mg, hmg⟩ : ∃ n, S.gs.length = n := ⟨_, rfl⟩
  obtain ⟨mp, hmp⟩ : ∃ n, P.length = n := ⟨_, rfl⟩
  rw [hmc, hmm, hmg] at SH ⊢
  rw [hmp] at PK ⊢
  have HSH := Lib.hid SH
  have HPK := Lib.hid PK
  clear SH PK hT hQ hI hPI rc0 rm0 rg0 rp0 hmc hmm hmg hmp
  have RCK := fun (cv mv gv : Value) (W : World) (h : InS W cv mv gv T) => rscheck_calls T cv mv gv W h TI
  rw [h1] at RCK
  have NB := fun (cv mv gv pv : Value) (W : World) (h : InS W cv mv gv T) (hp : InP W pv Q) => wneeds_bad T Q tail cv mv gv pv W h hp TI htz (fun h => by rw [h1] at h; cases h)
  simp only [Bool.false_eq_true, if_true, if_false] at RCK
  have HRCK := Lib.hid RCK
  have HNB := Lib.hid NB
  clear RCK NB TI QI tl h1
  have vs := Vals.newL w (w.heap.size) [.slice bdc mc dc, .slice bdm mm dm, .slice bdg mg dg, .int .i64 S.sf, .int .i64 S.ch] 26 rfl
  have bb := below_alloc w (.cells #[.slice bdc mc dc, .slice bdm mm dm, .slice bdg mg dg, .int .i64 S.sf, .int .i64 S.ch] 26)
  have B := bb
  clear bb
  go_enter Tryd.func3, Tryd.ntmps3
  go_upto_region 1 with (fail)
  generalize (w.alloc (.cells #[.slice bdc mc dc, .slice bdm mm dm, .slice bdg mg dg, .int .i64 S.sf, .int .i64 S.ch] 26)) = w0 at *
  have cvs0 := vs.cell (i := 0) (by simp)
  have cvs1 := vs.cell (i := 1) (by simp)
  have cvs2 := vs.cell (i := 2) (by simp)
  have cvs3 := vs.cell (i := 3) (by simp)
  have cvs4 := vs.cell (i := 4) (by simp)
  simp only [List.getD_cons_zero, List.getD_cons_succ] at cvs0 cvs1 cvs2 cvs3 cvs4
  have ltvs := vs.lt
  go_wp2_with fail
  clear cvs0 cvs1 cvs2 cvs3 cvs4 ltvs
  clear vs
  refine (HSH.out _ B).mono ?_
  rintro e w1 ⟨cv, mv, gv, rfl, hs1, b1⟩
  replace B := below_trans B b1
  clear b1
  obtain ⟨⟨adc, cc, rfl, rc⟩, ⟨adm, cm, rfl, rm⟩, ⟨adg, cg, rfl, rg⟩⟩ := hs1
  obtain ⟨nc, hnc⟩ : ∃ n, T.cs.length = n := ⟨_, rfl⟩
  obtain ⟨nm, hnm⟩ : ∃ n, T.ms.length = n := ⟨_, rfl⟩
  obtain ⟨ng, hng⟩ : ∃ n, T.gs.length = n := ⟨_, rfl⟩
  rw [hnc, hnm, hng]
  have HNC := Lib.hid hnc
  have HNM := Lib.hid hnm
  have HNG := Lib.hid hng
  clear hnc hnm hng HSH
  go_wp2_with fail
  refine (HPK.out _ B).mono ?_
  rintro e w2 ⟨pv, rfl, hp1, _, b2⟩
  replace rc := rc.mono b2
  replace rm := rm.mono b2
  replace rg := rg.mono b2
  replace B := below_trans B b2
  clear b2
  obtain ⟨adp, cp, rfl, rp⟩ := hp1
  obtain ⟨np, hnp⟩ : ∃ n, Q.length = n := ⟨_, rfl⟩
  rw [hnp]
  have HNP := Lib.hid hnp
  clear hnp HPK
  go_upto_region 2 with (fail)
  have vx := Vals.newL w2 w2.heap.size [.slice adc nc cc, .slice adm nm cm, .slice adg ng cg, .int .i64 T.sf, .int .i64 T.ch] 26 rfl
  have bb := below_alloc w2 (.cells #[.slice adc nc cc, .slice adm nm cm, .slice adg ng cg, .int .i64 T.sf, .int .i64 T.ch] 26)
  replace rc := rc.mono bb
  replace rm := rm.mono bb
  replace rg := rg.mono bb
  replace rp := rp.mono bb
  replace B := below_trans B bb
  clear bb
  generalize w2.alloc (.cells #[.slice adc nc cc, .slice adm nm cm, .slice adg ng cg, .int .i64 T.sf, .int .i64 T.ch] 26) = w3 at *
  have cvx0 := vx.cell (i := 0) (by simp)
  have cvx1 := vx.cell (i := 1) (by simp)
  have cvx2 := vx.cell (i := 2) (by simp)
  have cvx3 := vx.cell (i := 3) (by simp)
  have cvx4 := vx.cell (i := 4) (by simp)
  simp only [List.getD_cons_zero, List.getD_cons_succ] at cvx0 cvx1 cvx2 cvx3 cvx4
  have ltvx := vx.lt
  go_wp2_with fail
  clear cvx0 cvx1 cvx2 cvx3 cvx4 ltvx
  refine (HNB.out _ _ _ _ _ ⟨⟨adc, cc, by rw [HNC.out], rc⟩, ⟨adm, cm, by rw [HNM.out], rm⟩, ⟨adg, cg, by rw [HNG.out], rg⟩⟩ ⟨adp, cp, by rw [HNP.out], rp⟩).mono ?_
  rintro e w4 ⟨rfl, b4⟩
  replace rc := rc.mono b4
  replace rm := rm.mono b4
  replace rg := rg.mono b4
  replace rp := rp.mono b4
  replace vx := vx.mono b4
  replace B := below_trans B b4
  clear b4
  have cvx0 := vx.cell (i := 0) (by simp)
  have cvx1 := vx.cell (i := 1) (by simp)
  have cvx2 := vx.cell (i := 2) (by simp)
  have cvx3 := vx.cell (i := 3) (by simp)
  have cvx4 := vx.cell (i := 4) (by simp)
  simp only [List.getD_cons_zero, List.getD_cons_succ] at cvx0 cvx1 cvx2 cvx3 cvx4
  have ltvx := vx.lt
  go_wp2_with fail
  clear cvx0 cvx1 cvx2 cvx3 cvx4 ltvx
  refine (HRCK.out _ _ _ _ ⟨⟨adc, cc, by rw [HNC.out], rc⟩, ⟨adm, cm, by rw [HNM.out], rm⟩, ⟨adg, cg, by rw [HNG.out], rg⟩⟩).mono ?_
  rintro e w5 ⟨rfl, b5⟩
  replace rc := rc.mono b5
  replace rm := rm.mono b5
  replace rg := rg.mono b5
  replace rp := rp.mono b5
  replace vx := vx.mono b5
  replace B := below_trans B b5
  clear b5
  go_wp2_with fail
  refine (lives_calls _).mono ?_
  rintro e w6 ⟨rfl, b6⟩
  replace rc := rc.mono b6
  replace rm := rm.mono b6
  replace rg := rg.mono b6
  replace rp := rp.mono b6
  replace vx := vx.mono b6
  replace B := below_trans B b6
  clear b6
  go_wp2
  go_ret
  exact ⟨rfl, B⟩

set_option maxRecDepth 100000 in
set_option maxHeartbeats 1000000 in
theorem wlneeds_b1 (S : Scl) (P : List Pk) (tail : Int) (cv mv gv pv : Value) (w : World) (hS : InS w cv mv gv S) (hI : SclI S) (hP : InP w pv P) (hPI : PksI P) (htz : zI tail) (h1 : sclOk (shortS S) = true) (h2 : tail < 0) :
    Calls Tryd.prog 3 #[.agg #[cv, mv, gv, .int .i64 S.sf, .int .i64 S.ch], pv, .int .i64 tail] w (RetTrue w) := by
  obtain ⟨T, hT⟩ : ∃ T, shortS S = T := ⟨_, rfl⟩
  obtain ⟨Q, hQ⟩ : ∃ Q, P.take 97 = Q := ⟨_, rfl⟩
  rw [hT] at h1
  have TI : SclI T := by rw [← hT]; exact shortS_I hI
  have QI : PksI Q := by rw [← hQ]; exact fun p hp => hPI p (List.mem_of_mem_take hp)
  have tl : T.ms.length ≤ 1000000000000 ∧ T.gs.length ≤ 1000000000000 := by
    rw [← hT]
    unfold shortS
    dsimp only
    rw [List.length_map, List.length_take, List.length_take]
    omega
  have SH := fun (W : World) (hb : Below w.heap.size w W) => wshort_calls S cv mv gv W (hS.mono hb)
  have PK := fun (W : World) (hb : Below w.heap.size w W) => picks_calls pv P W (hP.mono hb)
  rw [hT] at SH
  rw [hQ] at PK
  obtain ⟨⟨bdc, dc, rfl, rc0⟩, ⟨bdm, dm, rfl, rm0⟩, ⟨bdg, dg, rfl, rg0⟩⟩ := hS
  obtain ⟨bdp, dp, rfl, rp0⟩ := hP
  obtain ⟨mc, hmc⟩ : ∃ n, S.cs.length = n := ⟨_, rfl⟩
  obtain ⟨mm, hmm⟩ : ∃ n, S.ms.length = n := ⟨_, rfl⟩
  obtain ⟨mg, hmg⟩ : ∃ n, S.gs.length = n := ⟨_, rfl⟩
  obtain ⟨mp, hmp⟩ : ∃ n, P.length = n := ⟨_, rfl⟩
  rw [hmc, hmm, hmg] at SH ⊢
  rw [hmp] at PK ⊢
  have HSH := Lib.hid SH
  have HPK := Lib.hid PK
  clear SH PK hT hQ hI hPI rc0 rm0 rg0 rp0 hmc hmm hmg hmp
  have RCK := fun (cv mv gv : Value) (W : World) (h : InS W cv mv gv T) => rscheck_calls T cv mv gv W h TI
  rw [h1] at RCK
  have NB := fun (cv mv gv pv : Value) (W : World) (h : InS W cv mv gv T) (hp : InP W pv Q) => wneeds_bad T Q tail cv mv gv pv W h hp TI htz (fun _ h => by omega)
  simp only [Bool.false_eq_true, if_true, if_false] at RCK
  have HRCK := Lib.hid RCK
  have HNB := Lib.hid NB
  clear RCK NB TI QI tl h1
  have vs := Vals.newL w (w.heap.size) [.slice bdc mc dc, .slice bdm mm dm, .slice bdg mg dg, .int .i64 S.sf, .int .i64 S.ch] 26 rfl
  have bb := below_alloc w (.cells #[.slice bdc mc dc, .slice bdm mm dm, .slice bdg mg dg, .int .i64 S.sf, .int .i64 S.ch] 26)
  have B := bb
  clear bb
  go_enter Tryd.func3, Tryd.ntmps3
  go_upto_region 1 with (fail)
  generalize (w.alloc (.cells #[.slice bdc mc dc, .slice bdm mm dm, .slice bdg mg dg, .int .i64 S.sf, .int .i64 S.ch] 26)) = w0 at *
  have cvs0 := vs.cell (i := 0) (by simp)
  have cvs1 := vs.cell (i := 1) (by simp)
  have cvs2 := vs.cell (i := 2) (by simp)
  have cvs3 := vs.cell (i := 3) (by simp)
  have cvs4 := vs.cell (i := 4) (by simp)
  simp only [List.getD_cons_zero, List.getD_cons_succ] at cvs0 cvs1 cvs2 cvs3 cvs4
  have ltvs := vs.lt
  go_wp2_with fail
  clear cvs0 cvs1 cvs2 cvs3 cvs4 ltvs
  clear vs
  refine (HSH.out _ B).mono ?_
  rintro e w1 ⟨cv, mv, gv, rfl, hs1, b1⟩
  replace B := below_trans B b1
  clear b1
  obtain ⟨⟨adc, cc, rfl, rc⟩, ⟨adm, cm, rfl, rm⟩, ⟨adg, cg, rfl, rg⟩⟩ := hs1
  obtain ⟨nc, hnc⟩ : ∃ n, T.cs.length = n := ⟨_, rfl⟩
  obtain ⟨nm, hnm⟩ : ∃ n, T.ms.length = n := ⟨_, rfl⟩
  obtain ⟨ng, hng⟩ : ∃ n, T.gs.length = n := ⟨_, rfl⟩
  rw [hnc, hnm, hng]
  have HNC := Lib.hid hnc
  have HNM := Lib.hid hnm
  have HNG := Lib.hid hng
  clear hnc hnm hng HSH
  go_wp2_with fail
  refine (HPK.out _ B).mono ?_
  rintro e w2 ⟨pv, rfl, hp1, _, b2⟩
  replace rc := rc.mono b2
  replace rm := rm.mono b2
  replace rg := rg.mono b2
  replace B := below_trans B b2
  clear b2
  obtain ⟨adp, cp, rfl, rp⟩ := hp1
  obtain ⟨np, hnp⟩ : ∃ n, Q.length = n := ⟨_, rfl⟩
  rw [hnp]
  have HNP := Lib.hid hnp
  clear hnp HPK
  go_upto_region 2 with (fail)
  have vx := Vals.newL w2 w2.heap.size [.slice adc nc cc, .slice adm nm cm, .slice adg ng cg, .int .i64 T.sf, .int .i64 T.ch] 26 rfl
  have bb := below_alloc w2 (.cells #[.slice adc nc cc, .slice adm nm cm, .slice adg ng cg, .int .i64 T.sf, .int .i64 T.ch] 26)
  replace rc := rc.mono bb
  replace rm := rm.mono bb
  replace rg := rg.mono bb
  replace rp := rp.mono bb
  replace B := below_trans B bb
  clear bb
  generalize w2.alloc (.cells #[.slice adc nc cc, .slice adm nm cm, .slice adg ng cg, .int .i64 T.sf, .int .i64 T.ch] 26) = w3 at *
  have cvx0 := vx.cell (i := 0) (by simp)
  have cvx1 := vx.cell (i := 1) (by simp)
  have cvx2 := vx.cell (i := 2) (by simp)
  have cvx3 := vx.cell (i := 3) (by simp)
  have cvx4 := vx.cell (i := 4) (by simp)
  simp only [List.getD_cons_zero, List.getD_cons_succ] at cvx0 cvx1 cvx2 cvx3 cvx4
  have ltvx := vx.lt
  go_wp2_with fail
  clear cvx0 cvx1 cvx2 cvx3 cvx4 ltvx
  refine (HNB.out _ _ _ _ _ ⟨⟨adc, cc, by rw [HNC.out], rc⟩, ⟨adm, cm, by rw [HNM.out], rm⟩, ⟨adg, cg, by rw [HNG.out], rg⟩⟩ ⟨adp, cp, by rw [HNP.out], rp⟩).mono ?_
  rintro e w4 ⟨rfl, b4⟩
  replace rc := rc.mono b4
  replace rm := rm.mono b4
  replace rg := rg.mono b4
  replace rp := rp.mono b4
  replace vx := vx.mono b4
  replace B := below_trans B b4
  clear b4
  have cvx0 := vx.cell (i := 0) (by simp)
  have cvx1 := vx.cell (i := 1) (by simp)
  have cvx2 := vx.cell (i := 2) (by simp)
  have cvx3 := vx.cell (i := 3) (by simp)
  have cvx4 := vx.cell (i := 4) (by simp)
  simp only [List.getD_cons_zero, List.getD_cons_succ] at cvx0 cvx1 cvx2 cvx3 cvx4
  have ltvx := vx.lt
  go_wp2_with fail
  clear cvx0 cvx1 cvx2 cvx3 cvx4 ltvx
  refine (HRCK.out _ _ _ _ ⟨⟨adc, cc, by rw [HNC.out], rc⟩, ⟨adm, cm, by rw [HNM.out], rm⟩, ⟨adg, cg, by rw [HNG.out], rg⟩⟩).mono ?_
  rintro e w5 ⟨rfl, b5⟩
  replace rc := rc.mono b5
  replace rm := rm.mono b5
  replace rg := rg.mono b5
  replace rp := rp.mono b5
  replace vx := vx.mono b5
  replace B := below_trans B b5
  clear b5
  go_wp2_with fail
  refine (lives_calls _).mono ?_
  rintro e w6 ⟨rfl, b6⟩
  replace rc := rc.mono b6
  replace rm := rm.mono b6
  replace rg := rg.mono b6
  replace rp := rp.mono b6
  replace vx := vx.mono b6
  replace B := below_trans B b6
  clear b6
  go_wp2
  go_ret
  exact ⟨rfl, B⟩

set_option maxRecDepth 100000 in
set_option maxHeartbeats 1000000 in
theorem wlneeds_b2 (S : Scl) (P : List Pk) (tail : Int) (cv mv gv pv : Value) (w : World) (hS : InS w cv mv gv S) (hI : SclI S) (hP : InP w pv P) (hPI : PksI P) (htz : zI tail) (h1 : sclOk (shortS S) = true) (h2 : 100000 < tail) :
    Calls Tryd.prog 3 #[.agg #[cv, mv, gv, .int .i64 S.sf, .int .i64 S.ch], pv, .int .i64 tail] w (RetTrue w) := by
  obtain ⟨T, hT⟩ : ∃ T, shortS S = T := ⟨_, rfl⟩
  obtain ⟨Q, hQ⟩ : ∃ Q, P.take 97 = Q := ⟨_, rfl⟩
  rw [hT] at h1
  have TI : SclI T := by rw [← hT]; exact shortS_I hI
  have QI : PksI Q := by rw [← hQ]; exact fun p hp => hPI p (List.mem_of_mem_take hp)
  have tl : T.ms.length ≤ 1000000000000 ∧ T.gs.length ≤ 1000000000000 := by
    rw [← hT]
    unfold shortS
    dsimp only
    rw [List.length_map, List.length_take, List.length_take]
    omega
  have SH := fun (W : World) (hb : Below w.heap.size w W) => wshort_calls S cv mv gv W (hS.mono hb)
  have PK := fun (W : World) (hb : Below w.heap.size w W) => picks_calls pv P W (hP.mono hb)
  rw [hT] at SH
  rw [hQ] at PK
  obtain ⟨⟨bdc, dc, rfl, rc0⟩, ⟨bdm, dm, rfl, rm0⟩, ⟨bdg, dg, rfl, rg0⟩⟩ := hS
  obtain ⟨bdp, dp, rfl, rp0⟩ := hP
  obtain ⟨mc, hmc⟩ : ∃ n, S.cs.length = n := ⟨_, rfl⟩
  obtain ⟨mm, hmm⟩ : ∃ n, S.ms.length = n := ⟨_, rfl⟩
  obtain ⟨mg, hmg⟩ : ∃ n, S.gs.length = n := ⟨_, rfl⟩
  obtain ⟨mp, hmp⟩ : ∃ n, P.length = n := ⟨_, rfl⟩
  rw [hmc, hmm, hmg] at SH ⊢
  rw [hmp] at PK ⊢
  have HSH := Lib.hid SH
  have HPK := Lib.hid PK
  clear SH PK hT hQ hI hPI rc0 rm0 rg0 rp0 hmc hmm hmg hmp
  have RCK := fun (cv mv gv : Value) (W : World) (h : InS W cv mv gv T) => rscheck_calls T cv mv gv W h TI
  rw [h1] at RCK
  have NB := fun (cv mv gv pv : Value) (W : World) (h : InS W cv mv gv T) (hp : InP W pv Q) => wneeds_bad T Q tail cv mv gv pv W h hp TI htz (fun _ h => by omega)
  simp only [Bool.false_eq_true, if_true, if_false] at RCK
  have HRCK := Lib.hid RCK
  have HNB := Lib.hid NB
  have t0 : ¬ (tail < 0) := by omega
  clear RCK NB TI QI tl h1
  have vs := Vals.newL w (w.heap.size) [.slice bdc mc dc, .slice bdm mm dm, .slice bdg mg dg, .int .i64 S.sf, .int .i64 S.ch] 26 rfl
  have bb := below_alloc w (.cells #[.slice bdc mc dc, .slice bdm mm dm, .slice bdg mg dg, .int .i64 S.sf, .int .i64 S.ch] 26)
  have B := bb
  clear bb
  go_enter Tryd.func3, Tryd.ntmps3
  go_upto_region 1 with (fail)
  generalize (w.alloc (.cells #[.slice bdc mc dc, .slice bdm mm dm, .slice bdg mg dg, .int .i64 S.sf, .int .i64 S.ch] 26)) = w0 at *
  have cvs0 := vs.cell (i := 0) (by simp)
  have cvs1 := vs.cell (i := 1) (by simp)
  have cvs2 := vs.cell (i := 2) (by simp)
  have cvs3 := vs.cell (i := 3) (by simp)
  have cvs4 := vs.cell (i := 4) (by simp)
  simp only [List.getD_cons_zero, List.getD_cons_succ] at cvs0 cvs1 cvs2 cvs3 cvs4
  have ltvs := vs.lt
  go_wp2_with fail
  clear cvs0 cvs1 cvs2 cvs3 cvs4 ltvs
  clear vs
  refine (HSH.out _ B).mono ?_
  rintro e w1 ⟨cv, mv, gv, rfl, hs1, b1⟩
  replace B := below_trans B b1
  clear b1
  obtain ⟨⟨adc, cc, rfl, rc⟩, ⟨adm, cm, rfl, rm⟩, ⟨adg, cg, rfl, rg⟩⟩ := hs1
  obtain ⟨nc, hnc⟩ : ∃ n, T.cs.length = n := ⟨_, rfl⟩
  obtain ⟨nm, hnm⟩ : ∃ n, T.ms.length = n := ⟨_, rfl⟩
  obtain ⟨ng, hng⟩ : ∃ n, T.gs.length = n := ⟨_, rfl⟩
  rw [hnc, hnm, hng]
  have HNC := Lib.hid hnc
  have HNM := Lib.hid hnm
  have HNG := Lib.hid hng
  clear hnc hnm hng HSH
  go_wp2_with fail
  refine (HPK.out _ B).mono ?_
  rintro e w2 ⟨pv, rfl, hp1, _, b2⟩
  replace rc := rc.mono b2
  replace rm := rm.mono b2
  replace rg := rg.mono b2
  replace B := below_trans B b2
  clear b2
  obtain ⟨adp, cp, rfl, rp⟩ := hp1
  obtain ⟨np, hnp⟩ : ∃ n, Q.length = n := ⟨_, rfl⟩
  rw [hnp]
  have HNP := Lib.hid hnp
  clear hnp HPK
  go_upto_region 2 with (fail)
  have vx := Vals.newL w2 w2.heap.size [.slice adc nc cc, .slice adm nm cm, .slice adg ng cg, .int .i64 T.sf, .int .i64 T.ch] 26 rfl
  have bb := below_alloc w2 (.cells #[.slice adc nc cc, .slice adm nm cm, .slice adg ng cg, .int .i64 T.sf, .int .i64 T.ch] 26)
  replace rc := rc.mono bb
  replace rm := rm.mono bb
  replace rg := rg.mono bb
  replace rp := rp.mono bb
  replace B := below_trans B bb
  clear bb
  generalize w2.alloc (.cells #[.slice adc nc cc, .slice adm nm cm, .slice adg ng cg, .int .i64 T.sf, .int .i64 T.ch] 26) = w3 at *
  have cvx0 := vx.cell (i := 0) (by simp)
  have cvx1 := vx.cell (i := 1) (by simp)
  have cvx2 := vx.cell (i := 2) (by simp)
  have cvx3 := vx.cell (i := 3) (by simp)
  have cvx4 := vx.cell (i := 4) (by simp)
  simp only [List.getD_cons_zero, List.getD_cons_succ] at cvx0 cvx1 cvx2 cvx3 cvx4
  have ltvx := vx.lt
  go_wp2_with fail
  clear cvx0 cvx1 cvx2 cvx3 cvx4 ltvx
  refine (HNB.out _ _ _ _ _ ⟨⟨adc, cc, by rw [HNC.out], rc⟩, ⟨adm, cm, by rw [HNM.out], rm⟩, ⟨adg, cg, by rw [HNG.out], rg⟩⟩ ⟨adp, cp, by rw [HNP.out], rp⟩).mono ?_
  rintro e w4 ⟨rfl, b4⟩
  replace rc := rc.mono b4
  replace rm := rm.mono b4
  replace rg := rg.mono b4
  replace rp := rp.mono b4
  replace vx := vx.mono b4
  replace B := below_trans B b4
  clear b4
  have cvx0 := vx.cell (i := 0) (by simp)
  have cvx1 := vx.cell (i := 1) (by simp)
  have cvx2 := vx.cell (i := 2) (by simp)
  have cvx3 := vx.cell (i := 3) (by simp)
  have cvx4 := vx.cell (i := 4) (by simp)
  simp only [List.getD_cons_zero, List.getD_cons_succ] at cvx0 cvx1 cvx2 cvx3 cvx4
  have ltvx := vx.lt
  go_wp2_with fail
  clear cvx0 cvx1 cvx2 cvx3 cvx4 ltvx
  refine (HRCK.out _ _ _ _ ⟨⟨adc, cc, by rw [HNC.out], rc⟩, ⟨adm, cm, by rw [HNM.out], rm⟩, ⟨adg, cg, by rw [HNG.out], rg⟩⟩).mono ?_
  rintro e w5 ⟨rfl, b5⟩
  replace rc := rc.mono b5
  replace rm := rm.mono b5
  replace rg := rg.mono b5
  replace rp := rp.mono b5
  replace vx := vx.mono b5
  replace B := below_trans B b5
  clear b5
  go_wp2_with fail
  refine (lives_calls _).mono ?_
  rintro e w6 ⟨rfl, b6⟩
  replace rc := rc.mono b6
  replace rm := rm.mono b6
  replace rg := rg.mono b6
  replace rp := rp.mono b6
  replace vx := vx.mono b6
  replace B := below_trans B b6
  clear b6
  go_wp2
  go_ret
  exact ⟨rfl, B⟩

set_option maxRecDepth 100000 in
set_option maxHeartbeats 1000000 in
theorem wlneeds_c (S : Scl) (P : List Pk) (tail : Int) (cv mv gv pv : Value) (w : World) (hS : InS w cv mv gv S) (hI : SclI S) (hP : InP w pv P) (hPI : PksI P) (htz : zI tail) (h1 : sclOk (shortS S) = true) (h2 : 0 ≤ tail ∧ tail ≤ 100000) (h4 : fitsB (shortS S) (P.take 97) = false) :
    Calls Tryd.prog 3 #[.agg #[cv, mv, gv, .int .i64 S.sf, .int .i64 S.ch], pv, .int .i64 tail] w (RetTrue w) := by
  obtain ⟨T, hT⟩ : ∃ T, shortS S = T := ⟨_, rfl⟩
  obtain ⟨Q, hQ⟩ : ∃ Q, P.take 97 = Q := ⟨_, rfl⟩
  rw [hT] at h1
  rw [hT, hQ] at h4
  have TI : SclI T := by rw [← hT]; exact shortS_I hI
  have QI : PksI Q := by rw [← hQ]; exact fun p hp => hPI p (List.mem_of_mem_take hp)
  have tl : T.ms.length ≤ 1000000000000 ∧ T.gs.length ≤ 1000000000000 := by
    rw [← hT]
    unfold shortS
    dsimp only
    rw [List.length_map, List.length_take, List.length_take]
    omega
  have SH := fun (W : World) (hb : Below w.heap.size w W) => wshort_calls S cv mv gv W (hS.mono hb)
  have PK := fun (W : World) (hb : Below w.heap.size w W) => picks_calls pv P W (hP.mono hb)
  rw [hT] at SH
  rw [hQ] at PK
  obtain ⟨⟨bdc, dc, rfl, rc0⟩, ⟨bdm, dm, rfl, rm0⟩, ⟨bdg, dg, rfl, rg0⟩⟩ := hS
  obtain ⟨bdp, dp, rfl, rp0⟩ := hP
  obtain ⟨mc, hmc⟩ : ∃ n, S.cs.length = n := ⟨_, rfl⟩
  obtain ⟨mm, hmm⟩ : ∃ n, S.ms.length = n := ⟨_, rfl⟩
  obtain ⟨mg, hmg⟩ : ∃ n, S.gs.length = n := ⟨_, rfl⟩
  obtain ⟨mp, hmp⟩ : ∃ n, P.length = n := ⟨_, rfl⟩
  rw [hmc, hmm, hmg] at SH ⊢
  rw [hmp] at PK ⊢
  have HSH := Lib.hid SH
  have HPK := Lib.hid PK
  clear SH PK hT hQ hI hPI rc0 rm0 rg0 rp0 hmc hmm hmg hmp
  have RCK := fun (cv mv gv : Value) (W : World) (h : InS W cv mv gv T) => rscheck_calls T cv mv gv W h TI
  rw [h1] at RCK
  have NB := fun (cv mv gv pv : Value) (W : World) (h : InS W cv mv gv T) (hp : InP W pv Q) => wneeds_form T Q tail cv mv gv pv W h hp TI QI h1 h2 h4
  have FI := fun (cv mv gv pv : Value) (W : World) (h : InS W cv mv gv T) (hp : InP W pv Q) => rfits_calls T Q cv mv gv pv W h hp tl
  rw [h4] at FI
  simp only [Bool.false_eq_true, if_true, if_false] at RCK
  have HRCK := Lib.hid RCK
  have HNB := Lib.hid NB
  have HFI := Lib.hid FI
  have t0 : ¬ (tail < 0) := by omega
  have t1 : ¬ (100000 < tail) := by omega
  clear RCK NB FI TI QI tl h1 h2 h4
  have vs := Vals.newL w (w.heap.size) [.slice bdc mc dc, .slice bdm mm dm, .slice bdg mg dg, .int .i64 S.sf, .int .i64 S.ch] 26 rfl
  have bb := below_alloc w (.cells #[.slice bdc mc dc, .slice bdm mm dm, .slice bdg mg dg, .int .i64 S.sf, .int .i64 S.ch] 26)
  have B := bb
  clear bb
  go_enter Tryd.func3, Tryd.ntmps3
  go_upto_region 1 with (fail)
  generalize (w.alloc (.cells #[.slice bdc mc dc, .slice bdm mm dm, .slice bdg mg dg, .int .i64 S.sf, .int .i64 S.ch] 26)) = w0 at *
  have cvs0 := vs.cell (i := 0) (by simp)
  have cvs1 := vs.cell (i := 1) (by simp)
  have cvs2 := vs.cell (i := 2) (by simp)
  have cvs3 := vs.cell (i := 3) (by simp)
  have cvs4 := vs.cell (i := 4) (by simp)
  simp only [List.getD_cons_zero, List.getD_cons_succ] at cvs0 cvs1 cvs2 cvs3 cvs4
  have ltvs := vs.lt
  go_wp2_with fail
  clear cvs0 cvs1 cvs2 cvs3 cvs4 ltvs
  clear vs
  refine (HSH.out _ B).mono ?_
  rintro e w1 ⟨cv, mv, gv, rfl, hs1, b1⟩
  replace B := below_trans B b1
  clear b1
  obtain ⟨⟨adc, cc, rfl, rc⟩, ⟨adm, cm, rfl, rm⟩, ⟨adg, cg, rfl, rg⟩⟩ := hs1
  obtain ⟨nc, hnc⟩ : ∃ n, T.cs.length = n := ⟨_, rfl⟩
  obtain ⟨nm, hnm⟩ : ∃ n, T.ms.length = n := ⟨_, rfl⟩
  obtain ⟨ng, hng⟩ : ∃ n, T.gs.length = n := ⟨_, rfl⟩
  rw [hnc, hnm, hng]
  have HNC := Lib.hid hnc
  have HNM := Lib.hid hnm
  have HNG := Lib.hid hng
  clear hnc hnm hng HSH
  go_wp2_with fail
  refine (HPK.out _ B).mono ?_
  rintro e w2 ⟨pv, rfl, hp1, _, b2⟩
  replace rc := rc.mono b2
  replace rm := rm.mono b2
  replace rg := rg.mono b2
  replace B := below_trans B b2
  clear b2
  obtain ⟨adp, cp, rfl, rp⟩ := hp1
  obtain ⟨np, hnp⟩ : ∃ n, Q.length = n := ⟨_, rfl⟩
  rw [hnp]
  have HNP := Lib.hid hnp
  clear hnp HPK
  go_upto_region 2 with (fail)
  have vx := Vals.newL w2 w2.heap.size [.slice adc nc cc, .slice adm nm cm, .slice adg ng cg, .int .i64 T.sf, .int .i64 T.ch] 26 rfl
  have bb := below_alloc w2 (.cells #[.slice adc nc cc, .slice adm nm cm, .slice adg ng cg, .int .i64 T.sf, .int .i64 T.ch] 26)
  replace rc := rc.mono bb
  replace rm := rm.mono bb
  replace rg := rg.mono bb
  replace rp := rp.mono bb
  replace B := below_trans B bb
  clear bb
  generalize w2.alloc (.cells #[.slice adc nc cc, .slice adm nm cm, .slice adg ng cg, .int .i64 T.sf, .int .i64 T.ch] 26) = w3 at *
  have cvx0 := vx.cell (i := 0) (by simp)
  have cvx1 := vx.cell (i := 1) (by simp)
  have cvx2 := vx.cell (i := 2) (by simp)
  have cvx3 := vx.cell (i := 3) (by simp)
  have cvx4 := vx.cell (i := 4) (by simp)
  simp only [List.getD_cons_zero, List.getD_cons_succ] at cvx0 cvx1 cvx2 cvx3 cvx4
  have ltvx := vx.lt
  go_wp2_with fail
  clear cvx0 cvx1 cvx2 cvx3 cvx4 ltvx
  refine (HNB.out _ _ _ _ _ ⟨⟨adc, cc, by rw [HNC.out], rc⟩, ⟨adm, cm, by rw [HNM.out], rm⟩, ⟨adg, cg, by rw [HNG.out], rg⟩⟩ ⟨adp, cp, by rw [HNP.out], rp⟩).mono ?_
  rintro e w4 ⟨rfl, b4⟩
  replace rc := rc.mono b4
  replace rm := rm.mono b4
  replace rg := rg.mono b4
  replace rp := rp.mono b4
  replace vx := vx.mono b4
  replace B := below_trans B b4
  clear b4
  have cvx0 := vx.cell (i := 0) (by simp)
  have cvx1 := vx.cell (i := 1) (by simp)
  have cvx2 := vx.cell (i := 2) (by simp)
  have cvx3 := vx.cell (i := 3) (by simp)
  have cvx4 := vx.cell (i := 4) (by simp)
  simp only [List.getD_cons_zero, List.getD_cons_succ] at cvx0 cvx1 cvx2 cvx3 cvx4
  have ltvx := vx.lt
  go_wp2_with fail
  clear cvx0 cvx1 cvx2 cvx3 cvx4 ltvx
  refine (HRCK.out _ _ _ _ ⟨⟨adc, cc, by rw [HNC.out], rc⟩, ⟨adm, cm, by rw [HNM.out], rm⟩, ⟨adg, cg, by rw [HNG.out], rg⟩⟩).mono ?_
  rintro e w5 ⟨rfl, b5⟩
  replace rc := rc.mono b5
  replace rm := rm.mono b5
  replace rg := rg.mono b5
  replace rp := rp.mono b5
  replace vx := vx.mono b5
  replace B := below_trans B b5
  clear b5
  have cvx0 := vx.cell (i := 0) (by simp)
  have cvx1 := vx.cell (i := 1) (by simp)
  have cvx2 := vx.cell (i := 2) (by simp)
  have cvx3 := vx.cell (i := 3) (by simp)
  have cvx4 := vx.cell (i := 4) (by simp)
  simp only [List.getD_cons_zero, List.getD_cons_succ] at cvx0 cvx1 cvx2 cvx3 cvx4
  have ltvx := vx.lt
  go_wp2_with fail
  clear cvx0 cvx1 cvx2 cvx3 cvx4 ltvx
  refine (HFI.out _ _ _ _ _ ⟨⟨adc, cc, by rw [HNC.out], rc⟩, ⟨adm, cm, by rw [HNM.out], rm⟩, ⟨adg, cg, by rw [HNG.out], rg⟩⟩ ⟨adp, cp, by rw [HNP.out], rp⟩).mono ?_
  rintro e w6 ⟨rfl, b6⟩
  replace rc := rc.mono b6
  replace rm := rm.mono b6
  replace rg := rg.mono b6
  replace rp := rp.mono b6
  replace vx := vx.mono b6
  replace B := below_trans B b6
  clear b6
  go_wp2_with fail
  refine (lives_calls _).mono ?_
  rintro e w7 ⟨rfl, b7⟩
  replace rc := rc.mono b7
  replace rm := rm.mono b7
  replace rg := rg.mono b7
  replace rp := rp.mono b7
  replace vx := vx.mono b7
  replace B := below_trans B b7
  clear b7
  go_wp2
  go_ret
  exact ⟨rfl, B⟩

set_option maxRecDepth 100000 in
set_option maxHeartbeats 1000000 in
theorem wlneeds_d (S : Scl) (P : List Pk) (tail : Int) (cv mv gv pv : Value) (w : World) (hS : InS w cv mv gv S) (hI : SclI S) (hP : InP w pv P) (hPI : PksI P) (htz : zI tail) (h1 : sclOk (shortS S) = true) (h2 : 0 ≤ tail ∧ tail ≤ 100000) (h4 : fitsB (shortS S) (P.take 97) = true) (htb : Tab w) :
    Calls Tryd.prog 3 #[.agg #[cv, mv, gv, .int .i64 S.sf, .int .i64 S.ch], pv, .int .i64 tail] w (RetTrue w) := by
  obtain ⟨T, hT⟩ : ∃ T, shortS S = T := ⟨_, rfl⟩
  obtain ⟨Q, hQ⟩ : ∃ Q, P.take 97 = Q := ⟨_, rfl⟩
  rw [hT] at h1
  rw [hT, hQ] at h4
  have TI : SclI T := by rw [← hT]; exact shortS_I hI
  have QI : PksI Q := by rw [← hQ]; exact fun p hp => hPI p (List.mem_of_mem_take hp)
  have tl : T.ms.length ≤ 1000000000000 ∧ T.gs.length ≤ 1000000000000 := by
    rw [← hT]
    unfold shortS
    dsimp only
    rw [List.length_map, List.length_take, List.length_take]
    omega
  have SH := fun (W : World) (hb : Below w.heap.size w W) => wshort_calls S cv mv gv W (hS.mono hb)
  have PK := fun (W : World) (hb : Below w.heap.size w W) => picks_calls pv P W (hP.mono hb)
  rw [hT] at SH
  rw [hQ] at PK
  obtain ⟨⟨bdc, dc, rfl, rc0⟩, ⟨bdm, dm, rfl, rm0⟩, ⟨bdg, dg, rfl, rg0⟩⟩ := hS
  obtain ⟨bdp, dp, rfl, rp0⟩ := hP
  obtain ⟨mc, hmc⟩ : ∃ n, S.cs.length = n := ⟨_, rfl⟩
  obtain ⟨mm, hmm⟩ : ∃ n, S.ms.length = n := ⟨_, rfl⟩
  obtain ⟨mg, hmg⟩ : ∃ n, S.gs.length = n := ⟨_, rfl⟩
  obtain ⟨mp, hmp⟩ : ∃ n, P.length = n := ⟨_, rfl⟩
  rw [hmc, hmm, hmg] at SH ⊢
  rw [hmp] at PK ⊢
  have HSH := Lib.hid SH
  have HPK := Lib.hid PK
  clear SH PK hT hQ hI hPI rc0 rm0 rg0 rp0 hmc hmm hmg hmp
  have RCK := fun (cv mv gv : Value) (W : World) (h : InS W cv mv gv T) => rscheck_calls T cv mv gv W h TI
  rw [h1] at RCK
  have NB := fun (cv mv gv pv : Value) (W : World) (h : InS W cv mv gv T) (hp : InP W pv Q) (hb : Tab W) => wneeds_ok T Q tail cv mv gv pv W h hp TI QI h1 h2 h4 hb
  have RN := fun (cv mv gv pv : Value) (W : World) (h : InS W cv mv gv T) (hp : InP W pv Q) => rneeds_calls T Q tail cv mv gv pv W h hp TI h1 h2 h4
  obtain ⟨NL, hNL⟩ : ∃ L, needs T Q tail (T.ms.length * T.gs.length) = L := ⟨_, rfl⟩
  rw [hNL] at NB RN
  clear hNL
  have FI := fun (cv mv gv pv : Value) (W : World) (h : InS W cv mv gv T) (hp : InP W pv Q) => rfits_calls T Q cv mv gv pv W h hp tl
  rw [h4] at FI
  simp only [Bool.false_eq_true, if_true, if_false] at RCK
  have HRCK := Lib.hid RCK
  have HNB := Lib.hid NB
  have HRN := Lib.hid RN
  have HFI := Lib.hid FI
  have t0 : ¬ (tail < 0) := by omega
  have t1 : ¬ (100000 < tail) := by omega
  clear RCK NB RN FI TI QI tl h1 h2 h4
  have vs := Vals.newL w (w.heap.size) [.slice bdc mc dc, .slice bdm mm dm, .slice bdg mg dg, .int .i64 S.sf, .int .i64 S.ch] 26 rfl
  have bb := below_alloc w (.cells #[.slice bdc mc dc, .slice bdm mm dm, .slice bdg mg dg, .int .i64 S.sf, .int .i64 S.ch] 26)
  have B := bb
  clear bb
  go_enter Tryd.func3, Tryd.ntmps3
  go_upto_region 1 with (fail)
  generalize (w.alloc (.cells #[.slice bdc mc dc, .slice bdm mm dm, .slice bdg mg dg, .int .i64 S.sf, .int .i64 S.ch] 26)) = w0 at *
  have cvs0 := vs.cell (i := 0) (by simp)
  have cvs1 := vs.cell (i := 1) (by simp)
  have cvs2 := vs.cell (i := 2) (by simp)
  have cvs3 := vs.cell (i := 3) (by simp)
  have cvs4 := vs.cell (i := 4) (by simp)
  simp only [List.getD_cons_zero, List.getD_cons_succ] at cvs0 cvs1 cvs2 cvs3 cvs4
  have ltvs := vs.lt
  go_wp2_with fail
  clear cvs0 cvs1 cvs2 cvs3 cvs4 ltvs
  clear vs
  refine (HSH.out _ B).mono ?_
  rintro e w1 ⟨cv, mv, gv, rfl, hs1, b1⟩
  replace B := below_trans B b1
  clear b1
  obtain ⟨⟨adc, cc, rfl, rc⟩, ⟨adm, cm, rfl, rm⟩, ⟨adg, cg, rfl, rg⟩⟩ := hs1
  obtain ⟨nc, hnc⟩ : ∃ n, T.cs.length = n := ⟨_, rfl⟩
  obtain ⟨nm, hnm⟩ : ∃ n, T.ms.length = n := ⟨_, rfl⟩
  obtain ⟨ng, hng⟩ : ∃ n, T.gs.length = n := ⟨_, rfl⟩
  rw [hnc, hnm, hng]
  have HNC := Lib.hid hnc
  have HNM := Lib.hid hnm
  have HNG := Lib.hid hng
  clear hnc hnm hng HSH
  go_wp2_with fail
  refine (HPK.out _ B).mono ?_
  rintro e w2 ⟨pv, rfl, hp1, _, b2⟩
  replace rc := rc.mono b2
  replace rm := rm.mono b2
  replace rg := rg.mono b2
  replace B := below_trans B b2
  clear b2
  obtain ⟨adp, cp, rfl, rp⟩ := hp1
  obtain ⟨np, hnp⟩ : ∃ n, Q.length = n := ⟨_, rfl⟩
  rw [hnp]
  have HNP := Lib.hid hnp
  clear hnp HPK
  go_upto_region 2 with (fail)
  have vx := Vals.newL w2 w2.heap.size [.slice adc nc cc, .slice adm nm cm, .slice adg ng cg, .int .i64 T.sf, .int .i64 T.ch] 26 rfl
  have bb := below_alloc w2 (.cells #[.slice adc nc cc, .slice adm nm cm, .slice adg ng cg, .int .i64 T.sf, .int .i64 T.ch] 26)
  replace rc := rc.mono bb
  replace rm := rm.mono bb
  replace rg := rg.mono bb
  replace rp := rp.mono bb
  replace B := below_trans B bb
  clear bb
  generalize w2.alloc (.cells #[.slice adc nc cc, .slice adm nm cm, .slice adg ng cg, .int .i64 T.sf, .int .i64 T.ch] 26) = w3 at *
  have cvx0 := vx.cell (i := 0) (by simp)
  have cvx1 := vx.cell (i := 1) (by simp)
  have cvx2 := vx.cell (i := 2) (by simp)
  have cvx3 := vx.cell (i := 3) (by simp)
  have cvx4 := vx.cell (i := 4) (by simp)
  simp only [List.getD_cons_zero, List.getD_cons_succ] at cvx0 cvx1 cvx2 cvx3 cvx4
  have ltvx := vx.lt
  go_wp2_with fail
  clear cvx0 cvx1 cvx2 cvx3 cvx4 ltvx
  refine (HNB.out _ _ _ _ _ ⟨⟨adc, cc, by rw [HNC.out], rc⟩, ⟨adm, cm, by rw [HNM.out], rm⟩, ⟨adg, cg, by rw [HNG.out], rg⟩⟩ ⟨adp, cp, by rw [HNP.out], rp⟩ (htb.mono B)).mono ?_
  rintro e w4 ⟨nv, rfl, hv, b4⟩
  replace rc := rc.mono b4
  replace rm := rm.mono b4
  replace rg := rg.mono b4
  replace rp := rp.mono b4
  replace vx := vx.mono b4
  replace B := below_trans B b4
  clear b4
  obtain ⟨adn, adnc, rfl, rn⟩ := hv
  obtain ⟨nn, hnn⟩ : ∃ n, NL.length = n := ⟨_, rfl⟩
  rw [hnn] at rn ⊢
  have Hnn := Lib.hid hnn
  clear hnn
  have cvx0 := vx.cell (i := 0) (by simp)
  have cvx1 := vx.cell (i := 1) (by simp)
  have cvx2 := vx.cell (i := 2) (by simp)
  have cvx3 := vx.cell (i := 3) (by simp)
  have cvx4 := vx.cell (i := 4) (by simp)
  simp only [List.getD_cons_zero, List.getD_cons_succ] at cvx0 cvx1 cvx2 cvx3 cvx4
  have ltvx := vx.lt
  go_wp2_with fail
  clear cvx0 cvx1 cvx2 cvx3 cvx4 ltvx
  refine (HRCK.out _ _ _ _ ⟨⟨adc, cc, by rw [HNC.out], rc⟩, ⟨adm, cm, by rw [HNM.out], rm⟩, ⟨adg, cg, by rw [HNG.out], rg⟩⟩).mono ?_
  rintro e w5 ⟨rfl, b5⟩
  replace rc := rc.mono b5
  replace rm := rm.mono b5
  replace rg := rg.mono b5
  replace rp := rp.mono b5
  replace vx := vx.mono b5
  replace rn := rn.mono b5
  replace B := below_trans B b5
  clear b5
  have cvx0 := vx.cell (i := 0) (by simp)
  have cvx1 := vx.cell (i := 1) (by simp)
  have cvx2 := vx.cell (i := 2) (by simp)
  have cvx3 := vx.cell (i := 3) (by simp)
  have cvx4 := vx.cell (i := 4) (by simp)
  simp only [List.getD_cons_zero, List.getD_cons_succ] at cvx0 cvx1 cvx2 cvx3 cvx4
  have ltvx := vx.lt
  go_wp2_with fail
  clear cvx0 cvx1 cvx2 cvx3 cvx4 ltvx
  refine (HFI.out _ _ _ _ _ ⟨⟨adc, cc, by rw [HNC.out], rc⟩, ⟨adm, cm, by rw [HNM.out], rm⟩, ⟨adg, cg, by rw [HNG.out], rg⟩⟩ ⟨adp, cp, by rw [HNP.out], rp⟩).mono ?_
  rintro e w6 ⟨rfl, b6⟩
  replace rc := rc.mono b6
  replace rm := rm.mono b6
  replace rg := rg.mono b6
  replace rp := rp.mono b6
  replace vx := vx.mono b6
  replace rn := rn.mono b6
  replace B := below_trans B b6
  clear b6
  have cvx0 := vx.cell (i := 0) (by simp)
  have cvx1 := vx.cell (i := 1) (by simp)
  have cvx2 := vx.cell (i := 2) (by simp)
  have cvx3 := vx.cell (i := 3) (by simp)
  have cvx4 := vx.cell (i := 4) (by simp)
  simp only [List.getD_cons_zero, List.getD_cons_succ] at cvx0 cvx1 cvx2 cvx3 cvx4
  have ltvx := vx.lt
  go_wp2_with fail
  clear cvx0 cvx1 cvx2 cvx3 cvx4 ltvx
  refine (HRN.out _ _ _ _ _ ⟨⟨adc, cc, by rw [HNC.out], rc⟩, ⟨adm, cm, by rw [HNM.out], rm⟩, ⟨adg, cg, by rw [HNG.out], rg⟩⟩ ⟨adp, cp, by rw [HNP.out], rp⟩).mono ?_
  rintro e w7 ⟨qv, rfl, hq, b7⟩
  replace rc := rc.mono b7
  replace rm := rm.mono b7
  replace rg := rg.mono b7
  replace rp := rp.mono b7
  replace vx := vx.mono b7
  replace rn := rn.mono b7
  replace B := below_trans B b7
  clear b7
  obtain ⟨adq, adqc, rfl, rq⟩ := hq
  obtain ⟨nq, hnq⟩ : ∃ n, NL.length = n := ⟨_, rfl⟩
  rw [hnq] at rq ⊢
  have Hnq := Lib.hid hnq
  clear hnq
  go_wp2_with fail
  refine (lots_calls NL _ _ _ ⟨adn, adnc, by rw [Hnn.out], by rw [Hnn.out]; exact rn⟩ ⟨adq, adqc, by rw [Hnq.out], by rw [Hnq.out]; exact rq⟩).mono ?_
  rintro e w8 ⟨rfl, b8⟩
  replace rc := rc.mono b8
  replace rm := rm.mono b8
  replace rg := rg.mono b8
  replace rp := rp.mono b8
  replace vx := vx.mono b8
  replace rn := rn.mono b8
  replace rq := rq.mono b8
  replace B := below_trans B b8
  clear b8
  go_wp2_with fail
  refine (lives_calls _).mono ?_
  rintro e w9 ⟨rfl, b9⟩
  replace rc := rc.mono b9
  replace rm := rm.mono b9
  replace rg := rg.mono b9
  replace rp := rp.mono b9
  replace vx := vx.mono b9
  replace rn := rn.mono b9
  replace rq := rq.mono b9
  replace B := below_trans B b9
  clear b9
  go_wp2
  go_ret
  exact ⟨rfl, B⟩

theorem walk_wneeds (S : Scl) (P : List Pk) (tail : Int) (cv mv gv pv : Value) (w : World) (hS : InS w cv mv gv S) (hI : SclI S) (hP : InP w pv P) (hPI : PksI P) (htz : zI tail) (htb : Tab w) :
    Calls Tryd.prog 3 #[.agg #[cv, mv, gv, .int .i64 S.sf, .int .i64 S.ch], pv, .int .i64 tail] w (RetTrue w) := by
  cases h1 : sclOk (shortS S) with
  | false => exact wlneeds_a S P tail cv mv gv pv w hS hI hP hPI htz h1
  | true =>
    by_cases h2 : tail < 0
    · exact wlneeds_b1 S P tail cv mv gv pv w hS hI hP hPI htz h1 h2
    · by_cases h3 : 100000 < tail
      · exact wlneeds_b2 S P tail cv mv gv pv w hS hI hP hPI htz h1 h3
      · cases h4 : fitsB (shortS S) (P.take 97) with
        | false => exact wlneeds_c S P tail cv mv gv pv w hS hI hP hPI htz h1 (by omega) h4
        | true => exact wlneeds_d S P tail cv mv gv pv w hS hI hP hPI htz h1 (by omega) h4 htb

end Go.Proofs
