/- The walk of WireLengths: whatever comes in, it returns true and changes nothing that was there. -/
import Derived.Test.YtmnalmmffphnpaaDoorNeedsL
import Derived.Test.YtmnalmmffphnpaaDoorNeedsD
import Derived.Test.YtmnalmmffphnpaaDoorFold
import Derived.Test.YtmnalmmffphnpaaDoorNeedsW
import Derived.Test.YtmnalmmffphnpaaDoorNeedsR
import Derived.Test.YtmnalmmffphnpaaDoorWShort
import Derived.Test.YtmnalmmffphnpaaDoorWRef
import Derived.Test.YtmnalmmffphnpaaDoorWLives
import Derived.Deep.QuietTactic
import Derived.BigQuiet
import Derived.Deep.Cut
open Go.RowKit Go.Deep
namespace Go.Proofs
set_option linter.unusedVariables false
set_option linter.unusedSimpArgs false

set_option maxRecDepth 100000 in
set_option maxHeartbeats 1000000 in
theorem wllens_a (S : Scl) (P : List Pk) (tail : Int) (cv mv gv pv : Value) (w : World) (hS : InS w cv mv gv S) (hI : SclI S) (hP : InP w pv P) (hPI : PksI P) (htz : zI tail) (h1 : sclOk (shortS S) = false) :
    Calls Tryd.prog 4 #[.agg #[cv, mv, gv, .int .i64 S.sf, .int .i64 S.ch], pv, .int .i64 tail] w (RetTrue w) := by
  have FO := fun (W : World) => fold_same tail 100000 W (by omega) (by omega) htz.1 htz.2
  obtain ⟨fn, hfn, hf1, hf2⟩ := foldZ_some tail 100000 (by omega) 100000 rfl
  rw [hfn] at FO
  obtain ⟨ft, hft⟩ : ∃ z : Int, (fn : Int) = z := ⟨_, rfl⟩
  have h2 : 0 ≤ ft ∧ ft ≤ 100000 := by omega
  rw [hft] at FO
  clear hfn hf1 hf2 hft
  obtain ⟨T, hT⟩ : ∃ T, shortS S = T := ⟨_, rfl⟩
  obtain ⟨Q, hQ⟩ : ∃ Q, P.take 97 = Q := ⟨_, rfl⟩
  rw [hT] at h1
  have TI : SclI T := by rw [← hT]; exact shortS_I hI
  have QI : PksI Q := by rw [← hQ]; exact fun p hp => hPI p (List.mem_of_mem_take hp)
  have tl : T.ms.length ≤ 1000000000000 ∧ T.gs.length ≤ 1000000000000 := by
    rw [← hT]
    unfold shortS
    dsimp only
    rw [List.length_map, List.length_take, List.length_take]
    omega
  have SH := fun (W : World) (hb : Below w.heap.size w W) => wshort_calls S cv mv gv W (hS.mono hb)
  have PK := fun (W : World) (hb : Below w.heap.size w W) => picks_calls pv P W (hP.mono hb)
  rw [hT] at SH
  rw [hQ] at PK
  obtain ⟨⟨bdc, dc, rfl, rc0⟩, ⟨bdm, dm, rfl, rm0⟩, ⟨bdg, dg, rfl, rg0⟩⟩ := hS
  obtain ⟨bdp, dp, rfl, rp0⟩ := hP
  obtain ⟨mc, hmc⟩ : ∃ n, S.cs.length = n := ⟨_, rfl⟩
  obtain ⟨mm, hmm⟩ : ∃ n, S.ms.length = n := ⟨_, rfl⟩
  obtain ⟨mg, hmg⟩ : ∃ n, S.gs.length = n := ⟨_, rfl⟩
  obtain ⟨mp, hmp⟩ : ∃ n, P.length = n := ⟨_, rfl⟩
  rw [hmc, hmm, hmg] at SH ⊢
  rw [hmp] at PK ⊢
  have HSH := Lib.hid SH
  have HPK := Lib.hid PK
  clear SH PK hT hQ hI hPI rc0 rm0 rg0 rp0 hmc hmm hmg hmp
  have RCK := fun (cv mv gv : Value) (W : World) (h : InS W cv mv gv T) => rscheck_calls T cv mv gv W h TI
  rw [h1] at RCK
  have NB := fun (cv mv gv pv : Value) (W : World) (h : InS W cv mv gv T) (hp : InP W pv Q) => wneeds_bad T Q ft cv mv gv pv W h hp TI (by unfold zI; omega) (fun h => by rw [h1] at h; cases h)
  simp only [Bool.false_eq_true, if_true, if_false] at RCK
  have HFO := Lib.hid FO
  have HRCK := Lib.hid RCK
  have HNB := Lib.hid NB
  clear FO RCK NB TI QI tl h1
  have vs := Vals.newL w (w.heap.size) [.slice bdc mc dc, .slice bdm mm dm, .slice bdg mg dg, .int .i64 S.sf, .int .i64 S.ch] 26 rfl
  have bb := below_alloc w (.cells #[.slice bdc mc dc, .slice bdm mm dm, .slice bdg mg dg, .int .i64 S.sf, .int .i64 S.ch] 26)
  have B := bb
  clear bb
  go_enter Tryd.func4, Tryd.ntmps4
  go_upto_region 1 with (fail)
  generalize (w.alloc (.cells #[.slice bdc mc dc, .slice bdm mm dm, .slice bdg mg dg, .int .i64 S.sf, .int .i64 S.ch] 26)) = w0 at *
  have cvs0 := vs.cell (i := 0) (by simp)
  have cvs1 := vs.cell (i := 1) (by simp)
  have cvs2 := vs.cell (i := 2) (by simp)
  have cvs3 := vs.cell (i := 3) (by simp)
  have cvs4 := vs.cell (i := 4) (by simp)
  simp only [List.getD_cons_zero, List.getD_cons_succ] at cvs0 cvs1 cvs2 cvs3 cvs4
  have ltvs := vs.lt
  go_wp2_with fail
  clear cvs0 cvs1 cvs2 cvs3 cvs4 ltvs
  clear vs
  refine (HSH.out _ B).mono ?_
  rintro e w1 ⟨cv, mv, gv, rfl, hs1, b1⟩
  replace B := below_trans B b1
  clear b1
  obtain ⟨⟨adc, cc, rfl, rc⟩, ⟨adm, cm, rfl, rm⟩, ⟨adg, cg, rfl, rg⟩⟩ := hs1
  obtain ⟨nc, hnc⟩ : ∃ n, T.cs.length = n := ⟨_, rfl⟩
  obtain ⟨nm, hnm⟩ : ∃ n, T.ms.length = n := ⟨_, rfl⟩
  obtain ⟨ng, hng⟩ : ∃ n, T.gs.length = n := ⟨_, rfl⟩
  rw [hnc, hnm, hng]
  have HNC := Lib.hid hnc
  have HNM := Lib.hid hnm
  have HNG := Lib.hid hng
  clear hnc hnm hng HSH
  go_wp2_with fail
  refine (HPK.out _ B).mono ?_
  rintro e w2 ⟨pv, rfl, hp1, _, b2⟩
  replace rc := rc.mono b2
  replace rm := rm.mono b2
  replace rg := rg.mono b2
  replace B := below_trans B b2
  clear b2
  obtain ⟨adp, cp, rfl, rp⟩ := hp1
  obtain ⟨np, hnp⟩ : ∃ n, Q.length = n := ⟨_, rfl⟩
  rw [hnp]
  have HNP := Lib.hid hnp
  clear hnp HPK
  go_upto_region 2 with (fail)
  have vx := Vals.newL w2 w2.heap.size [.slice adc nc cc, .slice adm nm cm, .slice adg ng cg, .int .i64 T.sf, .int .i64 T.ch] 26 rfl
  have bb := below_alloc w2 (.cells #[.slice adc nc cc, .slice adm nm cm, .slice adg ng cg, .int .i64 T.sf, .int .i64 T.ch] 26)
  replace rc := rc.mono bb
  replace rm := rm.mono bb
  replace rg := rg.mono bb
  replace rp := rp.mono bb
  replace B := below_trans B bb
  clear bb
  generalize w2.alloc (.cells #[.slice adc nc cc, .slice adm nm cm, .slice adg ng cg, .int .i64 T.sf, .int .i64 T.ch] 26) = w3 at *
  go_wp2_with fail
  refine (HFO.out _).mono ?_
  rintro e wq ⟨rfl, rfl⟩
  have cvx0 := vx.cell (i := 0) (by simp)
  have cvx1 := vx.cell (i := 1) (by simp)
  have cvx2 := vx.cell (i := 2) (by simp)
  have cvx3 := vx.cell (i := 3) (by simp)
  have cvx4 := vx.cell (i := 4) (by simp)
  simp only [List.getD_cons_zero, List.getD_cons_succ] at cvx0 cvx1 cvx2 cvx3 cvx4
  have ltvx := vx.lt
  go_wp2_with fail
  clear cvx0 cvx1 cvx2 cvx3 cvx4 ltvx
  refine (HNB.out _ _ _ _ _ ⟨⟨adc, cc, by rw [HNC.out], rc⟩, ⟨adm, cm, by rw [HNM.out], rm⟩, ⟨adg, cg, by rw [HNG.out], rg⟩⟩ ⟨adp, cp, by rw [HNP.out], rp⟩).mono ?_
  rintro e w4 ⟨rfl, b4⟩
  replace rc := rc.mono b4
  replace rm := rm.mono b4
  replace rg := rg.mono b4
  replace rp := rp.mono b4
  replace vx := vx.mono b4
  replace B := below_trans B b4
  clear b4
  have cvx0 := vx.cell (i := 0) (by simp)
  have cvx1 := vx.cell (i := 1) (by simp)
  have cvx2 := vx.cell (i := 2) (by simp)
  have cvx3 := vx.cell (i := 3) (by simp)
  have cvx4 := vx.cell (i := 4) (by simp)
  simp only [List.getD_cons_zero, List.getD_cons_succ] at cvx0 cvx1 cvx2 cvx3 cvx4
  have ltvx := vx.lt
  go_wp2_with fail
  clear cvx0 cvx1 cvx2 cvx3 cvx4 ltvx
  refine (HRCK.out _ _ _ _ ⟨⟨adc, cc, by rw [HNC.out], rc⟩, ⟨adm, cm, by rw [HNM.out], rm⟩, ⟨adg, cg, by rw [HNG.out], rg⟩⟩).mono ?_
  rintro e w5 ⟨rfl, b5⟩
  replace rc := rc.mono b5
  replace rm := rm.mono b5
  replace rg := rg.mono b5
  replace rp := rp.mono b5
  replace vx := vx.mono b5
  replace B := below_trans B b5
  clear b5
  go_wp2_with fail
  refine (lives_calls _).mono ?_
  rintro e w6 ⟨rfl, b6⟩
  replace rc := rc.mono b6
  replace rm := rm.mono b6
  replace rg := rg.mono b6
  replace rp := rp.mono b6
  replace vx := vx.mono b6
  replace B := below_trans B b6
  clear b6
  go_wp2
  go_ret
  exact ⟨rfl, B⟩

set_option maxRecDepth 100000 in
set_option maxHeartbeats 1000000 in
theorem wllens_c (S : Scl) (P : List Pk) (tail : Int) (cv mv gv pv : Value) (w : World) (hS : InS w cv mv gv S) (hI : SclI S) (hP : InP w pv P) (hPI : PksI P) (htz : zI tail) (h1 : sclOk (shortS S) = true) (h4 : fitsB (shortS S) (P.take 97) = false) :
    Calls Tryd.prog 4 #[.agg #[cv, mv, gv, .int .i64 S.sf, .int .i64 S.ch], pv, .int .i64 tail] w (RetTrue w) := by
  have FO := fun (W : World) => fold_same tail 100000 W (by omega) (by omega) htz.1 htz.2
  obtain ⟨fn, hfn, hf1, hf2⟩ := foldZ_some tail 100000 (by omega) 100000 rfl
  rw [hfn] at FO
  obtain ⟨ft, hft⟩ : ∃ z : Int, (fn : Int) = z := ⟨_, rfl⟩
  have h2 : 0 ≤ ft ∧ ft ≤ 100000 := by omega
  rw [hft] at FO
  clear hfn hf1 hf2 hft
  obtain ⟨T, hT⟩ : ∃ T, shortS S = T := ⟨_, rfl⟩
  obtain ⟨Q, hQ⟩ : ∃ Q, P.take 97 = Q := ⟨_, rfl⟩
  rw [hT] at h1
  rw [hT, hQ] at h4
  have TI : SclI T := by rw [← hT]; exact shortS_I hI
  have QI : PksI Q := by rw [← hQ]; exact fun p hp => hPI p (List.mem_of_mem_take hp)
  have tl : T.ms.length ≤ 1000000000000 ∧ T.gs.length ≤ 1000000000000 := by
    rw [← hT]
    unfold shortS
    dsimp only
    rw [List.length_map, List.length_take, List.length_take]
    omega
  have SH := fun (W : World) (hb : Below w.heap.size w W) => wshort_calls S cv mv gv W (hS.mono hb)
  have PK := fun (W : World) (hb : Below w.heap.size w W) => picks_calls pv P W (hP.mono hb)
  rw [hT] at SH
  rw [hQ] at PK
  obtain ⟨⟨bdc, dc, rfl, rc0⟩, ⟨bdm, dm, rfl, rm0⟩, ⟨bdg, dg, rfl, rg0⟩⟩ := hS
  obtain ⟨bdp, dp, rfl, rp0⟩ := hP
  obtain ⟨mc, hmc⟩ : ∃ n, S.cs.length = n := ⟨_, rfl⟩
  obtain ⟨mm, hmm⟩ : ∃ n, S.ms.length = n := ⟨_, rfl⟩
  obtain ⟨mg, hmg⟩ : ∃ n, S.gs.length = n := ⟨_, rfl⟩
  obtain ⟨mp, hmp⟩ : ∃ n, P.length = n := ⟨_, rfl⟩
  rw [hmc, hmm, hmg] at SH ⊢
  rw [hmp] at PK ⊢
  have HSH := Lib.hid SH
  have HPK := Lib.hid PK
  clear SH PK hT hQ hI hPI rc0 rm0 rg0 rp0 hmc hmm hmg hmp
  have RCK := fun (cv mv gv : Value) (W : World) (h : InS W cv mv gv T) => rscheck_calls T cv mv gv W h TI
  rw [h1] at RCK
  have NB := fun (cv mv gv pv : Value) (W : World) (h : InS W cv mv gv T) (hp : InP W pv Q) => wneeds_form T Q ft cv mv gv pv W h hp TI QI h1 h2 h4
  simp only [Bool.false_eq_true, if_true, if_false] at RCK
  have HFO := Lib.hid FO
  have HRCK := Lib.hid RCK
  have HNB := Lib.hid NB
  clear FO RCK NB TI QI tl h1 h4
  have vs := Vals.newL w (w.heap.size) [.slice bdc mc dc, .slice bdm mm dm, .slice bdg mg dg, .int .i64 S.sf, .int .i64 S.ch] 26 rfl
  have bb := below_alloc w (.cells #[.slice bdc mc dc, .slice bdm mm dm, .slice bdg mg dg, .int .i64 S.sf, .int .i64 S.ch] 26)
  have B := bb
  clear bb
  go_enter Tryd.func4, Tryd.ntmps4
  go_upto_region 1 with (fail)
  generalize (w.alloc (.cells #[.slice bdc mc dc, .slice bdm mm dm, .slice bdg mg dg, .int .i64 S.sf, .int .i64 S.ch] 26)) = w0 at *
  have cvs0 := vs.cell (i := 0) (by simp)
  have cvs1 := vs.cell (i := 1) (by simp)
  have cvs2 := vs.cell (i := 2) (by simp)
  have cvs3 := vs.cell (i := 3) (by simp)
  have cvs4 := vs.cell (i := 4) (by simp)
  simp only [List.getD_cons_zero, List.getD_cons_succ] at cvs0 cvs1 cvs2 cvs3 cvs4
  have ltvs := vs.lt
  go_wp2_with fail
  clear cvs0 cvs1 cvs2 cvs3 cvs4 ltvs
  clear vs
  refine (HSH.out _ B).mono ?_
  rintro e w1 ⟨cv, mv, gv, rfl, hs1, b1⟩
  replace B := below_trans B b1
  clear b1
  obtain ⟨⟨adc, cc, rfl, rc⟩, ⟨adm, cm, rfl, rm⟩, ⟨adg, cg, rfl, rg⟩⟩ := hs1
  obtain ⟨nc, hnc⟩ : ∃ n, T.cs.length = n := ⟨_, rfl⟩
  obtain ⟨nm, hnm⟩ : ∃ n, T.ms.length = n := ⟨_, rfl⟩
  obtain ⟨ng, hng⟩ : ∃ n, T.gs.length = n := ⟨_, rfl⟩
  rw [hnc, hnm, hng]
  have HNC := Lib.hid hnc
  have HNM := Lib.hid hnm
  have HNG := Lib.hid hng
  clear hnc hnm hng HSH
  go_wp2_with fail
  refine (HPK.out _ B).mono ?_
  rintro e w2 ⟨pv, rfl, hp1, _, b2⟩
  replace rc := rc.mono b2
  replace rm := rm.mono b2
  replace rg := rg.mono b2
  replace B := below_trans B b2
  clear b2
  obtain ⟨adp, cp, rfl, rp⟩ := hp1
  obtain ⟨np, hnp⟩ : ∃ n, Q.length = n := ⟨_, rfl⟩
  rw [hnp]
  have HNP := Lib.hid hnp
  clear hnp HPK
  go_upto_region 2 with (fail)
  have vx := Vals.newL w2 w2.heap.size [.slice adc nc cc, .slice adm nm cm, .slice adg ng cg, .int .i64 T.sf, .int .i64 T.ch] 26 rfl
  have bb := below_alloc w2 (.cells #[.slice adc nc cc, .slice adm nm cm, .slice adg ng cg, .int .i64 T.sf, .int .i64 T.ch] 26)
  replace rc := rc.mono bb
  replace rm := rm.mono bb
  replace rg := rg.mono bb
  replace rp := rp.mono bb
  replace B := below_trans B bb
  clear bb
  generalize w2.alloc (.cells #[.slice adc nc cc, .slice adm nm cm, .slice adg ng cg, .int .i64 T.sf, .int .i64 T.ch] 26) = w3 at *
  go_wp2_with fail
  refine (HFO.out _).mono ?_
  rintro e wq ⟨rfl, rfl⟩
  have cvx0 := vx.cell (i := 0) (by simp)
  have cvx1 := vx.cell (i := 1) (by simp)
  have cvx2 := vx.cell (i := 2) (by simp)
  have cvx3 := vx.cell (i := 3) (by simp)
  have cvx4 := vx.cell (i := 4) (by simp)
  simp only [List.getD_cons_zero, List.getD_cons_succ] at cvx0 cvx1 cvx2 cvx3 cvx4
  have ltvx := vx.lt
  go_wp2_with fail
  clear cvx0 cvx1 cvx2 cvx3 cvx4 ltvx
  refine (HNB.out _ _ _ _ _ ⟨⟨adc, cc, by rw [HNC.out], rc⟩, ⟨adm, cm, by rw [HNM.out], rm⟩, ⟨adg, cg, by rw [HNG.out], rg⟩⟩ ⟨adp, cp, by rw [HNP.out], rp⟩).mono ?_
  rintro e w4 ⟨rfl, b4⟩
  replace rc := rc.mono b4
  replace rm := rm.mono b4
  replace rg := rg.mono b4
  replace rp := rp.mono b4
  replace vx := vx.mono b4
  replace B := below_trans B b4
  clear b4
  have cvx0 := vx.cell (i := 0) (by simp)
  have cvx1 := vx.cell (i := 1) (by simp)
  have cvx2 := vx.cell (i := 2) (by simp)
  have cvx3 := vx.cell (i := 3) (by simp)
  have cvx4 := vx.cell (i := 4) (by simp)
  simp only [List.getD_cons_zero, List.getD_cons_succ] at cvx0 cvx1 cvx2 cvx3 cvx4
  have ltvx := vx.lt
  go_wp2_with fail
  clear cvx0 cvx1 cvx2 cvx3 cvx4 ltvx
  refine (HRCK.out _ _ _ _ ⟨⟨adc, cc, by rw [HNC.out], rc⟩, ⟨adm, cm, by rw [HNM.out], rm⟩, ⟨adg, cg, by rw [HNG.out], rg⟩⟩).mono ?_
  rintro e w5 ⟨rfl, b5⟩
  replace rc := rc.mono b5
  replace rm := rm.mono b5
  replace rg := rg.mono b5
  replace rp := rp.mono b5
  replace vx := vx.mono b5
  replace B := below_trans B b5
  clear b5
  go_wp2_with fail
  refine (lives_calls _).mono ?_
  rintro e w6 ⟨rfl, b6⟩
  replace rc := rc.mono b6
  replace rm := rm.mono b6
  replace rg := rg.mono b6
  replace rp := rp.mono b6
  replace vx := vx.mono b6
  replace B := below_trans B b6
  clear b6
  go_wp2
  go_ret
  exact ⟨rfl, B⟩

set_option maxRecDepth 100000 in
set_option maxHeartbeats 1000000 in
theorem wllens_d (S : Scl) (P : List Pk) (tail : Int) (cv mv gv pv : Value) (w : World) (hS : InS w cv mv gv S) (hI : SclI S) (hP : InP w pv P) (hPI : PksI P) (htz : zI tail) (h1 : sclOk (shortS S) = true) (h4 : fitsB (shortS S) (P.take 97) = true) (htb : Tab w) :
    Calls Tryd.prog 4 #[.agg #[cv, mv, gv, .int .i64 S.sf, .int .i64 S.ch], pv, .int .i64 tail] w (RetTrue w) := by
  have FO := fun (W : World) => fold_same tail 100000 W (by omega) (by omega) htz.1 htz.2
  obtain ⟨fn, hfn, hf1, hf2⟩ := foldZ_some tail 100000 (by omega) 100000 rfl
  rw [hfn] at FO
  obtain ⟨ft, hft⟩ : ∃ z : Int, (fn : Int) = z := ⟨_, rfl⟩
  have h2 : 0 ≤ ft ∧ ft ≤ 100000 := by omega
  rw [hft] at FO
  clear hfn hf1 hf2 hft
  obtain ⟨T, hT⟩ : ∃ T, shortS S = T := ⟨_, rfl⟩
  obtain ⟨Q, hQ⟩ : ∃ Q, P.take 97 = Q := ⟨_, rfl⟩
  rw [hT] at h1
  rw [hT, hQ] at h4
  have TI : SclI T := by rw [← hT]; exact shortS_I hI
  have QI : PksI Q := by rw [← hQ]; exact fun p hp => hPI p (List.mem_of_mem_take hp)
  have tl : T.ms.length ≤ 1000000000000 ∧ T.gs.length ≤ 1000000000000 := by
    rw [← hT]
    unfold shortS
    dsimp only
    rw [List.length_map, List.length_take, List.length_take]
    omega
  have SH := fun (W : World) (hb : Below w.heap.size w W) => wshort_calls S cv mv gv W (hS.mono hb)
  have PK := fun (W : World) (hb : Below w.heap.size w W) => picks_calls pv P W (hP.mono hb)
  rw [hT] at SH
  rw [hQ] at PK
  obtain ⟨⟨bdc, dc, rfl, rc0⟩, ⟨bdm, dm, rfl, rm0⟩, ⟨bdg, dg, rfl, rg0⟩⟩ := hS
  obtain ⟨bdp, dp, rfl, rp0⟩ := hP
  obtain ⟨mc, hmc⟩ : ∃ n, S.cs.length = n := ⟨_, rfl⟩
  obtain ⟨mm, hmm⟩ : ∃ n, S.ms.length = n := ⟨_, rfl⟩
  obtain ⟨mg, hmg⟩ : ∃ n, S.gs.length = n := ⟨_, rfl⟩
  obtain ⟨mp, hmp⟩ : ∃ n, P.length = n := ⟨_, rfl⟩
  rw [hmc, hmm, hmg] at SH ⊢
  rw [hmp] at PK ⊢
  have HSH := Lib.hid SH
  have HPK := Lib.hid PK
  clear SH PK hT hQ hI hPI rc0 rm0 rg0 rp0 hmc hmm hmg hmp
  have RCK := fun (cv mv gv : Value) (W : World) (h : InS W cv mv gv T) => rscheck_calls T cv mv gv W h TI
  rw [h1] at RCK
  have NB := fun (cv mv gv pv : Value) (W : World) (h : InS W cv mv gv T) (hp : InP W pv Q) (hb : Tab W) => wneeds_ok T Q ft cv mv gv pv W h hp TI QI h1 h2 h4 hb
  have nt := needs_total h1 h2 h4
  have nq := needs_q h1 h2 h4 (T.ms.length * T.gs.length)
  have nd := needs_names h1 h2 h4 (T.ms.length * T.gs.length)
  have nl := needs_len T Q ft (T.ms.length * T.gs.length)
  obtain ⟨hl96, hl4, hl16, _, _⟩ := headOk_lens (headOk_of h1)
  have hk1 := Nat.mul_le_mul hl4.2 hl16.2
  have hl := fun (i : Nat) (hi : i < T.cs.length) => (crs_facts (sclOk_c h1 hi)).1
  obtain ⟨NL, hNL⟩ : ∃ L, needs T Q ft (T.ms.length * T.gs.length) = L := ⟨_, rfl⟩
  rw [hNL] at NB nt nd nl
  have nq2 : ∀ i, i < NL.length → 1 ≤ (NL.getD i lt0).q ∧ (NL.getD i lt0).q ≤ 19200000 := fun i hi => by
    obtain ⟨j, _, h5, h6⟩ := nq i (by rw [hNL]; exact hi)
    rw [hNL] at h5
    rw [h5]
    exact h6
  have nqs : ∀ i, i ≤ NL.length → 0 ≤ qsum NL i ∧ qsum NL i ≤ 1228800000 := fun i hi => by
    have h5 := sumZ_bd (f := fun i => (NL.getD i lt0).q) (M := 19200000) (n := i) fun j hj => ⟨by have := (nq2 j (by omega)).1; omega, (nq2 j (by omega)).2⟩
    unfold qsum
    omega
  have ns1 : ∀ i, i ≤ T.cs.length → 0 ≤ sumZ (fun j => (T.cs.getD j c0).l + ft) i ∧ sumZ (fun j => (T.cs.getD j c0).l + ft) i ≤ 20000000 := fun i hi => by
    have h5 := sumZ_bd (f := fun j => (T.cs.getD j c0).l + ft) (M := 200000) (n := i) fun j hj => by have := hl j (by omega); omega
    omega
  have HNN := Lib.hid (show NL.length ≤ 64 by omega)
  have HNC2 := Lib.hid hl96.2
  clear hNL nq nl hk1
  simp only [Bool.false_eq_true, if_true, if_false] at RCK
  have HFO := Lib.hid FO
  have HRCK := Lib.hid RCK
  have HNB := Lib.hid NB
  have HT := Lib.hid nt
  have HQ := Lib.hid nq2
  have HQS := Lib.hid nqs
  have HD := Lib.hid nd
  have HL := Lib.hid hl
  have HS1 := Lib.hid ns1
  clear nt nq2 nqs nd hl ns1 hl96 hl4 hl16
  clear FO RCK NB TI QI tl h1 h4
  have vs := Vals.newL w (w.heap.size) [.slice bdc mc dc, .slice bdm mm dm, .slice bdg mg dg, .int .i64 S.sf, .int .i64 S.ch] 26 rfl
  have bb := below_alloc w (.cells #[.slice bdc mc dc, .slice bdm mm dm, .slice bdg mg dg, .int .i64 S.sf, .int .i64 S.ch] 26)
  have B := bb
  clear bb
  go_enter Tryd.func4, Tryd.ntmps4
  go_upto_region 1 with (fail)
  generalize (w.alloc (.cells #[.slice bdc mc dc, .slice bdm mm dm, .slice bdg mg dg, .int .i64 S.sf, .int .i64 S.ch] 26)) = w0 at *
  have cvs0 := vs.cell (i := 0) (by simp)
  have cvs1 := vs.cell (i := 1) (by simp)
  have cvs2 := vs.cell (i := 2) (by simp)
  have cvs3 := vs.cell (i := 3) (by simp)
  have cvs4 := vs.cell (i := 4) (by simp)
  simp only [List.getD_cons_zero, List.getD_cons_succ] at cvs0 cvs1 cvs2 cvs3 cvs4
  have ltvs := vs.lt
  go_wp2_with fail
  clear cvs0 cvs1 cvs2 cvs3 cvs4 ltvs
  clear vs
  refine (HSH.out _ B).mono ?_
  rintro e w1 ⟨cv, mv, gv, rfl, hs1, b1⟩
  replace B := below_trans B b1
  clear b1
  obtain ⟨⟨adc, cc, rfl, rc⟩, ⟨adm, cm, rfl, rm⟩, ⟨adg, cg, rfl, rg⟩⟩ := hs1
  obtain ⟨nc, hnc⟩ : ∃ n, T.cs.length = n := ⟨_, rfl⟩
  obtain ⟨nm, hnm⟩ : ∃ n, T.ms.length = n := ⟨_, rfl⟩
  obtain ⟨ng, hng⟩ : ∃ n, T.gs.length = n := ⟨_, rfl⟩
  rw [hnc, hnm, hng]
  have HNC := Lib.hid hnc
  have HNM := Lib.hid hnm
  have HNG := Lib.hid hng
  clear hnc hnm hng HSH
  go_wp2_with fail
  refine (HPK.out _ B).mono ?_
  rintro e w2 ⟨pv, rfl, hp1, _, b2⟩
  replace rc := rc.mono b2
  replace rm := rm.mono b2
  replace rg := rg.mono b2
  replace B := below_trans B b2
  clear b2
  obtain ⟨adp, cp, rfl, rp⟩ := hp1
  obtain ⟨np, hnp⟩ : ∃ n, Q.length = n := ⟨_, rfl⟩
  rw [hnp]
  have HNP := Lib.hid hnp
  clear hnp HPK
  go_upto_region 2 with (fail)
  have vx := Vals.newL w2 w2.heap.size [.slice adc nc cc, .slice adm nm cm, .slice adg ng cg, .int .i64 T.sf, .int .i64 T.ch] 26 rfl
  have bb := below_alloc w2 (.cells #[.slice adc nc cc, .slice adm nm cm, .slice adg ng cg, .int .i64 T.sf, .int .i64 T.ch] 26)
  replace rc := rc.mono bb
  replace rm := rm.mono bb
  replace rg := rg.mono bb
  replace rp := rp.mono bb
  replace B := below_trans B bb
  clear bb
  generalize w2.alloc (.cells #[.slice adc nc cc, .slice adm nm cm, .slice adg ng cg, .int .i64 T.sf, .int .i64 T.ch] 26) = w3 at *
  go_wp2_with fail
  refine (HFO.out _).mono ?_
  rintro e wq ⟨rfl, rfl⟩
  have cvx0 := vx.cell (i := 0) (by simp)
  have cvx1 := vx.cell (i := 1) (by simp)
  have cvx2 := vx.cell (i := 2) (by simp)
  have cvx3 := vx.cell (i := 3) (by simp)
  have cvx4 := vx.cell (i := 4) (by simp)
  simp only [List.getD_cons_zero, List.getD_cons_succ] at cvx0 cvx1 cvx2 cvx3 cvx4
  have ltvx := vx.lt
  go_wp2_with fail
  clear cvx0 cvx1 cvx2 cvx3 cvx4 ltvx
  refine (HNB.out _ _ _ _ _ ⟨⟨adc, cc, by rw [HNC.out], rc⟩, ⟨adm, cm, by rw [HNM.out], rm⟩, ⟨adg, cg, by rw [HNG.out], rg⟩⟩ ⟨adp, cp, by rw [HNP.out], rp⟩ (htb.mono B)).mono ?_
  rintro e w4 ⟨nv, rfl, hv, b4⟩
  replace rc := rc.mono b4
  replace rm := rm.mono b4
  replace rg := rg.mono b4
  replace rp := rp.mono b4
  replace vx := vx.mono b4
  replace B := below_trans B b4
  clear b4
  obtain ⟨adn, adnc, rfl, rn⟩ := hv
  obtain ⟨nn, hnn⟩ : ∃ n, NL.length = n := ⟨_, rfl⟩
  rw [hnn] at rn ⊢
  have Hnn := Lib.hid hnn
  clear hnn
  have cvx0 := vx.cell (i := 0) (by simp)
  have cvx1 := vx.cell (i := 1) (by simp)
  have cvx2 := vx.cell (i := 2) (by simp)
  have cvx3 := vx.cell (i := 3) (by simp)
  have cvx4 := vx.cell (i := 4) (by simp)
  simp only [List.getD_cons_zero, List.getD_cons_succ] at cvx0 cvx1 cvx2 cvx3 cvx4
  have ltvx := vx.lt
  go_wp2_with fail
  clear cvx0 cvx1 cvx2 cvx3 cvx4 ltvx
  refine (HRCK.out _ _ _ _ ⟨⟨adc, cc, by rw [HNC.out], rc⟩, ⟨adm, cm, by rw [HNM.out], rm⟩, ⟨adg, cg, by rw [HNG.out], rg⟩⟩).mono ?_
  rintro e w5 ⟨rfl, b5⟩
  replace rc := rc.mono b5
  replace rm := rm.mono b5
  replace rg := rg.mono b5
  replace rp := rp.mono b5
  replace vx := vx.mono b5
  replace rn := rn.mono b5
  replace B := below_trans B b5
  clear b5
  have hnn64 : nn ≤ 64 := by rw [← Hnn.out]; exact HNN.out
  have hnc96 : nc ≤ 96 := by have h := HNC2.out; have h2 := HNC.out; omega
  have HT := Lib.hid (show qsum NL nn = sumZ (fun j => (T.cs.getD j c0).l + ft) nc by rw [← Hnn.out, ← HNC.out]; exact HT.out)
  have HQS := Lib.hid (show ∀ i, i ≤ nn → 0 ≤ qsum NL i ∧ qsum NL i ≤ 1228800000 by rw [← Hnn.out]; exact HQS.out)
  have HS1 := Lib.hid (show ∀ i, i ≤ nc → 0 ≤ sumZ (fun j => (T.cs.getD j c0).l + ft) i ∧ sumZ (fun j => (T.cs.getD j c0).l + ft) i ≤ 20000000 by rw [← HNC.out]; exact HS1.out)
  go_wp2
  go_loopw [12, 11] (fun iv sv wr => ∃ (i : Nat) (z : Int), iv = .int .i64 (i : Int) ∧ i ≤ nn ∧ sv = .int .i64 z ∧ z = qsum NL i ∧ Below w.heap.size w wr ∧ RdV wr adn adnc nn 3 (flat lcl NL) ∧ Vals wr w2.heap.size [.slice adc nc cc, .slice adm nm cm, .slice adg ng cg, .int .i64 T.sf, .int .i64 T.ch] ∧ RdC wr adc cc T.cs)
    (fun iv _ _ => nn - (intOf iv).toNat)
  case atStart => exact ⟨0, 0, rfl, Nat.zero_le _, rfl, rfl, B, rn, vx, rc⟩
  case round =>
    clear rn vx rc B rm rg rp
    obtain ⟨i, z, rfl, hi, rfl, hz, B, rn, vx, rc⟩ := hrel
    by_cases h1 : i < nn
    · have hip : i < NL.length := by rw [Hnn.out]; exact h1
      obtain ⟨X, hX⟩ : ∃ X, NL.getD i lt0 = X := ⟨_, rfl⟩
      obtain ⟨bn, on, rfl, p1, p2, p3⟩ := lot_cells rn hip hX
      unfold wireB at p1
      have i0 : (0 : Int) ≤ (i : Int) := by omega
      have i1 : (i : Int) < (nn : Int) := by omega
      have hq := HQ.out i hip
      rw [hX] at hq
      have hqs := HQS.out i hi
      have HZ := Lib.hid (show z + X.q = qsum NL (i + 1) by rw [hz, ← hX]; rfl)
      rw [← hz] at hqs
      have HX := Lib.hid hX
      have HR := Lib.hid rn
      have HV := Lib.hid vx
      have HC := Lib.hid rc
      have h2 : ¬ (X.q < 1) := by omega
      have hrz : ∀ W, Below wr.heap.size wr W → W.cell? ⟨bn, on + i * 3 + 2, none⟩ = some (.int .i64 X.q) := fun W hW => (hW.cell (cell_lt p3)).trans p3
      have HRZ := Lib.hid hrz
      clear hX rn vx rc hz hip hrz
      go_wp2
      go_loopw [13] (fun kv wk => ∃ k : Nat, kv = .int .i64 (k : Int) ∧ k ≤ i ∧ Below wr.heap.size wr wk)
        (fun kv _ => i - (intOf kv).toNat)
      case atStart => exact ⟨0, rfl, Nat.zero_le _, Below.refl _ _⟩
      case round =>
        clear p1 p2 p3
        obtain ⟨k, rfl, hk, BK⟩ := hrel
        have rnk := HR.out.mono BK
        by_cases h3 : k < i
        · have hkp : k < NL.length := by rw [Hnn.out]; omega
          have hip : i < NL.length := by rw [Hnn.out]; exact h1
          obtain ⟨Y, hY⟩ : ∃ X, NL.getD k lt0 = X := ⟨_, rfl⟩
          obtain ⟨b2, o2, e2, y1, y2, y3⟩ := lot_cells rnk hkp hY
          obtain ⟨b3, o3, e3, x1, x2, x3⟩ := lot_cells rnk hip HX.out
          injection e2 with e2
          injection e3 with e3
          injection e2 with e4 e5 e6
          injection e3 with e7 e8 e9
          rw [← e4, ← e5] at y2
          rw [← e7, ← e8] at x2
          have k0 : (0 : Int) ≤ (k : Int) := by omega
          have k1 : (k : Int) < (nn : Int) := by omega
          have k2 : (k : Int) < (i : Int) := by omega
          have hne := HD.out i k hip h3
          rw [HX.out, hY] at hne
          have hne3 : (Y.s.toList == X.s.toList) = false := by rw [beq_eq_false_iff_ne]; exact fun e => hne (bytes_inj e)
          clear y1 y3 x1 x3 e4 e5 e6 e7 e8 e9 rnk hip hkp hY
          go_upto_region 15 with (fail)
          go_quiet (fail)
          go_wp2
          go_roundw
          case rel => exact ⟨k + 1, by go_num, by omega, below_drewN BK _⟩
          case measure => simp [intOf]; omega
        · obtain rfl : k = i := by omega
          have p3 := HRZ.out _ BK
          have lp := cell_lt p3
          clear rnk
          go_wp2
          go_roundw
          case rel => exact ⟨k + 1, z + X.q, by go_num, by omega, by go_num, HZ.out, below_trans B BK, HR.out.mono BK, HV.out.mono BK, HC.out.mono BK⟩
          case measure => simp [intOf]; omega
    · obtain rfl : i = nn := by omega
      have hz2 : z = sumZ (fun j => (T.cs.getD j c0).l + ft) nc := by rw [hz]; exact HT.out
      have HZ2 := Lib.hid hz2
      clear hz hz2 rn h1
      have cvx0 := vx.cell (i := 0) (by simp)
      simp only [List.getD_cons_zero, List.getD_cons_succ] at cvx0
      have ltvx := vx.lt
      go_wp2
      clear cvx0 ltvx
      go_loopw [14, 11] (fun iv sv wr => ∃ (j : Nat) (u : Int), iv = .int .i64 (j : Int) ∧ j ≤ nc ∧ sv = .int .i64 u ∧ u = z - sumZ (fun j => (T.cs.getD j c0).l + ft) j ∧ Below w.heap.size w wr ∧ Vals wr w2.heap.size [.slice adc nc cc, .slice adm nm cm, .slice adg ng cg, .int .i64 T.sf, .int .i64 T.ch] ∧ RdC wr adc cc T.cs)
        (fun iv _ _ => nc - (intOf iv).toNat)
      case atStart => exact ⟨0, z, rfl, Nat.zero_le _, rfl, by show z = z - 0; omega, B, vx, rc⟩
      case round =>
        clear vx rc B
        obtain ⟨j, u, rfl, hj, rfl, hu, B, vx, rc⟩ := hrel
        have cvx0 := vx.cell (i := 0) (by simp)
        simp only [List.getD_cons_zero, List.getD_cons_succ] at cvx0
        have ltvx := vx.lt
        by_cases h1 : j < nc
        · have hjc : j < T.cs.length := by rw [HNC.out]; exact h1
          have rc2 := Lib.hid rc
          obtain ⟨C, hC⟩ : ∃ X, T.cs.getD j c0 = X := ⟨_, rfl⟩
          obtain ⟨bc, oc, rfl, y0, y1, y2, y3⟩ := rc.at hjc
          have hl := HL.out j hjc
          rw [hC] at y0 y1 y2 y3 hl
          have hs1 := HS1.out j hj
          have hs2 := HS1.out nc (Nat.le_refl _)
          rw [← HZ2.out] at hs2
          have HU := Lib.hid (show u - (C.l + ft) = z - sumZ (fun j => (T.cs.getD j c0).l + ft) (j + 1) by rw [hu]; show _ = z - (sumZ _ j + ((T.cs.getD j c0).l + ft)); rw [hC]; omega)
          have hub : -40000000 ≤ u ∧ u ≤ 40000000 := by omega
          have j0 : (0 : Int) ≤ (j : Int) := by omega
          have j1 : (j : Int) < (nc : Int) := by omega
          have lbc := cell_lt y0
          have HV := Lib.hid vx
          clear y1 y2 y3 hjc rc hC hs1 hs2 hu vx
          go_wp2
          go_roundw
          case rel => exact ⟨j + 1, u - (C.l + ft), by go_num, by omega, by go_num, HU.out, B, HV.out, rc2.out⟩
          case measure => simp [intOf]; omega
        · obtain rfl : j = nc := by omega
          have hu0 : u = 0 := by rw [hu, HZ2.out]; omega
          subst hu0
          have HV := Lib.hid vx
          clear hu vx
          go_wp2_with fail
          refine (lives_calls _).mono ?_
          rintro e wl ⟨rfl, bl⟩
          replace B := below_trans B bl
          go_wp2
          go_ret
          exact ⟨rfl, B⟩

theorem walk_wlengths (S : Scl) (P : List Pk) (tail : Int) (cv mv gv pv : Value) (w : World) (hS : InS w cv mv gv S) (hI : SclI S) (hP : InP w pv P) (hPI : PksI P) (htz : zI tail) (htb : Tab w) :
    Calls Tryd.prog 4 #[.agg #[cv, mv, gv, .int .i64 S.sf, .int .i64 S.ch], pv, .int .i64 tail] w (RetTrue w) := by
  cases h1 : sclOk (shortS S) with
  | false => exact wllens_a S P tail cv mv gv pv w hS hI hP hPI htz h1
  | true =>
    cases h4 : fitsB (shortS S) (P.take 97) with
    | false => exact wllens_c S P tail cv mv gv pv w hS hI hP hPI htz h1 h4
    | true => exact wllens_d S P tail cv mv gv pv w hS hI hP hPI htz h1 h4 htb

end Go.Proofs
