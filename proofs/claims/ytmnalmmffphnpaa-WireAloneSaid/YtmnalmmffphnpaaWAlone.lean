/- The walk of WireAlone: whatever comes in, it returns true and changes nothing that was there. -/
import Derived.Test.YtmnalmmffphnpaaWLaw
import Derived.Test.YtmnalmmffphnpaaFold
import Derived.Deep.RegionHeld3
import Derived.Deep.QuietTactic
import Derived.BigQuiet
import Derived.Deep.Cut
open Go.RowKit Go.Deep
namespace Go.Proofs
set_option linter.unusedVariables false
set_option linter.unusedSimpArgs false

/-- what Best says besides its picks -/
def bz (S : Scl) : Int := if (bestV S).1 = -1 then 0 else (bestV S).1
def be (S : Scl) : Int := if (bestV S).1 = -1 then 6 else 0
theorem wbest_any (S : Scl) (cv mv gv : Value) (w : World) (hS : InS w cv mv gv S) (hI : SclI S) (hs : sclOk S = true) :
    Calls Try.prog 20 #[.agg #[cv, mv, gv, .int .i64 S.sf, .int .i64 S.ch]] w fun e w' => ∃ v, e = .returned (.tuple #[v, .int .i64 (bz S), .int .i64 (be S)]) ∧ Below w.heap.size w w' := by
  unfold bz be
  by_cases h : (bestV S).1 = -1
  · rw [if_pos h, if_pos h]
    exact (wbest_none S cv mv gv w hS hI hs h).mono fun e w' h => ⟨_, h⟩
  · rw [if_neg h, if_neg h]
    exact (wbest_ok S cv mv gv w hS hI hs h).mono fun e w' ⟨v, h1, _, h2⟩ => ⟨v, h1, h2⟩

/-- one course by itself -/
def oneS (S : Scl) (i : Nat) : Scl := ⟨[S.cs.getD i c0], S.ms, S.gs, S.sf, S.ch⟩
theorem one_ok {S : Scl} (h : sclOk S = true) {i : Nat} (hi : i < S.cs.length) : sclOk (oneS S i) = true := by
  have hc := sclOk_c h hi
  unfold sclOk at h ⊢
  simp only [Bool.and_eq_true] at h ⊢
  obtain ⟨⟨⟨h1, h2⟩, h3⟩, h4⟩ := h
  refine ⟨⟨⟨?_, h2⟩, h3⟩, ?_⟩
  · unfold headOk at h1 ⊢
    simp only [Bool.and_eq_true] at h1 ⊢
    obtain ⟨⟨⟨⟨a1, a2⟩, a3⟩, a4⟩, a5⟩ := h1
    exact ⟨⟨⟨⟨rfl, a2⟩, a3⟩, a4⟩, a5⟩
  · rw [allTo_iff]
    intro j hj
    have : j = 0 := by
      have : (oneS S i).cs.length = 1 := rfl
      omega
    subst this
    exact hc
theorem one_I {S : Scl} (h : SclI S) {i : Nat} (hi : i < S.cs.length) : SclI (oneS S i) :=
  ⟨fun c hc => by
    have : c = S.cs.getD i c0 := by simpa [oneS] using hc
    subst this
    rw [List.getD_eq_getElem?_getD, List.getElem?_eq_getElem hi]
    exact h.cs _ (List.getElem_mem hi), h.ms, h.gs, h.sf, h.ch⟩
theorem one_best {S : Scl} (hs : sclOk S = true) (hv : (bestV S).1 ≠ -1) {i : Nat} (hi : i < S.cs.length) : (bestV (oneS S i)).1 ≠ -1 ∧ (bestV (oneS S i)).1 ≤ ((priceN S (S.cs.getD i c0) ((bestP S).getD i p0) : Nat) : Int) := by
  have hu := one_ok hs hi
  obtain ⟨b1, b2, b3⟩ := best_yes hs hv
  have hf := bestP_fits hv
  obtain ⟨f1, f2⟩ := fits_parts hf
  have hil : i < (bestP S).length := by rw [bestP_len]; exact hi
  have hf2 : fitsB (oneS S i) [(bestP S).getD i p0] = true := fits_all rfl (fun j hj => by
    have : j = 0 := by simpa using hj
    subst this
    exact f2 i hil)
  have ha : allowedB (oneS S i) [(bestP S).getD i p0] = true := by
    obtain ⟨_, _, _, _, hch⟩ := headOk_lens (headOk_of hs)
    unfold allowedB
    rw [Bool.and_eq_true, allTo_iff, decide_eq_true_eq]
    refine ⟨fun j hj => ?_, ?_⟩
    · have : j = 0 := by simpa using hj
      subst this
      unfold okAt
      rw [Bool.and_eq_true]
      exact ⟨rfl, allowed_strong b1 i hil⟩
    · have e : chTo [(bestP S).getD i p0] [(bestP S).getD i p0].length = 0 := by simp [chTo]
      rw [e]
      exact hch.1
  have hne : (bestV (oneS S i)).1 ≠ -1 := fun e => by
    rw [best_no hu e hf2] at ha
    cases ha
  refine ⟨hne, ?_⟩
  have h := ((best_yes hu hne).2.2 _ hf2 ha).1
  have e : costTo (oneS S i) [(bestP S).getD i p0] [(bestP S).getD i p0].length = priceN S (S.cs.getD i c0) ((bestP S).getD i p0) := by
    show costTo (oneS S i) [(bestP S).getD i p0] (0 + 1) = _
    rw [show costTo (oneS S i) [(bestP S).getD i p0] (0 + 1) = costTo (oneS S i) [(bestP S).getD i p0] 0 + priceN (oneS S i) (S.cs.getD i c0) ((bestP S).getD i p0) from rfl]
    unfold costTo
    rw [Nat.zero_add]
    rfl
  rw [e] at h
  exact h
theorem bz_bd {S : Scl} (hs : sclOk S = true) : 0 ≤ bz S ∧ bz S ≤ 4000000000000000 * (S.cs.length : Int) := by
  unfold bz
  split
  · omega
  · rename_i h
    obtain ⟨b1, b2, b3⟩ := best_yes hs h
    have hf := bestP_fits h
    have := costTo_le hs hf (bestP S).length (Nat.le_refl _)
    have hl := bestP_len S
    omega
def sumA (S : Scl) : Nat → Int
  | 0 => 0
  | i + 1 => sumA S i + bz (oneS S i)
theorem sumA_bd {S : Scl} (hs : sclOk S = true) : ∀ i, i ≤ S.cs.length → 0 ≤ sumA S i ∧ sumA S i ≤ 4000000000000000 * (i : Int)
  | 0, _ => by simp [sumA]
  | i + 1, hi => by
    have h1 := sumA_bd hs i (by omega)
    have h2 := bz_bd (one_ok hs (show i < S.cs.length by omega))
    have h3 : (oneS S i).cs.length = 1 := rfl
    rw [h3] at h2
    rw [sumA]
    omega
theorem sumA_le {S : Scl} (hs : sclOk S = true) (hv : (bestV S).1 ≠ -1) : ∀ i, i ≤ S.cs.length → sumA S i ≤ ((costTo S (bestP S) i : Nat) : Int)
  | 0, _ => by simp [sumA, costTo]
  | i + 1, hi => by
    have h1 := sumA_le hs hv i (by omega)
    obtain ⟨h2, h3⟩ := one_best hs hv (show i < S.cs.length by omega)
    have h4 : bz (oneS S i) = (bestV (oneS S i)).1 := if_neg h2
    rw [sumA, h4]
    show _ ≤ ((costTo S (bestP S) i + priceN S (S.cs.getD i c0) ((bestP S).getD i p0) : Nat) : Int)
    omega
theorem set5_0' {w : World} {b : Nat} {v0 v1 v2 v3 v4 : Value} (h : Vals w b [v0, v1, v2, v3, v4]) (x : Value) : Vals (w.setCell ⟨b, 0, none⟩ x) b [x, v1, v2, v3, v4] := h.set 0 x
theorem RdC.one {w : World} {b o c : Nat} {L : List Crs} (h : RdC w (some ⟨b, o, none⟩) c L) {i : Nat} (hi : i < L.length) : RdC w (some ⟨b, o + i * 4, none⟩) (c - i) [L.getD i c0] := by
  have h1 := h.1
  have h2 := h.2.1
  have hc := h.at2 hi rfl
  refine ⟨by simp; omega, by omega, .inr ⟨b, o + i * 4, rfl, fun j hj => ?_⟩⟩
  have : j = 0 := by simpa using hj
  subst this
  rw [Nat.zero_mul, Nat.add_zero]
  exact hc

set_option maxRecDepth 100000 in
set_option maxHeartbeats 1000000 in
theorem walone_a (S : Scl) (cv mv gv : Value) (w : World) (hS : InS w cv mv gv S) (hI : SclI S) (h1 : sclOk (shortS S) = false) :
    Calls Try.prog 6 #[.agg #[cv, mv, gv, .int .i64 S.sf, .int .i64 S.ch]] w (RetTrue w) := by
  obtain ⟨T, hT⟩ : ∃ T, shortS S = T := ⟨_, rfl⟩
  rw [hT] at h1
  have TI : SclI T := by rw [← hT]; exact shortS_I hI
  have SH := fun (W : World) (hb : Below w.heap.size w W) => wshort_calls S cv mv gv W (hS.mono hb)
  rw [hT] at SH
  obtain ⟨⟨bdc, dc, rfl, rc0⟩, ⟨bdm, dm, rfl, rm0⟩, ⟨bdg, dg, rfl, rg0⟩⟩ := hS
  obtain ⟨mc, hmc⟩ : ∃ n, S.cs.length = n := ⟨_, rfl⟩
  obtain ⟨mm, hmm⟩ : ∃ n, S.ms.length = n := ⟨_, rfl⟩
  obtain ⟨mg, hmg⟩ : ∃ n, S.gs.length = n := ⟨_, rfl⟩
  rw [hmc, hmm, hmg] at SH ⊢
  have HSH := Lib.hid SH
  clear SH hT hI rc0 rm0 rg0 hmc hmm hmg
  have RCK := fun (cv mv gv : Value) (W : World) (h : InS W cv mv gv T) => rscheck_calls T cv mv gv W h TI
  rw [h1] at RCK
  simp only [Bool.false_eq_true, if_true, if_false] at RCK
  have HRCK := Lib.hid RCK
  clear RCK TI h1
  have vs := Vals.newL w (w.heap.size) [.slice bdc mc dc, .slice bdm mm dm, .slice bdg mg dg, .int .i64 S.sf, .int .i64 S.ch] 26 rfl
  have bb := below_alloc w (.cells #[.slice bdc mc dc, .slice bdm mm dm, .slice bdg mg dg, .int .i64 S.sf, .int .i64 S.ch] 26)
  have B := bb
  clear bb
  go_enter Try.func6, Try.ntmps6
  go_upto_region 1 with (fail)
  generalize (w.alloc (.cells #[.slice bdc mc dc, .slice bdm mm dm, .slice bdg mg dg, .int .i64 S.sf, .int .i64 S.ch] 26)) = w0 at *
  have cvs0 := vs.cell (i := 0) (by simp)
  have cvs1 := vs.cell (i := 1) (by simp)
  have cvs2 := vs.cell (i := 2) (by simp)
  have cvs3 := vs.cell (i := 3) (by simp)
  have cvs4 := vs.cell (i := 4) (by simp)
  simp only [List.getD_cons_zero, List.getD_cons_succ] at cvs0 cvs1 cvs2 cvs3 cvs4
  have ltvs := vs.lt
  go_wp2_with fail
  clear cvs0 cvs1 cvs2 cvs3 cvs4 ltvs
  clear vs
  refine (HSH.out _ B).mono ?_
  rintro e w1 ⟨cv, mv, gv, rfl, hs1, b1⟩
  replace B := below_trans B b1
  clear b1
  obtain ⟨⟨adc, cc, rfl, rc⟩, ⟨adm, cm, rfl, rm⟩, ⟨adg, cg, rfl, rg⟩⟩ := hs1
  obtain ⟨nc, hnc⟩ : ∃ n, T.cs.length = n := ⟨_, rfl⟩
  obtain ⟨nm, hnm⟩ : ∃ n, T.ms.length = n := ⟨_, rfl⟩
  obtain ⟨ng, hng⟩ : ∃ n, T.gs.length = n := ⟨_, rfl⟩
  rw [hnc, hnm, hng]
  have HNC := Lib.hid hnc
  have HNM := Lib.hid hnm
  have HNG := Lib.hid hng
  clear hnc hnm hng HSH
  go_upto_region 2 with (fail)
  have vx := Vals.newL w1 w1.heap.size [.slice adc nc cc, .slice adm nm cm, .slice adg ng cg, .int .i64 T.sf, .int .i64 T.ch] 26 rfl
  have bb := below_alloc w1 (.cells #[.slice adc nc cc, .slice adm nm cm, .slice adg ng cg, .int .i64 T.sf, .int .i64 T.ch] 26)
  replace rc := rc.mono bb
  replace rm := rm.mono bb
  replace rg := rg.mono bb
  replace B := below_trans B bb
  clear bb
  generalize w1.alloc (.cells #[.slice adc nc cc, .slice adm nm cm, .slice adg ng cg, .int .i64 T.sf, .int .i64 T.ch] 26) = w2 at *
  have cvx0 := vx.cell (i := 0) (by simp)
  have cvx1 := vx.cell (i := 1) (by simp)
  have cvx2 := vx.cell (i := 2) (by simp)
  have cvx3 := vx.cell (i := 3) (by simp)
  have cvx4 := vx.cell (i := 4) (by simp)
  simp only [List.getD_cons_zero, List.getD_cons_succ] at cvx0 cvx1 cvx2 cvx3 cvx4
  have ltvx := vx.lt
  go_wp2_with fail
  clear cvx0 cvx1 cvx2 cvx3 cvx4 ltvx
  refine (HRCK.out _ _ _ _ ⟨⟨adc, cc, by rw [HNC.out], rc⟩, ⟨adm, cm, by rw [HNM.out], rm⟩, ⟨adg, cg, by rw [HNG.out], rg⟩⟩).mono ?_
  rintro e w3 ⟨rfl, b3⟩
  replace rc := rc.mono b3
  replace rm := rm.mono b3
  replace rg := rg.mono b3
  replace vx := vx.mono b3
  replace B := below_trans B b3
  clear b3
  go_wp2_with fail
  refine (lives_calls _).mono ?_
  rintro e w4 ⟨rfl, b4⟩
  replace rc := rc.mono b4
  replace rm := rm.mono b4
  replace rg := rg.mono b4
  replace vx := vx.mono b4
  replace B := below_trans B b4
  clear b4
  go_wp2
  go_ret
  exact ⟨rfl, B⟩

set_option maxRecDepth 100000 in
set_option maxHeartbeats 1000000 in
theorem walone_b (S : Scl) (cv mv gv : Value) (w : World) (hS : InS w cv mv gv S) (hI : SclI S) (h1 : sclOk (shortS S) = true) (h2 : dearB (shortS S) = true) :
    Calls Try.prog 6 #[.agg #[cv, mv, gv, .int .i64 S.sf, .int .i64 S.ch]] w (RetTrue w) := by
  obtain ⟨T, hT⟩ : ∃ T, shortS S = T := ⟨_, rfl⟩
  rw [hT] at h1
  rw [hT] at h2
  have TI : SclI T := by rw [← hT]; exact shortS_I hI
  have SH := fun (W : World) (hb : Below w.heap.size w W) => wshort_calls S cv mv gv W (hS.mono hb)
  rw [hT] at SH
  obtain ⟨⟨bdc, dc, rfl, rc0⟩, ⟨bdm, dm, rfl, rm0⟩, ⟨bdg, dg, rfl, rg0⟩⟩ := hS
  obtain ⟨mc, hmc⟩ : ∃ n, S.cs.length = n := ⟨_, rfl⟩
  obtain ⟨mm, hmm⟩ : ∃ n, S.ms.length = n := ⟨_, rfl⟩
  obtain ⟨mg, hmg⟩ : ∃ n, S.gs.length = n := ⟨_, rfl⟩
  rw [hmc, hmm, hmg] at SH ⊢
  have HSH := Lib.hid SH
  clear SH hT hI rc0 rm0 rg0 hmc hmm hmg
  have RCK := fun (cv mv gv : Value) (W : World) (h : InS W cv mv gv T) => rscheck_calls T cv mv gv W h TI
  rw [h1] at RCK
  have DE := fun (cv mv gv : Value) (W : World) (h : InS W cv mv gv T) => dear_calls T cv mv gv W h h1
  rw [h2] at DE
  simp only [Bool.false_eq_true, if_true, if_false] at RCK
  have HRCK := Lib.hid RCK
  have HDE := Lib.hid DE
  clear RCK DE TI h1 h2
  have vs := Vals.newL w (w.heap.size) [.slice bdc mc dc, .slice bdm mm dm, .slice bdg mg dg, .int .i64 S.sf, .int .i64 S.ch] 26 rfl
  have bb := below_alloc w (.cells #[.slice bdc mc dc, .slice bdm mm dm, .slice bdg mg dg, .int .i64 S.sf, .int .i64 S.ch] 26)
  have B := bb
  clear bb
  go_enter Try.func6, Try.ntmps6
  go_upto_region 1 with (fail)
  generalize (w.alloc (.cells #[.slice bdc mc dc, .slice bdm mm dm, .slice bdg mg dg, .int .i64 S.sf, .int .i64 S.ch] 26)) = w0 at *
  have cvs0 := vs.cell (i := 0) (by simp)
  have cvs1 := vs.cell (i := 1) (by simp)
  have cvs2 := vs.cell (i := 2) (by simp)
  have cvs3 := vs.cell (i := 3) (by simp)
  have cvs4 := vs.cell (i := 4) (by simp)
  simp only [List.getD_cons_zero, List.getD_cons_succ] at cvs0 cvs1 cvs2 cvs3 cvs4
  have ltvs := vs.lt
  go_wp2_with fail
  clear cvs0 cvs1 cvs2 cvs3 cvs4 ltvs
  clear vs
  refine (HSH.out _ B).mono ?_
  rintro e w1 ⟨cv, mv, gv, rfl, hs1, b1⟩
  replace B := below_trans B b1
  clear b1
  obtain ⟨⟨adc, cc, rfl, rc⟩, ⟨adm, cm, rfl, rm⟩, ⟨adg, cg, rfl, rg⟩⟩ := hs1
  obtain ⟨nc, hnc⟩ : ∃ n, T.cs.length = n := ⟨_, rfl⟩
  obtain ⟨nm, hnm⟩ : ∃ n, T.ms.length = n := ⟨_, rfl⟩
  obtain ⟨ng, hng⟩ : ∃ n, T.gs.length = n := ⟨_, rfl⟩
  rw [hnc, hnm, hng]
  have HNC := Lib.hid hnc
  have HNM := Lib.hid hnm
  have HNG := Lib.hid hng
  clear hnc hnm hng HSH
  go_upto_region 2 with (fail)
  have vx := Vals.newL w1 w1.heap.size [.slice adc nc cc, .slice adm nm cm, .slice adg ng cg, .int .i64 T.sf, .int .i64 T.ch] 26 rfl
  have bb := below_alloc w1 (.cells #[.slice adc nc cc, .slice adm nm cm, .slice adg ng cg, .int .i64 T.sf, .int .i64 T.ch] 26)
  replace rc := rc.mono bb
  replace rm := rm.mono bb
  replace rg := rg.mono bb
  replace B := below_trans B bb
  clear bb
  generalize w1.alloc (.cells #[.slice adc nc cc, .slice adm nm cm, .slice adg ng cg, .int .i64 T.sf, .int .i64 T.ch] 26) = w2 at *
  have cvx0 := vx.cell (i := 0) (by simp)
  have cvx1 := vx.cell (i := 1) (by simp)
  have cvx2 := vx.cell (i := 2) (by simp)
  have cvx3 := vx.cell (i := 3) (by simp)
  have cvx4 := vx.cell (i := 4) (by simp)
  simp only [List.getD_cons_zero, List.getD_cons_succ] at cvx0 cvx1 cvx2 cvx3 cvx4
  have ltvx := vx.lt
  go_wp2_with fail
  clear cvx0 cvx1 cvx2 cvx3 cvx4 ltvx
  refine (HRCK.out _ _ _ _ ⟨⟨adc, cc, by rw [HNC.out], rc⟩, ⟨adm, cm, by rw [HNM.out], rm⟩, ⟨adg, cg, by rw [HNG.out], rg⟩⟩).mono ?_
  rintro e w3 ⟨rfl, b3⟩
  replace rc := rc.mono b3
  replace rm := rm.mono b3
  replace rg := rg.mono b3
  replace vx := vx.mono b3
  replace B := below_trans B b3
  clear b3
  have cvx0 := vx.cell (i := 0) (by simp)
  have cvx1 := vx.cell (i := 1) (by simp)
  have cvx2 := vx.cell (i := 2) (by simp)
  have cvx3 := vx.cell (i := 3) (by simp)
  have cvx4 := vx.cell (i := 4) (by simp)
  simp only [List.getD_cons_zero, List.getD_cons_succ] at cvx0 cvx1 cvx2 cvx3 cvx4
  have ltvx := vx.lt
  go_wp2_with fail
  clear cvx0 cvx1 cvx2 cvx3 cvx4 ltvx
  refine (HDE.out _ _ _ _ ⟨⟨adc, cc, by rw [HNC.out], rc⟩, ⟨adm, cm, by rw [HNM.out], rm⟩, ⟨adg, cg, by rw [HNG.out], rg⟩⟩).mono ?_
  rintro e w4 ⟨rfl, b4⟩
  replace rc := rc.mono b4
  replace rm := rm.mono b4
  replace rg := rg.mono b4
  replace vx := vx.mono b4
  replace B := below_trans B b4
  clear b4
  go_wp2_with fail
  refine (lives_calls _).mono ?_
  rintro e w5 ⟨rfl, b5⟩
  replace rc := rc.mono b5
  replace rm := rm.mono b5
  replace rg := rg.mono b5
  replace vx := vx.mono b5
  replace B := below_trans B b5
  clear b5
  go_wp2
  go_ret
  exact ⟨rfl, B⟩

set_option maxRecDepth 100000 in
set_option maxHeartbeats 1000000 in
theorem walone_c (S : Scl) (cv mv gv : Value) (w : World) (hS : InS w cv mv gv S) (hI : SclI S) (h1 : sclOk (shortS S) = true) (h2 : dearB (shortS S) = false) (h3 : (bestV (shortS S)).1 = -1) :
    Calls Try.prog 6 #[.agg #[cv, mv, gv, .int .i64 S.sf, .int .i64 S.ch]] w (RetTrue w) := by
  obtain ⟨T, hT⟩ : ∃ T, shortS S = T := ⟨_, rfl⟩
  rw [hT] at h1
  rw [hT] at h2
  rw [hT] at h3
  have TI : SclI T := by rw [← hT]; exact shortS_I hI
  have SH := fun (W : World) (hb : Below w.heap.size w W) => wshort_calls S cv mv gv W (hS.mono hb)
  rw [hT] at SH
  obtain ⟨⟨bdc, dc, rfl, rc0⟩, ⟨bdm, dm, rfl, rm0⟩, ⟨bdg, dg, rfl, rg0⟩⟩ := hS
  obtain ⟨mc, hmc⟩ : ∃ n, S.cs.length = n := ⟨_, rfl⟩
  obtain ⟨mm, hmm⟩ : ∃ n, S.ms.length = n := ⟨_, rfl⟩
  obtain ⟨mg, hmg⟩ : ∃ n, S.gs.length = n := ⟨_, rfl⟩
  rw [hmc, hmm, hmg] at SH ⊢
  have HSH := Lib.hid SH
  clear SH hT hI rc0 rm0 rg0 hmc hmm hmg
  have RCK := fun (cv mv gv : Value) (W : World) (h : InS W cv mv gv T) => rscheck_calls T cv mv gv W h TI
  rw [h1] at RCK
  have DE := fun (cv mv gv : Value) (W : World) (h : InS W cv mv gv T) => dear_calls T cv mv gv W h h1
  rw [h2] at DE
  obtain ⟨hl96, _⟩ := headOk_lens (headOk_of h1)
  have BE := fun (cv mv gv : Value) (W : World) (h : InS W cv mv gv T) => wbest_any T cv mv gv W h TI h1
  have BO := fun (i : Nat) (hi : i < T.cs.length) (cv mv gv : Value) (W : World) (h : InS W cv mv gv (oneS T i)) => wbest_any (oneS T i) cv mv gv W h (one_I TI hi) (one_ok h1 hi)
  have SB := fun i hi => sumA_bd h1 i hi
  have SN : ∀ i, sumA T (i + 1) = sumA T i + bz (oneS T i) := fun _ => rfl
  have hbT : bz T = if (bestV T).1 = -1 then 0 else (bestV T).1 := rfl
  have heT : be T = if (bestV T).1 = -1 then 6 else 0 := rfl
  rw [if_pos h3] at hbT heT
  rw [hbT, heT] at BE
  have EO : ∀ i, be (oneS T i) = 6 ∨ be (oneS T i) = 0 := fun i => by unfold be; split; exact .inl rfl; exact .inr rfl
  clear hbT heT
  simp only [Bool.false_eq_true, if_true, if_false] at RCK
  have HRCK := Lib.hid RCK
  have HDE := Lib.hid DE
  have HBE := Lib.hid BE
  have HBO := Lib.hid BO
  have HSB := Lib.hid SB
  have HSN := Lib.hid SN
  have HEO := Lib.hid EO
  clear RCK DE BE BO SB SN EO TI h1 h2 h3
  have vs := Vals.newL w (w.heap.size) [.slice bdc mc dc, .slice bdm mm dm, .slice bdg mg dg, .int .i64 S.sf, .int .i64 S.ch] 26 rfl
  have bb := below_alloc w (.cells #[.slice bdc mc dc, .slice bdm mm dm, .slice bdg mg dg, .int .i64 S.sf, .int .i64 S.ch] 26)
  have B := bb
  clear bb
  go_enter Try.func6, Try.ntmps6
  go_upto_region 1 with (fail)
  generalize (w.alloc (.cells #[.slice bdc mc dc, .slice bdm mm dm, .slice bdg mg dg, .int .i64 S.sf, .int .i64 S.ch] 26)) = w0 at *
  have cvs0 := vs.cell (i := 0) (by simp)
  have cvs1 := vs.cell (i := 1) (by simp)
  have cvs2 := vs.cell (i := 2) (by simp)
  have cvs3 := vs.cell (i := 3) (by simp)
  have cvs4 := vs.cell (i := 4) (by simp)
  simp only [List.getD_cons_zero, List.getD_cons_succ] at cvs0 cvs1 cvs2 cvs3 cvs4
  have ltvs := vs.lt
  go_wp2_with fail
  clear cvs0 cvs1 cvs2 cvs3 cvs4 ltvs
  clear vs
  refine (HSH.out _ B).mono ?_
  rintro e w1 ⟨cv, mv, gv, rfl, hs1, b1⟩
  replace B := below_trans B b1
  clear b1
  obtain ⟨⟨adc, cc, rfl, rc⟩, ⟨adm, cm, rfl, rm⟩, ⟨adg, cg, rfl, rg⟩⟩ := hs1
  obtain ⟨nc, hnc⟩ : ∃ n, T.cs.length = n := ⟨_, rfl⟩
  obtain ⟨nm, hnm⟩ : ∃ n, T.ms.length = n := ⟨_, rfl⟩
  obtain ⟨ng, hng⟩ : ∃ n, T.gs.length = n := ⟨_, rfl⟩
  rw [hnc, hnm, hng]
  have HNC := Lib.hid hnc
  have HNM := Lib.hid hnm
  have HNG := Lib.hid hng
  clear hnc hnm hng HSH
  go_upto_region 2 with (fail)
  have vx := Vals.newL w1 w1.heap.size [.slice adc nc cc, .slice adm nm cm, .slice adg ng cg, .int .i64 T.sf, .int .i64 T.ch] 26 rfl
  have bb := below_alloc w1 (.cells #[.slice adc nc cc, .slice adm nm cm, .slice adg ng cg, .int .i64 T.sf, .int .i64 T.ch] 26)
  replace rc := rc.mono bb
  replace rm := rm.mono bb
  replace rg := rg.mono bb
  replace B := below_trans B bb
  clear bb
  generalize w1.alloc (.cells #[.slice adc nc cc, .slice adm nm cm, .slice adg ng cg, .int .i64 T.sf, .int .i64 T.ch] 26) = w2 at *
  have cvx0 := vx.cell (i := 0) (by simp)
  have cvx1 := vx.cell (i := 1) (by simp)
  have cvx2 := vx.cell (i := 2) (by simp)
  have cvx3 := vx.cell (i := 3) (by simp)
  have cvx4 := vx.cell (i := 4) (by simp)
  simp only [List.getD_cons_zero, List.getD_cons_succ] at cvx0 cvx1 cvx2 cvx3 cvx4
  have ltvx := vx.lt
  go_wp2_with fail
  clear cvx0 cvx1 cvx2 cvx3 cvx4 ltvx
  refine (HRCK.out _ _ _ _ ⟨⟨adc, cc, by rw [HNC.out], rc⟩, ⟨adm, cm, by rw [HNM.out], rm⟩, ⟨adg, cg, by rw [HNG.out], rg⟩⟩).mono ?_
  rintro e w3 ⟨rfl, b3⟩
  replace rc := rc.mono b3
  replace rm := rm.mono b3
  replace rg := rg.mono b3
  replace vx := vx.mono b3
  replace B := below_trans B b3
  clear b3
  have cvx0 := vx.cell (i := 0) (by simp)
  have cvx1 := vx.cell (i := 1) (by simp)
  have cvx2 := vx.cell (i := 2) (by simp)
  have cvx3 := vx.cell (i := 3) (by simp)
  have cvx4 := vx.cell (i := 4) (by simp)
  simp only [List.getD_cons_zero, List.getD_cons_succ] at cvx0 cvx1 cvx2 cvx3 cvx4
  have ltvx := vx.lt
  go_wp2_with fail
  clear cvx0 cvx1 cvx2 cvx3 cvx4 ltvx
  refine (HDE.out _ _ _ _ ⟨⟨adc, cc, by rw [HNC.out], rc⟩, ⟨adm, cm, by rw [HNM.out], rm⟩, ⟨adg, cg, by rw [HNG.out], rg⟩⟩).mono ?_
  rintro e w4 ⟨rfl, b4⟩
  replace rc := rc.mono b4
  replace rm := rm.mono b4
  replace rg := rg.mono b4
  replace vx := vx.mono b4
  replace B := below_trans B b4
  clear b4
  have cvx0 := vx.cell (i := 0) (by simp)
  have cvx1 := vx.cell (i := 1) (by simp)
  have cvx2 := vx.cell (i := 2) (by simp)
  have cvx3 := vx.cell (i := 3) (by simp)
  have cvx4 := vx.cell (i := 4) (by simp)
  simp only [List.getD_cons_zero, List.getD_cons_succ] at cvx0 cvx1 cvx2 cvx3 cvx4
  have ltvx := vx.lt
  go_wp2_with fail
  clear cvx0 cvx1 cvx2 cvx3 cvx4 ltvx
  refine (HBE.out _ _ _ _ ⟨⟨adc, cc, by rw [HNC.out], rc⟩, ⟨adm, cm, by rw [HNM.out], rm⟩, ⟨adg, cg, by rw [HNG.out], rg⟩⟩).mono ?_
  rintro e w5 ⟨bv, rfl, b5⟩
  replace rc := rc.mono b5
  replace rm := rm.mono b5
  replace rg := rg.mono b5
  replace vx := vx.mono b5
  replace B := below_trans B b5
  clear b5
  have hl2 := hl96
  rw [HNC.out] at hl2
  clear hl96
  have LCC := rc.1
  rw [HNC.out] at LCC
  have LCM := rc.2.1
  unfold maxLen at LCM
  go_wp2_with fail
  go_loopw [9, 7, 8] (fun iv sv bv wr => ∃ i : Nat, iv = .int .i64 (i : Int) ∧ i ≤ nc ∧ sv = .int .i64 (sumA T i) ∧ ∃ b : Bool, bv = .bool b ∧ Vals wr (w1.heap.size) [.slice adc nc cc, .slice adm nm cm, .slice adg ng cg, .int .i64 T.sf, .int .i64 T.ch] ∧ RdC wr adc cc T.cs ∧ RdM wr adm cm T.ms ∧ RdZ wr adg cg T.gs ∧ Below w.heap.size w wr)
    (fun iv _ _ _ => nc - (intOf iv).toNat)
  case atStart => exact ⟨0, rfl, Nat.zero_le _, rfl, false, rfl, vx, rc, rm, rg, B⟩
  case round =>
    clear vx rc rm rg B
    obtain ⟨i, rfl, hi, rfl, b, rfl, vx, rc, rm, rg, B⟩ := hrel
    have cvx0 := vx.cell (i := 0) (by simp)
    have cvx1 := vx.cell (i := 1) (by simp)
    have cvx2 := vx.cell (i := 2) (by simp)
    have cvx3 := vx.cell (i := 3) (by simp)
    have cvx4 := vx.cell (i := 4) (by simp)
    simp only [List.getD_cons_zero, List.getD_cons_succ] at cvx0 cvx1 cvx2 cvx3 cvx4
    have ltvx := vx.lt
    by_cases hlt : i < nc
    · have hic : i < T.cs.length := by rw [HNC.out]; exact hlt
      obtain ⟨bk, ok, rfl, _⟩ := rc.at hic
      have sb := HSB.out i (by omega)
      have sb2 := HSB.out (i + 1) (by omega)
      rw [HSN.out] at sb2
      have bo : ∀ (cv mv gv : Value) (W : World) (h : InS W cv mv gv (oneS T i)), Calls Try.prog 20 #[.agg #[cv, mv, gv, .int .i64 T.sf, .int .i64 T.ch]] W fun e w' => ∃ v, e = .returned (.tuple #[v, .int .i64 (bz (oneS T i)), .int .i64 (be (oneS T i))]) ∧ Below W.heap.size W w' := HBO.out i hic
      obtain ⟨zi, hzi⟩ : ∃ z, bz (oneS T i) = z := ⟨_, rfl⟩
      rw [hzi] at sb2 bo
      obtain ⟨sm, hsm⟩ : ∃ s, sumA T i = s := ⟨_, rfl⟩
      rw [hsm] at sb sb2 ⊢
      have HZI := Lib.hid (show sumA T i + bz (oneS T i) = sm + zi by rw [hsm, hzi])
      have BOI := Lib.hid bo
      have x1 : -9223372036854775808 ≤ sm + zi := by omega
      have x2 : sm + zi ≤ 9223372036854775807 := by omega
      clear bo hzi hsm sb sb2
      go_upto_region 10 with (fail)
      clear cvx0 cvx1 cvx2 cvx3 cvx4 ltvx
      have hbx := vx.lt
      have vt := Vals.newL wr wr.heap.size [.slice (some ⟨bk, ok, none⟩) nc cc, .slice adm nm cm, .slice adg ng cg, .int .i64 T.sf, .int .i64 T.ch] 26 rfl
      have bw := below_alloc wr (.cells #[.slice (some ⟨bk, ok, none⟩) nc cc, .slice adm nm cm, .slice adg ng cg, .int .i64 T.sf, .int .i64 T.ch] 26)
      have vy := vx.mono bw
      generalize wr.alloc (.cells #[.slice (some ⟨bk, ok, none⟩) nc cc, .slice adm nm cm, .slice adg ng cg, .int .i64 T.sf, .int .i64 T.ch] 26) = W4 at *
      have cvy0 := vy.cell (i := 0) (by simp)
      have cvy1 := vy.cell (i := 1) (by simp)
      have cvy2 := vy.cell (i := 2) (by simp)
      have cvy3 := vy.cell (i := 3) (by simp)
      have cvy4 := vy.cell (i := 4) (by simp)
      simp only [List.getD_cons_zero, List.getD_cons_succ] at cvy0 cvy1 cvy2 cvy3 cvy4
      have ltvy := vy.lt
      have cvt0 := vt.cell (i := 0) (by simp)
      have cvt1 := vt.cell (i := 1) (by simp)
      have cvt2 := vt.cell (i := 2) (by simp)
      have cvt3 := vt.cell (i := 3) (by simp)
      have cvt4 := vt.cell (i := 4) (by simp)
      simp only [List.getD_cons_zero, List.getD_cons_succ] at cvt0 cvt1 cvt2 cvt3 cvt4
      have ltvt := vt.lt
      have ft0 := vt.frozen 0
      have s1 : (0 : Int) ≤ (i : Int) := by omega
      have s2 : (i : Int) ≤ (i : Int) + 1 := by omega
      have s3 : (i : Int) + 1 ≤ (cc : Int) := by omega
      have s4 : ¬ cc = i := by omega
      have s5 : (i : Int) < (cc : Int) := by omega
      go_upto_region 11 with (fail)
      clear cvy0 cvy1 cvy2 cvy3 cvy4 ltvy
      clear cvt0 cvt1 cvt2 cvt3 cvt4 ltvt
      replace vt := set5_0' vt (.slice (some ⟨bk, ok + i * 4, none⟩) 1 (cc - i))
      replace bw := bw.setCell (p := ⟨wr.heap.size, 0, none⟩) (Nat.le_refl _) (.slice (some ⟨bk, ok + i * 4, none⟩) 1 (cc - i))
      clear ft0 vy s1 s2 s3 s4 s5
      generalize W4.setCell ⟨wr.heap.size, 0, none⟩ (.slice (some ⟨bk, ok + i * 4, none⟩) 1 (cc - i)) = W5 at *
      have cvt0 := vt.cell (i := 0) (by simp)
      have cvt1 := vt.cell (i := 1) (by simp)
      have cvt2 := vt.cell (i := 2) (by simp)
      have cvt3 := vt.cell (i := 3) (by simp)
      have cvt4 := vt.cell (i := 4) (by simp)
      simp only [List.getD_cons_zero, List.getD_cons_succ] at cvt0 cvt1 cvt2 cvt3 cvt4
      have ltvt := vt.lt
      go_wp2_with fail
      clear cvt0 cvt1 cvt2 cvt3 cvt4 ltvt
      have IS := Lib.hid (show InS W5 (.slice (some ⟨bk, ok + i * 4, none⟩) 1 (cc - i)) (.slice adm nm cm) (.slice adg ng cg) (oneS T i) from ⟨⟨_, cc - i, rfl, (rc.mono bw).one hic⟩, ⟨adm, cm, by rw [← HNM.out]; rfl, rm.mono bw⟩, ⟨adg, cg, by rw [← HNG.out]; rfl, rg.mono bw⟩⟩)
      refine (BOI.out _ _ _ _ IS.out).mono ?_
      rintro e wq ⟨dv, rfl, b5⟩
      replace bw := below_trans bw b5
      replace vx := vx.mono bw
      replace rc := rc.mono bw
      replace rm := rm.mono bw
      replace rg := rg.mono bw
      replace B := below_trans B bw
      clear b5 IS vt bw BOI
      rcases HEO.out i with e6 | e6
      · rw [e6]
        clear e6
        go_wp2
        go_roundw
        case rel => exact ⟨i + 1, by go_num, by omega, by rw [HSN.out, HZI.out], true, rfl, vx, rc, rm, rg, B⟩
        case measure => simp [intOf]; omega
      · rw [e6]
        clear e6
        go_wp2
        go_roundw
        case rel => exact ⟨i + 1, by go_num, by omega, by rw [HSN.out, HZI.out], b, rfl, vx, rc, rm, rg, B⟩
        case measure => simp [intOf]; omega
    · obtain rfl : nc = i := by omega
      cases b with
      | true =>
        go_wp2_with fail
        refine (lives_calls _).mono ?_
        rintro e wl ⟨rfl, b5⟩
        replace B := below_trans B b5
        go_wp2
        go_ret
        exact ⟨rfl, B⟩
      | false =>
        go_wp2_with fail
        refine (lives_calls _).mono ?_
        rintro e wl ⟨rfl, b5⟩
        replace B := below_trans B b5
        go_wp2
        go_ret
        exact ⟨rfl, B⟩

set_option maxRecDepth 100000 in
set_option maxHeartbeats 1000000 in
theorem walone_d (S : Scl) (cv mv gv : Value) (w : World) (hS : InS w cv mv gv S) (hI : SclI S) (h1 : sclOk (shortS S) = true) (h2 : dearB (shortS S) = false) (h3 : (bestV (shortS S)).1 ≠ -1) :
    Calls Try.prog 6 #[.agg #[cv, mv, gv, .int .i64 S.sf, .int .i64 S.ch]] w (RetTrue w) := by
  obtain ⟨T, hT⟩ : ∃ T, shortS S = T := ⟨_, rfl⟩
  rw [hT] at h1
  rw [hT] at h2
  rw [hT] at h3
  have TI : SclI T := by rw [← hT]; exact shortS_I hI
  have SH := fun (W : World) (hb : Below w.heap.size w W) => wshort_calls S cv mv gv W (hS.mono hb)
  rw [hT] at SH
  obtain ⟨⟨bdc, dc, rfl, rc0⟩, ⟨bdm, dm, rfl, rm0⟩, ⟨bdg, dg, rfl, rg0⟩⟩ := hS
  obtain ⟨mc, hmc⟩ : ∃ n, S.cs.length = n := ⟨_, rfl⟩
  obtain ⟨mm, hmm⟩ : ∃ n, S.ms.length = n := ⟨_, rfl⟩
  obtain ⟨mg, hmg⟩ : ∃ n, S.gs.length = n := ⟨_, rfl⟩
  rw [hmc, hmm, hmg] at SH ⊢
  have HSH := Lib.hid SH
  clear SH hT hI rc0 rm0 rg0 hmc hmm hmg
  have RCK := fun (cv mv gv : Value) (W : World) (h : InS W cv mv gv T) => rscheck_calls T cv mv gv W h TI
  rw [h1] at RCK
  have DE := fun (cv mv gv : Value) (W : World) (h : InS W cv mv gv T) => dear_calls T cv mv gv W h h1
  rw [h2] at DE
  obtain ⟨hl96, _⟩ := headOk_lens (headOk_of h1)
  have BE := fun (cv mv gv : Value) (W : World) (h : InS W cv mv gv T) => wbest_any T cv mv gv W h TI h1
  have BO := fun (i : Nat) (hi : i < T.cs.length) (cv mv gv : Value) (W : World) (h : InS W cv mv gv (oneS T i)) => wbest_any (oneS T i) cv mv gv W h (one_I TI hi) (one_ok h1 hi)
  have SB := fun i hi => sumA_bd h1 i hi
  have SN : ∀ i, sumA T (i + 1) = sumA T i + bz (oneS T i) := fun _ => rfl
  have hbT : bz T = if (bestV T).1 = -1 then 0 else (bestV T).1 := rfl
  have heT : be T = if (bestV T).1 = -1 then 6 else 0 := rfl
  rw [if_neg h3] at hbT heT
  rw [hbT, heT] at BE
  have EO : ∀ i, i < T.cs.length → be (oneS T i) = 0 := fun i hi => if_neg (one_best h1 h3 hi).1
  have SL := sumA_le h1 h3 T.cs.length (Nat.le_refl _)
  have hbc := (best_yes h1 h3).2.1
  rw [bestP_len] at hbc
  rw [hbc] at SL
  obtain ⟨z, hz⟩ : ∃ z, (bestV T).1 = z := ⟨_, rfl⟩
  rw [hz] at BE SL
  clear hz hbc
  clear hbT heT
  simp only [Bool.false_eq_true, if_true, if_false] at RCK
  have HRCK := Lib.hid RCK
  have HDE := Lib.hid DE
  have HSL := Lib.hid SL
  have HBE := Lib.hid BE
  have HBO := Lib.hid BO
  have HSB := Lib.hid SB
  have HSN := Lib.hid SN
  have HEO := Lib.hid EO
  clear RCK DE SL BE BO SB SN EO TI h1 h2 h3
  have vs := Vals.newL w (w.heap.size) [.slice bdc mc dc, .slice bdm mm dm, .slice bdg mg dg, .int .i64 S.sf, .int .i64 S.ch] 26 rfl
  have bb := below_alloc w (.cells #[.slice bdc mc dc, .slice bdm mm dm, .slice bdg mg dg, .int .i64 S.sf, .int .i64 S.ch] 26)
  have B := bb
  clear bb
  go_enter Try.func6, Try.ntmps6
  go_upto_region 1 with (fail)
  generalize (w.alloc (.cells #[.slice bdc mc dc, .slice bdm mm dm, .slice bdg mg dg, .int .i64 S.sf, .int .i64 S.ch] 26)) = w0 at *
  have cvs0 := vs.cell (i := 0) (by simp)
  have cvs1 := vs.cell (i := 1) (by simp)
  have cvs2 := vs.cell (i := 2) (by simp)
  have cvs3 := vs.cell (i := 3) (by simp)
  have cvs4 := vs.cell (i := 4) (by simp)
  simp only [List.getD_cons_zero, List.getD_cons_succ] at cvs0 cvs1 cvs2 cvs3 cvs4
  have ltvs := vs.lt
  go_wp2_with fail
  clear cvs0 cvs1 cvs2 cvs3 cvs4 ltvs
  clear vs
  refine (HSH.out _ B).mono ?_
  rintro e w1 ⟨cv, mv, gv, rfl, hs1, b1⟩
  replace B := below_trans B b1
  clear b1
  obtain ⟨⟨adc, cc, rfl, rc⟩, ⟨adm, cm, rfl, rm⟩, ⟨adg, cg, rfl, rg⟩⟩ := hs1
  obtain ⟨nc, hnc⟩ : ∃ n, T.cs.length = n := ⟨_, rfl⟩
  obtain ⟨nm, hnm⟩ : ∃ n, T.ms.length = n := ⟨_, rfl⟩
  obtain ⟨ng, hng⟩ : ∃ n, T.gs.length = n := ⟨_, rfl⟩
  rw [hnc, hnm, hng]
  have HNC := Lib.hid hnc
  have HNM := Lib.hid hnm
  have HNG := Lib.hid hng
  clear hnc hnm hng HSH
  go_upto_region 2 with (fail)
  have vx := Vals.newL w1 w1.heap.size [.slice adc nc cc, .slice adm nm cm, .slice adg ng cg, .int .i64 T.sf, .int .i64 T.ch] 26 rfl
  have bb := below_alloc w1 (.cells #[.slice adc nc cc, .slice adm nm cm, .slice adg ng cg, .int .i64 T.sf, .int .i64 T.ch] 26)
  replace rc := rc.mono bb
  replace rm := rm.mono bb
  replace rg := rg.mono bb
  replace B := below_trans B bb
  clear bb
  generalize w1.alloc (.cells #[.slice adc nc cc, .slice adm nm cm, .slice adg ng cg, .int .i64 T.sf, .int .i64 T.ch] 26) = w2 at *
  have cvx0 := vx.cell (i := 0) (by simp)
  have cvx1 := vx.cell (i := 1) (by simp)
  have cvx2 := vx.cell (i := 2) (by simp)
  have cvx3 := vx.cell (i := 3) (by simp)
  have cvx4 := vx.cell (i := 4) (by simp)
  simp only [List.getD_cons_zero, List.getD_cons_succ] at cvx0 cvx1 cvx2 cvx3 cvx4
  have ltvx := vx.lt
  go_wp2_with fail
  clear cvx0 cvx1 cvx2 cvx3 cvx4 ltvx
  refine (HRCK.out _ _ _ _ ⟨⟨adc, cc, by rw [HNC.out], rc⟩, ⟨adm, cm, by rw [HNM.out], rm⟩, ⟨adg, cg, by rw [HNG.out], rg⟩⟩).mono ?_
  rintro e w3 ⟨rfl, b3⟩
  replace rc := rc.mono b3
  replace rm := rm.mono b3
  replace rg := rg.mono b3
  replace vx := vx.mono b3
  replace B := below_trans B b3
  clear b3
  have cvx0 := vx.cell (i := 0) (by simp)
  have cvx1 := vx.cell (i := 1) (by simp)
  have cvx2 := vx.cell (i := 2) (by simp)
  have cvx3 := vx.cell (i := 3) (by simp)
  have cvx4 := vx.cell (i := 4) (by simp)
  simp only [List.getD_cons_zero, List.getD_cons_succ] at cvx0 cvx1 cvx2 cvx3 cvx4
  have ltvx := vx.lt
  go_wp2_with fail
  clear cvx0 cvx1 cvx2 cvx3 cvx4 ltvx
  refine (HDE.out _ _ _ _ ⟨⟨adc, cc, by rw [HNC.out], rc⟩, ⟨adm, cm, by rw [HNM.out], rm⟩, ⟨adg, cg, by rw [HNG.out], rg⟩⟩).mono ?_
  rintro e w4 ⟨rfl, b4⟩
  replace rc := rc.mono b4
  replace rm := rm.mono b4
  replace rg := rg.mono b4
  replace vx := vx.mono b4
  replace B := below_trans B b4
  clear b4
  have cvx0 := vx.cell (i := 0) (by simp)
  have cvx1 := vx.cell (i := 1) (by simp)
  have cvx2 := vx.cell (i := 2) (by simp)
  have cvx3 := vx.cell (i := 3) (by simp)
  have cvx4 := vx.cell (i := 4) (by simp)
  simp only [List.getD_cons_zero, List.getD_cons_succ] at cvx0 cvx1 cvx2 cvx3 cvx4
  have ltvx := vx.lt
  go_wp2_with fail
  clear cvx0 cvx1 cvx2 cvx3 cvx4 ltvx
  refine (HBE.out _ _ _ _ ⟨⟨adc, cc, by rw [HNC.out], rc⟩, ⟨adm, cm, by rw [HNM.out], rm⟩, ⟨adg, cg, by rw [HNG.out], rg⟩⟩).mono ?_
  rintro e w5 ⟨bv, rfl, b5⟩
  replace rc := rc.mono b5
  replace rm := rm.mono b5
  replace rg := rg.mono b5
  replace vx := vx.mono b5
  replace B := below_trans B b5
  clear b5
  have hl2 := hl96
  rw [HNC.out] at hl2
  clear hl96
  have LCC := rc.1
  rw [HNC.out] at LCC
  have LCM := rc.2.1
  unfold maxLen at LCM
  go_wp2_with fail
  go_loopw [9, 7, 8] (fun iv sv bv wr => ∃ i : Nat, iv = .int .i64 (i : Int) ∧ i ≤ nc ∧ sv = .int .i64 (sumA T i) ∧ bv = .bool false ∧ Vals wr (w1.heap.size) [.slice adc nc cc, .slice adm nm cm, .slice adg ng cg, .int .i64 T.sf, .int .i64 T.ch] ∧ RdC wr adc cc T.cs ∧ RdM wr adm cm T.ms ∧ RdZ wr adg cg T.gs ∧ Below w.heap.size w wr)
    (fun iv _ _ _ => nc - (intOf iv).toNat)
  case atStart => exact ⟨0, rfl, Nat.zero_le _, rfl, rfl, vx, rc, rm, rg, B⟩
  case round =>
    clear vx rc rm rg B
    obtain ⟨i, rfl, hi, rfl, rfl, vx, rc, rm, rg, B⟩ := hrel
    have cvx0 := vx.cell (i := 0) (by simp)
    have cvx1 := vx.cell (i := 1) (by simp)
    have cvx2 := vx.cell (i := 2) (by simp)
    have cvx3 := vx.cell (i := 3) (by simp)
    have cvx4 := vx.cell (i := 4) (by simp)
    simp only [List.getD_cons_zero, List.getD_cons_succ] at cvx0 cvx1 cvx2 cvx3 cvx4
    have ltvx := vx.lt
    by_cases hlt : i < nc
    · have hic : i < T.cs.length := by rw [HNC.out]; exact hlt
      obtain ⟨bk, ok, rfl, _⟩ := rc.at hic
      have sb := HSB.out i (by omega)
      have sb2 := HSB.out (i + 1) (by omega)
      rw [HSN.out] at sb2
      have bo : ∀ (cv mv gv : Value) (W : World) (h : InS W cv mv gv (oneS T i)), Calls Try.prog 20 #[.agg #[cv, mv, gv, .int .i64 T.sf, .int .i64 T.ch]] W fun e w' => ∃ v, e = .returned (.tuple #[v, .int .i64 (bz (oneS T i)), .int .i64 (be (oneS T i))]) ∧ Below W.heap.size W w' := HBO.out i hic
      obtain ⟨zi, hzi⟩ : ∃ z, bz (oneS T i) = z := ⟨_, rfl⟩
      rw [hzi] at sb2 bo
      obtain ⟨sm, hsm⟩ : ∃ s, sumA T i = s := ⟨_, rfl⟩
      rw [hsm] at sb sb2 ⊢
      have HZI := Lib.hid (show sumA T i + bz (oneS T i) = sm + zi by rw [hsm, hzi])
      have BOI := Lib.hid bo
      have x1 : -9223372036854775808 ≤ sm + zi := by omega
      have x2 : sm + zi ≤ 9223372036854775807 := by omega
      clear bo hzi hsm sb sb2
      go_upto_region 10 with (fail)
      clear cvx0 cvx1 cvx2 cvx3 cvx4 ltvx
      have hbx := vx.lt
      have vt := Vals.newL wr wr.heap.size [.slice (some ⟨bk, ok, none⟩) nc cc, .slice adm nm cm, .slice adg ng cg, .int .i64 T.sf, .int .i64 T.ch] 26 rfl
      have bw := below_alloc wr (.cells #[.slice (some ⟨bk, ok, none⟩) nc cc, .slice adm nm cm, .slice adg ng cg, .int .i64 T.sf, .int .i64 T.ch] 26)
      have vy := vx.mono bw
      generalize wr.alloc (.cells #[.slice (some ⟨bk, ok, none⟩) nc cc, .slice adm nm cm, .slice adg ng cg, .int .i64 T.sf, .int .i64 T.ch] 26) = W4 at *
      have cvy0 := vy.cell (i := 0) (by simp)
      have cvy1 := vy.cell (i := 1) (by simp)
      have cvy2 := vy.cell (i := 2) (by simp)
      have cvy3 := vy.cell (i := 3) (by simp)
      have cvy4 := vy.cell (i := 4) (by simp)
      simp only [List.getD_cons_zero, List.getD_cons_succ] at cvy0 cvy1 cvy2 cvy3 cvy4
      have ltvy := vy.lt
      have cvt0 := vt.cell (i := 0) (by simp)
      have cvt1 := vt.cell (i := 1) (by simp)
      have cvt2 := vt.cell (i := 2) (by simp)
      have cvt3 := vt.cell (i := 3) (by simp)
      have cvt4 := vt.cell (i := 4) (by simp)
      simp only [List.getD_cons_zero, List.getD_cons_succ] at cvt0 cvt1 cvt2 cvt3 cvt4
      have ltvt := vt.lt
      have ft0 := vt.frozen 0
      have s1 : (0 : Int) ≤ (i : Int) := by omega
      have s2 : (i : Int) ≤ (i : Int) + 1 := by omega
      have s3 : (i : Int) + 1 ≤ (cc : Int) := by omega
      have s4 : ¬ cc = i := by omega
      have s5 : (i : Int) < (cc : Int) := by omega
      go_upto_region 11 with (fail)
      clear cvy0 cvy1 cvy2 cvy3 cvy4 ltvy
      clear cvt0 cvt1 cvt2 cvt3 cvt4 ltvt
      replace vt := set5_0' vt (.slice (some ⟨bk, ok + i * 4, none⟩) 1 (cc - i))
      replace bw := bw.setCell (p := ⟨wr.heap.size, 0, none⟩) (Nat.le_refl _) (.slice (some ⟨bk, ok + i * 4, none⟩) 1 (cc - i))
      clear ft0 vy s1 s2 s3 s4 s5
      generalize W4.setCell ⟨wr.heap.size, 0, none⟩ (.slice (some ⟨bk, ok + i * 4, none⟩) 1 (cc - i)) = W5 at *
      have cvt0 := vt.cell (i := 0) (by simp)
      have cvt1 := vt.cell (i := 1) (by simp)
      have cvt2 := vt.cell (i := 2) (by simp)
      have cvt3 := vt.cell (i := 3) (by simp)
      have cvt4 := vt.cell (i := 4) (by simp)
      simp only [List.getD_cons_zero, List.getD_cons_succ] at cvt0 cvt1 cvt2 cvt3 cvt4
      have ltvt := vt.lt
      go_wp2_with fail
      clear cvt0 cvt1 cvt2 cvt3 cvt4 ltvt
      have IS := Lib.hid (show InS W5 (.slice (some ⟨bk, ok + i * 4, none⟩) 1 (cc - i)) (.slice adm nm cm) (.slice adg ng cg) (oneS T i) from ⟨⟨_, cc - i, rfl, (rc.mono bw).one hic⟩, ⟨adm, cm, by rw [← HNM.out]; rfl, rm.mono bw⟩, ⟨adg, cg, by rw [← HNG.out]; rfl, rg.mono bw⟩⟩)
      refine (BOI.out _ _ _ _ IS.out).mono ?_
      rintro e wq ⟨dv, rfl, b5⟩
      replace bw := below_trans bw b5
      replace vx := vx.mono bw
      replace rc := rc.mono bw
      replace rm := rm.mono bw
      replace rg := rg.mono bw
      replace B := below_trans B bw
      clear b5 IS vt bw BOI
      have e6 := HEO.out i hic
      rw [e6]
      clear e6
      go_wp2
      go_roundw
      case rel => exact ⟨i + 1, by go_num, by omega, by rw [HSN.out, HZI.out], rfl, vx, rc, rm, rg, B⟩
      case measure => simp [intOf]; omega
    · obtain rfl : nc = i := by omega
      have hsl := HSL.out
      rw [HNC.out] at hsl
      go_wp2_with fail
      refine (lives_calls _).mono ?_
      rintro e wl ⟨rfl, b5⟩
      replace B := below_trans B b5
      go_wp2
      go_ret
      exact ⟨rfl, B⟩

theorem walk_walone (S : Scl) (cv mv gv : Value) (w : World) (hS : InS w cv mv gv S) (hI : SclI S) :
    Calls Try.prog 6 #[.agg #[cv, mv, gv, .int .i64 S.sf, .int .i64 S.ch]] w (RetTrue w) := by
  cases h1 : sclOk (shortS S) with
  | false => exact walone_a S cv mv gv w hS hI h1
  | true =>
    cases h2 : dearB (shortS S) with
    | true => exact walone_b S cv mv gv w hS hI h1 h2
    | false =>
      by_cases h3 : (bestV (shortS S)).1 = -1
      · exact walone_c S cv mv gv w hS hI h1 h2 h3
      · exact walone_d S cv mv gv w hS hI h1 h2 h3

end Go.Proofs
