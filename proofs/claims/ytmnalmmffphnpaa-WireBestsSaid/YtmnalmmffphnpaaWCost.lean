/- wire.Cost: what picks cost, if they are allowed. -/
import Derived.Test.YtmnalmmffphnpaaWPull
import Derived.Deep.Cut
open Go.RowKit Go.Deep
namespace Go.Proofs
set_option linter.unusedVariables false
set_option linter.unusedSimpArgs false

def samePk (a b : Pk) : Bool := decide (a.m = b.m) && decide (a.g = b.g)
def monoAt (P : List Pk) (i : Nat) : Bool := decide (i = 0) || (decide ((P.getD (i - 1) p0).m ≤ (P.getD i p0).m) && decide ((P.getD (i - 1) p0).g ≤ (P.getD i p0).g))
def okAt (S : Scl) (P : List Pk) (i : Nat) : Bool := monoAt P i && strongB S (S.cs.getD i c0) (P.getD i p0)
def chTo (P : List Pk) : Nat → Nat
  | 0 => 0
  | n + 1 => chTo P n + (if n = 0 then 0 else if samePk (P.getD n p0) (P.getD (n - 1) p0) then 0 else 1)
theorem chTo_le (P : List Pk) : ∀ n, chTo P n ≤ n
  | 0 => Nat.le_refl _
  | n + 1 => by
    have := chTo_le P n
    simp only [chTo]
    split <;> (try split) <;> omega
def costTo (S : Scl) (P : List Pk) : Nat → Nat
  | 0 => 0
  | n + 1 => costTo S P n + priceN S (S.cs.getD n c0) (P.getD n p0)
def allowedB (S : Scl) (P : List Pk) : Bool := allTo (okAt S P) P.length && decide ((chTo P P.length : Int) ≤ S.ch)
theorem priceN_le {S : Scl} {c : Crs} {p : Pk} (hs : sclOk S = true) (hc : crsOk c = true) (hp : pkOk S p = true) : priceN S c p ≤ 4000000000000000 := by
  have tl := tightN_le hs hc hp
  obtain ⟨c1, c2, c3, c4⟩ := crs_facts hc
  unfold priceN
  have : c.w.toNat * ((tightN S c p : Int) - c.t).natAbs ≤ 1000 * 4000000000000 := Nat.mul_le_mul (by omega) (by omega)
  omega
theorem costTo_le {S : Scl} {P : List Pk} (hs : sclOk S = true) (hf : fitsB S P = true) : ∀ n, n ≤ P.length → costTo S P n ≤ 4000000000000000 * n
  | 0, _ => by simp [costTo]
  | n + 1, h => by
    obtain ⟨h1, h2⟩ := fits_parts hf
    have := costTo_le hs hf n (by omega)
    have := priceN_le hs (sclOk_c hs (i := n) (by omega)) (h2 n (by omega))
    simp only [costTo]
    omega
theorem allowed_no {S : Scl} {P : List Pk} {i : Nat} (hi : i < P.length) (h : okAt S P i = false) : allowedB S P = false := by
  unfold allowedB; rw [allTo_false hi h]; rfl
theorem RdP.at2 {w : World} {b o c L} (h : RdP w (some ⟨b, o, none⟩) c L) {i : Nat} (hi : i < L.length) {C : Pk} (hC : L.getD i p0 = C) :
    w.cell? ⟨b, o + i * 2, none⟩ = some (.int .i64 C.m) ∧ w.cell? ⟨b, o + i * 2 + 1, none⟩ = some (.int .i64 C.g) := by
  obtain ⟨b', o', e, k⟩ := h.at hi
  cases e
  rw [hC] at k
  exact k
theorem run_neq_pk (a b c d : Int) (w : World) : (binOp .neq 52 (.agg #[.int .i64 a, .int .i64 b]) (.agg #[.int .i64 c, .int .i64 d])).run Try.prog w = .ok (.bool (!(decide (a = c) && decide (b = d)))) w := by
  rw [run_neq_struct, show (10000 : Nat) = 9999 + 1 from rfl, run_equalIn_agg w 9999 52 _ _ (by kernel_rfl) (by kernel_rfl)]
  by_cases h1 : a = c
  · subst h1
    by_cases h2 : b = d
    · subst h2; go_simp
    · go_simp
  · go_simp

set_option maxRecDepth 100000 in
theorem wCost_err1 (S : Scl) (P : List Pk) (cv mv gv pv : Value) (w : World) (hS : InS w cv mv gv S) (hI : SclI S) (hP : InP w pv P) (hPI : PksI P) (hk : fitsCode S P = 1) :
    Calls Try.prog 11 #[.agg #[cv, mv, gv, .int .i64 S.sf, .int .i64 S.ch], pv] w fun e w' => e = .returned (.tuple #[.int .i64 0, .int .i64 1]) ∧ Below w.heap.size w w' := by
  have FT := fun (cv mv gv pv : Value) (w : World) (hS : InS w cv mv gv S) (hP : InP w pv P) => fits_calls S P cv mv gv pv w hS hI hP hPI
  rw [hk] at FT
  have HFT := Lib.hid FT
  clear FT hI hPI hk
  obtain ⟨⟨adc, cc, rfl, rc⟩, ⟨adm, cm, rfl, rm⟩, ⟨adg, cg, rfl, rg⟩⟩ := hS
  obtain ⟨adp, cp, rfl, rp⟩ := hP
  have LP := rp.1
  have LP2 := rp.2.1
  unfold maxLen at LP2
  obtain ⟨nc, hnc⟩ : ∃ n, S.cs.length = n := ⟨_, rfl⟩
  obtain ⟨nm, hnm⟩ : ∃ n, S.ms.length = n := ⟨_, rfl⟩
  obtain ⟨ng, hng⟩ : ∃ n, S.gs.length = n := ⟨_, rfl⟩
  obtain ⟨np, hnp⟩ : ∃ n, P.length = n := ⟨_, rfl⟩
  rw [hnc, hnm, hng, hnp]
  rw [hnp] at LP
  have HNC := Lib.hid hnc
  have HNM := Lib.hid hnm
  have HNG := Lib.hid hng
  have HNP := Lib.hid hnp
  clear hnc hnm hng hnp
  have vs := Vals.newL w (w.heap.size) [.slice adc nc cc, .slice adm nm cm, .slice adg ng cg, .int .i64 S.sf, .int .i64 S.ch] 26 rfl
  have bb := below_alloc w (.cells #[.slice adc nc cc, .slice adm nm cm, .slice adg ng cg, .int .i64 S.sf, .int .i64 S.ch] 26)
  have B := bb
  have bb0 := B
  clear bb
  go_enter Try.func11, Try.ntmps11
  go_upto_region 1 with (fail)
  generalize (w.alloc (.cells #[.slice adc nc cc, .slice adm nm cm, .slice adg ng cg, .int .i64 S.sf, .int .i64 S.ch] 26)) = w0 at *
  replace rc := rc.mono bb0
  replace rm := rm.mono bb0
  replace rg := rg.mono bb0
  replace rp := rp.mono bb0
  clear bb0
  have cvs0 := vs.cell (i := 0) (by simp)
  have cvs1 := vs.cell (i := 1) (by simp)
  have cvs2 := vs.cell (i := 2) (by simp)
  have cvs3 := vs.cell (i := 3) (by simp)
  have cvs4 := vs.cell (i := 4) (by simp)
  simp only [List.getD_cons_zero, List.getD_cons_succ] at cvs0 cvs1 cvs2 cvs3 cvs4
  have ltvs := vs.lt
  go_wp2_with fail
  clear cvs0 cvs1 cvs2 cvs3 cvs4 ltvs
  refine (HFT.out _ _ _ _ _ ⟨⟨adc, cc, by rw [HNC.out], rc⟩, ⟨adm, cm, by rw [HNM.out], rm⟩, ⟨adg, cg, by rw [HNG.out], rg⟩⟩ ⟨adp, cp, by rw [HNP.out], rp⟩).mono ?_
  rintro e w1 ⟨rfl, bb⟩
  replace vs := vs.mono bb
  replace rc := rc.mono bb
  replace rm := rm.mono bb
  replace rg := rg.mono bb
  replace rp := rp.mono bb
  replace B := below_trans B bb
  clear bb HFT
  go_wp2
  go_ret2
  exact ⟨rfl, B⟩

set_option maxRecDepth 100000 in
theorem wCost_err2 (S : Scl) (P : List Pk) (cv mv gv pv : Value) (w : World) (hS : InS w cv mv gv S) (hI : SclI S) (hP : InP w pv P) (hPI : PksI P) (hk : fitsCode S P = 2) :
    Calls Try.prog 11 #[.agg #[cv, mv, gv, .int .i64 S.sf, .int .i64 S.ch], pv] w fun e w' => e = .returned (.tuple #[.int .i64 0, .int .i64 2]) ∧ Below w.heap.size w w' := by
  have FT := fun (cv mv gv pv : Value) (w : World) (hS : InS w cv mv gv S) (hP : InP w pv P) => fits_calls S P cv mv gv pv w hS hI hP hPI
  rw [hk] at FT
  have HFT := Lib.hid FT
  clear FT hI hPI hk
  obtain ⟨⟨adc, cc, rfl, rc⟩, ⟨adm, cm, rfl, rm⟩, ⟨adg, cg, rfl, rg⟩⟩ := hS
  obtain ⟨adp, cp, rfl, rp⟩ := hP
  have LP := rp.1
  have LP2 := rp.2.1
  unfold maxLen at LP2
  obtain ⟨nc, hnc⟩ : ∃ n, S.cs.length = n := ⟨_, rfl⟩
  obtain ⟨nm, hnm⟩ : ∃ n, S.ms.length = n := ⟨_, rfl⟩
  obtain ⟨ng, hng⟩ : ∃ n, S.gs.length = n := ⟨_, rfl⟩
  obtain ⟨np, hnp⟩ : ∃ n, P.length = n := ⟨_, rfl⟩
  rw [hnc, hnm, hng, hnp]
  rw [hnp] at LP
  have HNC := Lib.hid hnc
  have HNM := Lib.hid hnm
  have HNG := Lib.hid hng
  have HNP := Lib.hid hnp
  clear hnc hnm hng hnp
  have vs := Vals.newL w (w.heap.size) [.slice adc nc cc, .slice adm nm cm, .slice adg ng cg, .int .i64 S.sf, .int .i64 S.ch] 26 rfl
  have bb := below_alloc w (.cells #[.slice adc nc cc, .slice adm nm cm, .slice adg ng cg, .int .i64 S.sf, .int .i64 S.ch] 26)
  have B := bb
  have bb0 := B
  clear bb
  go_enter Try.func11, Try.ntmps11
  go_upto_region 1 with (fail)
  generalize (w.alloc (.cells #[.slice adc nc cc, .slice adm nm cm, .slice adg ng cg, .int .i64 S.sf, .int .i64 S.ch] 26)) = w0 at *
  replace rc := rc.mono bb0
  replace rm := rm.mono bb0
  replace rg := rg.mono bb0
  replace rp := rp.mono bb0
  clear bb0
  have cvs0 := vs.cell (i := 0) (by simp)
  have cvs1 := vs.cell (i := 1) (by simp)
  have cvs2 := vs.cell (i := 2) (by simp)
  have cvs3 := vs.cell (i := 3) (by simp)
  have cvs4 := vs.cell (i := 4) (by simp)
  simp only [List.getD_cons_zero, List.getD_cons_succ] at cvs0 cvs1 cvs2 cvs3 cvs4
  have ltvs := vs.lt
  go_wp2_with fail
  clear cvs0 cvs1 cvs2 cvs3 cvs4 ltvs
  refine (HFT.out _ _ _ _ _ ⟨⟨adc, cc, by rw [HNC.out], rc⟩, ⟨adm, cm, by rw [HNM.out], rm⟩, ⟨adg, cg, by rw [HNG.out], rg⟩⟩ ⟨adp, cp, by rw [HNP.out], rp⟩).mono ?_
  rintro e w1 ⟨rfl, bb⟩
  replace vs := vs.mono bb
  replace rc := rc.mono bb
  replace rm := rm.mono bb
  replace rg := rg.mono bb
  replace rp := rp.mono bb
  replace B := below_trans B bb
  clear bb HFT
  go_wp2
  go_ret2
  exact ⟨rfl, B⟩

set_option maxRecDepth 100000 in
set_option maxHeartbeats 1000000 in
theorem wCost_ok (S : Scl) (P : List Pk) (cv mv gv pv : Value) (w : World) (hS : InS w cv mv gv S) (hI : SclI S) (hP : InP w pv P) (hPI : PksI P) (hs : sclOk S = true) (hf : fitsB S P = true) :
    Calls Try.prog 11 #[.agg #[cv, mv, gv, .int .i64 S.sf, .int .i64 S.ch], pv] w fun e w' => e = .returned (.tuple #[.int .i64 (if allowedB S P then ((costTo S P P.length : Nat) : Int) else 0), .int .i64 (if allowedB S P then 0 else 6)]) ∧ Below w.heap.size w w' := by
  have FT := fun (cv mv gv pv : Value) (w : World) (hS : InS w cv mv gv S) (hP : InP w pv P) => fits_calls S P cv mv gv pv w hS hI hP hPI
  have hk : fitsCode S P = 0 := by unfold fitsCode; rw [hs, hf]; rfl
  rw [hk] at FT
  have HFT := Lib.hid FT
  obtain ⟨fl, fp⟩ := fits_parts hf
  have PL := fun n h => costTo_le (n := n) hs hf h
  obtain ⟨hl96, _, _, _, hch⟩ := headOk_lens (headOk_of hs)
  obtain ⟨R1, hR1⟩ : ∃ r : Int, (if allowedB S P then ((costTo S P P.length : Nat) : Int) else 0) = r := ⟨_, rfl⟩
  obtain ⟨R2, hR2⟩ : ∃ r : Int, (if allowedB S P then (0 : Int) else 6) = r := ⟨_, rfl⟩
  rw [hR1, hR2]
  have HR1 := Lib.hid hR1
  have HR2 := Lib.hid hR2
  clear FT hk hR1 hR2
  obtain ⟨⟨adc, cc, rfl, rc⟩, ⟨adm, cm, rfl, rm⟩, ⟨adg, cg, rfl, rg⟩⟩ := hS
  obtain ⟨adp, cp, rfl, rp⟩ := hP
  have LP := rp.1
  have LP2 := rp.2.1
  unfold maxLen at LP2
  obtain ⟨nc, hnc⟩ : ∃ n, S.cs.length = n := ⟨_, rfl⟩
  obtain ⟨nm, hnm⟩ : ∃ n, S.ms.length = n := ⟨_, rfl⟩
  obtain ⟨ng, hng⟩ : ∃ n, S.gs.length = n := ⟨_, rfl⟩
  obtain ⟨np, hnp⟩ : ∃ n, P.length = n := ⟨_, rfl⟩
  rw [hnc, hnm, hng, hnp]
  rw [hnp] at LP
  have HNC := Lib.hid hnc
  have HNM := Lib.hid hnm
  have HNG := Lib.hid hng
  have HNP := Lib.hid hnp
  rw [hnp] at fl
  rw [hnc] at fl hl96
  have HPL := Lib.hid PL
  have HFP := Lib.hid fp
  have HOKS := Lib.hid hs
  have HPI := Lib.hid hPI
  clear hnc hnm hng hnp PL fp hs hf hI hPI
  subst fl
  have vs := Vals.newL w (w.heap.size) [.slice adc np cc, .slice adm nm cm, .slice adg ng cg, .int .i64 S.sf, .int .i64 S.ch] 26 rfl
  have bb := below_alloc w (.cells #[.slice adc np cc, .slice adm nm cm, .slice adg ng cg, .int .i64 S.sf, .int .i64 S.ch] 26)
  have B := bb
  have bb0 := B
  clear bb
  go_enter Try.func11, Try.ntmps11
  go_upto_region 1 with (fail)
  generalize (w.alloc (.cells #[.slice adc np cc, .slice adm nm cm, .slice adg ng cg, .int .i64 S.sf, .int .i64 S.ch] 26)) = w0 at *
  replace rc := rc.mono bb0
  replace rm := rm.mono bb0
  replace rg := rg.mono bb0
  replace rp := rp.mono bb0
  clear bb0
  have cvs0 := vs.cell (i := 0) (by simp)
  have cvs1 := vs.cell (i := 1) (by simp)
  have cvs2 := vs.cell (i := 2) (by simp)
  have cvs3 := vs.cell (i := 3) (by simp)
  have cvs4 := vs.cell (i := 4) (by simp)
  simp only [List.getD_cons_zero, List.getD_cons_succ] at cvs0 cvs1 cvs2 cvs3 cvs4
  have ltvs := vs.lt
  go_wp2_with fail
  clear cvs0 cvs1 cvs2 cvs3 cvs4 ltvs
  refine (HFT.out _ _ _ _ _ ⟨⟨adc, cc, by rw [HNC.out], rc⟩, ⟨adm, cm, by rw [HNM.out], rm⟩, ⟨adg, cg, by rw [HNG.out], rg⟩⟩ ⟨adp, cp, by rw [HNP.out], rp⟩).mono ?_
  rintro e w1 ⟨rfl, bb⟩
  replace vs := vs.mono bb
  replace rc := rc.mono bb
  replace rm := rm.mono bb
  replace rg := rg.mono bb
  replace rp := rp.mono bb
  replace B := below_trans B bb
  clear bb HFT
  go_wp2
  go_loopw [20, 7, 8] (fun iv sv hv wr => ∃ i : Nat, iv = .int .i64 (i : Int) ∧ i ≤ np ∧ sv = .int .i64 ((costTo S P i : Nat) : Int) ∧ hv = .int .i64 ((chTo P i : Nat) : Int) ∧ (∀ j, j < i → okAt S P j = true) ∧ Below w.heap.size w wr ∧ Vals wr w.heap.size [.slice adc np cc, .slice adm nm cm, .slice adg ng cg, .int .i64 S.sf, .int .i64 S.ch] ∧ RdC wr adc cc S.cs ∧ RdM wr adm cm S.ms ∧ RdZ wr adg cg S.gs ∧ RdP wr adp cp P)
    (fun iv _ _ _ => np - (intOf iv).toNat)
  case atStart => exact ⟨0, rfl, Nat.zero_le _, rfl, rfl, fun j hj => by omega, B, vs, rc, rm, rg, rp⟩
  case round =>
    clear B vs rc rm rg rp
    obtain ⟨i, rfl, hi, rfl, rfl, hall, B, vs, rc, rm, rg, rp⟩ := hrel
    by_cases hlt : i < np
    · have hil : i < P.length := by rw [HNP.out]; exact hlt
      have hic : i < S.cs.length := by rw [HNC.out]; exact hlt
      obtain ⟨bz, oz, rfl, ca, cb⟩ := rp.at hil
      obtain ⟨M, hM⟩ : ∃ M, P.getD i p0 = M := ⟨_, rfl⟩
      rw [hM] at ca cb
      obtain ⟨L, hL⟩ : ∃ M, P.getD (i - 1) p0 = M := ⟨_, rfl⟩
      have HMM := Lib.hid hM
      have HLL := Lib.hid hL
      have HALL := Lib.hid hall
      have chl := chTo_le P i
      have e2 : chTo P (i + 1) = chTo P i + (if i = 0 then 0 else if samePk M L then 0 else 1) := by rw [← hM, ← hL]; rfl
      obtain ⟨ch, hch2⟩ : ∃ s, chTo P i = s := ⟨_, rfl⟩
      rw [hch2] at e2 chl ⊢
      have HE2 := Lib.hid e2
      clear hM hL hall hch2 e2
      go_upto_if 26 with (fail)
      have vb := Vals.newL wr wr.heap.size [.int .i64 M.m, .int .i64 M.g] 52 rfl
      have bb := below_alloc wr (.cells #[.int .i64 M.m, .int .i64 M.g] 52)
      replace vs := vs.mono bb
      replace rc := rc.mono bb
      replace rm := rm.mono bb
      replace rg := rg.mono bb
      replace rp := rp.mono bb
      replace B := below_trans B bb
      clear ca cb bb
      generalize wr.alloc (.cells #[.int .i64 M.m, .int .i64 M.g] 52) = W0 at *
      generalize wr.heap.size = bx at *
      go_cut [8, 11] from 26 to 48 (fun x _ wx => x = .int .i64 ((chTo P (i + 1) : Nat) : Int) ∧ monoAt P i = true ∧ Below W0.heap.size W0 wx)
      case first =>
        by_cases h0 : i = 0
        · have hi0 : ¬ 0 < i := by omega
          have HE3 := Lib.hid (show chTo P (i + 1) = ch by rw [HE2.out, if_pos h0]; rfl)
          have HM0 := Lib.hid (show monoAt P i = true by unfold monoAt; rw [decide_eq_true h0]; rfl)
          clear h0
          go_wp2
          go_meet
          exact ⟨by rw [HE3.out], HM0.out, Below.refl _ _⟩
        have hi0 : 0 < i := by omega
        have hil1 : i - 1 < P.length := by rw [HNP.out]; omega
        obtain ⟨j, hj⟩ : ∃ j, i - 1 = j := ⟨_, rfl⟩
        obtain ⟨ca, cb⟩ := rp.at2 hil1 HLL.out
        rw [hj] at ca cb
        have kj : IntKind.i64.wrap ((i : Int) - 1) = (j : Int) := by rw [IntWalk.i64_in _ (by omega)]; omega
        have kj2 : wrap64 ((i : Int) - 1) = (j : Int) := by rw [IntWalk.wrap64_in _ ⟨by omega, by omega⟩]; omega
        have kc : IntKind.i64.wrap ((ch : Int) + 1) = ((ch + 1 : Nat) : Int) := by rw [IntWalk.i64_in _ (by omega)]; omega
        have j1 : (0 : Int) ≤ (j : Int) := by omega
        have j2 : (j : Int) < (np : Int) := by omega
        have e2 := HE2.out
        rw [if_neg h0] at e2
        have HE3 := Lib.hid e2
        have mo : monoAt P i = (decide (L.m ≤ M.m) && decide (L.g ≤ M.g)) := by unfold monoAt; rw [decide_eq_false h0, HMM.out, HLL.out, Bool.false_or]
        have HMO := Lib.hid mo
        clear e2 mo h0 HE2
        have cp0 := vb.cell (i := 0) (by simp)
        have cp1 := vb.cell (i := 1) (by simp)
        simp only [List.getD_cons_zero, List.getD_cons_succ] at cp0 cp1
        have ltb := vb.lt
        go_upto_region 10 with (fail)
        have vl := Vals.newL W0 W0.heap.size [.int .i64 L.m, .int .i64 L.g] 52 rfl
        have bl := below_alloc W0 (.cells #[.int .i64 L.m, .int .i64 L.g] 52)
        replace vb := vb.mono bl
        replace B := below_trans B bl
        clear ca cb cp0 cp1 ltb kj kj2
        generalize hW1 : W0.alloc (.cells #[.int .i64 L.m, .int .i64 L.g] 52) = W1 at *
        generalize hby : W0.heap.size = bY at *
        clear hW1
        have cp0 := vb.cell (i := 0) (by simp)
        have cp1 := vb.cell (i := 1) (by simp)
        have cl0 := vl.cell (i := 0) (by simp)
        have cl1 := vl.cell (i := 1) (by simp)
        simp only [List.getD_cons_zero, List.getD_cons_succ] at cp0 cp1 cl0 cl1
        have ltb := vb.lt
        have ltl := vl.lt
        by_cases c1 : M.m < L.m
        · have HNO := Lib.hid (show allowedB S P = false from allowed_no hil (by unfold okAt; rw [HMO.out, decide_eq_false (show ¬ L.m ≤ M.m by omega)]; rfl))
          go_wp2
          go_ret2
          exact ⟨by rw [← HR1.out, ← HR2.out, HNO.out]; rfl, B⟩
        by_cases c2 : M.g < L.g
        · have HNO := Lib.hid (show allowedB S P = false from allowed_no hil (by unfold okAt; rw [HMO.out, decide_eq_false (show ¬ L.g ≤ M.g by omega), Bool.and_false]; rfl))
          go_wp2
          go_ret2
          exact ⟨by rw [← HR1.out, ← HR2.out, HNO.out]; rfl, B⟩
        have HMO1 := Lib.hid (show monoAt P i = true by rw [HMO.out, decide_eq_true (show L.m ≤ M.m by omega), decide_eq_true (show L.g ≤ M.g by omega)]; rfl)
        go_upto_region 12 with (fail)
        by_cases c3 : samePk M L = true
        · have HE4 := Lib.hid (show chTo P (i + 1) = ch by rw [HE3.out, if_pos c3]; rfl)
          have rn := run_neq_pk M.m M.g L.m L.g
          have hn : (!(decide (M.m = L.m) && decide (M.g = L.g))) = false := by unfold samePk at c3; rw [c3]; rfl
          simp only [hn] at rn
          clear hn c3 HE3
          go_wp2

          (try simp only [rn]); (try go_wp2)
          go_meet
          exact ⟨by rw [HE4.out], HMO1.out, bl⟩
        · have c3 := Bool.eq_false_iff.2 c3
          have HE4 := Lib.hid (show chTo P (i + 1) = ch + 1 by rw [HE3.out, c3]; rfl)
          have rn := run_neq_pk M.m M.g L.m L.g
          have hn : (!(decide (M.m = L.m) && decide (M.g = L.g))) = true := by unfold samePk at c3; rw [c3]; rfl
          simp only [hn] at rn
          clear hn c3 HE3
          go_wp2
          (try simp only [rn]); (try go_wp2)
          go_meet
          exact ⟨by rw [HE4.out, Int.natCast_add]; rfl, HMO1.out, bl⟩
      case rest =>
        obtain ⟨rfl, hmono, bc⟩ := hcut
        have HMO := Lib.hid hmono
        clear hmono HE2 chl
        replace vs := vs.mono bc
        replace vb := vb.mono bc
        replace rc := rc.mono bc
        replace rm := rm.mono bc
        replace rg := rg.mono bc
        replace rp := rp.mono bc
        replace B := below_trans B bc
        clear bc
        obtain ⟨C, hC⟩ : ∃ C, S.cs.getD i c0 = C := ⟨_, rfl⟩
        obtain ⟨bk, ok, rfl, _⟩ := rc.at hic
        have hpm := HFP.out i hil
        rw [HMM.out] at hpm
        have hcc := sclOk_c HOKS.out hic
        rw [hC] at hcc
        have SI := fun (cv mv gv : Value) (w : World) (h : InS w cv mv gv S) => strong_calls S C M cv mv gv w h HOKS.out hpm hcc
        have PI := fun (cv mv gv : Value) (w : World) (h : InS w cv mv gv S) => price_calls S C M cv mv gv w h HOKS.out hpm hcc
        have e1 : costTo S P (i + 1) = costTo S P i + priceN S C M := by rw [← hC, ← HMM.out]; rfl
        have l1 := HPL.out (i + 1) (by omega)
        rw [e1] at l1
        have ok1 : okAt S P i = strongB S C M := by unfold okAt; rw [HMO.out, hC, HMM.out, Bool.true_and]
        obtain ⟨t, ht⟩ : ∃ t, priceN S C M = t := ⟨_, rfl⟩
        rw [ht] at PI e1 l1
        obtain ⟨sb, hsb⟩ : ∃ t, strongB S C M = t := ⟨_, rfl⟩
        rw [hsb] at SI ok1
        obtain ⟨sm, hsm⟩ : ∃ s, costTo S P i = s := ⟨_, rfl⟩
        rw [hsm] at e1 l1 ⊢
        have kw : IntKind.i64.wrap ((sm : Int) + (t : Int)) = ((sm + t : Nat) : Int) := by rw [← Int.natCast_add]; exact IntWalk.i64_in _ (by omega)
        have HE1 := Lib.hid e1
        have HSI := Lib.hid SI
        have HPI2 := Lib.hid PI
        have HOK1 := Lib.hid ok1
        have HCC := Lib.hid hC
        clear SI PI e1 hsm ht hsb hpm hcc hC l1 ok1
        have j1 : (0 : Int) ≤ (i : Int) := by omega
        have j2 : (i : Int) < (np : Int) := by omega
        go_upto_region 14 with (fail)
        have hs3 : InS wc.drew (.slice (some ⟨bk, ok, none⟩) np cc) (.slice adm nm cm) (.slice adg ng cg) S := ⟨⟨_, cc, by rw [HNC.out], rc.drew⟩, ⟨adm, cm, by rw [HNM.out], rm.drew⟩, ⟨adg, cg, by rw [HNG.out], rg.drew⟩⟩
        go_region_held3 (fun w' => w'.cell? ⟨w.heap.size, 0, none⟩ = some (.slice (some ⟨bk, ok, none⟩) np cc) ∧ w'.cell? ⟨w.heap.size, 1, none⟩ = some (.slice adm nm cm) ∧ w'.cell? ⟨w.heap.size, 2, none⟩ = some (.slice adg ng cg) ∧ w'.cell? ⟨w.heap.size, 3, none⟩ = some (.int .i64 S.sf) ∧ w'.cell? ⟨w.heap.size, 4, none⟩ = some (.int .i64 S.ch) ∧ w'.cell? ⟨bk, ok + i * 4, none⟩ = some (.int .i64 C.l) ∧ w'.cell? ⟨bk, ok + i * 4 + 1, none⟩ = some (.int .i64 C.f) ∧ w'.cell? ⟨bk, ok + i * 4 + 2, none⟩ = some (.int .i64 C.t) ∧ w'.cell? ⟨bk, ok + i * 4 + 3, none⟩ = some (.int .i64 C.w) ∧ w'.cell? ⟨bx, 0, none⟩ = some (.int .i64 M.m) ∧ w'.cell? ⟨bx, 1, none⟩ = some (.int .i64 M.g))
          (first | exact ucells vs (rc.at2 hic HCC.out) vb | exact ucells vs.drew (rc.drew.at2 hic HCC.out) vb.drew)
          (first | (go_at_call 35; (with_reducible refine (HSI.out _ _ _ _ hs3).mono ?_); rintro e z1 ⟨rfl, b5⟩; replace vs := vs.drew.mono b5; replace vb := vb.drew.mono b5; replace rc := rc.drew.mono b5; replace rm := rm.drew.mono b5; replace rg := rg.drew.mono b5; replace rp := rp.drew.mono b5; replace B := below_trans B.drew b5; clear b5))
        clear hs3
        cases sb with
        | false =>
          have HNO := Lib.hid (show allowedB S P = false from allowed_no hil HOK1.out)
          go_wp2
          go_ret2
          exact ⟨by rw [← HR1.out, ← HR2.out, HNO.out]; rfl, B⟩
        | true =>
          have HAL2 := Lib.hid (show ∀ j, j < i + 1 → okAt S P j = true from fun j hj => (Nat.lt_or_ge j i).elim (HALL.out j) (fun h => by rw [show j = i by omega]; exact HOK1.out))
          go_upto_region 16 with (fail)
          have hs3 : InS z1.drew (.slice (some ⟨bk, ok, none⟩) np cc) (.slice adm nm cm) (.slice adg ng cg) S := ⟨⟨_, cc, by rw [HNC.out], rc.drew⟩, ⟨adm, cm, by rw [HNM.out], rm.drew⟩, ⟨adg, cg, by rw [HNG.out], rg.drew⟩⟩
          go_region_held3 (fun w' => w'.cell? ⟨w.heap.size, 0, none⟩ = some (.slice (some ⟨bk, ok, none⟩) np cc) ∧ w'.cell? ⟨w.heap.size, 1, none⟩ = some (.slice adm nm cm) ∧ w'.cell? ⟨w.heap.size, 2, none⟩ = some (.slice adg ng cg) ∧ w'.cell? ⟨w.heap.size, 3, none⟩ = some (.int .i64 S.sf) ∧ w'.cell? ⟨w.heap.size, 4, none⟩ = some (.int .i64 S.ch) ∧ w'.cell? ⟨bk, ok + i * 4, none⟩ = some (.int .i64 C.l) ∧ w'.cell? ⟨bk, ok + i * 4 + 1, none⟩ = some (.int .i64 C.f) ∧ w'.cell? ⟨bk, ok + i * 4 + 2, none⟩ = some (.int .i64 C.t) ∧ w'.cell? ⟨bk, ok + i * 4 + 3, none⟩ = some (.int .i64 C.w) ∧ w'.cell? ⟨bx, 0, none⟩ = some (.int .i64 M.m) ∧ w'.cell? ⟨bx, 1, none⟩ = some (.int .i64 M.g))
            (first | exact ucells vs (rc.at2 hic HCC.out) vb | exact ucells vs.drew (rc.drew.at2 hic HCC.out) vb.drew)
            (first | (go_at_call 36; (with_reducible refine (HPI2.out _ _ _ _ hs3).mono ?_); rintro e z2 ⟨rfl, b5⟩; replace vs := vs.drew.mono b5; replace vb := vb.drew.mono b5; replace rc := rc.drew.mono b5; replace rm := rm.drew.mono b5; replace rg := rg.drew.mono b5; replace rp := rp.drew.mono b5; replace B := below_trans B.drew b5; clear b5))
          go_wp2
          go_roundw
          case rel => exact ⟨i + 1, by go_num, by omega, by rw [HE1.out, Int.natCast_add], rfl, HAL2.out, B, vs, rc, rm, rg, rp⟩
          case measure => simp [intOf]; omega
    · obtain rfl : i = np := by omega
      have al : allTo (okAt S P) P.length = true := allTo_iff.2 (by rw [HNP.out]; exact hall)
      have cv4 := vs.cell (i := 4) (by simp)
      simp only [List.getD_cons_zero, List.getD_cons_succ] at cv4
      have ltv := vs.lt
      by_cases hgt : ((chTo P i : Nat) : Int) > S.ch
      · have no : allowedB S P = false := by unfold allowedB; rw [al, Bool.true_and, HNP.out]; exact decide_eq_false (by omega)
        have HNO := Lib.hid no
        clear no al hall
        go_wp2
        go_ret2
        exact ⟨by rw [← HR1.out, ← HR2.out, HNO.out]; rfl, B⟩
      · have no : allowedB S P = true := by unfold allowedB; rw [al, Bool.true_and, HNP.out]; exact decide_eq_true (by omega)
        have HNO := Lib.hid no
        clear no al hall
        go_wp2
        go_ret2
        exact ⟨by rw [← HR1.out, ← HR2.out, HNO.out, HNP.out]; rfl, B⟩

end Go.Proofs
