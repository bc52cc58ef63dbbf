/- wire.fits: which picks fit a scaling. -/
import Derived.Test.YtmnalmmffphnpaaDoorWRChk
open Go.RowKit Go.Deep
namespace Go.Proofs
set_option linter.unusedVariables false
set_option linter.unusedSimpArgs false

def pkOk (S : Scl) (p : Pk) : Bool := decide (0 ≤ p.m ∧ p.m < S.ms.length) && decide (0 ≤ p.g ∧ p.g < S.gs.length)
def fitsB (S : Scl) (P : List Pk) : Bool := allTo (fun i => pkOk S (P.getD i p0)) P.length && decide (P.length = S.cs.length)
def fitsCode (S : Scl) (P : List Pk) : Int := if sclOk S then (if fitsB S P then 0 else 2) else 1
def PksI (P : List Pk) : Prop := ∀ p ∈ P, zI p.m ∧ zI p.g
theorem pk_mem {P : List Pk} {i : Nat} (hi : i < P.length) : P.getD i p0 ∈ P := by
  have e : P.getD i p0 = P[i] := by simp [List.getD, List.getElem?_eq_getElem hi]
  rw [e]
  exact List.getElem_mem hi
theorem inR_len {z : Int} {n : Nat} (hz : zI z) (hn : n ≤ 1000000000000) : inR (wrap64 (z + 1)) (n : Int) = decide (0 ≤ z ∧ z < n) := by
  by_cases h : n = 0
  · subst h
    have e1 : inR (wrap64 (z + 1)) ((0 : Nat) : Int) = false := by unfold inR; rw [decide_eq_false_iff_not]; omega
    rw [e1]
    symm
    rw [decide_eq_false_iff_not]
    omega
  · have := inR_wrap (z := z) (m := (n : Int) - 1) hz (by omega) (by omega)
    rw [show (n : Int) - 1 + 1 = n by omega] at this
    rw [this]
    congr 1
    apply propext
    omega
theorem headOk_of {S : Scl} (h : sclOk S = true) : headOk S = true := by
  unfold sclOk at h
  simp only [Bool.and_eq_true] at h
  exact h.1.1.1
theorem headOk_lens {S : Scl} (h : headOk S = true) : (1 ≤ S.cs.length ∧ S.cs.length ≤ 96) ∧ (1 ≤ S.ms.length ∧ S.ms.length ≤ 4) ∧ (1 ≤ S.gs.length ∧ S.gs.length ≤ 16) ∧ (1 ≤ S.sf ∧ S.sf ≤ 100) ∧ (0 ≤ S.ch ∧ S.ch ≤ 96) := by
  unfold headOk inR at h
  simp only [Bool.and_eq_true, decide_eq_true_eq] at h
  omega
theorem fits_no {S : Scl} {P : List Pk} {i : Nat} (hi : i < P.length) (h : pkOk S (P.getD i p0) = false) : fitsB S P = false := by
  unfold fitsB; rw [allTo_false (p := fun q => pkOk S (P.getD q p0)) hi h]; rfl

set_option maxRecDepth 100000 in
set_option maxHeartbeats 1000000 in
theorem fits_no' (S : Scl) (P : List Pk) (cv mv gv pv : Value) (w : World) (hS : InS w cv mv gv S) (hI : SclI S) (hP : InP w pv P) (hPI : PksI P) (hok : sclOk S = false) :
    Calls Tryd.prog 16 #[.agg #[cv, mv, gv, .int .i64 S.sf, .int .i64 S.ch], pv] w fun e w' => e = .returned (.int .i64 (fitsCode S P)) ∧ Below w.heap.size w w' := by
  have HK := Lib.hid hok
  obtain ⟨R, hR⟩ : ∃ R, fitsCode S P = R := ⟨_, rfl⟩
  have C := fun (cv mv gv : Value) (w : World) (h : InS w cv mv gv S) => scheck_calls S cv mv gv w h hI
  rw [hok] at C
  unfold fitsCode at hR
  rw [hok] at hR
  have HRR := Lib.hid hR
  have HC := Lib.hid C
  clear hR C hI hok
  rw [show fitsCode S P = R from by have := HRR.out; unfold fitsCode; rw [HK.out]; exact this]
  obtain ⟨⟨adc, cc, rfl, rc⟩, ⟨adm, cm, rfl, rm⟩, ⟨adg, cg, rfl, rg⟩⟩ := hS
  obtain ⟨adp, cp, rfl, rp⟩ := hP
  have LC := rc.1
  have LM := rm.1
  have LG := rg.1
  have LP := rp.1
  have LC2 := rc.2.1
  have LM2 := rm.2.1
  have LG2 := rg.2.1
  have LP2 := rp.2.1
  unfold maxLen at LC2 LM2 LG2 LP2
  obtain ⟨nc, hnc⟩ : ∃ n, S.cs.length = n := ⟨_, rfl⟩
  obtain ⟨nm, hnm⟩ : ∃ n, S.ms.length = n := ⟨_, rfl⟩
  obtain ⟨ng, hng⟩ : ∃ n, S.gs.length = n := ⟨_, rfl⟩
  obtain ⟨np, hnp⟩ : ∃ n, P.length = n := ⟨_, rfl⟩
  rw [hnc] at LC ⊢
  rw [hnm] at LM ⊢
  rw [hng] at LG ⊢
  rw [hnp] at LP ⊢
  have HNC := Lib.hid hnc
  have HNM := Lib.hid hnm
  have HNG := Lib.hid hng
  have HNP := Lib.hid hnp
  have HPI := Lib.hid hPI
  clear hnc hnm hng hnp hPI
  have vs := Vals.newL w (w.heap.size) [.slice adc nc cc, .slice adm nm cm, .slice adg ng cg, .int .i64 S.sf, .int .i64 S.ch] 26 rfl
  have bb := below_alloc w (.cells #[.slice adc nc cc, .slice adm nm cm, .slice adg ng cg, .int .i64 S.sf, .int .i64 S.ch] 26)
  have B := bb
  have bb0 := B
  clear bb
  go_enter Tryd.func16, Tryd.ntmps16
  go_upto_region 1 with (fail)
  generalize (w.alloc (.cells #[.slice adc nc cc, .slice adm nm cm, .slice adg ng cg, .int .i64 S.sf, .int .i64 S.ch] 26)) = w0 at *
  replace rc := rc.mono bb0
  replace rm := rm.mono bb0
  replace rg := rg.mono bb0
  replace rp := rp.mono bb0
  clear bb0
  have cvs0 := vs.cell (i := 0) (by simp)
  have cvs1 := vs.cell (i := 1) (by simp)
  have cvs2 := vs.cell (i := 2) (by simp)
  have cvs3 := vs.cell (i := 3) (by simp)
  have cvs4 := vs.cell (i := 4) (by simp)
  simp only [List.getD_cons_zero, List.getD_cons_succ] at cvs0 cvs1 cvs2 cvs3 cvs4
  have ltvs := vs.lt
  go_wp2_with fail
  clear cvs0 cvs1 cvs2 cvs3 cvs4 ltvs
  refine (HC.out _ _ _ _ ⟨⟨adc, cc, by rw [HNC.out], rc⟩, ⟨adm, cm, by rw [HNM.out], rm⟩, ⟨adg, cg, by rw [HNG.out], rg⟩⟩).mono ?_
  rintro e w1 ⟨rfl, bb⟩
  replace vs := vs.mono bb
  replace rp := rp.mono bb
  replace B := below_trans B bb
  clear bb rc rm rg HC
  go_wp2
  go_ret
  exact ⟨by rw [← HRR.out]; rfl, B⟩

set_option maxRecDepth 100000 in
set_option maxHeartbeats 1000000 in
theorem fits_yes (S : Scl) (P : List Pk) (cv mv gv pv : Value) (w : World) (hS : InS w cv mv gv S) (hI : SclI S) (hP : InP w pv P) (hPI : PksI P) (hok : sclOk S = true) :
    Calls Tryd.prog 16 #[.agg #[cv, mv, gv, .int .i64 S.sf, .int .i64 S.ch], pv] w fun e w' => e = .returned (.int .i64 (fitsCode S P)) ∧ Below w.heap.size w w' := by
  have HK := Lib.hid hok
  obtain ⟨R, hR⟩ : ∃ R, fitsCode S P = R := ⟨_, rfl⟩
  have C := fun (cv mv gv : Value) (w : World) (h : InS w cv mv gv S) => scheck_calls S cv mv gv w h hI
  rw [hok] at C
  unfold fitsCode at hR
  rw [hok] at hR
  obtain ⟨⟨hc1, hc2⟩, ⟨hm1, hm2⟩, ⟨hg1, hg2⟩, _, _⟩ := headOk_lens (headOk_of hok)
  have HRR := Lib.hid hR
  have HC := Lib.hid C
  clear hR C hI hok
  rw [show fitsCode S P = R from by have := HRR.out; unfold fitsCode; rw [HK.out]; exact this]
  obtain ⟨⟨adc, cc, rfl, rc⟩, ⟨adm, cm, rfl, rm⟩, ⟨adg, cg, rfl, rg⟩⟩ := hS
  obtain ⟨adp, cp, rfl, rp⟩ := hP
  have LC := rc.1
  have LM := rm.1
  have LG := rg.1
  have LP := rp.1
  have LC2 := rc.2.1
  have LM2 := rm.2.1
  have LG2 := rg.2.1
  have LP2 := rp.2.1
  unfold maxLen at LC2 LM2 LG2 LP2
  obtain ⟨nc, hnc⟩ : ∃ n, S.cs.length = n := ⟨_, rfl⟩
  obtain ⟨nm, hnm⟩ : ∃ n, S.ms.length = n := ⟨_, rfl⟩
  obtain ⟨ng, hng⟩ : ∃ n, S.gs.length = n := ⟨_, rfl⟩
  obtain ⟨np, hnp⟩ : ∃ n, P.length = n := ⟨_, rfl⟩
  rw [hnc] at LC ⊢
  rw [hnm] at LM ⊢
  rw [hng] at LG ⊢
  rw [hnp] at LP ⊢
  have HNC := Lib.hid hnc
  have HNM := Lib.hid hnm
  have HNG := Lib.hid hng
  have HNP := Lib.hid hnp
  rw [hnc] at hc1 hc2
  rw [hnm] at hm1 hm2
  rw [hng] at hg1 hg2
  have HPI := Lib.hid hPI
  clear hnc hnm hng hnp hPI
  have vs := Vals.newL w (w.heap.size) [.slice adc nc cc, .slice adm nm cm, .slice adg ng cg, .int .i64 S.sf, .int .i64 S.ch] 26 rfl
  have bb := below_alloc w (.cells #[.slice adc nc cc, .slice adm nm cm, .slice adg ng cg, .int .i64 S.sf, .int .i64 S.ch] 26)
  have B := bb
  have bb0 := B
  clear bb
  go_enter Tryd.func16, Tryd.ntmps16
  go_upto_region 1 with (fail)
  generalize (w.alloc (.cells #[.slice adc nc cc, .slice adm nm cm, .slice adg ng cg, .int .i64 S.sf, .int .i64 S.ch] 26)) = w0 at *
  replace rc := rc.mono bb0
  replace rm := rm.mono bb0
  replace rg := rg.mono bb0
  replace rp := rp.mono bb0
  clear bb0
  have cvs0 := vs.cell (i := 0) (by simp)
  have cvs1 := vs.cell (i := 1) (by simp)
  have cvs2 := vs.cell (i := 2) (by simp)
  have cvs3 := vs.cell (i := 3) (by simp)
  have cvs4 := vs.cell (i := 4) (by simp)
  simp only [List.getD_cons_zero, List.getD_cons_succ] at cvs0 cvs1 cvs2 cvs3 cvs4
  have ltvs := vs.lt
  go_wp2_with fail
  clear cvs0 cvs1 cvs2 cvs3 cvs4 ltvs
  refine (HC.out _ _ _ _ ⟨⟨adc, cc, by rw [HNC.out], rc⟩, ⟨adm, cm, by rw [HNM.out], rm⟩, ⟨adg, cg, by rw [HNG.out], rg⟩⟩).mono ?_
  rintro e w1 ⟨rfl, bb⟩
  replace vs := vs.mono bb
  replace rp := rp.mono bb
  replace B := below_trans B bb
  clear bb rc rm rg HC
  go_wp2
  go_loopw [15] (fun iv wr => ∃ i : Nat, iv = .int .i64 (i : Int) ∧ i ≤ np ∧ (∀ j, j < i → pkOk S (P.getD j p0) = true) ∧ Below w.heap.size w wr ∧ Vals wr w.heap.size [.slice adc nc cc, .slice adm nm cm, .slice adg ng cg, .int .i64 S.sf, .int .i64 S.ch] ∧ RdP wr adp cp P)
    (fun iv _ => np - (intOf iv).toNat)
  case atStart => exact ⟨0, rfl, Nat.zero_le _, fun j hj => by omega, B, vs, rp⟩
  case round =>
    clear B vs rp
    obtain ⟨i, rfl, hi, hall, B, vs, rp⟩ := hrel
    have cvs0 := vs.cell (i := 0) (by simp)
    have cvs1 := vs.cell (i := 1) (by simp)
    have cvs2 := vs.cell (i := 2) (by simp)
    simp only [List.getD_cons_zero, List.getD_cons_succ] at cvs0 cvs1 cvs2
    have ltvs := vs.lt
    by_cases hlt : i < np
    · have hil : i < P.length := by rw [HNP.out]; exact hlt
      obtain ⟨bz, oz, rfl, ca, cb⟩ := rp.at hil
      obtain ⟨i1, i2⟩ := HPI.out _ (pk_mem hil)
      obtain ⟨M, hM⟩ : ∃ M, P.getD i p0 = M := ⟨_, rfl⟩
      rw [hM] at ca cb i1 i2
      have HMM := Lib.hid hM
      have HALL := Lib.hid hall
      have W1 := fun w : World => within_calls (wrap64 (M.m + 1)) (nm : Int) w
      have W2 := fun w : World => within_calls (wrap64 (M.g + 1)) (ng : Int) w
      rw [inR_len i1 (by omega)] at W1
      rw [inR_len i2 (by omega)] at W2
      obtain ⟨b1, hb1⟩ : ∃ b, decide (0 ≤ M.m ∧ M.m < (nm : Int)) = b := ⟨_, rfl⟩
      obtain ⟨b2, hb2⟩ : ∃ b, decide (0 ≤ M.g ∧ M.g < (ng : Int)) = b := ⟨_, rfl⟩
      have hpk : pkOk S M = (b1 && b2) := by unfold pkOk; rw [HNM.out, HNG.out, hb1, hb2]
      rw [hb1] at W1
      rw [hb2] at W2
      have H1 := Lib.hid W1
      have H2 := Lib.hid W2
      have HPK := Lib.hid hpk
      clear W1 W2 hb1 hb2 hpk hM hall i1 i2
      go_upto_region 7 with (fail)
      have vb := Vals.newL wr wr.heap.size [.int .i64 M.m, .int .i64 M.g] 56 rfl
      have bb := below_alloc wr (.cells #[.int .i64 M.m, .int .i64 M.g] 56)
      have hsz := vs.lt
      replace vs := vs.mono bb
      replace rp := rp.mono bb
      replace B := below_trans B bb
      clear ca cb bb cvs0 cvs1 cvs2 ltvs
      generalize wr.alloc (.cells #[.int .i64 M.m, .int .i64 M.g] 56) = W0 at *
      generalize wr.heap.size = bx at *
      have cvb0 := vb.cell (i := 0) (by simp)
      have cvb1 := vb.cell (i := 1) (by simp)
      have cvs1 := vs.cell (i := 1) (by simp)
      have cvs2 := vs.cell (i := 2) (by simp)
      simp only [List.getD_cons_zero, List.getD_cons_succ] at cvb0 cvb1 cvs1 cvs2
      cases b1
      · skip
        go_wp2_with fail
        refine (H1.out _).mono ?_
        rintro e wq ⟨rfl, rfl⟩
        go_wp2
        go_ret
        exact ⟨by rw [← HRR.out, fits_no hil (by rw [HMM.out, HPK.out]; rfl)]; rfl, B⟩
      go_wp2_with fail
      refine (H1.out _).mono ?_
      rintro e wq ⟨rfl, rfl⟩
      cases b2
      · skip
        go_wp2_with fail
        refine (H2.out _).mono ?_
        rintro e wq ⟨rfl, rfl⟩
        go_wp2
        go_ret
        exact ⟨by rw [← HRR.out, fits_no hil (by rw [HMM.out, HPK.out]; rfl)]; rfl, B⟩
      go_wp2_with fail
      refine (H2.out _).mono ?_
      rintro e wq ⟨rfl, rfl⟩
      go_wp2
      go_roundw
      case rel => exact ⟨i + 1, by go_num, by omega, steps_all (p := fun q => pkOk S (P.getD q p0)) HALL.out (by show pkOk S (P.getD i p0) = true; rw [HMM.out, HPK.out]; rfl), B, vs, rp⟩
      case measure => simp [intOf]; omega
    · obtain rfl : i = np := by omega
      have hal : allTo (fun q => pkOk S (P.getD q p0)) P.length = true := allTo_iff.2 (fun q hq => hall q (by rw [← HNP.out]; exact hq))
      have HAL := Lib.hid hal
      clear hal hall
      by_cases hn : i = nc
      · have hn2 : (i : Int) = (nc : Int) := by omega
        have hf : fitsB S P = true := by unfold fitsB; rw [HAL.out, HNP.out, HNC.out, decide_eq_true hn]; rfl
        have HF := Lib.hid hf
        clear hf
        subst hn
        go_wp2
        go_ret
        exact ⟨by rw [← HRR.out, HF.out]; rfl, B⟩
      · have hn2 : ¬ (i : Int) = (nc : Int) := by omega
        have hn3 : ((i : Int) == (nc : Int)) = false := by rw [beq_eq_false_iff_ne]; exact hn2
        have hf : fitsB S P = false := by unfold fitsB; rw [HAL.out, HNP.out, HNC.out, decide_eq_false hn]; rfl
        have HF := Lib.hid hf
        clear hf
        go_wp2
        go_ret
        exact ⟨by rw [← HRR.out, HF.out]; rfl, B⟩

theorem fits_calls (S : Scl) (P : List Pk) (cv mv gv pv : Value) (w : World) (hS : InS w cv mv gv S) (hI : SclI S) (hP : InP w pv P) (hPI : PksI P) :
    Calls Tryd.prog 16 #[.agg #[cv, mv, gv, .int .i64 S.sf, .int .i64 S.ch], pv] w fun e w' => e = .returned (.int .i64 (fitsCode S P)) ∧ Below w.heap.size w w' := by
  cases hok : sclOk S
  · exact fits_no' S P cv mv gv pv w hS hI hP hPI hok
  · exact fits_yes S P cv mv gv pv w hS hI hP hPI hok

end Go.Proofs
