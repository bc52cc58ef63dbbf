/- wire.fits: which picks fit a scaling. wire.tight, strong, price: what a pick does for a course. wire.Pull: the sum of all tensions. wire.Cost: what picks cost, if they are allowed. wire.Longest in range and out of range; plain facts: a string holds just up to a root. the reference of layer 4: ranges, Tension, Stress, Holds, Longest. The reference's Fits. The reference's Pulled. The reference's Pull. The reference's Allowed. The reference's Cost. wire.Coils at pieces 6, 4, 5, 5 and coils of 10: two coils; the law's 'lives'. the law's 'lives' of layer 4. -/
import Derived.Test.YtghbjhcbldnenaaGreatDoorPk11
import Derived.Deep.RegionHeld3
import Derived.Deep.Cut
import Derived.Test.YtghbjhcbldnenaaGreatDoorPk06
import Derived.Test.YtghbjhcbldnenaaGreatDoorPk05
import Derived.BigQuiet
import Derived.Test.YtghbjhcbldnenaaGreatDoorPk02

section
open Go.RowKit Go.Deep
namespace Go.Proofs
set_option linter.unusedVariables false
set_option linter.unusedSimpArgs false

def pkOk (S : Scl) (p : Pk) : Bool := decide (0 ≤ p.m ∧ p.m < S.ms.length) && decide (0 ≤ p.g ∧ p.g < S.gs.length)
def fitsB (S : Scl) (P : List Pk) : Bool := allTo (fun i => pkOk S (P.getD i p0)) P.length && decide (P.length = S.cs.length)
def fitsCode (S : Scl) (P : List Pk) : Int := if sclOk S then (if fitsB S P then 0 else 2) else 1
def PksI (P : List Pk) : Prop := ∀ p ∈ P, zI p.m ∧ zI p.g
theorem pk_mem {P : List Pk} {i : Nat} (hi : i < P.length) : P.getD i p0 ∈ P := by
  have e : P.getD i p0 = P[i] := by simp [List.getD, List.getElem?_eq_getElem hi]
  rw [e]
  exact List.getElem_mem hi
theorem inR_len {z : Int} {n : Nat} (hz : zI z) (hn : n ≤ 1000000000000) : inR (wrap64 (z + 1)) (n : Int) = decide (0 ≤ z ∧ z < n) := by
  by_cases h : n = 0
  · subst h
    have e1 : inR (wrap64 (z + 1)) ((0 : Nat) : Int) = false := by unfold inR; rw [decide_eq_false_iff_not]; omega
    rw [e1]
    symm
    rw [decide_eq_false_iff_not]
    omega
  · have := inR_wrap (z := z) (m := (n : Int) - 1) hz (by omega) (by omega)
    rw [show (n : Int) - 1 + 1 = n by omega] at this
    rw [this]
    congr 1
    apply propext
    omega
theorem headOk_of {S : Scl} (h : sclOk S = true) : headOk S = true := by
  unfold sclOk at h
  simp only [Bool.and_eq_true] at h
  exact h.1.1.1
theorem headOk_lens {S : Scl} (h : headOk S = true) : (1 ≤ S.cs.length ∧ S.cs.length ≤ 96) ∧ (1 ≤ S.ms.length ∧ S.ms.length ≤ 4) ∧ (1 ≤ S.gs.length ∧ S.gs.length ≤ 16) ∧ (1 ≤ S.sf ∧ S.sf ≤ 100) ∧ (0 ≤ S.ch ∧ S.ch ≤ 96) := by
  unfold headOk inR at h
  simp only [Bool.and_eq_true, decide_eq_true_eq] at h
  omega
theorem fits_no {S : Scl} {P : List Pk} {i : Nat} (hi : i < P.length) (h : pkOk S (P.getD i p0) = false) : fitsB S P = false := by
  unfold fitsB; rw [allTo_false (p := fun q => pkOk S (P.getD q p0)) hi h]; rfl

set_option maxRecDepth 100000 in
set_option maxHeartbeats 1000000 in
theorem fits_no' (S : Scl) (P : List Pk) (cv mv gv pv : Value) (w : World) (hS : InS w cv mv gv S) (hI : SclI S) (hP : InP w pv P) (hPI : PksI P) (hok : sclOk S = false) :
    Calls Tryz.prog 25 #[.agg #[cv, mv, gv, .int .i64 S.sf, .int .i64 S.ch], pv] w fun e w' => e = .returned (.int .i64 (fitsCode S P)) ∧ Below w.heap.size w w' := by
  have HK := Lib.hid hok
  obtain ⟨R, hR⟩ : ∃ R, fitsCode S P = R := ⟨_, rfl⟩
  have C := fun (cv mv gv : Value) (w : World) (h : InS w cv mv gv S) => scheck_calls S cv mv gv w h hI
  rw [hok] at C
  unfold fitsCode at hR
  rw [hok] at hR
  have HRR := Lib.hid hR
  have HC := Lib.hid C
  clear hR C hI hok
  rw [show fitsCode S P = R from by have := HRR.out; unfold fitsCode; rw [HK.out]; exact this]
  obtain ⟨⟨adc, cc, rfl, rc⟩, ⟨adm, cm, rfl, rm⟩, ⟨adg, cg, rfl, rg⟩⟩ := hS
  obtain ⟨adp, cp, rfl, rp⟩ := hP
  have LC := rc.1
  have LM := rm.1
  have LG := rg.1
  have LP := rp.1
  have LC2 := rc.2.1
  have LM2 := rm.2.1
  have LG2 := rg.2.1
  have LP2 := rp.2.1
  unfold maxLen at LC2 LM2 LG2 LP2
  obtain ⟨nc, hnc⟩ : ∃ n, S.cs.length = n := ⟨_, rfl⟩
  obtain ⟨nm, hnm⟩ : ∃ n, S.ms.length = n := ⟨_, rfl⟩
  obtain ⟨ng, hng⟩ : ∃ n, S.gs.length = n := ⟨_, rfl⟩
  obtain ⟨np, hnp⟩ : ∃ n, P.length = n := ⟨_, rfl⟩
  rw [hnc] at LC ⊢
  rw [hnm] at LM ⊢
  rw [hng] at LG ⊢
  rw [hnp] at LP ⊢
  have HNC := Lib.hid hnc
  have HNM := Lib.hid hnm
  have HNG := Lib.hid hng
  have HNP := Lib.hid hnp
  have HPI := Lib.hid hPI
  clear hnc hnm hng hnp hPI
  have vs := Vals.newL w (w.heap.size) [.slice adc nc cc, .slice adm nm cm, .slice adg ng cg, .int .i64 S.sf, .int .i64 S.ch] 26 rfl
  have bb := below_alloc w (.cells #[.slice adc nc cc, .slice adm nm cm, .slice adg ng cg, .int .i64 S.sf, .int .i64 S.ch] 26)
  have B := bb
  have bb0 := B
  clear bb
  go_enter Tryz.func25, Tryz.ntmps25
  go_upto_region 1 with (fail)
  generalize (w.alloc (.cells #[.slice adc nc cc, .slice adm nm cm, .slice adg ng cg, .int .i64 S.sf, .int .i64 S.ch] 26)) = w0 at *
  replace rc := rc.mono bb0
  replace rm := rm.mono bb0
  replace rg := rg.mono bb0
  replace rp := rp.mono bb0
  clear bb0
  have cvs0 := vs.cell (i := 0) (by simp)
  have cvs1 := vs.cell (i := 1) (by simp)
  have cvs2 := vs.cell (i := 2) (by simp)
  have cvs3 := vs.cell (i := 3) (by simp)
  have cvs4 := vs.cell (i := 4) (by simp)
  simp only [List.getD_cons_zero, List.getD_cons_succ] at cvs0 cvs1 cvs2 cvs3 cvs4
  have ltvs := vs.lt
  go_wp2_with fail
  clear cvs0 cvs1 cvs2 cvs3 cvs4 ltvs
  refine (HC.out _ _ _ _ ⟨⟨adc, cc, by rw [HNC.out], rc⟩, ⟨adm, cm, by rw [HNM.out], rm⟩, ⟨adg, cg, by rw [HNG.out], rg⟩⟩).mono ?_
  rintro e w1 ⟨rfl, bb⟩
  replace vs := vs.mono bb
  replace rp := rp.mono bb
  replace B := below_trans B bb
  clear bb rc rm rg HC
  go_wp2
  go_ret
  exact ⟨by rw [← HRR.out]; rfl, B⟩

set_option maxRecDepth 100000 in
set_option maxHeartbeats 1000000 in
theorem fits_yes (S : Scl) (P : List Pk) (cv mv gv pv : Value) (w : World) (hS : InS w cv mv gv S) (hI : SclI S) (hP : InP w pv P) (hPI : PksI P) (hok : sclOk S = true) :
    Calls Tryz.prog 25 #[.agg #[cv, mv, gv, .int .i64 S.sf, .int .i64 S.ch], pv] w fun e w' => e = .returned (.int .i64 (fitsCode S P)) ∧ Below w.heap.size w w' := by
  have HK := Lib.hid hok
  obtain ⟨R, hR⟩ : ∃ R, fitsCode S P = R := ⟨_, rfl⟩
  have C := fun (cv mv gv : Value) (w : World) (h : InS w cv mv gv S) => scheck_calls S cv mv gv w h hI
  rw [hok] at C
  unfold fitsCode at hR
  rw [hok] at hR
  obtain ⟨⟨hc1, hc2⟩, ⟨hm1, hm2⟩, ⟨hg1, hg2⟩, _, _⟩ := headOk_lens (headOk_of hok)
  have HRR := Lib.hid hR
  have HC := Lib.hid C
  clear hR C hI hok
  rw [show fitsCode S P = R from by have := HRR.out; unfold fitsCode; rw [HK.out]; exact this]
  obtain ⟨⟨adc, cc, rfl, rc⟩, ⟨adm, cm, rfl, rm⟩, ⟨adg, cg, rfl, rg⟩⟩ := hS
  obtain ⟨adp, cp, rfl, rp⟩ := hP
  have LC := rc.1
  have LM := rm.1
  have LG := rg.1
  have LP := rp.1
  have LC2 := rc.2.1
  have LM2 := rm.2.1
  have LG2 := rg.2.1
  have LP2 := rp.2.1
  unfold maxLen at LC2 LM2 LG2 LP2
  obtain ⟨nc, hnc⟩ : ∃ n, S.cs.length = n := ⟨_, rfl⟩
  obtain ⟨nm, hnm⟩ : ∃ n, S.ms.length = n := ⟨_, rfl⟩
  obtain ⟨ng, hng⟩ : ∃ n, S.gs.length = n := ⟨_, rfl⟩
  obtain ⟨np, hnp⟩ : ∃ n, P.length = n := ⟨_, rfl⟩
  rw [hnc] at LC ⊢
  rw [hnm] at LM ⊢
  rw [hng] at LG ⊢
  rw [hnp] at LP ⊢
  have HNC := Lib.hid hnc
  have HNM := Lib.hid hnm
  have HNG := Lib.hid hng
  have HNP := Lib.hid hnp
  rw [hnc] at hc1 hc2
  rw [hnm] at hm1 hm2
  rw [hng] at hg1 hg2
  have HPI := Lib.hid hPI
  clear hnc hnm hng hnp hPI
  have vs := Vals.newL w (w.heap.size) [.slice adc nc cc, .slice adm nm cm, .slice adg ng cg, .int .i64 S.sf, .int .i64 S.ch] 26 rfl
  have bb := below_alloc w (.cells #[.slice adc nc cc, .slice adm nm cm, .slice adg ng cg, .int .i64 S.sf, .int .i64 S.ch] 26)
  have B := bb
  have bb0 := B
  clear bb
  go_enter Tryz.func25, Tryz.ntmps25
  go_upto_region 1 with (fail)
  generalize (w.alloc (.cells #[.slice adc nc cc, .slice adm nm cm, .slice adg ng cg, .int .i64 S.sf, .int .i64 S.ch] 26)) = w0 at *
  replace rc := rc.mono bb0
  replace rm := rm.mono bb0
  replace rg := rg.mono bb0
  replace rp := rp.mono bb0
  clear bb0
  have cvs0 := vs.cell (i := 0) (by simp)
  have cvs1 := vs.cell (i := 1) (by simp)
  have cvs2 := vs.cell (i := 2) (by simp)
  have cvs3 := vs.cell (i := 3) (by simp)
  have cvs4 := vs.cell (i := 4) (by simp)
  simp only [List.getD_cons_zero, List.getD_cons_succ] at cvs0 cvs1 cvs2 cvs3 cvs4
  have ltvs := vs.lt
  go_wp2_with fail
  clear cvs0 cvs1 cvs2 cvs3 cvs4 ltvs
  refine (HC.out _ _ _ _ ⟨⟨adc, cc, by rw [HNC.out], rc⟩, ⟨adm, cm, by rw [HNM.out], rm⟩, ⟨adg, cg, by rw [HNG.out], rg⟩⟩).mono ?_
  rintro e w1 ⟨rfl, bb⟩
  replace vs := vs.mono bb
  replace rp := rp.mono bb
  replace B := below_trans B bb
  clear bb rc rm rg HC
  go_wp2
  go_loopw [15] (fun iv wr => ∃ i : Nat, iv = .int .i64 (i : Int) ∧ i ≤ np ∧ (∀ j, j < i → pkOk S (P.getD j p0) = true) ∧ Below w.heap.size w wr ∧ Vals wr w.heap.size [.slice adc nc cc, .slice adm nm cm, .slice adg ng cg, .int .i64 S.sf, .int .i64 S.ch] ∧ RdP wr adp cp P)
    (fun iv _ => np - (intOf iv).toNat)
  case atStart => exact ⟨0, rfl, Nat.zero_le _, fun j hj => by omega, B, vs, rp⟩
  case round =>
    clear B vs rp
    obtain ⟨i, rfl, hi, hall, B, vs, rp⟩ := hrel
    have cvs0 := vs.cell (i := 0) (by simp)
    have cvs1 := vs.cell (i := 1) (by simp)
    have cvs2 := vs.cell (i := 2) (by simp)
    simp only [List.getD_cons_zero, List.getD_cons_succ] at cvs0 cvs1 cvs2
    have ltvs := vs.lt
    by_cases hlt : i < np
    · have hil : i < P.length := by rw [HNP.out]; exact hlt
      obtain ⟨bz, oz, rfl, ca, cb⟩ := rp.at hil
      obtain ⟨i1, i2⟩ := HPI.out _ (pk_mem hil)
      obtain ⟨M, hM⟩ : ∃ M, P.getD i p0 = M := ⟨_, rfl⟩
      rw [hM] at ca cb i1 i2
      have HMM := Lib.hid hM
      have HALL := Lib.hid hall
      have W1 := fun w : World => within_calls (wrap64 (M.m + 1)) (nm : Int) w
      have W2 := fun w : World => within_calls (wrap64 (M.g + 1)) (ng : Int) w
      rw [inR_len i1 (by omega)] at W1
      rw [inR_len i2 (by omega)] at W2
      obtain ⟨b1, hb1⟩ : ∃ b, decide (0 ≤ M.m ∧ M.m < (nm : Int)) = b := ⟨_, rfl⟩
      obtain ⟨b2, hb2⟩ : ∃ b, decide (0 ≤ M.g ∧ M.g < (ng : Int)) = b := ⟨_, rfl⟩
      have hpk : pkOk S M = (b1 && b2) := by unfold pkOk; rw [HNM.out, HNG.out, hb1, hb2]
      rw [hb1] at W1
      rw [hb2] at W2
      have H1 := Lib.hid W1
      have H2 := Lib.hid W2
      have HPK := Lib.hid hpk
      clear W1 W2 hb1 hb2 hpk hM hall i1 i2
      go_upto_region 7 with (fail)
      have vb := Vals.newL wr wr.heap.size [.int .i64 M.m, .int .i64 M.g] 73 rfl
      have bb := below_alloc wr (.cells #[.int .i64 M.m, .int .i64 M.g] 73)
      have hsz := vs.lt
      replace vs := vs.mono bb
      replace rp := rp.mono bb
      replace B := below_trans B bb
      clear ca cb bb cvs0 cvs1 cvs2 ltvs
      generalize wr.alloc (.cells #[.int .i64 M.m, .int .i64 M.g] 73) = W0 at *
      generalize wr.heap.size = bx at *
      have cvb0 := vb.cell (i := 0) (by simp)
      have cvb1 := vb.cell (i := 1) (by simp)
      have cvs1 := vs.cell (i := 1) (by simp)
      have cvs2 := vs.cell (i := 2) (by simp)
      simp only [List.getD_cons_zero, List.getD_cons_succ] at cvb0 cvb1 cvs1 cvs2
      cases b1
      · skip
        go_wp2_with fail
        refine (H1.out _).mono ?_
        rintro e wq ⟨rfl, rfl⟩
        go_wp2
        go_ret
        exact ⟨by rw [← HRR.out, fits_no hil (by rw [HMM.out, HPK.out]; rfl)]; rfl, B⟩
      go_wp2_with fail
      refine (H1.out _).mono ?_
      rintro e wq ⟨rfl, rfl⟩
      cases b2
      · skip
        go_wp2_with fail
        refine (H2.out _).mono ?_
        rintro e wq ⟨rfl, rfl⟩
        go_wp2
        go_ret
        exact ⟨by rw [← HRR.out, fits_no hil (by rw [HMM.out, HPK.out]; rfl)]; rfl, B⟩
      go_wp2_with fail
      refine (H2.out _).mono ?_
      rintro e wq ⟨rfl, rfl⟩
      go_wp2
      go_roundw
      case rel => exact ⟨i + 1, by go_num, by omega, steps_all (p := fun q => pkOk S (P.getD q p0)) HALL.out (by show pkOk S (P.getD i p0) = true; rw [HMM.out, HPK.out]; rfl), B, vs, rp⟩
      case measure => simp [intOf]; omega
    · obtain rfl : i = np := by omega
      have hal : allTo (fun q => pkOk S (P.getD q p0)) P.length = true := allTo_iff.2 (fun q hq => hall q (by rw [← HNP.out]; exact hq))
      have HAL := Lib.hid hal
      clear hal hall
      by_cases hn : i = nc
      · have hn2 : (i : Int) = (nc : Int) := by omega
        have hf : fitsB S P = true := by unfold fitsB; rw [HAL.out, HNP.out, HNC.out, decide_eq_true hn]; rfl
        have HF := Lib.hid hf
        clear hf
        subst hn
        go_wp2
        go_ret
        exact ⟨by rw [← HRR.out, HF.out]; rfl, B⟩
      · have hn2 : ¬ (i : Int) = (nc : Int) := by omega
        have hn3 : ((i : Int) == (nc : Int)) = false := by rw [beq_eq_false_iff_ne]; exact hn2
        have hf : fitsB S P = false := by unfold fitsB; rw [HAL.out, HNP.out, HNC.out, decide_eq_false hn]; rfl
        have HF := Lib.hid hf
        clear hf
        go_wp2
        go_ret
        exact ⟨by rw [← HRR.out, HF.out]; rfl, B⟩

theorem fits_calls (S : Scl) (P : List Pk) (cv mv gv pv : Value) (w : World) (hS : InS w cv mv gv S) (hI : SclI S) (hP : InP w pv P) (hPI : PksI P) :
    Calls Tryz.prog 25 #[.agg #[cv, mv, gv, .int .i64 S.sf, .int .i64 S.ch], pv] w fun e w' => e = .returned (.int .i64 (fitsCode S P)) ∧ Below w.heap.size w w' := by
  cases hok : sclOk S
  · exact fits_no' S P cv mv gv pv w hS hI hP hPI hok
  · exact fits_yes S P cv mv gv pv w hS hI hP hPI hok

end Go.Proofs
end

section
open Go.RowKit Go.Deep
namespace Go.Proofs
set_option linter.unusedVariables false
set_option linter.unusedSimpArgs false

def metOf (S : Scl) (p : Pk) : Met := S.ms.getD p.m.toNat m0
def strongB (S : Scl) (c : Crs) (p : Pk) : Bool := holdsB (metOf S p).d.toNat ((metOf S p).st.getD p.g.toNat 0).toNat c.l.toNat c.f.toNat S.sf.toNat
def tightN (S : Scl) (c : Crs) (p : Pk) : Nat := pullN (metOf S p).d.toNat (S.gs.getD p.g.toNat 0).toNat c.l.toNat c.f.toNat
def priceN (S : Scl) (c : Crs) (p : Pk) : Nat := c.w.toNat * ((tightN S c p : Int) - c.t).natAbs

theorem sclOk_met {S : Scl} (h : sclOk S = true) {i : Nat} (hi : i < S.ms.length) : metOk S.gs.length (S.ms.getD i m0) = true := by
  unfold sclOk at h
  simp only [Bool.and_eq_true] at h
  exact allTo_iff.1 h.1.2 i hi
theorem sclOk_g {S : Scl} (h : sclOk S = true) {i : Nat} (hi : i < S.gs.length) : inR (S.gs.getD i 0) 2000 = true := by
  unfold sclOk at h
  simp only [Bool.and_eq_true] at h
  have := allTo_iff.1 h.1.1.2 i hi
  unfold gOk at this
  simp only [Bool.and_eq_true] at this
  exact this.1
theorem sclOk_c {S : Scl} (h : sclOk S = true) {i : Nat} (hi : i < S.cs.length) : crsOk (S.cs.getD i c0) = true := by
  unfold sclOk at h
  simp only [Bool.and_eq_true] at h
  exact allTo_iff.1 h.2 i hi
theorem met_facts {n : Nat} {m : Met} (h : metOk n m = true) : (1 ≤ m.d ∧ m.d ≤ 30000) ∧ m.st.length = n ∧ ∀ j, j < n → 1 ≤ m.st.getD j 0 ∧ m.st.getD j 0 ≤ 100000 := by
  unfold metOk inR at h
  simp only [Bool.and_eq_true, decide_eq_true_eq, List.all_eq_true] at h
  refine ⟨h.1.2, h.2, fun j hj => h.1.1 _ (getD_mem (by omega))⟩
theorem crs_facts {c : Crs} (h : crsOk c = true) : (1 ≤ c.l ∧ c.l ≤ 100000) ∧ (1 ≤ c.f ∧ c.f ≤ 10000000) ∧ (0 ≤ c.t ∧ c.t ≤ 1000000000) ∧ (0 ≤ c.w ∧ c.w ≤ 1000) := by
  unfold crsOk inR at h
  simp only [Bool.and_eq_true, decide_eq_true_eq] at h
  exact ⟨h.1.1.1, h.1.1.2, h.1.2, h.2⟩
theorem pk_facts {S : Scl} {p : Pk} (h : pkOk S p = true) : (0 ≤ p.m ∧ p.m < S.ms.length) ∧ (0 ≤ p.g ∧ p.g < S.gs.length) := by
  unfold pkOk at h
  simp only [Bool.and_eq_true, decide_eq_true_eq] at h
  exact h
theorem tightN_le {S : Scl} {c : Crs} {p : Pk} (hs : sclOk S = true) (hc : crsOk c = true) (hp : pkOk S p = true) : tightN S c p ≤ 4000000000000 := by
  obtain ⟨⟨p1, p2⟩, ⟨p3, p4⟩⟩ := pk_facts hp
  obtain ⟨c1, c2, c3, c4⟩ := crs_facts hc
  obtain ⟨m1, m2, m3⟩ := met_facts (sclOk_met hs (i := p.m.toNat) (by omega))
  have g := sclOk_g hs (i := p.g.toNat) (by omega)
  unfold inR at g
  have g2 := of_decide_eq_true g
  unfold tightN metOf
  exact pullN_lt (by omega) (by omega) (by omega) (by omega)

theorem tcells {w : World} {b1 b2 b3 bm om bg og i j : Nat} {x0 x1 x2 x3 x4 y0 y1 y2 y3 z0 z1 u v : Value} (vs : Vals w b1 [x0, x1, x2, x3, x4]) (vc : Vals w b2 [y0, y1, y2, y3]) (vp : Vals w b3 [z0, z1]) (cd : w.cell? ⟨bm, om + i * 2, none⟩ = some u) (cg : w.cell? ⟨bg, og + j, none⟩ = some v) :
    w.cell? ⟨b1, 1, none⟩ = some x1 ∧ w.cell? ⟨b1, 2, none⟩ = some x2 ∧ w.cell? ⟨b2, 0, none⟩ = some y0 ∧ w.cell? ⟨b2, 1, none⟩ = some y1 ∧ w.cell? ⟨b3, 0, none⟩ = some z0 ∧ w.cell? ⟨b3, 1, none⟩ = some z1 ∧ w.cell? ⟨bm, om + i * 2, none⟩ = some u ∧ w.cell? ⟨bg, og + j, none⟩ = some v := by
  have s1 := vs.cell (i := 1) (by simp)
  have s2 := vs.cell (i := 2) (by simp)
  have c0 := vc.cell (i := 0) (by simp)
  have c1 := vc.cell (i := 1) (by simp)
  have p0 := vp.cell (i := 0) (by simp)
  have p1 := vp.cell (i := 1) (by simp)
  exact ⟨s1, s2, c0, c1, p0, p1, cd, cg⟩

set_option maxRecDepth 100000 in
set_option maxHeartbeats 1000000 in
theorem tight_calls (S : Scl) (c : Crs) (p : Pk) (cv mv gv : Value) (w : World) (hS : InS w cv mv gv S) (hs : sclOk S = true) (hp : pkOk S p = true) (hc : crsOk c = true) :
    Calls Tryz.prog 55 #[.agg #[cv, mv, gv, .int .i64 S.sf, .int .i64 S.ch], .agg #[.int .i64 c.l, .int .i64 c.f, .int .i64 c.t, .int .i64 c.w], .agg #[.int .i64 p.m, .int .i64 p.g]] w fun e w' => e = .returned (.int .i64 ((tightN S c p : Nat) : Int)) ∧ Below w.heap.size w w' := by
  obtain ⟨⟨p1, p2⟩, ⟨p3, p4⟩⟩ := pk_facts hp
  obtain ⟨c1, c2, c3, c4⟩ := crs_facts hc
  obtain ⟨i, hi⟩ : ∃ i : Nat, p.m = (i : Int) := ⟨p.m.toNat, by omega⟩
  obtain ⟨j, hj⟩ : ∃ j : Nat, p.g = (j : Int) := ⟨p.g.toNat, by omega⟩
  have i1 : i < S.ms.length := by omega
  have j1 : j < S.gs.length := by omega
  obtain ⟨m1, m2, m3⟩ := met_facts (sclOk_met hs i1)
  have m4 := m3 j j1
  have g := sclOk_g hs j1
  unfold inR at g
  have g2 := of_decide_eq_true g
  obtain ⟨s1, s2, s3, s4, s5⟩ := headOk_lens (headOk_of hs)
  obtain ⟨l, hl⟩ : ∃ l : Nat, c.l = (l : Int) := ⟨c.l.toNat, by omega⟩
  obtain ⟨f, hf⟩ : ∃ f : Nat, c.f = (f : Int) := ⟨c.f.toNat, by omega⟩
  obtain ⟨⟨adc, cc, rfl, rc⟩, ⟨adm, cm, rfl, rm⟩, ⟨adg, cg, rfl, rg⟩⟩ := hS
  obtain ⟨bm, om, mv, rfl, cd, cst, hst⟩ := rm.at i1
  obtain ⟨ads, cs, rfl, hst⟩ := hst
  obtain ⟨bg, og, rfl, cgs⟩ := rg.at j1
  have cg1 := cgs j j1
  obtain ⟨d, hd⟩ : ∃ d : Nat, (S.ms.getD i m0).d = (d : Int) := ⟨(S.ms.getD i m0).d.toNat, by omega⟩
  obtain ⟨gg, hgg⟩ : ∃ d : Nat, S.gs.getD j 0 = (d : Int) := ⟨(S.gs.getD j 0).toNat, by omega⟩
  have hsl : j < (S.ms.getD i m0).st.length := by rw [m2]; exact j1
  obtain ⟨bs, os, rfl, css⟩ := hst.at hsl
  have cs1 := css j hsl
  obtain ⟨st, hstv⟩ : ∃ d : Nat, (S.ms.getD i m0).st.getD j 0 = (d : Int) := ⟨((S.ms.getD i m0).st.getD j 0).toNat, by omega⟩
  obtain ⟨sf, hsf⟩ : ∃ d : Nat, S.sf = (d : Int) := ⟨S.sf.toNat, by omega⟩
  rw [hd] at cd m1
  rw [hgg] at cg1 g2
  rw [hstv] at cs1 m4
  rw [hl] at c1
  rw [hf] at c2
  rw [hsf] at s4
  have PU := fun w : World => pull_calls d gg l f w (by omega) (by omega) (by omega) (by omega)
  have ht : tightN S c p = pullN d gg l f := by unfold tightN metOf; rw [hi, hj, Int.toNat_natCast, Int.toNat_natCast, hd, hgg, hl, hf]; rfl
  rw [ht, hi, hj, hl, hf, hsf]
  obtain ⟨nc, hnc⟩ : ∃ n, S.cs.length = n := ⟨_, rfl⟩
  obtain ⟨nm, hnm⟩ : ∃ n, S.ms.length = n := ⟨_, rfl⟩
  obtain ⟨ng, hng⟩ : ∃ n, S.gs.length = n := ⟨_, rfl⟩
  rw [hnc, hnm, hng]
  rw [hnm] at i1
  rw [hng] at j1
  have HPU := Lib.hid PU
  clear PU ht hi hj hl hf hsf hd hgg hstv hsl cs1 css cgs g m3 hst rc rm rg c3 c4 p1 p2 p3 p4 m2 s5 hs hp hc hnc hnm hng cst s1 s2 s3
  have a1 : (0 : Int) ≤ (i : Int) := by omega
  have a2 : (i : Int) < (nm : Int) := by omega
  have a3 : (0 : Int) ≤ (j : Int) := by omega
  have a4 : (j : Int) < (ng : Int) := by omega
  have vs := Vals.newL w (w.heap.size) [.slice adc nc cc, .slice (some ⟨bm, om, none⟩) nm cm, .slice (some ⟨bg, og, none⟩) ng cg, .int .i64 (sf : Int), .int .i64 S.ch] 26 rfl
  have bb := below_alloc w (.cells #[.slice adc nc cc, .slice (some ⟨bm, om, none⟩) nm cm, .slice (some ⟨bg, og, none⟩) ng cg, .int .i64 (sf : Int), .int .i64 S.ch] 26)
  have B := bb
  have sz0 := World.size_alloc w (.cells #[.slice adc nc cc, .slice (some ⟨bm, om, none⟩) nm cm, .slice (some ⟨bg, og, none⟩) ng cg, .int .i64 (sf : Int), .int .i64 S.ch] 26)
  have sz := sz0
  clear sz0
  clear bb
  have vc := Vals.newL (w.alloc (.cells #[.slice adc nc cc, .slice (some ⟨bm, om, none⟩) nm cm, .slice (some ⟨bg, og, none⟩) ng cg, .int .i64 (sf : Int), .int .i64 S.ch] 26)) (w.heap.size + 1) [.int .i64 (l : Int), .int .i64 (f : Int), .int .i64 c.t, .int .i64 c.w] 78 sz.symm
  have bb := below_alloc (w.alloc (.cells #[.slice adc nc cc, .slice (some ⟨bm, om, none⟩) nm cm, .slice (some ⟨bg, og, none⟩) ng cg, .int .i64 (sf : Int), .int .i64 S.ch] 26)) (.cells #[.int .i64 (l : Int), .int .i64 (f : Int), .int .i64 c.t, .int .i64 c.w] 78)
  replace vs := vs.mono bb
  replace B := below_trans B bb
  clear bb
  have sz1 := World.size_alloc (w.alloc (.cells #[.slice adc nc cc, .slice (some ⟨bm, om, none⟩) nm cm, .slice (some ⟨bg, og, none⟩) ng cg, .int .i64 (sf : Int), .int .i64 S.ch] 26)) (.cells #[.int .i64 (l : Int), .int .i64 (f : Int), .int .i64 c.t, .int .i64 c.w] 78)
  rw [sz] at sz1
  clear sz
  have sz := sz1
  clear sz1
  have vp := Vals.newL ((w.alloc (.cells #[.slice adc nc cc, .slice (some ⟨bm, om, none⟩) nm cm, .slice (some ⟨bg, og, none⟩) ng cg, .int .i64 (sf : Int), .int .i64 S.ch] 26)).alloc (.cells #[.int .i64 (l : Int), .int .i64 (f : Int), .int .i64 c.t, .int .i64 c.w] 78)) (w.heap.size + 1 + 1) [.int .i64 (i : Int), .int .i64 (j : Int)] 73 sz.symm
  have bb := below_alloc ((w.alloc (.cells #[.slice adc nc cc, .slice (some ⟨bm, om, none⟩) nm cm, .slice (some ⟨bg, og, none⟩) ng cg, .int .i64 (sf : Int), .int .i64 S.ch] 26)).alloc (.cells #[.int .i64 (l : Int), .int .i64 (f : Int), .int .i64 c.t, .int .i64 c.w] 78)) (.cells #[.int .i64 (i : Int), .int .i64 (j : Int)] 73)
  replace vs := vs.mono bb
  replace vc := vc.mono bb
  replace B := below_trans B bb
  clear sz
  have bb0 := B
  clear bb
  go_enter Tryz.func55, Tryz.ntmps55
  go_upto_region 1 with (fail)
  generalize (((w.alloc (.cells #[.slice adc nc cc, .slice (some ⟨bm, om, none⟩) nm cm, .slice (some ⟨bg, og, none⟩) ng cg, .int .i64 (sf : Int), .int .i64 S.ch] 26)).alloc (.cells #[.int .i64 (l : Int), .int .i64 (f : Int), .int .i64 c.t, .int .i64 c.w] 78)).alloc (.cells #[.int .i64 (i : Int), .int .i64 (j : Int)] 73)) = w0 at *
  replace cd := (bb0.cell (cell_lt cd)).trans cd
  replace cg1 := (bb0.cell (cell_lt cg1)).trans cg1
  clear bb0
  go_region_held3 (fun w' => w'.cell? ⟨w.heap.size, 1, none⟩ = some (.slice (some ⟨bm, om, none⟩) nm cm) ∧ w'.cell? ⟨w.heap.size, 2, none⟩ = some (.slice (some ⟨bg, og, none⟩) ng cg) ∧ w'.cell? ⟨w.heap.size + 1, 0, none⟩ = some (.int .i64 (l : Int)) ∧ w'.cell? ⟨w.heap.size + 1, 1, none⟩ = some (.int .i64 (f : Int)) ∧ w'.cell? ⟨w.heap.size + 1 + 1, 0, none⟩ = some (.int .i64 (i : Int)) ∧ w'.cell? ⟨w.heap.size + 1 + 1, 1, none⟩ = some (.int .i64 (j : Int)) ∧ w'.cell? ⟨bm, om + i * 2, none⟩ = some (.int .i64 (d : Int)) ∧ w'.cell? ⟨bg, og + j, none⟩ = some (.int .i64 (gg : Int)))
    (first | exact tcells vs vc vp cd cg1 | exact tcells vs.drew vc.drew vp.drew cd cg1)
    (first | (go_at_call 63; (with_reducible refine (HPU.out _).mono ?_); rintro e z1 ⟨rfl, b5⟩; replace vs := vs.drew.mono b5; replace vc := vc.drew.mono b5; replace vp := vp.drew.mono b5; replace cd := (b5.cell (cell_lt (w := w0.drew) cd)).trans cd; replace cg1 := (b5.cell (cell_lt (w := w0.drew) cg1)).trans cg1; replace B := below_trans B.drew b5; clear b5))
  go_wp2
  go_ret
  exact ⟨rfl, B⟩

theorem scells {w : World} {b1 b2 b3 b4 bs os j : Nat} {x0 x1 x2 x3 x4 y0 y1 y2 y3 z0 z1 u v s : Value} (vs : Vals w b1 [x0, x1, x2, x3, x4]) (vc : Vals w b2 [y0, y1, y2, y3]) (vp : Vals w b3 [z0, z1]) (vm : Vals w b4 [u, v]) (cs : w.cell? ⟨bs, os + j, none⟩ = some s) :
    w.cell? ⟨b1, 3, none⟩ = some x3 ∧ w.cell? ⟨b2, 0, none⟩ = some y0 ∧ w.cell? ⟨b2, 1, none⟩ = some y1 ∧ w.cell? ⟨b3, 1, none⟩ = some z1 ∧ w.cell? ⟨b4, 0, none⟩ = some u ∧ w.cell? ⟨b4, 1, none⟩ = some v ∧ w.cell? ⟨bs, os + j, none⟩ = some s := by
  have s3 := vs.cell (i := 3) (by simp)
  have c0 := vc.cell (i := 0) (by simp)
  have c1 := vc.cell (i := 1) (by simp)
  have p1 := vp.cell (i := 1) (by simp)
  have m0 := vm.cell (i := 0) (by simp)
  have m1 := vm.cell (i := 1) (by simp)
  exact ⟨s3, c0, c1, p1, m0, m1, cs⟩

set_option maxRecDepth 100000 in
set_option maxHeartbeats 1000000 in
theorem strong_calls (S : Scl) (c : Crs) (p : Pk) (cv mv gv : Value) (w : World) (hS : InS w cv mv gv S) (hs : sclOk S = true) (hp : pkOk S p = true) (hc : crsOk c = true) :
    Calls Tryz.prog 41 #[.agg #[cv, mv, gv, .int .i64 S.sf, .int .i64 S.ch], .agg #[.int .i64 c.l, .int .i64 c.f, .int .i64 c.t, .int .i64 c.w], .agg #[.int .i64 p.m, .int .i64 p.g]] w fun e w' => e = .returned (.bool (strongB S c p)) ∧ Below w.heap.size w w' := by
  obtain ⟨⟨p1, p2⟩, ⟨p3, p4⟩⟩ := pk_facts hp
  obtain ⟨c1, c2, c3, c4⟩ := crs_facts hc
  obtain ⟨i, hi⟩ : ∃ i : Nat, p.m = (i : Int) := ⟨p.m.toNat, by omega⟩
  obtain ⟨j, hj⟩ : ∃ j : Nat, p.g = (j : Int) := ⟨p.g.toNat, by omega⟩
  have i1 : i < S.ms.length := by omega
  have j1 : j < S.gs.length := by omega
  obtain ⟨m1, m2, m3⟩ := met_facts (sclOk_met hs i1)
  have m4 := m3 j j1
  have g := sclOk_g hs j1
  unfold inR at g
  have g2 := of_decide_eq_true g
  obtain ⟨s1, s2, s3, s4, s5⟩ := headOk_lens (headOk_of hs)
  obtain ⟨l, hl⟩ : ∃ l : Nat, c.l = (l : Int) := ⟨c.l.toNat, by omega⟩
  obtain ⟨f, hf⟩ : ∃ f : Nat, c.f = (f : Int) := ⟨c.f.toNat, by omega⟩
  obtain ⟨⟨adc, cc, rfl, rc⟩, ⟨adm, cm, rfl, rm⟩, ⟨adg, cg, rfl, rg⟩⟩ := hS
  obtain ⟨bm, om, mv, rfl, cd, cst, hst⟩ := rm.at i1
  obtain ⟨ads, cs, rfl, hst⟩ := hst
  obtain ⟨bg, og, rfl, cgs⟩ := rg.at j1
  have cg1 := cgs j j1
  obtain ⟨d, hd⟩ : ∃ d : Nat, (S.ms.getD i m0).d = (d : Int) := ⟨(S.ms.getD i m0).d.toNat, by omega⟩
  obtain ⟨gg, hgg⟩ : ∃ d : Nat, S.gs.getD j 0 = (d : Int) := ⟨(S.gs.getD j 0).toNat, by omega⟩
  have hsl : j < (S.ms.getD i m0).st.length := by rw [m2]; exact j1
  obtain ⟨bs, os, rfl, css⟩ := hst.at hsl
  have cs1 := css j hsl
  obtain ⟨st, hstv⟩ : ∃ d : Nat, (S.ms.getD i m0).st.getD j 0 = (d : Int) := ⟨((S.ms.getD i m0).st.getD j 0).toNat, by omega⟩
  obtain ⟨sf, hsf⟩ : ∃ d : Nat, S.sf = (d : Int) := ⟨S.sf.toNat, by omega⟩
  rw [hd] at cd m1
  rw [hgg] at cg1 g2
  rw [hstv] at cs1 m4
  rw [hl] at c1
  rw [hf] at c2
  rw [hsf] at s4
  have HO := fun w : World => holds_calls d st l f sf w (by omega) (by omega) (by omega) (by omega) (by omega)
  have ht : strongB S c p = holdsB d st l f sf := by unfold strongB metOf; rw [hi, hj, Int.toNat_natCast, Int.toNat_natCast, hd, hstv, hl, hf, hsf]; rfl
  rw [ht, hi, hj, hl, hf, hsf]
  obtain ⟨nc, hnc⟩ : ∃ n, S.cs.length = n := ⟨_, rfl⟩
  obtain ⟨nm, hnm⟩ : ∃ n, S.ms.length = n := ⟨_, rfl⟩
  obtain ⟨ng, hng⟩ : ∃ n, S.gs.length = n := ⟨_, rfl⟩
  rw [hnc, hnm, hng]
  rw [hnm] at i1
  rw [hng] at j1 m2
  rw [m2] at cst
  have HHO := Lib.hid HO
  clear HO ht hi hj hl hf hsf hd hgg hstv hsl css cgs g m3 hst rc rm rg c3 c4 p1 p2 p3 p4 m2 s5 hs hp hc hnc hnm hng cg1 s1 s2 s3
  have a1 : (0 : Int) ≤ (i : Int) := by omega
  have a2 : (i : Int) < (nm : Int) := by omega
  have a3 : (0 : Int) ≤ (j : Int) := by omega
  have a4 : (j : Int) < (ng : Int) := by omega
  have vs := Vals.newL w (w.heap.size) [.slice adc nc cc, .slice (some ⟨bm, om, none⟩) nm cm, .slice (some ⟨bg, og, none⟩) ng cg, .int .i64 (sf : Int), .int .i64 S.ch] 26 rfl
  have bb := below_alloc w (.cells #[.slice adc nc cc, .slice (some ⟨bm, om, none⟩) nm cm, .slice (some ⟨bg, og, none⟩) ng cg, .int .i64 (sf : Int), .int .i64 S.ch] 26)
  have B := bb
  have sz0 := World.size_alloc w (.cells #[.slice adc nc cc, .slice (some ⟨bm, om, none⟩) nm cm, .slice (some ⟨bg, og, none⟩) ng cg, .int .i64 (sf : Int), .int .i64 S.ch] 26)
  have sz := sz0
  clear sz0
  clear bb
  have vc := Vals.newL (w.alloc (.cells #[.slice adc nc cc, .slice (some ⟨bm, om, none⟩) nm cm, .slice (some ⟨bg, og, none⟩) ng cg, .int .i64 (sf : Int), .int .i64 S.ch] 26)) (w.heap.size + 1) [.int .i64 (l : Int), .int .i64 (f : Int), .int .i64 c.t, .int .i64 c.w] 78 sz.symm
  have bb := below_alloc (w.alloc (.cells #[.slice adc nc cc, .slice (some ⟨bm, om, none⟩) nm cm, .slice (some ⟨bg, og, none⟩) ng cg, .int .i64 (sf : Int), .int .i64 S.ch] 26)) (.cells #[.int .i64 (l : Int), .int .i64 (f : Int), .int .i64 c.t, .int .i64 c.w] 78)
  replace vs := vs.mono bb
  replace B := below_trans B bb
  clear bb
  have sz1 := World.size_alloc (w.alloc (.cells #[.slice adc nc cc, .slice (some ⟨bm, om, none⟩) nm cm, .slice (some ⟨bg, og, none⟩) ng cg, .int .i64 (sf : Int), .int .i64 S.ch] 26)) (.cells #[.int .i64 (l : Int), .int .i64 (f : Int), .int .i64 c.t, .int .i64 c.w] 78)
  rw [sz] at sz1
  clear sz
  have sz := sz1
  clear sz1
  have vp := Vals.newL ((w.alloc (.cells #[.slice adc nc cc, .slice (some ⟨bm, om, none⟩) nm cm, .slice (some ⟨bg, og, none⟩) ng cg, .int .i64 (sf : Int), .int .i64 S.ch] 26)).alloc (.cells #[.int .i64 (l : Int), .int .i64 (f : Int), .int .i64 c.t, .int .i64 c.w] 78)) (w.heap.size + 1 + 1) [.int .i64 (i : Int), .int .i64 (j : Int)] 73 sz.symm
  have bb := below_alloc ((w.alloc (.cells #[.slice adc nc cc, .slice (some ⟨bm, om, none⟩) nm cm, .slice (some ⟨bg, og, none⟩) ng cg, .int .i64 (sf : Int), .int .i64 S.ch] 26)).alloc (.cells #[.int .i64 (l : Int), .int .i64 (f : Int), .int .i64 c.t, .int .i64 c.w] 78)) (.cells #[.int .i64 (i : Int), .int .i64 (j : Int)] 73)
  replace vs := vs.mono bb
  replace vc := vc.mono bb
  replace B := below_trans B bb
  clear sz
  have bb0 := B
  clear bb
  go_enter Tryz.func41, Tryz.ntmps41
  go_upto_region 1 with (fail)
  generalize (((w.alloc (.cells #[.slice adc nc cc, .slice (some ⟨bm, om, none⟩) nm cm, .slice (some ⟨bg, og, none⟩) ng cg, .int .i64 (sf : Int), .int .i64 S.ch] 26)).alloc (.cells #[.int .i64 (l : Int), .int .i64 (f : Int), .int .i64 c.t, .int .i64 c.w] 78)).alloc (.cells #[.int .i64 (i : Int), .int .i64 (j : Int)] 73)) = w0 at *
  replace cd := (bb0.cell (cell_lt cd)).trans cd
  replace cst := (bb0.cell (cell_lt cst)).trans cst
  replace cs1 := (bb0.cell (cell_lt cs1)).trans cs1
  clear bb0
  have cvs1 := vs.cell (i := 1) (by simp)
  simp only [List.getD_cons_zero, List.getD_cons_succ] at cvs1
  have ltvs := vs.lt
  have cvp0 := vp.cell (i := 0) (by simp)
  simp only [List.getD_cons_zero, List.getD_cons_succ] at cvp0
  have ltvp := vp.lt
  go_upto_region 2 with (fail)
  clear cvs1 ltvs cvp0 ltvp
  have vm := Vals.newL w0 w0.heap.size [.int .i64 (d : Int), .slice (some ⟨bs, os, none⟩) ng cs] 97 rfl
  have bb := below_alloc w0 (.cells #[.int .i64 (d : Int), .slice (some ⟨bs, os, none⟩) ng cs] 97)
  replace cs1 := (bb.cell (cell_lt cs1)).trans cs1
  replace vs := vs.mono bb
  replace vc := vc.mono bb
  replace vp := vp.mono bb
  replace B := below_trans B bb
  clear bb cd cst
  generalize w0.alloc (.cells #[.int .i64 (d : Int), .slice (some ⟨bs, os, none⟩) ng cs] 97) = W0 at *
  generalize w0.heap.size = b7 at *
  go_region_held3 (fun w' => w'.cell? ⟨w.heap.size, 3, none⟩ = some (.int .i64 (sf : Int)) ∧ w'.cell? ⟨w.heap.size + 1, 0, none⟩ = some (.int .i64 (l : Int)) ∧ w'.cell? ⟨w.heap.size + 1, 1, none⟩ = some (.int .i64 (f : Int)) ∧ w'.cell? ⟨w.heap.size + 1 + 1, 1, none⟩ = some (.int .i64 (j : Int)) ∧ w'.cell? ⟨b7, 0, none⟩ = some (.int .i64 (d : Int)) ∧ w'.cell? ⟨b7, 1, none⟩ = some (.slice (some ⟨bs, os, none⟩) ng cs) ∧ w'.cell? ⟨bs, os + j, none⟩ = some (.int .i64 (st : Int)))
    (first | exact scells vs vc vp vm cs1 | exact scells vs.drew vc.drew vp.drew vm.drew cs1)
    (first | (go_at_call 54; (with_reducible refine (HHO.out _).mono ?_); rintro e z1 ⟨rfl, b5⟩; replace vs := vs.drew.mono b5; replace vc := vc.drew.mono b5; replace vp := vp.drew.mono b5; replace vm := vm.drew.mono b5; replace cs1 := (b5.cell (cell_lt (w := W0.drew) cs1)).trans cs1; replace B := below_trans B.drew b5; clear b5))
  go_wp2
  go_ret
  exact ⟨rfl, B⟩

theorem InS.drew {w : World} {cv mv gv S} (h : InS w cv mv gv S) : InS w.drew cv mv gv S := h
theorem pcells {w : World} {b1 b2 b3 : Nat} {x0 x1 x2 x3 x4 y0 y1 y2 y3 z0 z1 : Value} (vs : Vals w b1 [x0, x1, x2, x3, x4]) (vc : Vals w b2 [y0, y1, y2, y3]) (vp : Vals w b3 [z0, z1]) :
    w.cell? ⟨b1, 0, none⟩ = some x0 ∧ w.cell? ⟨b1, 1, none⟩ = some x1 ∧ w.cell? ⟨b1, 2, none⟩ = some x2 ∧ w.cell? ⟨b1, 3, none⟩ = some x3 ∧ w.cell? ⟨b1, 4, none⟩ = some x4 ∧
    w.cell? ⟨b2, 0, none⟩ = some y0 ∧ w.cell? ⟨b2, 1, none⟩ = some y1 ∧ w.cell? ⟨b2, 2, none⟩ = some y2 ∧ w.cell? ⟨b2, 3, none⟩ = some y3 ∧ w.cell? ⟨b3, 0, none⟩ = some z0 ∧ w.cell? ⟨b3, 1, none⟩ = some z1 := by
  have s0 := vs.cell (i := 0) (by simp)
  have s1 := vs.cell (i := 1) (by simp)
  have s2 := vs.cell (i := 2) (by simp)
  have s3 := vs.cell (i := 3) (by simp)
  have s4 := vs.cell (i := 4) (by simp)
  have c0 := vc.cell (i := 0) (by simp)
  have c1 := vc.cell (i := 1) (by simp)
  have c2 := vc.cell (i := 2) (by simp)
  have c3 := vc.cell (i := 3) (by simp)
  have p0 := vp.cell (i := 0) (by simp)
  have p1 := vp.cell (i := 1) (by simp)
  exact ⟨s0, s1, s2, s3, s4, c0, c1, c2, c3, p0, p1⟩

set_option maxRecDepth 100000 in
set_option maxHeartbeats 1000000 in
theorem price_calls (S : Scl) (c : Crs) (p : Pk) (cv mv gv : Value) (w : World) (hS : InS w cv mv gv S) (hs : sclOk S = true) (hp : pkOk S p = true) (hc : crsOk c = true) :
    Calls Tryz.prog 42 #[.agg #[cv, mv, gv, .int .i64 S.sf, .int .i64 S.ch], .agg #[.int .i64 c.l, .int .i64 c.f, .int .i64 c.t, .int .i64 c.w], .agg #[.int .i64 p.m, .int .i64 p.g]] w fun e w' => e = .returned (.int .i64 ((priceN S c p : Nat) : Int)) ∧ Below w.heap.size w w' := by
  have tl := tightN_le hs hc hp
  obtain ⟨c1, c2, c3, c4⟩ := crs_facts hc
  have TI := fun (cv mv gv : Value) (w : World) (h : InS w cv mv gv S) => tight_calls S c p cv mv gv w h hs hp hc
  obtain ⟨t, ht⟩ : ∃ t, tightN S c p = t := ⟨_, rfl⟩
  have hpr : priceN S c p = c.w.toNat * ((t : Int) - c.t).natAbs := by unfold priceN; rw [ht]
  rw [hpr]
  rw [ht] at TI tl
  have hm : c.w.toNat * ((t : Int) - c.t).natAbs ≤ 1000 * 4000000000000 := Nat.mul_le_mul (by omega) (by omega)
  have hw : c.w = (c.w.toNat : Int) := by omega
  have k1 : IntKind.i64.wrap ((t : Int) - c.t) = (t : Int) - c.t := IntWalk.i64_in _ (by omega)
  have k2 : wrap64 (-((t : Int) - c.t)) = -((t : Int) - c.t) := wrap64_id (by omega) (by omega)
  have k3 : max ((t : Int) - c.t) (-((t : Int) - c.t)) = ((((t : Int) - c.t).natAbs : Nat) : Int) := by omega
  have k4 : c.w * ((((t : Int) - c.t).natAbs : Nat) : Int) = ((c.w.toNat * ((t : Int) - c.t).natAbs : Nat) : Int) := by rw [Int.natCast_mul, ← hw]
  have k5 : wrap64 (c.w * ((((t : Int) - c.t).natAbs : Nat) : Int)) = ((c.w.toNat * ((t : Int) - c.t).natAbs : Nat) : Int) := by rw [k4]; exact wrap64_id (by omega) (by omega)
  have K2 := Lib.hid k2
  have K3 := Lib.hid k3
  have K5 := Lib.hid k5
  have HTI := Lib.hid TI
  have hs2 := hS
  obtain ⟨⟨adc, cc, rfl, rc⟩, ⟨adm, cm, rfl, rm⟩, ⟨adg, cg, rfl, rg⟩⟩ := hS
  obtain ⟨nc, hnc⟩ : ∃ n, S.cs.length = n := ⟨_, rfl⟩
  obtain ⟨nm, hnm⟩ : ∃ n, S.ms.length = n := ⟨_, rfl⟩
  obtain ⟨ng, hng⟩ : ∃ n, S.gs.length = n := ⟨_, rfl⟩
  rw [hnc, hnm, hng] at hs2 ⊢
  clear TI ht hpr tl hm hw k2 k3 k4 k5 c1 c2 c3 c4 hs hp hc rc rm rg hnc hnm hng
  have vs := Vals.newL w (w.heap.size) [.slice adc nc cc, .slice adm nm cm, .slice adg ng cg, .int .i64 S.sf, .int .i64 S.ch] 26 rfl
  have bb := below_alloc w (.cells #[.slice adc nc cc, .slice adm nm cm, .slice adg ng cg, .int .i64 S.sf, .int .i64 S.ch] 26)
  have B := bb
  have sz0 := World.size_alloc w (.cells #[.slice adc nc cc, .slice adm nm cm, .slice adg ng cg, .int .i64 S.sf, .int .i64 S.ch] 26)
  have sz := sz0
  clear sz0
  clear bb
  have vc := Vals.newL (w.alloc (.cells #[.slice adc nc cc, .slice adm nm cm, .slice adg ng cg, .int .i64 S.sf, .int .i64 S.ch] 26)) (w.heap.size + 1) [.int .i64 c.l, .int .i64 c.f, .int .i64 c.t, .int .i64 c.w] 78 sz.symm
  have bb := below_alloc (w.alloc (.cells #[.slice adc nc cc, .slice adm nm cm, .slice adg ng cg, .int .i64 S.sf, .int .i64 S.ch] 26)) (.cells #[.int .i64 c.l, .int .i64 c.f, .int .i64 c.t, .int .i64 c.w] 78)
  replace vs := vs.mono bb
  replace B := below_trans B bb
  clear bb
  have sz1 := World.size_alloc (w.alloc (.cells #[.slice adc nc cc, .slice adm nm cm, .slice adg ng cg, .int .i64 S.sf, .int .i64 S.ch] 26)) (.cells #[.int .i64 c.l, .int .i64 c.f, .int .i64 c.t, .int .i64 c.w] 78)
  rw [sz] at sz1
  clear sz
  have sz := sz1
  clear sz1
  have vp := Vals.newL ((w.alloc (.cells #[.slice adc nc cc, .slice adm nm cm, .slice adg ng cg, .int .i64 S.sf, .int .i64 S.ch] 26)).alloc (.cells #[.int .i64 c.l, .int .i64 c.f, .int .i64 c.t, .int .i64 c.w] 78)) (w.heap.size + 1 + 1) [.int .i64 p.m, .int .i64 p.g] 73 sz.symm
  have bb := below_alloc ((w.alloc (.cells #[.slice adc nc cc, .slice adm nm cm, .slice adg ng cg, .int .i64 S.sf, .int .i64 S.ch] 26)).alloc (.cells #[.int .i64 c.l, .int .i64 c.f, .int .i64 c.t, .int .i64 c.w] 78)) (.cells #[.int .i64 p.m, .int .i64 p.g] 73)
  replace vs := vs.mono bb
  replace vc := vc.mono bb
  replace B := below_trans B bb
  clear sz
  have bb0 := B
  clear bb
  go_enter Tryz.func42, Tryz.ntmps42
  go_upto_region 1 with (fail)
  generalize (((w.alloc (.cells #[.slice adc nc cc, .slice adm nm cm, .slice adg ng cg, .int .i64 S.sf, .int .i64 S.ch] 26)).alloc (.cells #[.int .i64 c.l, .int .i64 c.f, .int .i64 c.t, .int .i64 c.w] 78)).alloc (.cells #[.int .i64 p.m, .int .i64 p.g] 73)) = w0 at *
  replace hs2 := hs2.mono bb0
  clear bb0
  go_region_held3 (fun w' => w'.cell? ⟨w.heap.size, 0, none⟩ = some (.slice adc nc cc) ∧ w'.cell? ⟨w.heap.size, 1, none⟩ = some (.slice adm nm cm) ∧ w'.cell? ⟨w.heap.size, 2, none⟩ = some (.slice adg ng cg) ∧ w'.cell? ⟨w.heap.size, 3, none⟩ = some (.int .i64 S.sf) ∧ w'.cell? ⟨w.heap.size, 4, none⟩ = some (.int .i64 S.ch) ∧ w'.cell? ⟨w.heap.size + 1, 0, none⟩ = some (.int .i64 c.l) ∧ w'.cell? ⟨w.heap.size + 1, 1, none⟩ = some (.int .i64 c.f) ∧ w'.cell? ⟨w.heap.size + 1, 2, none⟩ = some (.int .i64 c.t) ∧ w'.cell? ⟨w.heap.size + 1, 3, none⟩ = some (.int .i64 c.w) ∧ w'.cell? ⟨w.heap.size + 1 + 1, 0, none⟩ = some (.int .i64 p.m) ∧ w'.cell? ⟨w.heap.size + 1 + 1, 1, none⟩ = some (.int .i64 p.g))
    (first | exact pcells vs vc vp | exact pcells vs.drew vc.drew vp.drew)
    (first | (go_at_call 55; (with_reducible refine (HTI.out _ _ _ _ (InS.drew hs2)).mono ?_); rintro e z1 ⟨rfl, b5⟩; replace vs := vs.drew.mono b5; replace vc := vc.drew.mono b5; replace vp := vp.drew.mono b5; replace B := below_trans B.drew b5; clear b5))
  clear hs2 HTI
  have cvc3 := vc.cell (i := 3) (by simp)
  simp only [List.getD_cons_zero, List.getD_cons_succ] at cvc3
  have ltvc := vc.lt
  go_wp2
  rw [K2.out, K3.out, K5.out]
  go_ret
  exact ⟨rfl, B⟩

end Go.Proofs
end

section
open Go.RowKit Go.Deep
namespace Go.Proofs
set_option linter.unusedVariables false
set_option linter.unusedSimpArgs false

def pullTo (S : Scl) (P : List Pk) : Nat → Nat
  | 0 => 0
  | n + 1 => pullTo S P n + tightN S (S.cs.getD n c0) (P.getD n p0)
theorem fits_parts {S : Scl} {P : List Pk} (h : fitsB S P = true) : P.length = S.cs.length ∧ ∀ i, i < P.length → pkOk S (P.getD i p0) = true := by
  unfold fitsB at h
  simp only [Bool.and_eq_true, decide_eq_true_eq] at h
  exact ⟨h.2, allTo_iff.1 h.1⟩
theorem pullTo_le {S : Scl} {P : List Pk} (hs : sclOk S = true) (hf : fitsB S P = true) : ∀ n, n ≤ P.length → pullTo S P n ≤ 4000000000000 * n
  | 0, _ => by simp [pullTo]
  | n + 1, h => by
    obtain ⟨h1, h2⟩ := fits_parts hf
    have := pullTo_le hs hf n (by omega)
    have := tightN_le hs (sclOk_c hs (i := n) (by omega)) (h2 n (by omega))
    simp only [pullTo]
    omega
theorem ucells {w : World} {b1 b2 bc oc i : Nat} {x0 x1 x2 x3 x4 y0 y1 y2 y3 z0 z1 : Value} (vs : Vals w b1 [x0, x1, x2, x3, x4]) (hc : w.cell? ⟨bc, oc + i * 4, none⟩ = some y0 ∧ w.cell? ⟨bc, oc + i * 4 + 1, none⟩ = some y1 ∧ w.cell? ⟨bc, oc + i * 4 + 2, none⟩ = some y2 ∧ w.cell? ⟨bc, oc + i * 4 + 3, none⟩ = some y3) (vp : Vals w b2 [z0, z1]) :
    w.cell? ⟨b1, 0, none⟩ = some x0 ∧ w.cell? ⟨b1, 1, none⟩ = some x1 ∧ w.cell? ⟨b1, 2, none⟩ = some x2 ∧ w.cell? ⟨b1, 3, none⟩ = some x3 ∧ w.cell? ⟨b1, 4, none⟩ = some x4 ∧
    w.cell? ⟨bc, oc + i * 4, none⟩ = some y0 ∧ w.cell? ⟨bc, oc + i * 4 + 1, none⟩ = some y1 ∧ w.cell? ⟨bc, oc + i * 4 + 2, none⟩ = some y2 ∧ w.cell? ⟨bc, oc + i * 4 + 3, none⟩ = some y3 ∧ w.cell? ⟨b2, 0, none⟩ = some z0 ∧ w.cell? ⟨b2, 1, none⟩ = some z1 := by
  have s0 := vs.cell (i := 0) (by simp)
  have s1 := vs.cell (i := 1) (by simp)
  have s2 := vs.cell (i := 2) (by simp)
  have s3 := vs.cell (i := 3) (by simp)
  have s4 := vs.cell (i := 4) (by simp)
  have p0 := vp.cell (i := 0) (by simp)
  have p1 := vp.cell (i := 1) (by simp)
  exact ⟨s0, s1, s2, s3, s4, hc.1, hc.2.1, hc.2.2.1, hc.2.2.2, p0, p1⟩
theorem RdC.at2 {w : World} {b o c L} (h : RdC w (some ⟨b, o, none⟩) c L) {i : Nat} (hi : i < L.length) {C : Crs} (hC : L.getD i c0 = C) :
    w.cell? ⟨b, o + i * 4, none⟩ = some (.int .i64 C.l) ∧ w.cell? ⟨b, o + i * 4 + 1, none⟩ = some (.int .i64 C.f) ∧ w.cell? ⟨b, o + i * 4 + 2, none⟩ = some (.int .i64 C.t) ∧ w.cell? ⟨b, o + i * 4 + 3, none⟩ = some (.int .i64 C.w) := by
  obtain ⟨b', o', e, k⟩ := h.at hi
  cases e
  rw [hC] at k
  exact k
theorem RdC.drew {w : World} {ad c L} (h : RdC w ad c L) : RdC w.drew ad c L := h
theorem RdM.drew {w : World} {ad c L} (h : RdM w ad c L) : RdM w.drew ad c L := h
theorem RdZ.drew {w : World} {ad c L} (h : RdZ w ad c L) : RdZ w.drew ad c L := h
theorem RdP.drew {w : World} {ad c L} (h : RdP w ad c L) : RdP w.drew ad c L := h

end Go.Proofs
end

section
open Go.RowKit Go.Deep
namespace Go.Proofs
set_option linter.unusedVariables false
set_option linter.unusedSimpArgs false

def samePk (a b : Pk) : Bool := decide (a.m = b.m) && decide (a.g = b.g)
def monoAt (P : List Pk) (i : Nat) : Bool := decide (i = 0) || (decide ((P.getD (i - 1) p0).m ≤ (P.getD i p0).m) && decide ((P.getD (i - 1) p0).g ≤ (P.getD i p0).g))
def okAt (S : Scl) (P : List Pk) (i : Nat) : Bool := monoAt P i && strongB S (S.cs.getD i c0) (P.getD i p0)
def chTo (P : List Pk) : Nat → Nat
  | 0 => 0
  | n + 1 => chTo P n + (if n = 0 then 0 else if samePk (P.getD n p0) (P.getD (n - 1) p0) then 0 else 1)
theorem chTo_le (P : List Pk) : ∀ n, chTo P n ≤ n
  | 0 => Nat.le_refl _
  | n + 1 => by
    have := chTo_le P n
    simp only [chTo]
    split <;> (try split) <;> omega
def costTo (S : Scl) (P : List Pk) : Nat → Nat
  | 0 => 0
  | n + 1 => costTo S P n + priceN S (S.cs.getD n c0) (P.getD n p0)
def allowedB (S : Scl) (P : List Pk) : Bool := allTo (okAt S P) P.length && decide ((chTo P P.length : Int) ≤ S.ch)
theorem priceN_le {S : Scl} {c : Crs} {p : Pk} (hs : sclOk S = true) (hc : crsOk c = true) (hp : pkOk S p = true) : priceN S c p ≤ 4000000000000000 := by
  have tl := tightN_le hs hc hp
  obtain ⟨c1, c2, c3, c4⟩ := crs_facts hc
  unfold priceN
  have : c.w.toNat * ((tightN S c p : Int) - c.t).natAbs ≤ 1000 * 4000000000000 := Nat.mul_le_mul (by omega) (by omega)
  omega
theorem costTo_le {S : Scl} {P : List Pk} (hs : sclOk S = true) (hf : fitsB S P = true) : ∀ n, n ≤ P.length → costTo S P n ≤ 4000000000000000 * n
  | 0, _ => by simp [costTo]
  | n + 1, h => by
    obtain ⟨h1, h2⟩ := fits_parts hf
    have := costTo_le hs hf n (by omega)
    have := priceN_le hs (sclOk_c hs (i := n) (by omega)) (h2 n (by omega))
    simp only [costTo]
    omega
theorem allowed_no {S : Scl} {P : List Pk} {i : Nat} (hi : i < P.length) (h : okAt S P i = false) : allowedB S P = false := by
  unfold allowedB; rw [allTo_false hi h]; rfl
theorem RdP.at2 {w : World} {b o c L} (h : RdP w (some ⟨b, o, none⟩) c L) {i : Nat} (hi : i < L.length) {C : Pk} (hC : L.getD i p0 = C) :
    w.cell? ⟨b, o + i * 2, none⟩ = some (.int .i64 C.m) ∧ w.cell? ⟨b, o + i * 2 + 1, none⟩ = some (.int .i64 C.g) := by
  obtain ⟨b', o', e, k⟩ := h.at hi
  cases e
  rw [hC] at k
  exact k
theorem run_neq_pk (a b c d : Int) (w : World) : (binOp .neq 73 (.agg #[.int .i64 a, .int .i64 b]) (.agg #[.int .i64 c, .int .i64 d])).run Tryz.prog w = .ok (.bool (!(decide (a = c) && decide (b = d)))) w := by
  rw [run_neq_struct, show (10000 : Nat) = 9999 + 1 from rfl, run_equalIn_agg w 9999 73 _ _ (by kernel_rfl) (by kernel_rfl)]
  by_cases h1 : a = c
  · subst h1
    by_cases h2 : b = d
    · subst h2; go_simp
    · go_simp
  · go_simp

end Go.Proofs
end

section
open Go.RowKit
namespace Go.Proofs
set_option linter.unusedVariables false
set_option linter.unusedSimpArgs false

/-- the greatest square below -/
def quoN (d s f y : Nat) : Nat := 10 ^ 20 * (y * s) / (400 * d * f * f)

theorem prod4 (a b c d : Nat) : 10 ^ 0 * prodTo [a, b, c, d] [a, b, c, d].length = a * b * c * d := by
  simp [prodTo, List.getD]

theorem le_root {r q l : Nat} (h1 : r ^ 2 ≤ q) (h2 : q < (r + 1) ^ 2) : l * l ≤ q ↔ l ≤ r := by
  rw [Nat.pow_two] at h1 h2
  constructor
  · intro h
    rcases Nat.lt_or_ge r l with h3 | h3
    · have := Nat.mul_le_mul (show r + 1 ≤ l by omega) (show r + 1 ≤ l by omega)
      omega
    · exact h3
  · intro h
    exact Nat.le_trans (Nat.mul_le_mul h h) h1

theorem holds_root {d s l f y r : Nat} (hd : 1 ≤ d) (hf : 1 ≤ f) (h1 : r ^ 2 ≤ quoN d s f y) (h2 : quoN d s f y < (r + 1) ^ 2) : holdsB d s l f y = decide (l ≤ r) := by
  unfold holdsB
  rw [decide_eq_decide, ← le_root h1 h2]
  unfold quoN
  have hpos : 0 < 400 * d * f * f := Nat.mul_pos (Nat.mul_pos (Nat.mul_pos (by omega) hd) hf) hf
  rw [Nat.le_div_iff_mul_le hpos]
  have : l * l * (400 * d * f * f) = 400 * d * l * l * f * f := by grind
  rw [this]

theorem quoN_bound {d s f y : Nat} (hd : 1 ≤ d) (hf : 1 ≤ f) (hs : s ≤ 100000) (hy : y ≤ 100) : quoN d s f y ≤ 10 ^ 27 := by
  unfold quoN
  have h1 : y * s ≤ 100 * 100000 := Nat.mul_le_mul hy hs
  exact Nat.le_trans (Nat.div_le_self _ _) (by omega)

theorem root_bound {r q : Nat} (h1 : r ^ 2 ≤ q) (h2 : q ≤ 10 ^ 27) : r < 100000000000000 := by
  rcases Nat.lt_or_ge r 100000000000000 with h | h
  · exact h
  · have := Nat.mul_le_mul h h
    rw [Nat.pow_two] at h1
    omega

end Go.Proofs

open Go.RowKit
namespace Go.Proofs
set_option linter.unusedVariables false
set_option linter.unusedSimpArgs false

end Go.Proofs

open Go.RowKit Go.Deep
namespace Go.Proofs
set_option linter.unusedVariables false
set_option linter.unusedSimpArgs false

theorem pk_two {S : Scl} {p : Pk} {nm ng : Nat} (h1 : S.ms.length = nm) (h2 : S.gs.length = ng) : pkOk S p = (decide (0 ≤ p.m ∧ p.m ≤ (nm : Int) - 1) && decide (0 ≤ p.g ∧ p.g ≤ (ng : Int) - 1)) := by
  unfold pkOk
  rw [h1, h2]
  congr 1
  · congr 1; apply propext; omega
  · congr 1; apply propext; omega
theorem fits_len {S : Scl} {P : List Pk} (h : ¬ P.length = S.cs.length) : fitsB S P = false := by
  unfold fitsB; rw [decide_eq_false h, Bool.and_false]
theorem fits_all {S : Scl} {P : List Pk} (h : P.length = S.cs.length) (ha : ∀ i, i < P.length → pkOk S (P.getD i p0) = true) : fitsB S P = true := by
  unfold fitsB; rw [decide_eq_true h, Bool.and_true]; exact allTo_iff.2 ha

end Go.Proofs

open Go.RowKit Go.Deep
namespace Go.Proofs
set_option linter.unusedVariables false
set_option linter.unusedSimpArgs false

end Go.Proofs

open Go.RowKit Go.Deep
namespace Go.Proofs
set_option linter.unusedVariables false
set_option linter.unusedSimpArgs false

theorem vpcells {w : World} {b1 bz oz i : Nat} {x0 x1 x2 x3 x4 z0 z1 : Value} (vs : Vals w b1 [x0, x1, x2, x3, x4]) (c : w.cell? ⟨bz, oz + i * 2, none⟩ = some z0 ∧ w.cell? ⟨bz, oz + i * 2 + 1, none⟩ = some z1) :
    w.cell? ⟨b1, 0, none⟩ = some x0 ∧ w.cell? ⟨b1, 1, none⟩ = some x1 ∧ w.cell? ⟨b1, 2, none⟩ = some x2 ∧ w.cell? ⟨b1, 3, none⟩ = some x3 ∧ w.cell? ⟨b1, 4, none⟩ = some x4 ∧ w.cell? ⟨bz, oz + i * 2, none⟩ = some z0 ∧ w.cell? ⟨bz, oz + i * 2 + 1, none⟩ = some z1 := by
  have s0 := vs.cell (i := 0) (by simp)
  have s1 := vs.cell (i := 1) (by simp)
  have s2 := vs.cell (i := 2) (by simp)
  have s3 := vs.cell (i := 3) (by simp)
  have s4 := vs.cell (i := 4) (by simp)
  exact ⟨s0, s1, s2, s3, s4, c.1, c.2⟩

end Go.Proofs

open Go.RowKit Go.Deep
namespace Go.Proofs
set_option linter.unusedVariables false
set_option linter.unusedSimpArgs false

theorem RdM.at2 {w : World} {ad c L} (h : RdM w ad c L) {i : Nat} (hi : i < L.length) {D : Met} (hD : L.getD i m0 = D) {n : Nat} (hn : D.st.length = n) {j : Nat} (hj : j < n) : ∃ b o bs os cs, ad = some ⟨b, o, none⟩ ∧
    w.cell? ⟨b, o + i * 2, none⟩ = some (.int .i64 D.d) ∧ w.cell? ⟨b, o + i * 2 + 1, none⟩ = some (.slice (some ⟨bs, os, none⟩) n cs) ∧ w.cell? ⟨bs, os + j, none⟩ = some (.int .i64 (D.st.getD j 0)) := by
  obtain ⟨b, o, v, rfl, a0, a1, ads, cs, rfl, hz⟩ := h.at hi
  rw [hD] at a0 a1 hz
  obtain ⟨bs, os, rfl, css⟩ := hz.at (i := j) (by omega)
  rw [hn] at a1
  exact ⟨b, o, bs, os, cs, rfl, a0, a1, css j (by omega)⟩
theorem pk_nat {S : Scl} {p : Pk} (h : pkOk S p = true) : ∃ a b : Nat, p = ⟨(a : Int), (b : Int)⟩ ∧ a < S.ms.length ∧ b < S.gs.length := by
  obtain ⟨⟨p1, p2⟩, ⟨p3, p4⟩⟩ := pk_facts h
  refine ⟨p.m.toNat, p.g.toNat, ?_, by omega, by omega⟩
  obtain ⟨m, g⟩ := p
  simp only [Pk.mk.injEq]
  dsimp only at p1 p3
  omega
theorem allowed_split {S : Scl} {P : List Pk} (h : ∀ j, j < P.length → okAt S P j = true) : allowedB S P = decide ((chTo P P.length : Int) ≤ S.ch) := by
  unfold allowedB; rw [allTo_iff.2 h, Bool.true_and]

theorem bel0 (w : World) : Below w.heap.size w w.drew := (Below.refl _ _).drew
theorem bel1 (w : World) (a : Obj) : Below w.heap.size w (w.alloc a).drew := (below_alloc w a).drew
theorem bel2' (w : World) (a b : Obj) : Below w.heap.size w ((w.alloc a).alloc b) := below_trans (below_alloc w a) (below_alloc _ b)
theorem vals_two (w : World) (l1 l2 : List Value) (t1 t2 : Nat) : Vals ((w.alloc (.cells l1.toArray t1)).alloc (.cells l2.toArray t2)).drew w.heap.size l1 ∧ Vals ((w.alloc (.cells l1.toArray t1)).alloc (.cells l2.toArray t2)).drew (w.heap.size + 1) l2 ∧ Below w.heap.size w ((w.alloc (.cells l1.toArray t1)).alloc (.cells l2.toArray t2)).drew :=
  ⟨((Vals.newL w w.heap.size l1 t1 rfl).alloc _).drew, (Vals.newL (w.alloc (.cells l1.toArray t1)) (w.heap.size + 1) l2 t2 (by simp)).drew, (bel2' w _ _).drew⟩
theorem bcells {w : World} {b1 bc bm bz oz i bs os j : Nat} {x0 x1 x2 x3 x4 y0 y1 y2 y3 z0 z1 m0 m1 st : Value} (vs : Vals w b1 [x0, x1, x2, x3, x4]) (vc : Vals w bc [y0, y1, y2, y3]) (vm : Vals w bm [m0, m1]) (cp : w.cell? ⟨bz, oz + i * 2, none⟩ = some z0 ∧ w.cell? ⟨bz, oz + i * 2 + 1, none⟩ = some z1) (cs : w.cell? ⟨bs, os + j, none⟩ = some st) :
    w.cell? ⟨b1, 3, none⟩ = some x3 ∧ w.cell? ⟨bc, 0, none⟩ = some y0 ∧ w.cell? ⟨bc, 1, none⟩ = some y1 ∧ w.cell? ⟨bm, 0, none⟩ = some m0 ∧ w.cell? ⟨bm, 1, none⟩ = some m1 ∧ w.cell? ⟨bz, oz + i * 2 + 1, none⟩ = some z1 ∧ w.cell? ⟨bs, os + j, none⟩ = some st := by
  have s3 := vs.cell (i := 3) (by simp)
  have c0 := vc.cell (i := 0) (by simp)
  have c1 := vc.cell (i := 1) (by simp)
  have d0 := vm.cell (i := 0) (by simp)
  have d1 := vm.cell (i := 1) (by simp)
  exact ⟨s3, c0, c1, d0, d1, cp.2, cs⟩
theorem bel2 (w : World) (a b : Obj) : Below w.heap.size w ((w.alloc a).alloc b).drew := (bel2' w a b).drew

theorem acells {w : World} {b1 bc oc bz oz bm om i a : Nat} {x0 x1 x2 x3 x4 y0 y1 y2 y3 z0 z1 m0 m1 : Value} (vs : Vals w b1 [x0, x1, x2, x3, x4]) (hc : w.cell? ⟨bc, oc + i * 4, none⟩ = some y0 ∧ w.cell? ⟨bc, oc + i * 4 + 1, none⟩ = some y1 ∧ w.cell? ⟨bc, oc + i * 4 + 2, none⟩ = some y2 ∧ w.cell? ⟨bc, oc + i * 4 + 3, none⟩ = some y3)
    (ca : w.cell? ⟨bz, oz + i * 2, none⟩ = some z0) (cb : w.cell? ⟨bz, oz + i * 2 + 1, none⟩ = some z1) (cm : w.cell? ⟨bm, om + a * 2, none⟩ = some m0) (cn : w.cell? ⟨bm, om + a * 2 + 1, none⟩ = some m1) :
    w.cell? ⟨b1, 0, none⟩ = some x0 ∧ w.cell? ⟨b1, 1, none⟩ = some x1 ∧ w.cell? ⟨bc, oc + i * 4, none⟩ = some y0 ∧ w.cell? ⟨bc, oc + i * 4 + 1, none⟩ = some y1 ∧ w.cell? ⟨bc, oc + i * 4 + 2, none⟩ = some y2 ∧ w.cell? ⟨bc, oc + i * 4 + 3, none⟩ = some y3 ∧
    w.cell? ⟨bz, oz + i * 2, none⟩ = some z0 ∧ w.cell? ⟨bz, oz + i * 2 + 1, none⟩ = some z1 ∧ w.cell? ⟨bm, om + a * 2, none⟩ = some m0 ∧ w.cell? ⟨bm, om + a * 2 + 1, none⟩ = some m1 := by
  have s0 := vs.cell (i := 0) (by simp)
  have s1 := vs.cell (i := 1) (by simp)
  exact ⟨s0, s1, hc.1, hc.2.1, hc.2.2.1, hc.2.2.2, ca, cb, cm, cn⟩
end Go.Proofs

open Go.RowKit Go.Deep
namespace Go.Proofs
set_option linter.unusedVariables false
set_option linter.unusedSimpArgs false

theorem ccells {w : World} {b1 bz oz bk ok i : Nat} {x0 x1 x2 x3 x4 z0 z1 y0 y1 y2 y3 : Value} (vs : Vals w b1 [x0, x1, x2, x3, x4]) (c : w.cell? ⟨bz, oz + i * 2, none⟩ = some z0 ∧ w.cell? ⟨bz, oz + i * 2 + 1, none⟩ = some z1)
    (hc : w.cell? ⟨bk, ok + i * 4, none⟩ = some y0 ∧ w.cell? ⟨bk, ok + i * 4 + 1, none⟩ = some y1 ∧ w.cell? ⟨bk, ok + i * 4 + 2, none⟩ = some y2 ∧ w.cell? ⟨bk, ok + i * 4 + 3, none⟩ = some y3) :
    w.cell? ⟨b1, 0, none⟩ = some x0 ∧ w.cell? ⟨b1, 1, none⟩ = some x1 ∧ w.cell? ⟨b1, 2, none⟩ = some x2 ∧ w.cell? ⟨b1, 3, none⟩ = some x3 ∧ w.cell? ⟨b1, 4, none⟩ = some x4 ∧ w.cell? ⟨bz, oz + i * 2, none⟩ = some z0 ∧ w.cell? ⟨bz, oz + i * 2 + 1, none⟩ = some z1 ∧ w.cell? ⟨bk, ok + i * 4 + 2, none⟩ = some y2 := by
  have s0 := vs.cell (i := 0) (by simp)
  have s1 := vs.cell (i := 1) (by simp)
  have s2 := vs.cell (i := 2) (by simp)
  have s3 := vs.cell (i := 3) (by simp)
  have s4 := vs.cell (i := 4) (by simp)
  exact ⟨s0, s1, s2, s3, s4, c.1, c.2, hc.2.2.1⟩

end Go.Proofs
end

section
open Go.RowKit Go.Deep
namespace Go.Proofs
set_option linter.unusedVariables false
set_option linter.unusedSimpArgs false


end Go.Proofs
end

section
open Go.RowKit Go.Deep
namespace Go.Proofs
set_option linter.unusedVariables false
set_option linter.unusedSimpArgs false

/-- true, and nothing that was there is changed -/
def RetTrue (w : World) (e : Ending) (w' : World) : Prop := e = .returned (.bool true) ∧ Below w.heap.size w w'

theorem vals_ints {w : World} {g : Nat} {vs : List Value} {ns : List Nat} (h : Vals w g vs) (hv : vs = ns.map fun (n : Nat) => Value.int .i64 (n : Int)) : CellI w g ns := by
  subst hv
  refine ⟨h.lt, fun i hi => ⟨?_, h.frozen i⟩⟩
  rw [h.cell (by simpa using hi)]
  simp [List.getD, hi]

end Go.Proofs
end

