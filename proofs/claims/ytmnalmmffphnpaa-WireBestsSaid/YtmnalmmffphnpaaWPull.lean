/- wire.Pull: the sum of all tensions. -/
import Derived.Test.YtmnalmmffphnpaaWPrice
open Go.RowKit Go.Deep
namespace Go.Proofs
set_option linter.unusedVariables false
set_option linter.unusedSimpArgs false

def pullTo (S : Scl) (P : List Pk) : Nat → Nat
  | 0 => 0
  | n + 1 => pullTo S P n + tightN S (S.cs.getD n c0) (P.getD n p0)
theorem fits_parts {S : Scl} {P : List Pk} (h : fitsB S P = true) : P.length = S.cs.length ∧ ∀ i, i < P.length → pkOk S (P.getD i p0) = true := by
  unfold fitsB at h
  simp only [Bool.and_eq_true, decide_eq_true_eq] at h
  exact ⟨h.2, allTo_iff.1 h.1⟩
theorem pullTo_le {S : Scl} {P : List Pk} (hs : sclOk S = true) (hf : fitsB S P = true) : ∀ n, n ≤ P.length → pullTo S P n ≤ 4000000000000 * n
  | 0, _ => by simp [pullTo]
  | n + 1, h => by
    obtain ⟨h1, h2⟩ := fits_parts hf
    have := pullTo_le hs hf n (by omega)
    have := tightN_le hs (sclOk_c hs (i := n) (by omega)) (h2 n (by omega))
    simp only [pullTo]
    omega
theorem ucells {w : World} {b1 b2 bc oc i : Nat} {x0 x1 x2 x3 x4 y0 y1 y2 y3 z0 z1 : Value} (vs : Vals w b1 [x0, x1, x2, x3, x4]) (hc : w.cell? ⟨bc, oc + i * 4, none⟩ = some y0 ∧ w.cell? ⟨bc, oc + i * 4 + 1, none⟩ = some y1 ∧ w.cell? ⟨bc, oc + i * 4 + 2, none⟩ = some y2 ∧ w.cell? ⟨bc, oc + i * 4 + 3, none⟩ = some y3) (vp : Vals w b2 [z0, z1]) :
    w.cell? ⟨b1, 0, none⟩ = some x0 ∧ w.cell? ⟨b1, 1, none⟩ = some x1 ∧ w.cell? ⟨b1, 2, none⟩ = some x2 ∧ w.cell? ⟨b1, 3, none⟩ = some x3 ∧ w.cell? ⟨b1, 4, none⟩ = some x4 ∧
    w.cell? ⟨bc, oc + i * 4, none⟩ = some y0 ∧ w.cell? ⟨bc, oc + i * 4 + 1, none⟩ = some y1 ∧ w.cell? ⟨bc, oc + i * 4 + 2, none⟩ = some y2 ∧ w.cell? ⟨bc, oc + i * 4 + 3, none⟩ = some y3 ∧ w.cell? ⟨b2, 0, none⟩ = some z0 ∧ w.cell? ⟨b2, 1, none⟩ = some z1 := by
  have s0 := vs.cell (i := 0) (by simp)
  have s1 := vs.cell (i := 1) (by simp)
  have s2 := vs.cell (i := 2) (by simp)
  have s3 := vs.cell (i := 3) (by simp)
  have s4 := vs.cell (i := 4) (by simp)
  have p0 := vp.cell (i := 0) (by simp)
  have p1 := vp.cell (i := 1) (by simp)
  exact ⟨s0, s1, s2, s3, s4, hc.1, hc.2.1, hc.2.2.1, hc.2.2.2, p0, p1⟩
theorem RdC.at2 {w : World} {b o c L} (h : RdC w (some ⟨b, o, none⟩) c L) {i : Nat} (hi : i < L.length) {C : Crs} (hC : L.getD i c0 = C) :
    w.cell? ⟨b, o + i * 4, none⟩ = some (.int .i64 C.l) ∧ w.cell? ⟨b, o + i * 4 + 1, none⟩ = some (.int .i64 C.f) ∧ w.cell? ⟨b, o + i * 4 + 2, none⟩ = some (.int .i64 C.t) ∧ w.cell? ⟨b, o + i * 4 + 3, none⟩ = some (.int .i64 C.w) := by
  obtain ⟨b', o', e, k⟩ := h.at hi
  cases e
  rw [hC] at k
  exact k
theorem RdC.drew {w : World} {ad c L} (h : RdC w ad c L) : RdC w.drew ad c L := h
theorem RdM.drew {w : World} {ad c L} (h : RdM w ad c L) : RdM w.drew ad c L := h
theorem RdZ.drew {w : World} {ad c L} (h : RdZ w ad c L) : RdZ w.drew ad c L := h
theorem RdP.drew {w : World} {ad c L} (h : RdP w ad c L) : RdP w.drew ad c L := h

set_option maxRecDepth 100000 in
theorem wPull_err1 (S : Scl) (P : List Pk) (cv mv gv pv : Value) (w : World) (hS : InS w cv mv gv S) (hI : SclI S) (hP : InP w pv P) (hPI : PksI P) (hk : fitsCode S P = 1) :
    Calls Try.prog 12 #[.agg #[cv, mv, gv, .int .i64 S.sf, .int .i64 S.ch], pv] w fun e w' => e = .returned (.tuple #[.int .i64 0, .int .i64 1]) ∧ Below w.heap.size w w' := by
  have FT := fun (cv mv gv pv : Value) (w : World) (hS : InS w cv mv gv S) (hP : InP w pv P) => fits_calls S P cv mv gv pv w hS hI hP hPI
  rw [hk] at FT
  have HFT := Lib.hid FT
  clear FT hI hPI hk
  obtain ⟨⟨adc, cc, rfl, rc⟩, ⟨adm, cm, rfl, rm⟩, ⟨adg, cg, rfl, rg⟩⟩ := hS
  obtain ⟨adp, cp, rfl, rp⟩ := hP
  have LP := rp.1
  have LP2 := rp.2.1
  unfold maxLen at LP2
  obtain ⟨nc, hnc⟩ : ∃ n, S.cs.length = n := ⟨_, rfl⟩
  obtain ⟨nm, hnm⟩ : ∃ n, S.ms.length = n := ⟨_, rfl⟩
  obtain ⟨ng, hng⟩ : ∃ n, S.gs.length = n := ⟨_, rfl⟩
  obtain ⟨np, hnp⟩ : ∃ n, P.length = n := ⟨_, rfl⟩
  rw [hnc, hnm, hng, hnp]
  rw [hnp] at LP
  have HNC := Lib.hid hnc
  have HNM := Lib.hid hnm
  have HNG := Lib.hid hng
  have HNP := Lib.hid hnp
  clear hnc hnm hng hnp
  have vs := Vals.newL w (w.heap.size) [.slice adc nc cc, .slice adm nm cm, .slice adg ng cg, .int .i64 S.sf, .int .i64 S.ch] 26 rfl
  have bb := below_alloc w (.cells #[.slice adc nc cc, .slice adm nm cm, .slice adg ng cg, .int .i64 S.sf, .int .i64 S.ch] 26)
  have B := bb
  have bb0 := B
  clear bb
  go_enter Try.func12, Try.ntmps12
  go_upto_region 1 with (fail)
  generalize (w.alloc (.cells #[.slice adc nc cc, .slice adm nm cm, .slice adg ng cg, .int .i64 S.sf, .int .i64 S.ch] 26)) = w0 at *
  replace rc := rc.mono bb0
  replace rm := rm.mono bb0
  replace rg := rg.mono bb0
  replace rp := rp.mono bb0
  clear bb0
  have cvs0 := vs.cell (i := 0) (by simp)
  have cvs1 := vs.cell (i := 1) (by simp)
  have cvs2 := vs.cell (i := 2) (by simp)
  have cvs3 := vs.cell (i := 3) (by simp)
  have cvs4 := vs.cell (i := 4) (by simp)
  simp only [List.getD_cons_zero, List.getD_cons_succ] at cvs0 cvs1 cvs2 cvs3 cvs4
  have ltvs := vs.lt
  go_wp2_with fail
  clear cvs0 cvs1 cvs2 cvs3 cvs4 ltvs
  refine (HFT.out _ _ _ _ _ ⟨⟨adc, cc, by rw [HNC.out], rc⟩, ⟨adm, cm, by rw [HNM.out], rm⟩, ⟨adg, cg, by rw [HNG.out], rg⟩⟩ ⟨adp, cp, by rw [HNP.out], rp⟩).mono ?_
  rintro e w1 ⟨rfl, bb⟩
  replace vs := vs.mono bb
  replace rc := rc.mono bb
  replace rm := rm.mono bb
  replace rg := rg.mono bb
  replace rp := rp.mono bb
  replace B := below_trans B bb
  clear bb HFT
  go_wp2
  go_ret2
  exact ⟨rfl, B⟩

set_option maxRecDepth 100000 in
theorem wPull_err2 (S : Scl) (P : List Pk) (cv mv gv pv : Value) (w : World) (hS : InS w cv mv gv S) (hI : SclI S) (hP : InP w pv P) (hPI : PksI P) (hk : fitsCode S P = 2) :
    Calls Try.prog 12 #[.agg #[cv, mv, gv, .int .i64 S.sf, .int .i64 S.ch], pv] w fun e w' => e = .returned (.tuple #[.int .i64 0, .int .i64 2]) ∧ Below w.heap.size w w' := by
  have FT := fun (cv mv gv pv : Value) (w : World) (hS : InS w cv mv gv S) (hP : InP w pv P) => fits_calls S P cv mv gv pv w hS hI hP hPI
  rw [hk] at FT
  have HFT := Lib.hid FT
  clear FT hI hPI hk
  obtain ⟨⟨adc, cc, rfl, rc⟩, ⟨adm, cm, rfl, rm⟩, ⟨adg, cg, rfl, rg⟩⟩ := hS
  obtain ⟨adp, cp, rfl, rp⟩ := hP
  have LP := rp.1
  have LP2 := rp.2.1
  unfold maxLen at LP2
  obtain ⟨nc, hnc⟩ : ∃ n, S.cs.length = n := ⟨_, rfl⟩
  obtain ⟨nm, hnm⟩ : ∃ n, S.ms.length = n := ⟨_, rfl⟩
  obtain ⟨ng, hng⟩ : ∃ n, S.gs.length = n := ⟨_, rfl⟩
  obtain ⟨np, hnp⟩ : ∃ n, P.length = n := ⟨_, rfl⟩
  rw [hnc, hnm, hng, hnp]
  rw [hnp] at LP
  have HNC := Lib.hid hnc
  have HNM := Lib.hid hnm
  have HNG := Lib.hid hng
  have HNP := Lib.hid hnp
  clear hnc hnm hng hnp
  have vs := Vals.newL w (w.heap.size) [.slice adc nc cc, .slice adm nm cm, .slice adg ng cg, .int .i64 S.sf, .int .i64 S.ch] 26 rfl
  have bb := below_alloc w (.cells #[.slice adc nc cc, .slice adm nm cm, .slice adg ng cg, .int .i64 S.sf, .int .i64 S.ch] 26)
  have B := bb
  have bb0 := B
  clear bb
  go_enter Try.func12, Try.ntmps12
  go_upto_region 1 with (fail)
  generalize (w.alloc (.cells #[.slice adc nc cc, .slice adm nm cm, .slice adg ng cg, .int .i64 S.sf, .int .i64 S.ch] 26)) = w0 at *
  replace rc := rc.mono bb0
  replace rm := rm.mono bb0
  replace rg := rg.mono bb0
  replace rp := rp.mono bb0
  clear bb0
  have cvs0 := vs.cell (i := 0) (by simp)
  have cvs1 := vs.cell (i := 1) (by simp)
  have cvs2 := vs.cell (i := 2) (by simp)
  have cvs3 := vs.cell (i := 3) (by simp)
  have cvs4 := vs.cell (i := 4) (by simp)
  simp only [List.getD_cons_zero, List.getD_cons_succ] at cvs0 cvs1 cvs2 cvs3 cvs4
  have ltvs := vs.lt
  go_wp2_with fail
  clear cvs0 cvs1 cvs2 cvs3 cvs4 ltvs
  refine (HFT.out _ _ _ _ _ ⟨⟨adc, cc, by rw [HNC.out], rc⟩, ⟨adm, cm, by rw [HNM.out], rm⟩, ⟨adg, cg, by rw [HNG.out], rg⟩⟩ ⟨adp, cp, by rw [HNP.out], rp⟩).mono ?_
  rintro e w1 ⟨rfl, bb⟩
  replace vs := vs.mono bb
  replace rc := rc.mono bb
  replace rm := rm.mono bb
  replace rg := rg.mono bb
  replace rp := rp.mono bb
  replace B := below_trans B bb
  clear bb HFT
  go_wp2
  go_ret2
  exact ⟨rfl, B⟩

set_option maxRecDepth 100000 in
set_option maxHeartbeats 1000000 in
theorem wPull_ok (S : Scl) (P : List Pk) (cv mv gv pv : Value) (w : World) (hS : InS w cv mv gv S) (hI : SclI S) (hP : InP w pv P) (hPI : PksI P) (hs : sclOk S = true) (hf : fitsB S P = true) :
    Calls Try.prog 12 #[.agg #[cv, mv, gv, .int .i64 S.sf, .int .i64 S.ch], pv] w fun e w' => e = .returned (.tuple #[.int .i64 ((pullTo S P P.length : Nat) : Int), .int .i64 0]) ∧ Below w.heap.size w w' := by
  have FT := fun (cv mv gv pv : Value) (w : World) (hS : InS w cv mv gv S) (hP : InP w pv P) => fits_calls S P cv mv gv pv w hS hI hP hPI
  have hk : fitsCode S P = 0 := by unfold fitsCode; rw [hs, hf]; rfl
  rw [hk] at FT
  have HFT := Lib.hid FT
  obtain ⟨fl, fp⟩ := fits_parts hf
  have PL := fun n h => pullTo_le (n := n) hs hf h
  have hl96 := (headOk_lens (headOk_of hs)).1
  obtain ⟨RS, hRS⟩ : ∃ r, pullTo S P P.length = r := ⟨_, rfl⟩
  rw [hRS]
  clear FT hk
  obtain ⟨⟨adc, cc, rfl, rc⟩, ⟨adm, cm, rfl, rm⟩, ⟨adg, cg, rfl, rg⟩⟩ := hS
  obtain ⟨adp, cp, rfl, rp⟩ := hP
  have LP := rp.1
  have LP2 := rp.2.1
  unfold maxLen at LP2
  obtain ⟨nc, hnc⟩ : ∃ n, S.cs.length = n := ⟨_, rfl⟩
  obtain ⟨nm, hnm⟩ : ∃ n, S.ms.length = n := ⟨_, rfl⟩
  obtain ⟨ng, hng⟩ : ∃ n, S.gs.length = n := ⟨_, rfl⟩
  obtain ⟨np, hnp⟩ : ∃ n, P.length = n := ⟨_, rfl⟩
  rw [hnc, hnm, hng, hnp]
  rw [hnp] at LP
  have HNC := Lib.hid hnc
  have HNM := Lib.hid hnm
  have HNG := Lib.hid hng
  have HNP := Lib.hid hnp
  rw [hnp] at hRS fl
  rw [hnc] at fl hl96
  have HRS := Lib.hid hRS
  have HPL := Lib.hid PL
  have HFP := Lib.hid fp
  have HOKS := Lib.hid hs
  have HPI := Lib.hid hPI
  clear hnc hnm hng hnp hRS PL fp hs hf hI hPI
  subst fl
  have vs := Vals.newL w (w.heap.size) [.slice adc np cc, .slice adm nm cm, .slice adg ng cg, .int .i64 S.sf, .int .i64 S.ch] 26 rfl
  have bb := below_alloc w (.cells #[.slice adc np cc, .slice adm nm cm, .slice adg ng cg, .int .i64 S.sf, .int .i64 S.ch] 26)
  have B := bb
  have bb0 := B
  clear bb
  go_enter Try.func12, Try.ntmps12
  go_upto_region 1 with (fail)
  generalize (w.alloc (.cells #[.slice adc np cc, .slice adm nm cm, .slice adg ng cg, .int .i64 S.sf, .int .i64 S.ch] 26)) = w0 at *
  replace rc := rc.mono bb0
  replace rm := rm.mono bb0
  replace rg := rg.mono bb0
  replace rp := rp.mono bb0
  clear bb0
  have cvs0 := vs.cell (i := 0) (by simp)
  have cvs1 := vs.cell (i := 1) (by simp)
  have cvs2 := vs.cell (i := 2) (by simp)
  have cvs3 := vs.cell (i := 3) (by simp)
  have cvs4 := vs.cell (i := 4) (by simp)
  simp only [List.getD_cons_zero, List.getD_cons_succ] at cvs0 cvs1 cvs2 cvs3 cvs4
  have ltvs := vs.lt
  go_wp2_with fail
  clear cvs0 cvs1 cvs2 cvs3 cvs4 ltvs
  refine (HFT.out _ _ _ _ _ ⟨⟨adc, cc, by rw [HNC.out], rc⟩, ⟨adm, cm, by rw [HNM.out], rm⟩, ⟨adg, cg, by rw [HNG.out], rg⟩⟩ ⟨adp, cp, by rw [HNP.out], rp⟩).mono ?_
  rintro e w1 ⟨rfl, bb⟩
  replace vs := vs.mono bb
  replace rc := rc.mono bb
  replace rm := rm.mono bb
  replace rg := rg.mono bb
  replace rp := rp.mono bb
  replace B := below_trans B bb
  clear bb HFT
  go_wp2
  go_loopw [18, 7] (fun iv sv wr => ∃ i : Nat, iv = .int .i64 (i : Int) ∧ i ≤ np ∧ sv = .int .i64 ((pullTo S P i : Nat) : Int) ∧ Below w.heap.size w wr ∧ Vals wr w.heap.size [.slice adc np cc, .slice adm nm cm, .slice adg ng cg, .int .i64 S.sf, .int .i64 S.ch] ∧ RdC wr adc cc S.cs ∧ RdM wr adm cm S.ms ∧ RdZ wr adg cg S.gs ∧ RdP wr adp cp P)
    (fun iv _ _ => np - (intOf iv).toNat)
  case atStart => exact ⟨0, rfl, Nat.zero_le _, rfl, B, vs, rc, rm, rg, rp⟩
  case round =>
    clear B vs rc rm rg rp
    obtain ⟨i, rfl, hi, rfl, B, vs, rc, rm, rg, rp⟩ := hrel
    by_cases hlt : i < np
    · have hil : i < P.length := by rw [HNP.out]; exact hlt
      have hic : i < S.cs.length := by rw [HNC.out]; exact hlt
      obtain ⟨bz, oz, rfl, ca, cb⟩ := rp.at hil
      obtain ⟨M, hM⟩ : ∃ M, P.getD i p0 = M := ⟨_, rfl⟩
      rw [hM] at ca cb
      obtain ⟨C, hC⟩ : ∃ C, S.cs.getD i c0 = C := ⟨_, rfl⟩
      obtain ⟨bk, ok, rfl, _⟩ := rc.at hic
      have hpm := HFP.out i hil
      rw [hM] at hpm
      have hcc := sclOk_c HOKS.out hic
      rw [hC] at hcc
      have TI := fun (cv mv gv : Value) (w : World) (h : InS w cv mv gv S) => tight_calls S C M cv mv gv w h HOKS.out hpm hcc
      have e1 : pullTo S P (i + 1) = pullTo S P i + tightN S C M := by rw [← hC, ← hM]; rfl
      have l1 := HPL.out (i + 1) (by omega)
      rw [e1] at l1
      obtain ⟨t, ht⟩ : ∃ t, tightN S C M = t := ⟨_, rfl⟩
      rw [ht] at TI e1 l1
      obtain ⟨sm, hsm⟩ : ∃ s, pullTo S P i = s := ⟨_, rfl⟩
      rw [hsm] at e1 l1 ⊢
      have kw : IntKind.i64.wrap ((sm : Int) + (t : Int)) = ((sm + t : Nat) : Int) := by rw [← Int.natCast_add]; exact IntWalk.i64_in _ (by omega)
      have HE1 := Lib.hid e1
      have HTI := Lib.hid TI
      have HCC := Lib.hid hC
      clear TI e1 hM hsm ht hpm hcc hC l1
      go_upto_region 8 with (fail)
      have vb := Vals.newL wr wr.heap.size [.int .i64 M.m, .int .i64 M.g] 52 rfl
      have bb := below_alloc wr (.cells #[.int .i64 M.m, .int .i64 M.g] 52)
      replace vs := vs.mono bb
      replace rc := rc.mono bb
      replace rm := rm.mono bb
      replace rg := rg.mono bb
      replace rp := rp.mono bb
      replace B := below_trans B bb
      clear ca cb bb
      generalize wr.alloc (.cells #[.int .i64 M.m, .int .i64 M.g] 52) = W0 at *
      generalize wr.heap.size = bx at *
      have j1 : (0 : Int) ≤ (i : Int) := by omega
      have j2 : (i : Int) < (np : Int) := by omega
      have hs3 : InS W0.drew (.slice (some ⟨bk, ok, none⟩) np cc) (.slice adm nm cm) (.slice adg ng cg) S := ⟨⟨_, cc, by rw [HNC.out], rc.drew⟩, ⟨adm, cm, by rw [HNM.out], rm.drew⟩, ⟨adg, cg, by rw [HNG.out], rg.drew⟩⟩
      go_region_held3 (fun w' => w'.cell? ⟨w.heap.size, 0, none⟩ = some (.slice (some ⟨bk, ok, none⟩) np cc) ∧ w'.cell? ⟨w.heap.size, 1, none⟩ = some (.slice adm nm cm) ∧ w'.cell? ⟨w.heap.size, 2, none⟩ = some (.slice adg ng cg) ∧ w'.cell? ⟨w.heap.size, 3, none⟩ = some (.int .i64 S.sf) ∧ w'.cell? ⟨w.heap.size, 4, none⟩ = some (.int .i64 S.ch) ∧ w'.cell? ⟨bk, ok + i * 4, none⟩ = some (.int .i64 C.l) ∧ w'.cell? ⟨bk, ok + i * 4 + 1, none⟩ = some (.int .i64 C.f) ∧ w'.cell? ⟨bk, ok + i * 4 + 2, none⟩ = some (.int .i64 C.t) ∧ w'.cell? ⟨bk, ok + i * 4 + 3, none⟩ = some (.int .i64 C.w) ∧ w'.cell? ⟨bx, 0, none⟩ = some (.int .i64 M.m) ∧ w'.cell? ⟨bx, 1, none⟩ = some (.int .i64 M.g))
        (first | exact ucells vs (rc.at2 hic HCC.out) vb | exact ucells vs.drew (rc.drew.at2 hic HCC.out) vb.drew)
        (first | (go_at_call 37; (with_reducible refine (HTI.out _ _ _ _ hs3).mono ?_); rintro e z1 ⟨rfl, b5⟩; replace vs := vs.drew.mono b5; replace vb := vb.drew.mono b5; replace rc := rc.drew.mono b5; replace rm := rm.drew.mono b5; replace rg := rg.drew.mono b5; replace rp := rp.drew.mono b5; replace B := below_trans B.drew b5; clear b5))
      go_wp2
      go_roundw
      case rel => exact ⟨i + 1, by go_num, by omega, by rw [HE1.out, Int.natCast_add], B, vs, rc, rm, rg, rp⟩
      case measure => simp [intOf]; omega
    · obtain rfl : i = np := by omega
      rw [HRS.out]
      go_wp2
      go_ret2
      exact ⟨rfl, B⟩

end Go.Proofs
