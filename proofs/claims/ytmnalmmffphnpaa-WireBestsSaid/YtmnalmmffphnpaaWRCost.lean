/- The reference's Cost. -/
import Derived.Test.YtmnalmmffphnpaaWRAllow
open Go.RowKit Go.Deep
namespace Go.Proofs
set_option linter.unusedVariables false
set_option linter.unusedSimpArgs false

theorem ccells {w : World} {b1 bz oz bk ok i : Nat} {x0 x1 x2 x3 x4 z0 z1 y0 y1 y2 y3 : Value} (vs : Vals w b1 [x0, x1, x2, x3, x4]) (c : w.cell? ⟨bz, oz + i * 2, none⟩ = some z0 ∧ w.cell? ⟨bz, oz + i * 2 + 1, none⟩ = some z1)
    (hc : w.cell? ⟨bk, ok + i * 4, none⟩ = some y0 ∧ w.cell? ⟨bk, ok + i * 4 + 1, none⟩ = some y1 ∧ w.cell? ⟨bk, ok + i * 4 + 2, none⟩ = some y2 ∧ w.cell? ⟨bk, ok + i * 4 + 3, none⟩ = some y3) :
    w.cell? ⟨b1, 0, none⟩ = some x0 ∧ w.cell? ⟨b1, 1, none⟩ = some x1 ∧ w.cell? ⟨b1, 2, none⟩ = some x2 ∧ w.cell? ⟨b1, 3, none⟩ = some x3 ∧ w.cell? ⟨b1, 4, none⟩ = some x4 ∧ w.cell? ⟨bz, oz + i * 2, none⟩ = some z0 ∧ w.cell? ⟨bz, oz + i * 2 + 1, none⟩ = some z1 ∧ w.cell? ⟨bk, ok + i * 4 + 2, none⟩ = some y2 := by
  have s0 := vs.cell (i := 0) (by simp)
  have s1 := vs.cell (i := 1) (by simp)
  have s2 := vs.cell (i := 2) (by simp)
  have s3 := vs.cell (i := 3) (by simp)
  have s4 := vs.cell (i := 4) (by simp)
  exact ⟨s0, s1, s2, s3, s4, c.1, c.2, hc.2.2.1⟩

set_option maxRecDepth 100000 in
set_option maxHeartbeats 1000000 in
theorem rcost_calls (S : Scl) (P : List Pk) (cv mv gv pv : Value) (w : World) (hS : InS w cv mv gv S) (hP : InP w pv P) (hs : sclOk S = true) (hf : fitsB S P = true) :
    Calls Try.prog 18 #[.agg #[cv, mv, gv, .int .i64 S.sf, .int .i64 S.ch], pv] w fun e w' => e = .returned (.int .i64 ((costTo S P P.length : Nat) : Int)) ∧ Below w.heap.size w w' := by
  obtain ⟨fl, fp⟩ := fits_parts hf
  have PL := fun n h => costTo_le (n := n) hs hf h
  have hl96 := (headOk_lens (headOk_of hs)).1
  obtain ⟨RS, hRS⟩ : ∃ r, costTo S P P.length = r := ⟨_, rfl⟩
  rw [hRS]
  obtain ⟨⟨adc, cc, rfl, rc⟩, ⟨adm, cm, rfl, rm⟩, ⟨adg, cg, rfl, rg⟩⟩ := hS
  obtain ⟨adp, cp, rfl, rp⟩ := hP
  have LP := rp.1
  have LP2 := rp.2.1
  unfold maxLen at LP2
  obtain ⟨nc, hnc⟩ : ∃ n, S.cs.length = n := ⟨_, rfl⟩
  obtain ⟨nm, hnm⟩ : ∃ n, S.ms.length = n := ⟨_, rfl⟩
  obtain ⟨ng, hng⟩ : ∃ n, S.gs.length = n := ⟨_, rfl⟩
  obtain ⟨np, hnp⟩ : ∃ n, P.length = n := ⟨_, rfl⟩
  rw [hnc, hnm, hng, hnp]
  rw [hnp] at LP
  have HNC := Lib.hid hnc
  have HNM := Lib.hid hnm
  have HNG := Lib.hid hng
  have HNP := Lib.hid hnp
  rw [hnp] at hRS fl
  rw [hnc] at fl hl96
  have HRS := Lib.hid hRS
  have HPL := Lib.hid PL
  have HFP := Lib.hid fp
  have HOKS := Lib.hid hs
  clear hnc hnm hng hnp hRS PL fp hs hf
  subst fl
  have vs := Vals.newL w (w.heap.size) [.slice adc np cc, .slice adm nm cm, .slice adg ng cg, .int .i64 S.sf, .int .i64 S.ch] 26 rfl
  have bb := below_alloc w (.cells #[.slice adc np cc, .slice adm nm cm, .slice adg ng cg, .int .i64 S.sf, .int .i64 S.ch] 26)
  have B := bb
  have bb0 := B
  clear bb
  go_enter Try.func18, Try.ntmps18
  go_upto_region 1 with (fail)
  generalize (w.alloc (.cells #[.slice adc np cc, .slice adm nm cm, .slice adg ng cg, .int .i64 S.sf, .int .i64 S.ch] 26)) = w0 at *
  replace rc := rc.mono bb0
  replace rm := rm.mono bb0
  replace rg := rg.mono bb0
  replace rp := rp.mono bb0
  clear bb0
  go_wp2
  go_loopw [6, 5] (fun iv sv wr => ∃ i : Nat, iv = .int .i64 (i : Int) ∧ i ≤ np ∧ sv = .int .i64 ((costTo S P i : Nat) : Int) ∧ Below w.heap.size w wr ∧ Vals wr w.heap.size [.slice adc np cc, .slice adm nm cm, .slice adg ng cg, .int .i64 S.sf, .int .i64 S.ch] ∧ RdC wr adc cc S.cs ∧ RdM wr adm cm S.ms ∧ RdZ wr adg cg S.gs ∧ RdP wr adp cp P)
    (fun iv _ _ => np - (intOf iv).toNat)
  case atStart => exact ⟨0, rfl, Nat.zero_le _, rfl, B, vs, rc, rm, rg, rp⟩
  case round =>
    clear B vs rc rm rg rp
    obtain ⟨i, rfl, hi, rfl, B, vs, rc, rm, rg, rp⟩ := hrel
    by_cases hlt : i < np
    · have hil : i < P.length := by rw [HNP.out]; exact hlt
      have hic : i < S.cs.length := by rw [HNC.out]; exact hlt
      obtain ⟨bz, oz, rfl, _⟩ := rp.at hil
      obtain ⟨bk, ok, rfl, _⟩ := rc.at hic
      obtain ⟨M, hM⟩ : ∃ M, P.getD i p0 = M := ⟨_, rfl⟩
      obtain ⟨C, hC⟩ : ∃ C, S.cs.getD i c0 = C := ⟨_, rfl⟩
      have hpm := HFP.out i hil
      rw [hM] at hpm
      have hcc := sclOk_c HOKS.out hic
      rw [hC] at hcc
      have TI := fun (cv mv gv : Value) (w : World) (h : InS w cv mv gv S) => rpulled_calls S i M cv mv gv w h HOKS.out hpm hic
      rw [hC] at TI
      have e1 : costTo S P (i + 1) = costTo S P i + priceN S C M := by rw [← hM, ← hC]; rfl
      have l1 := HPL.out (i + 1) (by omega)
      rw [e1] at l1
      have tl := tightN_le HOKS.out hcc hpm
      have HPR := priceN_le HOKS.out hcc hpm
      obtain ⟨_, _, c3, c4⟩ := crs_facts hcc
      have hpr : priceN S C M = C.w.toNat * ((tightN S C M : Int) - C.t).natAbs := rfl
      obtain ⟨t, ht⟩ : ∃ t, tightN S C M = t := ⟨_, rfl⟩
      rw [ht] at TI tl hpr
      obtain ⟨pr, hp2⟩ : ∃ t, priceN S C M = t := ⟨_, rfl⟩
      rw [hp2] at hpr e1 l1 HPR
      obtain ⟨d, hd⟩ : ∃ d, (t : Int) - C.t = d := ⟨_, rfl⟩
      rw [hd] at hpr
      obtain ⟨sm, hsm⟩ : ∃ s, costTo S P i = s := ⟨_, rfl⟩
      rw [hsm] at e1 l1 ⊢
      have hd1 : -1000000000 ≤ d := by omega
      have hd2 : d ≤ 4000000000000 := by omega
      have HKM := Lib.hid (show C.w * ((d.natAbs : Nat) : Int) = ((pr : Nat) : Int) by rw [hpr, Int.natCast_mul, Int.toNat_of_nonneg (by omega)])
      have HKS := Lib.hid (show wrap64 ((sm : Int) + (pr : Int)) = ((sm + pr : Nat) : Int) by rw [← Int.natCast_add]; exact wrap64_id (by omega) (by omega))
      have HKP := Lib.hid (show wrap64 (pr : Int) = (pr : Int) from wrap64_id (by omega) (by omega))
      have j1 : (0 : Int) ≤ (i : Int) := by omega
      have j2 : (i : Int) < (np : Int) := by omega
      have kw : IntKind.i64.wrap ((t : Int) - C.t) = d := by rw [hd]; exact IntWalk.i64_in _ (by omega)
      have HE1 := Lib.hid e1
      have HTI := Lib.hid TI
      have HMM := Lib.hid hM
      have HCC := Lib.hid hC
      have hs3 := fun (w' : World) (h : Below wr.heap.size wr w') => (show InS w' (.slice (some ⟨bk, ok, none⟩) np cc) (.slice adm nm cm) (.slice adg ng cg) S from ⟨⟨_, cc, by rw [HNC.out], rc.mono h⟩, ⟨adm, cm, by rw [HNM.out], rm.mono h⟩, ⟨adg, cg, by rw [HNG.out], rg.mono h⟩⟩)
      have HS3 := Lib.hid hs3
      have HS := Lib.hid (fun (w' : World) (hb : Below wr.heap.size wr w') => ccells (vs.mono hb) ((rp.mono hb).at2 hil HMM.out) ((rc.mono hb).at2 hic HCC.out))
      clear TI e1 hM hC hsm ht hpm hcc hp2 hpr l1 tl c3 c4 hs3 hd
      go_upto_region 5 with (fail)
      go_region_held3 (fun w' => w'.cell? ⟨w.heap.size, 0, none⟩ = some (.slice (some ⟨bk, ok, none⟩) np cc) ∧ w'.cell? ⟨w.heap.size, 1, none⟩ = some (.slice adm nm cm) ∧ w'.cell? ⟨w.heap.size, 2, none⟩ = some (.slice adg ng cg) ∧ w'.cell? ⟨w.heap.size, 3, none⟩ = some (.int .i64 S.sf) ∧ w'.cell? ⟨w.heap.size, 4, none⟩ = some (.int .i64 S.ch) ∧ w'.cell? ⟨bz, oz + i * 2, none⟩ = some (.int .i64 M.m) ∧ w'.cell? ⟨bz, oz + i * 2 + 1, none⟩ = some (.int .i64 M.g) ∧ w'.cell? ⟨bk, ok + i * 4 + 2, none⟩ = some (.int .i64 C.t))
        (first | exact HS.out _ (Below.refl _ _) | exact HS.out _ (bel0 _))
        (first | (go_at_call 44; (with_reducible refine (HTI.out _ _ _ _ (HS3.out _ (bel0 _))).mono ?_); rintro e z1 ⟨rfl, b5⟩; have b6 := below_trans (bel0 wr) b5; clear b5; have HS2 := Lib.hid (fun (w' : World) (hb : Below z1.heap.size z1 w') => HS.out w' (below_trans b6 hb)); clear HS HS3; have HS := HS2; clear HS2))
      clear HS HTI kw
      replace vs := vs.mono b6
      replace rc := rc.mono b6
      replace rm := rm.mono b6
      replace rg := rg.mono b6
      replace rp := rp.mono b6
      replace B := below_trans B b6
      clear b6
      have cv0 := vs.cell (i := 0) (by simp)
      simp only [List.getD_cons_zero, List.getD_cons_succ] at cv0
      have ltv := vs.lt
      have cc4 := (rc.at2 hic HCC.out).2.2.2
      by_cases hneg : d < 0
      · have k3 := HKM.out
        rw [show ((d.natAbs : Nat) : Int) = -d by omega] at k3
        have HK3 := Lib.hid k3
        clear k3
        go_wp2
        rw [HK3.out, HKP.out, HKS.out]
        go_roundw
        case rel => exact ⟨i + 1, by go_num, by omega, by rw [HE1.out, Int.natCast_add], B, vs, rc, rm, rg, rp⟩
        case measure => simp [intOf]; omega
      · have k3 := HKM.out
        rw [show ((d.natAbs : Nat) : Int) = d by omega] at k3
        have HK3 := Lib.hid k3
        clear k3
        go_wp2
        rw [HK3.out, HKP.out, HKS.out]
        go_roundw
        case rel => exact ⟨i + 1, by go_num, by omega, by rw [HE1.out, Int.natCast_add], B, vs, rc, rm, rg, rp⟩
        case measure => simp [intOf]; omega
    · obtain rfl : i = np := by omega
      rw [HRS.out]
      go_wp2
      go_ret
      exact ⟨rfl, B⟩

end Go.Proofs
