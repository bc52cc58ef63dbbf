/- The reference's Best: all picks in order. -/
import Derived.Test.YtmnalmmffphnpaaBestPk
import Derived.Test.YtmnalmmffphnpaaWLaw
import Derived.Test.YtmnalmmffphnpaaWRAllow
import Derived.Test.YtmnalmmffphnpaaWRCost
import Derived.Test.YtmnalmmffphnpaaWShort
import Derived.Deep.CutRange
open Go.RowKit Go.Deep
namespace Go.Proofs
set_option linter.unusedVariables false
set_option linter.unusedSimpArgs false

def bRes (S : Scl) : List Pk := if (bestV S).1 = -1 then [] else bestP S
def bZ (S : Scl) : Int := if (bestV S).1 = -1 then 0 else (bestV S).1
def bE (S : Scl) : Int := if (bestV S).1 = -1 then 6 else 0

set_option maxRecDepth 100000 in
set_option maxHeartbeats 4000000 in
theorem rbest_calls (S : Scl) (cv mv gv : Value) (w : World) (hS : InS w cv mv gv S) (hs : sclOk S = true) :
    Calls Try.prog 21 #[.agg #[cv, mv, gv, .int .i64 S.sf, .int .i64 S.ch]] w fun e w' => ∃ bv, e = .returned (.tuple #[bv, .int .i64 (bZ S), .int .i64 (bE S)]) ∧ InP w' bv (bRes S) ∧ Below w.heap.size w w' := by
  obtain ⟨hl96, hl4, hl16, _, hch⟩ := headOk_lens (headOk_of hs)
  obtain ⟨EB1, EB2⟩ := enum_best hs
  have AL := fun (P : List Pk) (hf : fitsB S P = true) (cv mv gv pv : Value) (W : World) (h : InS W cv mv gv S) (hP : InP W pv P) => rallowed_calls S P cv mv gv pv W h hP hs hf
  have CO := fun (P : List Pk) (hf : fitsB S P = true) (cv mv gv pv : Value) (W : World) (h : InS W cv mv gv S) (hP : InP W pv P) => rcost_calls S P cv mv gv pv W h hP hs hf
  obtain ⟨⟨adc, cc, rfl, rc⟩, ⟨adm, cm, rfl, rm⟩, ⟨adg, cg, rfl, rg⟩⟩ := hS
  have CB := fun (P : List Pk) (hf : fitsB S P = true) => costTo_le hs hf P.length (Nat.le_refl _)
  have EN := fun (ds : List Nat) (hl : ds.length = S.cs.length) (hd : ∀ d ∈ ds, d < S.ms.length * S.gs.length) => enF_of (S := S) (ds := ds) (Nat.mul_pos (by omega) (by omega)) hl hd
  have FI := fun (ds : List Nat) (hl : ds.length = S.cs.length) (hd : ∀ d ∈ ds, d < S.ms.length * S.gs.length) => arrK_fits (S := S) (ds := ds) hl hd
  have PL := fun (d : Nat) (hd : d < S.ms.length * S.gs.length) => pkAt_last (nm := S.ms.length) (ng := S.gs.length) (d := d) (by omega) hd
  have PN := fun (d : Nat) => pkAt_next (ng := S.gs.length) (d := d) (by omega)
  obtain ⟨nc, hnc⟩ : ∃ n, S.cs.length = n := ⟨_, rfl⟩
  obtain ⟨nm, hnm⟩ : ∃ n, S.ms.length = n := ⟨_, rfl⟩
  obtain ⟨ng, hng⟩ : ∃ n, S.gs.length = n := ⟨_, rfl⟩
  rw [hnc] at hl96 EN FI EB1 EB2
  rw [hnm] at hl4 EN FI EB1 EB2 PL
  rw [hng] at hl16 EN FI EB1 EB2 PL PN
  rw [hnc, hnm, hng]
  have h2 := Nat.mul_le_mul hl4.1 hl16.1
  obtain ⟨K, hK⟩ : ∃ K, nm * ng = K := ⟨_, rfl⟩
  rw [hK] at EB1 EB2 EN FI PL h2
  have hK1 : 0 < K := by omega
  obtain ⟨f, hf⟩ : ∃ f : Nat → Int, enF S = f := ⟨_, rfl⟩
  rw [hf] at EB1 EB2 EN
  have HFG := Lib.hid (show ∀ k, -1 ≤ f k from fun k => by rw [← hf]; exact enF_ge S k)
  obtain ⟨A, hA, MK⟩ := run_make_pk nc (by omega)
  have HA := Lib.hid hA
  have HMK := Lib.hid MK
  have HNC := Lib.hid hnc
  have HNM := Lib.hid hnm
  have HNG := Lib.hid hng
  have HEB1 := Lib.hid EB1
  have HEB2 := Lib.hid EB2
  have HAL := Lib.hid AL
  have HCO := Lib.hid CO
  have HEN := Lib.hid EN
  have HFI := Lib.hid FI
  have HPL := Lib.hid PL
  have HPN := Lib.hid PN
  have HCB := Lib.hid CB
  clear CB
  have rc := Lib.hid rc
  have rm := Lib.hid rm
  have rg := Lib.hid rg
  have HSZ := Lib.hid (World.size_alloc w (.cells #[.slice adc nc cc, .slice adm nm cm, .slice adg ng cg, .int .i64 S.sf, .int .i64 S.ch] 26))
  have HK := Lib.hid hK
  clear hA MK hnc hnm hng EB1 EB2 AL CO EN FI PL PN hf hs h2 hch hK
  have vs := Vals.newL w (w.heap.size) [.slice adc nc cc, .slice adm nm cm, .slice adg ng cg, .int .i64 S.sf, .int .i64 S.ch] 26 rfl
  have bb := below_alloc w (.cells #[.slice adc nc cc, .slice adm nm cm, .slice adg ng cg, .int .i64 S.sf, .int .i64 S.ch] 26)
  have B := bb
  clear bb
  go_enter Try.func21, Try.ntmps21
  go_upto_region 1 with (fail)
  generalize (w.alloc (.cells #[.slice adc nc cc, .slice adm nm cm, .slice adg ng cg, .int .i64 S.sf, .int .i64 S.ch] 26)) = w0 at *
  have cvs0 := vs.cell (i := 0) (by simp)
  have cvs1 := vs.cell (i := 1) (by simp)
  have cvs2 := vs.cell (i := 2) (by simp)
  have cvs3 := vs.cell (i := 3) (by simp)
  have cvs4 := vs.cell (i := 4) (by simp)
  simp only [List.getD_cons_zero, List.getD_cons_succ] at cvs0 cvs1 cvs2 cvs3 cvs4
  have ltvs := vs.lt
  have MK := HMK.out
  have hb0 : w0.heap.size = w.heap.size + 1 := HSZ.out
  go_upto_region 2 with (fail)
  clear MK HMK
  have va := Vals.new w0 (w.heap.size + 1) (flat pcl (List.replicate nc p0)) A 52 hb0.symm HA.out
  replace vs := vs.alloc (.cells A 52)
  replace B := below_trans B (below_alloc w0 (.cells A 52))
  generalize w0.alloc (.cells A 52) = W1 at *
  have HR0 := Lib.hid (show ∀ (o : Obj) (v : Value), RB nc K ng w (W1.alloc o) [.slice adc nc cc, .slice adm nm cm, .slice adg ng cg, .int .i64 S.sf, .int .i64 S.ch] (arrK ng (List.replicate nc 0)) (amin f (rkK K (List.replicate nc 0))) v from fun o v => by
    rw [rkK_zero]
    have e : arrK ng (List.replicate nc 0) = List.replicate nc p0 := by
      unfold arrK
      rw [List.reverse_replicate, List.map_replicate]
      congr 1
      unfold pkAt
      rw [Nat.zero_div, Nat.zero_mod]
      rfl
    rw [e]
    exact RB.mono ⟨B, vs, va, List.length_replicate, fun h => absurd rfl h⟩ (below_alloc W1 o))
  clear vs va B HA cvs0 cvs1 cvs2 cvs3 cvs4 ltvs hb0 HSZ
  go_wp2
  go_loopw [6, 7, 8, 9] (fun bv lv c8 c9 wr => ∃ ds : List Nat, ds.length = nc ∧ (∀ d ∈ ds, d < K) ∧ lv = .int .i64 (amin f (rkK K ds)).1 ∧ RB nc K ng w wr [.slice adc nc cc, .slice adm nm cm, .slice adg ng cg, .int .i64 S.sf, .int .i64 S.ch] (arrK ng ds) (amin f (rkK K ds)) bv)
    (fun _ _ _ _ wr => K ^ nc - rkW wr (w.heap.size + 1) ng K nc)
  case atStart => exact ⟨List.replicate nc 0, List.length_replicate, fun d hd => by rw [(List.mem_replicate.1 hd).2]; exact hK1, by rw [rkK_zero]; rfl, HR0.out _ _⟩
  case round =>
    clear HR0
    obtain ⟨ds, hl, hd, rfl, R0⟩ := hrel
    have HRK := Lib.hid (R0.rank (by omega) hl (by omega))
    obtain ⟨N, hN⟩ : ∃ N, rkK K ds = N := ⟨_, rfl⟩
    have hNlt := rkK_lt hK1 ds hd
    rw [hl] at hNlt
    rw [hN] at R0 hNlt ⊢
    obtain ⟨P, hP⟩ : ∃ P, arrK ng ds = P := ⟨_, rfl⟩
    have hfit := HFI.out ds hl hd
    have hen := HEN.out ds hl hd
    rw [hP] at R0 hfit hen
    rw [hN] at hen
    obtain ⟨lv, hlv⟩ : ∃ z, (amin f N).1 = z := ⟨_, rfl⟩
    have hlg := amin_ge HFG.out N
    rw [hlv] at hlg ⊢
    have hcost := HCB.out P hfit
    have hPl : P.length = nc := R0.2.2.2.1
    rw [hPl] at hcost
    have ALW := HAL.out P hfit
    have COW := HCO.out P hfit
    rw [hPl] at COW
    obtain ⟨al, hal⟩ : ∃ b, allowedB S P = b := ⟨_, rfl⟩
    obtain ⟨c, hc⟩ : ∃ c, costTo S P nc = c := ⟨_, rfl⟩
    rw [hal] at hen ALW
    rw [hc] at hen COW hcost
    have hIP := R0.inp (by omega)
    have BX := R0.1
    have IS := Lib.hid (show InS wr _ _ _ S from ⟨⟨adc, cc, by rw [HNC.out], rc.out.mono BX⟩, ⟨adm, cm, by rw [HNM.out], rm.out.mono BX⟩, ⟨adg, cg, by rw [HNG.out], rg.out.mono BX⟩⟩)
    have HALW := Lib.hid ALW
    have HCOW := Lib.hid COW
    have HIP := Lib.hid hIP
    have HLV := Lib.hid hlv
    have HEN2 := Lib.hid hen
    have HNN := Lib.hid hN
    have HP := Lib.hid hP
    have HL := Lib.hid hl
    have HD := Lib.hid hd
    have HNL := Lib.hid hNlt
    clear ALW COW hIP hlv hen hN hP hal hc hPl hl hd hNlt hfit BX
    have vs := R0.2.1
    have cvs0 := vs.cell (i := 0) (by simp)
    have cvs1 := vs.cell (i := 1) (by simp)
    have cvs2 := vs.cell (i := 2) (by simp)
    have cvs3 := vs.cell (i := 3) (by simp)
    have cvs4 := vs.cell (i := 4) (by simp)
    simp only [List.getD_cons_zero, List.getD_cons_succ] at cvs0 cvs1 cvs2 cvs3 cvs4
    have ltvs := vs.lt
    go_wp2_with fail
    clear cvs0 cvs1 cvs2 cvs3 cvs4 ltvs vs
    refine (HALW.out _ _ _ _ _ IS.out HIP.out).mono ?_
    rintro e w1 ⟨rfl, b1⟩
    replace R0 := R0.mono b1
    clear b1 IS HIP HALW
    go_upto_if 17 with (fail)
    go_cut [6, 7, 8] from 15 to 95 (fun b l _ wx => l = .int .i64 (amin f (N + 1)).1 ∧ RB nc K ng w wx [.slice adc nc cc, .slice adm nm cm, .slice adg ng cg, .int .i64 S.sf, .int .i64 S.ch] P (amin f (N + 1)) b)
    case first =>
      cases al with
      | false =>
        have HA1 := Lib.hid (show amin f (N + 1) = amin f N from amin_no (fun h => h.1 HEN2.out))
        go_wp2
        go_meet
        exact ⟨by rw [HA1.out, HLV.out], by rw [HA1.out]; exact R0⟩
      | true =>
        have HF := Lib.hid (show f N = (c : Int) from HEN2.out)
        have BX := R0.1
        have IS := Lib.hid (show InS w1 _ _ _ S from ⟨⟨adc, cc, by rw [HNC.out], rc.out.mono BX⟩, ⟨adm, cm, by rw [HNM.out], rm.out.mono BX⟩, ⟨adg, cg, by rw [HNG.out], rg.out.mono BX⟩⟩)
        have HIP := Lib.hid (R0.inp (by omega))
        clear BX
        have vs := R0.2.1
        have cvs0 := vs.cell (i := 0) (by simp)
        have cvs1 := vs.cell (i := 1) (by simp)
        have cvs2 := vs.cell (i := 2) (by simp)
        have cvs3 := vs.cell (i := 3) (by simp)
        have cvs4 := vs.cell (i := 4) (by simp)
        simp only [List.getD_cons_zero, List.getD_cons_succ] at cvs0 cvs1 cvs2 cvs3 cvs4
        have ltvs := vs.lt
        go_wp2_with fail
        clear cvs0 cvs1 cvs2 cvs3 cvs4 ltvs vs
        refine (HCOW.out _ _ _ _ _ IS.out HIP.out).mono ?_
        rintro e w2 ⟨rfl, b1⟩
        replace R0 := R0.mono b1
        clear b1 IS HIP HCOW
        by_cases q1 : lv = -1 ∨ (c : Int) < lv
        · have HA1 := Lib.hid (show amin f (N + 1) = ((c : Int), N) by rw [← HF.out]; exact amin_yes ⟨by rw [HF.out]; omega, by rw [HF.out, HLV.out]; exact q1⟩)
          have hRP := (pk_block R0.2.2.1 (by have := R0.2.2.2.1; omega)).rdv
          rw [R0.2.2.2.1] at hRP
          have hb0 := below_alloc w2 (.cells #[] 52)
          have hmade := ownsRow_made w2 52 2
          have HS := Lib.hid (hRP.mono hb0)
          have hRB := R0.2.2.1.lt
          clear hRP
          go_upto_region 6 with (fail)
          all_goals
            (go_wp2_with (at_builtin; refine wpList_append_rv rfl (.tmp 28) (.tmp 29) _ rfl w2.heap.size 52 _ 2 16 Try.underlying27 info_pick rfl (by decide) _ 0 [] rfl hmade _ nc nc _ (by rfl) HS.out (flat_one pcl_one _) (by unfold maxLen; omega) (by omega) hb0.size nc (Nat.zero_add _).symm _ (List.nil_append _).symm ?_; intro ad3 c3 w3 hown3 hg3 hn3 hb3 _))
            go_meet
            exact ⟨by rw [HA1.out], by
              rw [HA1.out]
              have R3 := R0.mono (hb0.trans hb3)
              refine ⟨R3.1, R3.2.1, R3.2.2.1, R3.2.2.2.1, fun _ => ?_⟩
              have e : arrK ng (dgK K nc N) = P := by rw [← HP.out, ← HNN.out, ← HL.out, dgK_rk hK1 ds HD.out]
              dsimp only
              rw [e]
              exact ownsRow_base hown3 (by omega)⟩
        · have HA1 := Lib.hid (show amin f (N + 1) = amin f N from amin_no (by rw [HF.out, HLV.out]; exact fun h => q1 h.2))
          have q2 : ¬ (lv < 0) := fun h => q1 (.inl (by omega))
          have q3 : ¬ ((c : Int) < lv) := fun h => q1 (.inr h)
          have q4 : decide ((c : Int) < lv) = false := decide_eq_false q3
          clear q1
          go_wp2
          go_meet
          exact ⟨by rw [HA1.out, HLV.out], by rw [HA1.out]; exact R0⟩
    case rest =>
      clear R0 hcost HCOW HEN2 HLV hlg
      obtain ⟨rfl, R0⟩ := hcut
      obtain ⟨M, hM⟩ : ∃ M, amin f (N + 1) = M := ⟨_, rfl⟩
      have hMg := amin_ge HFG.out (N + 1)
      rw [hM] at R0 hMg
      rw [hM]
      have HM := Lib.hid hM
      clear hM
      obtain ⟨z, hz⟩ : ∃ z, M.1 = z := ⟨_, rfl⟩
      rw [hz] at hMg
      rw [hz]
      have HZ := Lib.hid hz
      clear hz
      have HR1 := Lib.hid R0
      clear R0
      go_wp2
      go_loopw [9] (fun iv wx => ∃ m : Nat, iv = .int .i64 ((m : Int) - 1) ∧ m ≤ nc ∧ ds.take (nc - m) = List.replicate (nc - m) (K - 1) ∧ RB nc K ng w wx [.slice adc nc cc, .slice adm nm cm, .slice adg ng cg, .int .i64 S.sf, .int .i64 S.ch] (arrK ng (dsx (nc - m) ds)) M u6)
        (fun iv _ => (intOf iv + 1).toNat)
      case atStart => exact ⟨nc, rfl, Nat.le_refl _, by rw [Nat.sub_self]; rfl, by rw [Nat.sub_self]; show RB nc K ng w wc [.slice adc nc cc, .slice adm nm cm, .slice adg ng cg, .int .i64 S.sf, .int .i64 S.ch] (arrK ng ds) M u6; rw [HP.out]; exact HR1.out⟩
      case round =>
        clear HR1
        obtain ⟨m, hiv, hm, htk, R0⟩ := hrel
        subst hiv
        cases m with
        | zero =>
          have hfull := rank_full hK1 HL.out htk
          rw [HNN.out] at hfull
          have hM2 : amin f (K ^ nc) = M := by rw [← hfull, HM.out]
          have hv : z = (bestV S).1 := by rw [← HZ.out, ← hM2, HEB1.out]
          by_cases q1 : z = -1
          · have HV := Lib.hid (show (bestV S).1 = -1 by rw [← hv, q1])
            subst q1
            clear hv hM2 hfull hMg
            rw [show (((0 : Nat) : Int) - 1) = -1 from rfl]
            go_upto_region 8 with (fail)
            go_quiet (fail)
            go_wp2
            go_ret3
            exact ⟨_, by unfold bZ bE; rw [if_pos HV.out, if_pos HV.out]; rfl, by unfold bRes; rw [if_pos HV.out]; exact ⟨none, 0, rfl, Nat.le_refl _, Nat.zero_le _, .inl rfl⟩, below_drewN R0.1 _⟩
          · have hrow := R0.2.2.2.2 (by rw [HZ.out]; exact q1)
            have hv2 : (bestV S).1 ≠ -1 := by rw [← hv]; exact q1
            have heb := HEB2.out hv2
            rw [hM2] at heb
            rw [heb] at hrow
            have HV := Lib.hid (show (bestV S).1 ≠ -1 from hv2)
            have HV2 := Lib.hid hv
            have q2 : ¬ (z < 0) := by omega
            have q3 : decide (z < 0) = false := decide_eq_false q2
            have HROW := Lib.hid hrow
            clear hv hv2 heb hM2 hfull q1 hMg hrow
            rw [show (((0 : Nat) : Int) - 1) = -1 from rfl]
            go_upto_region 8 with (fail)
            go_quiet (fail)
            go_wp2
            go_ret3
            refine ⟨_, by unfold bZ bE; rw [if_neg HV.out, if_neg HV.out, ← HV2.out]; rfl, ?_, below_drewN R0.1 _⟩
            unfold bRes
            rw [if_neg HV.out]
            obtain ⟨ad, c, e, hr, _⟩ := ownsRow_rd HROW.out
            exact ⟨ad, c, by rw [e, bestP_len, HNC.out]; rfl, hr.rdp⟩
        | succ i =>
          have hin : i < nc := by omega
          rw [show (((i + 1 : Nat) : Int) - 1) = (i : Int) by omega]
          obtain ⟨j, hj⟩ : ∃ j, nc - (i + 1) = j := ⟨_, rfl⟩
          have hji : nc - i = j + 1 := by omega
          have hij : nc - 1 - j = i := by omega
          have hjl : j < ds.length := by rw [HL.out]; omega
          rw [hj] at htk R0
          have hxl : (dsx j ds).length = nc := by rw [dsx_len (by omega), HL.out]
          have hget : (arrK ng (dsx j ds)).getD i p0 = pkAt ng (ds.getD j 0) := by
            have := arrK_get (ng := ng) (ds := dsx j ds) (j := j) (by omega)
            rw [hxl, hij, dsx_get hjl] at this
            exact this
          have hset : ∀ d, (arrK ng (dsx j ds)).set i (pkAt ng d) = arrK ng ((dsx j ds).set j d) := fun d => by
            have := arrK_set (ng := ng) (ds := dsx j ds) (j := j) (d := d) (by omega)
            rw [hxl, hij] at this
            exact this
          have hdl := getD_ltK HD.out hjl
          have hlast := HPL.out _ hdl
          have hnext := HPN.out (ds.getD j 0)
          obtain ⟨d, hdd⟩ : ∃ d, ds.getD j 0 = d := ⟨_, rfl⟩
          rw [hdd] at hget hdl hlast hnext
          obtain ⟨c1, c2⟩ := pk_cells R0.2.2.1 (by have := R0.2.2.2.1; omega) (by rw [R0.2.2.2.1]; exact hin) hget
          have f1 := R0.2.2.1.frozen (i * 2)
          have f2 := R0.2.2.1.frozen (i * 2 + 1)
          have lta := R0.2.2.1.lt
          unfold pkAt at c1 c2
          dsimp only at c1 c2
          have hr2 : d % ng < ng := Nat.mod_lt _ (by omega)
          obtain ⟨q, hq⟩ : ∃ q, d / ng = q := ⟨_, rfl⟩
          obtain ⟨r, hr⟩ : ∃ r, d % ng = r := ⟨_, rfl⟩
          have hqm : q < nm := by
            rw [← hq]
            refine Nat.div_lt_of_lt_mul ?_
            rw [Nat.mul_comm, HK.out]
            exact hdl
          rw [hq] at c1 hlast hnext
          rw [hr] at c2 hlast hnext hr2
          obtain ⟨fl, hfl⟩ : ∃ b, (decide (q = nm - 1) && decide (r = ng - 1)) = b := ⟨_, rfl⟩
          have hflast : fl = true ↔ d = K - 1 := by rw [← hfl, Bool.and_eq_true, decide_eq_true_eq, decide_eq_true_eq]; exact hlast
          have vs := R0.2.1
          have cvs0 := vs.cell (i := 0) (by simp)
          have cvs1 := vs.cell (i := 1) (by simp)
          have cvs2 := vs.cell (i := 2) (by simp)
          have cvs3 := vs.cell (i := 3) (by simp)
          have cvs4 := vs.cell (i := 4) (by simp)
          simp only [List.getD_cons_zero, List.getD_cons_succ] at cvs0 cvs1 cvs2 cvs3 cvs4
          have ltvs := vs.lt
          have i1 : (0 : Int) ≤ (i : Int) := by omega
          have i2 : (i : Int) < (nc : Int) := by omega
          have HTK := Lib.hid htk
          have HGET := Lib.hid hget
          have HSET := Lib.hid hset
          have HNEXT := Lib.hid hnext
          have HFLAST := Lib.hid hflast
          have HDD := Lib.hid hdd
          have HDL := Lib.hid hdl
          have HQ := Lib.hid hq
          have HR := Lib.hid hr
          have HJI := Lib.hid hji
          have HXL := Lib.hid hxl
          have HJL := Lib.hid hjl
          have HRB := Lib.hid R0
          clear htk hget hset hnext hflast hdd hdl hq hr hji hxl hjl hij hj hlast R0 vs
          go_upto_region 8 with (fail)
          go_cut [60] from 35 to 66 (fun x wx => x = .bool fl ∧ Below wr.heap.size wr wx)
          case first =>
            have HFL := Lib.hid hfl
            clear hfl
            by_cases q1 : q = nm - 1
            · have g1 : ((q : Int) == (nm : Int) - 1) = true := by rw [beq_iff_eq]; omega
              by_cases q2 : r = ng - 1
              · have g2 : ((r : Int) == (ng : Int) - 1) = true := by rw [beq_iff_eq]; omega
                have HF := Lib.hid (show fl = true by rw [← HFL.out, decide_eq_true q1, decide_eq_true q2]; rfl)
                clear q1 q2
                go_quiet (fail)
                go_wp2
                go_meet
                exact ⟨by rw [HF.out], below_drewN (Below.refl _ _) _⟩
              · have g2 : ((r : Int) == (ng : Int) - 1) = false := by rw [beq_eq_false_iff_ne]; omega
                have HF := Lib.hid (show fl = false by rw [← HFL.out, decide_eq_false q2, Bool.and_false])
                clear q1 q2
                go_quiet (fail)
                go_wp2
                go_meet
                exact ⟨by rw [HF.out], below_drewN (Below.refl _ _) _⟩
            · have g1 : ((q : Int) == (nm : Int) - 1) = false := by rw [beq_eq_false_iff_ne]; omega
              have HF := Lib.hid (show fl = false by rw [← HFL.out, decide_eq_false q1]; rfl)
              clear q1
              go_quiet (fail)
              go_wp2
              go_meet
              exact ⟨by rw [HF.out], below_drewN (Below.refl _ _) _⟩
          case rest =>
            obtain ⟨rfl, b1⟩ := hcut
            have R0 := HRB.out.mono b1
            clear c1 c2 f1 f2 lta cvs0 cvs1 cvs2 cvs3 cvs4 ltvs b1 hfl HRB
            obtain ⟨c1, c2⟩ := pk_cells R0.2.2.1 (by have := R0.2.2.2.1; omega) (by rw [R0.2.2.2.1]; exact hin) HGET.out
            have f1 := R0.2.2.1.frozen (i * 2)
            have f2 := R0.2.2.1.frozen (i * 2 + 1)
            have lta := R0.2.2.1.lt
            unfold pkAt at c1 c2
            dsimp only at c1 c2
            rw [HQ.out] at c1
            rw [HR.out] at c2
            have vs := R0.2.1
            have cvs0 := vs.cell (i := 0) (by simp)
            have cvs1 := vs.cell (i := 1) (by simp)
            have cvs2 := vs.cell (i := 2) (by simp)
            have cvs3 := vs.cell (i := 3) (by simp)
            have cvs4 := vs.cell (i := 4) (by simp)
            simp only [List.getD_cons_zero, List.getD_cons_succ] at cvs0 cvs1 cvs2 cvs3 cvs4
            have ltvs := vs.lt
            have HRB := Lib.hid R0
            clear R0 vs
            cases fl with
            | true =>
              have HFE := Lib.hid (HFLAST.out.1 rfl)
              clear HFLAST HNEXT
              go_wp2
              go_roundw
              case rel =>
                refine ⟨i, rfl, by omega, by rw [HJI.out]; exact take_succ HJL.out HTK.out (by rw [HDD.out, HFE.out]), ?_⟩
                have h0 := HRB.out.set hin (pkAt ng 0)
                rw [HSET.out, dsx_succ HJL.out, ← HJI.out] at h0
                have e : pkAt ng 0 = ⟨0, 0⟩ := by unfold pkAt; rw [Nat.zero_div, Nat.zero_mod]; rfl
                rw [e] at h0
                exact h0
              case measure => simp [intOf]
            | false =>
              have HFE := Lib.hid (show ¬ (d = K - 1) from fun h => by have := HFLAST.out.2 h; cases this)
              clear HFLAST
              have hdK : d + 1 < K := by have := HDL.out; have := HFE.out; omega
              have hrn := rank_next hK1 HJL.out HTK.out
              rw [HDD.out] at hrn
              have HRN := Lib.hid hrn
              clear hrn
              have HDS := Lib.hid (show ((dsx j ds).set j (d + 1)).length = nc by rw [List.length_set, HXL.out])
              have HDT := Lib.hid (set_lt (dsx_lt (j := j) HD.out hK1) hdK (j := j))
              go_upto_region 13 with (fail)
              have R1 := HRB.out.setg hin ((r : Int) + 1)
              rw [HGET.out] at R1
              have em : (pkAt ng d).m = (q : Int) := by unfold pkAt; dsimp only; rw [HQ.out]
              rw [em] at R1
              clear em c1 c2 f1 f2 lta cvs0 cvs1 cvs2 cvs3 cvs4 ltvs HRB
              generalize wc.setCell ⟨w.heap.size + 1, i * 2 + 1, none⟩ (.int .i64 ((r : Int) + 1)) = W2 at *
              have HRB2 := Lib.hid R1
              clear R1
              have hg2 : ((arrK ng (dsx j ds)).set i ⟨(q : Int), (r : Int) + 1⟩).getD i p0 = ⟨(q : Int), (r : Int) + 1⟩ := by
                have := HRB2.out.2.2.2.1
                rw [List.length_set] at this
                simp [List.getD, this, hin]
              have HG2 := Lib.hid hg2
              clear hg2
              have R1 := HRB2.out
              obtain ⟨c1, c2⟩ := pk_cells R1.2.2.1 (by have := R1.2.2.2.1; omega) (by rw [R1.2.2.2.1]; exact hin) HG2.out
              have f1 := R1.2.2.1.frozen (i * 2)
              have f2 := R1.2.2.1.frozen (i * 2 + 1)
              have lta := R1.2.2.1.lt
              have vs := R1.2.1
              have cvs0 := vs.cell (i := 0) (by simp)
              have cvs1 := vs.cell (i := 1) (by simp)
              have cvs2 := vs.cell (i := 2) (by simp)
              have cvs3 := vs.cell (i := 3) (by simp)
              have cvs4 := vs.cell (i := 4) (by simp)
              simp only [List.getD_cons_zero, List.getD_cons_succ] at cvs0 cvs1 cvs2 cvs3 cvs4
              have ltvs := vs.lt
              clear R1 vs
              by_cases q3 : r + 1 = ng
              · have g3 : ((r : Int) + 1 == (ng : Int)) = true := by rw [beq_iff_eq]; omega
                have HNX := Lib.hid (show pkAt ng (d + 1) = ⟨(q : Int) + 1, 0⟩ by rw [HNEXT.out, if_pos q3])
                clear q3 HNEXT
                go_quiet (fail)
                have R1 := HRB2.out.mono (below_drewN (Below.refl _ _) nq)
                clear c1 c2 f1 f2 lta cvs0 cvs1 cvs2 cvs3 cvs4 ltvs HRB2
                generalize W2.drewN nq = W3 at *
                obtain ⟨c1, c2⟩ := pk_cells R1.2.2.1 (by have := R1.2.2.2.1; omega) (by rw [R1.2.2.2.1]; exact hin) HG2.out
                have f1 := R1.2.2.1.frozen (i * 2)
                have f2 := R1.2.2.1.frozen (i * 2 + 1)
                have lta := R1.2.2.1.lt
                have vs := R1.2.1
                have cvs0 := vs.cell (i := 0) (by simp)
                have cvs1 := vs.cell (i := 1) (by simp)
                have cvs2 := vs.cell (i := 2) (by simp)
                have cvs3 := vs.cell (i := 3) (by simp)
                have cvs4 := vs.cell (i := 4) (by simp)
                simp only [List.getD_cons_zero, List.getD_cons_succ] at cvs0 cvs1 cvs2 cvs3 cvs4
                have ltvs := vs.lt
                have R2 := R1.set hin ⟨(q : Int) + 1, 0⟩
                rw [set_set_same, ← HNX.out, HSET.out] at R2
                have e : M = amin f (rkK K ((dsx j ds).set j (d + 1))) := by rw [HRN.out, HNN.out, HM.out]
                rw [e] at R2
                rw [HNX.out] at R2
                have HRF := Lib.hid R2
                clear R2 R1 vs e HG2
                go_wp2
                go_roundw
                case rel => exact ⟨_, HDS.out, HDT.out, by rw [HRN.out, HNN.out, HM.out, HZ.out], HRF.out⟩
                case measure =>
                  have e1 := HRF.out.rank (by omega) HDS.out (by omega)
                  have e2 := HRK.out
                  rw [HRN.out] at e1
                  rw [HNN.out] at e1 e2
                  have e3 := HNL.out
                  rw [e1, e2]
                  omega
              · have g3 : ((r : Int) + 1 == (ng : Int)) = false := by rw [beq_eq_false_iff_ne]; omega
                have HNX := Lib.hid (show pkAt ng (d + 1) = ⟨(q : Int), (r : Int) + 1⟩ by rw [HNEXT.out, if_neg q3])
                clear q3 HNEXT
                go_quiet (fail)
                have R2 := HRB2.out.mono (below_drewN (Below.refl _ _) nq)
                rw [← HNX.out, HSET.out] at R2
                have e : M = amin f (rkK K ((dsx j ds).set j (d + 1))) := by rw [HRN.out, HNN.out, HM.out]
                rw [e] at R2
                have HRF := Lib.hid R2
                clear R2 e HG2 HRB2
                go_wp2
                go_roundw
                case rel => exact ⟨_, HDS.out, HDT.out, by rw [HRN.out, HNN.out, HM.out, HZ.out], HRF.out⟩
                case measure =>
                  have e1 := HRF.out.rank (by omega) HDS.out (by omega)
                  have e2 := HRK.out
                  rw [HRN.out] at e1
                  rw [HNN.out] at e1 e2
                  have e3 := HNL.out
                  rw [e1, e2]
                  omega

end Go.Proofs
