/- The reference's Check of a scaling. -/
import Derived.Test.YtmnalmmffphnpaaDoorWChk
import Derived.Test.YtmnalmmffphnpaaDoorRIn
import Derived.Deep.QuietTactic
import Derived.BigQuiet
open Go.RowKit Go.Deep
namespace Go.Proofs
set_option linter.unusedVariables false
set_option linter.unusedSimpArgs false

theorem rin0_calls (z m : Int) (w : World) : Calls Tryd.prog 19 #[.int .i64 z, .int .i64 0, .int .i64 m] w fun e w' => e = .returned (.bool (decide (0 ≤ z ∧ z ≤ m))) ∧ w = w' := by
  by_cases h1 : 0 ≤ z
  · by_cases h2 : z ≤ m
    · have h : decide (0 ≤ z ∧ z ≤ m) = true := by simp [h1, h2]
      rw [h]
      go_enter Tryd.func19, Tryd.ntmps19
      go_wp2
      go_ret
      exact ⟨rfl, rfl⟩
    · have h : decide (0 ≤ z ∧ z ≤ m) = false := by simp [h2]
      rw [h]
      go_enter Tryd.func19, Tryd.ntmps19
      go_wp2
      go_ret
      exact ⟨rfl, rfl⟩
  · have h : decide (0 ≤ z ∧ z ≤ m) = false := by simp [h1]
    rw [h]
    go_enter Tryd.func19, Tryd.ntmps19
    go_wp2
    go_ret
    exact ⟨rfl, rfl⟩

theorem allTo_false {p : Nat → Bool} {i n : Nat} (hi : i < n) (h : p i = false) : allTo p n = false := by
  by_cases hc : allTo p n = true
  · have := allTo_iff.1 hc i hi
    rw [h] at this
    cases this
  · exact Bool.eq_false_iff.2 hc
theorem scl_head {S : Scl} (h : headOk S = false) : sclOk S = false := by unfold sclOk; rw [h]; rfl
theorem scl_g {S : Scl} {i : Nat} (hi : i < S.gs.length) (h : gOk S.gs i = false) : sclOk S = false := by
  unfold sclOk; rw [allTo_false hi h, Bool.and_false]; rfl
theorem scl_m {S : Scl} {i : Nat} (hi : i < S.ms.length) (h : metOk S.gs.length (S.ms.getD i m0) = false) : sclOk S = false := by
  unfold sclOk; rw [allTo_false (p := fun q => metOk S.gs.length (S.ms.getD q m0)) hi h, Bool.and_false]; rfl
theorem scl_c {S : Scl} {i : Nat} (hi : i < S.cs.length) (h : crsOk (S.cs.getD i c0) = false) : sclOk S = false := by
  unfold sclOk; rw [allTo_false (p := fun q => crsOk (S.cs.getD q c0)) hi h, Bool.and_false]
theorem scl_yes {S : Scl} (h : headOk S = true) (hg : ∀ i, i < S.gs.length → gOk S.gs i = true) (hm : ∀ i, i < S.ms.length → metOk S.gs.length (S.ms.getD i m0) = true) (hc : ∀ i, i < S.cs.length → crsOk (S.cs.getD i c0) = true) : sclOk S = true := by
  unfold sclOk
  rw [h, allTo_iff.2 hg, allTo_iff (p := fun q => metOk S.gs.length (S.ms.getD q m0)) |>.2 hm, allTo_iff (p := fun q => crsOk (S.cs.getD q c0)) |>.2 hc]
  rfl
theorem met_parts {n : Nat} {m : Met} (h1 : inR m.d 30000 = true) (h2 : m.st.length = n) (h3 : ∀ j, j < m.st.length → inR (m.st.getD j 0) 100000 = true) : metOk n m = true := by
  rw [metOk_all n h3, h1, h2]; simp
theorem met_no1 {n : Nat} {m : Met} (h1 : inR m.d 30000 = false) : metOk n m = false := by
  unfold metOk; rw [h1, Bool.and_false]; rfl
theorem met_no2 {n : Nat} {m : Met} (h2 : ¬ m.st.length = n) : metOk n m = false := by
  unfold metOk; rw [decide_eq_false h2, Bool.and_false]

set_option maxRecDepth 100000 in
set_option maxHeartbeats 1000000 in
theorem rscheck_calls (S : Scl) (cv mv gv : Value) (w : World) (hS : InS w cv mv gv S) (hI : SclI S) :
    Calls Tryd.prog 8 #[.agg #[cv, mv, gv, .int .i64 S.sf, .int .i64 S.ch]] w fun e w' => e = .returned (.int .i64 (if sclOk S then 0 else 1)) ∧ Below w.heap.size w w' := by
  obtain ⟨R, hR⟩ : ∃ R, (if sclOk S then (0 : Int) else 1) = R := ⟨_, rfl⟩
  rw [hR]
  have HRR := Lib.hid hR
  clear hR
  obtain ⟨⟨adc, cc, rfl, rc⟩, ⟨adm, cm, rfl, rm⟩, ⟨adg, cg, rfl, rg⟩⟩ := hS
  have LC := rc.1
  have LM := rm.1
  have LG := rg.1
  have LC2 := rc.2.1
  have LM2 := rm.2.1
  have LG2 := rg.2.1
  unfold maxLen at LC2 LM2 LG2
  obtain ⟨nc, hnc⟩ : ∃ n, S.cs.length = n := ⟨_, rfl⟩
  obtain ⟨nm, hnm⟩ : ∃ n, S.ms.length = n := ⟨_, rfl⟩
  obtain ⟨ng, hng⟩ : ∃ n, S.gs.length = n := ⟨_, rfl⟩
  rw [hnc] at LC ⊢
  rw [hnm] at LM ⊢
  rw [hng] at LG ⊢
  have HNC := Lib.hid hnc
  have HNM := Lib.hid hnm
  have HNG := Lib.hid hng
  have W1 := fun w : World => rin_calls (nc : Int) 96 w
  have W2 := fun w : World => rin_calls (nm : Int) 4 w
  have W3 := fun w : World => rin_calls (ng : Int) 16 w
  have W4 := fun w : World => rSafety_calls S.sf w
  have W5 := fun w : World => rin0_calls S.ch 96 w
  obtain ⟨b1, hb1⟩ : ∃ b, inR (nc : Int) 96 = b := ⟨_, rfl⟩
  obtain ⟨b2, hb2⟩ : ∃ b, inR (nm : Int) 4 = b := ⟨_, rfl⟩
  obtain ⟨b3, hb3⟩ : ∃ b, inR (ng : Int) 16 = b := ⟨_, rfl⟩
  obtain ⟨b4, hb4⟩ : ∃ b, inR S.sf 100 = b := ⟨_, rfl⟩
  obtain ⟨b5, hb5⟩ : ∃ b, decide (0 ≤ S.ch ∧ S.ch ≤ 96) = b := ⟨_, rfl⟩
  have hr : headOk S = (b1 && b2 && b3 && b4 && b5) := by unfold headOk; rw [hnc, hnm, hng, hb1, hb2, hb3, hb4, hb5]
  rw [hb1] at W1
  rw [hb2] at W2
  rw [hb3] at W3
  rw [hb4] at W4
  rw [hb5] at W5
  have HR := Lib.hid hr
  have H1 := Lib.hid W1
  have H2 := Lib.hid W2
  have H3 := Lib.hid W3
  have H4 := Lib.hid W4
  have H5 := Lib.hid W5
  have HI := Lib.hid hI
  clear W1 W2 W3 W4 W5 hb1 hb2 hb3 hb4 hb5 hr hnc hnm hng hI
  have vs := Vals.newL w (w.heap.size) [.slice adc nc cc, .slice adm nm cm, .slice adg ng cg, .int .i64 S.sf, .int .i64 S.ch] 26 rfl
  have bb := below_alloc w (.cells #[.slice adc nc cc, .slice adm nm cm, .slice adg ng cg, .int .i64 S.sf, .int .i64 S.ch] 26)
  have B := bb
  have bb0 := B
  clear bb
  go_enter Tryd.func8, Tryd.ntmps8
  go_upto_region 1 with (fail)
  generalize (w.alloc (.cells #[.slice adc nc cc, .slice adm nm cm, .slice adg ng cg, .int .i64 S.sf, .int .i64 S.ch] 26)) = w0 at *
  replace rc := rc.mono bb0
  replace rm := rm.mono bb0
  replace rg := rg.mono bb0
  clear bb0
  have cvs0 := vs.cell (i := 0) (by simp)
  have cvs1 := vs.cell (i := 1) (by simp)
  have cvs2 := vs.cell (i := 2) (by simp)
  have cvs3 := vs.cell (i := 3) (by simp)
  have cvs4 := vs.cell (i := 4) (by simp)
  simp only [List.getD_cons_zero, List.getD_cons_succ] at cvs0 cvs1 cvs2 cvs3 cvs4
  have ltvs := vs.lt
  cases b1
  · skip
    go_wp2_with fail
    refine (H1.out _).mono ?_
    rintro e wq ⟨rfl, rfl⟩
    go_wp2
    go_ret
    exact ⟨by rw [← HRR.out, scl_head (by rw [HR.out]; rfl)]; rfl, B⟩
  go_wp2_with fail
  refine (H1.out _).mono ?_
  rintro e wq ⟨rfl, rfl⟩
  cases b2
  · skip
    go_wp2_with fail
    refine (H2.out _).mono ?_
    rintro e wq ⟨rfl, rfl⟩
    go_wp2
    go_ret
    exact ⟨by rw [← HRR.out, scl_head (by rw [HR.out]; rfl)]; rfl, B⟩
  go_wp2_with fail
  refine (H2.out _).mono ?_
  rintro e wq ⟨rfl, rfl⟩
  cases b3
  · skip
    go_wp2_with fail
    refine (H3.out _).mono ?_
    rintro e wq ⟨rfl, rfl⟩
    go_wp2
    go_ret
    exact ⟨by rw [← HRR.out, scl_head (by rw [HR.out]; rfl)]; rfl, B⟩
  go_wp2_with fail
  refine (H3.out _).mono ?_
  rintro e wq ⟨rfl, rfl⟩
  cases b4
  · skip
    go_wp2_with fail
    refine (H4.out _).mono ?_
    rintro e wq ⟨rfl, rfl⟩
    go_wp2
    go_ret
    exact ⟨by rw [← HRR.out, scl_head (by rw [HR.out]; rfl)]; rfl, B⟩
  go_wp2_with fail
  refine (H4.out _).mono ?_
  rintro e wq ⟨rfl, rfl⟩
  cases b5
  · skip
    go_wp2_with fail
    refine (H5.out _).mono ?_
    rintro e wq ⟨rfl, rfl⟩
    go_wp2
    go_ret
    exact ⟨by rw [← HRR.out, scl_head (by rw [HR.out]; rfl)]; rfl, B⟩
  go_wp2_with fail
  refine (H5.out _).mono ?_
  rintro e wq ⟨rfl, rfl⟩
  have HH := Lib.hid (show headOk S = true by rw [HR.out]; rfl)
  clear HR H1 H2 H3 H4 H5
  have WS := fun (z : Int) (w : World) => rDiameter_calls z w
  have HS := Lib.hid WS
  clear WS
  go_wp2
  clear cvs0 cvs1 cvs2 cvs3 cvs4 ltvs
  go_loopw [3] (fun iv wr => ∃ i : Nat, iv = .int .i64 (i : Int) ∧ i ≤ ng ∧ (∀ j, j < i → gOk S.gs j = true) ∧ Below w.heap.size w wr ∧ Vals wr w.heap.size [.slice adc nc cc, .slice adm nm cm, .slice adg ng cg, .int .i64 S.sf, .int .i64 S.ch] ∧ RdC wr adc cc S.cs ∧ RdM wr adm cm S.ms ∧ RdZ wr adg cg S.gs)
    (fun iv _ => ng - (intOf iv).toNat)
  case atStart => exact ⟨0, rfl, Nat.zero_le _, fun j hj => by omega, B, vs, rc, rm, rg⟩
  case round =>
    clear B vs rc rm rg
    obtain ⟨i, rfl, hi, hall, B, vs, rc, rm, rg⟩ := hrel
    have cvs0 := vs.cell (i := 0) (by simp)
    have cvs1 := vs.cell (i := 1) (by simp)
    have cvs2 := vs.cell (i := 2) (by simp)
    simp only [List.getD_cons_zero, List.getD_cons_succ] at cvs0 cvs1 cvs2
    have ltvs := vs.lt
    by_cases hlt : i < ng
    · have hil : i < S.gs.length := by rw [HNG.out]; exact hlt
      obtain ⟨bz, oz, rfl, hcell⟩ := rg.at hil
      have ci := hcell i hil
      obtain ⟨zi, hzi⟩ : ∃ z, S.gs.getD i 0 = z := ⟨_, rfl⟩
      rw [hzi] at ci
      obtain ⟨zp, hzp⟩ : ∃ z, S.gs.getD (i - 1) 0 = z := ⟨_, rfl⟩
      have cp := hcell (i - 1) (by omega)
      rw [hzp] at cp
      obtain ⟨b, hb⟩ : ∃ b, inR zi 2000 = b := ⟨_, rfl⟩
      have WI : ∀ w : World, Calls Tryd.prog 21 #[.int .i64 zi] w fun e w' => e = .returned (.bool b) ∧ w' = w := fun w => (HS.out zi w).mono (fun e w' h => ⟨by rw [← hb]; exact h.1, h.2.symm⟩)
      have hg : gOk S.gs i = (b && (decide (i = 0) || decide (zi < zp))) := by
        unfold gOk
        rw [hzi, hzp, hb]
      have HALL := Lib.hid hall
      have HWI := Lib.hid WI
      have HGI := Lib.hid hg
      clear WI hb hzi hzp hcell hg hall
      go_upto_region 6 with (fail)
      have hrg := Lib.hid rg
      clear rg
      cases b
      · go_quiet ((go_at_call 21; exact Calls.quiet_of_same (HWI.out _)))
        go_wp2
        go_ret
        exact ⟨by rw [← HRR.out, scl_g hil (by rw [HGI.out]; rfl)]; rfl, below_drewN B nq⟩
      by_cases h0 : i = 0
      · have h00 : ¬ 0 < i := by omega
        have HI0 := Lib.hid h0
        clear h0
        go_quiet ((go_at_call 21; exact Calls.quiet_of_same (HWI.out _)))
        go_wp2
        go_roundw
        case rel => exact ⟨i + 1, by go_num, by omega, steps_all (p := gOk S.gs) HALL.out (by rw [HGI.out]; rw [decide_eq_true HI0.out]; rfl), below_drewN B nq, vs, rc, rm, hrg.out⟩
        case measure => simp [intOf]; omega
      have h00 : 0 < i := by omega
      have kw : IntKind.i64.wrap ((i : Int) - 1) = ((i - 1 : Nat) : Int) := by rw [show (i : Int) - 1 = ((i - 1 : Nat) : Int) by omega]; exact IntWalk.i64_in _ (by omega)
      have k1 : (0 : Int) ≤ ((i - 1 : Nat) : Int) := by omega
      have k2 : ((i - 1 : Nat) : Int) < (ng : Int) := by omega
      have k3 : i - 1 < ng := by omega
      by_cases hz : zi < zp
      · have hz2 : ¬ zp ≤ zi := by omega
        go_quiet ((go_at_call 21; exact Calls.quiet_of_same (HWI.out _)))
        go_wp2
        go_roundw
        case rel => exact ⟨i + 1, by go_num, by omega, steps_all (p := gOk S.gs) HALL.out (by rw [HGI.out]; rw [decide_eq_true hz, Bool.or_true]; rfl), below_drewN B nq, vs, rc, rm, hrg.out⟩
        case measure => simp [intOf]; omega
      · have hz2 : zp ≤ zi := by omega
        go_quiet ((go_at_call 21; exact Calls.quiet_of_same (HWI.out _)))
        go_wp2
        go_ret
        exact ⟨by rw [← HRR.out, scl_g hil (by rw [HGI.out]; rw [decide_eq_false h0, decide_eq_false (show ¬ zi < zp by omega)]; rfl)]; rfl, below_drewN B nq⟩
    · obtain rfl : i = ng := by omega
      have HGS := Lib.hid hall
      clear hall
      clear HS
      go_wp2
      go_loopw [4] (fun iv wr => ∃ j : Nat, iv = .int .i64 (j : Int) ∧ j ≤ nm ∧ (∀ q, q < j → metOk i (S.ms.getD q m0) = true) ∧ Below w.heap.size w wr ∧ Vals wr w.heap.size [.slice adc nc cc, .slice adm nm cm, .slice adg i cg, .int .i64 S.sf, .int .i64 S.ch] ∧ RdC wr adc cc S.cs ∧ RdM wr adm cm S.ms ∧ RdZ wr adg cg S.gs)
        (fun iv _ => nm - (intOf iv).toNat)
      case atStart => exact ⟨0, rfl, Nat.zero_le _, fun j hj => by omega, B, vs, rc, rm, rg⟩
      case round =>
        clear B vs rc rm rg
        obtain ⟨j, rfl, hj, hall, B, vs, rc, rm, rg⟩ := hrel
        have cvs0 := vs.cell (i := 0) (by simp)
        have cvs1 := vs.cell (i := 1) (by simp)
        have cvs2 := vs.cell (i := 2) (by simp)
        simp only [List.getD_cons_zero, List.getD_cons_succ] at cvs0 cvs1 cvs2
        have ltvs := vs.lt
        by_cases hlj : j < nm
        · have hil : j < S.ms.length := by rw [HNM.out]; exact hlj
          obtain ⟨bm, om, mv, rfl, cb0, cb1, hz⟩ := rm.at hil
          obtain ⟨adv, cv, rfl, hz⟩ := hz
          have HALL := Lib.hid hall
          obtain ⟨M, hM⟩ : ∃ M, S.ms.getD j m0 = M := ⟨_, rfl⟩
          rw [hM] at cb0 cb1 hz
          obtain ⟨ns, hns⟩ : ∃ d, M.st.length = d := ⟨_, rfl⟩
          rw [hns] at cb1
          have HMM := Lib.hid hM
          have HNS := Lib.hid hns
          clear hall hM hns
          go_upto_region 12 with (fail)
          have vb := Vals.newL wr wr.heap.size [.int .i64 M.d, .slice adv ns cv] 46 rfl
          have bb := below_alloc wr (.cells #[.int .i64 M.d, .slice adv ns cv] 46)
          have hsz := vs.lt
          replace vs := vs.mono bb
          replace rc := rc.mono bb
          replace rm := rm.mono bb
          replace rg := rg.mono bb
          replace hz := hz.mono bb
          replace B := below_trans B bb
          clear cb0 cb1 bb cvs0 cvs1 cvs2 ltvs
          generalize wr.alloc (.cells #[.int .i64 M.d, .slice adv ns cv] 46) = W0 at *
          generalize wr.heap.size = bx at *
          have WD := fun w : World => rDensity_calls M.d w
          obtain ⟨b, hb⟩ : ∃ b, inR M.d 30000 = b := ⟨_, rfl⟩
          rw [hb] at WD
          have HD := Lib.hid WD
          have HB := Lib.hid hb
          clear WD hb
          have cvb0 := vb.cell (i := 0) (by simp)
          have cvb1 := vb.cell (i := 1) (by simp)
          have cvs2 := vs.cell (i := 2) (by simp)
          simp only [List.getD_cons_zero, List.getD_cons_succ] at cvb0 cvb1 cvs2
          cases b
          · go_wp2_with fail
            refine (HD.out _).mono ?_
            rintro e wq ⟨rfl, rfl⟩
            go_wp2
            go_ret
            exact ⟨by rw [← HRR.out, scl_m hil (by rw [HMM.out]; exact met_no1 HB.out)]; rfl, B⟩
          by_cases hne : ns = i
          case neg =>
            have hne2 : ¬ ((ns : Int) = (i : Int)) := by omega
            have hne3 : ((ns : Int) == (i : Int)) = false := by rw [beq_eq_false_iff_ne]; exact hne2
            go_wp2_with fail
            refine (HD.out _).mono ?_
            rintro e wq ⟨rfl, rfl⟩
            go_wp2
            go_ret
            exact ⟨by rw [← HRR.out, scl_m hil (by rw [HMM.out, HNG.out]; exact met_no2 (by rw [HNS.out]; exact hne))]; rfl, B⟩
          subst hne
          go_wp2_with fail
          refine (HD.out _).mono ?_
          rintro e wq ⟨rfl, rfl⟩
          clear HD
          go_wp2
          clear cvb0 cvb1 cvs2
          have WST := fun (z : Int) (w : World) => rStrength_calls z w
          have HST := Lib.hid WST
          clear WST
          go_loopw [6] (fun kv wr => ∃ k : Nat, kv = .int .i64 (k : Int) ∧ k ≤ ns ∧ (∀ q, q < k → inR (M.st.getD q 0) 100000 = true) ∧ wr = W0)
            (fun kv _ => ns - (intOf kv).toNat)
          case atStart => exact ⟨0, rfl, Nat.zero_le _, fun q hq => by omega, rfl⟩
          case round =>
            obtain ⟨k, rfl, hk, hall, rfl⟩ := hrel
            have cvb0 := vb.cell (i := 0) (by simp)
            have cvb1 := vb.cell (i := 1) (by simp)
            simp only [List.getD_cons_zero, List.getD_cons_succ] at cvb0 cvb1
            by_cases hkl : k < ns
            · have hkm : k < M.st.length := by rw [HNS.out]; exact hkl
              obtain ⟨bz, oz, rfl, hcell⟩ := hz.at hkm
              have ck := hcell k hkm
              obtain ⟨zk, hzk⟩ : ∃ z, M.st.getD k 0 = z := ⟨_, rfl⟩
              rw [hzk] at ck
              obtain ⟨b, hb⟩ : ∃ b, inR zk 100000 = b := ⟨_, rfl⟩
              have WK := fun w : World => HST.out zk w
              rw [hb] at WK
              have HWK := Lib.hid WK
              have HZK := Lib.hid hzk
              have HBK := Lib.hid hb
              have HAK := Lib.hid hall
              clear WK hzk hb hall hcell
              cases b
              · go_wp2_with fail
                refine (HWK.out _).mono ?_
                rintro e wq ⟨rfl, rfl⟩
                go_wp2
                go_ret
                exact ⟨by rw [← HRR.out, scl_m hil (by rw [HMM.out]; exact metOk_bad _ hkm (by rw [HZK.out]; exact HBK.out))]; rfl, B⟩
              · go_wp2_with fail
                refine (HWK.out _).mono ?_
                rintro e wq ⟨rfl, rfl⟩
                go_wp2
                go_roundw
                case rel => exact ⟨k + 1, by go_num, by omega, steps_all (p := fun q => inR (M.st.getD q 0) 100000) HAK.out (by show inR (M.st.getD k 0) 100000 = true; rw [HZK.out]; exact HBK.out), trivial⟩
                case measure => simp [intOf]; omega
            · obtain rfl : k = ns := by omega
              have HMK := Lib.hid (met_parts (n := k) HB.out HNS.out (fun q hq => hall q (by rw [← HNS.out]; exact hq)))
              clear hall
              go_wp2
              go_roundw
              case rel => exact ⟨j + 1, by go_num, by omega, steps_all (p := fun q => metOk k (S.ms.getD q m0)) HALL.out (by show metOk k (S.ms.getD j m0) = true; rw [HMM.out]; exact HMK.out), B, vs, rc, rm, rg⟩
              case measure => simp [intOf]; omega
        · obtain rfl : j = nm := by omega
          have HMS := Lib.hid hall
          clear hall
          obtain ⟨nm, hjm⟩ : ∃ q, q = j := ⟨j, rfl⟩
          subst hjm
          go_wp2
          go_loopw [7] (fun iv wr => ∃ j : Nat, iv = .int .i64 (j : Int) ∧ j ≤ nc ∧ (∀ q, q < j → crsOk (S.cs.getD q c0) = true) ∧ Below w.heap.size w wr ∧ Vals wr w.heap.size [.slice adc nc cc, .slice adm nm cm, .slice adg i cg, .int .i64 S.sf, .int .i64 S.ch] ∧ RdC wr adc cc S.cs ∧ RdM wr adm cm S.ms ∧ RdZ wr adg cg S.gs)
            (fun iv _ => nc - (intOf iv).toNat)
          case atStart => exact ⟨0, rfl, Nat.zero_le _, fun j hj => by omega, B, vs, rc, rm, rg⟩
          case round =>
            clear B vs rc rm rg
            obtain ⟨j, rfl, hj, hall, B, vs, rc, rm, rg⟩ := hrel
            have cvs0 := vs.cell (i := 0) (by simp)
            simp only [List.getD_cons_zero, List.getD_cons_succ] at cvs0
            have ltvs := vs.lt
            by_cases hlj : j < nc
            · have hil : j < S.cs.length := by rw [HNC.out]; exact hlj
              obtain ⟨bm, om, rfl, cb0, cb1, cb2, cb3⟩ := rc.at hil
              have HALL := Lib.hid hall
              obtain ⟨M, hM⟩ : ∃ M, S.cs.getD j c0 = M := ⟨_, rfl⟩
              rw [hM] at cb0 cb1 cb2 cb3
              have HMM := Lib.hid hM
              clear hall hM
              go_upto_region 23 with (fail)
              have vb := Vals.newL wr wr.heap.size [.int .i64 M.l, .int .i64 M.f, .int .i64 M.t, .int .i64 M.w] 44 rfl
              have bb := below_alloc wr (.cells #[.int .i64 M.l, .int .i64 M.f, .int .i64 M.t, .int .i64 M.w] 44)
              have hsz := vs.lt
              replace vs := vs.mono bb
              replace rc := rc.mono bb
              replace rm := rm.mono bb
              replace rg := rg.mono bb
              replace B := below_trans B bb
              clear cb0 cb1 cb2 cb3 bb cvs0 ltvs
              generalize wr.alloc (.cells #[.int .i64 M.l, .int .i64 M.f, .int .i64 M.t, .int .i64 M.w] 44) = W0 at *
              generalize wr.heap.size = bx at *
              have W1 := fun w : World => rLength_calls M.l w
              have W2 := fun w : World => rFreq_calls M.f w
              have W3 := fun w : World => rin0_calls M.t 1000000000 w
              have W4 := fun w : World => rin0_calls M.w 1000 w
              obtain ⟨b1, hb1⟩ : ∃ b, inR M.l 100000 = b := ⟨_, rfl⟩
              obtain ⟨b2, hb2⟩ : ∃ b, inR M.f 10000000 = b := ⟨_, rfl⟩
              obtain ⟨b3, hb3⟩ : ∃ b, decide (0 ≤ M.t ∧ M.t ≤ 1000000000) = b := ⟨_, rfl⟩
              obtain ⟨b4, hb4⟩ : ∃ b, decide (0 ≤ M.w ∧ M.w ≤ 1000) = b := ⟨_, rfl⟩
              have hcr : crsOk M = (b1 && b2 && b3 && b4) := by unfold crsOk; rw [hb1, hb2, hb3, hb4]
              rw [hb1] at W1
              rw [hb2] at W2
              rw [hb3] at W3
              rw [hb4] at W4
              have HCR := Lib.hid hcr
              have H1 := Lib.hid W1
              have H2 := Lib.hid W2
              have H3 := Lib.hid W3
              have H4 := Lib.hid W4
              clear W1 W2 W3 W4 hb1 hb2 hb3 hb4 hcr
              have cvb0 := vb.cell (i := 0) (by simp)
              have cvb1 := vb.cell (i := 1) (by simp)
              have cvb2 := vb.cell (i := 2) (by simp)
              have cvb3 := vb.cell (i := 3) (by simp)
              simp only [List.getD_cons_zero, List.getD_cons_succ] at cvb0 cvb1 cvb2 cvb3
              cases b1
              · skip
                go_wp2_with fail
                refine (H1.out _).mono ?_
                rintro e wq ⟨rfl, rfl⟩
                go_wp2
                go_ret
                exact ⟨by rw [← HRR.out, scl_c hil (by rw [HMM.out, HCR.out]; rfl)]; rfl, B⟩
              go_wp2_with fail
              refine (H1.out _).mono ?_
              rintro e wq ⟨rfl, rfl⟩
              cases b2
              · skip
                go_wp2_with fail
                refine (H2.out _).mono ?_
                rintro e wq ⟨rfl, rfl⟩
                go_wp2
                go_ret
                exact ⟨by rw [← HRR.out, scl_c hil (by rw [HMM.out, HCR.out]; rfl)]; rfl, B⟩
              go_wp2_with fail
              refine (H2.out _).mono ?_
              rintro e wq ⟨rfl, rfl⟩
              cases b3
              · skip
                go_wp2_with fail
                refine (H3.out _).mono ?_
                rintro e wq ⟨rfl, rfl⟩
                go_wp2
                go_ret
                exact ⟨by rw [← HRR.out, scl_c hil (by rw [HMM.out, HCR.out]; rfl)]; rfl, B⟩
              go_wp2_with fail
              refine (H3.out _).mono ?_
              rintro e wq ⟨rfl, rfl⟩
              cases b4
              · skip
                go_wp2_with fail
                refine (H4.out _).mono ?_
                rintro e wq ⟨rfl, rfl⟩
                go_wp2
                go_ret
                exact ⟨by rw [← HRR.out, scl_c hil (by rw [HMM.out, HCR.out]; rfl)]; rfl, B⟩
              go_wp2_with fail
              refine (H4.out _).mono ?_
              rintro e wq ⟨rfl, rfl⟩
              go_wp2
              go_roundw
              case rel => exact ⟨j + 1, by go_num, by omega, steps_all (p := fun q => crsOk (S.cs.getD q c0)) HALL.out (by show crsOk (S.cs.getD j c0) = true; rw [HMM.out, HCR.out]; rfl), B, vs, rc, rm, rg⟩
              case measure => simp [intOf]; omega
            · obtain rfl : j = nc := by omega
              go_wp2
              go_ret
              exact ⟨by rw [← HRR.out, scl_yes HH.out (fun q hq => HGS.out q (by rw [← HNG.out]; exact hq)) (fun q hq => by rw [HNG.out]; exact HMS.out q (by rw [← HNM.out]; exact hq)) (fun q hq => hall q (by rw [← HNC.out]; exact hq))]; rfl, B⟩

end Go.Proofs
