/- The walk of TopStocked: whatever comes in, it returns true and changes nothing that was there. A scaling and picks that come in: what can be read of them. Closed facts of the whole program, asked once. What the rows list, and what the walks ask of it. -/
import Derived.Test.YtghbjhcbldnenaaGreatDoorPk20
import Derived.Deep.CutRange
import Derived.Test.YtghbjhcbldnenaaGreatDoorPk13
import Derived.Deep.Slices
import Derived.Deep.Fields
import Derived.ChangeSame
import Derived.Lib.SmallJoins
import Derived.OpenShut
import Derived.Test.YtghbjhcbldnenaaGreatDoorRows
import GoSem.ClaimSeven
import Derived.Deep.DeepHandedRow
import Derived.ProofKit
import Derived.Test.YtghbjhcbldnenaaGreatDoorPk11
import Derived.LaidSub

section
open Go.RowKit Go.Deep Go.Maps
namespace Go.Proofs
set_option linter.unusedVariables false
set_option linter.unusedSimpArgs false

set_option maxRecDepth 100000 in
set_option maxHeartbeats 8000000 in
theorem walk_stocked (S : Scl) (tail before : Int) (cv mv gv : Value) (w : World) (hS : InS w cv mv gv S) (hI : SclI S) (htb : Tab w) :
    Calls Tryz.prog 3 #[.agg #[cv, mv, gv, .int .i64 S.sf, .int .i64 S.ch], .int .i64 tail, .int .i64 before] w (RetTrueS w) := by
  obtain ⟨kt, hkt, et⟩ := smask_1023 tail
  obtain ⟨kb, hkb, eb⟩ := smask_1023 before
  obtain ⟨hc, hm, hg⟩ := hS
  obtain ⟨adc, cc, rfl, rc⟩ := hc
  obtain ⟨adg, cg, rfl, rg⟩ := hg
  obtain ⟨adm, cm, rfl, rm⟩ := hm
  obtain ⟨nc, hnc⟩ : ∃ n, S.cs.length = n := ⟨_, rfl⟩
  obtain ⟨nm, hnm⟩ : ∃ n, S.ms.length = n := ⟨_, rfl⟩
  obtain ⟨ng, hng⟩ : ∃ n, S.gs.length = n := ⟨_, rfl⟩
  have lc := rc.1
  have lc2 := rc.2.1
  have lg := rg.1
  have lg2 := rg.2.1
  unfold maxLen at lc2 lg2
  rw [hnc] at lc ⊢
  rw [hng] at lg ⊢
  rw [hnm]
  have HNC := Lib.hid hnc
  have HNM := Lib.hid hnm
  have HNG := Lib.hid hng
  have HRC := Lib.hid rc
  have HRM := Lib.hid rm
  have HRG := Lib.hid rg
  have HI := Lib.hid hI
  have HTB := Lib.hid htb
  have HET := Lib.hid et
  have HEB := Lib.hid eb
  clear hnc hnm hng rc rm rg hI htb et eb
  have v0 := Vals.newL w w.heap.size [.slice adc nc cc, .slice adm nm cm, .slice adg ng cg, .int .i64 S.sf, .int .i64 S.ch] 26 rfl
  have b0 := below_alloc w (.cells #[.slice adc nc cc, .slice adm nm cm, .slice adg ng cg, .int .i64 S.sf, .int .i64 S.ch] 26)
  have sz0 : w.heap.size < (w.alloc (.cells #[.slice adc nc cc, .slice adm nm cm, .slice adg ng cg, .int .i64 S.sf, .int .i64 S.ch] 26)).heap.size := by rw [World.size_alloc]; omega
  go_enter Tryz.func3, Tryz.ntmps3
  go_upto_region 1 with (fail)
  generalize w.alloc (.cells #[.slice adc nc cc, .slice adm nm cm, .slice adg ng cg, .int .i64 S.sf, .int .i64 S.ch] 26) = w0 at *
  obtain ⟨X, hX⟩ : ∃ X, w.heap.size = X := ⟨_, rfl⟩
  rw [hX] at v0 sz0 ⊢
  have HX := Lib.hid hX
  have HV := Lib.hid v0
  have HB := Lib.hid b0
  have x0 := v0.cell (i := 0) (by simp)
  simp only [List.getD_cons_zero, List.getD_cons_succ] at x0
  have fz := v0.frozen 0
  clear v0 b0 hX
  go_upto_if 26 with (fail)
  go_cut [] from 26 to 31 (fun wx => ∃ (n : Nat), InC w (.slice adc n cc) (S.cs.take 12) ∧ Vals wx X [.slice adc n cc, .slice adm nm cm, .slice adg ng cg, .int .i64 S.sf, .int .i64 S.ch] ∧ Below w.heap.size w wx ∧ X < wx.heap.size)
  case first =>
    by_cases h1 : 12 < nc
    · obtain ⟨bc, oc, rfl⟩ := InC.at0 HRC.out (by rw [HNC.out]; omega)
      have HC := Lib.hid (InC.cut HRC.out 12 (by rw [HNC.out]; omega))
      have VS := Lib.hid (HV.out.set 0 (.slice (some ⟨bc, oc, none⟩) 12 cc))
      have BS := Lib.hid (HB.out.setCell (p := ⟨X, 0, none⟩) (by show w.heap.size ≤ X; rw [HX.out]; exact Nat.le_refl _) (.slice (some ⟨bc, oc, none⟩) 12 cc))
      go_wp2
      go_meet
      case rel => exact ⟨12, HC.out, VS.out, BS.out, by simpa only [size_set] using sz0⟩
    · have HC := Lib.hid (show InC w (.slice adc nc cc) (S.cs.take 12) from ⟨adc, cc, by rw [List.length_take, HNC.out, Nat.min_eq_right (by omega)], HRC.out.take 12⟩)
      go_wp2
      go_meet
      case rel => exact ⟨nc, HC.out, HV.out, HB.out, sz0⟩
  case rest =>
  obtain ⟨n12, hc12, v1, b1, sz1⟩ := hcut
  clear x0 fz HV HB sz0
  have HC := Lib.hid hc12
  have HV := Lib.hid v1
  have HB := Lib.hid b1
  have x0 := v1.cell (i := 2) (by simp)
  simp only [List.getD_cons_zero, List.getD_cons_succ] at x0
  have fz := v1.frozen 2
  clear hc12 v1 b1
  go_upto_if 34 with (fail)
  go_cut [] from 34 to 39 (fun wx => ∃ (n : Nat), InZ w (.slice adg n cg) (S.gs.take 6) ∧ Vals wx X [.slice adc n12 cc, .slice adm nm cm, .slice adg n cg, .int .i64 S.sf, .int .i64 S.ch] ∧ Below w.heap.size w wx ∧ X < wx.heap.size)
  case first =>
    by_cases h1 : 6 < ng
    · obtain ⟨bc, oc, rfl, -⟩ := HRG.out.at (i := 0) (by rw [HNG.out]; omega)
      have HG := Lib.hid (InZ.cut HRG.out 6 (by rw [HNG.out]; omega))
      have VS := Lib.hid (HV.out.set 2 (.slice (some ⟨bc, oc, none⟩) 6 cg))
      have BS := Lib.hid (HB.out.setCell (p := ⟨X, 2, none⟩) (by show w.heap.size ≤ X; rw [HX.out]; exact Nat.le_refl _) (.slice (some ⟨bc, oc, none⟩) 6 cg))
      go_wp2
      go_meet
      case rel => exact ⟨6, HG.out, VS.out, BS.out, by simpa only [size_set] using sz1⟩
    · have HG := Lib.hid (show InZ w (.slice adg ng cg) (S.gs.take 6) from ⟨adg, cg, by rw [List.length_take, HNG.out, Nat.min_eq_right (by omega)], HRG.out.takeS 6⟩)
      go_wp2
      go_meet
      case rel => exact ⟨ng, HG.out, HV.out, HB.out, sz1⟩
  case rest =>
  obtain ⟨n6, hg6, v2, b2, sz2⟩ := hcut
  clear x0 fz HV HB sz1
  have hin : InS w (.slice adc n12 cc) (.slice adm nm cm) (.slice adg n6 cg) (cutS S) := ⟨HC.out, ⟨adm, cm, by rw [← HNM.out]; rfl, HRM.out⟩, hg6⟩
  have hti : SclI (cutS S) := cutS_I HI.out
  have hts : (cutS S).sf = S.sf ∧ (cutS S).ch = S.ch := ⟨rfl, rfl⟩
  have hl6 : (cutS S).gs.length ≤ 6 := by show (S.gs.take 6).length ≤ 6; rw [List.length_take]; omega
  obtain ⟨T, hT⟩ : ∃ T, cutS S = T := ⟨_, rfl⟩
  rw [hT] at hin hti hts hl6
  obtain ⟨sf, ch, e1, e2⟩ : ∃ sf ch, S.sf = sf ∧ S.ch = ch := ⟨_, _, rfl, rfl⟩
  rw [e1, e2] at v2 hts ⊢
  have HTS := Lib.hid hts
  have HT6 := Lib.hid hl6
  have HIN := Lib.hid (hin.mono b2)
  have HTI := Lib.hid hti
  have HTB2 := Lib.hid (HTB.out.mono b2)
  have HV := Lib.hid v2
  have HBW := Lib.hid b2
  obtain ⟨B, hB⟩ : ∃ B, wc.heap.size = B := ⟨_, rfl⟩
  have hXB : X < B := by omega
  have HSZ := Lib.hid hB
  clear HC HRC HRM HRG HI HTB HNC HNM HNG hin hti hts hl6 hT e1 e2 v2 b2 hg6 lc lc2 lg lg2 sz2 hB
  go_wp2_with fail
  refine (newdisk_calls wc).mono ?_
  rintro e w2 ⟨rfl, d2, b2⟩
  rw [HSZ.out] at d2 b2 ⊢
  have hBw2 : B ≤ w2.heap.size := by have := b2.size; have := HSZ.out; omega
  have HD2 := Lib.hid d2
  have HB2 := Lib.hid b2
  clear d2 b2
  go_wp2_with fail
  refine (open_calls w2 B B [] HD2.out (fun L h => by cases h) (Nat.zero_le _) (Nat.zero_le _) (fun x h => by cases h) (fun k hk => by obtain rfl : k = 0 := Nat.le_zero.1 hk; exact bd_more bd_z (by omega)) hBw2).mono ?_
  rintro e w3 ⟨b, mb, n, rfl, hn, bk3, d3, k3⟩
  have SK := Lib.hid (show Stk wc w3 B b mb 0 n z0 [] from ⟨bk3, d3, HB2.out.trans k3.below, Nat.le_trans hBw2 k3.size⟩)
  clear bk3 d3 k3 HD2 HB2 hBw2
  obtain ⟨q, hq⟩ : ∃ q : Int, (kb : Int) + 1 = q := ⟨_, rfl⟩
  have hq1 : 1 ≤ q ∧ q ≤ 1024 := by omega
  have eb := HEB.out
  have ew : IntKind.i64.wrap ((kb : Int) + 1) = q := by rw [IntWalk.i64_in _ (by omega), hq]
  have HEW := Lib.hid ew
  clear hq
  go_wp2_with fail
  have hb4 := below_alloc w3 (.cells #[.string ⟨#[111, 117, 116, 115, 105, 100, 101]⟩, .string ⟨#[115, 116, 111, 114, 101]⟩, .string ⟨#[112, 108, 97, 110, 107]⟩, .int .i64 q] 35)
  have mv4 := MvT.new w3 (plL q) #[.string ⟨#[111, 117, 116, 115, 105, 100, 101]⟩, .string ⟨#[115, 116, 111, 114, 101]⟩, .string ⟨#[112, 108, 97, 110, 107]⟩, .int .i64 q] rfl (by show 1 ≤ maxLen; unfold maxLen; omega)
  have SK4 := SK.out.on hb4
  clear eb ew SK hb4
  generalize w3.alloc (.cells #[.string ⟨#[111, 117, 116, 115, 105, 100, 101]⟩, .string ⟨#[115, 116, 111, 114, 101]⟩, .string ⟨#[112, 108, 97, 110, 107]⟩, .int .i64 q] 35) = w4 at *
  refine (stk_post SK4 mv4 ⟨Nat.le_refl 1, show 1 ≤ 32 by omega⟩ (pl_ok hq1) (bd_more bd_z (by omega)) (code_pl hq1.1) (by omega) (by omega) (Nat.zero_le _)).mono ?_
  rintro e w5 ⟨rfl, sk5, -⟩
  have SK := Lib.hid (show Stk wc w5 B b mb 1 (n + 2) (f1 q) (encB (plL q)) from sk5)
  clear mv4 SK4 sk5
  have hin5 := HIN.out.mono (by rw [HSZ.out]; exact SK.out.bl)
  have hv5 := Lib.hid (vals_belowS HV.out SK.out.bl hXB)
  by_cases hbad : sclOk T = false ∨ (sclOk T = true ∧ (bestV T).1 = -1)
  · obtain ⟨c1, hc1, BT⟩ := stk_bad T kt _ _ _ w5 hin5 HTI.out hbad
    rw [HTS.out.1, HTS.out.2] at BT
    have HBT := Lib.hid BT
    have hne1 : (c1 != 0) = true := by simp [hc1]
    clear BT hbad hin5
    have x0 := hv5.out.cell (i := 0) (by simp)
    have x1 := hv5.out.cell (i := 1) (by simp)
    have x2 := hv5.out.cell (i := 2) (by simp)
    have x3 := hv5.out.cell (i := 3) (by simp)
    have x4 := hv5.out.cell (i := 4) (by simp)
    simp only [List.getD_cons_zero, List.getD_cons_succ] at x0 x1 x2 x3 x4
    have lv := hv5.out.lt
    go_wp2_with fail
    clear x0 x1 x2 x3 x4 lv
    refine HBT.out.mono ?_
    rintro e w6 ⟨rfl, b6⟩
    have SK6 := Lib.hid (SK.out.on b6)
    have hv6 := hv5.out.mono b6
    have hin6 := HIN.out.mono (by rw [HSZ.out]; exact SK6.out.bl)
    obtain ⟨c2, hc2, NT⟩ := stk_bad2 T (kt : Int) (by omega) _ _ _ w6 hin6 HTI.out
    rw [HTS.out.1, HTS.out.2] at NT
    have HNT := Lib.hid NT
    have x0 := hv6.cell (i := 0) (by simp)
    have x1 := hv6.cell (i := 1) (by simp)
    have x2 := hv6.cell (i := 2) (by simp)
    have x3 := hv6.cell (i := 3) (by simp)
    have x4 := hv6.cell (i := 4) (by simp)
    simp only [List.getD_cons_zero, List.getD_cons_succ] at x0 x1 x2 x3 x4
    have lv := hv6.lt
    have et := HET.out
    clear HBT NT hin6 hv6 SK b6 hv5
    go_wp2_with fail
    clear x0 x1 x2 x3 x4 lv et
    refine HNT.out.mono ?_
    rintro e w7 ⟨rfl, b7⟩
    have SK7 := Lib.hid (SK6.out.on b7)
    clear b7 SK6 HNT
    go_wp2_with fail
    refine (count_calls w7 B b B mb 1 (n + 2) (f1 q) SK7.out.bk).mono ?_
    rintro e w8 ⟨rfl, rfl⟩
    have HE := Lib.hid (HBW.out.trans (SK7.out.bl.mono (by have := HBW.out.size; have := HSZ.out; omega)))
    go_wp2
    go_ret
    exact ⟨rfl, HE.out⟩
  have hs : sclOk T = true := by
    cases h : sclOk T with
    | false => exact absurd (.inl h) hbad
    | true => rfl
  have hbv : (bestV T).1 ≠ -1 := fun h => hbad (.inr ⟨hs, h⟩)
  clear hbad
  have BT := wbest_ok T _ _ _ w5 hin5 HTI.out hs hbv
  unfold BestRet at BT
  rw [HTS.out.1, HTS.out.2] at BT
  obtain ⟨bc, hbc⟩ : ∃ c, (bestV T).1 = c := ⟨_, rfl⟩
  rw [hbc] at BT
  have HBT := Lib.hid BT
  have HGD := Lib.hid (needs_good (tail := (kt : Int)) hs HT6.out (by omega) (bestP_fits hbv))
  have HPI := Lib.hid (bestP_IS hs hbv)
  have HFT := Lib.hid (bestP_fits hbv)
  have HSO := Lib.hid hs
  obtain ⟨P, hP⟩ : ∃ P, bestP T = P := ⟨_, rfl⟩
  rw [hP] at HGD HPI HFT HBT
  have x0 := hv5.out.cell (i := 0) (by simp)
  have x1 := hv5.out.cell (i := 1) (by simp)
  have x2 := hv5.out.cell (i := 2) (by simp)
  have x3 := hv5.out.cell (i := 3) (by simp)
  have x4 := hv5.out.cell (i := 4) (by simp)
  simp only [List.getD_cons_zero, List.getD_cons_succ] at x0 x1 x2 x3 x4
  have lv := hv5.out.lt
  clear BT hin5 hs hbv hbc hP
  go_wp2_with fail
  clear x0 x1 x2 x3 x4 lv
  refine HBT.out.mono ?_
  rintro e w6 ⟨pv, rfl, hp6, b6⟩
  have SK6 := Lib.hid (SK.out.on b6)
  have hv6 := hv5.out.mono b6
  have hin6 := HIN.out.mono (by rw [HSZ.out]; exact SK6.out.bl)
  have NT := wneeds_own T P (kt : Int) _ _ _ pv w6 hin6 hp6 HTI.out HPI.out HSO.out (by omega) HFT.out (HTB2.out.mono (by rw [HSZ.out]; exact SK6.out.bl))
  rw [HTS.out.1, HTS.out.2] at NT
  obtain ⟨NL, hNL⟩ : ∃ NL, needs T P (kt : Int) (T.ms.length * T.gs.length) = NL := ⟨_, rfl⟩
  rw [hNL] at NT HGD
  have HNT := Lib.hid NT
  have x0 := hv6.cell (i := 0) (by simp)
  have x1 := hv6.cell (i := 1) (by simp)
  have x2 := hv6.cell (i := 2) (by simp)
  have x3 := hv6.cell (i := 3) (by simp)
  have x4 := hv6.cell (i := 4) (by simp)
  simp only [List.getD_cons_zero, List.getD_cons_succ] at x0 x1 x2 x3 x4
  have lv := hv6.lt
  have et := HET.out
  clear HBT NT hin6 hv6 SK b6 hv5 HPI HFT HSO hNL hp6
  go_wp2_with fail
  clear x0 x1 x2 x3 x4 lv et
  refine HNT.out.mono ?_
  rintro e w7 ⟨v7, rfl, hn7, b7⟩
  have SK7 := Lib.hid (SK6.out.on b7)
  clear b7 SK6 HNT
  obtain ⟨na, nc7, rfl, hn7⟩ := hn7
  obtain ⟨nl, hnl⟩ : ∃ n, NL.length = n := ⟨_, rfl⟩
  have hnb : 1 ≤ nl ∧ nl ≤ 32 := by rw [← hnl]; exact ⟨HGD.out.l1, HGD.out.l2⟩
  have HN7 := Lib.hid (show InLT w7 (.slice na NL.length nc7) NL from ⟨na, nc7, rfl, hn7⟩)
  rw [hnl] at hn7 HN7 ⊢
  have HR7 := Lib.hid hn7.1
  have HNLN := Lib.hid hnl
  clear hn7 hnl
  go_upto_region 14 with (fail)
  have T0 := Lib.hid (TwoS.start w7)
  obtain ⟨C, hC⟩ : ∃ C, w7.heap.size = C := ⟨_, rfl⟩
  rw [hC] at T0 ⊢
  have HCC := Lib.hid hC
  clear hC
  generalize (w7.alloc (.cells #[] 35)).alloc (.cells #[] 35) = w8 at *
  obtain ⟨bn, on, rfl, p1, -⟩ := lot_cellsS HR7.out (i := 0) (by have := HNLN.out; omega) rfl
  have HBN := Lib.hid (cell_lt p1)
  dsimp only at HBN
  clear p1
  go_wp2
  go_loopw [15, 16, 17] (fun bv uv iv wr => ∃ i : Nat, iv = .int .i64 (i : Int) ∧ i ≤ nl ∧ ∃ ba bca ua uca, bv = .slice ba i bca ∧ uv = .slice ua i uca ∧ TwoS w7 wr (.slice ba i bca) i (buyL (NL.take i)) (.slice ua i uca) i (useL (NL.take i)))
    (fun _ _ iv _ => nl - (intOf iv).toNat)
  case atStart => exact ⟨0, rfl, Nat.zero_le _, _, _, _, _, rfl, rfl, T0.out⟩
  case round =>
    clear T0
    obtain ⟨i, rfl, hi, ba, bca, ua, uca, rfl, rfl, TW⟩ := hrel
    by_cases h1 : i < nl
    · have hip : i < NL.length := by rw [HNLN.out]; exact h1
      obtain ⟨Y, hY⟩ : ∃ Y, NL.getD i lt0 = Y := ⟨_, rfl⟩
      obtain ⟨b2, o2, e2, -, p2, p3⟩ := lot_cellsS (HR7.out.mono TW.bl) hip hY
      cases e2
      have HBT := Lib.hid (show buyL (NL.take (i + 1)) = buyL (NL.take i) ++ [⟨outB, stoB, Y.s, Y.q⟩] by rw [buyL_take hip, hY])
      have HUT := Lib.hid (show useL (NL.take (i + 1)) = useL (NL.take i) ++ [⟨stoB, casB, Y.s, Y.q⟩] by rw [useL_take hip, hY])
      have i0 : (0 : Int) ≤ (i : Int) := by omega
      have i1 : (i : Int) < (nl : Int) := by omega
      have H2 := Lib.hid p2
      have H3 := Lib.hid p3
      have HT := Lib.hid TW
      have lbn := cell_lt p2
      clear p2 p3 TW hip hY
      go_upto_region 17 with (fail)
      obtain ⟨SS, hS⟩ : ∃ SS : World → Prop, ∀ w', SS w' ↔ (w'.cell? ⟨bn, on + i * 3 + 1, none⟩ = some (.string Y.s) ∧ w'.cell? ⟨bn, on + i * 3 + 2, none⟩ = some (.int .i64 Y.q)) := ⟨_, fun _ => Iff.rfl⟩
      have HSS := Lib.hid hS
      have bd := below_dr (Below.refl wr.heap.size wr)
      have HTd := Lib.hid (HT.out.lay bd)
      have hS1 : SS wr.drew := (hS _).2 ⟨H2.out, H3.out⟩
      clear hS bd HT H2 H3
      refine wp_region_L (S := SS) (lx := []) (by kernel_rfl) hS1 (fun hHeld => ?_)
      clear hS1
      generalize wr.drew = wd at *
      refine wpAnyL_pure (i := 0) (v := ?vp1) rfl (by kernel_rfl) (by kernel_rfl) (by kernel_rfl) (fun _ _ _ h => h) (Or.inl ⟨by rfl, ?hyp1⟩) ?_
      case hyp1 => (intro w _; (go_simp) <;> (with_reducible rfl))
      try simp only [Act.put, List.getElem_toArray, List.getElem_cons_zero, List.getElem_cons_succ, List.setIfInBounds_toArray, List.set_cons_zero, List.set_cons_succ]
      refine wpAnyL_pure (i := 1) (v := ?vp2) rfl (by kernel_rfl) (by kernel_rfl) (by kernel_rfl) (fun _ _ _ h => h) (Or.inl ⟨by rfl, ?hyp2⟩) ?_
      case hyp2 => (intro w _; (go_simp) <;> (with_reducible rfl))
      try simp only [Act.put, List.getElem_toArray, List.getElem_cons_zero, List.getElem_cons_succ, List.setIfInBounds_toArray, List.set_cons_zero, List.set_cons_succ]
      refine wpAnyL_pure (i := 2) (v := ?vp3) rfl (by kernel_rfl) (by kernel_rfl) (by kernel_rfl) (fun _ _ _ h => h) (Or.inl ⟨by rfl, ?hyp3⟩) ?_
      case hyp3 => (intro w _; (go_simp) <;> (with_reducible rfl))
      try simp only [Act.put, List.getElem_toArray, List.getElem_cons_zero, List.getElem_cons_succ, List.setIfInBounds_toArray, List.set_cons_zero, List.set_cons_succ]
      refine wpAnyL_pure (i := 3) (v := ?vp4) rfl (by kernel_rfl) (by kernel_rfl) (by kernel_rfl) (fun _ _ _ h => h) (Or.inl ⟨by rfl, ?hyp4⟩) ?_
      case hyp4 => (intro w _; (go_simp) <;> (with_reducible rfl))
      try simp only [Act.put, List.getElem_toArray, List.getElem_cons_zero, List.getElem_cons_succ, List.setIfInBounds_toArray, List.set_cons_zero, List.set_cons_succ]
      refine wpAnyL_pure (i := 4) (v := ?vp5) rfl (by kernel_rfl) (by kernel_rfl) (by kernel_rfl) (fun _ _ _ h => h) (Or.inl ⟨by rfl, ?hyp5⟩) ?_
      case hyp5 => (intro w _; (go_simp) <;> (with_reducible rfl))
      try simp only [Act.put, List.getElem_toArray, List.getElem_cons_zero, List.getElem_cons_succ, List.setIfInBounds_toArray, List.set_cons_zero, List.set_cons_succ]
      refine wpAnyL_take (i := 5) (v := ?vp6) rfl (by kernel_rfl) (by kernel_rfl) (by kernel_rfl) (by kernel_rfl) (fun _ _ _ h => h) (Or.inl ⟨by rfl, ?hyp6⟩) (by assumption) ?_
      case hyp6 => (intro w hSw; obtain ⟨q2, q3⟩ := (HSS.out w).1 hSw; (go_simp) <;> (with_reducible rfl))
      try simp only [Act.put, List.getElem_toArray, List.getElem_cons_zero, List.getElem_cons_succ, List.setIfInBounds_toArray, List.set_cons_zero, List.set_cons_succ]
      refine wpAnyL_pure (i := 6) (v := ?vp7) rfl (by kernel_rfl) (by kernel_rfl) (by kernel_rfl) (fun _ _ _ h => h) (Or.inl ⟨by rfl, ?hyp7⟩) ?_
      case hyp7 => (intro w _; (go_simp) <;> (with_reducible rfl))
      try simp only [Act.put, List.getElem_toArray, List.getElem_cons_zero, List.getElem_cons_succ, List.setIfInBounds_toArray, List.set_cons_zero, List.set_cons_succ]
      refine wpAnyL_pure (i := 7) (v := ?vp8) rfl (by kernel_rfl) (by kernel_rfl) (by kernel_rfl) (fun _ _ _ h => h) (Or.inl ⟨by rfl, ?hyp8⟩) ?_
      case hyp8 => (intro w _; (go_simp) <;> (with_reducible rfl))
      try simp only [Act.put, List.getElem_toArray, List.getElem_cons_zero, List.getElem_cons_succ, List.setIfInBounds_toArray, List.set_cons_zero, List.set_cons_succ]
      refine wpAnyL_pure (i := 8) (v := ?vp9) rfl (by kernel_rfl) (by kernel_rfl) (by kernel_rfl) (fun _ _ _ h => h) (Or.inl ⟨by rfl, ?hyp9⟩) ?_
      case hyp9 => (intro w _; (go_simp) <;> (with_reducible rfl))
      try simp only [Act.put, List.getElem_toArray, List.getElem_cons_zero, List.getElem_cons_succ, List.setIfInBounds_toArray, List.set_cons_zero, List.set_cons_succ]
      refine wpAnyL_pure (i := 9) (v := ?vp10) rfl (by kernel_rfl) (by kernel_rfl) (by kernel_rfl) (fun _ _ _ h => h) (Or.inl ⟨by rfl, ?hyp10⟩) ?_
      case hyp10 => (intro w _; (go_simp) <;> (with_reducible rfl))
      try simp only [Act.put, List.getElem_toArray, List.getElem_cons_zero, List.getElem_cons_succ, List.setIfInBounds_toArray, List.set_cons_zero, List.set_cons_succ]
      refine wpAnyL_take (i := 10) (v := ?vp11) rfl (by kernel_rfl) (by kernel_rfl) (by kernel_rfl) (by kernel_rfl) (fun _ _ _ h => h) (Or.inl ⟨by rfl, ?hyp11⟩) (by assumption) ?_
      case hyp11 => (intro w hSw; obtain ⟨q2, q3⟩ := (HSS.out w).1 hSw; (go_simp) <;> (with_reducible rfl))
      try simp only [Act.put, List.getElem_toArray, List.getElem_cons_zero, List.getElem_cons_succ, List.setIfInBounds_toArray, List.set_cons_zero, List.set_cons_succ]
      refine wpAnyL_pure (i := 11) (v := ?vp12) rfl (by kernel_rfl) (by kernel_rfl) (by kernel_rfl) (fun _ _ _ h => h) (Or.inl ⟨by rfl, ?hyp12⟩) ?_
      case hyp12 => (intro w _; (go_simp) <;> (with_reducible rfl))
      try simp only [Act.put, List.getElem_toArray, List.getElem_cons_zero, List.getElem_cons_succ, List.setIfInBounds_toArray, List.set_cons_zero, List.set_cons_succ]
      refine wpAnyL_all (rs := [12]) (by kernel_rfl) (by simp) (fun j hj => ?_)
      obtain rfl := List.mem_singleton.1 hj
      clear hj
      refine wpOpL (by rfl) (fun K hK => ?_)
      go_simp
      have bz := below_alloc wd (.cells #[.string ⟨#[111, 117, 116, 115, 105, 100, 101]⟩, .string ⟨#[115, 116, 111, 114, 101]⟩, .string Y.s, .int .i64 Y.q] 35)
      have HRD := Lib.hid (rd_new mvcl_len wd 35 [⟨outB, stoB, Y.s, Y.q⟩] #[.string ⟨#[111, 117, 116, 115, 105, 100, 101]⟩, .string ⟨#[115, 116, 111, 114, 101]⟩, .string Y.s, .int .i64 Y.q] rfl (by unfold maxLen; simp))
      have HTz := Lib.hid (HTd.out.lay bz)
      obtain ⟨q2, q3⟩ := (HSS.out _).1 hHeld
      have hz := (HSS.out (wd.alloc (.cells #[.string ⟨#[111, 117, 116, 115, 105, 100, 101]⟩, .string ⟨#[115, 116, 111, 114, 101]⟩, .string Y.s, .int .i64 Y.q] 35))).2 ⟨(bz.cell (cell_lt q2)).trans q2, (bz.cell (cell_lt q3)).trans q3⟩
      have HZ := Lib.hid hz
      refine hK.out _ _ (fun _ _ => HZ.out) ?_
      clear hK K HTd q2 q3 hz bz hHeld
      try simp only [Act.put, List.getElem_toArray, List.getElem_cons_zero, List.getElem_cons_succ, List.setIfInBounds_toArray, List.set_cons_zero, List.set_cons_succ]
      refine wpAnyL_all (rs := [13]) (by kernel_rfl) (by simp) (fun j hj => ?_)
      obtain rfl := List.mem_singleton.1 hj
      clear hj
      refine wpOpL (by rfl) (fun K hK => ?_)
      refine step_append_rv (by rfl) (.tmp 96) (.tmp 108) _ (by rfl) w7.heap.size 35 _ 4 56 Tryz.underlying36 info_mv (by rfl) (by decide) _ i _ (by rfl) HTz.out.o1 _ 1 1 _ (by rfl) HRD.out (flat_one mvcl_one _) (by unfold maxLen; omega) (by omega) HTz.out.sz (i + 1) rfl _ rfl ?_
      intro ad9 c9 w9 hown9 hg9 hn9 hb9 hk9
      rw [← flat_append] at hown9
      have HT9 := Lib.hid (HTz.out.app1 hown9 hg9 hb9 hk9)
      obtain ⟨q2, q3⟩ := (HSS.out _).1 HZ.out
      have hq9 := (HSS.out w9).2 ⟨(hb9.cell HBN.out).trans q2, (hb9.cell HBN.out).trans q3⟩
      have HQ9 := Lib.hid hq9
      refine hK.out _ _ (fun _ _ => HQ9.out) ?_
      clear hK K HTz q2 q3 hq9 hown9 hg9 hn9 hb9 hk9 HRD HZ
      try simp only [Act.put, List.getElem_toArray, List.getElem_cons_zero, List.getElem_cons_succ, List.setIfInBounds_toArray, List.set_cons_zero, List.set_cons_succ]
      refine wpAnyL_pure (i := 14) (v := ?vp13) rfl (by kernel_rfl) (by kernel_rfl) (by kernel_rfl) (fun _ _ _ h => h) (Or.inl ⟨by rfl, ?hyp13⟩) ?_
      case hyp13 => (intro w _; (go_simp) <;> (with_reducible rfl))
      try simp only [Act.put, List.getElem_toArray, List.getElem_cons_zero, List.getElem_cons_succ, List.setIfInBounds_toArray, List.set_cons_zero, List.set_cons_succ]
      refine wpAnyL_done (by kernel_rfl) ?_ _
      obtain ⟨q2, q3⟩ := (HSS.out _).1 HQ9.out
      have H2 := Lib.hid q2
      have H3 := Lib.hid q3
      have HT := HT9
      rw [← HBT.out] at HT
      clear HQ9 HT9 HSS q2 q3 SS

      go_upto_region 18 with (fail)
      obtain ⟨SS, hS⟩ : ∃ SS : World → Prop, ∀ w', SS w' ↔ (w'.cell? ⟨bn, on + i * 3 + 1, none⟩ = some (.string Y.s) ∧ w'.cell? ⟨bn, on + i * 3 + 2, none⟩ = some (.int .i64 Y.q)) := ⟨_, fun _ => Iff.rfl⟩
      have HSS := Lib.hid hS
      have bd := below_dr (Below.refl w9.heap.size w9)
      have HTd := Lib.hid (HT.out.lay bd)
      have hS1 : SS w9.drew := (hS _).2 ⟨H2.out, H3.out⟩
      clear hS bd HT H2 H3
      refine wp_region_L (S := SS) (lx := []) (by kernel_rfl) hS1 (fun hHeld => ?_)
      clear hS1
      generalize w9.drew = wd at *
      refine wpAnyL_pure (i := 0) (v := ?vp14) rfl (by kernel_rfl) (by kernel_rfl) (by kernel_rfl) (fun _ _ _ h => h) (Or.inl ⟨by rfl, ?hyp14⟩) ?_
      case hyp14 => (intro w _; (go_simp) <;> (with_reducible rfl))
      try simp only [Act.put, List.getElem_toArray, List.getElem_cons_zero, List.getElem_cons_succ, List.setIfInBounds_toArray, List.set_cons_zero, List.set_cons_succ]
      refine wpAnyL_pure (i := 1) (v := ?vp15) rfl (by kernel_rfl) (by kernel_rfl) (by kernel_rfl) (fun _ _ _ h => h) (Or.inl ⟨by rfl, ?hyp15⟩) ?_
      case hyp15 => (intro w _; (go_simp) <;> (with_reducible rfl))
      try simp only [Act.put, List.getElem_toArray, List.getElem_cons_zero, List.getElem_cons_succ, List.setIfInBounds_toArray, List.set_cons_zero, List.set_cons_succ]
      refine wpAnyL_pure (i := 2) (v := ?vp16) rfl (by kernel_rfl) (by kernel_rfl) (by kernel_rfl) (fun _ _ _ h => h) (Or.inl ⟨by rfl, ?hyp16⟩) ?_
      case hyp16 => (intro w _; (go_simp) <;> (with_reducible rfl))
      try simp only [Act.put, List.getElem_toArray, List.getElem_cons_zero, List.getElem_cons_succ, List.setIfInBounds_toArray, List.set_cons_zero, List.set_cons_succ]
      refine wpAnyL_pure (i := 3) (v := ?vp17) rfl (by kernel_rfl) (by kernel_rfl) (by kernel_rfl) (fun _ _ _ h => h) (Or.inl ⟨by rfl, ?hyp17⟩) ?_
      case hyp17 => (intro w _; (go_simp) <;> (with_reducible rfl))
      try simp only [Act.put, List.getElem_toArray, List.getElem_cons_zero, List.getElem_cons_succ, List.setIfInBounds_toArray, List.set_cons_zero, List.set_cons_succ]
      refine wpAnyL_pure (i := 4) (v := ?vp18) rfl (by kernel_rfl) (by kernel_rfl) (by kernel_rfl) (fun _ _ _ h => h) (Or.inl ⟨by rfl, ?hyp18⟩) ?_
      case hyp18 => (intro w _; (go_simp) <;> (with_reducible rfl))
      try simp only [Act.put, List.getElem_toArray, List.getElem_cons_zero, List.getElem_cons_succ, List.setIfInBounds_toArray, List.set_cons_zero, List.set_cons_succ]
      refine wpAnyL_take (i := 5) (v := ?vp19) rfl (by kernel_rfl) (by kernel_rfl) (by kernel_rfl) (by kernel_rfl) (fun _ _ _ h => h) (Or.inl ⟨by rfl, ?hyp19⟩) (by assumption) ?_
      case hyp19 => (intro w hSw; obtain ⟨q2, q3⟩ := (HSS.out w).1 hSw; (go_simp) <;> (with_reducible rfl))
      try simp only [Act.put, List.getElem_toArray, List.getElem_cons_zero, List.getElem_cons_succ, List.setIfInBounds_toArray, List.set_cons_zero, List.set_cons_succ]
      refine wpAnyL_pure (i := 6) (v := ?vp20) rfl (by kernel_rfl) (by kernel_rfl) (by kernel_rfl) (fun _ _ _ h => h) (Or.inl ⟨by rfl, ?hyp20⟩) ?_
      case hyp20 => (intro w _; (go_simp) <;> (with_reducible rfl))
      try simp only [Act.put, List.getElem_toArray, List.getElem_cons_zero, List.getElem_cons_succ, List.setIfInBounds_toArray, List.set_cons_zero, List.set_cons_succ]
      refine wpAnyL_pure (i := 7) (v := ?vp21) rfl (by kernel_rfl) (by kernel_rfl) (by kernel_rfl) (fun _ _ _ h => h) (Or.inl ⟨by rfl, ?hyp21⟩) ?_
      case hyp21 => (intro w _; (go_simp) <;> (with_reducible rfl))
      try simp only [Act.put, List.getElem_toArray, List.getElem_cons_zero, List.getElem_cons_succ, List.setIfInBounds_toArray, List.set_cons_zero, List.set_cons_succ]
      refine wpAnyL_pure (i := 8) (v := ?vp22) rfl (by kernel_rfl) (by kernel_rfl) (by kernel_rfl) (fun _ _ _ h => h) (Or.inl ⟨by rfl, ?hyp22⟩) ?_
      case hyp22 => (intro w _; (go_simp) <;> (with_reducible rfl))
      try simp only [Act.put, List.getElem_toArray, List.getElem_cons_zero, List.getElem_cons_succ, List.setIfInBounds_toArray, List.set_cons_zero, List.set_cons_succ]
      refine wpAnyL_pure (i := 9) (v := ?vp23) rfl (by kernel_rfl) (by kernel_rfl) (by kernel_rfl) (fun _ _ _ h => h) (Or.inl ⟨by rfl, ?hyp23⟩) ?_
      case hyp23 => (intro w _; (go_simp) <;> (with_reducible rfl))
      try simp only [Act.put, List.getElem_toArray, List.getElem_cons_zero, List.getElem_cons_succ, List.setIfInBounds_toArray, List.set_cons_zero, List.set_cons_succ]
      refine wpAnyL_take (i := 10) (v := ?vp24) rfl (by kernel_rfl) (by kernel_rfl) (by kernel_rfl) (by kernel_rfl) (fun _ _ _ h => h) (Or.inl ⟨by rfl, ?hyp24⟩) (by assumption) ?_
      case hyp24 => (intro w hSw; obtain ⟨q2, q3⟩ := (HSS.out w).1 hSw; (go_simp) <;> (with_reducible rfl))
      try simp only [Act.put, List.getElem_toArray, List.getElem_cons_zero, List.getElem_cons_succ, List.setIfInBounds_toArray, List.set_cons_zero, List.set_cons_succ]
      refine wpAnyL_pure (i := 11) (v := ?vp25) rfl (by kernel_rfl) (by kernel_rfl) (by kernel_rfl) (fun _ _ _ h => h) (Or.inl ⟨by rfl, ?hyp25⟩) ?_
      case hyp25 => (intro w _; (go_simp) <;> (with_reducible rfl))
      try simp only [Act.put, List.getElem_toArray, List.getElem_cons_zero, List.getElem_cons_succ, List.setIfInBounds_toArray, List.set_cons_zero, List.set_cons_succ]
      refine wpAnyL_all (rs := [12]) (by kernel_rfl) (by simp) (fun j hj => ?_)
      obtain rfl := List.mem_singleton.1 hj
      clear hj
      refine wpOpL (by rfl) (fun K hK => ?_)
      go_simp
      have bz := below_alloc wd (.cells #[.string ⟨#[115, 116, 111, 114, 101]⟩, .string ⟨#[99, 97, 115, 101]⟩, .string Y.s, .int .i64 Y.q] 35)
      have HRD := Lib.hid (rd_new mvcl_len wd 35 [⟨stoB, casB, Y.s, Y.q⟩] #[.string ⟨#[115, 116, 111, 114, 101]⟩, .string ⟨#[99, 97, 115, 101]⟩, .string Y.s, .int .i64 Y.q] rfl (by unfold maxLen; simp))
      have HTz := Lib.hid (HTd.out.lay bz)
      obtain ⟨q2, q3⟩ := (HSS.out _).1 hHeld
      have hz := (HSS.out (wd.alloc (.cells #[.string ⟨#[115, 116, 111, 114, 101]⟩, .string ⟨#[99, 97, 115, 101]⟩, .string Y.s, .int .i64 Y.q] 35))).2 ⟨(bz.cell (cell_lt q2)).trans q2, (bz.cell (cell_lt q3)).trans q3⟩
      have HZ := Lib.hid hz
      refine hK.out _ _ (fun _ _ => HZ.out) ?_
      clear hK K HTd q2 q3 hz bz hHeld
      try simp only [Act.put, List.getElem_toArray, List.getElem_cons_zero, List.getElem_cons_succ, List.setIfInBounds_toArray, List.set_cons_zero, List.set_cons_succ]
      refine wpAnyL_all (rs := [13]) (by kernel_rfl) (by simp) (fun j hj => ?_)
      obtain rfl := List.mem_singleton.1 hj
      clear hj
      refine wpOpL (by rfl) (fun K hK => ?_)
      refine step_append_rv (by rfl) (.tmp 110) (.tmp 122) _ (by rfl) w7.heap.size 35 _ 4 56 Tryz.underlying36 info_mv (by rfl) (by decide) _ i _ (by rfl) HTz.out.o2 _ 1 1 _ (by rfl) HRD.out (flat_one mvcl_one _) (by unfold maxLen; omega) (by omega) HTz.out.sz (i + 1) rfl _ rfl ?_
      intro ad11 c11 w11 hown9 hg9 hn9 hb9 hk9
      rw [← flat_append] at hown9
      have HT9 := Lib.hid (HTz.out.app2 hown9 hg9 hb9 hk9)
      obtain ⟨q2, q3⟩ := (HSS.out _).1 HZ.out
      have hq9 := (HSS.out w11).2 ⟨(hb9.cell HBN.out).trans q2, (hb9.cell HBN.out).trans q3⟩
      have HQ9 := Lib.hid hq9
      refine hK.out _ _ (fun _ _ => HQ9.out) ?_
      clear hK K HTz q2 q3 hq9 hown9 hg9 hn9 hb9 hk9 HRD HZ
      try simp only [Act.put, List.getElem_toArray, List.getElem_cons_zero, List.getElem_cons_succ, List.setIfInBounds_toArray, List.set_cons_zero, List.set_cons_succ]
      refine wpAnyL_pure (i := 14) (v := ?vp26) rfl (by kernel_rfl) (by kernel_rfl) (by kernel_rfl) (fun _ _ _ h => h) (Or.inl ⟨by rfl, ?hyp26⟩) ?_
      case hyp26 => (intro w _; (go_simp) <;> (with_reducible rfl))
      try simp only [Act.put, List.getElem_toArray, List.getElem_cons_zero, List.getElem_cons_succ, List.setIfInBounds_toArray, List.set_cons_zero, List.set_cons_succ]
      refine wpAnyL_done (by kernel_rfl) ?_ _
      obtain ⟨q2, q3⟩ := (HSS.out _).1 HQ9.out
      have H2 := Lib.hid q2
      have H3 := Lib.hid q3
      have HT := HT9
      rw [← HUT.out] at HT
      clear HQ9 HT9 HSS q2 q3 SS

      have HTW := Lib.hid HT
      clear HT H2 H3 HBT HUT
      go_wp2
      go_roundw
      case rel => exact ⟨i + 1, by go_num, by omega, ad9, c9, ad11, c11, rfl, rfl, HTW.out⟩
      case measure => simp [intOf]; omega
    · obtain rfl : i = nl := by omega
      have htk : NL.take i = NL := by rw [← HNLN.out]; exact List.take_length
      rw [htk] at TW
      have hlb : (buyL NL).length = i := by rw [buyL_len]; exact HNLN.out
      have hlu : (useL NL).length = i := by rw [useL_len]; exact HNLN.out
      have MB := Lib.hid (MvT.own TW.o1 hlb)
      have MU := Lib.hid (MvT.own TW.o2 hlu)
      have SK := Lib.hid (SK7.out.on TW.bl)
      have NE := Lib.hid (HN7.out.kt (KT.of_below (ts := []) TW.bl (Nat.le_refl _)) (by simp))
      have hb1 : 1 ≤ (buyL NL).length ∧ (buyL NL).length ≤ 32 := by rw [hlb]; exact hnb
      have hu1 : 1 ≤ (useL NL).length ∧ (useL NL).length ≤ 32 := by rw [hlu]; exact hnb
      have HB1 := Lib.hid hb1
      have HU1 := Lib.hid hu1
      have hz : ((i : Int) == 0) = false := by simp; omega
      have hgt : ¬ ((i : Int) > 32) := by omega
      clear TW htk hlb hlu hb1 hu1 HR7 HN7 SK7 h1 hi
      go_wp2_with fail
      clear hz hgt
      refine (stk_no SK.out MU.out HU1.out (use_ok HGD.out) (bd_more (bd_f1 hq1) (by omega)) (code_use1 HGD.out)).mono ?_
      rintro e w10 ⟨rfl, b10⟩
      have k10 := KT.of_below (ts := []) b10 SK.out.sz
      have SK1 := Lib.hid (SK.out.on b10)
      have MB1 := Lib.hid (MB.out.kt k10 (by simp))
      have MU1 := Lib.hid (MU.out.kt k10 (by simp))
      have NE1 := Lib.hid (NE.out.kt k10 (by simp))
      clear SK MB MU NE b10 k10
      go_wp2_with fail
      refine (stk_post SK1.out MB1.out HB1.out (buy_ok HGD.out) (bd_more (bd_f1 hq1) (by omega)) (code_buy HGD.out) (by omega) (by omega) (by have := encB_len (show (plL q).length ≤ 32 from show 1 ≤ 32 by omega) (pl_ok hq1); omega)).mono ?_
      rintro e w11 ⟨rfl, s11, k11⟩
      have SK2 := Lib.hid (show Stk wc w11 B b mb 2 (n + 2 + 2 * (buyL NL).length) (f2 q NL) (encB (plL q) ++ encB (buyL NL)) from s11)
      have MU2 := Lib.hid (MU1.out.kt k11 (by decide))
      have NE2 := Lib.hid (NE1.out.kt k11 (by decide))
      clear SK1 MB1 MU1 NE1 s11 k11
      have HNN := Lib.hid (show n + 2 + 2 * (buyL NL).length ≤ 20000 by have := HB1.out.2; omega)
      obtain ⟨n2, hn2⟩ : ∃ n2, n + 2 + 2 * (buyL NL).length = n2 := ⟨_, rfl⟩
      rw [hn2] at SK2 HNN
      clear hn2
      go_wp2_with fail
      refine (stk_post SK2.out MU2.out HU1.out (use_ok HGD.out) (bd_more (bd_f2 hq1 HGD.out) (by omega)) (code_use2 HGD.out) (by have := HNN.out; omega) (by omega) (by have := encB_len (show (plL q).length ≤ 32 from show 1 ≤ 32 by omega) (pl_ok hq1); have := encB_len HB1.out.2 (buy_ok HGD.out); rw [List.length_append]; omega)).mono ?_
      rintro e w12 ⟨rfl, s12, k12⟩
      have SK3 := Lib.hid (show Stk wc w12 B b mb 3 (n2 + 2 * (useL NL).length) (f3 q NL) (encB (plL q) ++ encB (buyL NL) ++ encB (useL NL)) from s12)
      have MU3 := Lib.hid (MU2.out.kt k12 (by decide))
      have NE3 := Lib.hid (NE2.out.kt k12 (by decide))
      clear SK2 MU2 NE2 s12 k12
      go_wp2_with fail
      refine (stk_no SK3.out MU3.out HU1.out (use_ok HGD.out) (bd_more (bd_f3 hq1 HGD.out) (by omega)) (code_use3 HGD.out)).mono ?_
      rintro e w13 ⟨rfl, b13⟩
      have SK4 := Lib.hid (SK3.out.on b13)
      have NE4 := Lib.hid (NE3.out.kt (KT.of_below (ts := []) b13 SK3.out.sz) (by simp))
      clear SK3 MU3 NE3 b13
      go_wp2_with fail
      refine (open_calls w13 B B (esL q NL) (by rw [encA_esL]; exact SK4.out.dk) (esL_ok hq1 HGD.out) (show 3 ≤ 100 by omega) (Nat.le_trans (encA_le _ (esL_ok hq1 HGD.out)) (show 2000 * 3 ≤ 50000 by omega)) (encA_lt _ (esL_ok hq1 HGD.out)) (bd_esL hq1 HGD.out) SK4.out.sz).mono ?_
      rintro e w14 ⟨b2, mb2, n3, rfl, hn3, bk14, -, k14⟩
      have BK := Lib.hid (show BookS w14 B b2 B mb2 3 n3 (f3 q NL) from bk14)
      have NE5 := Lib.hid (NE4.out.kt k14 (by decide))
      have HB5 := Lib.hid (SK4.out.bl.trans k14.below)
      clear SK4 NE4 bk14 k14
      go_wp2_with fail
      refine (count_calls w14 B b2 B mb2 3 n3 (f3 q NL) BK.out).mono ?_
      rintro e wz ⟨rfl, rfl⟩
      go_wp2
      go_loopw [20] (fun iv wr => ∃ j : Nat, iv = .int .i64 (j : Int) ∧ j ≤ i ∧ Below wz.heap.size wz wr)
        (fun iv _ => i - (intOf iv).toNat)
      case atStart => exact ⟨0, rfl, Nat.zero_le _, Below.refl _ _⟩
      case round =>
        obtain ⟨j, rfl, hj, hbr⟩ := hrel
        by_cases h1 : j < i
        · have hip : j < NL.length := by rw [HNLN.out]; exact h1
          obtain ⟨Y, hY⟩ : ∃ Y, NL.getD j lt0 = Y := ⟨_, rfl⟩
          obtain ⟨na2, nc2, ne2, nr2, -⟩ := NE5.out
          rw [HNLN.out] at ne2 nr2
          obtain ⟨ne3, -, ne4⟩ := Value.slice.inj ne2
          subst ne3
          subst ne4
          obtain ⟨bb2, o2, e2, -, p2, p3⟩ := lot_cellsS (nr2.mono hbr) hip hY
          cases e2
          obtain ⟨z1, z2, z3⟩ := f3_item (q := q) HGD.out hip
          have hq0 := HGD.out.q j hip
          have hsz := sz_of_name (HGD.out.nm j hip)
          rw [hY] at z1 z2 z3 hq0 hsz
          have bkr := BK.out.kt (KT.of_below (ts := []) (hbr.mono (Nat.le_refl _)) (by have := HB5.out.size; have := HSZ.out; omega)) (by simp) (by simp) (by simp)
          have BR := Lib.hid (fun (k : Nat) => bkr.kt (KT.of_below (ts := []) (below_drewN (Below.refl wr.heap.size wr) k) (by have := hbr.size; have := HB5.out.size; have := HSZ.out; omega)) (by simp) (by simp) (by simp))
          have BA := fun (k : Nat) => balance_calls (wr.drewN k) B b2 B mb2 3 n3 (f3 q NL) (BR.out k) stoB Y.s (sz_of_name sto_ok) hsz
          have BC := fun (k : Nat) => balance_calls (wr.drewN k) B b2 B mb2 3 n3 (f3 q NL) (BR.out k) casB Y.s (sz_of_name cas_ok) hsz
          have BO := fun (k : Nat) => balance_calls (wr.drewN k) B b2 B mb2 3 n3 (f3 q NL) (BR.out k) outB Y.s (sz_of_name out_ok) hsz
          rw [z1] at BA
          rw [z2] at BC
          rw [z3] at BO
          have HBA := Lib.hid BA
          have HBC := Lib.hid BC
          have HBO := Lib.hid BO
          have hng : IntKind.i64.wrap (-Y.q) = -Y.q := IntWalk.i64_in _ (by omega)
          have HNG := Lib.hid hng
          have i0 : (0 : Int) ≤ (j : Int) := by omega
          have i1 : (j : Int) < (i : Int) := by omega
          have lbn := cell_lt p2
          have HRR := Lib.hid hbr
          clear bkr BR BA BC BO z1 z2 z3 hq0 hsz nr2 ne2 hip hY hng
          go_upto_region 29 with (fail)
          go_quiet (fail)
          clear p2 p3 lbn
          go_wp2_with fail
          refine (HBA.out _).mono ?_
          rintro e wy ⟨rfl, rfl⟩
          go_wp2_with fail
          refine (HBC.out _).mono ?_
          rintro e wy ⟨rfl, rfl⟩
          go_wp2_with fail
          refine (HBO.out _).mono ?_
          rintro e wy ⟨rfl, rfl⟩
          have hng := HNG.out
          go_wp2
          go_roundw
          case rel => exact ⟨j + 1, by go_num, by omega, below_drewN HRR.out _⟩
          case measure => simp [intOf]; omega
        · obtain rfl : j = i := by omega
          have bkr := Lib.hid (BK.out.kt (KT.of_below (ts := []) (hbr.mono (Nat.le_refl _)) (by have := HB5.out.size; have := HSZ.out; omega)) (by simp) (by simp) (by simp))
          have BP := balance_calls wr B b2 B mb2 3 n3 (f3 q NL) bkr.out stoB plkB (sz_of_name sto_ok) (sz_of_name plk_ok)
          rw [f3_plk HGD.out] at BP
          have HBP := Lib.hid BP
          have HFB := Lib.hid (HB5.out.trans (hbr.mono (by have := HB5.out.size; have := HSZ.out; omega)))
          have LO := Lib.hid (mlots_calls wr B b2 B mb2 3 n3 (f3 q NL) bkr.out (nz_some hq1 HGD.out) (by omega))
          clear BP hbr h1 hj
          go_wp2_with fail
          refine HBP.out.mono ?_
          rintro e wy ⟨rfl, rfl⟩
          have eb := HEB.out
          have ew := HEW.out
          go_wp2_with fail
          clear eb ew
          refine LO.out.mono ?_
          rintro e w16 ⟨la, lc, m, rfl, ⟨PL, hpl, hnd, hps, hpm⟩, b16⟩
          have hm : m = 2 + 2 * j := by
            have := lots_len hq1 HGD.out hnd hps hpm
            rw [hpl, HNLN.out] at this
            exact this
          have HFIN := Lib.hid (HBW.out.trans ((HFB.out.trans (b16.mono (by have := HFB.out.size; have := HSZ.out; omega))).mono (by have := HBW.out.size; have := HSZ.out; omega)))
          have e1 : IntKind.i64.wrap (2 * (j : Int)) = 2 * (j : Int) := IntWalk.i64_in _ (by omega)
          have e2 : IntKind.i64.wrap (2 + 2 * (j : Int)) = (m : Int) := by rw [IntWalk.i64_in _ (by omega)]; omega
          clear hpl hnd hps hpm b16 hm
          go_wp2
          go_ret
          exact ⟨rfl, HFIN.out⟩
end Go.Proofs
end

section
open Go.ChangeShapes Go.WideShapes Go.RowKit Go.Joins Go.Deep
namespace Go.Proofs
set_option linter.unusedVariables false
set_option linter.unusedSimpArgs false

section
variable {H : Type} {enc : TypeId × Value → H} {P : Program} {w : World} {base : Nat} {spare : Nat → Bool} {held : Bool}
theorem open_fields {t e : TypeId} {fs : Array Field} {fuel : Nat} {cs : List Value} {x : DataW H × List MemPlace} (ht : P.underlying t = some (.slice e)) (he : P.underlying e = some (.struct fs))
    (hone : oneCellFields P fs = true) (hC : P.cellsOf e = fs.size) (h : DataW.trod enc P w base spare held fuel t cs = some x) :
    cs = [.slice none 0 0] ∨
    ∃ (a : Addr) (len cap m : Nat), cs = [.slice (some a) len cap] ∧ len ≤ cap ∧ cap ≤ maxLen ∧ m = (if spare a.block then cap else len) ∧
      ∀ i, i < m → ∀ (j : Nat) (f : Field), fs[j]? = some f → ∃ (n : Nat) (v : Value) (y : DataW H × List MemPlace), w.cell? (a.add (i * fs.size + j)) = some v ∧ DataW.trod enc P w base spare held n f.type [v] = some y := by
  rcases open_slice ht h with h0 | ⟨a, len, cap, m, n, D, Pl, hcs, hb, hl, hm, hmm, hx, hi⟩
  · exact .inl h0.1
  · refine .inr ⟨a, len, cap, m, hcs, hl, hm, hmm, fun i him j f hj => ?_⟩
    obtain ⟨cs', hc, ht'⟩ := hi i him
    rw [hC] at hc
    obtain ⟨ys, n', hn', hy, hlen, hyl, hf⟩ := DataW.trod_struct he ht'
    obtain ⟨_, hcl, hat⟩ := World.cells?_some hc
    obtain ⟨ho, hk⟩ := hone_of hone j f hj
    have hjl : j < fs.size := (Array.getElem?_eq_some_iff.1 hj).1
    have hcell := hat j hjl
    have hv : cs'[j]? = some (cs'[j]'(by omega)) := List.getElem?_eq_getElem (by omega)
    have h1 := hf j f hj
    rw [ho, hk] at h1
    have hone' : (cs'.drop j).take 1 = [cs'[j]'(by omega)] := by
      rw [List.drop_eq_getElem_cons (by omega)]
      rfl
    rw [hone'] at h1
    have hys : ys[j]? = some (ys[j]'(by omega)) := List.getElem?_eq_getElem (by omega)
    exact ⟨n', _, _, by rw [← Go.Deep.add_add, hcell, hv], h1.trans hys⟩
theorem open_five {r : Reach} {b0 : Nat} {t : TypeId} {f0 f1 f2 f3 f4 : Field} {v : Value} {d : DataW H} {p : List MemPlace} (hs : P.underlying t = some (.struct #[f0, f1, f2, f3, f4])) (hone : oneCellFields P #[f0, f1, f2, f3, f4] = true) (hC : P.cellsOf t = 5)
    (hv : Value.okWide P w r b0 t v) (h : DataW.Trod enc P w base spare held t v d p) :
    ∃ (v0 v1 v2 v3 v4 : Value) (y0 y1 y2 y3 y4 : DataW H × List MemPlace) (n : Nat), v = .agg #[v0, v1, v2, v3, v4] ∧
      DataW.trod enc P w base spare held n f0.type [v0] = some y0 ∧ DataW.trod enc P w base spare held n f1.type [v1] = some y1 ∧ DataW.trod enc P w base spare held n f2.type [v2] = some y2 ∧ DataW.trod enc P w base spare held n f3.type [v3] = some y3 ∧ DataW.trod enc P w base spare held n f4.type [v4] = some y4 := by
  obtain ⟨cs, rfl, hsz⟩ := okWide_struct hs hv
  obtain ⟨l⟩ := cs
  match l, hsz.trans hC with
  | [c0, c1, c2, c3, c4], _ =>
    obtain ⟨fuel, hf⟩ := h
    obtain ⟨xs, n, _, hx, _, hlen, hg⟩ := DataW.trod_struct hs hf
    obtain ⟨o0, k0⟩ := hone_of hone 0 f0 rfl
    obtain ⟨o1, k1⟩ := hone_of hone 1 f1 rfl
    obtain ⟨o2, k2⟩ := hone_of hone 2 f2 rfl
    obtain ⟨o3, k3⟩ := hone_of hone 3 f3 rfl
    obtain ⟨o4, k4⟩ := hone_of hone 4 f4 rfl
    match xs, hlen with
    | [y0, y1, y2, y3, y4], _ =>
      exact ⟨c0, c1, c2, c3, c4, y0, y1, y2, y3, y4, n, rfl, by simpa [Value.cells, o0, k0] using hg 0 f0 rfl, by simpa [Value.cells, o1, k1] using hg 1 f1 rfl, by simpa [Value.cells, o2, k2] using hg 2 f2 rfl, by simpa [Value.cells, o3, k3] using hg 3 f3 rfl, by simpa [Value.cells, o4, k4] using hg 4 f4 rfl⟩
theorem zI_of {z : Int} (h : (Lit.int .i64 z).wf = true) : zI z := by
  simp [Lit.wf, IntKind.min, IntKind.max, IntKind.signed, IntKind.bits] at h
  unfold zI
  omega
theorem trod_i64 {t : TypeId} (ht : P.underlying t = some (.int .i64)) {n : Nat} {v : Value} {y : DataW H × List MemPlace} (h : DataW.trod enc P w base spare held n t [v] = some y) : ∃ z, v = .int .i64 z ∧ zI z := by
  obtain ⟨z, hz, _, wz⟩ := DataW.trod_int ht h
  exact ⟨z, by simpa using hz, zI_of wz⟩
/-- the address of a slice that can be read to its capacity -/
theorem addr_none {a : Addr} {v : Value} (h : w.cell? a = some v) : a = ⟨a.block, a.off, none⟩ := by
  obtain ⟨b, o, s⟩ := a
  have := World.cell?_spot h
  dsimp only at this
  rw [this]
theorem add_none {b o j : Nat} : (⟨b, o, none⟩ : Addr).add j = ⟨b, o + j, none⟩ := add_offV b o j
end

section
variable {H : Type} {enc : TypeId × Value → H} {w : World} {base : Nat} {held : Bool}
theorem open_zs {n : Nat} {v : Value} {y : DataW H × List MemPlace} (h : DataW.trod enc Tryz.prog w base (fun _ => true) held n 24 [v] = some y) : ∃ zs, InZ w v zs ∧ ∀ z ∈ zs, zI z := by
  rcases open_ints Tryz.underlying24 Tryz.underlying3 (by kernel_rfl) h with ⟨hcs, _⟩ | ⟨x, l, c, zs, hcs, _, hl, hm, hz, _, hcell, hwz⟩
  · obtain rfl : v = .slice none 0 0 := by simpa using hcs
    exact ⟨[], ⟨none, 0, rfl, Nat.le_refl _, by unfold maxLen; omega, .inl ⟨rfl, rfl⟩⟩, fun z hz => by cases hz⟩
  · obtain rfl : v = .slice (some x) l c := by simpa using hcs
    exact inz_of_row (.inr ⟨x, rfl, hl, hm, by simpa using hz, hcell, hwz⟩)
theorem open_cs {n : Nat} {v : Value} {y : DataW H × List MemPlace} (h : DataW.trod enc Tryz.prog w base (fun _ => true) held n 22 [v] = some y) : ∃ L, InC w v L ∧ ∀ c ∈ L, zI c.l ∧ zI c.f ∧ zI c.t ∧ zI c.w := by
  rcases open_fields Tryz.underlying22 Tryz.underlying78 (by kernel_rfl) (by kernel_rfl) h with hcs | ⟨a, len, cap, m, hcs, hl, hm, hmm, hi⟩
  · obtain rfl : v = .slice none 0 0 := by simpa using hcs
    exact ⟨[], ⟨none, 0, rfl, Nat.le_refl _, by unfold maxLen; omega, .inl rfl⟩, fun z hz => by cases hz⟩
  · obtain rfl : v = .slice (some a) len cap := by simpa using hcs
    have hm2 : m = cap := by simpa using hmm
    subst hm2
    have key : ∀ i, ∃ c : Crs, i < m → w.cell? (a.add (i * 4)) = some (.int .i64 c.l) ∧ w.cell? (a.add (i * 4 + 1)) = some (.int .i64 c.f) ∧ w.cell? (a.add (i * 4 + 2)) = some (.int .i64 c.t) ∧ w.cell? (a.add (i * 4 + 3)) = some (.int .i64 c.w) ∧ zI c.l ∧ zI c.f ∧ zI c.t ∧ zI c.w := by
      intro i
      by_cases him : i < m
      · obtain ⟨n0, v0, y0, k0, t0⟩ := hi i him 0 _ rfl
        obtain ⟨n1, v1, y1, k1, t1⟩ := hi i him 1 _ rfl
        obtain ⟨n2, v2, y2, k2, t2⟩ := hi i him 2 _ rfl
        obtain ⟨n3, v3, y3, k3, t3⟩ := hi i him 3 _ rfl
        obtain ⟨z0, rfl, w0⟩ := trod_i64 Tryz.underlying3 t0
        obtain ⟨z1, rfl, w1⟩ := trod_i64 Tryz.underlying3 t1
        obtain ⟨z2, rfl, w2⟩ := trod_i64 Tryz.underlying3 t2
        obtain ⟨z3, rfl, w3⟩ := trod_i64 Tryz.underlying3 t3
        exact ⟨⟨z0, z1, z2, z3⟩, fun _ => ⟨k0, k1, k2, k3, w0, w1, w2, w3⟩⟩
      · exact ⟨c0, fun h => absurd h him⟩
    obtain ⟨F, hF⟩ := Classical.skolem.1 key
    refine ⟨(List.range len).map F, ⟨some a, m, by simp, by simpa using hl, hm, ?_⟩, fun c hc => ?_⟩
    · by_cases h0 : m = 0
      · exact .inl h0
      · have ea := addr_none (hF 0 (by omega)).1
        have ea2 : a.spot = none := by
          rw [Nat.zero_mul] at ea
          have h1 := (hF 0 (by omega)).1
          rw [Nat.zero_mul] at h1
          have := World.cell?_spot h1
          simpa [Addr.add] using this
        obtain ⟨b, o, s⟩ := a
        dsimp only at ea2
        subst ea2
        refine .inr ⟨b, o, rfl, fun i hi => ?_⟩
        have hi2 : i < len := by simpa using hi
        have e : ((List.range len).map F).getD i c0 = F i := by simp [List.getD, hi2]
        rw [e]
        obtain ⟨g0, g1, g2, g3, _⟩ := hF i (by omega)
        rw [add_none] at g0 g1 g2 g3
        exact ⟨g0, g1, g2, g3⟩
    · obtain ⟨i, hi, rfl⟩ := List.mem_map.1 hc
      have hi2 := List.mem_range.1 hi
      exact (hF i (by omega)).2.2.2.2
theorem open_ps {n : Nat} {v : Value} {y : DataW H × List MemPlace} (h : DataW.trod enc Tryz.prog w base (fun _ => true) held n 37 [v] = some y) : ∃ L, InP w v L ∧ PksI L := by
  rcases open_fields Tryz.underlying37 Tryz.underlying73 (by kernel_rfl) (by kernel_rfl) h with hcs | ⟨a, len, cap, m, hcs, hl, hm, hmm, hi⟩
  · obtain rfl : v = .slice none 0 0 := by simpa using hcs
    exact ⟨[], ⟨none, 0, rfl, Nat.le_refl _, by unfold maxLen; omega, .inl rfl⟩, fun z hz => by cases hz⟩
  · obtain rfl : v = .slice (some a) len cap := by simpa using hcs
    have hm2 : m = cap := by simpa using hmm
    subst hm2
    have key : ∀ i, ∃ c : Pk, i < m → w.cell? (a.add (i * 2)) = some (.int .i64 c.m) ∧ w.cell? (a.add (i * 2 + 1)) = some (.int .i64 c.g) ∧ zI c.m ∧ zI c.g := by
      intro i
      by_cases him : i < m
      · obtain ⟨n0, v0, y0, k0, t0⟩ := hi i him 0 _ rfl
        obtain ⟨n1, v1, y1, k1, t1⟩ := hi i him 1 _ rfl
        obtain ⟨z0, rfl, w0⟩ := trod_i64 Tryz.underlying3 t0
        obtain ⟨z1, rfl, w1⟩ := trod_i64 Tryz.underlying3 t1
        exact ⟨⟨z0, z1⟩, fun _ => ⟨k0, k1, w0, w1⟩⟩
      · exact ⟨p0, fun h => absurd h him⟩
    obtain ⟨F, hF⟩ := Classical.skolem.1 key
    refine ⟨(List.range len).map F, ⟨some a, m, by simp, by simpa using hl, hm, ?_⟩, fun c hc => ?_⟩
    · by_cases h0 : m = 0
      · exact .inl h0
      · have ea2 : a.spot = none := by
          have h1 := (hF 0 (by omega)).1
          have := World.cell?_spot h1
          simpa [Addr.add] using this
        obtain ⟨b, o, s⟩ := a
        dsimp only at ea2
        subst ea2
        refine .inr ⟨b, o, rfl, fun i hi => ?_⟩
        have hi2 : i < len := by simpa using hi
        have e : ((List.range len).map F).getD i p0 = F i := by simp [List.getD, hi2]
        rw [e]
        obtain ⟨g0, g1, _⟩ := hF i (by omega)
        rw [add_none] at g0 g1
        exact ⟨g0, g1⟩
    · obtain ⟨i, hi, rfl⟩ := List.mem_map.1 hc
      have hi2 := List.mem_range.1 hi
      exact (hF i (by omega)).2.2
theorem open_ms {n : Nat} {v : Value} {y : DataW H × List MemPlace} (h : DataW.trod enc Tryz.prog w base (fun _ => true) held n 23 [v] = some y) : ∃ L, InM w v L ∧ ∀ m ∈ L, zI m.d ∧ ∀ z ∈ m.st, zI z := by
  rcases open_fields Tryz.underlying23 Tryz.underlying97 (by kernel_rfl) (by kernel_rfl) h with hcs | ⟨a, len, cap, m, hcs, hl, hm, hmm, hi⟩
  · obtain rfl : v = .slice none 0 0 := by simpa using hcs
    exact ⟨[], ⟨none, 0, rfl, Nat.le_refl _, by unfold maxLen; omega, .inl rfl⟩, fun z hz => by cases hz⟩
  · obtain rfl : v = .slice (some a) len cap := by simpa using hcs
    have hm2 : m = cap := by simpa using hmm
    subst hm2
    have key : ∀ i, ∃ c : Met, i < m → w.cell? (a.add (i * 2)) = some (.int .i64 c.d) ∧ (∃ u, w.cell? (a.add (i * 2 + 1)) = some u ∧ InZ w u c.st) ∧ zI c.d ∧ ∀ z ∈ c.st, zI z := by
      intro i
      by_cases him : i < m
      · obtain ⟨n0, v0, y0, k0, t0⟩ := hi i him 0 _ rfl
        obtain ⟨n1, v1, y1, k1, t1⟩ := hi i him 1 _ rfl
        obtain ⟨z0, rfl, w0⟩ := trod_i64 Tryz.underlying3 t0
        obtain ⟨zs, hz, wz⟩ := open_zs t1
        exact ⟨⟨z0, zs⟩, fun _ => ⟨k0, ⟨v1, k1, hz⟩, w0, wz⟩⟩
      · exact ⟨m0, fun h => absurd h him⟩
    obtain ⟨F, hF⟩ := Classical.skolem.1 key
    refine ⟨(List.range len).map F, ⟨some a, m, by simp, by simpa using hl, hm, ?_⟩, fun c hc => ?_⟩
    · by_cases h0 : m = 0
      · exact .inl h0
      · have ea2 : a.spot = none := by
          have h1 := (hF 0 (by omega)).1
          have := World.cell?_spot h1
          simpa [Addr.add] using this
        obtain ⟨b, o, s⟩ := a
        dsimp only at ea2
        subst ea2
        refine .inr ⟨b, o, rfl, fun i hi => ?_⟩
        have hi2 : i < len := by simpa using hi
        have e : ((List.range len).map F).getD i m0 = F i := by simp [List.getD, hi2]
        rw [e]
        obtain ⟨g0, ⟨u, g1, gz⟩, _⟩ := hF i (by omega)
        rw [add_none] at g0 g1
        exact ⟨g0, u, g1, gz⟩
    · obtain ⟨i, hi, rfl⟩ := List.mem_map.1 hc
      have hi2 := List.mem_range.1 hi
      exact (hF i (by omega)).2.2
set_option maxRecDepth 100000 in
theorem open_scaling {r : Reach} {b0 : Nat} {v : Value} {d : DataW H} {p : List MemPlace} (hv : Value.okWide Tryz.prog w r b0 26 v) (h : DataW.Trod enc Tryz.prog w base (fun _ => true) held 26 v d p) :
    ∃ cv mv gv S, v = .agg #[cv, mv, gv, .int .i64 S.sf, .int .i64 S.ch] ∧ InS w cv mv gv S ∧ SclI S := by
  obtain ⟨v0, v1, v2, v3, v4, y0, y1, y2, y3, y4, n, rfl, t0, t1, t2, t3, t4⟩ := open_five Tryz.underlying26 (by kernel_rfl) (by kernel_rfl) hv h
  obtain ⟨cs, hc, ic⟩ := open_cs t0
  obtain ⟨ms, hm, im⟩ := open_ms t1
  obtain ⟨gs, hg, ig⟩ := open_zs t2
  obtain ⟨sf, rfl, i3⟩ := trod_i64 Tryz.underlying3 t3
  obtain ⟨ch, rfl, i4⟩ := trod_i64 Tryz.underlying3 t4
  exact ⟨v0, v1, v2, ⟨cs, ms, gs, sf, ch⟩, rfl, ⟨hc, hm, hg⟩, ⟨ic, im, ig, i3, i4⟩⟩
set_option maxRecDepth 100000 in
theorem open_picks {r : Reach} {b0 : Nat} {v : Value} {d : DataW H} {p : List MemPlace} (hv : Value.okWide Tryz.prog w r b0 37 v) (h : DataW.Trod enc Tryz.prog w base (fun _ => true) held 37 v d p) :
    ∃ P, InP w v P ∧ PksI P := by
  obtain ⟨a, l, c, rfl⟩ := okWide_slice Tryz.underlying37 hv
  obtain ⟨fuel, hf⟩ := h
  exact open_ps (by simpa [Value.cells] using hf)
end

end Go.Proofs
end

section
namespace Go.Proofs
set_option linter.unusedVariables false
set_option linter.unusedSimpArgs false

theorem door_laid : laidOutB Tryz.prog = true := by kernel_rfl
theorem door_maps : mapsRowed Tryz.prog = true := by kernel_rfl
theorem door_stops : (Tryz.prog.stops == []) = true := by kernel_rfl
theorem door_knobs : (Tryz.prog.stopKnobs == []) = true := by kernel_rfl
theorem door_heard : Tryz.prog.stopsHeard = true := by kernel_rfl
theorem door_enter : Tryz.prog.mayEnter = true := by kernel_rfl
theorem door_lifts : (YtghbjhcbldnenaaGreatDoor.Rows.topStockedRow.lifted == Tryz.prog.liftsFinal) = true := by kernel_rfl
theorem door_make : (Tryz.prog.make == some YtghbjhcbldnenaaGreatDoor.Rows.topStockedRow.make) = true := by kernel_rfl
theorem door_looks : false = Tryz.prog.looks [] := by kernel_rfl

end Go.Proofs
end

section
open Go.RowKit Go.Deep
namespace Go.Proofs
set_option linter.unusedVariables false
set_option linter.unusedSimpArgs false

theorem pow_name : Tryz.prog.globalNamed "internal/strconv.uint64pow10" = some 1 := by kernel_rfl
theorem pow_type : (Tryz.prog.globals[1]?).map (·.type) = some 145 := by kernel_rfl

theorem tab_of {w : World} (h : laidMetH Tryz.prog YtghbjhcbldnenaaGreatDoor.Rows.topStockedRow.laid w) : Tab w := by
  have h1 := laidMetH.filter (fun x => x.1 == "internal/strconv.uint64pow10") h
  have e : (YtghbjhcbldnenaaGreatDoor.Rows.topStockedRow.laid.filter fun x => x.1 == "internal/strconv.uint64pow10") = [("internal/strconv.uint64pow10", Lib.tabData .u64 Lib.pow10Tab)] := by rfl
  rw [e] at h1
  exact Lib.tabIs_of_head pow_name pow_type Tryz.underlying145 Tryz.underlying123 (by kernel_rfl) (by kernel_rfl) h1

end Go.Proofs
end

