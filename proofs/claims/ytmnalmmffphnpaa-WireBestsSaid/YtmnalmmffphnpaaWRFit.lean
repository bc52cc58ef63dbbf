/- The reference's Fits. -/
import Derived.Test.YtmnalmmffphnpaaWCost
open Go.RowKit Go.Deep
namespace Go.Proofs
set_option linter.unusedVariables false
set_option linter.unusedSimpArgs false

theorem pk_two {S : Scl} {p : Pk} {nm ng : Nat} (h1 : S.ms.length = nm) (h2 : S.gs.length = ng) : pkOk S p = (decide (0 ≤ p.m ∧ p.m ≤ (nm : Int) - 1) && decide (0 ≤ p.g ∧ p.g ≤ (ng : Int) - 1)) := by
  unfold pkOk
  rw [h1, h2]
  congr 1
  · congr 1; apply propext; omega
  · congr 1; apply propext; omega
theorem fits_len {S : Scl} {P : List Pk} (h : ¬ P.length = S.cs.length) : fitsB S P = false := by
  unfold fitsB; rw [decide_eq_false h, Bool.and_false]
theorem fits_all {S : Scl} {P : List Pk} (h : P.length = S.cs.length) (ha : ∀ i, i < P.length → pkOk S (P.getD i p0) = true) : fitsB S P = true := by
  unfold fitsB; rw [decide_eq_true h, Bool.and_true]; exact allTo_iff.2 ha

set_option maxRecDepth 100000 in
set_option maxHeartbeats 4000000 in
theorem rfits_calls (S : Scl) (P : List Pk) (cv mv gv pv : Value) (w : World) (hS : InS w cv mv gv S) (hP : InP w pv P) (hl : S.ms.length ≤ 1000000000000 ∧ S.gs.length ≤ 1000000000000) :
    Calls Try.prog 15 #[.agg #[cv, mv, gv, .int .i64 S.sf, .int .i64 S.ch], pv] w fun e w' => e = .returned (.bool (fitsB S P)) ∧ Below w.heap.size w w' := by
  obtain ⟨R, hR⟩ : ∃ R, fitsB S P = R := ⟨_, rfl⟩
  rw [hR]
  have HRR := Lib.hid hR
  clear hR
  obtain ⟨⟨adc, cc, rfl, rc⟩, ⟨adm, cm, rfl, rm⟩, ⟨adg, cg, rfl, rg⟩⟩ := hS
  obtain ⟨adp, cp, rfl, rp⟩ := hP
  have LC := rc.1
  have LM := rm.1
  have LG := rg.1
  have LP := rp.1
  have LC2 := rc.2.1
  have LM2 := rm.2.1
  have LG2 := rg.2.1
  have LP2 := rp.2.1
  unfold maxLen at LC2 LM2 LG2 LP2
  obtain ⟨nc, hnc⟩ : ∃ n, S.cs.length = n := ⟨_, rfl⟩
  obtain ⟨nm, hnm⟩ : ∃ n, S.ms.length = n := ⟨_, rfl⟩
  obtain ⟨ng, hng⟩ : ∃ n, S.gs.length = n := ⟨_, rfl⟩
  obtain ⟨np, hnp⟩ : ∃ n, P.length = n := ⟨_, rfl⟩
  rw [hnc] at LC ⊢
  rw [hnm] at LM ⊢
  rw [hng] at LG ⊢
  rw [hnp] at LP ⊢
  have HNC := Lib.hid hnc
  have HNM := Lib.hid hnm
  have HNG := Lib.hid hng
  have HNP := Lib.hid hnp
  clear hnc hnm hng hnp
  have kw1 : IntKind.i64.wrap ((nm : Int) - 1) = (nm : Int) - 1 := IntWalk.i64_in _ (by omega)
  have kw2 : IntKind.i64.wrap ((ng : Int) - 1) = (ng : Int) - 1 := IntWalk.i64_in _ (by omega)
  have vs := Vals.newL w (w.heap.size) [.slice adc nc cc, .slice adm nm cm, .slice adg ng cg, .int .i64 S.sf, .int .i64 S.ch] 26 rfl
  have bb := below_alloc w (.cells #[.slice adc nc cc, .slice adm nm cm, .slice adg ng cg, .int .i64 S.sf, .int .i64 S.ch] 26)
  have B := bb
  have bb0 := B
  clear bb
  go_enter Try.func15, Try.ntmps15
  go_upto_region 1 with (fail)
  generalize (w.alloc (.cells #[.slice adc nc cc, .slice adm nm cm, .slice adg ng cg, .int .i64 S.sf, .int .i64 S.ch] 26)) = w0 at *
  replace rc := rc.mono bb0
  replace rm := rm.mono bb0
  replace rg := rg.mono bb0
  replace rp := rp.mono bb0
  clear bb0
  have cvs0 := vs.cell (i := 0) (by simp)
  have cvs1 := vs.cell (i := 1) (by simp)
  have cvs2 := vs.cell (i := 2) (by simp)
  have cvs3 := vs.cell (i := 3) (by simp)
  have cvs4 := vs.cell (i := 4) (by simp)
  simp only [List.getD_cons_zero, List.getD_cons_succ] at cvs0 cvs1 cvs2 cvs3 cvs4
  have ltvs := vs.lt
  by_cases hlen : np = nc
  · skip
    have HLE := Lib.hid (show P.length = S.cs.length by rw [HNP.out, HNC.out, hlen])
    subst hlen
    go_wp2
    clear cvs0 cvs1 cvs2 cvs3 cvs4 ltvs
    go_loopw [5] (fun iv wr => ∃ i : Nat, iv = .int .i64 (i : Int) ∧ i ≤ np ∧ (∀ j, j < i → pkOk S (P.getD j p0) = true) ∧ Below w.heap.size w wr ∧ Vals wr w.heap.size [.slice adc np cc, .slice adm nm cm, .slice adg ng cg, .int .i64 S.sf, .int .i64 S.ch] ∧ RdP wr adp cp P)
      (fun iv _ => np - (intOf iv).toNat)
    case atStart => exact ⟨0, rfl, Nat.zero_le _, fun j hj => by omega, B, vs, rp⟩
    case round =>
      clear B vs rc rm rg rp
      obtain ⟨i, rfl, hi, hall, B, vs, rp⟩ := hrel
      have cvs0 := vs.cell (i := 0) (by simp)
      have cvs1 := vs.cell (i := 1) (by simp)
      have cvs2 := vs.cell (i := 2) (by simp)
      simp only [List.getD_cons_zero, List.getD_cons_succ] at cvs0 cvs1 cvs2
      have ltvs := vs.lt
      by_cases hlt : i < np
      · have hil : i < P.length := by rw [HNP.out]; exact hlt
        obtain ⟨bz, oz, rfl, ca, cb⟩ := rp.at hil
        obtain ⟨M, hM⟩ : ∃ M, P.getD i p0 = M := ⟨_, rfl⟩
        rw [hM] at ca cb
        obtain ⟨b1, hb1⟩ : ∃ b, decide (0 ≤ M.m ∧ M.m ≤ (nm : Int) - 1) = b := ⟨_, rfl⟩
        obtain ⟨b2, hb2⟩ : ∃ b, decide (0 ≤ M.g ∧ M.g ≤ (ng : Int) - 1) = b := ⟨_, rfl⟩
        have W1 : ∀ w : World, Calls Try.prog 27 #[.int .i64 M.m, .int .i64 0, .int .i64 ((nm : Int) - 1)] w fun e w' => e = .returned (.bool b1) ∧ w' = w := fun w => (rin0_calls M.m ((nm : Int) - 1) w).mono (fun e w' h => ⟨by rw [← hb1]; exact h.1, h.2.symm⟩)
        have W2 : ∀ w : World, Calls Try.prog 27 #[.int .i64 M.g, .int .i64 0, .int .i64 ((ng : Int) - 1)] w fun e w' => e = .returned (.bool b2) ∧ w' = w := fun w => (rin0_calls M.g ((ng : Int) - 1) w).mono (fun e w' h => ⟨by rw [← hb2]; exact h.1, h.2.symm⟩)
        have hpk : pkOk S (P.getD i p0) = (b1 && b2) := by rw [hM, pk_two HNM.out HNG.out, hb1, hb2]
        have HALL := Lib.hid hall
        have HW1 := Lib.hid W1
        have HW2 := Lib.hid W2
        have HPK := Lib.hid hpk
        clear W1 W2 hb1 hb2 hM hpk hall
        go_upto_region 6 with (fail)
        have hrp := Lib.hid rp
        clear rp
        cases b1
        · go_quiet ((go_at_call 27; with_reducible exact Calls.quiet_of_same (HW1.out _)))
          go_wp2
          go_ret
          exact ⟨by rw [← HRR.out, fits_no hil (by rw [HPK.out]; rfl)]; rfl, below_drewN B nq⟩
        cases b2
        · go_quiet (first | (go_at_call 27; with_reducible exact Calls.quiet_of_same (HW1.out _)) | (go_at_call 27; with_reducible exact Calls.quiet_of_same (HW2.out _)))
          go_wp2
          go_ret
          exact ⟨by rw [← HRR.out, fits_no hil (by rw [HPK.out]; rfl)]; rfl, below_drewN B nq⟩
        · go_quiet (first | (go_at_call 27; with_reducible exact Calls.quiet_of_same (HW1.out _)) | (go_at_call 27; with_reducible exact Calls.quiet_of_same (HW2.out _)))
          go_wp2
          go_roundw
          case rel => exact ⟨i + 1, by go_num, by omega, steps_all (p := fun j => pkOk S (P.getD j p0)) HALL.out (by rw [HPK.out]; rfl), below_drewN B nq, vs, hrp.out⟩
          case measure => simp [intOf]; omega
      · obtain rfl : i = np := by omega
        have HF := Lib.hid (fits_all HLE.out (by rw [HNP.out]; exact hall))
        clear hall
        go_wp2
        go_ret
        exact ⟨by rw [← HRR.out, HF.out]; rfl, B⟩
  · skip
    have HF := Lib.hid (fits_len (S := S) (P := P) (by rw [HNP.out, HNC.out]; exact hlen))
    go_wp2
    go_ret
    exact ⟨by rw [← HRR.out, HF.out]; rfl, B⟩

end Go.Proofs
