/- The reference's Pull. -/
import Derived.Test.YtmnalmmffphnpaaWRPull
open Go.RowKit Go.Deep
namespace Go.Proofs
set_option linter.unusedVariables false
set_option linter.unusedSimpArgs false

theorem vpcells {w : World} {b1 bz oz i : Nat} {x0 x1 x2 x3 x4 z0 z1 : Value} (vs : Vals w b1 [x0, x1, x2, x3, x4]) (c : w.cell? ⟨bz, oz + i * 2, none⟩ = some z0 ∧ w.cell? ⟨bz, oz + i * 2 + 1, none⟩ = some z1) :
    w.cell? ⟨b1, 0, none⟩ = some x0 ∧ w.cell? ⟨b1, 1, none⟩ = some x1 ∧ w.cell? ⟨b1, 2, none⟩ = some x2 ∧ w.cell? ⟨b1, 3, none⟩ = some x3 ∧ w.cell? ⟨b1, 4, none⟩ = some x4 ∧ w.cell? ⟨bz, oz + i * 2, none⟩ = some z0 ∧ w.cell? ⟨bz, oz + i * 2 + 1, none⟩ = some z1 := by
  have s0 := vs.cell (i := 0) (by simp)
  have s1 := vs.cell (i := 1) (by simp)
  have s2 := vs.cell (i := 2) (by simp)
  have s3 := vs.cell (i := 3) (by simp)
  have s4 := vs.cell (i := 4) (by simp)
  exact ⟨s0, s1, s2, s3, s4, c.1, c.2⟩

set_option maxRecDepth 100000 in
set_option maxHeartbeats 1000000 in
theorem rpull_calls (S : Scl) (P : List Pk) (cv mv gv pv : Value) (w : World) (hS : InS w cv mv gv S) (hP : InP w pv P) (hs : sclOk S = true) (hf : fitsB S P = true) :
    Calls Try.prog 16 #[.agg #[cv, mv, gv, .int .i64 S.sf, .int .i64 S.ch], pv] w fun e w' => e = .returned (.int .i64 ((pullTo S P P.length : Nat) : Int)) ∧ Below w.heap.size w w' := by
  obtain ⟨fl, fp⟩ := fits_parts hf
  have PL := fun n h => pullTo_le (n := n) hs hf h
  have hl96 := (headOk_lens (headOk_of hs)).1
  obtain ⟨RS, hRS⟩ : ∃ r, pullTo S P P.length = r := ⟨_, rfl⟩
  rw [hRS]
  obtain ⟨⟨adc, cc, rfl, rc⟩, ⟨adm, cm, rfl, rm⟩, ⟨adg, cg, rfl, rg⟩⟩ := hS
  obtain ⟨adp, cp, rfl, rp⟩ := hP
  have LP := rp.1
  have LP2 := rp.2.1
  unfold maxLen at LP2
  obtain ⟨nc, hnc⟩ : ∃ n, S.cs.length = n := ⟨_, rfl⟩
  obtain ⟨nm, hnm⟩ : ∃ n, S.ms.length = n := ⟨_, rfl⟩
  obtain ⟨ng, hng⟩ : ∃ n, S.gs.length = n := ⟨_, rfl⟩
  obtain ⟨np, hnp⟩ : ∃ n, P.length = n := ⟨_, rfl⟩
  rw [hnc, hnm, hng, hnp]
  rw [hnp] at LP
  have HNC := Lib.hid hnc
  have HNM := Lib.hid hnm
  have HNG := Lib.hid hng
  have HNP := Lib.hid hnp
  rw [hnp] at hRS fl
  rw [hnc] at fl hl96
  have HRS := Lib.hid hRS
  have HPL := Lib.hid PL
  have HFP := Lib.hid fp
  have HOKS := Lib.hid hs
  clear hnc hnm hng hnp hRS PL fp hs hf
  subst fl
  have vs := Vals.newL w (w.heap.size) [.slice adc np cc, .slice adm nm cm, .slice adg ng cg, .int .i64 S.sf, .int .i64 S.ch] 26 rfl
  have bb := below_alloc w (.cells #[.slice adc np cc, .slice adm nm cm, .slice adg ng cg, .int .i64 S.sf, .int .i64 S.ch] 26)
  have B := bb
  have bb0 := B
  clear bb
  go_enter Try.func16, Try.ntmps16
  go_upto_region 1 with (fail)
  generalize (w.alloc (.cells #[.slice adc np cc, .slice adm nm cm, .slice adg ng cg, .int .i64 S.sf, .int .i64 S.ch] 26)) = w0 at *
  replace rc := rc.mono bb0
  replace rm := rm.mono bb0
  replace rg := rg.mono bb0
  replace rp := rp.mono bb0
  clear bb0
  go_wp2
  go_loopw [6, 5] (fun iv sv wr => ∃ i : Nat, iv = .int .i64 (i : Int) ∧ i ≤ np ∧ sv = .int .i64 ((pullTo S P i : Nat) : Int) ∧ Below w.heap.size w wr ∧ Vals wr w.heap.size [.slice adc np cc, .slice adm nm cm, .slice adg ng cg, .int .i64 S.sf, .int .i64 S.ch] ∧ RdC wr adc cc S.cs ∧ RdM wr adm cm S.ms ∧ RdZ wr adg cg S.gs ∧ RdP wr adp cp P)
    (fun iv _ _ => np - (intOf iv).toNat)
  case atStart => exact ⟨0, rfl, Nat.zero_le _, rfl, B, vs, rc, rm, rg, rp⟩
  case round =>
    clear B vs rc rm rg rp
    obtain ⟨i, rfl, hi, rfl, B, vs, rc, rm, rg, rp⟩ := hrel
    by_cases hlt : i < np
    · have hil : i < P.length := by rw [HNP.out]; exact hlt
      have hic : i < S.cs.length := by rw [HNC.out]; exact hlt
      obtain ⟨bz, oz, rfl, _⟩ := rp.at hil
      obtain ⟨M, hM⟩ : ∃ M, P.getD i p0 = M := ⟨_, rfl⟩
      have hpm := HFP.out i hil
      rw [hM] at hpm
      have TI := fun (cv mv gv : Value) (w : World) (h : InS w cv mv gv S) => rpulled_calls S i M cv mv gv w h HOKS.out hpm hic
      have e1 : pullTo S P (i + 1) = pullTo S P i + tightN S (S.cs.getD i c0) M := by rw [← hM]; rfl
      have l1 := HPL.out (i + 1) (by omega)
      rw [e1] at l1
      obtain ⟨t, ht⟩ : ∃ t, tightN S (S.cs.getD i c0) M = t := ⟨_, rfl⟩
      rw [ht] at TI e1 l1
      obtain ⟨sm, hsm⟩ : ∃ s, pullTo S P i = s := ⟨_, rfl⟩
      rw [hsm] at e1 l1 ⊢
      have kw : IntKind.i64.wrap ((sm : Int) + (t : Int)) = ((sm + t : Nat) : Int) := by rw [← Int.natCast_add]; exact IntWalk.i64_in _ (by omega)
      have HE1 := Lib.hid e1
      have HTI := Lib.hid TI
      have HMM := Lib.hid hM
      clear TI e1 hM hsm ht hpm l1
      go_upto_region 5 with (fail)
      have j1 : (0 : Int) ≤ (i : Int) := by omega
      have j2 : (i : Int) < (np : Int) := by omega
      have hs3 : InS wr.drew (.slice adc np cc) (.slice adm nm cm) (.slice adg ng cg) S := ⟨⟨_, cc, by rw [HNC.out], rc.drew⟩, ⟨adm, cm, by rw [HNM.out], rm.drew⟩, ⟨adg, cg, by rw [HNG.out], rg.drew⟩⟩
      go_region_held3 (fun w' => w'.cell? ⟨w.heap.size, 0, none⟩ = some (.slice adc np cc) ∧ w'.cell? ⟨w.heap.size, 1, none⟩ = some (.slice adm nm cm) ∧ w'.cell? ⟨w.heap.size, 2, none⟩ = some (.slice adg ng cg) ∧ w'.cell? ⟨w.heap.size, 3, none⟩ = some (.int .i64 S.sf) ∧ w'.cell? ⟨w.heap.size, 4, none⟩ = some (.int .i64 S.ch) ∧ w'.cell? ⟨bz, oz + i * 2, none⟩ = some (.int .i64 M.m) ∧ w'.cell? ⟨bz, oz + i * 2 + 1, none⟩ = some (.int .i64 M.g))
        (first | exact vpcells vs (rp.at2 hil HMM.out) | exact vpcells vs.drew (rp.drew.at2 hil HMM.out))
        (first | (go_at_call 44; (with_reducible refine (HTI.out _ _ _ _ hs3).mono ?_); rintro e z1 ⟨rfl, b5⟩; replace vs := vs.drew.mono b5; replace rc := rc.drew.mono b5; replace rm := rm.drew.mono b5; replace rg := rg.drew.mono b5; replace rp := rp.drew.mono b5; replace B := below_trans B.drew b5; clear b5))
      go_wp2
      go_roundw
      case rel => exact ⟨i + 1, by go_num, by omega, by rw [HE1.out, Int.natCast_add], B, vs, rc, rm, rg, rp⟩
      case measure => simp [intOf]; omega
    · obtain rfl : i = np := by omega
      rw [HRS.out]
      go_wp2
      go_ret
      exact ⟨rfl, B⟩

end Go.Proofs
