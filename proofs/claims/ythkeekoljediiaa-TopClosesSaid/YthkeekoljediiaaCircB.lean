/- temper: the circle's next. -/
import Derived.Test.YthkeekoljediiaaCircA
open Go.RowKit Go.Deep
namespace Go.Proofs
set_option linter.unusedVariables false
set_option linter.unusedSimpArgs false

/-- the sum of the first k digits of a code, each above the lowest step -/
def digK (R : Rg) (code : Nat) : Nat → Nat
  | 0 => 0
  | k + 1 => digK R code k + (code / 4 ^ k % 4 + R.lo)
theorem digK_le (R : Rg) (h : R.lo ≤ 1) (code k : Nat) : digK R code k ≤ 4 * k := by
  induction k with
  | zero => exact Nat.le_refl _
  | succ k ih => unfold digK; omega
theorem digK_digs {R : Rg} (h : RgOk R) (code : Nat) : digK R code (R.sp - 1) = digs R code := by
  unfold digs
  rcases h.sp with e | e
  · rw [e, if_pos rfl]; show 0 + (code / 4 ^ 0 % 4 + R.lo) = _; rw [Nat.pow_zero, Nat.div_one]; omega
  · rw [e, if_neg (by omega)]; show 0 + (code / 4 ^ 0 % 4 + R.lo) + (code / 4 ^ 1 % 4 + R.lo) = _; rw [Nat.pow_zero, Nat.div_one, Nat.pow_one]; omega
theorem tmod_nat (a b : Nat) : ((a : Int)).tmod (b : Int) = ((a % b : Nat) : Int) := (Int.ofNat_tmod a b).symm
theorem tdiv_nat (a b : Nat) : ((a : Int)).tdiv (b : Int) = ((a / b : Nat) : Int) := (Int.ofNat_tdiv a b).symm

set_option maxRecDepth 100000 in
set_option maxHeartbeats 1000000 in
theorem cnext_calls (R : Rg) (fv tv fs rv : Value) (cb code at_ s : Nat) (w : World) (hR : RgOk R) (hI : InRg w fv tv R) (hc : Vals w cb (ccl9 R fv tv fs rv)) (hcode : code < 64) (h0 : R.sp - 1 ≤ at_) (h1 : at_ < 11 + R.sp) (hs : StOk R s) :
    Calls Try.prog 44 #[.pointer (some ⟨cb, 0, none⟩), .int .i64 (code : Int), .int .i64 (at_ : Int), .int .i64 (s : Int)] w fun e w' => e = .returned (.tuple #[.int .i64 (nCd R code s : Int), .int .i64 (nPr R code at_ s), .bool (nOk R code s)]) ∧ Below w.heap.size w w' := by
  obtain ⟨⟨gf, cf, rfl, hgf, hcf⟩, ⟨gt, ct, rfl, hgt, hct⟩⟩ := hI
  obtain ⟨NC, hNC⟩ : ∃ z, nCd R code s = z := ⟨_, rfl⟩
  obtain ⟨PR, hPR⟩ : ∃ z, nPr R code at_ s = z := ⟨_, rfl⟩
  obtain ⟨OB, hOB⟩ : ∃ z, nOk R code s = z := ⟨_, rfl⟩
  rw [hNC, hPR, hOB]
  have HNC := Lib.hid hNC
  have HPR := Lib.hid hPR
  have HOB := Lib.hid hOB
  clear hNC hPR hOB
  have hlt := hc.lt
  have hlo := hR.lo
  have h3 := hR.s2
  have hs3 := hs.le hR
  have hpu := hR.pu
  have HWI := Lib.hid (fun (n : Int) (w : World) => (show Calls Try.prog 38 #[.int .i64 n, .int .i64 (-(R.wo : Int)), .int .i64 (R.wo : Int)] w fun e w' => e = .returned (.bool (decide (-(R.wo : Int) ≤ n) && decide (n ≤ (R.wo : Int)))) ∧ w' = w from by
    by_cases hh : -(R.wo : Int) ≤ n ∧ n ≤ (R.wo : Int)
    · rw [decide_eq_true hh.1, decide_eq_true hh.2]
      exact (within_calls n _ _ w hh.1 hh.2).mono (fun _ _ h => ⟨h.1, h.2.symm⟩)
    · rw [show (decide (-(R.wo : Int) ≤ n) && decide (n ≤ (R.wo : Int))) = false by
        simp only [Bool.and_eq_false_iff, decide_eq_false_iff_not]
        by_cases h1 : -(R.wo : Int) ≤ n
        · exact .inr (fun h2 => hh ⟨h1, h2⟩)
        · exact .inl h1]
      exact (within_no n _ _ w hh).mono (fun _ _ h => ⟨h.1, h.2.symm⟩)))
  have c0 := hc.cell (i := 0) (by simp [ccl9])
  have c1 := hc.cell (i := 1) (by simp [ccl9])
  have c2 := hc.cell (i := 2) (by simp [ccl9])
  have c3 := hc.cell (i := 3) (by simp [ccl9])
  have c4 := hc.cell (i := 4) (by simp [ccl9])
  have c5 := hc.cell (i := 5) (by simp [ccl9])
  have c6 := hc.cell (i := 6) (by simp [ccl9])
  have c7 := hc.cell (i := 7) (by simp [ccl9])
  have c8 := hc.cell (i := 8) (by simp [ccl9])
  have c10 := hc.cell (i := 10) (by simp [ccl9])
  simp only [ccl9, List.getD_cons_zero, List.getD_cons_succ] at c0 c1 c2 c3 c4 c5 c6 c7 c8 c10
  go_enter Try.func44, Try.ntmps44
  go_upto_region 2 with (fail)
  have vr := Vals.newL w w.heap.size (rgl R (.slice (some ⟨gf, 0, none⟩) 12 cf) (.slice (some ⟨gt, 0, none⟩) 12 ct)) 24 rfl
  have bb := below_alloc w (.cells (rgl R (.slice (some ⟨gf, 0, none⟩) 12 cf) (.slice (some ⟨gt, 0, none⟩) 12 ct)).toArray 24)
  have HCF := Lib.hid (show ∀ i, i < 12 → _ from fun i hi => (bb.cell (p := ⟨gf, i, none⟩) hgf).trans (hcf i hi))
  have HCT := Lib.hid (show ∀ i, i < 12 → _ from fun i hi => (bb.cell (p := ⟨gt, i, none⟩) hgt).trans (hct i hi))
  have d10 := (bb.cell (p := ⟨cb, 10, none⟩) hlt).trans c10
  have HB := Lib.hid bb
  have hlt2 : cb < (w.alloc (.cells (rgl R (.slice (some ⟨gf, 0, none⟩) 12 cf) (.slice (some ⟨gt, 0, none⟩) 12 ct)).toArray 24)).heap.size := Nat.lt_of_lt_of_le hlt bb.size
  have e0 := vr.cell (i := 0) (by simp [rgl])
  have e1 := vr.cell (i := 1) (by simp [rgl])
  have e2 := vr.cell (i := 2) (by simp [rgl])
  have e5 := vr.cell (i := 5) (by simp [rgl])
  have e6 := vr.cell (i := 6) (by simp [rgl])
  have e7 := vr.cell (i := 7) (by simp [rgl])
  have e8 := vr.cell (i := 8) (by simp [rgl])
  simp only [rgl, List.getD_cons_zero, List.getD_cons_succ] at e0 e1 e2 e5 e6 e7 e8
  clear c0 c1 c2 c3 c4 c5 c6 c7 c8 c10 bb vr hcf hct hgf hgt hc hlt
  simp only [rgl] at *
  generalize w.alloc (.cells #[.int .i64 12, .int .i64 (R.sp : Int), .int .i64 (R.lo : Int), .int .i64 ((R.lo : Int) + 2), .int .i64 (R.tot : Int), .int .i64 (R.pu : Int), .int .i64 (R.wo : Int), .slice (some ⟨gf, 0, none⟩) 12 cf, .slice (some ⟨gt, 0, none⟩) 12 ct] 24) = w0 at *
  obtain ⟨bq, hbq⟩ : ∃ q, w.heap.size = q := ⟨_, rfl⟩
  rw [hbq] at e0 e1 e2 e5 e6 e7 e8 ⊢
  obtain ⟨m, hm⟩ : ∃ m, R.sp - 1 = m := ⟨_, rfl⟩
  have hm2 : m ≤ 2 := by omega
  have qm : IntKind.i64.wrap ((R.sp : Int) - 1) = (m : Int) := by rw [IntWalk.i64_in _ (by omega)]; omega
  have q0 : IntKind.i64.wrap ((R.pu : Int) - (s : Int)) = (R.pu : Int) - (s : Int) - (digK R code 0 : Int) := by rw [IntWalk.i64_in _ (by omega)]; show _ = _ - ((0 : Nat) : Int); omega
  have HM := Lib.hid hm
  have HBQ := Lib.hid hbq
  clear hm hbq
  go_wp2
  go_loopw [12, 13, 14] (fun nv kv xv wr => ∃ k : Nat, k ≤ m ∧ kv = .int .i64 (k : Int) ∧ xv = .int .i64 ((code / 4 ^ k : Nat) : Int) ∧ nv = .int .i64 ((R.pu : Int) - (s : Int) - (digK R code k : Int)) ∧ wr = w0) (fun _ kv _ _ => ((m : Int) - intOf kv).toNat)
  case atStart => exact ⟨0, by omega, rfl, by rw [Nat.pow_zero, Nat.div_one], rfl, rfl⟩
  case round =>
    obtain ⟨k, hk, rfl, rfl, rfl, rfl⟩ := hrel
    by_cases hkm : k < m
    · have t1 : (k : Int) < (m : Int) := by omega
      obtain ⟨D, hD⟩ : ∃ D, digK R code k = D := ⟨_, rfl⟩
      have hDl := digK_le R hlo code k
      rw [hD] at hDl ⊢
      have e1' : digK R code (k + 1) = D + (code / 4 ^ k % 4 + R.lo) := by rw [← hD]; rfl
      have e2' : code / 4 ^ (k + 1) = code / 4 ^ k / 4 := by rw [Nat.pow_succ, Nat.div_div_eq_div_mul]
      obtain ⟨X, hX⟩ : ∃ X, code / 4 ^ k = X := ⟨_, rfl⟩
      have hXl : X ≤ code := by rw [← hX]; exact Nat.div_le_self _ _
      rw [hX] at e1' e2' ⊢
      have E1 := Lib.hid e1'
      have E2 := Lib.hid e2'
      clear hD hX e1' e2'
      go_wp2
      go_roundw
      case rel => exact ⟨k + 1, by omega, by go_num, by rw [E2.out, show ((X / 4 : Nat) : Int) = (X : Int) / 4 by omega], by rw [E1.out, show (R.pu : Int) - (s : Int) - ((D + (X % 4 + R.lo) : Nat) : Int) = (R.pu : Int) - (s : Int) - (D : Int) - ((X : Int) % 4 + (R.lo : Int)) by omega], trivial⟩
      case measure => simp [intOf]; omega
    · obtain rfl : k = m := by omega
      have eN : (R.pu : Int) - (s : Int) - (digK R code k : Int) = nN R code s := by
        unfold nN
        rw [← digK_digs hR, HM.out]
      obtain ⟨n1, n2⟩ := nN_bound hR code s hs3
      obtain ⟨N, hN⟩ : ∃ N, nN R code s = N := ⟨_, rfl⟩
      obtain ⟨J, hJ⟩ : ∃ J, (at_ + 1 - R.sp) % 12 = J := ⟨_, rfl⟩
      have hJ12 : J < 12 := by omega
      have eP : PR = R.T J * N * N + (if at_ < 12 then R.F at_ * (s : Int) * (s : Int) else 0) := by rw [← HPR.out]; unfold nPr; rw [hN, hJ]
      have eO : (decide (-(R.wo : Int) ≤ N) && decide (N ≤ (R.wo : Int))) = OB := by rw [← HOB.out]; unfold nOk; rw [hN]
      rw [hN] at eN n1 n2
      obtain ⟨tb1, tb2⟩ := hR.T J hJ12
      have hcT := HCT.out J hJ12
      obtain ⟨TJ, hTJ⟩ : ∃ z, R.T J = z := ⟨_, rfl⟩
      rw [hTJ] at tb1 tb2 hcT eP
      obtain ⟨sb1, sb2⟩ := sq_bound (a := TJ) (A := 6) (z := N) (m := 15) ⟨tb1, tb2⟩ (by omega) (by omega) (by omega)
      have sb3 : -(6 * 15) ≤ TJ * N ∧ TJ * N ≤ 6 * 15 := by
        have a := Int.mul_le_mul_of_nonneg_left n2 tb1
        have b := Int.mul_le_mul_of_nonneg_left n1 tb1
        omega
      obtain ⟨P1, hP1⟩ : ∃ z, TJ * N = z := ⟨_, rfl⟩
      rw [hP1] at sb1 sb2 sb3 eP
      obtain ⟨P2, hP2⟩ : ∃ z, P1 * N = z := ⟨_, rfl⟩
      rw [hP2] at sb1 sb2 eP
      obtain ⟨A0, hA0⟩ : ∃ z : Int, (at_ : Int) - (R.sp : Int) = z := ⟨_, rfl⟩
      obtain ⟨A1, hA1⟩ : ∃ z : Nat, at_ + 1 - R.sp = z := ⟨_, rfl⟩
      rw [hA1] at hJ
      have q1 : IntKind.i64.wrap ((at_ : Int) - (R.sp : Int)) = A0 := by rw [IntWalk.i64_in _ (by omega)]; exact hA0
      have q2 : IntKind.i64.wrap (A0 + 1) = (A1 : Int) := by rw [IntWalk.i64_in _ (by omega)]; omega
      have q3 : ((A1 : Int)).tmod 12 = (J : Int) := by rw [← hJ]; exact tmod_nat A1 12
      have q3' : (A1 : Int) % 12 = (J : Int) := by omega
      have q4 : IntKind.i64.wrap (TJ * N) = P1 := by rw [IntWalk.i64_in _ (by omega)]; exact hP1
      have q5 : IntKind.i64.wrap (P1 * N) = P2 := by rw [IntWalk.i64_in _ (by omega)]; exact hP2
      have t0 : (0 : Int) ≤ (J : Int) := by omega
      have t2 : (J : Int) < 12 := by omega
      rw [eN]
      have EP := Lib.hid eP
      have PB := Lib.hid (And.intro sb1 sb2)
      have EO := Lib.hid eO
      have HH := Lib.hid (show wr.drew.cell? ⟨bq, 8, none⟩ = some (.slice (some ⟨gt, 0, none⟩) 12 ct) ∧ wr.drew.cell? ⟨bq, 1, none⟩ = some (.int .i64 (R.sp : Int)) ∧ wr.drew.cell? ⟨bq, 0, none⟩ = some (.int .i64 12) ∧ wr.drew.cell? ⟨gt, J, none⟩ = some (.int .i64 TJ) from ⟨e8, e1, e0, hcT⟩)
      clear eP eO eN hN hTJ hP1 hP2 hA0 hA1 hJ sb1 sb2 sb3 tb1 tb2 q0 hk hkm hcT
      go_upto_region 7 with (fail)
      go_region_held3 (fun w' => w'.cell? ⟨bq, 8, none⟩ = some (.slice (some ⟨gt, 0, none⟩) 12 ct) ∧ w'.cell? ⟨bq, 1, none⟩ = some (.int .i64 (R.sp : Int)) ∧ w'.cell? ⟨bq, 0, none⟩ = some (.int .i64 12) ∧ w'.cell? ⟨gt, J, none⟩ = some (.int .i64 TJ)) (exact HH.out) (fail)
      obtain ⟨C, hC⟩ : ∃ C, cds R = C := ⟨_, rfl⟩
      have hC0 : C = 4 ∨ C = 16 := by rw [← hC]; exact hR.cds
      obtain ⟨Y, hY⟩ : ∃ Y, code * 4 + (s - R.lo) = Y := ⟨_, rfl⟩
      have hs0 := hs.1
      have r1 : IntKind.i64.wrap ((code : Int) * 4) = (code : Int) * 4 := IntWalk.i64_in _ (by omega)
      have r2 : IntKind.i64.wrap ((code : Int) * 4 + (s : Int)) = (code : Int) * 4 + (s : Int) := IntWalk.i64_in _ (by omega)
      have r3 : IntKind.i64.wrap ((code : Int) * 4 + (s : Int) - (R.lo : Int)) = (Y : Int) := by rw [IntWalk.i64_in _ (by omega)]; omega
      have r4 : (Y : Int).tmod (C : Int) = (NC : Int) := by rw [← HNC.out, tmod_nat]; unfold nCd; rw [hC, hY]
      have r4' : (Y : Int) % (C : Int) = (NC : Int) := by rw [← HNC.out]; unfold nCd; rw [hC, hY]; rfl
      have r5 : ((C : Int) == 0) = false := by rcases hC0 with e | e <;> rw [e] <;> rfl
      have r6 : IntKind.i64.wrap (-(R.wo : Int)) = -(R.wo : Int) := IntWalk.i64_in _ (by have := hR.w2; omega)
      rw [hC] at d10
      have G2 := Lib.hid (show wr.drew.cell? ⟨bq, 2, none⟩ = some (.int .i64 (R.lo : Int)) ∧ wr.drew.cell? ⟨cb, 10, none⟩ = some (.int .i64 (C : Int)) ∧ wr.drew.cell? ⟨bq, 6, none⟩ = some (.int .i64 (R.wo : Int)) from ⟨e2, d10, e6⟩)
      have G1 := Lib.hid (show wr.drew.cell? ⟨bq, 0, none⟩ = some (.int .i64 12) ∧ wr.drew.cell? ⟨bq, 7, none⟩ = some (.slice (some ⟨gf, 0, none⟩) 12 cf) from ⟨e0, e7⟩)
      have HCF1 := Lib.hid (show ∀ i, i < 12 → wr.drew.cell? ⟨gf, i, none⟩ = some (.int .i64 (R.F i)) from fun i hi => HCF.out i hi)
      have HB1 := Lib.hid HB.out.drew
      have hF := hR.F at_
      clear e0 e1 e2 e5 e6 e7 e8 d10 HH HCF HCT HB hC hY
      generalize wr.drew = w1 at *
      by_cases h12 : at_ < 12
      · have t3 : (at_ : Int) < 12 := by omega
        obtain ⟨f1, f2⟩ := hF h12
        have ce := HCF1.out at_ h12
        have eP := EP.out
        rw [if_pos h12] at eP
        obtain ⟨FA, hFA⟩ : ∃ z, R.F at_ = z := ⟨_, rfl⟩
        rw [hFA] at f1 f2 ce eP
        obtain ⟨sb1, sb2⟩ := sq_bound (a := FA) (A := 1000) (z := (s : Int)) (m := 3) ⟨f1, f2⟩ (by omega) (by omega) (by omega)
        have sb3 : 0 ≤ FA * (s : Int) ∧ FA * (s : Int) ≤ 3000 := by
          have a := Int.mul_le_mul_of_nonneg_left (show (s : Int) ≤ 3 by omega) f1
          have b := Int.mul_nonneg f1 (show 0 ≤ (s : Int) by omega)
          omega
        obtain ⟨S1, hS1⟩ : ∃ z, FA * (s : Int) = z := ⟨_, rfl⟩
        rw [hS1] at sb1 sb2 sb3 eP
        obtain ⟨S2, hS2⟩ : ∃ z, S1 * (s : Int) = z := ⟨_, rfl⟩
        rw [hS2] at sb1 sb2 eP
        have q6 : IntKind.i64.wrap (FA * (s : Int)) = S1 := by rw [IntWalk.i64_in _ (by omega)]; exact hS1
        have q7 : IntKind.i64.wrap (S1 * (s : Int)) = S2 := by rw [IntWalk.i64_in _ (by omega)]; exact hS2
        have q8 : IntKind.i64.wrap (P2 + S2) = PR := by rw [IntWalk.i64_in _ (by have := PB.out; omega)]; exact eP.symm
        have g3 : w1.cell? ⟨bq, 0, none⟩ = some (.int .i64 12) := G1.out.1
        have g4 : w1.cell? ⟨bq, 7, none⟩ = some (.slice (some ⟨gf, 0, none⟩) 12 cf) := G1.out.2
        clear eP hFA hS1 hS2 sb1 sb2 sb3 f1 f2
        have g0 : w1.cell? ⟨bq, 2, none⟩ = some (.int .i64 (R.lo : Int)) := G2.out.1
        have g1 : w1.cell? ⟨cb, 10, none⟩ = some (.int .i64 (C : Int)) := G2.out.2.1
        have g2 : w1.cell? ⟨bq, 6, none⟩ = some (.int .i64 (R.wo : Int)) := G2.out.2.2
        go_upto_region 10 with (fail)
        go_quiet ((go_at_call 38; exact Calls.quiet_of_same (HWI.out _ _)))
        rw [EO.out]
        go_wp2
        go_ret3
        exact ⟨rfl, below_drewN HB1.out _⟩
      · have t3 : ¬ (at_ : Int) < 12 := by omega
        have eP := EP.out
        rw [if_neg h12, Int.add_zero] at eP
        subst eP
        have g3 : w1.cell? ⟨bq, 0, none⟩ = some (.int .i64 12) := G1.out.1
        have g0 : w1.cell? ⟨bq, 2, none⟩ = some (.int .i64 (R.lo : Int)) := G2.out.1
        have g1 : w1.cell? ⟨cb, 10, none⟩ = some (.int .i64 (C : Int)) := G2.out.2.1
        have g2 : w1.cell? ⟨bq, 6, none⟩ = some (.int .i64 (R.wo : Int)) := G2.out.2.2
        go_upto_region 10 with (fail)
        go_quiet ((go_at_call 38; exact Calls.quiet_of_same (HWI.out _ _)))
        rw [EO.out]
        go_wp2
        go_ret3
        exact ⟨rfl, below_drewN HB1.out _⟩

end Go.Proofs
