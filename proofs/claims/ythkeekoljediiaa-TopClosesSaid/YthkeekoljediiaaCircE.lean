/- slices.Clone of integers; temper: begin. -/
import Derived.Test.YthkeekoljediiaaCircD
import Derived.Test.YthkeekoljediiaaRowsV
import Derived.Lib.SliceRun
open Go.RowKit Go.Deep
namespace Go.Proofs
set_option linter.unusedVariables false
set_option linter.unusedSimpArgs false

/-- steps as values -/
def stepsL (e : Nat → Nat) (n : Nat) : List Value := (List.range n).map fun i => .int .i64 (e i : Int)
theorem stepsL_len (e : Nat → Nat) (n : Nat) : (stepsL e n).length = n := by simp [stepsL]
theorem stepsL_succ (e : Nat → Nat) (n : Nat) : stepsL e (n + 1) = stepsL e n ++ [.int .i64 (e n : Int)] := by simp [stepsL, List.range_succ]
theorem stepsL_get (e : Nat → Nat) {n i : Nat} (h : i < n) : (stepsL e n)[i]? = some (.int .i64 (e i : Int)) := by simp [stepsL, h]
theorem stepsL_congr {e e' : Nat → Nat} (n : Nat) (h : ∀ i, i < n → e' i = e i) : stepsL e' n = stepsL e n := List.map_congr_left fun i hi => by rw [h i (List.mem_range.1 hi)]
theorem stepsL_one (e : Nat → Nat) (n : Nat) : ∀ u ∈ stepsL e n, u.oneCell' = true := by
  intro u hu
  obtain ⟨i, _, rfl⟩ := List.mem_map.1 hu
  rfl
/-- steps that can be read -/
theorem rdV_steps {w : World} {g n c : Nat} {e : Nat → Nat} (hn : n ≤ c) (hc : c ≤ maxLen) (h : ∀ i, i < n → w.cell? ⟨g, i, none⟩ = some (.int .i64 (e i : Int))) : RdV w (some ⟨g, 0, none⟩) c n 1 (stepsL e n) := by
  refine ⟨by rw [stepsL_len, Nat.mul_one], hn, hc, .inr ⟨g, 0, rfl, fun j u hj => ?_⟩⟩
  have hj2 := (List.getElem?_eq_some_iff.1 hj).1
  rw [stepsL_len] at hj2
  rw [stepsL_get e hj2] at hj
  rw [Nat.zero_add, h j hj2]
  exact hj
set_option maxRecDepth 100000 in
theorem clone_calls (g n c : Nat) (e : Nat → Nat) (w : World) (hn : n ≤ 100) (h : RdV w (some ⟨g, 0, none⟩) c n 1 (stepsL e n)) :
    Calls Try.prog 41 #[.slice (some ⟨g, 0, none⟩) n c] w fun e' w' => ∃ ad c', e' = .returned (.slice ad n c') ∧ w'.ownsRow w.heap.size 3 1 (.slice ad n c') n (stepsL e n) ∧ Below w.heap.size w w' := by
  have bb := below_alloc w (.cells #[] 3)
  have HO := Lib.hid (ownsRow_made w 3 1)
  have HR := Lib.hid (h.mono bb)
  have HB := Lib.hid bb
  have hsz := bb.size
  have he := fun w : World => Lib.run_eql_slice_nil (P := Try.prog) w 22 3 (some ⟨g, 0, none⟩) n c 0 0 Try.underlying22
  clear h bb
  go_enter Try.func41, Try.ntmps41
  go_upto_region 3 with (fail)
  go_wp2_with (at_builtin; refine wpList_append_rv rfl (.tmp 5) (.tmp 6) _ rfl w.heap.size 3 _ 1 8 Try.underlying22 info_intC rfl (by decide) _ 0 [] rfl HO.out _ n c (stepsL e n) rfl HR.out (stepsL_one e n) (by unfold maxLen; omega) (by omega) hsz n (by omega) (stepsL e n) rfl ?_; intro ad2 c2 w7 hown7 hg7 hn7 hb7 hk7; have O7 := Lib.hid hown7; have B7 := Lib.hid hb7; clear hown7 hg7 hn7 hb7 hk7)
  go_ret
  exact ⟨_, _, rfl, O7.out, HB.out.trans B7.out⟩

/-- the code of the first steps -/
def codeK (R : Rg) (first : Nat → Nat) : Nat → Nat
  | 0 => 0
  | n + 1 => codeK R first n * 4 + (first n - R.lo)
theorem codeK_E {R : Rg} (h : RgOk R) (first : Nat → Nat) : codeK R first (R.sp - 1) = codeE R first (R.sp - 1) := by
  unfold codeE
  rcases h.sp with e | e
  · rw [e, if_pos rfl]; show (0 * 4 + (first 0 - R.lo)) = first (2 - 1 - 1) - R.lo; simp
  · rw [e, if_neg (by omega)]; show (0 * 4 + (first 0 - R.lo)) * 4 + (first 1 - R.lo) = (first (3 - 1 - 2) - R.lo) * 4 + (first (3 - 1 - 1) - R.lo); simp
/-- the cells of a circle whose codes are not yet known -/
def ccK (R : Rg) (fv tv fs rv : Value) (C : Nat) : List Value := [.int .i64 12, .int .i64 (R.sp : Int), .int .i64 (R.lo : Int), .int .i64 ((R.lo : Int) + 2), .int .i64 (R.tot : Int), .int .i64 (R.pu : Int), .int .i64 (R.wo : Int), fv, tv, fs, .int .i64 (C : Int), .int .i64 37, rv]

set_option maxRecDepth 100000 in
set_option maxHeartbeats 1000000 in
theorem cbegin_calls (R : Rg) (fv tv fs : Value) (first : Nat → Nat) (w : World) (hR : RgOk R) (hI : InRg w fv tv R) (hst : ∀ i, i + 1 < R.sp → StOk R (first i)) (hF : InF w fs R first) :
    Calls Try.prog 17 #[.agg #[.int .i64 12, .int .i64 (R.sp : Int), .int .i64 (R.lo : Int), .int .i64 ((R.lo : Int) + 2), .int .i64 (R.tot : Int), .int .i64 (R.pu : Int), .int .i64 (R.wo : Int), fv, tv], fs] w fun e w' =>
      ∃ cb rb, e = .returned (.tuple #[.pointer (some ⟨cb, 0, none⟩), .int .i64 (codeE R first (R.sp - 1) : Int), .int .i64 (PF R first (R.sp - 1))]) ∧ FSt w w' cb rb R fv tv fs first 13 := by
  have hlo := hR.lo
  have h3 := hR.s2
  have HFILL := Lib.hid (fun (w1 : World) (cb : Nat) (hB : Below w.heap.size w w1) (h1 : w.heap.size ≤ cb) (hc : Vals w1 cb (ccl9 R fv tv fs (.slice none 0 0))) => cfill_calls w R fv tv fs first cb w1 hR hI hst hF hB h1 hc)
  rw [← codeK_E hR]
  have hcds : cds R = 4 ^ (R.sp - 1) := rfl
  obtain ⟨m, hm⟩ : ∃ m, R.sp - 1 = m := ⟨_, rfl⟩
  rw [hm] at hcds ⊢
  obtain ⟨⟨gf, cf, rfl, hgf, hcf⟩, ⟨gt, ct, rfl, hgt, hct⟩⟩ := hI
  obtain ⟨g, c, rfl, ⟨hg, _⟩, hcF⟩ := hF
  rw [hm] at HFILL ⊢
  have hm2 : m ≤ 2 := by omega
  have HCF := Lib.hid hcf
  have HCG := Lib.hid (show ∀ i, i < m → w.cell? ⟨g, i, none⟩ = some (.int .i64 (first i : Int)) from fun i hi => hcF i (by omega))
  have HST := Lib.hid (show ∀ i, i < m → StOk R (first i) from fun i hi => hst i (by omega))
  have HFB := Lib.hid hR.F
  have HCD := Lib.hid hcds
  have HM := Lib.hid hm
  clear hcf hct hcF hst hcds hm hR
  go_enter Try.func17, Try.ntmps17
  go_upto_region 2 with (fail)
  have vr := Vals.newL w w.heap.size (rgl R (.slice (some ⟨gf, 0, none⟩) 12 cf) (.slice (some ⟨gt, 0, none⟩) 12 ct)) 24 rfl
  have b1 := below_alloc w (.cells (rgl R (.slice (some ⟨gf, 0, none⟩) 12 cf) (.slice (some ⟨gt, 0, none⟩) 12 ct)).toArray 24)
  have vc := Vals.newL (w.alloc (.cells (rgl R (.slice (some ⟨gf, 0, none⟩) 12 cf) (.slice (some ⟨gt, 0, none⟩) 12 ct)).toArray 24)) (w.heap.size + 1) (ccK R (.slice (some ⟨gf, 0, none⟩) 12 cf) (.slice (some ⟨gt, 0, none⟩) 12 ct) (.slice (some ⟨g, 0, none⟩) m c) (.slice none 0 0) 1) 61 (World.size_alloc _ _).symm
  have b2 := below_alloc (w.alloc (.cells (rgl R (.slice (some ⟨gf, 0, none⟩) 12 cf) (.slice (some ⟨gt, 0, none⟩) 12 ct)).toArray 24)) (.cells (ccK R (.slice (some ⟨gf, 0, none⟩) 12 cf) (.slice (some ⟨gt, 0, none⟩) 12 ct) (.slice (some ⟨g, 0, none⟩) m c) (.slice none 0 0) 1).toArray 61)
  replace vr := vr.mono b2
  have B := below_trans b1 b2
  simp only [rgl, ccK, show ((1 : Nat) : Int) = 1 from rfl] at vr vc B
  clear b1 b2
  generalize (w.alloc (.cells #[.int .i64 12, .int .i64 (R.sp : Int), .int .i64 (R.lo : Int), .int .i64 ((R.lo : Int) + 2), .int .i64 (R.tot : Int), .int .i64 (R.pu : Int), .int .i64 (R.wo : Int), .slice (some ⟨gf, 0, none⟩) 12 cf, .slice (some ⟨gt, 0, none⟩) 12 ct] 24)).alloc (.cells #[.int .i64 12, .int .i64 (R.sp : Int), .int .i64 (R.lo : Int), .int .i64 ((R.lo : Int) + 2), .int .i64 (R.tot : Int), .int .i64 (R.pu : Int), .int .i64 (R.wo : Int), .slice (some ⟨gf, 0, none⟩) 12 cf, .slice (some ⟨gt, 0, none⟩) 12 ct, .slice (some ⟨g, 0, none⟩) m c, .int .i64 1, .int .i64 37, .slice none 0 0] 61) = w2 at *
  obtain ⟨rq, hrq⟩ : ∃ q, w.heap.size = q := ⟨_, rfl⟩
  obtain ⟨cb, hcb⟩ : ∃ q, w.heap.size + 1 = q := ⟨_, rfl⟩
  have hrc : rq ≠ cb := by omega
  rw [hcb] at vc ⊢
  rw [hrq] at vr ⊢
  have HQ := Lib.hid (And.intro hrq hcb)
  clear hrq hcb
  go_wp2
  go_loopw [8, 9, 22] (fun dv kv iv wr => ∃ i : Nat, i ≤ m ∧ iv = .int .i64 (i : Int) ∧ dv = .int .i64 (codeK R first i : Int) ∧ kv = .int .i64 (PF R first i) ∧ codeK R first i < 4 ^ i ∧ 0 ≤ PF R first i ∧ PF R first i ≤ 9000 * (i : Int) ∧
      Vals wr rq [.int .i64 12, .int .i64 (R.sp : Int), .int .i64 (R.lo : Int), .int .i64 ((R.lo : Int) + 2), .int .i64 (R.tot : Int), .int .i64 (R.pu : Int), .int .i64 (R.wo : Int), .slice (some ⟨gf, 0, none⟩) 12 cf, .slice (some ⟨gt, 0, none⟩) 12 ct] ∧
      Vals wr cb (ccK R (.slice (some ⟨gf, 0, none⟩) 12 cf) (.slice (some ⟨gt, 0, none⟩) 12 ct) (.slice (some ⟨g, 0, none⟩) m c) (.slice none 0 0) (4 ^ i)) ∧ Below w.heap.size w wr) (fun _ _ iv _ => ((m : Int) - intOf iv).toNat)
  case atStart => exact ⟨0, by omega, rfl, rfl, rfl, by show 0 < 1; omega, Int.le_refl _, by show (0 : Int) ≤ 9000 * ((0 : Nat) : Int); omega, vr, vc, B⟩
  case round =>
    clear vr vc B
    obtain ⟨i, hi, rfl, rfl, rfl, hk1, hp1, hp2, vr, vc, B⟩ := hrel
    by_cases him : i < m
    · have t1 : (i : Int) < (m : Int) := by omega
      have hs := HST.out i him
      have hs1 := hs.1
      have hs2 := hs.2
      have ce := (B.cell (p := ⟨g, i, none⟩) hg).trans (HCG.out i him)
      have cF := (B.cell (p := ⟨gf, i, none⟩) hgf).trans (HCF.out i (by omega))
      obtain ⟨f1, f2⟩ := HFB.out i (by omega)
      have eK : codeK R first (i + 1) = codeK R first i * 4 + (first i - R.lo) := rfl
      have eP : PF R first (i + 1) = PF R first i + R.F i * (first i : Int) * (first i : Int) := rfl
      have e4 : (4 : Nat) ^ (i + 1) = 4 ^ i * 4 := Nat.pow_succ 4 i
      obtain ⟨K, hK⟩ : ∃ z, codeK R first i = z := ⟨_, rfl⟩
      obtain ⟨P, hP⟩ : ∃ z, PF R first i = z := ⟨_, rfl⟩
      obtain ⟨s, hs0⟩ : ∃ z, first i = z := ⟨_, rfl⟩
      obtain ⟨FA, hFA⟩ : ∃ z, R.F i = z := ⟨_, rfl⟩
      obtain ⟨Q, hQ⟩ : ∃ z, 4 ^ i = z := ⟨_, rfl⟩
      rw [hK] at eK hk1 ⊢
      rw [hP] at eP hp1 hp2 ⊢
      rw [hs0] at eK eP ce hs1 hs2
      rw [hFA] at eP cF f1 f2
      rw [hQ] at e4 hk1 vc
      have hQ4 : Q ≤ 4 := by
        rw [← hQ]
        have : i ≤ 1 := by omega
        calc 4 ^ i ≤ 4 ^ 1 := Nat.pow_le_pow_right (by omega) this
          _ = 4 := rfl
      obtain ⟨sb1, sb2⟩ := sq_bound (a := FA) (A := 1000) (z := (s : Int)) (m := 3) ⟨f1, f2⟩ (by omega) (by omega) (by omega)
      have sb3 : 0 ≤ FA * (s : Int) ∧ FA * (s : Int) ≤ 3000 := by
        have a := Int.mul_le_mul_of_nonneg_left (show (s : Int) ≤ 3 by omega) f1
        have b := Int.mul_nonneg f1 (show 0 ≤ (s : Int) by omega)
        omega
      obtain ⟨S1, hS1⟩ : ∃ z, FA * (s : Int) = z := ⟨_, rfl⟩
      rw [hS1] at sb1 sb2 sb3 eP
      obtain ⟨S2, hS2⟩ : ∃ z, S1 * (s : Int) = z := ⟨_, rfl⟩
      rw [hS2] at sb1 sb2 eP
      obtain ⟨K2, hK2⟩ : ∃ z : Nat, K * 4 + (s - R.lo) = z := ⟨_, rfl⟩
      rw [hK2] at eK
      have q1 : IntKind.i64.wrap ((K : Int) * 4) = (K : Int) * 4 := IntWalk.i64_in _ (by omega)
      have q2 : IntKind.i64.wrap ((K : Int) * 4 + (s : Int)) = (K : Int) * 4 + (s : Int) := IntWalk.i64_in _ (by omega)
      have q3 : IntKind.i64.wrap ((K : Int) * 4 + (s : Int) - (R.lo : Int)) = (K2 : Int) := by rw [IntWalk.i64_in _ (by omega)]; omega
      have q6 : IntKind.i64.wrap (FA * (s : Int)) = S1 := by rw [IntWalk.i64_in _ (by omega)]; exact hS1
      have q7 : IntKind.i64.wrap (S1 * (s : Int)) = S2 := by rw [IntWalk.i64_in _ (by omega)]; exact hS2
      have q8 : IntKind.i64.wrap (P + S2) = P + S2 := IntWalk.i64_in _ (by omega)
      have q9 : IntKind.i64.wrap ((Q : Int) * 4) = ((Q * 4 : Nat) : Int) := by rw [IntWalk.i64_in _ (by omega)]; omega
      have c10 := vc.cell (i := 10) (by simp [ccK])
      simp only [ccK, List.getD_cons_zero, List.getD_cons_succ] at c10
      have f10 := vc.frozen 10
      have r2 := vr.cell (i := 2) (by simp)
      have r7 := vr.cell (i := 7) (by simp)
      simp only [List.getD_cons_zero, List.getD_cons_succ] at r2 r7
      have lc := vc.lt
      have lr := vr.lt
      have hrc2 : cb ≠ rq := fun h => hrc h.symm
      have hcbB : w.heap.size ≤ cb := by have := HQ.out.2; omega
      have vc2 := vc.set 10 (.int .i64 ((Q * 4 : Nat) : Int))
      simp only [ccK, List.set_cons_succ, List.set_cons_zero] at vc2
      have vr2 := vr.other ⟨cb, 10, none⟩ hrc2 (.int .i64 ((Q * 4 : Nat) : Int))
      have B2 := B.setCell (p := ⟨cb, 10, none⟩) hcbB (.int .i64 ((Q * 4 : Nat) : Int))
      have HK2 := Lib.hid eK
      have HE := Lib.hid (And.intro eP e4)
      have HV := Lib.hid (And.intro vr2 (And.intro vc2 B2))
      have hgcb : g ≠ cb := by omega
      have hgfcb : gf ≠ cb := by omega
      have hK24 : K2 < Q * 4 := by omega
      clear eK eP e4 hK hP hs0 hFA hQ hS1 hS2 hK2 vc2 vr2 B2 vc vr B hs hcbB
      go_wp2
      go_roundw
      case rel => exact ⟨i + 1, by omega, by go_num, by rw [HK2.out], by rw [HE.out.1], by rw [HK2.out, HE.out.2]; exact hK24, by rw [HE.out.1]; omega, by rw [HE.out.1]; omega, HV.out.1, by rw [HE.out.2]; exact HV.out.2.1, HV.out.2.2⟩
      case measure => simp [intOf]; omega
    · obtain rfl : i = m := by omega
      have vc' : Vals wr cb (ccl9 R (.slice (some ⟨gf, 0, none⟩) 12 cf) (.slice (some ⟨gt, 0, none⟩) 12 ct) (.slice (some ⟨g, 0, none⟩) i c) (.slice none 0 0)) := by
        unfold ccl9
        rw [HCD.out]
        exact vc
      have FL := Lib.hid (HFILL.out wr cb B (by have := HQ.out.2; omega) vc')
      clear vc vc' vr B
      go_wp2_with fail
      refine FL.out.mono ?_
      rintro e w3 ⟨rfl, rb, F⟩
      go_wp2
      go_ret3
      exact ⟨cb, rb, rfl, F⟩

end Go.Proofs
