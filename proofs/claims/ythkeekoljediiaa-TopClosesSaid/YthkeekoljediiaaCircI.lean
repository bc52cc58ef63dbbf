/- temper: fits, off, Errors, priced, Cost of steps that are fine. -/
import Derived.Test.YthkeekoljediiaaCircE
open Go.RowKit Go.Deep
namespace Go.Proofs
set_option linter.unusedVariables false
set_option linter.unusedSimpArgs false

/-- twelve steps that can be read -/
def In12n (w : World) (v : Value) (e : Nat → Nat) : Prop := In12 w v (fun i => (e i : Int))
/-- the sum of the steps -/
def sumN (e : Nat → Nat) : Nat → Nat
  | 0 => 0
  | n + 1 => sumN e n + e n
theorem sumN_E {R : Rg} {e : Nat → Nat} (n : Nat) (h : ∀ i, i < n → StOk R (e i)) : sumN e n = sumE R e n + n * R.lo := by
  induction n with
  | zero => simp [sumN, sumE]
  | succ n ih =>
    have := (h n (by omega)).1
    have := ih (fun i hi => h i (by omega))
    unfold sumN sumE
    rw [Nat.add_mul]
    omega
theorem sumN_le {R : Rg} (hR : RgOk R) {e : Nat → Nat} (n : Nat) (h : ∀ i, i < n → StOk R (e i)) : sumN e n ≤ 3 * n := by
  induction n with
  | zero => exact Nat.le_refl _
  | succ n ih =>
    have := (h n (by omega)).le hR
    have := ih (fun i hi => h i (by omega))
    unfold sumN
    omega
/-- a third's error, step by step -/
def offK (R : Rg) (e : Nat → Nat) (i : Nat) : Nat → Int
  | 0 => (R.pu : Int)
  | k + 1 => offK R e i k - (e ((i + k) % 12) : Int)
theorem offK_E {R : Rg} (hR : RgOk R) (e : Nat → Nat) (i : Nat) : offK R e i R.sp = offE R (fun j => e (j % 12)) i := by
  unfold offE
  rcases hR.sp with q | q
  · rw [if_pos q, q]; rfl
  · rw [if_neg (by omega), q]; rfl
theorem offK_bound {R : Rg} (hR : RgOk R) {e : Nat → Nat} (h : ∀ i, i < 12 → StOk R (e i)) (i k : Nat) : (R.pu : Int) - 3 * (k : Int) ≤ offK R e i k ∧ offK R e i k ≤ (R.pu : Int) := by
  induction k with
  | zero => exact ⟨by show (R.pu : Int) - 3 * ((0 : Nat) : Int) ≤ (R.pu : Int); omega, Int.le_refl _⟩
  | succ k ih =>
    have := (h ((i + k) % 12) (Nat.mod_lt _ (by omega))).le hR
    unfold offK
    omega
/-- the cost so far -/
def costK (R : Rg) (e : Nat → Nat) : Nat → Int
  | 0 => 0
  | n + 1 => costK R e n + (R.F n * (e n : Int) * (e n : Int) + R.T n * offE R (fun j => e (j % 12)) n * offE R (fun j => e (j % 12)) n)
theorem costK_P (R : Rg) (e : Nat → Nat) (n : Nat) : costK R e n = PF R e n + PT R (fun j => e (j % 12)) n := by
  induction n with
  | zero => rfl
  | succ n ih => unfold costK PF PT; rw [ih]; omega

set_option maxRecDepth 100000 in
theorem fits_calls (R : Rg) (fv tv v : Value) (e : Nat → Nat) (c : Int) (w : World) (hR : RgOk R) (hF : Fine R e c) (hv : In12n w v e) :
    Calls Try.prog 45 #[.agg #[.int .i64 12, .int .i64 (R.sp : Int), .int .i64 (R.lo : Int), .int .i64 ((R.lo : Int) + 2), .int .i64 (R.tot : Int), .int .i64 (R.pu : Int), .int .i64 (R.wo : Int), fv, tv], v] w fun e' w' => e' = .returned (.bool true) ∧ Below w.heap.size w w' := by
  have HW := Lib.hid (fun (n lo hi : Int) (w : World) (h1 : lo ≤ n) (h2 : n ≤ hi) => within_calls n lo hi w h1 h2)
  have vr := Vals.newL w w.heap.size (rgl R fv tv) 24 rfl
  have bb := below_alloc w (.cells (rgl R fv tv).toArray 24)
  obtain ⟨g, cc, rfl, hg, hc⟩ := hv.mono bb
  have c0 := vr.cell (i := 0) (by simp [rgl])
  have c2 := vr.cell (i := 2) (by simp [rgl])
  have c3 := vr.cell (i := 3) (by simp [rgl])
  have c4 := vr.cell (i := 4) (by simp [rgl])
  have hlt := vr.lt
  simp only [rgl, List.getD_cons_zero, List.getD_cons_succ] at c0 c2 c3 c4
  have HC := Lib.hid hc
  have HB := Lib.hid bb
  have HS := Lib.hid hF.st
  have hlo := hR.lo
  have htot : sumN e 12 = R.tot := by rw [sumN_E 12 hF.st]; have := hF.sum; omega
  have HT := Lib.hid htot
  have HSL := Lib.hid (fun n (hn : n ≤ 12) => sumN_le hR n (fun i hi => hF.st i (by omega)))
  have hti : ((R.tot : Int) == (R.tot : Int)) = true := by simp
  clear hc vr bb hv hF htot
  simp only [rgl] at *
  go_enter Try.func45, Try.ntmps45
  go_wp2
  generalize w.alloc (.cells #[.int .i64 12, .int .i64 (R.sp : Int), .int .i64 (R.lo : Int), .int .i64 ((R.lo : Int) + 2), .int .i64 (R.tot : Int), .int .i64 (R.pu : Int), .int .i64 (R.wo : Int), fv, tv] 24) = w0 at *
  go_loopw [5, 10] (fun sv iv wr => ∃ i : Nat, i ≤ 12 ∧ iv = .int .i64 (i : Int) ∧ sv = .int .i64 (sumN e i : Int) ∧ wr = w0) (fun _ iv _ => ((12 : Int) - intOf iv).toNat)
  case atStart => exact ⟨0, by omega, rfl, rfl, rfl⟩
  case round =>
    obtain ⟨i, hi, rfl, rfl, rfl⟩ := hrel
    by_cases h12 : i < 12
    · have t1 : (i : Int) < 12 := by omega
      have ce := HC.out i h12
      have hs := HS.out i h12
      have hb := HSL.out i hi
      have e1 : sumN e (i + 1) = sumN e i + e i := rfl
      obtain ⟨S, hS⟩ : ∃ S, sumN e i = S := ⟨_, rfl⟩
      obtain ⟨f, hf⟩ : ∃ f, e i = f := ⟨_, rfl⟩
      unfold StOk at hs
      rw [hS] at hb e1 ⊢
      rw [hf] at hs ce e1
      have q2 : IntKind.i64.wrap ((S : Int) + (f : Int)) = ((S + f : Nat) : Int) := by rw [IntWalk.i64_in _ (by omega)]; omega
      have E1 := Lib.hid e1
      clear hS hf e1
      go_wp2_with fail
      refine (HW.out _ _ _ _ (by omega) (by omega)).mono ?_
      rintro e' w' ⟨rfl, rfl⟩
      go_wp2
      go_roundw
      case rel => exact ⟨i + 1, by omega, by go_num, by rw [E1.out, Int.natCast_add], trivial⟩
      case measure => simp [intOf]; omega
    · obtain rfl : i = 12 := by omega
      rw [HT.out]
      go_wp2
      go_ret
      exact ⟨rfl, HB.out⟩

set_option maxRecDepth 100000 in
theorem off_calls (R : Rg) (fv tv v : Value) (e : Nat → Nat) (i : Nat) (w : World) (hR : RgOk R) (hst : ∀ i, i < 12 → StOk R (e i)) (hi12 : i < 12) (hv : In12n w v e) :
    Calls Try.prog 46 #[.agg #[.int .i64 12, .int .i64 (R.sp : Int), .int .i64 (R.lo : Int), .int .i64 ((R.lo : Int) + 2), .int .i64 (R.tot : Int), .int .i64 (R.pu : Int), .int .i64 (R.wo : Int), fv, tv], v, .int .i64 (i : Int)] w fun e' w' => e' = .returned (.int .i64 (offE R (fun j => e (j % 12)) i)) ∧ Below w.heap.size w w' := by
  rw [← offK_E hR]
  have vr := Vals.newL w w.heap.size (rgl R fv tv) 24 rfl
  have bb := below_alloc w (.cells (rgl R fv tv).toArray 24)
  obtain ⟨g, cc, rfl, hg, hc⟩ := hv.mono bb
  have c0 := vr.cell (i := 0) (by simp [rgl])
  have c1 := vr.cell (i := 1) (by simp [rgl])
  have c5 := vr.cell (i := 5) (by simp [rgl])
  have hlt := vr.lt
  simp only [rgl, List.getD_cons_zero, List.getD_cons_succ] at c0 c1 c5
  have HC := Lib.hid hc
  have HB := Lib.hid bb
  have HS := Lib.hid hst
  have HK := Lib.hid (fun k => offK_bound hR hst i k)
  have h3 := hR.s2
  have hpu := hR.pu
  clear hc vr bb hv hst
  simp only [rgl] at *
  go_enter Try.func46, Try.ntmps46
  go_wp2
  generalize w.alloc (.cells #[.int .i64 12, .int .i64 (R.sp : Int), .int .i64 (R.lo : Int), .int .i64 ((R.lo : Int) + 2), .int .i64 (R.tot : Int), .int .i64 (R.pu : Int), .int .i64 (R.wo : Int), fv, tv] 24) = w0 at *
  go_loopw [7, 13] (fun sv iv wr => ∃ k : Nat, k ≤ R.sp ∧ iv = .int .i64 (k : Int) ∧ sv = .int .i64 (offK R e i k) ∧ wr = w0) (fun _ iv _ => ((R.sp : Int) - intOf iv).toNat)
  case atStart => exact ⟨0, by omega, rfl, rfl, rfl⟩
  case round =>
    obtain ⟨k, hk, rfl, rfl, rfl⟩ := hrel
    by_cases hkm : k < R.sp
    · have t1 : (k : Int) < (R.sp : Int) := by omega
      have hj : (i + k) % 12 < 12 := Nat.mod_lt _ (by omega)
      have ce := HC.out ((i + k) % 12) hj
      have hs := (HS.out ((i + k) % 12) hj).le hR
      have e1 : offK R e i (k + 1) = offK R e i k - (e ((i + k) % 12) : Int) := rfl
      obtain ⟨hb1, hb2⟩ := HK.out k
      obtain ⟨S, hS⟩ : ∃ S, offK R e i k = S := ⟨_, rfl⟩
      obtain ⟨f, hf⟩ : ∃ f, e ((i + k) % 12) = f := ⟨_, rfl⟩
      obtain ⟨J, hJ⟩ : ∃ J, (i + k) % 12 = J := ⟨_, rfl⟩
      obtain ⟨A, hA⟩ : ∃ A : Nat, i + k = A := ⟨_, rfl⟩
      try dsimp only at ce
      rw [hS] at hb1 hb2 e1 ⊢
      rw [hf] at hs ce e1
      rw [hJ] at ce hj
      rw [hA] at hJ
      have q1 : IntKind.i64.wrap ((i : Int) + (k : Int)) = (A : Int) := by rw [IntWalk.i64_in _ (by omega)]; omega
      have q3 : ((A : Int)).tmod 12 = (J : Int) := by rw [← hJ]; exact tmod_nat A 12
      have q3' : (A : Int) % 12 = (J : Int) := by omega
      have q2 : IntKind.i64.wrap (S - (f : Int)) = S - (f : Int) := IntWalk.i64_in _ (by omega)
      have E1 := Lib.hid e1
      have x0 : (0 : Int) ≤ (J : Int) := by omega
      have x1 : (J : Int) < 12 := by omega
      clear hS hf e1 hJ hA
      go_wp2
      go_roundw
      case rel => exact ⟨k + 1, by omega, by go_num, by rw [E1.out], trivial⟩
      case measure => simp [intOf]; omega
    · have hkk : k = R.sp := by omega
      have HKK := Lib.hid hkk
      clear hkk
      go_wp2
      go_ret
      exact ⟨by rw [← HKK.out]; rfl, HB.out⟩

/-- the errors as values -/
def offL (R : Rg) (e : Nat → Nat) (n : Nat) : List Value := (List.range n).map fun i => .int .i64 (offE R (fun j => e (j % 12)) i)
theorem offL_succ (R : Rg) (e : Nat → Nat) (n : Nat) : offL R e (n + 1) = offL R e n ++ [.int .i64 (offE R (fun j => e (j % 12)) n)] := by simp [offL, List.range_succ]

set_option maxRecDepth 100000 in
set_option maxHeartbeats 1000000 in
theorem errors_calls (R : Rg) (fv tv v : Value) (e : Nat → Nat) (c : Int) (w : World) (hR : RgOk R) (hI : InRg w fv tv R) (hF : Fine R e c) (hv : In12n w v e) :
    Calls Try.prog 20 #[.agg #[.int .i64 12, .int .i64 (R.sp : Int), .int .i64 (R.lo : Int), .int .i64 ((R.lo : Int) + 2), .int .i64 (R.tot : Int), .int .i64 (R.pu : Int), .int .i64 (R.wo : Int), fv, tv], v] w fun e' w' => (∃ u, e' = .returned (.tuple #[u, .int .i64 0])) ∧ Below w.heap.size w w' := by
  have HCH := Lib.hid (fun (w1 : World) (hb : Below w.heap.size w w1) => rcheck_calls R fv tv w1 hR (hI.mono hb))
  have HFI := Lib.hid (fun (w1 : World) (hb : Below w.heap.size w w1) => fits_calls R fv tv v e c w1 hR hF (hv.mono hb))
  have HOF := Lib.hid (fun (w1 : World) (hb : Below w.heap.size w w1) (i : Nat) (hi : i < 12) => off_calls R fv tv v e i w1 hR hF.st hi (hv.mono hb))
  obtain ⟨gs, cs, rfl, _, _⟩ := hv
  obtain ⟨⟨gf, cf, rfl, _, _⟩, ⟨gt, ct, rfl, _, _⟩⟩ := hI
  have vr := Vals.newL w w.heap.size (rgl R (.slice (some ⟨gf, 0, none⟩) 12 cf) (.slice (some ⟨gt, 0, none⟩) 12 ct)) 24 rfl
  have bb := below_alloc w (.cells (rgl R (.slice (some ⟨gf, 0, none⟩) 12 cf) (.slice (some ⟨gt, 0, none⟩) 12 ct)).toArray 24)
  simp only [rgl] at vr bb
  have HV := Lib.hid (And.intro vr bb)
  clear vr bb
  go_enter Try.func20, Try.ntmps20
  go_wp2_with fail
  generalize w.alloc (.cells #[.int .i64 12, .int .i64 (R.sp : Int), .int .i64 (R.lo : Int), .int .i64 ((R.lo : Int) + 2), .int .i64 (R.tot : Int), .int .i64 (R.pu : Int), .int .i64 (R.wo : Int), .slice (some ⟨gf, 0, none⟩) 12 cf, .slice (some ⟨gt, 0, none⟩) 12 ct] 24) = w0 at *
  refine (HCH.out w0 HV.out.2).mono ?_
  rintro e' w1 ⟨rfl, b1⟩
  have vr := HV.out.1.mono b1
  have B1 := Lib.hid (below_trans HV.out.2 b1)
  obtain ⟨bq, hbq⟩ : ∃ q, w.heap.size = q := ⟨_, rfl⟩
  rw [hbq] at vr ⊢
  have c0 := vr.cell (i := 0) (by simp [rgl])
  have c1 := vr.cell (i := 1) (by simp [rgl])
  have c2 := vr.cell (i := 2) (by simp [rgl])
  have c3 := vr.cell (i := 3) (by simp [rgl])
  have c4 := vr.cell (i := 4) (by simp [rgl])
  have c5 := vr.cell (i := 5) (by simp [rgl])
  have c6 := vr.cell (i := 6) (by simp [rgl])
  have c7 := vr.cell (i := 7) (by simp [rgl])
  have c8 := vr.cell (i := 8) (by simp [rgl])
  simp only [List.getD_cons_zero, List.getD_cons_succ] at c0 c1 c2 c3 c4 c5 c6 c7 c8
  have hlt := vr.lt
  have HBQ := Lib.hid hbq
  clear vr b1 HV hbq
  go_wp2_with fail
  refine (HFI.out w1 B1.out).mono ?_
  rintro e' w2 ⟨rfl, b2⟩
  replace c0 := (b2.cell (p := ⟨bq, 0, none⟩) hlt).trans c0
  replace c1 := (b2.cell (p := ⟨bq, 1, none⟩) hlt).trans c1
  replace c2 := (b2.cell (p := ⟨bq, 2, none⟩) hlt).trans c2
  replace c3 := (b2.cell (p := ⟨bq, 3, none⟩) hlt).trans c3
  replace c4 := (b2.cell (p := ⟨bq, 4, none⟩) hlt).trans c4
  replace c5 := (b2.cell (p := ⟨bq, 5, none⟩) hlt).trans c5
  replace c6 := (b2.cell (p := ⟨bq, 6, none⟩) hlt).trans c6
  replace c7 := (b2.cell (p := ⟨bq, 7, none⟩) hlt).trans c7
  replace c8 := (b2.cell (p := ⟨bq, 8, none⟩) hlt).trans c8
  have hlt2 := Nat.lt_of_lt_of_le hlt b2.size
  have HCC := Lib.hid (And.intro c0 (And.intro c1 (And.intro c2 (And.intro c3 (And.intro c4 (And.intro c5 (And.intro c6 (And.intro c7 c8))))))))
  have B2 := Lib.hid (below_trans B1.out b2)
  clear b2 B1 HFI HCH hlt c1 c2 c3 c4 c5 c6 c7 c8
  go_wp2
  clear c0
  go_loopw [7, 20] (fun ov iv wr => ∃ (i : Nat) (ad : Option Addr) (cc : Nat), i ≤ 12 ∧ iv = .int .i64 (i : Int) ∧ ov = .slice ad i cc ∧ wr.ownsRow w2.heap.size 3 1 (.slice ad i cc) i (offL R e i) ∧ Below w2.heap.size w2 wr) (fun _ iv _ => ((12 : Int) - intOf iv).toNat)
  case atStart => exact ⟨0, none, 0, by omega, rfl, rfl, ownsRow_nil _ _ _ _, Below.refl _ _⟩
  case round =>
    obtain ⟨i, ad, cc, hi, rfl, rfl, hown, hb⟩ := hrel
    by_cases h12 : i < 12
    · have t1 : (i : Int) < 12 := by omega
      obtain ⟨c0, c1, c2, c3, c4, c5, c6, c7, c8⟩ := HCC.out
      replace c0 := (hb.cell (p := ⟨bq, 0, none⟩) hlt2).trans c0
      replace c1 := (hb.cell (p := ⟨bq, 1, none⟩) hlt2).trans c1
      replace c2 := (hb.cell (p := ⟨bq, 2, none⟩) hlt2).trans c2
      replace c3 := (hb.cell (p := ⟨bq, 3, none⟩) hlt2).trans c3
      replace c4 := (hb.cell (p := ⟨bq, 4, none⟩) hlt2).trans c4
      replace c5 := (hb.cell (p := ⟨bq, 5, none⟩) hlt2).trans c5
      replace c6 := (hb.cell (p := ⟨bq, 6, none⟩) hlt2).trans c6
      replace c7 := (hb.cell (p := ⟨bq, 7, none⟩) hlt2).trans c7
      replace c8 := (hb.cell (p := ⟨bq, 8, none⟩) hlt2).trans c8
      have hltr := Nat.lt_of_lt_of_le hlt2 hb.size
      have OF := Lib.hid (HOF.out wr (B2.out.trans (hb.mono B2.out.size)) i h12)
      have HSUC := Lib.hid (offL_succ R e i)
      obtain ⟨Z, hZ⟩ : ∃ z, offE R (fun j => e (j % 12)) i = z := ⟨_, rfl⟩
      rw [hZ] at OF HSUC
      have HOW := Lib.hid hown
      have HB := Lib.hid hb
      have hsz := hb.size
      clear hown hb hZ
      go_wp2_with fail
      refine OF.out.mono ?_
      rintro e' w4 ⟨rfl, b4⟩
      have bz := below_alloc w4 (.cells #[.int .i64 Z] 3)
      have HO4 := Lib.hid (ownsRow_mono (ownsRow_mono HOW.out b4) bz)
      have HB4 := Lib.hid (HB.out.trans ((below_trans b4 bz).mono hsz))
      have RD : RdV (w4.alloc (.cells #[.int .i64 Z] 3)) (some ⟨w4.heap.size, 0, none⟩) 1 1 1 [.int .i64 Z] := by
        refine ⟨rfl, Nat.le_refl _, by unfold maxLen; omega, .inr ⟨_, 0, rfl, fun j u hj => ?_⟩⟩
        have hj2 := (List.getElem?_eq_some_iff.1 hj).1
        have e := (Vals.newL w4 w4.heap.size [.int .i64 Z] 3 rfl).cell hj2
        rw [Nat.zero_add, e, List.getD, hj]
        rfl
      have HRD := Lib.hid RD
      have hle : w2.heap.size ≤ (w4.alloc (.cells #[.int .i64 Z] 3)).heap.size := HB4.out.size
      clear b4 bz RD HOW HB c0 c1 c2 c3 c4 c5 c6 c7 c8 hltr OF
      go_wp2_with (at_builtin; refine wpList_append_rv rfl (.tmp 23) (.tmp 28) _ rfl w2.heap.size 3 _ 1 8 Try.underlying22 info_intC rfl (by decide) _ i (offL R e i) rfl HO4.out _ 1 1 [.int .i64 Z] rfl HRD.out (by intro u hu; simp only [List.mem_cons, List.not_mem_nil, or_false] at hu; subst hu; rfl) (by unfold maxLen; omega) (by omega) hle (i + 1) rfl _ HSUC.out ?_; intro ad2 c2' w7 hown7 hg7 hn7 hb7 hk7; have O7 := Lib.hid hown7; have B7 := Lib.hid (HB4.out.trans hb7); clear hown7 hg7 hn7 hb7 hk7)
      go_roundw
      case rel => exact ⟨i + 1, ad2, c2', by omega, by go_num, rfl, O7.out, B7.out⟩
      case measure => simp [intOf]; omega
    · obtain rfl : i = 12 := by omega
      go_wp2
      go_ret2
      exact ⟨⟨_, rfl⟩, B2.out.trans (hb.mono B2.out.size)⟩

set_option maxRecDepth 100000 in
set_option maxHeartbeats 1000000 in
theorem priced_calls (R : Rg) (fv tv v : Value) (e : Nat → Nat) (c : Int) (w : World) (hR : RgOk R) (hI : InRg w fv tv R) (hF : Fine R e c) (hv : In12n w v e) :
    Calls Try.prog 21 #[.agg #[.int .i64 12, .int .i64 (R.sp : Int), .int .i64 (R.lo : Int), .int .i64 ((R.lo : Int) + 2), .int .i64 (R.tot : Int), .int .i64 (R.pu : Int), .int .i64 (R.wo : Int), fv, tv], v] w fun e' w' => e' = .returned (.tuple #[.int .i64 c, .bool true]) ∧ Below w.heap.size w w' := by
  have HOF := Lib.hid (fun (w1 : World) (hb : Below w.heap.size w w1) (i : Nat) (hi : i < 12) => off_calls R fv tv v e i w1 hR hF.st hi (hv.mono hb))
  have HW := Lib.hid (fun (n lo hi : Int) (w : World) (h1 : lo ≤ n) (h2 : n ≤ hi) => (within_calls n lo hi w h1 h2))
  have HOFB := Lib.hid hF.off
  have HST := Lib.hid (fun i (hi : i < 12) => (hF.st i hi).le hR)
  have hcost : costK R e 12 = c := (costK_P R e 12).trans hF.cost
  have HCO := Lib.hid hcost
  obtain ⟨gs, cs, rfl, hgs, hcs⟩ := hv
  obtain ⟨⟨gf, cf, rfl, hgf, hcf⟩, ⟨gt, ct, rfl, hgt, hct⟩⟩ := hI
  have HCS := Lib.hid hcs
  have HCF := Lib.hid hcf
  have HCT := Lib.hid hct
  have hwo := hR.w2
  have qn : IntKind.i64.wrap (-(R.wo : Int)) = -(R.wo : Int) := IntWalk.i64_in _ (by omega)
  have HFB := Lib.hid (fun i (hi : i < 12) => And.intro (hR.F i hi) (hR.T i hi))
  have vr := Vals.newL w w.heap.size (rgl R (.slice (some ⟨gf, 0, none⟩) 12 cf) (.slice (some ⟨gt, 0, none⟩) 12 ct)) 24 rfl
  have bb := below_alloc w (.cells (rgl R (.slice (some ⟨gf, 0, none⟩) 12 cf) (.slice (some ⟨gt, 0, none⟩) 12 ct)).toArray 24)
  simp only [rgl] at vr bb
  have c0 := vr.cell (i := 0) (by simp [rgl])
  have c1 := vr.cell (i := 1) (by simp [rgl])
  have c2 := vr.cell (i := 2) (by simp [rgl])
  have c3 := vr.cell (i := 3) (by simp [rgl])
  have c4 := vr.cell (i := 4) (by simp [rgl])
  have c5 := vr.cell (i := 5) (by simp [rgl])
  have c6 := vr.cell (i := 6) (by simp [rgl])
  have c7 := vr.cell (i := 7) (by simp [rgl])
  have c8 := vr.cell (i := 8) (by simp [rgl])
  simp only [List.getD_cons_zero, List.getD_cons_succ] at c0 c1 c2 c3 c4 c5 c6 c7 c8
  have hlt := vr.lt
  have HB := Lib.hid bb
  clear vr bb hcs hcf hct hcost
  go_enter Try.func21, Try.ntmps21
  go_wp2
  generalize w.alloc (.cells #[.int .i64 12, .int .i64 (R.sp : Int), .int .i64 (R.lo : Int), .int .i64 ((R.lo : Int) + 2), .int .i64 (R.tot : Int), .int .i64 (R.pu : Int), .int .i64 (R.wo : Int), .slice (some ⟨gf, 0, none⟩) 12 cf, .slice (some ⟨gt, 0, none⟩) 12 ct] 24) = w0 at *
  obtain ⟨bq, hbq⟩ : ∃ q, w.heap.size = q := ⟨_, rfl⟩
  rw [hbq] at c0 c1 c2 c3 c4 c5 c6 c7 c8 hlt ⊢
  have HBQ := Lib.hid hbq
  have HCC := Lib.hid (And.intro c0 (And.intro c1 (And.intro c2 (And.intro c3 (And.intro c4 (And.intro c5 (And.intro c6 (And.intro c7 c8))))))))
  clear hbq c0 c1 c2 c3 c4 c5 c6 c7 c8
  go_loopw [6, 12] (fun sv iv wr => ∃ i : Nat, i ≤ 12 ∧ iv = .int .i64 (i : Int) ∧ sv = .int .i64 (costK R e i) ∧ 0 ≤ costK R e i ∧ costK R e i ≤ 12000 * (i : Int) ∧ Below w0.heap.size w0 wr) (fun _ iv _ => ((12 : Int) - intOf iv).toNat)
  case atStart => exact ⟨0, by omega, rfl, rfl, Int.le_refl _, by show (0 : Int) ≤ 12000 * ((0 : Nat) : Int); omega, Below.refl _ _⟩
  case round =>
    obtain ⟨i, hi, rfl, rfl, hs0, hs1, hb⟩ := hrel
    by_cases h12 : i < 12
    · have t1 : (i : Int) < 12 := by omega
      have HBW := Lib.hid (HB.out.trans (hb.mono HB.out.size))
      obtain ⟨c0, c1, c2, c3, c4, c5, c6, c7, c8⟩ := HCC.out
      replace c0 := (hb.cell (p := ⟨bq, 0, none⟩) hlt).trans c0
      replace c1 := (hb.cell (p := ⟨bq, 1, none⟩) hlt).trans c1
      replace c2 := (hb.cell (p := ⟨bq, 2, none⟩) hlt).trans c2
      replace c3 := (hb.cell (p := ⟨bq, 3, none⟩) hlt).trans c3
      replace c4 := (hb.cell (p := ⟨bq, 4, none⟩) hlt).trans c4
      replace c5 := (hb.cell (p := ⟨bq, 5, none⟩) hlt).trans c5
      replace c6 := (hb.cell (p := ⟨bq, 6, none⟩) hlt).trans c6
      replace c7 := (hb.cell (p := ⟨bq, 7, none⟩) hlt).trans c7
      replace c8 := (hb.cell (p := ⟨bq, 8, none⟩) hlt).trans c8
      have hltr := Nat.lt_of_lt_of_le hlt hb.size
      have ce := (HBW.out.cell (p := ⟨gs, i, none⟩) hgs).trans (HCS.out i h12)
      have cF := (HBW.out.cell (p := ⟨gf, i, none⟩) hgf).trans (HCF.out i h12)
      have cT := (HBW.out.cell (p := ⟨gt, i, none⟩) hgt).trans (HCT.out i h12)
      have OF := Lib.hid (HOF.out wr HBW.out i h12)
      obtain ⟨w1', w2'⟩ := HOFB.out i h12
      have hs3 := HST.out i h12
      obtain ⟨⟨f1, f2⟩, ⟨g1, g2⟩⟩ := HFB.out i h12
      have e1 : costK R e (i + 1) = costK R e i + (R.F i * (e i : Int) * (e i : Int) + R.T i * offE R (fun j => e (j % 12)) i * offE R (fun j => e (j % 12)) i) := rfl
      obtain ⟨Z, hZ⟩ : ∃ z, offE R (fun j => e (j % 12)) i = z := ⟨_, rfl⟩
      obtain ⟨s, hs⟩ : ∃ z, e i = z := ⟨_, rfl⟩
      obtain ⟨FA, hFA⟩ : ∃ z, R.F i = z := ⟨_, rfl⟩
      obtain ⟨TA, hTA⟩ : ∃ z, R.T i = z := ⟨_, rfl⟩
      obtain ⟨S, hS⟩ : ∃ z, costK R e i = z := ⟨_, rfl⟩
      try dsimp only at ce
      rw [hZ] at OF w1' w2' e1
      rw [hs] at ce hs3 e1
      rw [hFA] at cF f1 f2 e1
      rw [hTA] at cT g1 g2 e1
      rw [hS] at hs0 hs1 e1 ⊢
      obtain ⟨sb1, sb2⟩ := sq_bound (a := FA) (A := 1000) (z := (s : Int)) (m := 3) ⟨f1, f2⟩ (by omega) (by omega) (by omega)
      have sb3 : 0 ≤ FA * (s : Int) ∧ FA * (s : Int) ≤ 3000 := by
        have a := Int.mul_le_mul_of_nonneg_left (show (s : Int) ≤ 3 by omega) f1
        have b := Int.mul_nonneg f1 (show 0 ≤ (s : Int) by omega)
        omega
      obtain ⟨S1, hS1⟩ : ∃ z, FA * (s : Int) = z := ⟨_, rfl⟩
      rw [hS1] at sb1 sb2 sb3 e1
      obtain ⟨S2, hS2⟩ : ∃ z, S1 * (s : Int) = z := ⟨_, rfl⟩
      rw [hS2] at sb1 sb2 e1
      obtain ⟨tb1, tb2⟩ := sq_bound (a := TA) (A := 6) (z := Z) (m := 19) ⟨g1, g2⟩ (by omega) (by omega) (by omega)
      have tb3 : -(6 * 19) ≤ TA * Z ∧ TA * Z ≤ 6 * 19 := by
        have a := Int.mul_le_mul_of_nonneg_left (show Z ≤ 19 by omega) g1
        have b := Int.mul_le_mul_of_nonneg_left (show -19 ≤ Z by omega) g1
        omega
      obtain ⟨T1, hT1⟩ : ∃ z, TA * Z = z := ⟨_, rfl⟩
      rw [hT1] at tb1 tb2 tb3 e1
      obtain ⟨T2, hT2⟩ : ∃ z, T1 * Z = z := ⟨_, rfl⟩
      rw [hT2] at tb1 tb2 e1
      have q1 : IntKind.i64.wrap (FA * (s : Int)) = S1 := by rw [IntWalk.i64_in _ (by omega)]; exact hS1
      have q2 : IntKind.i64.wrap (S1 * (s : Int)) = S2 := by rw [IntWalk.i64_in _ (by omega)]; exact hS2
      have q3 : IntKind.i64.wrap (TA * Z) = T1 := by rw [IntWalk.i64_in _ (by omega)]; exact hT1
      have q4 : IntKind.i64.wrap (T1 * Z) = T2 := by rw [IntWalk.i64_in _ (by omega)]; exact hT2
      have q5 : IntKind.i64.wrap (S2 + T2) = S2 + T2 := IntWalk.i64_in _ (by omega)
      have q6 : IntKind.i64.wrap (S + (S2 + T2)) = S + (S2 + T2) := IntWalk.i64_in _ (by omega)
      have E1 := Lib.hid e1
      have HBB := Lib.hid hb
      have bnd : 0 ≤ S + (S2 + T2) ∧ S + (S2 + T2) ≤ 12000 * ((i + 1 : Nat) : Int) := by omega
      have HBN := Lib.hid bnd
      clear hZ hs hFA hTA hS hS1 hS2 hT1 hT2 e1 hb sb1 sb2 sb3 tb1 tb2 tb3 bnd hs0 hs1
      go_wp2_with fail
      refine OF.out.mono ?_
      rintro e' w4 ⟨rfl, b4⟩
      have k6 := (b4.cell (p := ⟨bq, 6, none⟩) hltr).trans c6
      have k7 := (b4.cell (p := ⟨bq, 7, none⟩) hltr).trans c7
      have k8 := (b4.cell (p := ⟨bq, 8, none⟩) hltr).trans c8
      have kF := (b4.cell (p := ⟨gf, i, none⟩) (Nat.lt_of_lt_of_le hgf HBW.out.size)).trans cF
      have kT := (b4.cell (p := ⟨gt, i, none⟩) (Nat.lt_of_lt_of_le hgt HBW.out.size)).trans cT
      have hlt4 := Nat.lt_of_lt_of_le hltr b4.size
      have HB4 := Lib.hid (HBB.out.trans (b4.mono HBB.out.size))
      clear c0 c1 c2 c3 c4 c5 c6 c7 c8 ce cF cT b4 HBB OF
      go_wp2_with fail
      refine (HW.out _ _ _ _ (by omega) (by omega)).mono ?_
      rintro e' w5 ⟨rfl, rfl⟩
      have HH := Lib.hid (show w4.drew.cell? ⟨bq, 7, none⟩ = some (.slice (some ⟨gf, 0, none⟩) 12 cf) ∧ w4.drew.cell? ⟨bq, 8, none⟩ = some (.slice (some ⟨gt, 0, none⟩) 12 ct) ∧ w4.drew.cell? ⟨gf, i, none⟩ = some (.int .i64 FA) ∧ w4.drew.cell? ⟨gt, i, none⟩ = some (.int .i64 TA) from ⟨k7, k8, kF, kT⟩)
      have x0 : (0 : Int) ≤ (i : Int) := by omega
      clear k6 k7 k8 kF kT
      go_upto_region 8 with (fail)
      go_region_held3 (fun w' => w'.cell? ⟨bq, 7, none⟩ = some (.slice (some ⟨gf, 0, none⟩) 12 cf) ∧ w'.cell? ⟨bq, 8, none⟩ = some (.slice (some ⟨gt, 0, none⟩) 12 ct) ∧ w'.cell? ⟨gf, i, none⟩ = some (.int .i64 FA) ∧ w'.cell? ⟨gt, i, none⟩ = some (.int .i64 TA)) (exact HH.out) (fail)
      go_wp2
      go_roundw
      case rel => exact ⟨i + 1, by omega, by go_num, by rw [E1.out], by rw [E1.out]; exact HBN.out.1, by rw [E1.out]; exact HBN.out.2, HB4.out.drew⟩
      case measure => simp [intOf]; omega
    · obtain rfl : i = 12 := by omega
      rw [HCO.out]
      go_wp2
      go_ret2
      exact ⟨rfl, HB.out.trans (hb.mono HB.out.size)⟩

set_option maxRecDepth 100000 in
theorem rcost_calls (R : Rg) (fv tv v : Value) (e : Nat → Nat) (c : Int) (w : World) (hR : RgOk R) (hI : InRg w fv tv R) (hF : Fine R e c) (hv : In12n w v e) :
    Calls Try.prog 7 #[.agg #[.int .i64 12, .int .i64 (R.sp : Int), .int .i64 (R.lo : Int), .int .i64 ((R.lo : Int) + 2), .int .i64 (R.tot : Int), .int .i64 (R.pu : Int), .int .i64 (R.wo : Int), fv, tv], v] w fun e' w' => e' = .returned (.tuple #[.int .i64 c, .int .i64 0]) ∧ Below w.heap.size w w' := by
  have HER := Lib.hid (fun (w1 : World) (hb : Below w.heap.size w w1) => errors_calls R fv tv v e c w1 hR (hI.mono hb) hF (hv.mono hb))
  have HPR := Lib.hid (fun (w1 : World) (hb : Below w.heap.size w w1) => priced_calls R fv tv v e c w1 hR (hI.mono hb) hF (hv.mono hb))
  obtain ⟨gs, cs, rfl, hgs, hcs⟩ := hv
  obtain ⟨⟨gf, cf, rfl, _, _⟩, ⟨gt, ct, rfl, _, _⟩⟩ := hI
  have vr := Vals.newL w w.heap.size (rgl R (.slice (some ⟨gf, 0, none⟩) 12 cf) (.slice (some ⟨gt, 0, none⟩) 12 ct)) 24 rfl
  have bb := below_alloc w (.cells (rgl R (.slice (some ⟨gf, 0, none⟩) 12 cf) (.slice (some ⟨gt, 0, none⟩) 12 ct)).toArray 24)
  simp only [rgl] at vr bb
  have HV := Lib.hid (And.intro vr bb)
  clear vr bb hcs
  go_enter Try.func7, Try.ntmps7
  go_wp2_with fail
  generalize w.alloc (.cells #[.int .i64 12, .int .i64 (R.sp : Int), .int .i64 (R.lo : Int), .int .i64 ((R.lo : Int) + 2), .int .i64 (R.tot : Int), .int .i64 (R.pu : Int), .int .i64 (R.wo : Int), .slice (some ⟨gf, 0, none⟩) 12 cf, .slice (some ⟨gt, 0, none⟩) 12 ct] 24) = w0 at *
  refine (HER.out w0 HV.out.2).mono ?_
  rintro e' w1 ⟨⟨u, rfl⟩, b1⟩
  have vr := HV.out.1.mono b1
  have B1 := Lib.hid (below_trans HV.out.2 b1)
  obtain ⟨bq, hbq⟩ : ∃ q, w.heap.size = q := ⟨_, rfl⟩
  rw [hbq] at vr ⊢
  have c0 := vr.cell (i := 0) (by simp [rgl])
  have c1 := vr.cell (i := 1) (by simp [rgl])
  have c2 := vr.cell (i := 2) (by simp [rgl])
  have c3 := vr.cell (i := 3) (by simp [rgl])
  have c4 := vr.cell (i := 4) (by simp [rgl])
  have c5 := vr.cell (i := 5) (by simp [rgl])
  have c6 := vr.cell (i := 6) (by simp [rgl])
  have c7 := vr.cell (i := 7) (by simp [rgl])
  have c8 := vr.cell (i := 8) (by simp [rgl])
  simp only [List.getD_cons_zero, List.getD_cons_succ] at c0 c1 c2 c3 c4 c5 c6 c7 c8
  have hlt := vr.lt
  have HBQ := Lib.hid hbq
  clear vr b1 HV hbq
  go_wp2_with fail
  refine (HPR.out w1 B1.out).mono ?_
  rintro e' w2 ⟨rfl, b2⟩
  have B2 := Lib.hid (below_trans B1.out b2)
  clear b2 c0 c1 c2 c3 c4 c5 c6 c7 c8
  go_wp2
  go_ret2
  exact ⟨rfl, B2.out⟩

end Go.Proofs
