/- temper: the circle's follow. -/
import Derived.Test.YthkeekoljediiaaCircE
open Go.RowKit Go.Deep
namespace Go.Proofs
set_option linter.unusedVariables false
set_option linter.unusedSimpArgs false

theorem FSt.call {W0 w w' : World} {cb rb R fv tv fs first n} (h : FSt W0 w cb rb R fv tv fs first n) (hb : Below w.heap.size w w') : FSt W0 w' cb rb R fv tv fs first n := by
  obtain ⟨rows, r1, r2⟩ := h.rows
  exact ⟨below_trans h.below hb, h.h1, h.h2, h.cc.mono hb, ⟨rows, r1.mono hb, r2⟩, fun k hk => ((h.lv k hk).mono hb).wide hb.size⟩
theorem sumE_le {R : Rg} {e : Nat → Nat} (n : Nat) (h : ∀ i, i < n → StOk R (e i)) : sumE R e n ≤ 2 * n := by
  induction n with
  | zero => exact Nat.le_refl _
  | succ n ih =>
    have := ih (fun i hi => h i (by omega))
    have := (h n (by omega)).2
    unfold sumE
    omega
theorem Way.bounds {R : Rg} (hR : RgOk R) {first e : Nat → Nat} {n code sum : Nat} {c : Int} (h : Way R first e n code sum c) (hn : n ≤ 12) : code < cds R ∧ sum < 37 := by
  have h1 := h.n1
  refine ⟨?_, ?_⟩
  · rw [h.hcode]
    unfold codeE cds
    rcases hR.sp with e | e
    · rw [if_pos e, e]
      have := (h.st (n - 1) (by omega)).2
      show _ < 4
      omega
    · rw [if_neg (by omega), e]
      have := (h.st (n - 1) (by omega)).2
      have := (h.st (n - 2) (by omega)).2
      show _ < 16
      omega
  · rw [h.hsum]
    have := sumE_le (R := R) (e := e) (min n 12) (fun i hi => h.st i (by omega))
    omega
/-- the steps with one more -/
def withE (e : Nat → Nat) (n s : Nat) (i : Nat) : Nat := if i = n then s else e i
theorem withE_old (e : Nat → Nat) {n s i : Nat} (h : i < n) : withE e n s i = e i := if_neg (by omega)
theorem withE_new (e : Nat → Nat) (n s : Nat) : withE e n s n = s := if_pos rfl

theorem ownsRow_at' {w : World} {B e n c : Nat} {ad : Option Addr} {cs : List Value} {k : Nat} (h : w.ownsRow B e k (.slice ad n c) n cs) (hn : 0 < n) : ∃ g, ad = some ⟨g, 0, none⟩ ∧ B ≤ g ∧ g < w.heap.size ∧ ∀ j u, cs[j]? = some u → w.cell? ⟨g, j, none⟩ = some u := by
  obtain ⟨hl, h1⟩ := h
  rcases h1 with ⟨h0, h2⟩ | ⟨g, cap, cur, h0, hg, hh, hnc, hcm, hcs, ht⟩
  · omega
  · cases h0
    refine ⟨g, rfl, hg, lt_of_block hh, fun j u hj => ?_⟩
    rw [← ht, List.getElem?_take] at hj
    split at hj
    · simp only [World.cell?, hh]
      simpa using hj
    · cases hj

set_option maxRecDepth 100000 in
set_option maxHeartbeats 2000000 in
theorem follow_calls (W0 w : World) (cb rb : Nat) (R : Rg) (fv tv fs : Value) (first : Nat → Nat) (code : Nat) (cst : Int) (hR : RgOk R) (hI : InRg W0 fv tv R) (hst : ∀ i, i + 1 < R.sp → StOk R (first i)) (hF : InF W0 fs R first)
    (f : FSt W0 w cb rb R fv tv fs first 13) (hw : Way R first first (R.sp - 1) code (sumE R first (R.sp - 1)) cst) :
    Calls Try.prog 19 #[.pointer (some ⟨cb, 0, none⟩), .int .i64 (code : Int)] w fun e' w' =>
      ∃ ad c e, e' = .returned (.slice ad 12 c) ∧ w'.ownsRow w.heap.size 3 1 (.slice ad 12 c) 12 (stepsL e 12) ∧ Fine R e cst ∧ Below w.heap.size w w' := by
  have hlo := hR.lo
  have h3 := hR.s2
  have HAB := Lib.hid (fun (w1 : World) (hb : Below w.heap.size w w1) (fs' : Value) (h : InF w1 fs' R first) => above_calls R fv tv fs' first w1 hR hst h)
  have HBEST := Lib.hid (fun (w1 : World) (hb : Below w.heap.size w w1) (n code sum : Nat) (h1 : R.sp - 1 ≤ n) (h2 : n < 12) (hc : code < cds R) (hs : sum < 37) =>
    let f1 := f.call hb
    cbest_calls R fv tv fs first (RT R first (11 + R.sp - (n + 1))) cb rb (12 + R.sp) code sum n w1 hR (hI.mono f1.below) hst (hF.mono f1.below) f1.cc hc hs h1 (by omega)
      (by have e : 11 + R.sp - (11 + R.sp - (n + 1)) = n + 1 := by omega
          have := f1.lv (11 + R.sp - (n + 1)) (by omega)
          rwa [e] at this) (fun c u => by have := RT_bound hR hst (11 + R.sp - (n + 1)) (by omega) c u; omega))
  have HNX := Lib.hid (fun (w1 : World) (hb : Below w.heap.size w w1) (n code s : Nat) (h1 : R.sp - 1 ≤ n) (h2 : n < 12) (hc : code < 64) (hs : StOk R s) =>
    let f1 := f.call hb
    cnext_calls R fv tv fs (.slice (some ⟨rb, 0, none⟩) (12 + R.sp) (12 + R.sp)) cb code n s w1 hR (hI.mono f1.below) f1.cc hc h1 (by omega) hs)
  obtain ⟨g, c, rfl, ⟨hg, hn1, hn2⟩, hcF⟩ := hF.mono f.below
  have hlt := f.cc.lt
  have c0 := f.cc.cell (i := 0) (by simp [ccl9])
  have c1 := f.cc.cell (i := 1) (by simp [ccl9])
  have c2 := f.cc.cell (i := 2) (by simp [ccl9])
  have c3 := f.cc.cell (i := 3) (by simp [ccl9])
  have c4 := f.cc.cell (i := 4) (by simp [ccl9])
  have c5 := f.cc.cell (i := 5) (by simp [ccl9])
  have c6 := f.cc.cell (i := 6) (by simp [ccl9])
  have c7 := f.cc.cell (i := 7) (by simp [ccl9])
  have c8 := f.cc.cell (i := 8) (by simp [ccl9])
  have c9 := f.cc.cell (i := 9) (by simp [ccl9])
  simp only [ccl9, List.getD_cons_zero, List.getD_cons_succ] at c0 c1 c2 c3 c4 c5 c6 c7 c8 c9
  obtain ⟨m, hm⟩ : ∃ m, R.sp - 1 = m := ⟨_, rfl⟩
  have hm2 : 1 ≤ m ∧ m ≤ 2 := by omega
  rw [hm] at c9 hw hn1
  have RD : RdV w (some ⟨g, 0, none⟩) c m 1 (stepsL first m) := rdV_steps hn1 hn2 (fun i hi => hcF i (by omega))
  have HCL := Lib.hid (clone_calls g m c first w (by omega) RD)
  have HC := Lib.hid (And.intro c0 (And.intro c1 (And.intro c2 (And.intro c3 (And.intro c4 (And.intro c5 (And.intro c6 (And.intro c7 c8))))))))
  have HM := Lib.hid hm
  have HW := Lib.hid hw
  obtain ⟨⟨gf, cf, rfl, _, _⟩, ⟨gt, ct, rfl, _, _⟩⟩ := hI
  clear c0 c1 c2 c3 c4 c5 c6 c7 c8 RD hcF hm hw hn1 hn2
  go_enter Try.func19, Try.ntmps19
  go_wp2_with fail
  refine HCL.out.mono ?_
  rintro e' w1 ⟨ad, c1, rfl, hown, b1⟩
  obtain ⟨g1, rfl, hB1, hg1, hc1⟩ := ownsRow_at' hown (by omega)
  have IF1 : InF w1 (.slice (some ⟨g1, 0, none⟩) m c1) R first := ⟨g1, c1, by rw [HM.out], ⟨hg1, by rw [HM.out]; exact (ownsRow_rds hown).1.2.1, (ownsRow_rds hown).1.2.2.1⟩, fun i hi => hc1 i _ (stepsL_get first (by have := HM.out; omega))⟩
  have AB := Lib.hid (HAB.out w1 b1 _ IF1)
  obtain ⟨c0, c1', c2, c3, c4, c5, c6, c7, c8⟩ := HC.out
  replace c0 := (b1.cell (p := ⟨cb, 0, none⟩) hlt).trans c0
  replace c1' := (b1.cell (p := ⟨cb, 1, none⟩) hlt).trans c1'
  replace c2 := (b1.cell (p := ⟨cb, 2, none⟩) hlt).trans c2
  replace c3 := (b1.cell (p := ⟨cb, 3, none⟩) hlt).trans c3
  replace c4 := (b1.cell (p := ⟨cb, 4, none⟩) hlt).trans c4
  replace c5 := (b1.cell (p := ⟨cb, 5, none⟩) hlt).trans c5
  replace c6 := (b1.cell (p := ⟨cb, 6, none⟩) hlt).trans c6
  replace c7 := (b1.cell (p := ⟨cb, 7, none⟩) hlt).trans c7
  replace c8 := (b1.cell (p := ⟨cb, 8, none⟩) hlt).trans c8
  have hlt1 : cb < w1.heap.size := Nat.lt_of_lt_of_le hlt b1.size
  have HO := Lib.hid hown
  have HB1 := Lib.hid b1
  clear hown b1 hc1 IF1 c9
  go_wp2_with fail
  clear c0 c1' c2 c3 c4 c5 c6 c7 c8
  refine AB.out.mono ?_
  rintro e' w2 ⟨rfl, b2⟩
  rw [HM.out]
  have HO2 := Lib.hid (ownsRow_mono HO.out b2)
  have HB2 := Lib.hid (below_trans HB1.out b2)
  clear b2 HO HB1 AB hlt1 HCL
  go_wp2
  go_loopw [1, 5, 6, 7] (fun kv ov uv nv wr => ∃ (n : Nat) (e : Nat → Nat) (k u : Nat) (ad : Option Addr) (cc : Nat), n ≤ 12 ∧ R.sp - 1 ≤ n ∧ nv = .int .i64 (n : Int) ∧ kv = .int .i64 (k : Int) ∧ uv = .int .i64 (u : Int) ∧ ov = .slice ad n cc ∧ Way R first e n k u cst ∧ (∀ i, i + 1 < R.sp → e i = first i) ∧
      wr.ownsRow w.heap.size 3 1 (.slice ad n cc) n (stepsL e n) ∧ Below w.heap.size w wr) (fun _ _ _ nv _ => ((12 : Int) - intOf nv).toNat)
  case atStart => exact ⟨m, first, code, sumE R first m, some ⟨g1, 0, none⟩, c1, by omega, by rw [HM.out]; omega, rfl, rfl, rfl, rfl, HW.out, fun _ _ => rfl, HO2.out, HB2.out⟩
  case round =>
    obtain ⟨n, e, k, u, ad, cc, hn, hn1, rfl, rfl, rfl, rfl, WY, hfe, hown, hb⟩ := hrel
    have hlt1 : cb < wr.heap.size := Nat.lt_of_lt_of_le hlt hb.size
    have c0 := (hb.cell (p := ⟨cb, 0, none⟩) hlt).trans HC.out.1
    have c2 := (hb.cell (p := ⟨cb, 2, none⟩) hlt).trans HC.out.2.2.1
    by_cases h12 : n < 12
    · have t1 : (n : Int) < 12 := by omega
      have hbd := WY.bounds hR hn
      have hk64 : k < 64 := by have := hR.cds; omega
      have BE := HBEST.out wr hb n k u hn1 h12 hbd.1 hbd.2
      obtain ⟨s, hs⟩ : ∃ s, (bst R first (RT R first (11 + R.sp - (n + 1))) k u n).2 = s := ⟨_, rfl⟩
      obtain ⟨B1, hB1'⟩ : ∃ s, (bst R first (RT R first (11 + R.sp - (n + 1))) k u n).1 = s := ⟨_, rfl⟩
      have W2 := (WY.congr hR (e' := withE e n s) (fun i hi => withE_old e hi)).step hR hst (by omega) (by rw [withE_new]; exact hs.symm)
      rw [withE_new] at W2
      obtain ⟨so, _, W3⟩ := W2
      have eu : upS R n u s = u + (s - R.lo) := if_pos h12
      rw [eu] at W3
      rw [hs, hB1'] at BE
      have hs3 := so.le hR
      have hslo := so.1
      obtain ⟨NC, hNC⟩ : ∃ z, nCd R k s = z := ⟨_, rfl⟩
      obtain ⟨PR, hPR⟩ : ∃ z, nPr R k n s = z := ⟨_, rfl⟩
      obtain ⟨OB, hOB⟩ : ∃ z, nOk R k s = z := ⟨_, rfl⟩
      have NX := fun (w1 : World) (hb1 : Below w.heap.size w w1) => HNX.out w1 hb1 n k s hn1 h12 hk64 so
      rw [hNC, hPR, hOB] at NX
      rw [hNC] at W3
      have hu37 := hbd.2
      have q1 : IntKind.i64.wrap ((s : Int) - (R.lo : Int)) = ((s - R.lo : Nat) : Int) := by rw [IntWalk.i64_in _ (by omega)]; omega
      have q2 : IntKind.i64.wrap ((u : Int) + ((s - R.lo : Nat) : Int)) = ((u + (s - R.lo) : Nat) : Int) := by rw [IntWalk.i64_in _ (by omega)]; omega
      have HW3 := Lib.hid W3
      have HNX2 := Lib.hid NX
      have HBE := Lib.hid BE
      have HOW := Lib.hid hown
      have HBB := Lib.hid hb
      have HFE := Lib.hid hfe
      have hle : w.heap.size ≤ wr.heap.size := hb.size
      clear W3 NX BE hown WY hs hB1' eu hNC hPR hOB hbd hb hfe
      go_wp2_with fail
      clear c0 c2
      refine HBE.out.mono ?_
      rintro e2 w3 ⟨rfl, b3⟩
      have HB3 := Lib.hid (below_trans HBB.out b3)
      have HO3 := Lib.hid (ownsRow_mono HOW.out b3)
      clear b3 HBB HOW
      go_wp2_with fail
      refine (HNX2.out _ HB3.out).mono ?_
      rintro e2 w4 ⟨rfl, b4⟩
      have HB4 := Lib.hid (below_trans HB3.out b4)
      have HO4 := Lib.hid (ownsRow_mono HO3.out b4)
      have c2 := (HB4.out.cell (p := ⟨cb, 2, none⟩) hlt).trans HC.out.2.2.1
      have hlt4 : cb < w4.heap.size := Nat.lt_of_lt_of_le hlt HB4.out.size
      have bz := below_alloc w4 (.cells #[.int .i64 (s : Int)] 3)
      have HO5 := Lib.hid (ownsRow_mono HO4.out bz)
      have HB5 := Lib.hid (below_trans HB4.out bz)
      have RD := Lib.hid (rdV_steps (w := w4.alloc (.cells #[.int .i64 (s : Int)] 3)) (g := w4.heap.size) (n := 1) (c := 1) (e := fun _ => s) (Nat.le_refl _) (by unfold maxLen; omega) (fun i hi => by
        have := (Vals.newL w4 w4.heap.size [.int .i64 (s : Int)] 3 rfl).cell (i := i) (by simpa using hi)
        rw [this, show i = 0 by omega]
        rfl))
      have hle5 : w.heap.size ≤ (w4.alloc (.cells #[.int .i64 (s : Int)] 3)).heap.size := HB5.out.size
      have hall : stepsL (withE e n s) (n + 1) = stepsL e n ++ stepsL (fun _ => s) 1 := by
        rw [stepsL_succ, stepsL_congr n (fun i hi => withE_old e hi), withE_new]
        rfl
      have HALL := Lib.hid hall
      clear b4 bz HB3 HO3 hall HB4 HO4
      go_wp2_with (at_builtin; refine wpList_append_rv rfl (.tmp 58) (.tmp 60) _ rfl w.heap.size 3 _ 1 8 Try.underlying22 info_intC rfl (by decide) _ n (stepsL e n) rfl HO5.out _ 1 1 (stepsL (fun _ => s) 1) rfl RD.out (stepsL_one _ _) (by unfold maxLen; omega) (by omega) hle5 (n + 1) rfl _ HALL.out ?_; intro ad2 c2' w7 hown7 hg7 hn7 hb7 hk7; have O7 := Lib.hid hown7; have B7 := Lib.hid (HB5.out.trans hb7); clear hown7 hg7 hn7 hb7 hk7)
      go_roundw
      case rel => exact ⟨n + 1, withE e n s, NC, u + (s - R.lo), ad2, c2', by omega, by omega, by go_num, rfl, rfl, rfl, HW3.out, fun i hi => by rw [withE_old e (by omega)]; exact HFE.out i hi, O7.out, B7.out⟩
      case measure => simp [intOf]; omega
    · obtain rfl : n = 12 := by omega
      have FN := WY.close hR hst hfe
      have HO3 := Lib.hid hown
      clear hown WY c2
      go_wp2
      go_ret
      exact ⟨ad, cc, e, rfl, HO3.out, FN, hb⟩

end Go.Proofs
