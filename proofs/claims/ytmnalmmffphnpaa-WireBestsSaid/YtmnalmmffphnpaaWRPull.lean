/- The reference's Pulled. -/
import Derived.Test.YtmnalmmffphnpaaWRFit
import Derived.Test.YtmnalmmffphnpaaRWire
open Go.RowKit Go.Deep
namespace Go.Proofs
set_option linter.unusedVariables false
set_option linter.unusedSimpArgs false

set_option maxRecDepth 100000 in
set_option maxHeartbeats 1000000 in
theorem rpulled_calls (S : Scl) (k : Nat) (p : Pk) (cv mv gv : Value) (w : World) (hS : InS w cv mv gv S) (hs : sclOk S = true) (hp : pkOk S p = true) (hk : k < S.cs.length) :
    Calls Try.prog 44 #[.agg #[cv, mv, gv, .int .i64 S.sf, .int .i64 S.ch], .int .i64 (k : Int), .agg #[.int .i64 p.m, .int .i64 p.g]] w fun e w' => e = .returned (.int .i64 ((tightN S (S.cs.getD k c0) p : Nat) : Int)) ∧ Below w.heap.size w w' := by
  have hc := sclOk_c hs hk
  obtain ⟨c, hC⟩ : ∃ c, S.cs.getD k c0 = c := ⟨_, rfl⟩
  rw [hC] at hc ⊢
  obtain ⟨⟨p1, p2⟩, ⟨p3, p4⟩⟩ := pk_facts hp
  obtain ⟨c1, c2, c3, c4⟩ := crs_facts hc
  obtain ⟨i, hi⟩ : ∃ i : Nat, p.m = (i : Int) := ⟨p.m.toNat, by omega⟩
  obtain ⟨j, hj⟩ : ∃ j : Nat, p.g = (j : Int) := ⟨p.g.toNat, by omega⟩
  have i1 : i < S.ms.length := by omega
  have j1 : j < S.gs.length := by omega
  obtain ⟨m1, m2, m3⟩ := met_facts (sclOk_met hs i1)
  have m4 := m3 j j1
  have g := sclOk_g hs j1
  unfold inR at g
  have g2 := of_decide_eq_true g
  obtain ⟨s1, s2, s3, s4, s5⟩ := headOk_lens (headOk_of hs)
  obtain ⟨l, hl⟩ : ∃ l : Nat, c.l = (l : Int) := ⟨c.l.toNat, by omega⟩
  obtain ⟨f, hf⟩ : ∃ f : Nat, c.f = (f : Int) := ⟨c.f.toNat, by omega⟩
  obtain ⟨⟨adc, cc, rfl, rc⟩, ⟨adm, cm, rfl, rm⟩, ⟨adg, cg, rfl, rg⟩⟩ := hS
  obtain ⟨bm, om, mv, rfl, cd, cst, hst⟩ := rm.at i1
  obtain ⟨ads, cs, rfl, hst⟩ := hst
  obtain ⟨bg, og, rfl, cgs⟩ := rg.at j1
  have cg1 := cgs j j1
  obtain ⟨d, hd⟩ : ∃ d : Nat, (S.ms.getD i m0).d = (d : Int) := ⟨(S.ms.getD i m0).d.toNat, by omega⟩
  obtain ⟨gg, hgg⟩ : ∃ d : Nat, S.gs.getD j 0 = (d : Int) := ⟨(S.gs.getD j 0).toNat, by omega⟩
  have hsl : j < (S.ms.getD i m0).st.length := by rw [m2]; exact j1
  obtain ⟨bs, os, rfl, css⟩ := hst.at hsl
  have cs1 := css j hsl
  obtain ⟨st, hstv⟩ : ∃ d : Nat, (S.ms.getD i m0).st.getD j 0 = (d : Int) := ⟨((S.ms.getD i m0).st.getD j 0).toNat, by omega⟩
  obtain ⟨sf, hsf⟩ : ∃ d : Nat, S.sf = (d : Int) := ⟨S.sf.toNat, by omega⟩
  rw [hd] at cd m1
  rw [hgg] at cg1 g2
  rw [hstv] at cs1 m4
  rw [hl] at c1
  rw [hf] at c2
  rw [hsf] at s4
  obtain ⟨bk, ok, rfl, _⟩ := rc.at hk
  obtain ⟨e0, e1, e2, e3⟩ := rc.at2 hk hC
  rw [hl] at e0
  rw [hf] at e1
  have PU := fun w : World => rtension_calls d gg l f w (by omega) (by omega) (by omega) (by omega)
  have ht : tightN S c p = pullN d gg l f := by unfold tightN metOf; rw [hi, hj, Int.toNat_natCast, Int.toNat_natCast, hd, hgg, hl, hf]; rfl
  rw [ht, hi, hj, hsf]
  obtain ⟨nc, hnc⟩ : ∃ n, S.cs.length = n := ⟨_, rfl⟩
  obtain ⟨nm, hnm⟩ : ∃ n, S.ms.length = n := ⟨_, rfl⟩
  obtain ⟨ng, hng⟩ : ∃ n, S.gs.length = n := ⟨_, rfl⟩
  rw [hnc, hnm, hng]
  rw [hnc] at hk
  rw [hnm] at i1
  rw [hng] at j1
  have HPU := Lib.hid PU
  clear PU ht hi hj hl hf hsf hd hgg hstv hsl cs1 css cgs g m3 hst rc rm rg c3 c4 p1 p2 p3 p4 m2 s5 hs hp hc hnc hnm hng cst s1 s2 s3 hC
  have a1 : (0 : Int) ≤ (i : Int) := by omega
  have a2 : (i : Int) < (nm : Int) := by omega
  have a3 : (0 : Int) ≤ (j : Int) := by omega
  have a4 : (j : Int) < (ng : Int) := by omega
  have a5 : (0 : Int) ≤ (k : Int) := by omega
  have a6 : (k : Int) < (nc : Int) := by omega
  have vs := Vals.newL w (w.heap.size) [.slice (some ⟨bk, ok, none⟩) nc cc, .slice (some ⟨bm, om, none⟩) nm cm, .slice (some ⟨bg, og, none⟩) ng cg, .int .i64 (sf : Int), .int .i64 S.ch] 26 rfl
  have bb := below_alloc w (.cells #[.slice (some ⟨bk, ok, none⟩) nc cc, .slice (some ⟨bm, om, none⟩) nm cm, .slice (some ⟨bg, og, none⟩) ng cg, .int .i64 (sf : Int), .int .i64 S.ch] 26)
  have B := bb
  have sz0 := World.size_alloc w (.cells #[.slice (some ⟨bk, ok, none⟩) nc cc, .slice (some ⟨bm, om, none⟩) nm cm, .slice (some ⟨bg, og, none⟩) ng cg, .int .i64 (sf : Int), .int .i64 S.ch] 26)
  have sz := sz0
  clear sz0
  clear bb
  have vp := Vals.newL (w.alloc (.cells #[.slice (some ⟨bk, ok, none⟩) nc cc, .slice (some ⟨bm, om, none⟩) nm cm, .slice (some ⟨bg, og, none⟩) ng cg, .int .i64 (sf : Int), .int .i64 S.ch] 26)) (w.heap.size + 1) [.int .i64 (i : Int), .int .i64 (j : Int)] 52 sz.symm
  have bb := below_alloc (w.alloc (.cells #[.slice (some ⟨bk, ok, none⟩) nc cc, .slice (some ⟨bm, om, none⟩) nm cm, .slice (some ⟨bg, og, none⟩) ng cg, .int .i64 (sf : Int), .int .i64 S.ch] 26)) (.cells #[.int .i64 (i : Int), .int .i64 (j : Int)] 52)
  replace vs := vs.mono bb
  replace B := below_trans B bb
  clear sz
  have bb0 := B
  clear bb
  go_enter Try.func44, Try.ntmps44
  go_upto_region 1 with (fail)
  generalize ((w.alloc (.cells #[.slice (some ⟨bk, ok, none⟩) nc cc, .slice (some ⟨bm, om, none⟩) nm cm, .slice (some ⟨bg, og, none⟩) ng cg, .int .i64 (sf : Int), .int .i64 S.ch] 26)).alloc (.cells #[.int .i64 (i : Int), .int .i64 (j : Int)] 52)) = w0 at *
  replace cd := (bb0.cell (cell_lt cd)).trans cd
  replace cg1 := (bb0.cell (cell_lt cg1)).trans cg1
  replace e0 := (bb0.cell (cell_lt e0)).trans e0
  replace e1 := (bb0.cell (cell_lt e1)).trans e1
  replace e2 := (bb0.cell (cell_lt e2)).trans e2
  replace e3 := (bb0.cell (cell_lt e3)).trans e3
  clear bb0
  have cvs0 := vs.cell (i := 0) (by simp)
  have cvs1 := vs.cell (i := 1) (by simp)
  have cvs2 := vs.cell (i := 2) (by simp)
  have cvs3 := vs.cell (i := 3) (by simp)
  have cvs4 := vs.cell (i := 4) (by simp)
  simp only [List.getD_cons_zero, List.getD_cons_succ] at cvs0 cvs1 cvs2 cvs3 cvs4
  have ltvs := vs.lt
  go_upto_region 2 with (fail)
  have vc := Vals.newL w0 w0.heap.size [.int .i64 (l : Int), .int .i64 (f : Int), .int .i64 c.t, .int .i64 c.w] 49 rfl
  have bl := below_alloc w0 (.cells #[.int .i64 (l : Int), .int .i64 (f : Int), .int .i64 c.t, .int .i64 c.w] 49)
  replace vs := vs.mono bl
  replace vp := vp.mono bl
  replace cd := (bl.cell (cell_lt cd)).trans cd
  replace cg1 := (bl.cell (cell_lt cg1)).trans cg1
  replace B := below_trans B bl
  clear bl e0 e1 e2 e3 cvs0 cvs1 cvs2 cvs3 cvs4 ltvs
  generalize w0.alloc (.cells #[.int .i64 (l : Int), .int .i64 (f : Int), .int .i64 c.t, .int .i64 c.w] 49) = W1 at *
  generalize w0.heap.size = bc at *
  go_region_held3 (fun w' => w'.cell? ⟨w.heap.size, 1, none⟩ = some (.slice (some ⟨bm, om, none⟩) nm cm) ∧ w'.cell? ⟨w.heap.size, 2, none⟩ = some (.slice (some ⟨bg, og, none⟩) ng cg) ∧ w'.cell? ⟨bc, 0, none⟩ = some (.int .i64 (l : Int)) ∧ w'.cell? ⟨bc, 1, none⟩ = some (.int .i64 (f : Int)) ∧ w'.cell? ⟨w.heap.size + 1, 0, none⟩ = some (.int .i64 (i : Int)) ∧ w'.cell? ⟨w.heap.size + 1, 1, none⟩ = some (.int .i64 (j : Int)) ∧ w'.cell? ⟨bm, om + i * 2, none⟩ = some (.int .i64 (d : Int)) ∧ w'.cell? ⟨bg, og + j, none⟩ = some (.int .i64 (gg : Int)))
    (first | exact tcells vs vc vp cd cg1 | exact tcells vs.drew vc.drew vp.drew cd cg1)
    (first | (go_at_call 54; (with_reducible refine (HPU.out _).mono ?_); rintro e z1 ⟨rfl, b5⟩; replace vs := vs.drew.mono b5; replace vc := vc.drew.mono b5; replace vp := vp.drew.mono b5; replace cd := (b5.cell (cell_lt (w := W1.drew) cd)).trans cd; replace cg1 := (b5.cell (cell_lt (w := W1.drew) cg1)).trans cg1; replace B := below_trans B.drew b5; clear b5))
  go_wp2
  go_ret
  exact ⟨rfl, B⟩

end Go.Proofs
