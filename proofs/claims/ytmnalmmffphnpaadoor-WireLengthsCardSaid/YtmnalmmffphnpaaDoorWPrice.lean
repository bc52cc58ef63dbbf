/- wire.tight, strong, price: what a pick does for a course. -/
import Derived.Test.YtmnalmmffphnpaaDoorWFit
import Derived.Deep.RegionHeld3
open Go.RowKit Go.Deep
namespace Go.Proofs
set_option linter.unusedVariables false
set_option linter.unusedSimpArgs false

def metOf (S : Scl) (p : Pk) : Met := S.ms.getD p.m.toNat m0
def strongB (S : Scl) (c : Crs) (p : Pk) : Bool := holdsB (metOf S p).d.toNat ((metOf S p).st.getD p.g.toNat 0).toNat c.l.toNat c.f.toNat S.sf.toNat
def tightN (S : Scl) (c : Crs) (p : Pk) : Nat := pullN (metOf S p).d.toNat (S.gs.getD p.g.toNat 0).toNat c.l.toNat c.f.toNat
def priceN (S : Scl) (c : Crs) (p : Pk) : Nat := c.w.toNat * ((tightN S c p : Int) - c.t).natAbs

theorem sclOk_met {S : Scl} (h : sclOk S = true) {i : Nat} (hi : i < S.ms.length) : metOk S.gs.length (S.ms.getD i m0) = true := by
  unfold sclOk at h
  simp only [Bool.and_eq_true] at h
  exact allTo_iff.1 h.1.2 i hi
theorem sclOk_g {S : Scl} (h : sclOk S = true) {i : Nat} (hi : i < S.gs.length) : inR (S.gs.getD i 0) 2000 = true := by
  unfold sclOk at h
  simp only [Bool.and_eq_true] at h
  have := allTo_iff.1 h.1.1.2 i hi
  unfold gOk at this
  simp only [Bool.and_eq_true] at this
  exact this.1
theorem sclOk_c {S : Scl} (h : sclOk S = true) {i : Nat} (hi : i < S.cs.length) : crsOk (S.cs.getD i c0) = true := by
  unfold sclOk at h
  simp only [Bool.and_eq_true] at h
  exact allTo_iff.1 h.2 i hi
theorem met_facts {n : Nat} {m : Met} (h : metOk n m = true) : (1 ≤ m.d ∧ m.d ≤ 30000) ∧ m.st.length = n ∧ ∀ j, j < n → 1 ≤ m.st.getD j 0 ∧ m.st.getD j 0 ≤ 100000 := by
  unfold metOk inR at h
  simp only [Bool.and_eq_true, decide_eq_true_eq, List.all_eq_true] at h
  refine ⟨h.1.2, h.2, fun j hj => h.1.1 _ (getD_mem (by omega))⟩
theorem crs_facts {c : Crs} (h : crsOk c = true) : (1 ≤ c.l ∧ c.l ≤ 100000) ∧ (1 ≤ c.f ∧ c.f ≤ 10000000) ∧ (0 ≤ c.t ∧ c.t ≤ 1000000000) ∧ (0 ≤ c.w ∧ c.w ≤ 1000) := by
  unfold crsOk inR at h
  simp only [Bool.and_eq_true, decide_eq_true_eq] at h
  exact ⟨h.1.1.1, h.1.1.2, h.1.2, h.2⟩
theorem pk_facts {S : Scl} {p : Pk} (h : pkOk S p = true) : (0 ≤ p.m ∧ p.m < S.ms.length) ∧ (0 ≤ p.g ∧ p.g < S.gs.length) := by
  unfold pkOk at h
  simp only [Bool.and_eq_true, decide_eq_true_eq] at h
  exact h
theorem tightN_le {S : Scl} {c : Crs} {p : Pk} (hs : sclOk S = true) (hc : crsOk c = true) (hp : pkOk S p = true) : tightN S c p ≤ 4000000000000 := by
  obtain ⟨⟨p1, p2⟩, ⟨p3, p4⟩⟩ := pk_facts hp
  obtain ⟨c1, c2, c3, c4⟩ := crs_facts hc
  obtain ⟨m1, m2, m3⟩ := met_facts (sclOk_met hs (i := p.m.toNat) (by omega))
  have g := sclOk_g hs (i := p.g.toNat) (by omega)
  unfold inR at g
  have g2 := of_decide_eq_true g
  unfold tightN metOf
  exact pullN_lt (by omega) (by omega) (by omega) (by omega)

theorem tcells {w : World} {b1 b2 b3 bm om bg og i j : Nat} {x0 x1 x2 x3 x4 y0 y1 y2 y3 z0 z1 u v : Value} (vs : Vals w b1 [x0, x1, x2, x3, x4]) (vc : Vals w b2 [y0, y1, y2, y3]) (vp : Vals w b3 [z0, z1]) (cd : w.cell? ⟨bm, om + i * 2, none⟩ = some u) (cg : w.cell? ⟨bg, og + j, none⟩ = some v) :
    w.cell? ⟨b1, 1, none⟩ = some x1 ∧ w.cell? ⟨b1, 2, none⟩ = some x2 ∧ w.cell? ⟨b2, 0, none⟩ = some y0 ∧ w.cell? ⟨b2, 1, none⟩ = some y1 ∧ w.cell? ⟨b3, 0, none⟩ = some z0 ∧ w.cell? ⟨b3, 1, none⟩ = some z1 ∧ w.cell? ⟨bm, om + i * 2, none⟩ = some u ∧ w.cell? ⟨bg, og + j, none⟩ = some v := by
  have s1 := vs.cell (i := 1) (by simp)
  have s2 := vs.cell (i := 2) (by simp)
  have c0 := vc.cell (i := 0) (by simp)
  have c1 := vc.cell (i := 1) (by simp)
  have p0 := vp.cell (i := 0) (by simp)
  have p1 := vp.cell (i := 1) (by simp)
  exact ⟨s1, s2, c0, c1, p0, p1, cd, cg⟩

set_option maxRecDepth 100000 in
set_option maxHeartbeats 1000000 in
theorem tight_calls (S : Scl) (c : Crs) (p : Pk) (cv mv gv : Value) (w : World) (hS : InS w cv mv gv S) (hs : sclOk S = true) (hp : pkOk S p = true) (hc : crsOk c = true) :
    Calls Tryd.prog 43 #[.agg #[cv, mv, gv, .int .i64 S.sf, .int .i64 S.ch], .agg #[.int .i64 c.l, .int .i64 c.f, .int .i64 c.t, .int .i64 c.w], .agg #[.int .i64 p.m, .int .i64 p.g]] w fun e w' => e = .returned (.int .i64 ((tightN S c p : Nat) : Int)) ∧ Below w.heap.size w w' := by
  obtain ⟨⟨p1, p2⟩, ⟨p3, p4⟩⟩ := pk_facts hp
  obtain ⟨c1, c2, c3, c4⟩ := crs_facts hc
  obtain ⟨i, hi⟩ : ∃ i : Nat, p.m = (i : Int) := ⟨p.m.toNat, by omega⟩
  obtain ⟨j, hj⟩ : ∃ j : Nat, p.g = (j : Int) := ⟨p.g.toNat, by omega⟩
  have i1 : i < S.ms.length := by omega
  have j1 : j < S.gs.length := by omega
  obtain ⟨m1, m2, m3⟩ := met_facts (sclOk_met hs i1)
  have m4 := m3 j j1
  have g := sclOk_g hs j1
  unfold inR at g
  have g2 := of_decide_eq_true g
  obtain ⟨s1, s2, s3, s4, s5⟩ := headOk_lens (headOk_of hs)
  obtain ⟨l, hl⟩ : ∃ l : Nat, c.l = (l : Int) := ⟨c.l.toNat, by omega⟩
  obtain ⟨f, hf⟩ : ∃ f : Nat, c.f = (f : Int) := ⟨c.f.toNat, by omega⟩
  obtain ⟨⟨adc, cc, rfl, rc⟩, ⟨adm, cm, rfl, rm⟩, ⟨adg, cg, rfl, rg⟩⟩ := hS
  obtain ⟨bm, om, mv, rfl, cd, cst, hst⟩ := rm.at i1
  obtain ⟨ads, cs, rfl, hst⟩ := hst
  obtain ⟨bg, og, rfl, cgs⟩ := rg.at j1
  have cg1 := cgs j j1
  obtain ⟨d, hd⟩ : ∃ d : Nat, (S.ms.getD i m0).d = (d : Int) := ⟨(S.ms.getD i m0).d.toNat, by omega⟩
  obtain ⟨gg, hgg⟩ : ∃ d : Nat, S.gs.getD j 0 = (d : Int) := ⟨(S.gs.getD j 0).toNat, by omega⟩
  have hsl : j < (S.ms.getD i m0).st.length := by rw [m2]; exact j1
  obtain ⟨bs, os, rfl, css⟩ := hst.at hsl
  have cs1 := css j hsl
  obtain ⟨st, hstv⟩ : ∃ d : Nat, (S.ms.getD i m0).st.getD j 0 = (d : Int) := ⟨((S.ms.getD i m0).st.getD j 0).toNat, by omega⟩
  obtain ⟨sf, hsf⟩ : ∃ d : Nat, S.sf = (d : Int) := ⟨S.sf.toNat, by omega⟩
  rw [hd] at cd m1
  rw [hgg] at cg1 g2
  rw [hstv] at cs1 m4
  rw [hl] at c1
  rw [hf] at c2
  rw [hsf] at s4
  have PU := fun w : World => pull_calls d gg l f w (by omega) (by omega) (by omega) (by omega)
  have ht : tightN S c p = pullN d gg l f := by unfold tightN metOf; rw [hi, hj, Int.toNat_natCast, Int.toNat_natCast, hd, hgg, hl, hf]; rfl
  rw [ht, hi, hj, hl, hf, hsf]
  obtain ⟨nc, hnc⟩ : ∃ n, S.cs.length = n := ⟨_, rfl⟩
  obtain ⟨nm, hnm⟩ : ∃ n, S.ms.length = n := ⟨_, rfl⟩
  obtain ⟨ng, hng⟩ : ∃ n, S.gs.length = n := ⟨_, rfl⟩
  rw [hnc, hnm, hng]
  rw [hnm] at i1
  rw [hng] at j1
  have HPU := Lib.hid PU
  clear PU ht hi hj hl hf hsf hd hgg hstv hsl cs1 css cgs g m3 hst rc rm rg c3 c4 p1 p2 p3 p4 m2 s5 hs hp hc hnc hnm hng cst s1 s2 s3
  have a1 : (0 : Int) ≤ (i : Int) := by omega
  have a2 : (i : Int) < (nm : Int) := by omega
  have a3 : (0 : Int) ≤ (j : Int) := by omega
  have a4 : (j : Int) < (ng : Int) := by omega
  have vs := Vals.newL w (w.heap.size) [.slice adc nc cc, .slice (some ⟨bm, om, none⟩) nm cm, .slice (some ⟨bg, og, none⟩) ng cg, .int .i64 (sf : Int), .int .i64 S.ch] 26 rfl
  have bb := below_alloc w (.cells #[.slice adc nc cc, .slice (some ⟨bm, om, none⟩) nm cm, .slice (some ⟨bg, og, none⟩) ng cg, .int .i64 (sf : Int), .int .i64 S.ch] 26)
  have B := bb
  have sz0 := World.size_alloc w (.cells #[.slice adc nc cc, .slice (some ⟨bm, om, none⟩) nm cm, .slice (some ⟨bg, og, none⟩) ng cg, .int .i64 (sf : Int), .int .i64 S.ch] 26)
  have sz := sz0
  clear sz0
  clear bb
  have vc := Vals.newL (w.alloc (.cells #[.slice adc nc cc, .slice (some ⟨bm, om, none⟩) nm cm, .slice (some ⟨bg, og, none⟩) ng cg, .int .i64 (sf : Int), .int .i64 S.ch] 26)) (w.heap.size + 1) [.int .i64 (l : Int), .int .i64 (f : Int), .int .i64 c.t, .int .i64 c.w] 44 sz.symm
  have bb := below_alloc (w.alloc (.cells #[.slice adc nc cc, .slice (some ⟨bm, om, none⟩) nm cm, .slice (some ⟨bg, og, none⟩) ng cg, .int .i64 (sf : Int), .int .i64 S.ch] 26)) (.cells #[.int .i64 (l : Int), .int .i64 (f : Int), .int .i64 c.t, .int .i64 c.w] 44)
  replace vs := vs.mono bb
  replace B := below_trans B bb
  clear bb
  have sz1 := World.size_alloc (w.alloc (.cells #[.slice adc nc cc, .slice (some ⟨bm, om, none⟩) nm cm, .slice (some ⟨bg, og, none⟩) ng cg, .int .i64 (sf : Int), .int .i64 S.ch] 26)) (.cells #[.int .i64 (l : Int), .int .i64 (f : Int), .int .i64 c.t, .int .i64 c.w] 44)
  rw [sz] at sz1
  clear sz
  have sz := sz1
  clear sz1
  have vp := Vals.newL ((w.alloc (.cells #[.slice adc nc cc, .slice (some ⟨bm, om, none⟩) nm cm, .slice (some ⟨bg, og, none⟩) ng cg, .int .i64 (sf : Int), .int .i64 S.ch] 26)).alloc (.cells #[.int .i64 (l : Int), .int .i64 (f : Int), .int .i64 c.t, .int .i64 c.w] 44)) (w.heap.size + 1 + 1) [.int .i64 (i : Int), .int .i64 (j : Int)] 56 sz.symm
  have bb := below_alloc ((w.alloc (.cells #[.slice adc nc cc, .slice (some ⟨bm, om, none⟩) nm cm, .slice (some ⟨bg, og, none⟩) ng cg, .int .i64 (sf : Int), .int .i64 S.ch] 26)).alloc (.cells #[.int .i64 (l : Int), .int .i64 (f : Int), .int .i64 c.t, .int .i64 c.w] 44)) (.cells #[.int .i64 (i : Int), .int .i64 (j : Int)] 56)
  replace vs := vs.mono bb
  replace vc := vc.mono bb
  replace B := below_trans B bb
  clear sz
  have bb0 := B
  clear bb
  go_enter Tryd.func43, Tryd.ntmps43
  go_upto_region 1 with (fail)
  generalize (((w.alloc (.cells #[.slice adc nc cc, .slice (some ⟨bm, om, none⟩) nm cm, .slice (some ⟨bg, og, none⟩) ng cg, .int .i64 (sf : Int), .int .i64 S.ch] 26)).alloc (.cells #[.int .i64 (l : Int), .int .i64 (f : Int), .int .i64 c.t, .int .i64 c.w] 44)).alloc (.cells #[.int .i64 (i : Int), .int .i64 (j : Int)] 56)) = w0 at *
  replace cd := (bb0.cell (cell_lt cd)).trans cd
  replace cg1 := (bb0.cell (cell_lt cg1)).trans cg1
  clear bb0
  go_region_held3 (fun w' => w'.cell? ⟨w.heap.size, 1, none⟩ = some (.slice (some ⟨bm, om, none⟩) nm cm) ∧ w'.cell? ⟨w.heap.size, 2, none⟩ = some (.slice (some ⟨bg, og, none⟩) ng cg) ∧ w'.cell? ⟨w.heap.size + 1, 0, none⟩ = some (.int .i64 (l : Int)) ∧ w'.cell? ⟨w.heap.size + 1, 1, none⟩ = some (.int .i64 (f : Int)) ∧ w'.cell? ⟨w.heap.size + 1 + 1, 0, none⟩ = some (.int .i64 (i : Int)) ∧ w'.cell? ⟨w.heap.size + 1 + 1, 1, none⟩ = some (.int .i64 (j : Int)) ∧ w'.cell? ⟨bm, om + i * 2, none⟩ = some (.int .i64 (d : Int)) ∧ w'.cell? ⟨bg, og + j, none⟩ = some (.int .i64 (gg : Int)))
    (first | exact tcells vs vc vp cd cg1 | exact tcells vs.drew vc.drew vp.drew cd cg1)
    (first | (go_at_call 36; (with_reducible refine (HPU.out _).mono ?_); rintro e z1 ⟨rfl, b5⟩; replace vs := vs.drew.mono b5; replace vc := vc.drew.mono b5; replace vp := vp.drew.mono b5; replace cd := (b5.cell (cell_lt (w := w0.drew) cd)).trans cd; replace cg1 := (b5.cell (cell_lt (w := w0.drew) cg1)).trans cg1; replace B := below_trans B.drew b5; clear b5))
  go_wp2
  go_ret
  exact ⟨rfl, B⟩

theorem scells {w : World} {b1 b2 b3 b4 bs os j : Nat} {x0 x1 x2 x3 x4 y0 y1 y2 y3 z0 z1 u v s : Value} (vs : Vals w b1 [x0, x1, x2, x3, x4]) (vc : Vals w b2 [y0, y1, y2, y3]) (vp : Vals w b3 [z0, z1]) (vm : Vals w b4 [u, v]) (cs : w.cell? ⟨bs, os + j, none⟩ = some s) :
    w.cell? ⟨b1, 3, none⟩ = some x3 ∧ w.cell? ⟨b2, 0, none⟩ = some y0 ∧ w.cell? ⟨b2, 1, none⟩ = some y1 ∧ w.cell? ⟨b3, 1, none⟩ = some z1 ∧ w.cell? ⟨b4, 0, none⟩ = some u ∧ w.cell? ⟨b4, 1, none⟩ = some v ∧ w.cell? ⟨bs, os + j, none⟩ = some s := by
  have s3 := vs.cell (i := 3) (by simp)
  have c0 := vc.cell (i := 0) (by simp)
  have c1 := vc.cell (i := 1) (by simp)
  have p1 := vp.cell (i := 1) (by simp)
  have m0 := vm.cell (i := 0) (by simp)
  have m1 := vm.cell (i := 1) (by simp)
  exact ⟨s3, c0, c1, p1, m0, m1, cs⟩

set_option maxRecDepth 100000 in
set_option maxHeartbeats 1000000 in
theorem strong_calls (S : Scl) (c : Crs) (p : Pk) (cv mv gv : Value) (w : World) (hS : InS w cv mv gv S) (hs : sclOk S = true) (hp : pkOk S p = true) (hc : crsOk c = true) :
    Calls Tryd.prog 33 #[.agg #[cv, mv, gv, .int .i64 S.sf, .int .i64 S.ch], .agg #[.int .i64 c.l, .int .i64 c.f, .int .i64 c.t, .int .i64 c.w], .agg #[.int .i64 p.m, .int .i64 p.g]] w fun e w' => e = .returned (.bool (strongB S c p)) ∧ Below w.heap.size w w' := by
  obtain ⟨⟨p1, p2⟩, ⟨p3, p4⟩⟩ := pk_facts hp
  obtain ⟨c1, c2, c3, c4⟩ := crs_facts hc
  obtain ⟨i, hi⟩ : ∃ i : Nat, p.m = (i : Int) := ⟨p.m.toNat, by omega⟩
  obtain ⟨j, hj⟩ : ∃ j : Nat, p.g = (j : Int) := ⟨p.g.toNat, by omega⟩
  have i1 : i < S.ms.length := by omega
  have j1 : j < S.gs.length := by omega
  obtain ⟨m1, m2, m3⟩ := met_facts (sclOk_met hs i1)
  have m4 := m3 j j1
  have g := sclOk_g hs j1
  unfold inR at g
  have g2 := of_decide_eq_true g
  obtain ⟨s1, s2, s3, s4, s5⟩ := headOk_lens (headOk_of hs)
  obtain ⟨l, hl⟩ : ∃ l : Nat, c.l = (l : Int) := ⟨c.l.toNat, by omega⟩
  obtain ⟨f, hf⟩ : ∃ f : Nat, c.f = (f : Int) := ⟨c.f.toNat, by omega⟩
  obtain ⟨⟨adc, cc, rfl, rc⟩, ⟨adm, cm, rfl, rm⟩, ⟨adg, cg, rfl, rg⟩⟩ := hS
  obtain ⟨bm, om, mv, rfl, cd, cst, hst⟩ := rm.at i1
  obtain ⟨ads, cs, rfl, hst⟩ := hst
  obtain ⟨bg, og, rfl, cgs⟩ := rg.at j1
  have cg1 := cgs j j1
  obtain ⟨d, hd⟩ : ∃ d : Nat, (S.ms.getD i m0).d = (d : Int) := ⟨(S.ms.getD i m0).d.toNat, by omega⟩
  obtain ⟨gg, hgg⟩ : ∃ d : Nat, S.gs.getD j 0 = (d : Int) := ⟨(S.gs.getD j 0).toNat, by omega⟩
  have hsl : j < (S.ms.getD i m0).st.length := by rw [m2]; exact j1
  obtain ⟨bs, os, rfl, css⟩ := hst.at hsl
  have cs1 := css j hsl
  obtain ⟨st, hstv⟩ : ∃ d : Nat, (S.ms.getD i m0).st.getD j 0 = (d : Int) := ⟨((S.ms.getD i m0).st.getD j 0).toNat, by omega⟩
  obtain ⟨sf, hsf⟩ : ∃ d : Nat, S.sf = (d : Int) := ⟨S.sf.toNat, by omega⟩
  rw [hd] at cd m1
  rw [hgg] at cg1 g2
  rw [hstv] at cs1 m4
  rw [hl] at c1
  rw [hf] at c2
  rw [hsf] at s4
  have HO := fun w : World => holds_calls d st l f sf w (by omega) (by omega) (by omega) (by omega) (by omega)
  have ht : strongB S c p = holdsB d st l f sf := by unfold strongB metOf; rw [hi, hj, Int.toNat_natCast, Int.toNat_natCast, hd, hstv, hl, hf, hsf]; rfl
  rw [ht, hi, hj, hl, hf, hsf]
  obtain ⟨nc, hnc⟩ : ∃ n, S.cs.length = n := ⟨_, rfl⟩
  obtain ⟨nm, hnm⟩ : ∃ n, S.ms.length = n := ⟨_, rfl⟩
  obtain ⟨ng, hng⟩ : ∃ n, S.gs.length = n := ⟨_, rfl⟩
  rw [hnc, hnm, hng]
  rw [hnm] at i1
  rw [hng] at j1 m2
  rw [m2] at cst
  have HHO := Lib.hid HO
  clear HO ht hi hj hl hf hsf hd hgg hstv hsl css cgs g m3 hst rc rm rg c3 c4 p1 p2 p3 p4 m2 s5 hs hp hc hnc hnm hng cg1 s1 s2 s3
  have a1 : (0 : Int) ≤ (i : Int) := by omega
  have a2 : (i : Int) < (nm : Int) := by omega
  have a3 : (0 : Int) ≤ (j : Int) := by omega
  have a4 : (j : Int) < (ng : Int) := by omega
  have vs := Vals.newL w (w.heap.size) [.slice adc nc cc, .slice (some ⟨bm, om, none⟩) nm cm, .slice (some ⟨bg, og, none⟩) ng cg, .int .i64 (sf : Int), .int .i64 S.ch] 26 rfl
  have bb := below_alloc w (.cells #[.slice adc nc cc, .slice (some ⟨bm, om, none⟩) nm cm, .slice (some ⟨bg, og, none⟩) ng cg, .int .i64 (sf : Int), .int .i64 S.ch] 26)
  have B := bb
  have sz0 := World.size_alloc w (.cells #[.slice adc nc cc, .slice (some ⟨bm, om, none⟩) nm cm, .slice (some ⟨bg, og, none⟩) ng cg, .int .i64 (sf : Int), .int .i64 S.ch] 26)
  have sz := sz0
  clear sz0
  clear bb
  have vc := Vals.newL (w.alloc (.cells #[.slice adc nc cc, .slice (some ⟨bm, om, none⟩) nm cm, .slice (some ⟨bg, og, none⟩) ng cg, .int .i64 (sf : Int), .int .i64 S.ch] 26)) (w.heap.size + 1) [.int .i64 (l : Int), .int .i64 (f : Int), .int .i64 c.t, .int .i64 c.w] 44 sz.symm
  have bb := below_alloc (w.alloc (.cells #[.slice adc nc cc, .slice (some ⟨bm, om, none⟩) nm cm, .slice (some ⟨bg, og, none⟩) ng cg, .int .i64 (sf : Int), .int .i64 S.ch] 26)) (.cells #[.int .i64 (l : Int), .int .i64 (f : Int), .int .i64 c.t, .int .i64 c.w] 44)
  replace vs := vs.mono bb
  replace B := below_trans B bb
  clear bb
  have sz1 := World.size_alloc (w.alloc (.cells #[.slice adc nc cc, .slice (some ⟨bm, om, none⟩) nm cm, .slice (some ⟨bg, og, none⟩) ng cg, .int .i64 (sf : Int), .int .i64 S.ch] 26)) (.cells #[.int .i64 (l : Int), .int .i64 (f : Int), .int .i64 c.t, .int .i64 c.w] 44)
  rw [sz] at sz1
  clear sz
  have sz := sz1
  clear sz1
  have vp := Vals.newL ((w.alloc (.cells #[.slice adc nc cc, .slice (some ⟨bm, om, none⟩) nm cm, .slice (some ⟨bg, og, none⟩) ng cg, .int .i64 (sf : Int), .int .i64 S.ch] 26)).alloc (.cells #[.int .i64 (l : Int), .int .i64 (f : Int), .int .i64 c.t, .int .i64 c.w] 44)) (w.heap.size + 1 + 1) [.int .i64 (i : Int), .int .i64 (j : Int)] 56 sz.symm
  have bb := below_alloc ((w.alloc (.cells #[.slice adc nc cc, .slice (some ⟨bm, om, none⟩) nm cm, .slice (some ⟨bg, og, none⟩) ng cg, .int .i64 (sf : Int), .int .i64 S.ch] 26)).alloc (.cells #[.int .i64 (l : Int), .int .i64 (f : Int), .int .i64 c.t, .int .i64 c.w] 44)) (.cells #[.int .i64 (i : Int), .int .i64 (j : Int)] 56)
  replace vs := vs.mono bb
  replace vc := vc.mono bb
  replace B := below_trans B bb
  clear sz
  have bb0 := B
  clear bb
  go_enter Tryd.func33, Tryd.ntmps33
  go_upto_region 1 with (fail)
  generalize (((w.alloc (.cells #[.slice adc nc cc, .slice (some ⟨bm, om, none⟩) nm cm, .slice (some ⟨bg, og, none⟩) ng cg, .int .i64 (sf : Int), .int .i64 S.ch] 26)).alloc (.cells #[.int .i64 (l : Int), .int .i64 (f : Int), .int .i64 c.t, .int .i64 c.w] 44)).alloc (.cells #[.int .i64 (i : Int), .int .i64 (j : Int)] 56)) = w0 at *
  replace cd := (bb0.cell (cell_lt cd)).trans cd
  replace cst := (bb0.cell (cell_lt cst)).trans cst
  replace cs1 := (bb0.cell (cell_lt cs1)).trans cs1
  clear bb0
  have cvs1 := vs.cell (i := 1) (by simp)
  simp only [List.getD_cons_zero, List.getD_cons_succ] at cvs1
  have ltvs := vs.lt
  have cvp0 := vp.cell (i := 0) (by simp)
  simp only [List.getD_cons_zero, List.getD_cons_succ] at cvp0
  have ltvp := vp.lt
  go_upto_region 2 with (fail)
  clear cvs1 ltvs cvp0 ltvp
  have vm := Vals.newL w0 w0.heap.size [.int .i64 (d : Int), .slice (some ⟨bs, os, none⟩) ng cs] 46 rfl
  have bb := below_alloc w0 (.cells #[.int .i64 (d : Int), .slice (some ⟨bs, os, none⟩) ng cs] 46)
  replace cs1 := (bb.cell (cell_lt cs1)).trans cs1
  replace vs := vs.mono bb
  replace vc := vc.mono bb
  replace vp := vp.mono bb
  replace B := below_trans B bb
  clear bb cd cst
  generalize w0.alloc (.cells #[.int .i64 (d : Int), .slice (some ⟨bs, os, none⟩) ng cs] 46) = W0 at *
  generalize w0.heap.size = b7 at *
  go_region_held3 (fun w' => w'.cell? ⟨w.heap.size, 3, none⟩ = some (.int .i64 (sf : Int)) ∧ w'.cell? ⟨w.heap.size + 1, 0, none⟩ = some (.int .i64 (l : Int)) ∧ w'.cell? ⟨w.heap.size + 1, 1, none⟩ = some (.int .i64 (f : Int)) ∧ w'.cell? ⟨w.heap.size + 1 + 1, 1, none⟩ = some (.int .i64 (j : Int)) ∧ w'.cell? ⟨b7, 0, none⟩ = some (.int .i64 (d : Int)) ∧ w'.cell? ⟨b7, 1, none⟩ = some (.slice (some ⟨bs, os, none⟩) ng cs) ∧ w'.cell? ⟨bs, os + j, none⟩ = some (.int .i64 (st : Int)))
    (first | exact scells vs vc vp vm cs1 | exact scells vs.drew vc.drew vp.drew vm.drew cs1)
    (first | (go_at_call 42; (with_reducible refine (HHO.out _).mono ?_); rintro e z1 ⟨rfl, b5⟩; replace vs := vs.drew.mono b5; replace vc := vc.drew.mono b5; replace vp := vp.drew.mono b5; replace vm := vm.drew.mono b5; replace cs1 := (b5.cell (cell_lt (w := W0.drew) cs1)).trans cs1; replace B := below_trans B.drew b5; clear b5))
  go_wp2
  go_ret
  exact ⟨rfl, B⟩

theorem InS.drew {w : World} {cv mv gv S} (h : InS w cv mv gv S) : InS w.drew cv mv gv S := h
theorem pcells {w : World} {b1 b2 b3 : Nat} {x0 x1 x2 x3 x4 y0 y1 y2 y3 z0 z1 : Value} (vs : Vals w b1 [x0, x1, x2, x3, x4]) (vc : Vals w b2 [y0, y1, y2, y3]) (vp : Vals w b3 [z0, z1]) :
    w.cell? ⟨b1, 0, none⟩ = some x0 ∧ w.cell? ⟨b1, 1, none⟩ = some x1 ∧ w.cell? ⟨b1, 2, none⟩ = some x2 ∧ w.cell? ⟨b1, 3, none⟩ = some x3 ∧ w.cell? ⟨b1, 4, none⟩ = some x4 ∧
    w.cell? ⟨b2, 0, none⟩ = some y0 ∧ w.cell? ⟨b2, 1, none⟩ = some y1 ∧ w.cell? ⟨b2, 2, none⟩ = some y2 ∧ w.cell? ⟨b2, 3, none⟩ = some y3 ∧ w.cell? ⟨b3, 0, none⟩ = some z0 ∧ w.cell? ⟨b3, 1, none⟩ = some z1 := by
  have s0 := vs.cell (i := 0) (by simp)
  have s1 := vs.cell (i := 1) (by simp)
  have s2 := vs.cell (i := 2) (by simp)
  have s3 := vs.cell (i := 3) (by simp)
  have s4 := vs.cell (i := 4) (by simp)
  have c0 := vc.cell (i := 0) (by simp)
  have c1 := vc.cell (i := 1) (by simp)
  have c2 := vc.cell (i := 2) (by simp)
  have c3 := vc.cell (i := 3) (by simp)
  have p0 := vp.cell (i := 0) (by simp)
  have p1 := vp.cell (i := 1) (by simp)
  exact ⟨s0, s1, s2, s3, s4, c0, c1, c2, c3, p0, p1⟩

set_option maxRecDepth 100000 in
set_option maxHeartbeats 1000000 in
theorem price_calls (S : Scl) (c : Crs) (p : Pk) (cv mv gv : Value) (w : World) (hS : InS w cv mv gv S) (hs : sclOk S = true) (hp : pkOk S p = true) (hc : crsOk c = true) :
    Calls Tryd.prog 34 #[.agg #[cv, mv, gv, .int .i64 S.sf, .int .i64 S.ch], .agg #[.int .i64 c.l, .int .i64 c.f, .int .i64 c.t, .int .i64 c.w], .agg #[.int .i64 p.m, .int .i64 p.g]] w fun e w' => e = .returned (.int .i64 ((priceN S c p : Nat) : Int)) ∧ Below w.heap.size w w' := by
  have tl := tightN_le hs hc hp
  obtain ⟨c1, c2, c3, c4⟩ := crs_facts hc
  have TI := fun (cv mv gv : Value) (w : World) (h : InS w cv mv gv S) => tight_calls S c p cv mv gv w h hs hp hc
  obtain ⟨t, ht⟩ : ∃ t, tightN S c p = t := ⟨_, rfl⟩
  have hpr : priceN S c p = c.w.toNat * ((t : Int) - c.t).natAbs := by unfold priceN; rw [ht]
  rw [hpr]
  rw [ht] at TI tl
  have hm : c.w.toNat * ((t : Int) - c.t).natAbs ≤ 1000 * 4000000000000 := Nat.mul_le_mul (by omega) (by omega)
  have hw : c.w = (c.w.toNat : Int) := by omega
  have k1 : IntKind.i64.wrap ((t : Int) - c.t) = (t : Int) - c.t := IntWalk.i64_in _ (by omega)
  have k2 : wrap64 (-((t : Int) - c.t)) = -((t : Int) - c.t) := wrap64_id (by omega) (by omega)
  have k3 : max ((t : Int) - c.t) (-((t : Int) - c.t)) = ((((t : Int) - c.t).natAbs : Nat) : Int) := by omega
  have k4 : c.w * ((((t : Int) - c.t).natAbs : Nat) : Int) = ((c.w.toNat * ((t : Int) - c.t).natAbs : Nat) : Int) := by rw [Int.natCast_mul, ← hw]
  have k5 : wrap64 (c.w * ((((t : Int) - c.t).natAbs : Nat) : Int)) = ((c.w.toNat * ((t : Int) - c.t).natAbs : Nat) : Int) := by rw [k4]; exact wrap64_id (by omega) (by omega)
  have K2 := Lib.hid k2
  have K3 := Lib.hid k3
  have K5 := Lib.hid k5
  have HTI := Lib.hid TI
  have hs2 := hS
  obtain ⟨⟨adc, cc, rfl, rc⟩, ⟨adm, cm, rfl, rm⟩, ⟨adg, cg, rfl, rg⟩⟩ := hS
  obtain ⟨nc, hnc⟩ : ∃ n, S.cs.length = n := ⟨_, rfl⟩
  obtain ⟨nm, hnm⟩ : ∃ n, S.ms.length = n := ⟨_, rfl⟩
  obtain ⟨ng, hng⟩ : ∃ n, S.gs.length = n := ⟨_, rfl⟩
  rw [hnc, hnm, hng] at hs2 ⊢
  clear TI ht hpr tl hm hw k2 k3 k4 k5 c1 c2 c3 c4 hs hp hc rc rm rg hnc hnm hng
  have vs := Vals.newL w (w.heap.size) [.slice adc nc cc, .slice adm nm cm, .slice adg ng cg, .int .i64 S.sf, .int .i64 S.ch] 26 rfl
  have bb := below_alloc w (.cells #[.slice adc nc cc, .slice adm nm cm, .slice adg ng cg, .int .i64 S.sf, .int .i64 S.ch] 26)
  have B := bb
  have sz0 := World.size_alloc w (.cells #[.slice adc nc cc, .slice adm nm cm, .slice adg ng cg, .int .i64 S.sf, .int .i64 S.ch] 26)
  have sz := sz0
  clear sz0
  clear bb
  have vc := Vals.newL (w.alloc (.cells #[.slice adc nc cc, .slice adm nm cm, .slice adg ng cg, .int .i64 S.sf, .int .i64 S.ch] 26)) (w.heap.size + 1) [.int .i64 c.l, .int .i64 c.f, .int .i64 c.t, .int .i64 c.w] 44 sz.symm
  have bb := below_alloc (w.alloc (.cells #[.slice adc nc cc, .slice adm nm cm, .slice adg ng cg, .int .i64 S.sf, .int .i64 S.ch] 26)) (.cells #[.int .i64 c.l, .int .i64 c.f, .int .i64 c.t, .int .i64 c.w] 44)
  replace vs := vs.mono bb
  replace B := below_trans B bb
  clear bb
  have sz1 := World.size_alloc (w.alloc (.cells #[.slice adc nc cc, .slice adm nm cm, .slice adg ng cg, .int .i64 S.sf, .int .i64 S.ch] 26)) (.cells #[.int .i64 c.l, .int .i64 c.f, .int .i64 c.t, .int .i64 c.w] 44)
  rw [sz] at sz1
  clear sz
  have sz := sz1
  clear sz1
  have vp := Vals.newL ((w.alloc (.cells #[.slice adc nc cc, .slice adm nm cm, .slice adg ng cg, .int .i64 S.sf, .int .i64 S.ch] 26)).alloc (.cells #[.int .i64 c.l, .int .i64 c.f, .int .i64 c.t, .int .i64 c.w] 44)) (w.heap.size + 1 + 1) [.int .i64 p.m, .int .i64 p.g] 56 sz.symm
  have bb := below_alloc ((w.alloc (.cells #[.slice adc nc cc, .slice adm nm cm, .slice adg ng cg, .int .i64 S.sf, .int .i64 S.ch] 26)).alloc (.cells #[.int .i64 c.l, .int .i64 c.f, .int .i64 c.t, .int .i64 c.w] 44)) (.cells #[.int .i64 p.m, .int .i64 p.g] 56)
  replace vs := vs.mono bb
  replace vc := vc.mono bb
  replace B := below_trans B bb
  clear sz
  have bb0 := B
  clear bb
  go_enter Tryd.func34, Tryd.ntmps34
  go_upto_region 1 with (fail)
  generalize (((w.alloc (.cells #[.slice adc nc cc, .slice adm nm cm, .slice adg ng cg, .int .i64 S.sf, .int .i64 S.ch] 26)).alloc (.cells #[.int .i64 c.l, .int .i64 c.f, .int .i64 c.t, .int .i64 c.w] 44)).alloc (.cells #[.int .i64 p.m, .int .i64 p.g] 56)) = w0 at *
  replace hs2 := hs2.mono bb0
  clear bb0
  go_region_held3 (fun w' => w'.cell? ⟨w.heap.size, 0, none⟩ = some (.slice adc nc cc) ∧ w'.cell? ⟨w.heap.size, 1, none⟩ = some (.slice adm nm cm) ∧ w'.cell? ⟨w.heap.size, 2, none⟩ = some (.slice adg ng cg) ∧ w'.cell? ⟨w.heap.size, 3, none⟩ = some (.int .i64 S.sf) ∧ w'.cell? ⟨w.heap.size, 4, none⟩ = some (.int .i64 S.ch) ∧ w'.cell? ⟨w.heap.size + 1, 0, none⟩ = some (.int .i64 c.l) ∧ w'.cell? ⟨w.heap.size + 1, 1, none⟩ = some (.int .i64 c.f) ∧ w'.cell? ⟨w.heap.size + 1, 2, none⟩ = some (.int .i64 c.t) ∧ w'.cell? ⟨w.heap.size + 1, 3, none⟩ = some (.int .i64 c.w) ∧ w'.cell? ⟨w.heap.size + 1 + 1, 0, none⟩ = some (.int .i64 p.m) ∧ w'.cell? ⟨w.heap.size + 1 + 1, 1, none⟩ = some (.int .i64 p.g))
    (first | exact pcells vs vc vp | exact pcells vs.drew vc.drew vp.drew)
    (first | (go_at_call 43; (with_reducible refine (HTI.out _ _ _ _ (InS.drew hs2)).mono ?_); rintro e z1 ⟨rfl, b5⟩; replace vs := vs.drew.mono b5; replace vc := vc.drew.mono b5; replace vp := vp.drew.mono b5; replace B := below_trans B.drew b5; clear b5))
  clear hs2 HTI
  have cvc3 := vc.cell (i := 3) (by simp)
  simp only [List.getD_cons_zero, List.getD_cons_succ] at cvc3
  have ltvc := vc.lt
  go_wp2
  rw [K2.out, K3.out, K5.out]
  go_ret
  exact ⟨rfl, B⟩

end Go.Proofs
