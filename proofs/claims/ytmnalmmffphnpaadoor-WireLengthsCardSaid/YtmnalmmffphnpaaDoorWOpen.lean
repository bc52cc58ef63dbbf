/- A scaling and picks that come in: what can be read of them. -/
import Derived.Test.YtmnalmmffphnpaaDoorWShort
import Derived.Deep.Slices
import Derived.Deep.Fields
import Derived.ChangeSame
import Derived.Lib.SmallJoins
import Derived.OpenShut
open Go.ChangeShapes Go.WideShapes Go.RowKit Go.Joins Go.Deep
namespace Go.Proofs
set_option linter.unusedVariables false
set_option linter.unusedSimpArgs false

section
variable {H : Type} {enc : TypeId × Value → H} {P : Program} {w : World} {base : Nat} {spare : Nat → Bool} {held : Bool}
theorem open_fields {t e : TypeId} {fs : Array Field} {fuel : Nat} {cs : List Value} {x : DataW H × List MemPlace} (ht : P.underlying t = some (.slice e)) (he : P.underlying e = some (.struct fs))
    (hone : oneCellFields P fs = true) (hC : P.cellsOf e = fs.size) (h : DataW.trod enc P w base spare held fuel t cs = some x) :
    cs = [.slice none 0 0] ∨
    ∃ (a : Addr) (len cap m : Nat), cs = [.slice (some a) len cap] ∧ len ≤ cap ∧ cap ≤ maxLen ∧ m = (if spare a.block then cap else len) ∧
      ∀ i, i < m → ∀ (j : Nat) (f : Field), fs[j]? = some f → ∃ (n : Nat) (v : Value) (y : DataW H × List MemPlace), w.cell? (a.add (i * fs.size + j)) = some v ∧ DataW.trod enc P w base spare held n f.type [v] = some y := by
  rcases open_slice ht h with h0 | ⟨a, len, cap, m, n, D, Pl, hcs, hb, hl, hm, hmm, hx, hi⟩
  · exact .inl h0.1
  · refine .inr ⟨a, len, cap, m, hcs, hl, hm, hmm, fun i him j f hj => ?_⟩
    obtain ⟨cs', hc, ht'⟩ := hi i him
    rw [hC] at hc
    obtain ⟨ys, n', hn', hy, hlen, hyl, hf⟩ := DataW.trod_struct he ht'
    obtain ⟨_, hcl, hat⟩ := World.cells?_some hc
    obtain ⟨ho, hk⟩ := hone_of hone j f hj
    have hjl : j < fs.size := (Array.getElem?_eq_some_iff.1 hj).1
    have hcell := hat j hjl
    have hv : cs'[j]? = some (cs'[j]'(by omega)) := List.getElem?_eq_getElem (by omega)
    have h1 := hf j f hj
    rw [ho, hk] at h1
    have hone' : (cs'.drop j).take 1 = [cs'[j]'(by omega)] := by
      rw [List.drop_eq_getElem_cons (by omega)]
      rfl
    rw [hone'] at h1
    have hys : ys[j]? = some (ys[j]'(by omega)) := List.getElem?_eq_getElem (by omega)
    exact ⟨n', _, _, by rw [← Go.Deep.add_add, hcell, hv], h1.trans hys⟩
theorem open_five {r : Reach} {b0 : Nat} {t : TypeId} {f0 f1 f2 f3 f4 : Field} {v : Value} {d : DataW H} {p : List MemPlace} (hs : P.underlying t = some (.struct #[f0, f1, f2, f3, f4])) (hone : oneCellFields P #[f0, f1, f2, f3, f4] = true) (hC : P.cellsOf t = 5)
    (hv : Value.okWide P w r b0 t v) (h : DataW.Trod enc P w base spare held t v d p) :
    ∃ (v0 v1 v2 v3 v4 : Value) (y0 y1 y2 y3 y4 : DataW H × List MemPlace) (n : Nat), v = .agg #[v0, v1, v2, v3, v4] ∧
      DataW.trod enc P w base spare held n f0.type [v0] = some y0 ∧ DataW.trod enc P w base spare held n f1.type [v1] = some y1 ∧ DataW.trod enc P w base spare held n f2.type [v2] = some y2 ∧ DataW.trod enc P w base spare held n f3.type [v3] = some y3 ∧ DataW.trod enc P w base spare held n f4.type [v4] = some y4 := by
  obtain ⟨cs, rfl, hsz⟩ := okWide_struct hs hv
  obtain ⟨l⟩ := cs
  match l, hsz.trans hC with
  | [c0, c1, c2, c3, c4], _ =>
    obtain ⟨fuel, hf⟩ := h
    obtain ⟨xs, n, _, hx, _, hlen, hg⟩ := DataW.trod_struct hs hf
    obtain ⟨o0, k0⟩ := hone_of hone 0 f0 rfl
    obtain ⟨o1, k1⟩ := hone_of hone 1 f1 rfl
    obtain ⟨o2, k2⟩ := hone_of hone 2 f2 rfl
    obtain ⟨o3, k3⟩ := hone_of hone 3 f3 rfl
    obtain ⟨o4, k4⟩ := hone_of hone 4 f4 rfl
    match xs, hlen with
    | [y0, y1, y2, y3, y4], _ =>
      exact ⟨c0, c1, c2, c3, c4, y0, y1, y2, y3, y4, n, rfl, by simpa [Value.cells, o0, k0] using hg 0 f0 rfl, by simpa [Value.cells, o1, k1] using hg 1 f1 rfl, by simpa [Value.cells, o2, k2] using hg 2 f2 rfl, by simpa [Value.cells, o3, k3] using hg 3 f3 rfl, by simpa [Value.cells, o4, k4] using hg 4 f4 rfl⟩
theorem zI_of {z : Int} (h : (Lit.int .i64 z).wf = true) : zI z := by
  simp [Lit.wf, IntKind.min, IntKind.max, IntKind.signed, IntKind.bits] at h
  unfold zI
  omega
theorem trod_i64 {t : TypeId} (ht : P.underlying t = some (.int .i64)) {n : Nat} {v : Value} {y : DataW H × List MemPlace} (h : DataW.trod enc P w base spare held n t [v] = some y) : ∃ z, v = .int .i64 z ∧ zI z := by
  obtain ⟨z, hz, _, wz⟩ := DataW.trod_int ht h
  exact ⟨z, by simpa using hz, zI_of wz⟩
/-- the address of a slice that can be read to its capacity -/
theorem addr_none {a : Addr} {v : Value} (h : w.cell? a = some v) : a = ⟨a.block, a.off, none⟩ := by
  obtain ⟨b, o, s⟩ := a
  have := World.cell?_spot h
  dsimp only at this
  rw [this]
theorem add_none {b o j : Nat} : (⟨b, o, none⟩ : Addr).add j = ⟨b, o + j, none⟩ := add_offV b o j
end

section
variable {H : Type} {enc : TypeId × Value → H} {w : World} {base : Nat} {held : Bool}
theorem open_zs {n : Nat} {v : Value} {y : DataW H × List MemPlace} (h : DataW.trod enc Tryd.prog w base (fun _ => true) held n 24 [v] = some y) : ∃ zs, InZ w v zs ∧ ∀ z ∈ zs, zI z := by
  rcases open_ints Tryd.underlying24 Tryd.underlying3 (by kernel_rfl) h with ⟨hcs, _⟩ | ⟨x, l, c, zs, hcs, _, hl, hm, hz, _, hcell, hwz⟩
  · obtain rfl : v = .slice none 0 0 := by simpa using hcs
    exact ⟨[], ⟨none, 0, rfl, Nat.le_refl _, by unfold maxLen; omega, .inl ⟨rfl, rfl⟩⟩, fun z hz => by cases hz⟩
  · obtain rfl : v = .slice (some x) l c := by simpa using hcs
    exact inz_of_row (.inr ⟨x, rfl, hl, hm, by simpa using hz, hcell, hwz⟩)
theorem open_cs {n : Nat} {v : Value} {y : DataW H × List MemPlace} (h : DataW.trod enc Tryd.prog w base (fun _ => true) held n 22 [v] = some y) : ∃ L, InC w v L ∧ ∀ c ∈ L, zI c.l ∧ zI c.f ∧ zI c.t ∧ zI c.w := by
  rcases open_fields Tryd.underlying22 Tryd.underlying44 (by kernel_rfl) (by kernel_rfl) h with hcs | ⟨a, len, cap, m, hcs, hl, hm, hmm, hi⟩
  · obtain rfl : v = .slice none 0 0 := by simpa using hcs
    exact ⟨[], ⟨none, 0, rfl, Nat.le_refl _, by unfold maxLen; omega, .inl rfl⟩, fun z hz => by cases hz⟩
  · obtain rfl : v = .slice (some a) len cap := by simpa using hcs
    have hm2 : m = cap := by simpa using hmm
    subst hm2
    have key : ∀ i, ∃ c : Crs, i < m → w.cell? (a.add (i * 4)) = some (.int .i64 c.l) ∧ w.cell? (a.add (i * 4 + 1)) = some (.int .i64 c.f) ∧ w.cell? (a.add (i * 4 + 2)) = some (.int .i64 c.t) ∧ w.cell? (a.add (i * 4 + 3)) = some (.int .i64 c.w) ∧ zI c.l ∧ zI c.f ∧ zI c.t ∧ zI c.w := by
      intro i
      by_cases him : i < m
      · obtain ⟨n0, v0, y0, k0, t0⟩ := hi i him 0 _ rfl
        obtain ⟨n1, v1, y1, k1, t1⟩ := hi i him 1 _ rfl
        obtain ⟨n2, v2, y2, k2, t2⟩ := hi i him 2 _ rfl
        obtain ⟨n3, v3, y3, k3, t3⟩ := hi i him 3 _ rfl
        obtain ⟨z0, rfl, w0⟩ := trod_i64 Tryd.underlying3 t0
        obtain ⟨z1, rfl, w1⟩ := trod_i64 Tryd.underlying3 t1
        obtain ⟨z2, rfl, w2⟩ := trod_i64 Tryd.underlying3 t2
        obtain ⟨z3, rfl, w3⟩ := trod_i64 Tryd.underlying3 t3
        exact ⟨⟨z0, z1, z2, z3⟩, fun _ => ⟨k0, k1, k2, k3, w0, w1, w2, w3⟩⟩
      · exact ⟨c0, fun h => absurd h him⟩
    obtain ⟨F, hF⟩ := Classical.skolem.1 key
    refine ⟨(List.range len).map F, ⟨some a, m, by simp, by simpa using hl, hm, ?_⟩, fun c hc => ?_⟩
    · by_cases h0 : m = 0
      · exact .inl h0
      · have ea := addr_none (hF 0 (by omega)).1
        have ea2 : a.spot = none := by
          rw [Nat.zero_mul] at ea
          have h1 := (hF 0 (by omega)).1
          rw [Nat.zero_mul] at h1
          have := World.cell?_spot h1
          simpa [Addr.add] using this
        obtain ⟨b, o, s⟩ := a
        dsimp only at ea2
        subst ea2
        refine .inr ⟨b, o, rfl, fun i hi => ?_⟩
        have hi2 : i < len := by simpa using hi
        have e : ((List.range len).map F).getD i c0 = F i := by simp [List.getD, hi2]
        rw [e]
        obtain ⟨g0, g1, g2, g3, _⟩ := hF i (by omega)
        rw [add_none] at g0 g1 g2 g3
        exact ⟨g0, g1, g2, g3⟩
    · obtain ⟨i, hi, rfl⟩ := List.mem_map.1 hc
      have hi2 := List.mem_range.1 hi
      exact (hF i (by omega)).2.2.2.2
theorem open_ps {n : Nat} {v : Value} {y : DataW H × List MemPlace} (h : DataW.trod enc Tryd.prog w base (fun _ => true) held n 27 [v] = some y) : ∃ L, InP w v L ∧ PksI L := by
  rcases open_fields Tryd.underlying27 Tryd.underlying56 (by kernel_rfl) (by kernel_rfl) h with hcs | ⟨a, len, cap, m, hcs, hl, hm, hmm, hi⟩
  · obtain rfl : v = .slice none 0 0 := by simpa using hcs
    exact ⟨[], ⟨none, 0, rfl, Nat.le_refl _, by unfold maxLen; omega, .inl rfl⟩, fun z hz => by cases hz⟩
  · obtain rfl : v = .slice (some a) len cap := by simpa using hcs
    have hm2 : m = cap := by simpa using hmm
    subst hm2
    have key : ∀ i, ∃ c : Pk, i < m → w.cell? (a.add (i * 2)) = some (.int .i64 c.m) ∧ w.cell? (a.add (i * 2 + 1)) = some (.int .i64 c.g) ∧ zI c.m ∧ zI c.g := by
      intro i
      by_cases him : i < m
      · obtain ⟨n0, v0, y0, k0, t0⟩ := hi i him 0 _ rfl
        obtain ⟨n1, v1, y1, k1, t1⟩ := hi i him 1 _ rfl
        obtain ⟨z0, rfl, w0⟩ := trod_i64 Tryd.underlying3 t0
        obtain ⟨z1, rfl, w1⟩ := trod_i64 Tryd.underlying3 t1
        exact ⟨⟨z0, z1⟩, fun _ => ⟨k0, k1, w0, w1⟩⟩
      · exact ⟨p0, fun h => absurd h him⟩
    obtain ⟨F, hF⟩ := Classical.skolem.1 key
    refine ⟨(List.range len).map F, ⟨some a, m, by simp, by simpa using hl, hm, ?_⟩, fun c hc => ?_⟩
    · by_cases h0 : m = 0
      · exact .inl h0
      · have ea2 : a.spot = none := by
          have h1 := (hF 0 (by omega)).1
          have := World.cell?_spot h1
          simpa [Addr.add] using this
        obtain ⟨b, o, s⟩ := a
        dsimp only at ea2
        subst ea2
        refine .inr ⟨b, o, rfl, fun i hi => ?_⟩
        have hi2 : i < len := by simpa using hi
        have e : ((List.range len).map F).getD i p0 = F i := by simp [List.getD, hi2]
        rw [e]
        obtain ⟨g0, g1, _⟩ := hF i (by omega)
        rw [add_none] at g0 g1
        exact ⟨g0, g1⟩
    · obtain ⟨i, hi, rfl⟩ := List.mem_map.1 hc
      have hi2 := List.mem_range.1 hi
      exact (hF i (by omega)).2.2
theorem open_ms {n : Nat} {v : Value} {y : DataW H × List MemPlace} (h : DataW.trod enc Tryd.prog w base (fun _ => true) held n 23 [v] = some y) : ∃ L, InM w v L ∧ ∀ m ∈ L, zI m.d ∧ ∀ z ∈ m.st, zI z := by
  rcases open_fields Tryd.underlying23 Tryd.underlying46 (by kernel_rfl) (by kernel_rfl) h with hcs | ⟨a, len, cap, m, hcs, hl, hm, hmm, hi⟩
  · obtain rfl : v = .slice none 0 0 := by simpa using hcs
    exact ⟨[], ⟨none, 0, rfl, Nat.le_refl _, by unfold maxLen; omega, .inl rfl⟩, fun z hz => by cases hz⟩
  · obtain rfl : v = .slice (some a) len cap := by simpa using hcs
    have hm2 : m = cap := by simpa using hmm
    subst hm2
    have key : ∀ i, ∃ c : Met, i < m → w.cell? (a.add (i * 2)) = some (.int .i64 c.d) ∧ (∃ u, w.cell? (a.add (i * 2 + 1)) = some u ∧ InZ w u c.st) ∧ zI c.d ∧ ∀ z ∈ c.st, zI z := by
      intro i
      by_cases him : i < m
      · obtain ⟨n0, v0, y0, k0, t0⟩ := hi i him 0 _ rfl
        obtain ⟨n1, v1, y1, k1, t1⟩ := hi i him 1 _ rfl
        obtain ⟨z0, rfl, w0⟩ := trod_i64 Tryd.underlying3 t0
        obtain ⟨zs, hz, wz⟩ := open_zs t1
        exact ⟨⟨z0, zs⟩, fun _ => ⟨k0, ⟨v1, k1, hz⟩, w0, wz⟩⟩
      · exact ⟨m0, fun h => absurd h him⟩
    obtain ⟨F, hF⟩ := Classical.skolem.1 key
    refine ⟨(List.range len).map F, ⟨some a, m, by simp, by simpa using hl, hm, ?_⟩, fun c hc => ?_⟩
    · by_cases h0 : m = 0
      · exact .inl h0
      · have ea2 : a.spot = none := by
          have h1 := (hF 0 (by omega)).1
          have := World.cell?_spot h1
          simpa [Addr.add] using this
        obtain ⟨b, o, s⟩ := a
        dsimp only at ea2
        subst ea2
        refine .inr ⟨b, o, rfl, fun i hi => ?_⟩
        have hi2 : i < len := by simpa using hi
        have e : ((List.range len).map F).getD i m0 = F i := by simp [List.getD, hi2]
        rw [e]
        obtain ⟨g0, ⟨u, g1, gz⟩, _⟩ := hF i (by omega)
        rw [add_none] at g0 g1
        exact ⟨g0, u, g1, gz⟩
    · obtain ⟨i, hi, rfl⟩ := List.mem_map.1 hc
      have hi2 := List.mem_range.1 hi
      exact (hF i (by omega)).2.2
set_option maxRecDepth 100000 in
theorem open_scaling {r : Reach} {b0 : Nat} {v : Value} {d : DataW H} {p : List MemPlace} (hv : Value.okWide Tryd.prog w r b0 26 v) (h : DataW.Trod enc Tryd.prog w base (fun _ => true) held 26 v d p) :
    ∃ cv mv gv S, v = .agg #[cv, mv, gv, .int .i64 S.sf, .int .i64 S.ch] ∧ InS w cv mv gv S ∧ SclI S := by
  obtain ⟨v0, v1, v2, v3, v4, y0, y1, y2, y3, y4, n, rfl, t0, t1, t2, t3, t4⟩ := open_five Tryd.underlying26 (by kernel_rfl) (by kernel_rfl) hv h
  obtain ⟨cs, hc, ic⟩ := open_cs t0
  obtain ⟨ms, hm, im⟩ := open_ms t1
  obtain ⟨gs, hg, ig⟩ := open_zs t2
  obtain ⟨sf, rfl, i3⟩ := trod_i64 Tryd.underlying3 t3
  obtain ⟨ch, rfl, i4⟩ := trod_i64 Tryd.underlying3 t4
  exact ⟨v0, v1, v2, ⟨cs, ms, gs, sf, ch⟩, rfl, ⟨hc, hm, hg⟩, ⟨ic, im, ig, i3, i4⟩⟩
set_option maxRecDepth 100000 in
theorem open_picks {r : Reach} {b0 : Nat} {v : Value} {d : DataW H} {p : List MemPlace} (hv : Value.okWide Tryd.prog w r b0 27 v) (h : DataW.Trod enc Tryd.prog w base (fun _ => true) held 27 v d p) :
    ∃ P, InP w v P ∧ PksI P := by
  obtain ⟨a, l, c, rfl⟩ := okWide_slice Tryd.underlying27 hv
  obtain ⟨fuel, hf⟩ := h
  exact open_ps (by simpa [Value.cells] using hf)
end

end Go.Proofs
