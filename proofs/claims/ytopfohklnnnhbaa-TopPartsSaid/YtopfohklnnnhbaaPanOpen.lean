/- Shapes that come in: what can be read of them. -/
import Derived.Test.YtopfohklnnnhbaaPanMem
import Derived.Deep.Slices
import Derived.Deep.Fields
import Derived.ChangeSame
import Derived.Lib.SmallJoins
import Derived.OpenShut
open Go.ChangeShapes Go.WideShapes Go.RowKit Go.Joins Go.Deep
namespace Go.Proofs
set_option linter.unusedVariables false
set_option linter.unusedSimpArgs false

section
variable {H : Type} {enc : TypeId × Value → H} {P : Program} {w : World} {base : Nat} {spare : Nat → Bool} {held : Bool}
theorem open_fields {t e : TypeId} {fs : Array Field} {fuel : Nat} {cs : List Value} {x : DataW H × List MemPlace} (ht : P.underlying t = some (.slice e)) (he : P.underlying e = some (.struct fs))
    (hone : oneCellFields P fs = true) (hC : P.cellsOf e = fs.size) (h : DataW.trod enc P w base spare held fuel t cs = some x) :
    cs = [.slice none 0 0] ∨
    ∃ (a : Addr) (len cap m : Nat), cs = [.slice (some a) len cap] ∧ len ≤ cap ∧ cap ≤ maxLen ∧ m = (if spare a.block then cap else len) ∧
      ∀ i, i < m → ∀ (j : Nat) (f : Field), fs[j]? = some f → ∃ (n : Nat) (v : Value) (y : DataW H × List MemPlace), w.cell? (a.add (i * fs.size + j)) = some v ∧ DataW.trod enc P w base spare held n f.type [v] = some y := by
  rcases open_slice ht h with h0 | ⟨a, len, cap, m, n, D, Pl, hcs, hb, hl, hm, hmm, hx, hi⟩
  · exact .inl h0.1
  · refine .inr ⟨a, len, cap, m, hcs, hl, hm, hmm, fun i him j f hj => ?_⟩
    obtain ⟨cs', hc, ht'⟩ := hi i him
    rw [hC] at hc
    obtain ⟨ys, n', hn', hy, hlen, hyl, hf⟩ := DataW.trod_struct he ht'
    obtain ⟨_, hcl, hat⟩ := World.cells?_some hc
    obtain ⟨ho, hk⟩ := hone_of hone j f hj
    have hjl : j < fs.size := (Array.getElem?_eq_some_iff.1 hj).1
    have hcell := hat j hjl
    have hv : cs'[j]? = some (cs'[j]'(by omega)) := List.getElem?_eq_getElem (by omega)
    have h1 := hf j f hj
    rw [ho, hk] at h1
    have hone' : (cs'.drop j).take 1 = [cs'[j]'(by omega)] := by
      rw [List.drop_eq_getElem_cons (by omega)]
      rfl
    rw [hone'] at h1
    have hys : ys[j]? = some (ys[j]'(by omega)) := List.getElem?_eq_getElem (by omega)
    exact ⟨n', _, _, by rw [← Go.Deep.add_add, hcell, hv], h1.trans hys⟩
/-- the address of a slice that can be read to its capacity -/
theorem addr_none {a : Addr} {v : Value} (h : w.cell? a = some v) : a = ⟨a.block, a.off, none⟩ := by
  obtain ⟨b, o, s⟩ := a
  have := World.cell?_spot h
  dsimp only at this
  rw [this]
theorem add_none {b o j : Nat} : (⟨b, o, none⟩ : Addr).add j = ⟨b, o + j, none⟩ := add_offV b o j
end

section
variable {H : Type} {enc : TypeId × Value → H} {w : World} {base : Nat} {held : Bool}
theorem trodP_int {n : Nat} {v : Value} {y : DataW H × List MemPlace} (h : DataW.trod enc Try.prog w base (fun _ => true) held n 3 [v] = some y) : ∃ z, v = .int .i64 z := by
  obtain ⟨z, hz, _, wz⟩ := DataW.trod_int Try.underlying3 h
  exact ⟨z, by simpa using hz⟩
theorem trodP_bool {n : Nat} {v : Value} {y : DataW H × List MemPlace} (h : DataW.trod enc Try.prog w base (fun _ => true) held n 4 [v] = some y) : ∃ z, v = .bool z := by
  obtain ⟨z, hz, _⟩ := DataW.trod_bool Try.underlying4 h
  exact ⟨z, by simpa using hz⟩
theorem open_shapes {r : Reach} {b0 : Nat} {v : Value} {d : DataW H} {p : List MemPlace} (hv : Value.okWide Try.prog w r b0 23 v) (h : DataW.Trod enc Try.prog w base (fun _ => true) held 23 v d p) :
    ∃ (ad : Option Addr) (l c : Nat) (S : List Shp), v = .slice ad l c ∧ S.length = l ∧ RdV w ad c l 4 (flat scl S) := by
  obtain ⟨ad, l, c, rfl⟩ := okWide_slice Try.underlying23 hv
  refine ⟨ad, l, c, ?_⟩
  obtain ⟨fuel, hf⟩ := h
  rcases open_fields Try.underlying23 Try.underlying25 (by kernel_rfl) (by kernel_rfl) hf with hcs | ⟨a, len, cap, m, hcs, hl, hm, hmm, hi⟩
  · obtain ⟨rfl, rfl, rfl⟩ : ad = none ∧ l = 0 ∧ c = 0 := by simpa [Value.cells] using hcs
    exact ⟨[], rfl, rfl, rfl, Nat.le_refl _, by unfold maxLen; omega, .inl rfl⟩
  · obtain ⟨rfl, rfl, rfl⟩ : ad = some a ∧ l = len ∧ c = cap := by simpa [Value.cells] using hcs
    have hm2 : m = c := by simpa using hmm
    subst hm2
    have key : ∀ i, ∃ s : Shp, i < m → w.cell? (a.add (i * 4)) = some (.int .i64 s.w) ∧ w.cell? (a.add (i * 4 + 1)) = some (.int .i64 s.h) ∧ w.cell? (a.add (i * 4 + 2)) = some (.int .i64 s.v) ∧ w.cell? (a.add (i * 4 + 3)) = some (.bool s.t) := by
      intro i
      by_cases him : i < m
      · obtain ⟨n0, v0, y0, k0, t0⟩ := hi i him 0 _ rfl
        obtain ⟨n1, v1, y1, k1, t1⟩ := hi i him 1 _ rfl
        obtain ⟨n2, v2, y2, k2, t2⟩ := hi i him 2 _ rfl
        obtain ⟨n3, v3, y3, k3, t3⟩ := hi i him 3 _ rfl
        obtain ⟨z0, rfl⟩ := trodP_int t0
        obtain ⟨z1, rfl⟩ := trodP_int t1
        obtain ⟨z2, rfl⟩ := trodP_int t2
        obtain ⟨z3, rfl⟩ := trodP_bool t3
        exact ⟨⟨z0, z1, z2, z3⟩, fun _ => ⟨k0, k1, k2, k3⟩⟩
      · exact ⟨s0, fun h => absurd h him⟩
    obtain ⟨F, hF⟩ := Classical.skolem.1 key
    have hlen : ((List.range l).map F).length = l := by simp
    refine ⟨(List.range l).map F, rfl, hlen, ?_⟩
    by_cases h0 : m = 0
    · refine ⟨by rw [flat_length scl_len, hlen], hl, hm, .inl h0⟩
    · have ea2 : a.spot = none := by
        have h1 := (hF 0 (by omega)).1
        have := World.cell?_spot h1
        simpa [Addr.add] using this
      obtain ⟨b, o, s⟩ := a
      dsimp only at ea2
      subst ea2
      have hr := RdV.of4 (f := scl) scl_len (w := w) (ad := some ⟨b, o, none⟩) (c := m) (L := (List.range l).map F) s0 (by rw [hlen]; exact hl) hm (.inr ⟨b, o, rfl, fun i hi => ?_⟩)
      · rw [hlen] at hr; exact hr
      · have hi2 : i < l := by simpa using hi
        have e : ((List.range l).map F).getD i s0 = F i := by simp [List.getD, hi2]
        rw [e]
        obtain ⟨g0, g1, g2, g3⟩ := hF i (by omega)
        rw [add_none] at g0 g1 g2 g3
        exact ⟨g0, g1, g2, g3⟩
end

end Go.Proofs
