/- blocks of values. -/
import Derived.Test.YthkeekoljediiaaBase
import Derived.Deep.OwnRows
open Go.RowKit Go.Deep
namespace Go.Proofs
set_option linter.unusedVariables false
set_option linter.unusedSimpArgs false

/-- a block of values -/
def Vals (w : World) (b : Nat) (vs : List Value) : Prop := ∃ e, w.heap[b]? = some (.cells vs.toArray e (0, 0))
theorem Vals.lt {w b vs} (h : Vals w b vs) : b < w.heap.size := by
  obtain ⟨e, h⟩ := h
  exact (Array.getElem?_eq_some_iff.1 h).1
theorem Vals.mono {w w' : World} {b vs} (h : Vals w b vs) (hb : Below w.heap.size w w') : Vals w' b vs := by
  have hl := h.lt
  obtain ⟨e, h⟩ := h
  exact ⟨e, (hb.block b hl).trans h⟩
theorem Vals.cell {w b vs} (h : Vals w b vs) {i : Nat} (hi : i < vs.length) : w.cell? ⟨b, i, none⟩ = some (vs.getD i undef) := by
  obtain ⟨e, h⟩ := h
  simp [World.cell?, h, hi]
theorem Vals.frozen {w b vs} (h : Vals w b vs) (i : Nat) : w.frozen? ⟨b, i, none⟩ = false := by
  obtain ⟨e, h⟩ := h
  simp [World.frozen?, h]
theorem Vals.drew {w b vs} (h : Vals w b vs) : Vals w.drew b vs := h
theorem Vals.drewN {w b vs} (h : Vals w b vs) (n : Nat) : Vals (w.drewN n) b vs := h
theorem Vals.alloc {w b vs} (h : Vals w b vs) (o : Obj) : Vals (w.alloc o) b vs := h.mono (below_alloc w o)
theorem Vals.new (w : World) (b : Nat) (vs : List Value) (c : Array Value) (e : TypeId) (hb : b = w.heap.size) (hc : c = vs.toArray) : Vals (w.alloc (.cells c e)) b vs := by
  subst hb; subst hc
  exact ⟨e, heap_alloc_new _ _⟩
theorem Vals.newL (w : World) (b : Nat) (vs : List Value) (e : TypeId) (hb : b = w.heap.size) : Vals (w.alloc (.cells vs.toArray e)) b vs := Vals.new w b vs _ e hb rfl
theorem Vals.other {w b vs} (h : Vals w b vs) (p : Addr) (hp : p.block ≠ b) (u : Value) : Vals (w.setCell p u) b vs := by
  obtain ⟨e, h⟩ := h
  exact ⟨e, (Below.heap_setCell _ _ _ _ (Ne.symm hp)).trans h⟩
theorem Vals.set {w b vs} (h : Vals w b vs) (i : Nat) (u : Value) : Vals (w.setCell ⟨b, i, none⟩ u) b (vs.set i u) := by
  obtain ⟨e, h⟩ := h
  refine ⟨e, ?_⟩
  rw [heap_setCell_same w b i _ e u h]
  simp


end Go.Proofs
