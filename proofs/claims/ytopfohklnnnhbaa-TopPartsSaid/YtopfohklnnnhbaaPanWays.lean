/- panel: the saw in memory; ways. -/
import Derived.RangeFuncNested
import Derived.RangeFuncBound
import Derived.RangeFuncCalls
import Derived.RangeFuncLeaves
import Derived.Shelf.Abstract
import Derived.Shelf.RegionOpen
import Derived.WalkKit
import Derived.OwnWalkIn
import Derived.TacticsInMore
import Derived.LoopNIn
import Derived.LoopIn
import Derived.BigRegionIn
import Derived.Test.YtopfohklnnnhbaaPanMem
open Go.RowKit Go.Shelf Go.Deep
namespace Go.Proofs
set_option linter.unusedVariables false
set_option linter.unusedSimpArgs false

/-- a saw in memory, behind the shapes -/
structure Saw (w : World) (b kf : Nat) (ad : Option Addr) (n c : Nat) (sh : List Shp) (T : Nat → Nat → Int) : Prop where
  k0 : w.cell? ⟨b, 0, none⟩ = some (.int .i64 (kf : Int))
  k1 : w.cell? ⟨b, 1, none⟩ = some (.slice ad n c)
  tab : ∀ i j, i < 65 → j < 65 → w.cell? ⟨b, 2 + i * 65 + j, none⟩ = some (.int .i64 (T i j))
  fr : ∀ o, w.frozen? ⟨b, o, none⟩ = false
  rd : RdV w ad c n 4 (flat scl sh)
  len : sh.length = n
  la : ∀ bb o, ad = some ⟨bb, o, none⟩ → 0 < n → bb < b

theorem Saw.lt {w b kf ad n c sh T} (h : Saw w b kf ad n c sh T) : b < w.heap.size := cell_ltV (a := ⟨b, 0, none⟩) h.k0
theorem RdV.keep {w w' : World} {ad : Option Addr} {c n k : Nat} {cs : List Value} (h : RdV w ad c n k cs) (hk : ∀ bb o, ad = some ⟨bb, o, none⟩ → 0 < n → ∀ q u, w.cell? ⟨bb, q, none⟩ = some u → w'.cell? ⟨bb, q, none⟩ = some u) : RdV w' ad c n k cs := by
  obtain ⟨h1, h2, h3, h4⟩ := h
  refine ⟨h1, h2, h3, ?_⟩
  rcases h4 with h4 | ⟨bb, o, rfl, h4⟩
  · exact .inl h4
  · refine .inr ⟨bb, o, rfl, fun j u hj => ?_⟩
    have hn : 0 < n := by
      have h5 := (List.getElem?_eq_some_iff.1 hj).1
      rw [h1] at h5
      exact Nat.pos_of_mul_pos_right (Nat.lt_of_le_of_lt (Nat.zero_le _) h5)
    exact hk bb o rfl hn _ _ (h4 j u hj)
theorem Saw.keep {w w' b kf ad n c sh T} (h : Saw w b kf ad n c sh T) (hk : ∀ bb, bb ≤ b → ∀ q u, w.cell? ⟨bb, q, none⟩ = some u → w'.cell? ⟨bb, q, none⟩ = some u) (hf : ∀ o, w.frozen? ⟨b, o, none⟩ = false → w'.frozen? ⟨b, o, none⟩ = false) : Saw w' b kf ad n c sh T :=
  ⟨hk b (Nat.le_refl _) _ _ h.k0, hk b (Nat.le_refl _) _ _ h.k1, fun i j hi hj => hk b (Nat.le_refl _) _ _ (h.tab i j hi hj), fun o => hf o (h.fr o), h.rd.keep fun bb o e hn q u hu => hk bb (Nat.le_of_lt (h.la bb o e hn)) q u hu, h.len, h.la⟩
theorem Saw.below {w w' : World} {B b kf ad n c sh T} (h : Saw w b kf ad n c sh T) (hb : Below B w w') (hB : b < B) : Saw w' b kf ad n c sh T :=
  h.keep (fun bb hbb q u hu => (hb.cell (p := ⟨bb, q, none⟩) (Nat.lt_of_le_of_lt hbb hB)).trans hu) (fun o ho => (hb.frozen (p := ⟨b, o, none⟩) hB).trans ho)
theorem Saw.mono {w w' : World} {b kf ad n c sh T} (h : Saw w b kf ad n c sh T) (hb : Below w.heap.size w w') : Saw w' b kf ad n c sh T := h.below hb h.lt
theorem Saw.drew {w b kf ad n c sh T} (h : Saw w b kf ad n c sh T) : Saw w.drew b kf ad n c sh T := ⟨h.k0, h.k1, h.tab, h.fr, h.rd, h.len, h.la⟩
theorem Saw.other {w b kf ad n c sh T} (h : Saw w b kf ad n c sh T) (p : Addr) (hp : b < p.block) (u : Value) : Saw (w.setCell p u) b kf ad n c sh T :=
  h.keep (fun bb hbb q v hv => by rw [World.cell?_setCell_far _ _ _ _ (by show p.block ≠ bb; omega)]; exact hv) (fun o ho => by rw [World.frozen?_setCell]; exact ho)

/-- the saw, and the boxes of the iterator -/
structure SawQ (w : World) (b kf : Nat) (ad : Option Addr) (n c : Nat) (sh : List Shp) (T : Nat → Nat → Int) (s x y i j : Nat) : Prop where
  saw : Saw w b kf ad n c sh T
  cs : w.cell? ⟨s, 0, none⟩ = some (.pointer (some ⟨b, 0, none⟩))
  cx : w.cell? ⟨x, 0, none⟩ = some (.int .i64 (i : Int))
  cy : w.cell? ⟨y, 0, none⟩ = some (.int .i64 (j : Int))
theorem SawQ.mono {w w' : World} {b kf ad n c sh T s x y i j} (h : SawQ w b kf ad n c sh T s x y i j) (hb : Below w.heap.size w w') : SawQ w' b kf ad n c sh T s x y i j :=
  ⟨h.saw.mono hb, (hb.cell (p := ⟨s, 0, none⟩) (cell_ltV h.cs)).trans h.cs, (hb.cell (p := ⟨x, 0, none⟩) (cell_ltV h.cx)).trans h.cx, (hb.cell (p := ⟨y, 0, none⟩) (cell_ltV h.cy)).trans h.cy⟩
theorem SawQ.drew {w b kf ad n c sh T s x y i j} (h : SawQ w b kf ad n c sh T s x y i j) : SawQ w.drew b kf ad n c sh T s x y i j := ⟨h.saw.drew, h.cs, h.cx, h.cy⟩
theorem SawQ.other {w b kf ad n c sh T s x y i j} (h : SawQ w b kf ad n c sh T s x y i j) (p : Addr) (hp : b < p.block) (h1 : p.block ≠ s) (h2 : p.block ≠ x) (h3 : p.block ≠ y) (u : Value) : SawQ (w.setCell p u) b kf ad n c sh T s x y i j :=
  ⟨h.saw.other p hp u, by rw [World.cell?_setCell_far _ _ _ _ h1]; exact h.cs, by rw [World.cell?_setCell_far _ _ _ _ h2]; exact h.cx, by rw [World.cell?_setCell_far _ _ _ _ h3]; exact h.cy⟩

theorem cell_putObj {W : World} {l : Nat} {o o' : Obj} {p : Addr} {v : Value} (h : W.cell? p = some v) (hl : W.heap[l]? = some o) (ho : o.isCells = false) : (W.putObj l o').cell? p = some v := by
  have hne : p.block ≠ l := by
    intro e
    unfold World.cell? at h
    rw [e, hl] at h
    cases o <;> simp_all [Obj.isCells]
  unfold World.cell? at h ⊢
  rw [World.putObj_heap_other hne]
  exact h
theorem frozen_putObj {W : World} {l : Nat} {o o' : Obj} {p : Addr} {v : Value} (h : W.cell? p = some v) (hl : W.heap[l]? = some o) (ho : o.isCells = false) : (W.putObj l o').frozen? p = W.frozen? p := by
  have hne : p.block ≠ l := by
    intro e
    unfold World.cell? at h
    rw [e, hl] at h
    cases o <;> simp_all [Obj.isCells]
  unfold World.frozen?
  rw [World.putObj_heap_other hne]
theorem Saw.put {w b kf ad n c sh T} (h : Saw w b kf ad n c sh T) {l : Nat} {o o' : Obj} (hl : w.heap[l]? = some o) (ho : o.isCells = false) : Saw (w.putObj l o') b kf ad n c sh T :=
  h.keep (fun bb hbb q v hv => cell_putObj hv hl ho) (fun q hq => by
    have hne : b ≠ l := by
      intro e
      have := h.k0
      unfold World.cell? at this
      simp only [e, hl] at this
      cases o <;> simp_all [Obj.isCells]
    unfold World.frozen? at hq ⊢
    rw [World.putObj_heap_other hne]
    exact hq)
theorem SawQ.put {w b kf ad n c sh T s x y i j} (h : SawQ w b kf ad n c sh T s x y i j) {l : Nat} {o o' : Obj} (hl : w.heap[l]? = some o) (ho : o.isCells = false) : SawQ (w.putObj l o') b kf ad n c sh T s x y i j :=
  ⟨h.saw.put hl ho, cell_putObj h.cs hl ho, cell_putObj h.cx hl ho, cell_putObj h.cy hl ho⟩

/-- what ways returns: its iterator over three boxes -/
def RetWays (w : World) (b i j : Nat) (e : Ending) (w' : World) : Prop :=
  ∃ s x y : Nat, e = .returned (.func (.func 11) #[] #[.pointer (some ⟨s, 0, none⟩), .pointer (some ⟨x, 0, none⟩), .pointer (some ⟨y, 0, none⟩)]) ∧ w.heap.size ≤ s ∧ w.heap.size ≤ x ∧ w.heap.size ≤ y ∧
    w'.cell? ⟨s, 0, none⟩ = some (.pointer (some ⟨b, 0, none⟩)) ∧ w'.cell? ⟨x, 0, none⟩ = some (.int .i64 (i : Int)) ∧ w'.cell? ⟨y, 0, none⟩ = some (.int .i64 (j : Int)) ∧ Below w.heap.size w w'

theorem ways_calls (b i j : Nat) (w : World) : Calls Try.prog 10 #[.pointer (some ⟨b, 0, none⟩), .int .i64 (i : Int), .int .i64 (j : Int)] w (RetWays w b i j) := by
  go_enter Try.func10, Try.ntmps10
  go_wp2
  go_ret
  have b1 := below_alloc w (.cells #[.pointer (some ⟨b, 0, none⟩)] 38)
  have b2 := below_alloc (w.alloc (.cells #[.pointer (some ⟨b, 0, none⟩)] 38)) (.cells #[.int .i64 (i : Int)] 3)
  have b3 := below_alloc ((w.alloc (.cells #[.pointer (some ⟨b, 0, none⟩)] 38)).alloc (.cells #[.int .i64 (i : Int)] 3)) (.cells #[.int .i64 (j : Int)] 3)
  have v1 := (Vals.newL w w.heap.size [.pointer (some ⟨b, 0, none⟩)] 38 rfl).mono b2 |>.mono b3
  have v2 := (Vals.newL (w.alloc (.cells #[.pointer (some ⟨b, 0, none⟩)] 38)) (w.heap.size + 1) [.int .i64 (i : Int)] 3 (World.size_alloc _ _).symm).mono b3
  have v3 := Vals.newL ((w.alloc (.cells #[.pointer (some ⟨b, 0, none⟩)] 38)).alloc (.cells #[.int .i64 (i : Int)] 3)) (w.heap.size + 1 + 1) [.int .i64 (j : Int)] 3 (by rw [World.size_alloc, World.size_alloc])
  refine ⟨w.heap.size, w.heap.size + 1, w.heap.size + 1 + 1, rfl, by omega, by omega, by omega, ?_, ?_, ?_, below_trans (below_trans b1 b2) b3⟩
  · exact v1.cell (i := 0) (by simp)
  · exact v2.cell (i := 0) (by simp)
  · exact v3.cell (i := 0) (by simp)

end Go.Proofs
