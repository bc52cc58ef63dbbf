/- The search of wire.Best in memory: its picks, prices, least costs; what is kept of them. -/
import Derived.Test.YtmnalmmffphnpaaDoorWShort
import Derived.Test.YtmnalmmffphnpaaDoorBestLaw
open Go.RowKit Go.Deep
namespace Go.Proofs
set_option linter.unusedVariables false
set_option linter.unusedSimpArgs false

/-- the blocks from lo to hi are as they were -/
def Same (lo hi : Nat) (w w' : World) : Prop := ∀ k, lo ≤ k → k < hi → w'.heap[k]? = w.heap[k]?
theorem Same.refl (lo hi : Nat) (w : World) : Same lo hi w w := fun _ _ _ => rfl
theorem Same.trans {lo hi : Nat} {a b c : World} (h : Same lo hi a b) (k : Same lo hi b c) : Same lo hi a c := fun i h1 h2 => (k i h1 h2).trans (h i h1 h2)
theorem Same.weak {lo hi lo' hi' : Nat} {a b : World} (h : Same lo hi a b) (h1 : lo ≤ lo') (h2 : hi' ≤ hi) : Same lo' hi' a b := fun i k1 k2 => h i (by omega) (by omega)
theorem Same.of_below {lo hi B : Nat} {a b : World} (h : Below B a b) (hB : hi ≤ B) : Same lo hi a b := fun i h1 h2 => h.block i (by omega)
theorem Same.setCell {lo hi : Nat} {a b : World} (h : Same lo hi a b) (p : Addr) (hp : p.block < lo ∨ hi ≤ p.block) (u : Value) : Same lo hi a (b.setCell p u) := fun i h1 h2 => by
  rw [Below.heap_setCell _ _ _ _ (show i ≠ p.block by omega)]
  exact h i h1 h2
theorem Same.alloc {lo hi : Nat} {a b : World} (h : Same lo hi a b) (hb : hi ≤ b.heap.size) (o : Obj) : Same lo hi a (b.alloc o) := h.trans (Same.of_below (below_alloc b o) hb)
theorem Same.drew {lo hi : Nat} {a b : World} (h : Same lo hi a b) : Same lo hi a b.drew := h
theorem Same.cell {lo hi : Nat} {w w' : World} (h : Same lo hi w w') {p : Addr} {v : Value} (hc : w.cell? p = some v) (h1 : lo ≤ p.block) (h2 : p.block < hi) : w'.cell? p = some v := by
  unfold World.cell? at hc ⊢
  rw [h p.block h1 h2]
  exact hc
theorem Same.frozen {lo hi : Nat} {w w' : World} (h : Same lo hi w w') {p : Addr} (h1 : lo ≤ p.block) (h2 : p.block < hi) : w'.frozen? p = w.frozen? p := by
  unfold World.frozen?
  rw [h p.block h1 h2]
theorem Vals.same {lo hi : Nat} {w w' : World} {b : Nat} {vs : List Value} (h : Vals w b vs) (hs : Same lo hi w w') (h1 : lo ≤ b) (h2 : b < hi) : Vals w' b vs := by
  obtain ⟨e, h⟩ := h
  exact ⟨e, (hs b h1 h2).trans h⟩

/-- picks in blocks from lo to hi -/
def PickIn (w : World) (lo hi : Nat) (v : Value) (L : List Pk) : Prop :=
  ∃ b o c, v = .slice (some ⟨b, o, none⟩) L.length c ∧ lo ≤ b ∧ b < hi ∧ L.length ≤ c ∧ c ≤ maxLen ∧ ∀ i, i < L.length → w.cell? ⟨b, o + i * 2, none⟩ = some (.int .i64 (L.getD i p0).m) ∧ w.cell? ⟨b, o + i * 2 + 1, none⟩ = some (.int .i64 (L.getD i p0).g)
theorem PickIn.same {w w' : World} {lo hi : Nat} {v : Value} {L : List Pk} (h : PickIn w lo hi v L) (hs : Same lo hi w w') : PickIn w' lo hi v L := by
  obtain ⟨b, o, c, h0, h1, h2, h3, h4, h5⟩ := h
  exact ⟨b, o, c, h0, h1, h2, h3, h4, fun i hi => ⟨hs.cell (h5 i hi).1 h1 h2, hs.cell (h5 i hi).2 h1 h2⟩⟩
theorem PickIn.weak {w : World} {lo hi lo' hi' : Nat} {v : Value} {L : List Pk} (h : PickIn w lo hi v L) (k1 : lo' ≤ lo) (k2 : hi ≤ hi') : PickIn w lo' hi' v L := by
  obtain ⟨b, o, c, h0, h1, h2, h3⟩ := h
  exact ⟨b, o, c, h0, by omega, by omega, h3⟩

/-- a table of numbers: rows of K -/
def TabIn (w : World) (lo hi : Nat) (v : Value) (n K : Nat) (pr : Nat → Nat → Int) : Prop :=
  ∃ b c, v = .slice (some ⟨b, 0, none⟩) n c ∧ lo ≤ b ∧ b < hi ∧ n ≤ c ∧ c ≤ maxLen ∧ ∀ i, i < n → ∃ h c', lo ≤ h ∧ h < hi ∧ w.cell? ⟨b, i, none⟩ = some (.slice (some ⟨h, 0, none⟩) K c') ∧ K ≤ c' ∧ c' ≤ maxLen ∧ ∀ k, k < K → w.cell? ⟨h, k, none⟩ = some (.int .i64 (pr i k))
theorem TabIn.same {w w' : World} {lo hi : Nat} {v : Value} {n K : Nat} {pr : Nat → Nat → Int} (h : TabIn w lo hi v n K pr) (hs : Same lo hi w w') : TabIn w' lo hi v n K pr := by
  obtain ⟨b, c, h0, h1, h2, h3, h4, h5⟩ := h
  refine ⟨b, c, h0, h1, h2, h3, h4, fun i hi => ?_⟩
  obtain ⟨g, c', g1, g2, g3, g4, g5, g6⟩ := h5 i hi
  exact ⟨g, c', g1, g2, hs.cell g3 h1 h2, g4, g5, fun k hk => hs.cell (g6 k hk) g1 g2⟩
theorem TabIn.weak {w : World} {lo hi lo' hi' : Nat} {v : Value} {n K : Nat} {pr : Nat → Nat → Int} (h : TabIn w lo hi v n K pr) (k1 : lo' ≤ lo) (k2 : hi ≤ hi') : TabIn w lo' hi' v n K pr := by
  obtain ⟨b, c, h0, h1, h2, h3, h4, h5⟩ := h
  refine ⟨b, c, h0, by omega, by omega, h3, h4, fun i hi => ?_⟩
  obtain ⟨g, c', g1, g2, g3⟩ := h5 i hi
  exact ⟨g, c', by omega, by omega, g3⟩

/-- a row of the least costs: by pick, by changes -/
def RowIn (w : World) (lo hi : Nat) (v : Value) (K L : Nat) (F : Nat → Nat → Int) : Prop :=
  ∃ b, v = .slice (some ⟨b, 0, none⟩) K K ∧ lo ≤ b ∧ b < hi ∧ ∀ k, k < K → ∃ h, lo ≤ h ∧ h < hi ∧ w.cell? ⟨b, k, none⟩ = some (.slice (some ⟨h, 0, none⟩) L L) ∧ ∀ l, l < L → w.cell? ⟨h, l, none⟩ = some (.int .i64 (F k l))
theorem RowIn.same {w w' : World} {lo hi : Nat} {v : Value} {K L : Nat} {F : Nat → Nat → Int} (h : RowIn w lo hi v K L F) (hs : Same lo hi w w') : RowIn w' lo hi v K L F := by
  obtain ⟨b, h0, h1, h2, h5⟩ := h
  refine ⟨b, h0, h1, h2, fun i hi => ?_⟩
  obtain ⟨g, g1, g2, g3, g6⟩ := h5 i hi
  exact ⟨g, g1, g2, hs.cell g3 h1 h2, fun k hk => hs.cell (g6 k hk) g1 g2⟩
theorem RowIn.weak {w : World} {lo hi lo' hi' : Nat} {v : Value} {K L : Nat} {F : Nat → Nat → Int} (h : RowIn w lo hi v K L F) (k1 : lo' ≤ lo) (k2 : hi ≤ hi') : RowIn w lo' hi' v K L F := by
  obtain ⟨b, h0, h1, h2, h5⟩ := h
  refine ⟨b, h0, by omega, by omega, fun i hi => ?_⟩
  obtain ⟨g, g1, g2, g3⟩ := h5 i hi
  exact ⟨g, by omega, by omega, g3⟩

/-- all picks, in order -/
def allPk (nm ng : Nat) : List Pk := (List.range (nm * ng)).map fun k => ⟨((k / ng : Nat) : Int), ((k % ng : Nat) : Int)⟩
theorem allPk_len (nm ng : Nat) : (allPk nm ng).length = nm * ng := by simp [allPk]
theorem allPk_get {nm ng k : Nat} (h : k < nm * ng) : (allPk nm ng).getD k p0 = ⟨((k / ng : Nat) : Int), ((k % ng : Nat) : Int)⟩ := by simp [allPk, List.getD, h]
def folN (ng a b : Nat) : Bool := decide (a / ng ≤ b / ng) && decide (a % ng ≤ b % ng)

end Go.Proofs
