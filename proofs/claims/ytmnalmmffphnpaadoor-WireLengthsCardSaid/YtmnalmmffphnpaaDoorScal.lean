/- Scalings and picks in memory: what can be read of them; plain tests. -/
import Derived.Test.YtmnalmmffphnpaaDoorInts
import Derived.Test.YtmnalmmffphnpaaDoorWire
open Go.RowKit Go.Deep
namespace Go.Proofs
set_option linter.unusedVariables false
set_option linter.unusedSimpArgs false

/-- a course, a metal, a pick, a scaling -/
structure Crs where
  l : Int
  f : Int
  t : Int
  w : Int
deriving Inhabited
structure Met where
  d : Int
  st : List Int
deriving Inhabited
structure Pk where
  m : Int
  g : Int
deriving Inhabited
structure Scl where
  cs : List Crs
  ms : List Met
  gs : List Int
  sf : Int
  ch : Int

def c0 : Crs := ⟨0, 0, 0, 0⟩
def m0 : Met := ⟨0, []⟩
def p0 : Pk := ⟨0, 0⟩

theorem RdZ.at {w : World} {ad c} {zs : List Int} (h : RdZ w ad c zs) {i : Nat} (hi : i < zs.length) : ∃ b o, ad = some ⟨b, o, none⟩ ∧ ∀ j, j < zs.length → w.cell? ⟨b, o + j, none⟩ = some (.int .i64 (zs.getD j 0)) := by
  obtain ⟨h1, h2, ⟨_, h4⟩ | ⟨x, rfl, hcell⟩⟩ := h
  · omega
  · have h5 := hcell 0 (by omega)
    obtain ⟨b, o, spot⟩ := x
    have h6 : spot = none := by simpa [Addr.add] using World.cell?_spot h5
    subst h6
    exact ⟨b, o, rfl, fun j hj => by rw [← add_off]; exact hcell j hj⟩

/-- courses that can be read -/
def RdC (w : World) (ad : Option Addr) (c : Nat) (L : List Crs) : Prop :=
  L.length ≤ c ∧ c ≤ maxLen ∧ (c = 0 ∨ ∃ b o, ad = some ⟨b, o, none⟩ ∧ ∀ i, i < L.length →
    w.cell? ⟨b, o + i * 4, none⟩ = some (.int .i64 (L.getD i c0).l) ∧ w.cell? ⟨b, o + i * 4 + 1, none⟩ = some (.int .i64 (L.getD i c0).f) ∧
    w.cell? ⟨b, o + i * 4 + 2, none⟩ = some (.int .i64 (L.getD i c0).t) ∧ w.cell? ⟨b, o + i * 4 + 3, none⟩ = some (.int .i64 (L.getD i c0).w))
def InC (w : World) (v : Value) (L : List Crs) : Prop := ∃ ad c, v = .slice ad L.length c ∧ RdC w ad c L
theorem RdC.mono {w w' : World} {ad c L} (h : RdC w ad c L) (hb : Below w.heap.size w w') : RdC w' ad c L := by
  obtain ⟨h1, h2, h3⟩ := h
  refine ⟨h1, h2, ?_⟩
  rcases h3 with h3 | ⟨b, o, rfl, h3⟩
  · exact .inl h3
  · refine .inr ⟨b, o, rfl, fun i hi => ?_⟩
    obtain ⟨a0, a1, a2, a3⟩ := h3 i hi
    exact ⟨(hb.cell (cell_lt a0)).trans a0, (hb.cell (cell_lt a1)).trans a1, (hb.cell (cell_lt a2)).trans a2, (hb.cell (cell_lt a3)).trans a3⟩
theorem InC.mono {w w' : World} {v L} (h : InC w v L) (hb : Below w.heap.size w w') : InC w' v L := by
  obtain ⟨ad, c, rfl, h⟩ := h
  exact ⟨ad, c, rfl, h.mono hb⟩
theorem RdC.at {w : World} {ad c L} (h : RdC w ad c L) {i : Nat} (hi : i < L.length) : ∃ b o, ad = some ⟨b, o, none⟩ ∧
    w.cell? ⟨b, o + i * 4, none⟩ = some (.int .i64 (L.getD i c0).l) ∧ w.cell? ⟨b, o + i * 4 + 1, none⟩ = some (.int .i64 (L.getD i c0).f) ∧
    w.cell? ⟨b, o + i * 4 + 2, none⟩ = some (.int .i64 (L.getD i c0).t) ∧ w.cell? ⟨b, o + i * 4 + 3, none⟩ = some (.int .i64 (L.getD i c0).w) := by
  obtain ⟨h1, h2, h4 | ⟨b, o, rfl, h3⟩⟩ := h
  · omega
  · exact ⟨b, o, rfl, h3 i hi⟩

/-- metals that can be read -/
def RdM (w : World) (ad : Option Addr) (c : Nat) (L : List Met) : Prop :=
  L.length ≤ c ∧ c ≤ maxLen ∧ (c = 0 ∨ ∃ b o, ad = some ⟨b, o, none⟩ ∧ ∀ i, i < L.length →
    w.cell? ⟨b, o + i * 2, none⟩ = some (.int .i64 (L.getD i m0).d) ∧ ∃ v, w.cell? ⟨b, o + i * 2 + 1, none⟩ = some v ∧ InZ w v (L.getD i m0).st)
def InM (w : World) (v : Value) (L : List Met) : Prop := ∃ ad c, v = .slice ad L.length c ∧ RdM w ad c L
theorem RdM.mono {w w' : World} {ad c L} (h : RdM w ad c L) (hb : Below w.heap.size w w') : RdM w' ad c L := by
  obtain ⟨h1, h2, h3⟩ := h
  refine ⟨h1, h2, ?_⟩
  rcases h3 with h3 | ⟨b, o, rfl, h3⟩
  · exact .inl h3
  · refine .inr ⟨b, o, rfl, fun i hi => ?_⟩
    obtain ⟨a0, v, a1, a2⟩ := h3 i hi
    exact ⟨(hb.cell (cell_lt a0)).trans a0, v, (hb.cell (cell_lt a1)).trans a1, a2.mono hb⟩
theorem InM.mono {w w' : World} {v L} (h : InM w v L) (hb : Below w.heap.size w w') : InM w' v L := by
  obtain ⟨ad, c, rfl, h⟩ := h
  exact ⟨ad, c, rfl, h.mono hb⟩
theorem RdM.at {w : World} {ad c L} (h : RdM w ad c L) {i : Nat} (hi : i < L.length) : ∃ b o v, ad = some ⟨b, o, none⟩ ∧
    w.cell? ⟨b, o + i * 2, none⟩ = some (.int .i64 (L.getD i m0).d) ∧ w.cell? ⟨b, o + i * 2 + 1, none⟩ = some v ∧ InZ w v (L.getD i m0).st := by
  obtain ⟨h1, h2, h4 | ⟨b, o, rfl, h3⟩⟩ := h
  · omega
  · obtain ⟨a0, v, a1, a2⟩ := h3 i hi
    exact ⟨b, o, v, rfl, a0, a1, a2⟩

/-- picks that can be read -/
def RdP (w : World) (ad : Option Addr) (c : Nat) (L : List Pk) : Prop :=
  L.length ≤ c ∧ c ≤ maxLen ∧ (c = 0 ∨ ∃ b o, ad = some ⟨b, o, none⟩ ∧ ∀ i, i < L.length →
    w.cell? ⟨b, o + i * 2, none⟩ = some (.int .i64 (L.getD i p0).m) ∧ w.cell? ⟨b, o + i * 2 + 1, none⟩ = some (.int .i64 (L.getD i p0).g))
def InP (w : World) (v : Value) (L : List Pk) : Prop := ∃ ad c, v = .slice ad L.length c ∧ RdP w ad c L
theorem RdP.mono {w w' : World} {ad c L} (h : RdP w ad c L) (hb : Below w.heap.size w w') : RdP w' ad c L := by
  obtain ⟨h1, h2, h3⟩ := h
  refine ⟨h1, h2, ?_⟩
  rcases h3 with h3 | ⟨b, o, rfl, h3⟩
  · exact .inl h3
  · refine .inr ⟨b, o, rfl, fun i hi => ?_⟩
    obtain ⟨a0, a1⟩ := h3 i hi
    exact ⟨(hb.cell (cell_lt a0)).trans a0, (hb.cell (cell_lt a1)).trans a1⟩
theorem InP.mono {w w' : World} {v L} (h : InP w v L) (hb : Below w.heap.size w w') : InP w' v L := by
  obtain ⟨ad, c, rfl, h⟩ := h
  exact ⟨ad, c, rfl, h.mono hb⟩
theorem RdP.at {w : World} {ad c L} (h : RdP w ad c L) {i : Nat} (hi : i < L.length) : ∃ b o, ad = some ⟨b, o, none⟩ ∧
    w.cell? ⟨b, o + i * 2, none⟩ = some (.int .i64 (L.getD i p0).m) ∧ w.cell? ⟨b, o + i * 2 + 1, none⟩ = some (.int .i64 (L.getD i p0).g) := by
  obtain ⟨h1, h2, h4 | ⟨b, o, rfl, h3⟩⟩ := h
  · omega
  · exact ⟨b, o, rfl, h3 i hi⟩

/-- a scaling by value: its five cells -/
def InS (w : World) (cv mv gv : Value) (S : Scl) : Prop := InC w cv S.cs ∧ InM w mv S.ms ∧ InZ w gv S.gs
theorem InS.mono {w w' : World} {cv mv gv S} (h : InS w cv mv gv S) (hb : Below w.heap.size w w') : InS w' cv mv gv S := ⟨h.1.mono hb, h.2.1.mono hb, h.2.2.mono hb⟩

/-- the numbers are ints -/
def zI (z : Int) : Prop := -9223372036854775808 ≤ z ∧ z < 9223372036854775808
structure SclI (S : Scl) : Prop where
  cs : ∀ c ∈ S.cs, zI c.l ∧ zI c.f ∧ zI c.t ∧ zI c.w
  ms : ∀ m ∈ S.ms, zI m.d ∧ ∀ z ∈ m.st, zI z
  gs : ∀ z ∈ S.gs, zI z
  sf : zI S.sf
  ch : zI S.ch

/-- valid courses, metals, gauges -/
def crsOk (c : Crs) : Bool := inR c.l 100000 && inR c.f 10000000 && decide (0 ≤ c.t ∧ c.t ≤ 1000000000) && decide (0 ≤ c.w ∧ c.w ≤ 1000)
def metOk (n : Nat) (m : Met) : Bool := m.st.all (fun z => inR z 100000) && inR m.d 30000 && decide (m.st.length = n)
def gOk (gs : List Int) (i : Nat) : Bool := inR (gs.getD i 0) 2000 && (decide (i = 0) || decide (gs.getD i 0 < gs.getD (i - 1) 0))
def allTo (p : Nat → Bool) : Nat → Bool
  | 0 => true
  | n + 1 => allTo p n && p n
theorem allTo_iff {p : Nat → Bool} : ∀ {n : Nat}, allTo p n = true ↔ ∀ i, i < n → p i = true
  | 0 => by simp [allTo]
  | n + 1 => by
    unfold allTo
    rw [Bool.and_eq_true, allTo_iff]
    constructor
    · rintro ⟨h1, h2⟩ i hi
      by_cases h : i < n
      · exact h1 i h
      · obtain rfl : i = n := by omega
        exact h2
    · exact fun h => ⟨fun i hi => h i (by omega), h n (by omega)⟩
def headOk (S : Scl) : Bool := inR S.cs.length 96 && inR S.ms.length 4 && inR S.gs.length 16 && inR S.sf 100 && decide (0 ≤ S.ch ∧ S.ch ≤ 96)
def sclOk (S : Scl) : Bool :=
  headOk S && allTo (gOk S.gs) S.gs.length && allTo (fun i => metOk S.gs.length (S.ms.getD i m0)) S.ms.length && allTo (fun i => crsOk (S.cs.getD i c0)) S.cs.length

end Go.Proofs
