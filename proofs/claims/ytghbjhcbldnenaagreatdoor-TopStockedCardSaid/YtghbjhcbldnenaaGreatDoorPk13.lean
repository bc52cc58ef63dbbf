/- Rows of picks, courses, metals; the law's picks. The law's short: a scaling whose lists are at most a little longer than they may be. -/
import Derived.Test.YtghbjhcbldnenaaGreatDoorPk07
import Derived.Test.YtghbjhcbldnenaaGreatDoorPk12
import Derived.Deep.RegionLaw
import Derived.Deep.RegionHeld3

section
open Go.RowKit Go.Deep
namespace Go.Proofs
set_option linter.unusedVariables false
set_option linter.unusedSimpArgs false

def pcl (p : Pk) : List Value := [.int .i64 p.m, .int .i64 p.g]
def ccl (c : Crs) : List Value := [.int .i64 c.l, .int .i64 c.f, .int .i64 c.t, .int .i64 c.w]
/-- a metal: its density, and the value of its slice -/
def mcl (m : Int × Value) : List Value := [.int .i64 m.1, m.2]
theorem pcl_len (p : Pk) : (pcl p).length = 2 := rfl
theorem ccl_len (c : Crs) : (ccl c).length = 4 := rfl
theorem mcl_len (m : Int × Value) : (mcl m).length = 2 := rfl
theorem pcl_one (p : Pk) : ∀ u ∈ pcl p, u.oneCell' = true := by
  intro u hu
  simp only [pcl, List.mem_cons, List.not_mem_nil, or_false] at hu
  rcases hu with rfl | rfl <;> rfl
theorem ccl_one (c : Crs) : ∀ u ∈ ccl c, u.oneCell' = true := by
  intro u hu
  simp only [ccl, List.mem_cons, List.not_mem_nil, or_false] at hu
  rcases hu with rfl | rfl | rfl | rfl <;> rfl
theorem RdP.rdv {w : World} {ad c L} (h : RdP w ad c L) : RdV w ad c L.length 2 (flat pcl L) := RdV.of2 pcl_len p0 h.1 h.2.1 h.2.2
theorem RdC.rdv {w : World} {ad c L} (h : RdC w ad c L) : RdV w ad c L.length 4 (flat ccl L) := RdV.of4 ccl_len c0 h.1 h.2.1 h.2.2
theorem RdV.rdp {w : World} {ad c n} {L : List Pk} (h : RdV w ad c n 2 (flat pcl L)) : RdP w ad c L := by
  have hn : n = L.length := by
    have := h.1
    rw [flat_length pcl_len] at this
    omega
  refine ⟨hn ▸ h.2.1, h.2.2.1, ?_⟩
  rcases h.2.2.2 with h4 | ⟨b, o, rfl, h4⟩
  · exact .inl h4
  · refine .inr ⟨b, o, rfl, fun i hi => ⟨?_, ?_⟩⟩
    · have := h4 (i * 2 + 0) (.int .i64 (L.getD i p0).m) (by rw [flat_get pcl_len p0 L i hi 0 (by omega)]; rfl)
      rwa [Nat.add_zero] at this
    · exact h4 (i * 2 + 1) (.int .i64 (L.getD i p0).g) (by rw [flat_get pcl_len p0 L i hi 1 (by omega)]; rfl)
theorem RdV.rdc {w : World} {ad c n} {L : List Crs} (h : RdV w ad c n 4 (flat ccl L)) : RdC w ad c L := by
  have hn : n = L.length := by
    have := h.1
    rw [flat_length ccl_len] at this
    omega
  refine ⟨hn ▸ h.2.1, h.2.2.1, ?_⟩
  rcases h.2.2.2 with h4 | ⟨b, o, rfl, h4⟩
  · exact .inl h4
  · refine .inr ⟨b, o, rfl, fun i hi => ⟨?_, ?_, ?_, ?_⟩⟩
    · have := h4 (i * 4 + 0) (.int .i64 (L.getD i c0).l) (by rw [flat_get ccl_len c0 L i hi 0 (by omega)]; rfl)
      rwa [Nat.add_zero] at this
    · exact h4 (i * 4 + 1) (.int .i64 (L.getD i c0).f) (by rw [flat_get ccl_len c0 L i hi 1 (by omega)]; rfl)
    · exact h4 (i * 4 + 2) (.int .i64 (L.getD i c0).t) (by rw [flat_get ccl_len c0 L i hi 2 (by omega)]; rfl)
    · exact h4 (i * 4 + 3) (.int .i64 (L.getD i c0).w) (by rw [flat_get ccl_len c0 L i hi 3 (by omega)]; rfl)
theorem getD_takeP {α : Type} (L : List α) (m : Nat) {i : Nat} (d : α) (hi : i < (L.take m).length) : (L.take m).getD i d = L.getD i d := by
  rw [List.length_take] at hi
  simp [List.getD, List.getElem?_take, show i < m by omega]
theorem RdP.take {w : World} {ad c L} (h : RdP w ad c L) (m : Nat) : RdP w ad c (L.take m) := by
  have hl : (L.take m).length ≤ L.length := by rw [List.length_take]; omega
  refine ⟨Nat.le_trans hl h.1, h.2.1, ?_⟩
  rcases h.2.2 with h4 | ⟨b, o, rfl, h4⟩
  · exact .inl h4
  · exact .inr ⟨b, o, rfl, fun i hi => by rw [getD_takeP L m p0 hi]; exact h4 i (by omega)⟩
theorem RdC.take {w : World} {ad c L} (h : RdC w ad c L) (m : Nat) : RdC w ad c (L.take m) := by
  have hl : (L.take m).length ≤ L.length := by rw [List.length_take]; omega
  refine ⟨Nat.le_trans hl h.1, h.2.1, ?_⟩
  rcases h.2.2 with h4 | ⟨b, o, rfl, h4⟩
  · exact .inl h4
  · exact .inr ⟨b, o, rfl, fun i hi => by rw [getD_takeP L m c0 hi]; exact h4 i (by omega)⟩
theorem info_pick : (Tryz.prog.info? 73).map (fun i => (i.zero, i.size, i.bytes)) = some (some (.agg #[.int .i64 0, .int .i64 0]), 2, 16) := by kernel_rfl

theorem Vals.rd {w : World} {b : Nat} {vs : List Value} (h : Vals w b vs) (n k : Nat) (hl : vs.length = n * k) (c : Nat) (hn : n ≤ c) (hm : c ≤ maxLen) : RdV w (some ⟨b, 0, none⟩) c n k vs := by
  refine ⟨hl, hn, hm, .inr ⟨b, 0, rfl, fun j u hj => ?_⟩⟩
  have hj2 := (List.getElem?_eq_some_iff.1 hj).1
  have := h.cell hj2
  rw [Nat.zero_add, this]
  simp [List.getD, hj]

/-- picks are returned -/
def RetP (w : World) (P : List Pk) (e : Ending) (w' : World) : Prop := ∃ v, e = .returned v ∧ InP w' v P ∧ Fresh w.heap.size v ∧ Below w.heap.size w w'
theorem RetP.of {w W : World} {P : List Pk} {ad : Option Addr} {n c : Nat} (ho : W.ownsRow w.heap.size 73 2 (.slice ad n c) n (flat pcl P)) (hb : Below w.heap.size w W) : RetP w P (.returned (.slice ad n c)) W := by
  obtain ⟨h1, h2⟩ := ownsRow_rds ho
  have h3 := h1.1
  rw [flat_length pcl_len] at h3
  have h4 : n = P.length := by omega
  subst h4
  exact ⟨_, rfl, ⟨ad, c, rfl, h1.rdp⟩, fresh_of h2, hb⟩
end Go.Proofs
end

section
open Go.RowKit Go.Deep
namespace Go.Proofs
set_option linter.unusedVariables false
set_option linter.unusedSimpArgs false

def shortM (m : Met) : Met := ⟨m.d, m.st.take 17⟩
def shortS (S : Scl) : Scl := ⟨S.cs.take 97, (S.ms.take 5).map shortM, S.gs.take 17, S.sf, S.ch⟩
theorem shortS_I {S : Scl} (h : SclI S) : SclI (shortS S) where
  cs := fun c hc => h.cs c (List.mem_of_mem_take hc)
  ms := fun m hm => by
    obtain ⟨m', h1, rfl⟩ := List.mem_map.1 hm
    have h2 := h.ms m' (List.mem_of_mem_take h1)
    exact ⟨h2.1, fun z hz => h2.2 z (List.mem_of_mem_take hz)⟩
  gs := fun z hz => h.gs z (List.mem_of_mem_take hz)
  sf := h.sf
  ch := h.ch

theorem ownsRow_base {w : World} {B B' e k : Nat} {v : Value} {n : Nat} {cs : List Value} (h : w.ownsRow B e k v n cs) (hB : B' ≤ B) : w.ownsRow B' e k v n cs := by
  obtain ⟨hl, h1⟩ := h
  refine ⟨hl, ?_⟩
  rcases h1 with h1 | ⟨g, cap, cur, rfl, hg, r⟩
  · exact .inl h1
  · exact .inr ⟨g, cap, cur, rfl, Nat.le_trans hB hg, r⟩
theorem Vals.below {w w' : World} {b B : Nat} {vs : List Value} (h : Vals w b vs) (hb : Below B w w') (hB : b < B) : Vals w' b vs := by
  obtain ⟨e, h⟩ := h
  exact ⟨e, (hb.block b hB).trans h⟩
theorem CellZ.grown {w w' : World} {g : Nat} {zs : List Int} {o : Option Nat} (h : CellZ w g zs) (hg : w.grownBy w' o) (ho : o ≠ some g) : CellZ w' g zs := by
  have hl := h.lt
  obtain ⟨vs, ⟨e, h⟩, k⟩ := h
  exact ⟨vs, ⟨e, (hg.block g hl (fun e => ho e.symm)).trans h⟩, k⟩

/-- ints in a block from B on, which is not the one that grows -/
def KeptZ (w : World) (B : Nat) (o : Option Nat) (v : Value) (zs : List Int) : Prop :=
  ∃ g c, v = .slice (some ⟨g, 0, none⟩) zs.length c ∧ B ≤ g ∧ zs.length ≤ c ∧ c ≤ maxLen ∧ CellZ w g zs ∧ o ≠ some g
theorem KeptZ.mono {w w' B o v zs} (h : KeptZ w B o v zs) (hb : Below w.heap.size w w') : KeptZ w' B o v zs := by
  obtain ⟨g, c, h1, h2, h3, h4, h5, h6⟩ := h
  exact ⟨g, c, h1, h2, h3, h4, h5.mono hb, h6⟩
theorem KeptZ.grown {w w' : World} {B : Nat} {o o' : Option Nat} {v zs} (h : KeptZ w B o v zs) (hg : w.grownBy w' o) (ho : o' = o ∨ o' = some w.heap.size) : KeptZ w' B o' v zs := by
  obtain ⟨g, c, h1, h2, h3, h4, h5, h6⟩ := h
  refine ⟨g, c, h1, h2, h3, h4, h5.grown hg h6, ?_⟩
  rcases ho with rfl | rfl
  · exact h6
  · have := h5.lt
    intro e
    simp only [Option.some.injEq] at e
    omega
theorem KeptZ.other {w B o v zs} (h : KeptZ w B o v zs) (p : Addr) (hp : p.block < B) (u : Value) : KeptZ (w.setCell p u) B o v zs := by
  obtain ⟨g, c, h1, h2, h3, h4, h5, h6⟩ := h
  exact ⟨g, c, h1, h2, h3, h4, h5.other p (by omega) u, h6⟩
theorem KeptZ.inz {w B o v zs} (h : KeptZ w B o v zs) : InZ w v zs := by
  obtain ⟨g, c, h1, h2, h3, h4, h5, h6⟩ := h
  exact ⟨_, c, h1, h5.rd h3 h4⟩

/-- metals in a row of the call's own -/
def MetR (w : World) (B : Nat) (v : Value) (n : Nat) (L : List Met) : Prop :=
  ∃ Mv : List (Int × Value), Mv.length = n ∧ L.length = n ∧ w.ownsRow B 97 2 v n (flat mcl Mv) ∧
    ∀ j, j < n → (Mv.getD j (0, undef)).1 = (L.getD j m0).d ∧ KeptZ w B v.ownBlock (Mv.getD j (0, undef)).2 (L.getD j m0).st
theorem MetR.mono {w w' B v n L} (h : MetR w B v n L) (hb : Below w.heap.size w w') : MetR w' B v n L := by
  obtain ⟨Mv, h1, h2, h3, h4⟩ := h
  exact ⟨Mv, h1, h2, ownsRow_mono h3 hb, fun j hj => ⟨(h4 j hj).1, (h4 j hj).2.mono hb⟩⟩
theorem MetR.other {w B v n L} (h : MetR w B v n L) (p : Addr) (hp : p.block < B) (u : Value) : MetR (w.setCell p u) B v n L := by
  obtain ⟨Mv, h1, h2, h3, h4⟩ := h
  refine ⟨Mv, h1, h2, ownsRow_other h3 p (fun e => ?_) u, fun j hj => ⟨(h4 j hj).1, (h4 j hj).2.other p hp u⟩⟩
  have := (ownsRow_block h3 _ e).1
  omega
theorem MetR.inM {w B ad n c L} (h : MetR w B (.slice ad n c) n L) : InM w (.slice ad n c) L := by
  obtain ⟨Mv, h1, h2, h3, h4⟩ := h
  obtain ⟨h5, _⟩ := ownsRow_rds h3
  subst h2
  refine ⟨ad, c, rfl, h5.2.1, h5.2.2.1, ?_⟩
  rcases h5.2.2.2 with h6 | ⟨b, o, rfl, h6⟩
  · exact .inl h6
  · refine .inr ⟨b, o, rfl, fun i hi => ⟨?_, (Mv.getD i (0, undef)).2, ?_, (h4 i hi).2.inz⟩⟩
    · have := h6 (i * 2 + 0) (.int .i64 (Mv.getD i (0, undef)).1) (by rw [flat_get mcl_len (0, undef) Mv i (by omega) 0 (by omega)]; rfl)
      rw [(h4 i hi).1] at this
      rwa [Nat.add_zero] at this
    · exact h6 (i * 2 + 1) (Mv.getD i (0, undef)).2 (by rw [flat_get mcl_len (0, undef) Mv i (by omega) 1 (by omega)]; rfl)
/-- one metal more -/
theorem MetR.push {w w' : World} {B : Nat} {v v' : Value} {n : Nat} {L : List Met} {Mv : List (Int × Value)} {d : Int} {sv : Value} {st : List Int} (h1 : Mv.length = n) (h2 : L.length = n)
    (hown : w'.ownsRow B 97 2 v' (n + 1) (flat mcl Mv ++ [.int .i64 d, sv])) (hg : w.grownBy w' v.ownBlock) (hk : v'.ownBlock = v.ownBlock ∨ v'.ownBlock = some w.heap.size)
    (h4 : ∀ j, j < n → (Mv.getD j (0, undef)).1 = (L.getD j m0).d ∧ KeptZ w B v.ownBlock (Mv.getD j (0, undef)).2 (L.getD j m0).st) (hs : KeptZ w B v.ownBlock sv st) : MetR w' B v' (n + 1) (L ++ [⟨d, st⟩]) := by
  refine ⟨Mv ++ [(d, sv)], by simp [h1], by simp [h2], ?_, fun j hj => ?_⟩
  · rw [flat_append]; exact hown
  · rcases Nat.lt_or_ge j n with h5 | h5
    · have e1 : (Mv ++ [(d, sv)]).getD j (0, undef) = Mv.getD j (0, undef) := by simp [List.getD, List.getElem?_append_left (show j < Mv.length by omega)]
      have e2 : (L ++ [(⟨d, st⟩ : Met)]).getD j m0 = L.getD j m0 := by simp [List.getD, List.getElem?_append_left (show j < L.length by omega)]
      rw [e1, e2]
      exact ⟨(h4 j h5).1, (h4 j h5).2.grown hg hk⟩
    · obtain rfl : j = n := by omega
      have e1 : (Mv ++ [(d, sv)]).getD j (0, undef) = (d, sv) := by simp [List.getD, ← h1]
      have e2 : (L ++ [(⟨d, st⟩ : Met)]).getD j m0 = ⟨d, st⟩ := by simp [List.getD, ← h2]
      rw [e1, e2]
      exact ⟨rfl, hs.grown hg hk⟩
theorem metR_made (w : World) (B : Nat) (hB : B ≤ w.heap.size) : MetR (w.alloc (.cells #[] 97)) B (.slice (some ⟨w.heap.size, 0, none⟩) 0 0) 0 [] :=
  ⟨[], rfl, rfl, ownsRow_base (ownsRow_made w 97 2) hB, fun j hj => by omega⟩
theorem info_met : (Tryz.prog.info? 97).map (fun i => (i.zero, i.size, i.bytes)) = some (some (.agg #[.int .i64 0, .slice none 0 0]), 2, 32) := by kernel_rfl
theorem info_crs : (Tryz.prog.info? 78).map (fun i => (i.zero, i.size, i.bytes)) = some (some (.agg #[.int .i64 0, .int .i64 0, .int .i64 0, .int .i64 0]), 4, 32) := by kernel_rfl
theorem set5_0 {w : World} {b : Nat} {v0 v1 v2 v3 v4 : Value} (h : Vals w b [v0, v1, v2, v3, v4]) (x : Value) : Vals (w.setCell ⟨b, 0, none⟩ x) b [x, v1, v2, v3, v4] := h.set 0 x
theorem set5_1 {w : World} {b : Nat} {v0 v1 v2 v3 v4 : Value} (h : Vals w b [v0, v1, v2, v3, v4]) (x : Value) : Vals (w.setCell ⟨b, 1, none⟩ x) b [v0, x, v2, v3, v4] := h.set 1 x
theorem set5_2 {w : World} {b : Nat} {v0 v1 v2 v3 v4 : Value} (h : Vals w b [v0, v1, v2, v3, v4]) (x : Value) : Vals (w.setCell ⟨b, 2, none⟩ x) b [v0, v1, x, v3, v4] := h.set 2 x
theorem mcells {w : World} {b1 bm om i : Nat} {x0 x1 x2 x3 x4 m0 m1 : Value} (vs : Vals w b1 [x0, x1, x2, x3, x4]) (cm : w.cell? ⟨bm, om + i * 2, none⟩ = some m0) (cn : w.cell? ⟨bm, om + i * 2 + 1, none⟩ = some m1) :
    w.cell? ⟨b1, 1, none⟩ = some x1 ∧ w.cell? ⟨bm, om + i * 2, none⟩ = some m0 ∧ w.cell? ⟨bm, om + i * 2 + 1, none⟩ = some m1 := by
  have s1 := vs.cell (i := 1) (by simp)
  exact ⟨s1, cm, cn⟩

def RetZn (w : World) (n : Nat) (zs : List Int) (e : Ending) (w' : World) : Prop := ∃ g c, e = .returned (.slice (some ⟨g, 0, none⟩) n c) ∧ zs.length = n ∧ w.heap.size ≤ g ∧ n ≤ c ∧ c ≤ maxLen ∧ CellZ w' g zs ∧ Below w.heap.size w w'
theorem RetZ.n {w w' : World} {zs : List Int} {e : Ending} {n : Nat} (hn : zs.length = n) (h : RetZ w zs e w') : RetZn w n zs e w' := by
  subst hn
  obtain ⟨g, c, h1, h2, h3, h4, h5, h6⟩ := h
  exact ⟨g, c, h1, rfl, h2, h3, h4, h5, h6⟩
theorem short_fin {w W : World} {x0 x1 x2 x3 x4 : Value} {Z : List Value} {ad4 : Option Addr} {n4 c4 : Nat} {cs : List Value} {mv : Value} {n : Nat} {L : List Met} {v5 : Value} {zs : List Int}
    (vs : Vals W w.heap.size [x0, x1, x2, x3, x4]) (vr : Vals W (w.heap.size + 1) Z) (ho : W.ownsRow (w.heap.size + 2) 78 4 (.slice ad4 n4 c4) n4 cs) (mr : MetR W (w.heap.size + 2) mv n L)
    (hz : KeptZ W (w.heap.size + 2) none v5 zs) (B : Below w.heap.size w W) : ∀ W', W' = ((W.setCell ⟨w.heap.size, 0, none⟩ (.slice ad4 n4 c4)).setCell ⟨w.heap.size, 1, none⟩ mv).setCell ⟨w.heap.size, 2, none⟩ v5 →
    Vals W' w.heap.size [.slice ad4 n4 c4, mv, v5, x3, x4] ∧ Vals W' (w.heap.size + 1) Z ∧ W'.ownsRow (w.heap.size + 2) 78 4 (.slice ad4 n4 c4) n4 cs ∧ MetR W' (w.heap.size + 2) mv n L ∧ KeptZ W' (w.heap.size + 2) none v5 zs ∧ Below w.heap.size w W' := by
  rintro W' rfl
  have hne : (Value.slice ad4 n4 c4).ownBlock ≠ some w.heap.size := fun e => by
    have := (ownsRow_block ho _ e).1
    omega
  have hlt : w.heap.size < w.heap.size + 2 := by omega
  exact ⟨set5_2 (set5_1 (set5_0 vs _) _) _, ((vr.other ⟨w.heap.size, 0, none⟩ (by simp) _).other ⟨w.heap.size, 1, none⟩ (by simp) _).other ⟨w.heap.size, 2, none⟩ (by simp) _,
    ownsRow_other (ownsRow_other (ownsRow_other ho ⟨w.heap.size, 0, none⟩ hne _) ⟨w.heap.size, 1, none⟩ hne _) ⟨w.heap.size, 2, none⟩ hne _,
    ((mr.other ⟨w.heap.size, 0, none⟩ hlt _).other ⟨w.heap.size, 1, none⟩ hlt _).other ⟨w.heap.size, 2, none⟩ hlt _,
    ((hz.other ⟨w.heap.size, 0, none⟩ hlt _).other ⟨w.heap.size, 1, none⟩ hlt _).other ⟨w.heap.size, 2, none⟩ hlt _,
    ((B.setCell (p := ⟨w.heap.size, 0, none⟩) (Nat.le_refl _) _).setCell (p := ⟨w.heap.size, 1, none⟩) (Nat.le_refl _) _).setCell (p := ⟨w.heap.size, 2, none⟩) (Nat.le_refl _) _⟩
theorem set5_all {w : World} {b : Nat} {v0 v1 v2 v3 v4 : Value} (h : Vals w b [v0, v1, v2, v3, v4]) (x y z s t : Value) :
    Vals (((((w.setCell ⟨b, 0, none⟩ x).setCell ⟨b, 1, none⟩ y).setCell ⟨b, 2, none⟩ z).setCell ⟨b, 3, none⟩ s).setCell ⟨b, 4, none⟩ t) b [x, y, z, s, t] := ((((h.set 0 x).set 1 y).set 2 z).set 3 s).set 4 t
/-- a scaling is returned -/
def RetS (w : World) (S : Scl) (e : Ending) (w' : World) : Prop := ∃ cv mv gv, e = .returned (.agg #[cv, mv, gv, .int .i64 S.sf, .int .i64 S.ch]) ∧ InS w' cv mv gv S ∧ Below w.heap.size w w'
theorem short_ret {w W : World} {S : Scl} {ad4 : Option Addr} {n4 c4 : Nat} {ad : Option Addr} {n c : Nat} {v5 : Value} (ho : W.ownsRow (w.heap.size + 2) 78 4 (.slice ad4 n4 c4) n4 (flat ccl (S.cs.take 97)))
    (mr : MetR W (w.heap.size + 2) (.slice ad n c) n ((S.ms.take 5).map shortM)) (hz : KeptZ W (w.heap.size + 2) none v5 (S.gs.take 17)) (B : Below w.heap.size w W) :
    ∀ W', W' = (((((W.setCell ⟨w.heap.size + 1, 0, none⟩ (.slice ad4 n4 c4)).setCell ⟨w.heap.size + 1, 1, none⟩ (.slice ad n c)).setCell ⟨w.heap.size + 1, 2, none⟩ v5).setCell ⟨w.heap.size + 1, 3, none⟩ (.int .i64 S.sf)).setCell ⟨w.heap.size + 1, 4, none⟩ (.int .i64 S.ch)) →
    RetS w (shortS S) (.returned (.agg #[.slice ad4 n4 c4, .slice ad n c, v5, .int .i64 S.sf, .int .i64 S.ch])) W' := by
  rintro W' rfl
  have hne : (Value.slice ad4 n4 c4).ownBlock ≠ some (w.heap.size + 1) := fun e => by
    have := (ownsRow_block ho _ e).1
    omega
  have hlt : w.heap.size + 1 < w.heap.size + 2 := by omega
  have hle : w.heap.size ≤ w.heap.size + 1 := by omega
  refine ⟨_, _, _, rfl, ⟨?_, ?_, ?_⟩, ((((B.setCell (p := ⟨w.heap.size + 1, 0, none⟩) hle _).setCell (p := ⟨w.heap.size + 1, 1, none⟩) hle _).setCell (p := ⟨w.heap.size + 1, 2, none⟩) hle _).setCell (p := ⟨w.heap.size + 1, 3, none⟩) hle _).setCell (p := ⟨w.heap.size + 1, 4, none⟩) hle _⟩
  · have h := (ownsRow_rds (ownsRow_other (ownsRow_other (ownsRow_other (ownsRow_other (ownsRow_other ho ⟨w.heap.size + 1, 0, none⟩ hne (.slice ad4 n4 c4)) ⟨w.heap.size + 1, 1, none⟩ hne (.slice ad n c)) ⟨w.heap.size + 1, 2, none⟩ hne v5) ⟨w.heap.size + 1, 3, none⟩ hne (.int .i64 S.sf)) ⟨w.heap.size + 1, 4, none⟩ hne (.int .i64 S.ch))).1
    have h2 := h.1
    rw [flat_length ccl_len] at h2
    have h3 : n4 = (S.cs.take 97).length := by omega
    subst h3
    exact ⟨ad4, c4, rfl, h.rdc⟩
  · exact (((((mr.other ⟨w.heap.size + 1, 0, none⟩ hlt _).other ⟨w.heap.size + 1, 1, none⟩ hlt _).other ⟨w.heap.size + 1, 2, none⟩ hlt _).other ⟨w.heap.size + 1, 3, none⟩ hlt _).other ⟨w.heap.size + 1, 4, none⟩ hlt _).inM
  · exact (((((hz.other ⟨w.heap.size + 1, 0, none⟩ hlt _).other ⟨w.heap.size + 1, 1, none⟩ hlt _).other ⟨w.heap.size + 1, 2, none⟩ hlt _).other ⟨w.heap.size + 1, 3, none⟩ hlt _).other ⟨w.heap.size + 1, 4, none⟩ hlt _).inz

end Go.Proofs
end

