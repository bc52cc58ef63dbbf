/- wire: search.fill. -/
import Derived.Test.YtmnalmmffphnpaaDoorBestOn
open Go.RowKit Go.Deep
namespace Go.Proofs
set_option linter.unusedVariables false
set_option linter.unusedSimpArgs false

theorem info_i1 : (Tryd.prog.info? 24).map (fun i => (i.zero, i.size, i.bytes)) = some (some (.slice none 0 0), 1, 24) := by kernel_rfl
theorem info_i2 : (Tryd.prog.info? 49).map (fun i => (i.zero, i.size, i.bytes)) = some (some (.slice none 0 0), 1, 24) := by kernel_rfl
theorem run_make_vals {P : Program} (t e : TypeId) (z : Value) (bytes : Nat) (ht : P.underlying t = some (.slice e)) (h2 : (P.info? e).map (fun i => (i.zero, i.size, i.bytes)) = some (some z, 1, bytes)) (hz1 : z.cells = #[z]) (n : Nat) (hn : n * bytes ≤ 281474976710656) (hn' : n ≤ 1099511627776) :
    ∀ w : World, (Instr.makeSlice t (.int .i64 (n : Int)) (.int .i64 (n : Int))).run P w = .ok (.slice (some ⟨w.heap.size, 0, none⟩) n n) (w.alloc (.cells (Array.replicate n z) e)) := by
  intro w
  obtain ⟨i, hi, z0, z1, z2⟩ := info_parts h2
  obtain ⟨X, hX⟩ : ∃ X, n * bytes = X := ⟨_, rfl⟩
  have hr := run_make (P := P) w t e i _ ht hi z0 .i64 .i64 n n (by omega) (Int.le_refl _) (by rw [z2, ← Int.natCast_mul, Nat.mul_comm, hX]; omega) (by omega)
  rw [hz1, z1, Nat.mul_one] at hr
  simp only [Int.toNat_natCast] at hr
  rw [made_vals, List.toArray_replicate] at hr
  exact hr
theorem Vals.newA (w : World) (b : Nat) (v : Value) (n : Nat) (e : TypeId) (hb : b = w.heap.size) : Vals (w.alloc (.cells (Array.replicate n v) e)) b (List.replicate n v) := Vals.new w b _ _ e hb (by rw [List.toArray_replicate])

/-- picks whose first k rows are done -/
def KRow (w : World) (lo hi b k K L : Nat) (F : Nat → Nat → Int) (Vs : List Value) : Prop :=
  Vals w b Vs ∧ Vs.length = K ∧ ∀ j, j < k → ∃ h, lo ≤ h ∧ h < hi ∧ Vs.getD j undef = .slice (some ⟨h, 0, none⟩) L L ∧ ∀ l, l < L → w.cell? ⟨h, l, none⟩ = some (.int .i64 (F j l))
theorem KRow.same {w w' : World} {lo hi b k K L : Nat} {F : Nat → Nat → Int} {Vs : List Value} (h : KRow w lo hi b k K L F Vs) (hs : Same b hi w w') (hb : b < lo) (hh : lo ≤ hi) : KRow w' lo hi b k K L F Vs := by
  obtain ⟨h1, h2, h3⟩ := h
  refine ⟨h1.same hs (Nat.le_refl _) (by omega), h2, fun j hj => ?_⟩
  obtain ⟨g, g1, g2, g3, g4⟩ := h3 j hj
  exact ⟨g, g1, g2, g3, fun l hl => hs.cell (g4 l hl) (by dsimp only; omega) g2⟩
theorem KRow.weak {w : World} {lo hi hi' b k K L : Nat} {F : Nat → Nat → Int} {Vs : List Value} (h : KRow w lo hi b k K L F Vs) (hh : hi ≤ hi') : KRow w lo hi' b k K L F Vs := by
  obtain ⟨h1, h2, h3⟩ := h
  refine ⟨h1, h2, fun j hj => ?_⟩
  obtain ⟨g, g1, g2, g3⟩ := h3 j hj
  exact ⟨g, g1, by omega, g3⟩
/-- one row more is laid -/
theorem KRow.set {w w' : World} {lo hi b k K L : Nat} {F : Nat → Nat → Int} {Vs : List Value} (h : KRow w lo hi b k K L F Vs) (hw : Vals w' b (Vs.set k (.slice (some ⟨hi, 0, none⟩) L L))) (hs : Same lo hi w w') (hk : k < K) : KRow w' lo hi b k K L F (Vs.set k (.slice (some ⟨hi, 0, none⟩) L L)) := by
  obtain ⟨h1, h2, h3⟩ := h
  refine ⟨hw, by rw [List.length_set]; exact h2, fun j hj => ?_⟩
  obtain ⟨g, g1, g2, g3, g4⟩ := h3 j hj
  refine ⟨g, g1, g2, ?_, fun l hl => hs.cell (g4 l hl) g1 g2⟩
  rw [← g3]
  simp [List.getD, List.getElem?_set, show k ≠ j by omega]
theorem KRow.push {w : World} {lo hi hi' b k K L : Nat} {F : Nat → Nat → Int} {Vs : List Value} (h : KRow w lo hi b k K L F Vs) (hg : Vs.getD k undef = .slice (some ⟨hi, 0, none⟩) L L) (hlo : lo ≤ hi) (hh : hi < hi') (hc : ∀ l, l < L → w.cell? ⟨hi, l, none⟩ = some (.int .i64 (F k l))) : KRow w lo hi' b (k + 1) K L F Vs := by
  obtain ⟨h1, h2, h3⟩ := h
  refine ⟨h1, h2, fun j hj => ?_⟩
  by_cases e : j < k
  · obtain ⟨g, g1, g2, g3⟩ := h3 j e
    exact ⟨g, g1, by omega, g3⟩
  · obtain rfl : j = k := by omega
    exact ⟨hi, hlo, hh, hg, hc⟩
theorem KRow.row {w : World} {lo hi lo' b K L : Nat} {F : Nat → Nat → Int} {Vs : List Value} (h : KRow w lo hi b K K L F Vs) (hlo : lo' ≤ b) (hb : b < lo) (hh : lo ≤ hi) : RowIn w lo' hi (.slice (some ⟨b, 0, none⟩) K K) K L F := by
  obtain ⟨h1, h2, h3⟩ := h
  refine ⟨b, rfl, hlo, by omega, fun k hk => ?_⟩
  obtain ⟨g, g1, g2, g3, g4⟩ := h3 k hk
  refine ⟨g, by omega, g2, ?_, g4⟩
  rw [h1.cell (by omega), g3]
/-- the rows of the courses from i on -/
def RestP (w : World) (lo hi br i n K L : Nat) (R : Nat → Nat → Nat → Int) (RV : List Value) : Prop :=
  Vals w br RV ∧ RV.length = n ∧ ∀ j, i ≤ j → j < n → RowIn w lo hi (RV.getD j undef) K L (R j)
theorem RestP.same {w w' : World} {lo hi br i n K L : Nat} {R : Nat → Nat → Nat → Int} {RV : List Value} (h : RestP w lo hi br i n K L R RV) (hs : Same br hi w w') (hb : br < lo) (hh : lo ≤ hi) : RestP w' lo hi br i n K L R RV := by
  obtain ⟨h1, h2, h3⟩ := h
  exact ⟨h1.same hs (Nat.le_refl _) (by omega), h2, fun j h4 h5 => (h3 j h4 h5).same (hs.weak (by omega) (Nat.le_refl _))⟩
theorem RestP.set {w w' : World} {lo hi br i n K L : Nat} {R : Nat → Nat → Nat → Int} {RV : List Value} (h : RestP w lo hi br (i + 1) n K L R RV) (u : Value) (hw : Vals w' br (RV.set i u)) (hs : Same lo hi w w') : RestP w' lo hi br (i + 1) n K L R (RV.set i u) := by
  obtain ⟨h1, h2, h3⟩ := h
  refine ⟨hw, by rw [List.length_set]; exact h2, fun j h4 h5 => ?_⟩
  have e : (RV.set i u).getD j undef = RV.getD j undef := by simp [List.getD, List.getElem?_set, show i ≠ j by omega]
  rw [e]
  exact (h3 j h4 h5).same hs
theorem RestP.push {w : World} {lo hi hi' br i n K L : Nat} {R : Nat → Nat → Nat → Int} {RV : List Value} (h : RestP w lo hi br (i + 1) n K L R RV) (hr : RowIn w lo hi' (RV.getD i undef) K L (R i)) (hh : hi ≤ hi') : RestP w lo hi' br i n K L R RV := by
  obtain ⟨h1, h2, h3⟩ := h
  refine ⟨h1, h2, fun j h4 h5 => ?_⟩
  by_cases e : i + 1 ≤ j
  · exact (h3 j e h5).weak (Nat.le_refl _) hh
  · obtain rfl : j = i := by omega
    exact hr
theorem Only.same {r : Nat} {w w' : World} (h : Only r w w') (lo hi : Nat) (h1 : r < lo) (h2 : hi ≤ w.heap.size) : Same lo hi w w' := fun k k1 k2 => h.block k (by omega) (by omega)
theorem Only.alloc {r : Nat} {w w' : World} (h : Only r w w') (o : Obj) : Only r w (w'.alloc o) := h.trans (below_toOnly (below_alloc w' o) r)
theorem Only.far {r : Nat} {w w' : World} (h : Only r w w') (p : Addr) (hp : w.heap.size ≤ p.block) (u : Value) : Only r w (w'.setCell p u) := by
  refine ⟨h.os, h.tape, h.output, ?_, fun k hk hr => ?_⟩
  · show _ ≤ (w'.heap.modify p.block _).size
    simpa using h.size
  · rw [Below.heap_setCell _ _ _ _ (show k ≠ p.block by omega)]
    exact h.block k hk hr
theorem cellZ_made (w : World) (n : Nat) (e : TypeId) : CellZ (w.alloc (.cells (Array.replicate n (Value.int .i64 0)) e)) w.heap.size (List.replicate n 0) := cellZ_new w _ _ _ (by simp [zints])
theorem set8_7 {w : World} {b : Nat} {v0 v1 v2 v3 v4 v5 v6 v7 : Value} (h : Vals w b [v0, v1, v2, v3, v4, v5, v6, v7]) (x : Value) : Vals (w.setCell ⟨b, 7, none⟩ x) b [v0, v1, v2, v3, v4, v5, v6, x] := h.set 7 x
theorem xcells {w : World} {bx : Nat} {v0 v1 v2 v3 v4 v5 v6 v7 : Value} (vx : Vals w bx [v0, v1, v2, v3, v4, v5, v6, v7]) : w.cell? ⟨bx, 0, none⟩ = some v0 ∧ w.cell? ⟨bx, 4, none⟩ = some v4 ∧ w.cell? ⟨bx, 5, none⟩ = some v5 ∧ w.cell? ⟨bx, 6, none⟩ = some v6 ∧ w.cell? ⟨bx, 7, none⟩ = some v7 := by
  have s0 := vx.cell (i := 0) (by simp)
  have s4 := vx.cell (i := 4) (by simp)
  have s5 := vx.cell (i := 5) (by simp)
  have s6 := vx.cell (i := 6) (by simp)
  have s7 := vx.cell (i := 7) (by simp)
  exact ⟨s0, s4, s5, s6, s7⟩

theorem size_set (w : World) (p : Addr) (u : Value) : (w.setCell p u).heap.size = w.heap.size := by simp [World.setCell]
/-- the state of the innermost loop -/
def FInv (w wr : World) (bx bi h i k l n K L : Nat) (VS : List Value) (R : Nat → Nat → Nat → Int) (RV Vs : List Value) : Prop :=
  Only bx w wr ∧ Vals wr bx VS ∧ RestP wr (w.heap.size + 1) bi w.heap.size (i + 1) n K L R RV ∧ KRow wr (bi + 1) h bi k K L (R i) Vs ∧ bx < w.heap.size ∧ w.heap.size < bi ∧ bi < h ∧ h < wr.heap.size ∧
    ∃ zs, CellZ wr h zs ∧ zs.length = L ∧ ∀ m, m < l → zs.getD m 0 = R i k m
theorem FInv.mono {w wr wx : World} {bx bi h i k l n K L : Nat} {VS : List Value} {R : Nat → Nat → Nat → Int} {RV Vs : List Value} (f : FInv w wr bx bi h i k l n K L VS R RV Vs) (hb : Below wr.heap.size wr wx) : FInv w wx bx bi h i k l n K L VS R RV Vs := by
  obtain ⟨h1, h2, h3, h4, h5, h6, h7, h8, zs, h9, h10, h11⟩ := f
  exact ⟨h1.trans (below_toOnly hb bx), h2.mono hb, h3.same (Same.of_below hb (by omega)) (by omega) (by omega), h4.same (Same.of_below hb (by omega)) (by omega) (by omega), h5, h6, h7, Nat.lt_of_lt_of_le h8 hb.size, zs, h9.mono hb, h10, h11⟩
theorem FInv.store {w wr : World} {bx bi h i k l n K L : Nat} {VS : List Value} {R : Nat → Nat → Nat → Int} {RV Vs : List Value} (f : FInv w wr bx bi h i k l n K L VS R RV Vs) (hl : l < L) (v : Int) (hv : v = R i k l) : FInv w (wr.setCell ⟨h, l, none⟩ (.int .i64 v)) bx bi h i k (l + 1) n K L VS R RV Vs := by
  obtain ⟨h1, h2, h3, h4, h5, h6, h7, h8, zs, h9, h10, h11⟩ := f
  refine ⟨h1.far _ (by dsimp only; omega) _, h2.other _ (by dsimp only; omega) _, h3.same ((Same.refl _ _ wr).setCell _ (by dsimp only; omega) _) (by omega) (by omega), h4.same ((Same.refl _ _ wr).setCell _ (by dsimp only; omega) _) (by omega) (by omega), h5, h6, h7, by rw [size_set]; exact h8, zs.set l v, h9.set l v, by rw [List.length_set]; exact h10, fun m hm => ?_⟩
  by_cases e : l = m
  · subst e
    rw [← hv]
    simp [List.getD, h10, hl]
  · rw [← h11 m (by omega)]
    simp [List.getD, List.getElem?_set, e]
theorem FInv.facts {w wr : World} {bx bi h i k l n K L : Nat} {v0 v1 v2 v3 v4 v5 v6 v7 : Value} {R : Nat → Nat → Nat → Int} {RV Vs : List Value} (f : FInv w wr bx bi h i k l n K L [v0, v1, v2, v3, v4, v5, v6, v7] R RV Vs) (hi : i < n) (hk : k < K) (hl : l < L)
    (hg : RV.getD i undef = .slice (some ⟨bi, 0, none⟩) K K) (hg2 : Vs.getD k undef = .slice (some ⟨h, 0, none⟩) L L) :
    wr.cell? ⟨bx, 5, none⟩ = some v5 ∧ wr.cell? ⟨bx, 6, none⟩ = some v6 ∧ wr.cell? ⟨bx, 7, none⟩ = some v7 ∧ wr.cell? ⟨w.heap.size, i, none⟩ = some (.slice (some ⟨bi, 0, none⟩) K K) ∧ wr.cell? ⟨bi, k, none⟩ = some (.slice (some ⟨h, 0, none⟩) L L) ∧
    (∃ z : Int, wr.cell? ⟨h, l, none⟩ = some (.int .i64 z)) ∧ wr.frozen? ⟨h, l, none⟩ = false ∧ Same (bx + 1) w.heap.size w wr := by
  obtain ⟨h1, h2, h3, h4, h5, h6, h7, h8, zs, h9, h10, h11⟩ := f
  obtain ⟨c0, c4, c5, c6, c7⟩ := xcells h2
  refine ⟨c5, c6, c7, ?_, ?_, ⟨_, h9.cell (by rw [h10]; exact hl)⟩, h9.frozen l, h1.same _ _ (Nat.lt_succ_self _) (Nat.le_refl _)⟩
  · rw [h3.1.cell (by rw [h3.2.1]; exact hi), hg]
  · rw [h4.1.cell (by rw [h4.2.1]; exact hk), hg2]
theorem FInv.row {w wr : World} {bx bi h i k l n K L : Nat} {VS : List Value} {R : Nat → Nat → Nat → Int} {RV Vs : List Value} (f : FInv w wr bx bi h i k l n K L VS R RV Vs) (hi : i + 1 < n) :
    ∃ b, wr.cell? ⟨w.heap.size, i + 1, none⟩ = some (.slice (some ⟨b, 0, none⟩) K K) ∧ ∀ k, k < K → ∃ h, wr.cell? ⟨b, k, none⟩ = some (.slice (some ⟨h, 0, none⟩) L L) ∧ ∀ l, l < L → wr.cell? ⟨h, l, none⟩ = some (.int .i64 (R (i + 1) k l)) := by
  obtain ⟨h1, h2, h3, h4, h5⟩ := f
  obtain ⟨b, e, _, _, hr⟩ := h3.2.2 (i + 1) (Nat.le_refl _) hi
  refine ⟨b, by rw [h3.1.cell (by rw [h3.2.1]; exact hi), e], fun k hk => ?_⟩
  obtain ⟨g, _, _, g1, g2⟩ := hr k hk
  exact ⟨g, g1, g2⟩
/-- the row is done -/
theorem FInv.done {w wr : World} {bx bi h i k l n K L : Nat} {VS : List Value} {R : Nat → Nat → Nat → Int} {RV Vs : List Value} (f : FInv w wr bx bi h i k l n K L VS R RV Vs) (hl : l = L) (hg : Vs.getD k undef = .slice (some ⟨h, 0, none⟩) L L) : KRow wr (bi + 1) wr.heap.size bi (k + 1) K L (R i) Vs := by
  obtain ⟨h1, h2, h3, h4, h5, h6, h7, h8, zs, h9, h10, h11⟩ := f
  subst hl
  refine h4.push hg (by omega) h8 (fun m hm => ?_)
  rw [h9.cell (by omega), h11 m hm]

/-- what fill leaves -/
def Filled (w : World) (bx n K L : Nat) (VS : List Value) (R : Nat → Nat → Nat → Int) (e : Ending) (w' : World) : Prop :=
  e = .returned (.tuple #[]) ∧ ∃ br RV, w.heap.size ≤ br ∧ br < w'.heap.size ∧ Vals w' bx (VS ++ [.slice (some ⟨br, 0, none⟩) n n]) ∧ RestP w' (br + 1) w'.heap.size br 0 n K L R RV ∧ Only bx w w'

end Go.Proofs
