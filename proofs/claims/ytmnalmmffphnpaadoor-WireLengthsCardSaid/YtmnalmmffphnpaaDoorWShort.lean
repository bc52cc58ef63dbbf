/- The law's short: a scaling whose lists are at most a little longer than they may be. -/
import Derived.Test.YtmnalmmffphnpaaDoorWPicks
import Derived.Deep.RegionLaw
import Derived.Deep.RegionHeld3
open Go.RowKit Go.Deep
namespace Go.Proofs
set_option linter.unusedVariables false
set_option linter.unusedSimpArgs false

def shortM (m : Met) : Met := ⟨m.d, m.st.take 17⟩
def shortS (S : Scl) : Scl := ⟨S.cs.take 97, (S.ms.take 5).map shortM, S.gs.take 17, S.sf, S.ch⟩
theorem shortS_I {S : Scl} (h : SclI S) : SclI (shortS S) where
  cs := fun c hc => h.cs c (List.mem_of_mem_take hc)
  ms := fun m hm => by
    obtain ⟨m', h1, rfl⟩ := List.mem_map.1 hm
    have h2 := h.ms m' (List.mem_of_mem_take h1)
    exact ⟨h2.1, fun z hz => h2.2 z (List.mem_of_mem_take hz)⟩
  gs := fun z hz => h.gs z (List.mem_of_mem_take hz)
  sf := h.sf
  ch := h.ch

theorem ownsRow_base {w : World} {B B' e k : Nat} {v : Value} {n : Nat} {cs : List Value} (h : w.ownsRow B e k v n cs) (hB : B' ≤ B) : w.ownsRow B' e k v n cs := by
  obtain ⟨hl, h1⟩ := h
  refine ⟨hl, ?_⟩
  rcases h1 with h1 | ⟨g, cap, cur, rfl, hg, r⟩
  · exact .inl h1
  · exact .inr ⟨g, cap, cur, rfl, Nat.le_trans hB hg, r⟩
theorem Vals.below {w w' : World} {b B : Nat} {vs : List Value} (h : Vals w b vs) (hb : Below B w w') (hB : b < B) : Vals w' b vs := by
  obtain ⟨e, h⟩ := h
  exact ⟨e, (hb.block b hB).trans h⟩
theorem CellZ.grown {w w' : World} {g : Nat} {zs : List Int} {o : Option Nat} (h : CellZ w g zs) (hg : w.grownBy w' o) (ho : o ≠ some g) : CellZ w' g zs := by
  have hl := h.lt
  obtain ⟨vs, ⟨e, h⟩, k⟩ := h
  exact ⟨vs, ⟨e, (hg.block g hl (fun e => ho e.symm)).trans h⟩, k⟩

/-- ints in a block from B on, which is not the one that grows -/
def KeptZ (w : World) (B : Nat) (o : Option Nat) (v : Value) (zs : List Int) : Prop :=
  ∃ g c, v = .slice (some ⟨g, 0, none⟩) zs.length c ∧ B ≤ g ∧ zs.length ≤ c ∧ c ≤ maxLen ∧ CellZ w g zs ∧ o ≠ some g
theorem KeptZ.mono {w w' B o v zs} (h : KeptZ w B o v zs) (hb : Below w.heap.size w w') : KeptZ w' B o v zs := by
  obtain ⟨g, c, h1, h2, h3, h4, h5, h6⟩ := h
  exact ⟨g, c, h1, h2, h3, h4, h5.mono hb, h6⟩
theorem KeptZ.grown {w w' : World} {B : Nat} {o o' : Option Nat} {v zs} (h : KeptZ w B o v zs) (hg : w.grownBy w' o) (ho : o' = o ∨ o' = some w.heap.size) : KeptZ w' B o' v zs := by
  obtain ⟨g, c, h1, h2, h3, h4, h5, h6⟩ := h
  refine ⟨g, c, h1, h2, h3, h4, h5.grown hg h6, ?_⟩
  rcases ho with rfl | rfl
  · exact h6
  · have := h5.lt
    intro e
    simp only [Option.some.injEq] at e
    omega
theorem KeptZ.other {w B o v zs} (h : KeptZ w B o v zs) (p : Addr) (hp : p.block < B) (u : Value) : KeptZ (w.setCell p u) B o v zs := by
  obtain ⟨g, c, h1, h2, h3, h4, h5, h6⟩ := h
  exact ⟨g, c, h1, h2, h3, h4, h5.other p (by omega) u, h6⟩
theorem KeptZ.inz {w B o v zs} (h : KeptZ w B o v zs) : InZ w v zs := by
  obtain ⟨g, c, h1, h2, h3, h4, h5, h6⟩ := h
  exact ⟨_, c, h1, h5.rd h3 h4⟩

/-- metals in a row of the call's own -/
def MetR (w : World) (B : Nat) (v : Value) (n : Nat) (L : List Met) : Prop :=
  ∃ Mv : List (Int × Value), Mv.length = n ∧ L.length = n ∧ w.ownsRow B 46 2 v n (flat mcl Mv) ∧
    ∀ j, j < n → (Mv.getD j (0, undef)).1 = (L.getD j m0).d ∧ KeptZ w B v.ownBlock (Mv.getD j (0, undef)).2 (L.getD j m0).st
theorem MetR.mono {w w' B v n L} (h : MetR w B v n L) (hb : Below w.heap.size w w') : MetR w' B v n L := by
  obtain ⟨Mv, h1, h2, h3, h4⟩ := h
  exact ⟨Mv, h1, h2, ownsRow_mono h3 hb, fun j hj => ⟨(h4 j hj).1, (h4 j hj).2.mono hb⟩⟩
theorem MetR.other {w B v n L} (h : MetR w B v n L) (p : Addr) (hp : p.block < B) (u : Value) : MetR (w.setCell p u) B v n L := by
  obtain ⟨Mv, h1, h2, h3, h4⟩ := h
  refine ⟨Mv, h1, h2, ownsRow_other h3 p (fun e => ?_) u, fun j hj => ⟨(h4 j hj).1, (h4 j hj).2.other p hp u⟩⟩
  have := (ownsRow_block h3 _ e).1
  omega
theorem MetR.inM {w B ad n c L} (h : MetR w B (.slice ad n c) n L) : InM w (.slice ad n c) L := by
  obtain ⟨Mv, h1, h2, h3, h4⟩ := h
  obtain ⟨h5, _⟩ := ownsRow_rds h3
  subst h2
  refine ⟨ad, c, rfl, h5.2.1, h5.2.2.1, ?_⟩
  rcases h5.2.2.2 with h6 | ⟨b, o, rfl, h6⟩
  · exact .inl h6
  · refine .inr ⟨b, o, rfl, fun i hi => ⟨?_, (Mv.getD i (0, undef)).2, ?_, (h4 i hi).2.inz⟩⟩
    · have := h6 (i * 2 + 0) (.int .i64 (Mv.getD i (0, undef)).1) (by rw [flat_get mcl_len (0, undef) Mv i (by omega) 0 (by omega)]; rfl)
      rw [(h4 i hi).1] at this
      rwa [Nat.add_zero] at this
    · exact h6 (i * 2 + 1) (Mv.getD i (0, undef)).2 (by rw [flat_get mcl_len (0, undef) Mv i (by omega) 1 (by omega)]; rfl)
/-- one metal more -/
theorem MetR.push {w w' : World} {B : Nat} {v v' : Value} {n : Nat} {L : List Met} {Mv : List (Int × Value)} {d : Int} {sv : Value} {st : List Int} (h1 : Mv.length = n) (h2 : L.length = n)
    (hown : w'.ownsRow B 46 2 v' (n + 1) (flat mcl Mv ++ [.int .i64 d, sv])) (hg : w.grownBy w' v.ownBlock) (hk : v'.ownBlock = v.ownBlock ∨ v'.ownBlock = some w.heap.size)
    (h4 : ∀ j, j < n → (Mv.getD j (0, undef)).1 = (L.getD j m0).d ∧ KeptZ w B v.ownBlock (Mv.getD j (0, undef)).2 (L.getD j m0).st) (hs : KeptZ w B v.ownBlock sv st) : MetR w' B v' (n + 1) (L ++ [⟨d, st⟩]) := by
  refine ⟨Mv ++ [(d, sv)], by simp [h1], by simp [h2], ?_, fun j hj => ?_⟩
  · rw [flat_append]; exact hown
  · rcases Nat.lt_or_ge j n with h5 | h5
    · have e1 : (Mv ++ [(d, sv)]).getD j (0, undef) = Mv.getD j (0, undef) := by simp [List.getD, List.getElem?_append_left (show j < Mv.length by omega)]
      have e2 : (L ++ [(⟨d, st⟩ : Met)]).getD j m0 = L.getD j m0 := by simp [List.getD, List.getElem?_append_left (show j < L.length by omega)]
      rw [e1, e2]
      exact ⟨(h4 j h5).1, (h4 j h5).2.grown hg hk⟩
    · obtain rfl : j = n := by omega
      have e1 : (Mv ++ [(d, sv)]).getD j (0, undef) = (d, sv) := by simp [List.getD, ← h1]
      have e2 : (L ++ [(⟨d, st⟩ : Met)]).getD j m0 = ⟨d, st⟩ := by simp [List.getD, ← h2]
      rw [e1, e2]
      exact ⟨rfl, hs.grown hg hk⟩
theorem metR_made (w : World) (B : Nat) (hB : B ≤ w.heap.size) : MetR (w.alloc (.cells #[] 46)) B (.slice (some ⟨w.heap.size, 0, none⟩) 0 0) 0 [] :=
  ⟨[], rfl, rfl, ownsRow_base (ownsRow_made w 46 2) hB, fun j hj => by omega⟩
theorem info_met : (Tryd.prog.info? 46).map (fun i => (i.zero, i.size, i.bytes)) = some (some (.agg #[.int .i64 0, .slice none 0 0]), 2, 32) := by kernel_rfl
theorem info_crs : (Tryd.prog.info? 44).map (fun i => (i.zero, i.size, i.bytes)) = some (some (.agg #[.int .i64 0, .int .i64 0, .int .i64 0, .int .i64 0]), 4, 32) := by kernel_rfl
theorem set5_0 {w : World} {b : Nat} {v0 v1 v2 v3 v4 : Value} (h : Vals w b [v0, v1, v2, v3, v4]) (x : Value) : Vals (w.setCell ⟨b, 0, none⟩ x) b [x, v1, v2, v3, v4] := h.set 0 x
theorem set5_1 {w : World} {b : Nat} {v0 v1 v2 v3 v4 : Value} (h : Vals w b [v0, v1, v2, v3, v4]) (x : Value) : Vals (w.setCell ⟨b, 1, none⟩ x) b [v0, x, v2, v3, v4] := h.set 1 x
theorem set5_2 {w : World} {b : Nat} {v0 v1 v2 v3 v4 : Value} (h : Vals w b [v0, v1, v2, v3, v4]) (x : Value) : Vals (w.setCell ⟨b, 2, none⟩ x) b [v0, v1, x, v3, v4] := h.set 2 x
theorem mcells {w : World} {b1 bm om i : Nat} {x0 x1 x2 x3 x4 m0 m1 : Value} (vs : Vals w b1 [x0, x1, x2, x3, x4]) (cm : w.cell? ⟨bm, om + i * 2, none⟩ = some m0) (cn : w.cell? ⟨bm, om + i * 2 + 1, none⟩ = some m1) :
    w.cell? ⟨b1, 1, none⟩ = some x1 ∧ w.cell? ⟨bm, om + i * 2, none⟩ = some m0 ∧ w.cell? ⟨bm, om + i * 2 + 1, none⟩ = some m1 := by
  have s1 := vs.cell (i := 1) (by simp)
  exact ⟨s1, cm, cn⟩

def RetZn (w : World) (n : Nat) (zs : List Int) (e : Ending) (w' : World) : Prop := ∃ g c, e = .returned (.slice (some ⟨g, 0, none⟩) n c) ∧ zs.length = n ∧ w.heap.size ≤ g ∧ n ≤ c ∧ c ≤ maxLen ∧ CellZ w' g zs ∧ Below w.heap.size w w'
theorem RetZ.n {w w' : World} {zs : List Int} {e : Ending} {n : Nat} (hn : zs.length = n) (h : RetZ w zs e w') : RetZn w n zs e w' := by
  subst hn
  obtain ⟨g, c, h1, h2, h3, h4, h5, h6⟩ := h
  exact ⟨g, c, h1, rfl, h2, h3, h4, h5, h6⟩
theorem short_fin {w W : World} {x0 x1 x2 x3 x4 : Value} {Z : List Value} {ad4 : Option Addr} {n4 c4 : Nat} {cs : List Value} {mv : Value} {n : Nat} {L : List Met} {v5 : Value} {zs : List Int}
    (vs : Vals W w.heap.size [x0, x1, x2, x3, x4]) (vr : Vals W (w.heap.size + 1) Z) (ho : W.ownsRow (w.heap.size + 2) 44 4 (.slice ad4 n4 c4) n4 cs) (mr : MetR W (w.heap.size + 2) mv n L)
    (hz : KeptZ W (w.heap.size + 2) none v5 zs) (B : Below w.heap.size w W) : ∀ W', W' = ((W.setCell ⟨w.heap.size, 0, none⟩ (.slice ad4 n4 c4)).setCell ⟨w.heap.size, 1, none⟩ mv).setCell ⟨w.heap.size, 2, none⟩ v5 →
    Vals W' w.heap.size [.slice ad4 n4 c4, mv, v5, x3, x4] ∧ Vals W' (w.heap.size + 1) Z ∧ W'.ownsRow (w.heap.size + 2) 44 4 (.slice ad4 n4 c4) n4 cs ∧ MetR W' (w.heap.size + 2) mv n L ∧ KeptZ W' (w.heap.size + 2) none v5 zs ∧ Below w.heap.size w W' := by
  rintro W' rfl
  have hne : (Value.slice ad4 n4 c4).ownBlock ≠ some w.heap.size := fun e => by
    have := (ownsRow_block ho _ e).1
    omega
  have hlt : w.heap.size < w.heap.size + 2 := by omega
  exact ⟨set5_2 (set5_1 (set5_0 vs _) _) _, ((vr.other ⟨w.heap.size, 0, none⟩ (by simp) _).other ⟨w.heap.size, 1, none⟩ (by simp) _).other ⟨w.heap.size, 2, none⟩ (by simp) _,
    ownsRow_other (ownsRow_other (ownsRow_other ho ⟨w.heap.size, 0, none⟩ hne _) ⟨w.heap.size, 1, none⟩ hne _) ⟨w.heap.size, 2, none⟩ hne _,
    ((mr.other ⟨w.heap.size, 0, none⟩ hlt _).other ⟨w.heap.size, 1, none⟩ hlt _).other ⟨w.heap.size, 2, none⟩ hlt _,
    ((hz.other ⟨w.heap.size, 0, none⟩ hlt _).other ⟨w.heap.size, 1, none⟩ hlt _).other ⟨w.heap.size, 2, none⟩ hlt _,
    ((B.setCell (p := ⟨w.heap.size, 0, none⟩) (Nat.le_refl _) _).setCell (p := ⟨w.heap.size, 1, none⟩) (Nat.le_refl _) _).setCell (p := ⟨w.heap.size, 2, none⟩) (Nat.le_refl _) _⟩
theorem set5_all {w : World} {b : Nat} {v0 v1 v2 v3 v4 : Value} (h : Vals w b [v0, v1, v2, v3, v4]) (x y z s t : Value) :
    Vals (((((w.setCell ⟨b, 0, none⟩ x).setCell ⟨b, 1, none⟩ y).setCell ⟨b, 2, none⟩ z).setCell ⟨b, 3, none⟩ s).setCell ⟨b, 4, none⟩ t) b [x, y, z, s, t] := ((((h.set 0 x).set 1 y).set 2 z).set 3 s).set 4 t
/-- a scaling is returned -/
def RetS (w : World) (S : Scl) (e : Ending) (w' : World) : Prop := ∃ cv mv gv, e = .returned (.agg #[cv, mv, gv, .int .i64 S.sf, .int .i64 S.ch]) ∧ InS w' cv mv gv S ∧ Below w.heap.size w w'
theorem short_ret {w W : World} {S : Scl} {ad4 : Option Addr} {n4 c4 : Nat} {ad : Option Addr} {n c : Nat} {v5 : Value} (ho : W.ownsRow (w.heap.size + 2) 44 4 (.slice ad4 n4 c4) n4 (flat ccl (S.cs.take 97)))
    (mr : MetR W (w.heap.size + 2) (.slice ad n c) n ((S.ms.take 5).map shortM)) (hz : KeptZ W (w.heap.size + 2) none v5 (S.gs.take 17)) (B : Below w.heap.size w W) :
    ∀ W', W' = (((((W.setCell ⟨w.heap.size + 1, 0, none⟩ (.slice ad4 n4 c4)).setCell ⟨w.heap.size + 1, 1, none⟩ (.slice ad n c)).setCell ⟨w.heap.size + 1, 2, none⟩ v5).setCell ⟨w.heap.size + 1, 3, none⟩ (.int .i64 S.sf)).setCell ⟨w.heap.size + 1, 4, none⟩ (.int .i64 S.ch)) →
    RetS w (shortS S) (.returned (.agg #[.slice ad4 n4 c4, .slice ad n c, v5, .int .i64 S.sf, .int .i64 S.ch])) W' := by
  rintro W' rfl
  have hne : (Value.slice ad4 n4 c4).ownBlock ≠ some (w.heap.size + 1) := fun e => by
    have := (ownsRow_block ho _ e).1
    omega
  have hlt : w.heap.size + 1 < w.heap.size + 2 := by omega
  have hle : w.heap.size ≤ w.heap.size + 1 := by omega
  refine ⟨_, _, _, rfl, ⟨?_, ?_, ?_⟩, ((((B.setCell (p := ⟨w.heap.size + 1, 0, none⟩) hle _).setCell (p := ⟨w.heap.size + 1, 1, none⟩) hle _).setCell (p := ⟨w.heap.size + 1, 2, none⟩) hle _).setCell (p := ⟨w.heap.size + 1, 3, none⟩) hle _).setCell (p := ⟨w.heap.size + 1, 4, none⟩) hle _⟩
  · have h := (ownsRow_rds (ownsRow_other (ownsRow_other (ownsRow_other (ownsRow_other (ownsRow_other ho ⟨w.heap.size + 1, 0, none⟩ hne (.slice ad4 n4 c4)) ⟨w.heap.size + 1, 1, none⟩ hne (.slice ad n c)) ⟨w.heap.size + 1, 2, none⟩ hne v5) ⟨w.heap.size + 1, 3, none⟩ hne (.int .i64 S.sf)) ⟨w.heap.size + 1, 4, none⟩ hne (.int .i64 S.ch))).1
    have h2 := h.1
    rw [flat_length ccl_len] at h2
    have h3 : n4 = (S.cs.take 97).length := by omega
    subst h3
    exact ⟨ad4, c4, rfl, h.rdc⟩
  · exact (((((mr.other ⟨w.heap.size + 1, 0, none⟩ hlt _).other ⟨w.heap.size + 1, 1, none⟩ hlt _).other ⟨w.heap.size + 1, 2, none⟩ hlt _).other ⟨w.heap.size + 1, 3, none⟩ hlt _).other ⟨w.heap.size + 1, 4, none⟩ hlt _).inM
  · exact (((((hz.other ⟨w.heap.size + 1, 0, none⟩ hlt _).other ⟨w.heap.size + 1, 1, none⟩ hlt _).other ⟨w.heap.size + 1, 2, none⟩ hlt _).other ⟨w.heap.size + 1, 3, none⟩ hlt _).other ⟨w.heap.size + 1, 4, none⟩ hlt _).inz

set_option maxRecDepth 100000 in
set_option maxHeartbeats 1000000 in
theorem wshort_calls (S : Scl) (cv mv gv : Value) (w : World) (hS : InS w cv mv gv S) :
    Calls Tryd.prog 5 #[.agg #[cv, mv, gv, .int .i64 S.sf, .int .i64 S.ch]] w (RetS w (shortS S)) := by
  obtain ⟨⟨adc, cc, rfl, rc⟩, ⟨adm, cm, rfl, rm⟩, ⟨adg, cg, rfl, rg⟩⟩ := hS
  have LC := rc.1
  have LM := rm.1
  have LC2 := rc.2.1
  have LM2 := rm.2.1
  unfold maxLen at LC2 LM2
  obtain ⟨nc, hnc⟩ : ∃ n, S.cs.length = n := ⟨_, rfl⟩
  obtain ⟨nm, hnm⟩ : ∃ n, S.ms.length = n := ⟨_, rfl⟩
  obtain ⟨ng, hng⟩ : ∃ n, S.gs.length = n := ⟨_, rfl⟩
  rw [hnc] at LC ⊢
  rw [hnm] at LM ⊢
  rw [hng]
  obtain ⟨nc1, hnc1⟩ : ∃ n, min 97 nc = n := ⟨_, rfl⟩
  obtain ⟨nm1, hnm1⟩ : ∃ n, min 5 nm = n := ⟨_, rfl⟩
  have HNC := Lib.hid hnc
  have HNM := Lib.hid hnm
  have HNG := Lib.hid hng
  have HC1 := Lib.hid hnc1
  have HM1 := Lib.hid hnm1
  clear hnc hnm hng hnc1 hnm1
  have vs := Vals.newL w (w.heap.size) [.slice adc nc cc, .slice adm nm cm, .slice adg ng cg, .int .i64 S.sf, .int .i64 S.ch] 26 rfl
  have bb := below_alloc w (.cells #[.slice adc nc cc, .slice adm nm cm, .slice adg ng cg, .int .i64 S.sf, .int .i64 S.ch] 26)
  have B := bb
  have sz0 := World.size_alloc w (.cells #[.slice adc nc cc, .slice adm nm cm, .slice adg ng cg, .int .i64 S.sf, .int .i64 S.ch] 26)
  have sz := sz0
  clear sz0
  clear bb
  have vr := Vals.newL (w.alloc (.cells #[.slice adc nc cc, .slice adm nm cm, .slice adg ng cg, .int .i64 S.sf, .int .i64 S.ch] 26)) (w.heap.size + 1) [.slice none 0 0, .slice none 0 0, .slice none 0 0, .int .i64 0, .int .i64 0] 26 sz.symm
  have bb := below_alloc (w.alloc (.cells #[.slice adc nc cc, .slice adm nm cm, .slice adg ng cg, .int .i64 S.sf, .int .i64 S.ch] 26)) (.cells #[.slice none 0 0, .slice none 0 0, .slice none 0 0, .int .i64 0, .int .i64 0] 26)
  replace vs := vs.mono bb
  replace B := below_trans B bb
  clear sz
  clear bb
  go_enter Tryd.func5, Tryd.ntmps5
  go_upto_region 1 with (fail)
  generalize ((w.alloc (.cells #[.slice adc nc cc, .slice adm nm cm, .slice adg ng cg, .int .i64 S.sf, .int .i64 S.ch] 26)).alloc (.cells #[.slice none 0 0, .slice none 0 0, .slice none 0 0, .int .i64 0, .int .i64 0] 26)) = w0 at *
  have cvs0 := vs.cell (i := 0) (by simp)
  have cvs1 := vs.cell (i := 1) (by simp)
  simp only [List.getD_cons_zero, List.getD_cons_succ] at cvs0 cvs1
  have ltvs := vs.lt
  have fvs0 := vs.frozen 0
  have fvs1 := vs.frozen 1
  go_upto_if 8 with (fail)
  go_cut [] from 8 to 12 (fun wx => Vals wx w.heap.size [.slice adc nc1 cc, .slice adm nm cm, .slice adg ng cg, .int .i64 S.sf, .int .i64 S.ch] ∧ Vals wx (w.heap.size + 1) [.slice none 0 0, .slice none 0 0, .slice none 0 0, .int .i64 0, .int .i64 0] ∧ Below w.heap.size w wx)
  case first =>
    by_cases hl : 97 < nc
    · obtain ⟨bk, ok, rfl, _⟩ := rc.at (i := 0) (by rw [HNC.out]; omega)
      have e1 : nc1 = 97 := by rw [← HC1.out]; omega
      go_wp2
      go_meet
      exact ⟨by rw [e1]; exact set5_0 vs _, vr.other ⟨w.heap.size, 0, none⟩ (by simp) _, B.setCell (Nat.le_refl _) _⟩
    · have e1 : nc1 = nc := by rw [← HC1.out]; omega
      go_wp2
      go_meet
      exact ⟨by rw [e1]; exact vs, vr, B⟩
  case rest =>
  obtain ⟨vs, vr, B⟩ := hcut
  have cvs1 := vs.cell (i := 1) (by simp)
  simp only [List.getD_cons_zero, List.getD_cons_succ] at cvs1
  have ltvs := vs.lt
  have fvs1 := vs.frozen 1
  go_upto_if 16 with (fail)
  go_cut [] from 16 to 20 (fun wx => Vals wx w.heap.size [.slice adc nc1 cc, .slice adm nm1 cm, .slice adg ng cg, .int .i64 S.sf, .int .i64 S.ch] ∧ Vals wx (w.heap.size + 1) [.slice none 0 0, .slice none 0 0, .slice none 0 0, .int .i64 0, .int .i64 0] ∧ Below w.heap.size w wx)
  case first =>
    by_cases hl : 5 < nm
    · obtain ⟨bk, ok, _, rfl, _⟩ := rm.at (i := 0) (by rw [HNM.out]; omega)
      have e1 : nm1 = 5 := by rw [← HM1.out]; omega
      go_wp2
      go_meet
      exact ⟨by rw [e1]; exact set5_1 vs _, vr.other ⟨w.heap.size, 1, none⟩ (by simp) _, B.setCell (Nat.le_refl _) _⟩
    · have e1 : nm1 = nm := by rw [← HM1.out]; omega
      go_wp2
      go_meet
      exact ⟨by rw [e1]; exact vs, vr, B⟩
  case rest =>
  clear cvs1 ltvs fvs1
  obtain ⟨vs, vr, B⟩ := hcut
  obtain ⟨L5, hL5⟩ : ∃ L, (S.ms.take 5).map shortM = L := ⟨_, rfl⟩
  have hl5 : L5.length = nm1 := by rw [← hL5, List.length_map, List.length_take, HNM.out]; exact HM1.out
  have HL5 := Lib.hid hL5
  have HLL := Lib.hid hl5
  have hle : nm1 ≤ nm := by rw [← HM1.out]; omega
  have hle5 : nm1 ≤ 5 := by rw [← HM1.out]; omega
  have hle97 : nc1 ≤ 97 := by rw [← HC1.out]; omega
  have hlec : nc1 ≤ nc := by rw [← HC1.out]; omega
  clear hL5 hl5
  have hsz : w.heap.size + 2 ≤ wc.heap.size := by have := vr.lt; omega
  have MR := metR_made wc (w.heap.size + 2) hsz
  have bb := below_alloc wc (.cells #[] 46)
  go_upto_region 6 with (fail)
  replace vs := vs.mono bb
  replace vr := vr.mono bb
  replace B := below_trans B bb
  have hszz : w.heap.size + 2 ≤ (wc.alloc (.cells #[] 46)).heap.size := Nat.le_trans hsz bb.size
  clear bb hsz
  generalize wc.alloc (.cells #[] 46) = W1 at *
  generalize wc.heap.size = bg at *
  go_wp2
  go_loopw [4, 3] (fun iv mv wr => ∃ i : Nat, iv = .int .i64 (i : Int) ∧ i ≤ nm1 ∧ (∃ ad c, mv = .slice ad i c) ∧ MetR wr (w.heap.size + 2) mv i (L5.take i) ∧ w.heap.size + 2 ≤ wr.heap.size ∧ Vals wr w.heap.size [.slice adc nc1 cc, .slice adm nm1 cm, .slice adg ng cg, .int .i64 S.sf, .int .i64 S.ch] ∧ Vals wr (w.heap.size + 1) [.slice none 0 0, .slice none 0 0, .slice none 0 0, .int .i64 0, .int .i64 0] ∧ Below w.heap.size w wr)
    (fun iv _ _ => nm1 - (intOf iv).toNat)
  case atStart => exact ⟨0, rfl, Nat.zero_le _, ⟨_, _, rfl⟩, by rw [List.take_zero]; exact MR, hszz, vs, vr, B⟩
  case round =>
    clear B vs vr MR hszz
    obtain ⟨i, rfl, hi, ⟨ad, c, rfl⟩, MR, hsz, vs, vr, B⟩ := hrel
    have cvs1 := vs.cell (i := 1) (by simp)
    simp only [List.getD_cons_zero, List.getD_cons_succ] at cvs1
    by_cases hlt : i < nm1
    · have him : i < S.ms.length := by rw [HNM.out]; omega
      obtain ⟨D, hD⟩ : ∃ D, S.ms.getD i m0 = D := ⟨_, rfl⟩
      obtain ⟨bm, om, sv, rfl, cm0, cm1, ads, cs, rfl, hz⟩ := rm.at him
      rw [hD] at cm0 cm1 hz
      have ht : L5.take (i + 1) = L5.take i ++ [shortM D] := by
        rw [List.take_succ_eq_append_getElem (by rw [HLL.out]; exact hlt)]
        congr 2
        have e1 : L5[i]'(by rw [HLL.out]; exact hlt) = L5.getD i m0 := by rw [List.getD_eq_getElem?_getD, List.getElem?_eq_getElem (by rw [HLL.out]; exact hlt)]; rfl
        rw [e1, ← HL5.out, ← hD]
        simp [List.getD, List.getElem?_take, show i < 5 by omega, him]
      obtain ⟨nst, hst⟩ : ∃ n, D.st.length = n := ⟨_, rfl⟩
      obtain ⟨nk, hnk⟩ : ∃ n, (D.st.take 17).length = n := ⟨_, rfl⟩
      have CU := fun (W : World) (hb : Below w.heap.size w W) => (cutz_calls (.slice ads D.st.length cs) D.st 17 17 W ⟨ads, cs, rfl, hz.mono hb⟩ rfl (by omega)).mono (fun e W' h => RetZ.n hnk h)
      rw [hst] at CU cm1
      have HCU := Lib.hid CU
      have HT := Lib.hid ht
      have HS := Lib.hid (fun (W : World) (hb : Below (w.heap.size + 2) wr W) => mcells (vs.below hb (by omega)) (((B.trans (hb.mono (Nat.le_add_right _ _))).cell (cell_lt cm0)).trans cm0) (((B.trans (hb.mono (Nat.le_add_right _ _))).cell (cell_lt cm1)).trans cm1))
      obtain ⟨Mv, hl1, hl2, hown, hk⟩ := MR
      have HL1 := Lib.hid hl1
      have HL2 := Lib.hid hl2
      have HKK := Lib.hid hk
      clear CU ht hz hst hD hnk cm0 cm1 hl1 hl2 hk
      have a1 : (0 : Int) ≤ (i : Int) := by omega
      have a2 : (i : Int) < (nm1 : Int) := by omega
      go_upto_region 9 with (fail)
      go_region_held3 (fun W => W.cell? ⟨w.heap.size, 1, none⟩ = some (.slice (some ⟨bm, om, none⟩) nm1 cm) ∧ W.cell? ⟨bm, om + i * 2, none⟩ = some (.int .i64 D.d) ∧ W.cell? ⟨bm, om + i * 2 + 1, none⟩ = some (.slice ads nst cs))
        (first | exact HS.out _ (Below.refl _ _).drew | exact HS.out _ bz | exact HS.out _ (bz.alloc hszz _) | exact HS.out _ b3)
        (first | (go_at_call 14; (with_reducible refine (HCU.out _ B.drew).mono ?_); rintro e z1 ⟨g, c', rfl, h0, hg, h1, h2, hz1, b5⟩; have H0 := Lib.hid h0; clear h0; have bz := below_trans (bel0 wr) b5; have hszz := Nat.le_trans hsz bz.size; have bz0 := bz; replace bz := bz.mono hsz) | (refine step_append_rv (by rfl) (.tmp 29) (.tmp 44) _ (by rfl) (w.heap.size + 2) 46 _ 2 32 Tryd.underlying23 info_met (by rfl) (by decide) _ i _ (by rfl) (ownsRow_mono (ownsRow_mono hown bz0) (below_alloc _ _)) _ 1 1 [.int .i64 D.d, .slice (some ⟨g, 0, none⟩) nk c'] (by rfl) (Vals.rd (Vals.newL z1 z1.heap.size [.int .i64 D.d, .slice (some ⟨g, 0, none⟩) nk c'] 46 rfl) 1 2 rfl 1 (by omega) (by unfold maxLen; omega)) (by intro u hu; simp only [List.mem_cons, List.not_mem_nil, or_false] at hu; rcases hu with rfl | rfl <;> rfl) (by unfold maxLen; omega) (by omega) (Nat.le_trans hszz (below_alloc _ _).size) (i + 1) rfl _ rfl ?_; intro ad3 c3 w3 hown3 hg3 hn3 hb3 hk3; have b3 := (bz.trans ((below_alloc z1 (.cells #[.int .i64 D.d, .slice (some ⟨g, 0, none⟩) nk c'] 46)).mono hszz)).trans hb3))
      have hKn : KeptZ (z1.alloc (.cells #[.int .i64 D.d, .slice (some ⟨g, 0, none⟩) nk c'] 46)) (w.heap.size + 2) (Value.slice ad i c).ownBlock (.slice (some ⟨g, 0, none⟩) nk c') (D.st.take 17) :=
        ⟨g, c', by rw [H0.out], Nat.le_trans hsz hg, by rw [H0.out]; exact h1, h2, hz1.mono (below_alloc _ _), fun e => by
          have h8 := (ownsRow_block hown g e).2
          exact absurd (Nat.lt_of_lt_of_le h8 hg) (Nat.lt_irrefl _)⟩
      have MR3 := MetR.push HL1.out HL2.out hown3 hg3 hk3 (fun j hj => ⟨(HKK.out j hj).1, ((HKK.out j hj).2.mono bz0).mono (below_alloc _ _)⟩) hKn
      have HMR3 := Lib.hid MR3
      have vs3 := vs.below b3 (by omega)
      have vr3 := vr.below b3 (by omega)
      have B3 := B.trans (b3.mono (Nat.le_add_right _ _))
      have hsz3 := Nat.le_trans hsz b3.size
      clear MR3 hKn hown3 hg3 hk3 hown HS HCU hz1 bz bz0 b3 hb3 vs vr B
      go_wp2
      go_roundw
      case rel => exact ⟨i + 1, by go_num, by omega, ⟨_, _, rfl⟩, by rw [HT.out]; exact HMR3.out, hsz3, vs3, vr3, B3⟩
      case measure => simp [intOf]; omega
    · obtain rfl : i = nm1 := by omega
      rw [List.take_of_length_le (by rw [HLL.out]; exact Nat.le_refl _)] at MR
      have cvs0 := vs.cell (i := 0) (by simp)
      have cvs2 := vs.cell (i := 2) (by simp)
      simp only [List.getD_cons_zero, List.getD_cons_succ] at cvs0 cvs2
      have ltvs := vs.lt
      obtain ⟨ngk, hngk⟩ : ∃ n, (S.gs.take 17).length = n := ⟨_, rfl⟩
      have HCG := Lib.hid (fun (W : World) (hb : Below w.heap.size w W) => (show Calls Tryd.prog 14 #[.slice adg ng cg, .int .i64 17] W (RetZn W ngk (S.gs.take 17)) from by
        have h := cutz_calls (.slice adg S.gs.length cg) S.gs 17 17 W ⟨adg, cg, rfl, rg.mono hb⟩ rfl (by omega)
        rw [HNG.out] at h
        exact h.mono (fun e W' h => RetZ.n hngk h)))
      have HRC := Lib.hid (fun (W : World) (hb : Below w.heap.size w W) => (show RdV W adc cc nc1 4 (flat ccl (S.cs.take 97)) from by
        have h := ((rc.take 97).mono hb).rdv
        rw [List.length_take, HNC.out, HC1.out] at h
        exact h))
      have HNGK := Lib.hid hngk
      have bsz := bel1 wr (.cells #[] 44)
      clear hngk hlt
      go_upto_region 10 with (fail)
      go_cut [] from 46 to 56 (fun wx => ∃ ad4 c4 g c5, Vals wx w.heap.size [.slice ad4 nc1 c4, .slice ad i c, .slice (some ⟨g, 0, none⟩) ngk c5, .int .i64 S.sf, .int .i64 S.ch] ∧ Vals wx (w.heap.size + 1) [.slice none 0 0, .slice none 0 0, .slice none 0 0, .int .i64 0, .int .i64 0] ∧ wx.ownsRow (w.heap.size + 2) 44 4 (.slice ad4 nc1 c4) nc1 (flat ccl (S.cs.take 97)) ∧ MetR wx (w.heap.size + 2) (.slice ad i c) i L5 ∧ KeptZ wx (w.heap.size + 2) none (.slice (some ⟨g, 0, none⟩) ngk c5) (S.gs.take 17) ∧ Below w.heap.size w wx)
      case first =>
        go_region_law (first | (refine step_append_rv (by rfl) (.tmp 46) (.tmp 48) _ (by rfl) wr.heap.size 44 _ 4 32 Tryd.underlying22 info_crs (by rfl) (by decide) _ 0 [] (by rfl) (ownsRow_made wr 44 4) _ nc1 cc _ (by rfl) (HRC.out _ (below_trans B bsz)) (flat_one ccl_one _) (by unfold maxLen; omega) (by omega) bsz.size nc1 (Nat.zero_add _).symm _ (List.nil_append _).symm ?_; intro ad4 c4 w4 hown4 hg4 hn4 hb4 hk4; have b4 := bsz.trans hb4; have vs4 := vs.mono b4; have cvs0 := vs4.cell (i := 0) (by simp); have cvs2 := vs4.cell (i := 2) (by simp); simp only [List.getD_cons_zero, List.getD_cons_succ] at cvs0 cvs2; have ltv4 := vs4.lt) | (go_simp; go_at_call 14; (with_reducible refine (HCG.out _ (below_trans B b4)).mono ?_); rintro e z4 ⟨g, c5, rfl, h0, hg, h1, h2, hz4, b5⟩; have b6 := below_trans b4 b5; have vs5 := vs.mono b6; have cvs0 := vs5.cell (i := 0) (by simp); have cvs1 := vs5.cell (i := 1) (by simp); have cvs2 := vs5.cell (i := 2) (by simp); simp only [List.getD_cons_zero, List.getD_cons_succ] at cvs0 cvs1 cvs2; have fvs0 := vs5.frozen 0; have fvs1 := vs5.frozen 1; have fvs2 := vs5.frozen 2; have ltv5 := vs5.lt))
        all_goals
          go_wp2
          go_meet
          exact ⟨_, _, _, _, short_fin vs5 (vr.mono b6) (ownsRow_base (ownsRow_mono hown4 b5) hsz) (MR.mono b6) ⟨g, c5, by rw [h0], by have := b4.size; omega, by rw [h0]; exact h1, h2, hz4, by simp⟩ (below_trans B b6) _ rfl⟩
      case rest =>
        clear vs vr B MR cvs0 cvs1 cvs2 ltvs bsz
        obtain ⟨ad4, c4, g, c5, vs, vr, rc4, MR4, rz4, B⟩ := hcut
        have cvs0 := vs.cell (i := 0) (by simp)
        have cvs1 := vs.cell (i := 1) (by simp)
        have cvs2 := vs.cell (i := 2) (by simp)
        have cvs3 := vs.cell (i := 3) (by simp)
        have cvs4 := vs.cell (i := 4) (by simp)
        have cvr0 := vr.cell (i := 0) (by simp)
        have cvr1 := vr.cell (i := 1) (by simp)
        have cvr2 := vr.cell (i := 2) (by simp)
        have cvr3 := vr.cell (i := 3) (by simp)
        have cvr4 := vr.cell (i := 4) (by simp)
        simp only [List.getD_cons_zero, List.getD_cons_succ] at cvs0 cvs1 cvs2 cvs3 cvs4 cvr0 cvr1 cvr2 cvr3 cvr4
        have ltvs := vs.lt
        have ltvr := vr.lt
        have f0 := vr.frozen 0
        have f1 := vr.frozen 1
        have f2 := vr.frozen 2
        have f3 := vr.frozen 3
        have f4 := vr.frozen 4
        go_wp2
        obtain ⟨te, hg⟩ := set5_all vr (.slice ad4 nc1 c4) (.slice ad i c) (.slice (some ⟨g, 0, none⟩) ngk c5) (.int .i64 S.sf) (.int .i64 S.ch)
        rw [← HL5.out] at MR4
        have hfin := short_ret (S := S) rc4 MR4 rz4 B _ rfl
        refine bodyPost_ret_by (results_cell_row rfl _ _ (w.heap.size + 1) te _ (0, 0) _ rfl hg Tryd.underlying26 rfl (by kernel_rfl)) rfl ?_
        exact hfin

end Go.Proofs
