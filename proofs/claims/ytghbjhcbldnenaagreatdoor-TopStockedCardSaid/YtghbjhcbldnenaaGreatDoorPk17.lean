/- wire.look: the picks and what each costs for each course. -/
import Derived.Test.YtghbjhcbldnenaaGreatDoorPk16

section
open Go.RowKit Go.Deep
namespace Go.Proofs
set_option linter.unusedVariables false
set_option linter.unusedSimpArgs false

theorem ownsRow_same {w w' : World} {B e k lo hi : Nat} {v : Value} {n : Nat} {cs : List Value} (h : w.ownsRow B e k v n cs) (hs : Same lo hi w w') (hlo : lo ≤ B) (hk : ∀ b, v.ownBlock = some b → b < hi) : w'.ownsRow B e k v n cs := by
  obtain ⟨hl, h1⟩ := h
  refine ⟨hl, ?_⟩
  rcases h1 with h1 | ⟨g, cap, cur, rfl, hg, hh, r⟩
  · exact .inl h1
  · refine .inr ⟨g, cap, cur, rfl, hg, ?_, r⟩
    rw [hs g (by omega) (hk g rfl)]
    exact hh
theorem CellZ.same {w w' : World} {lo hi g : Nat} {zs : List Int} (h : CellZ w g zs) (hs : Same lo hi w w') (h1 : lo ≤ g) (h2 : g < hi) : CellZ w' g zs := by
  obtain ⟨vs, ⟨e, h⟩, k⟩ := h
  exact ⟨vs, ⟨e, (hs g h1 h2).trans h⟩, k⟩
/-- rows of prices in a row of the call's own, in blocks from lo to hi -/
def PrcIn (w : World) (lo hi : Nat) (v : Value) (n : Nat) (L : List (List Int)) : Prop :=
  ∃ Mv : List Value, Mv.length = n ∧ L.length = n ∧ w.ownsRow lo 24 1 v n Mv ∧ (∀ b, v.ownBlock = some b → b < hi) ∧
    ∀ j, j < n → ∃ g c, Mv.getD j undef = .slice (some ⟨g, 0, none⟩) (L.getD j []).length c ∧ lo ≤ g ∧ g < hi ∧ (L.getD j []).length ≤ c ∧ c ≤ maxLen ∧ CellZ w g (L.getD j []) ∧ v.ownBlock ≠ some g
theorem PrcIn.same {w w' : World} {lo hi : Nat} {v : Value} {n : Nat} {L : List (List Int)} (h : PrcIn w lo hi v n L) (hs : Same lo hi w w') : PrcIn w' lo hi v n L := by
  obtain ⟨Mv, h1, h2, h3, h4, h5⟩ := h
  refine ⟨Mv, h1, h2, ownsRow_same h3 hs (Nat.le_refl _) h4, h4, fun j hj => ?_⟩
  obtain ⟨g, c, g1, g2, g3, g4, g5, g6, g7⟩ := h5 j hj
  exact ⟨g, c, g1, g2, g3, g4, g5, g6.same hs g2 g3, g7⟩
theorem prcIn_nil (w : World) (lo hi : Nat) : PrcIn w lo hi (.slice none 0 0) 0 [] := ⟨[], rfl, rfl, ownsRow_nil w lo _ 1, fun b h => (by cases h), fun j hj => by omega⟩
theorem PrcIn.push {w w' : World} {lo hi h : Nat} {v v' : Value} {n : Nat} {L : List (List Int)} {Mv : List Value} {zs : List Int} {c kk : Nat} (hkk : zs.length = kk) (h1 : Mv.length = n) (h2 : L.length = n)
    (hown : w'.ownsRow lo 24 1 v' (n + 1) (Mv ++ [.slice (some ⟨h, 0, none⟩) kk c])) (hg : w.grownBy w' v.ownBlock) (hk : v'.ownBlock = v.ownBlock ∨ v'.ownBlock = some w.heap.size) (h4 : ∀ b, v.ownBlock = some b → b < hi) (hhi : hi ≤ h)
    (h5 : ∀ j, j < n → ∃ g c, Mv.getD j undef = .slice (some ⟨g, 0, none⟩) (L.getD j []).length c ∧ lo ≤ g ∧ g < hi ∧ (L.getD j []).length ≤ c ∧ c ≤ maxLen ∧ CellZ w g (L.getD j []) ∧ v.ownBlock ≠ some g)
    (hz : CellZ w h zs) (hlo : lo ≤ h) (hc : zs.length ≤ c) (hm : c ≤ maxLen) : PrcIn w' lo w'.heap.size v' (n + 1) (L ++ [zs]) := by
  subst hkk
  have hne : v.ownBlock ≠ some h := fun e => by have := h4 h e; omega
  have hnew : ∀ g, g < w.heap.size → v.ownBlock ≠ some g → v'.ownBlock ≠ some g := fun g hgl hn e => by
    rcases hk with hk | hk
    · exact hn (hk ▸ e)
    · rw [hk] at e
      simp only [Option.some.injEq] at e
      omega
  refine ⟨Mv ++ [.slice (some ⟨h, 0, none⟩) zs.length c], by simp [h1], by simp [h2], hown, fun b hb => (ownsRow_block hown b hb).2, fun j hj => ?_⟩
  rcases Nat.lt_or_ge j n with hj1 | hj1
  · have e1 : (Mv ++ [Value.slice (some ⟨h, 0, none⟩) zs.length c]).getD j undef = Mv.getD j undef := by simp [List.getD, List.getElem?_append_left (show j < Mv.length by omega)]
    have e2 : (L ++ [zs]).getD j [] = L.getD j [] := by simp [List.getD, List.getElem?_append_left (show j < L.length by omega)]
    rw [e1, e2]
    obtain ⟨g, c, g1, g2, g3, g4, g5, g6, g7⟩ := h5 j hj1
    have := g6.lt
    exact ⟨g, c, g1, g2, Nat.lt_of_lt_of_le this hg.size, g4, g5, g6.grown hg g7, hnew g this g7⟩
  · obtain rfl : j = n := by omega
    have e1 : (Mv ++ [Value.slice (some ⟨h, 0, none⟩) zs.length c]).getD j undef = .slice (some ⟨h, 0, none⟩) zs.length c := by simp [List.getD, ← h1]
    have e2 : (L ++ [zs]).getD j [] = zs := by simp [List.getD, ← h2]
    rw [e1, e2]
    have := hz.lt
    exact ⟨h, c, rfl, hlo, Nat.lt_of_lt_of_le this hg.size, hc, hm, hz.grown hg hne, hnew h this hne⟩
theorem PrcIn.tab {w : World} {lo hi : Nat} {ad : Option Addr} {n c K : Nat} {L : List (List Int)} {pr : Nat → Nat → Int} (h : PrcIn w lo hi (.slice ad n c) n L) (hn : 1 ≤ n) (hL : ∀ j, j < n → (L.getD j []).length = K ∧ ∀ k, k < K → (L.getD j []).getD k 0 = pr j k) :
    TabIn w lo hi (.slice ad n c) n K pr := by
  obtain ⟨Mv, h1, h2, h3, h4, h5⟩ := h
  have hb := h3
  rcases hb.2 with ⟨e, _⟩ | ⟨g, cap, cur, e, hg, _⟩
  · cases e; omega
  · cases e
    obtain ⟨r1, r2⟩ := ownsRow_rds h3
    obtain ⟨q1, q2, q3, q4⟩ := r1
    refine ⟨g, _, rfl, hg, h4 g rfl, q2, q3, fun i hi => ?_⟩
    obtain ⟨f, c', f1, f2, f3, f4, f5, f6, f7⟩ := h5 i hi
    obtain ⟨e1, e2⟩ := hL i hi
    rw [e1] at f1 f4
    rcases q4 with q4 | ⟨b, o, e3, q4⟩
    · omega
    · cases e3
      refine ⟨f, c', f2, f3, ?_, f4, f5, fun k hk => ?_⟩
      · have := q4 i (Mv.getD i undef) (by simp [List.getD, List.getElem?_eq_getElem (show i < Mv.length by omega)])
        rw [Nat.zero_add, f1] at this
        exact this
      · rw [f6.cell (by omega), e2 k hk]
theorem allPk_take {nm ng m g : Nat} (hm : m < nm) (hg : g < ng) : (allPk nm ng).take (m * ng + g + 1) = (allPk nm ng).take (m * ng + g) ++ [⟨(m : Int), (g : Int)⟩] := by
  have hlt : m * ng + g < nm * ng := by
    have : (m + 1) * ng ≤ nm * ng := Nat.mul_le_mul_right ng hm
    rw [Nat.succ_mul] at this
    omega
  have hl : m * ng + g < (allPk nm ng).length := by rw [allPk_len]; exact hlt
  rw [List.take_succ_eq_append_getElem hl]
  congr 2
  have e : (allPk nm ng)[m * ng + g] = (allPk nm ng).getD (m * ng + g) p0 := by rw [List.getD_eq_getElem?_getD, List.getElem?_eq_getElem hl]; rfl
  rw [e, allPk_get hlt]
  have e1 : (m * ng + g) / ng = m := by rw [Nat.mul_comm, Nat.mul_add_div (by omega), Nat.div_eq_of_lt hg, Nat.add_zero]
  have e2 : (m * ng + g) % ng = g := by rw [Nat.mul_comm, Nat.mul_add_mod, Nat.mod_eq_of_lt hg]
  rw [e1, e2]

/-- what a pick costs for a course; -1: it does not hold -/
def prT (S : Scl) (i k : Nat) : Int :=
  if decide (i < S.cs.length) && decide (k < S.ms.length * S.gs.length) && strongB S (S.cs.getD i c0) ⟨((k / S.gs.length : Nat) : Int), ((k % S.gs.length : Nat) : Int)⟩ then ((priceN S (S.cs.getD i c0) ⟨((k / S.gs.length : Nat) : Int), ((k % S.gs.length : Nat) : Int)⟩ : Nat) : Int) else -1
theorem pk_ok {S : Scl} {k : Nat} (hk : k < S.ms.length * S.gs.length) : pkOk S ⟨((k / S.gs.length : Nat) : Int), ((k % S.gs.length : Nat) : Int)⟩ = true := by
  have h0 : 0 < S.gs.length := by
    rcases Nat.eq_zero_or_pos S.gs.length with h | h
    · rw [h, Nat.mul_zero] at hk; omega
    · exact h
  have h1 := Nat.mod_lt k h0
  have h2 : k / S.gs.length < S.ms.length := Nat.div_lt_of_lt_mul (by rw [Nat.mul_comm]; exact hk)
  unfold pkOk
  dsimp only
  rw [decide_eq_true ⟨Int.natCast_nonneg _, Int.ofNat_lt.2 h2⟩, decide_eq_true ⟨Int.natCast_nonneg _, Int.ofNat_lt.2 h1⟩]
  rfl
/-- the state of the loop over the picks -/
def KInv (w wr : World) (bx bc h i k K N1 : Nat) (SV CV VS : List Value) (pv tv : Value) (PL : List Pk) (Ls : List (List Int)) (f : Nat → Int) : Prop :=
  Below w.heap.size w wr ∧ Vals wr w.heap.size SV ∧ Vals wr bx VS ∧ Vals wr bc CV ∧ PickIn wr (bx + 1) N1 pv PL ∧ PrcIn wr N1 bc tv i Ls ∧ w.heap.size < bx ∧ bx < N1 ∧ N1 ≤ bc ∧ bc < h ∧ h < wr.heap.size ∧
    ∃ zs, CellZ wr h zs ∧ zs.length = K ∧ ∀ m, m < k → zs.getD m 0 = f m
theorem KInv.mono {w wr wx : World} {bx bc h i k K N1 : Nat} {SV CV VS : List Value} {pv tv : Value} {PL : List Pk} {Ls : List (List Int)} {f : Nat → Int} (a : KInv w wr bx bc h i k K N1 SV CV VS pv tv PL Ls f) (hb : Below wr.heap.size wr wx) : KInv w wx bx bc h i k K N1 SV CV VS pv tv PL Ls f := by
  obtain ⟨a1, a2, a3, a4, a5, a6, a7, a8, a9, a10, a11, zs, a12, a13, a14⟩ := a
  exact ⟨below_trans a1 hb, a2.mono hb, a3.mono hb, a4.mono hb, a5.same (Same.of_below hb (by omega)), a6.same (Same.of_below hb (by omega)), a7, a8, a9, a10, Nat.lt_of_lt_of_le a11 hb.size, zs, a12.mono hb, a13, a14⟩
theorem KInv.put {w wr : World} {bx bc h i k K N1 : Nat} {SV CV VS : List Value} {pv tv : Value} {PL : List Pk} {Ls : List (List Int)} {f : Nat → Int} (a : KInv w wr bx bc h i k K N1 SV CV VS pv tv PL Ls f) (z : Int) : KInv w (wr.setCell ⟨h, k, none⟩ (.int .i64 z)) bx bc h i k K N1 SV CV VS pv tv PL Ls f := by
  obtain ⟨a1, a2, a3, a4, a5, a6, a7, a8, a9, a10, a11, zs, a12, a13, a14⟩ := a
  refine ⟨a1.setCell (p := ⟨h, k, none⟩) (by dsimp only; omega) _, a2.other _ (by dsimp only; omega) _, a3.other _ (by dsimp only; omega) _, a4.other _ (by dsimp only; omega) _, a5.same ((Same.refl _ _ wr).setCell _ (by dsimp only; omega) _), a6.same ((Same.refl _ _ wr).setCell _ (by dsimp only; omega) _), a7, a8, a9, a10, by rw [size_set]; exact a11, zs.set k z, a12.set k z, by rw [List.length_set]; exact a13, fun m hm => ?_⟩
  rw [← a14 m hm]
  simp [List.getD, List.getElem?_set, show k ≠ m by omega]
theorem KInv.store {w wr : World} {bx bc h i k K N1 : Nat} {SV CV VS : List Value} {pv tv : Value} {PL : List Pk} {Ls : List (List Int)} {f : Nat → Int} (a : KInv w wr bx bc h i k K N1 SV CV VS pv tv PL Ls f) (hk : k < K) (z : Int) (hz : z = f k) : KInv w (wr.setCell ⟨h, k, none⟩ (.int .i64 z)) bx bc h i (k + 1) K N1 SV CV VS pv tv PL Ls f := by
  obtain ⟨a1, a2, a3, a4, a5, a6, a7, a8, a9, a10, a11, zs, a12, a13, a14⟩ := a
  refine ⟨a1.setCell (p := ⟨h, k, none⟩) (by dsimp only; omega) _, a2.other _ (by dsimp only; omega) _, a3.other _ (by dsimp only; omega) _, a4.other _ (by dsimp only; omega) _, a5.same ((Same.refl _ _ wr).setCell _ (by dsimp only; omega) _), a6.same ((Same.refl _ _ wr).setCell _ (by dsimp only; omega) _), a7, a8, a9, a10, by rw [size_set]; exact a11, zs.set k z, a12.set k z, by rw [List.length_set]; exact a13, fun m hm => ?_⟩
  by_cases e : k = m
  · subst e
    rw [← hz]
    simp [List.getD, a13, hk]
  · rw [← a14 m (by omega)]
    simp [List.getD, List.getElem?_set, e]
/-- -1 has been stored, and stays -/
theorem KInv.stay {w wr : World} {bx bc h i k K N1 : Nat} {SV CV VS : List Value} {pv tv : Value} {PL : List Pk} {Ls : List (List Int)} {f : Nat → Int} (a : KInv w wr bx bc h i k K N1 SV CV VS pv tv PL Ls f) (hk : k < K) (hc : wr.cell? ⟨h, k, none⟩ = some (.int .i64 (-1))) (hf : f k = -1) : KInv w wr bx bc h i (k + 1) K N1 SV CV VS pv tv PL Ls f := by
  obtain ⟨a1, a2, a3, a4, a5, a6, a7, a8, a9, a10, a11, zs, a12, a13, a14⟩ := a
  refine ⟨a1, a2, a3, a4, a5, a6, a7, a8, a9, a10, a11, zs, a12, a13, fun m hm => ?_⟩
  by_cases e : k = m
  · subst e
    have := a12.cell (i := k) (by rw [a13]; exact hk)
    rw [hc] at this
    have e1 : (-1 : Int) = zs.getD k 0 := by simpa using this
    rw [hf, ← e1]
  · exact a14 m (by omega)
theorem KInv.facts {w wr : World} {bx bc h i k K N1 : Nat} {SV CV : List Value} {v0 v1 v2 v3 v4 v5 v6 v7 pv tv : Value} {PL : List Pk} {Ls : List (List Int)} {f : Nat → Int} (a : KInv w wr bx bc h i k K N1 SV CV [v0, v1, v2, v3, v4, v5, v6, v7] pv tv PL Ls f) (hk : k < K) :
    Below w.heap.size w wr ∧ Vals wr w.heap.size SV ∧ Vals wr bc CV ∧ PickIn wr (bx + 1) N1 pv PL ∧ wr.cell? ⟨bx, 5, none⟩ = some v5 ∧ (∃ z : Int, wr.cell? ⟨h, k, none⟩ = some (.int .i64 z)) ∧ wr.frozen? ⟨h, k, none⟩ = false := by
  obtain ⟨a1, a2, a3, a4, a5, a6, a7, a8, a9, a10, a11, zs, a12, a13, a14⟩ := a
  exact ⟨a1, a2, a4, a5, (xcells a3).2.2.1, ⟨_, a12.cell (i := k) (by rw [a13]; exact hk)⟩, a12.frozen k⟩

theorem ownsRow_pick {w : World} {lo : Nat} {ad : Option Addr} {n c : Nat} {L : List Pk} (h : w.ownsRow lo 73 2 (.slice ad n c) n (flat pcl L)) (hL : L.length = n) (hn : 1 ≤ n) : ∃ b, ad = some ⟨b, 0, none⟩ ∧ PickIn w lo w.heap.size (.slice ad n c) L := by
  have hb := h
  rcases hb.2 with ⟨e, _⟩ | ⟨g, cap, cur, e, hg, _⟩
  · cases e; omega
  · cases e
    obtain ⟨r1, _⟩ := ownsRow_rds h
    have r2 := r1.rdp
    refine ⟨g, rfl, g, 0, _, by rw [hL], hg, (ownsRow_block h g rfl).2, by rw [hL]; exact r1.2.1, r1.2.2.1, fun i hi => ?_⟩
    rcases r2.2.2 with h6 | ⟨b, o, e3, h6⟩
    · have := r1.2.1; omega
    · cases e3
      exact h6 i hi
theorem KInv.putc {w wr : World} {bx bc h i k K N1 : Nat} {SV CV VS : List Value} {pv tv : Value} {PL : List Pk} {Ls : List (List Int)} {f : Nat → Int} (a : KInv w wr bx bc h i k K N1 SV CV VS pv tv PL Ls f) (hk : k < K) (z : Int) : (wr.setCell ⟨h, k, none⟩ (.int .i64 z)).cell? ⟨h, k, none⟩ = some (.int .i64 z) := by
  obtain ⟨a1, a2, a3, a4, a5, a6, a7, a8, a9, a10, a11, zs, a12, a13, a14⟩ := a
  have := (a12.set k z).cell (i := k) (by rw [List.length_set, a13]; exact hk)
  rw [this]
  simp [List.getD, a13, hk]
/-- what look leaves -/
def Looked (w : World) (S : Scl) (cv mv gv : Value) (e : Ending) (w' : World) : Prop :=
  ∃ bx pv tv, e = .returned (.pointer (some ⟨bx, 0, none⟩)) ∧ w.heap.size ≤ bx ∧ Vals w' bx [cv, mv, gv, .int .i64 S.sf, .int .i64 S.ch, pv, tv, .slice none 0 0] ∧
    PickIn w' (bx + 1) w'.heap.size pv (allPk S.ms.length S.gs.length) ∧ TabIn w' (bx + 1) w'.heap.size tv S.cs.length (S.ms.length * S.gs.length) (prT S) ∧ Below w.heap.size w w'
theorem set8_5 {w : World} {b : Nat} {v0 v1 v2 v3 v4 v5 v6 v7 : Value} (h : Vals w b [v0, v1, v2, v3, v4, v5, v6, v7]) (x : Value) : Vals (w.setCell ⟨b, 5, none⟩ x) b [v0, v1, v2, v3, v4, x, v6, v7] := h.set 5 x
theorem set8_6 {w : World} {b : Nat} {v0 v1 v2 v3 v4 v5 v6 v7 : Value} (h : Vals w b [v0, v1, v2, v3, v4, v5, v6, v7]) (x : Value) : Vals (w.setCell ⟨b, 6, none⟩ x) b [v0, v1, v2, v3, v4, v5, x, v7] := h.set 6 x

set_option maxRecDepth 100000 in
set_option maxHeartbeats 4000000 in
theorem look_calls (S : Scl) (cv mv gv : Value) (w : World) (hS : InS w cv mv gv S) (hs : sclOk S = true) :
    Calls Tryz.prog 22 #[.agg #[cv, mv, gv, .int .i64 S.sf, .int .i64 S.ch]] w (Looked w S cv mv gv) := by
  obtain ⟨hl96, hl4, hl16, _, hch⟩ := headOk_lens (headOk_of hs)
  have hS0 := hS
  obtain ⟨⟨adc, cc, rfl, rc⟩, ⟨adm, cm, rfl, rm⟩, ⟨adg, cg, rfl, rg⟩⟩ := hS
  have LC := rc.1
  obtain ⟨nc, hnc⟩ : ∃ n, S.cs.length = n := ⟨_, rfl⟩
  obtain ⟨nm, hnm⟩ : ∃ n, S.ms.length = n := ⟨_, rfl⟩
  obtain ⟨ng, hng⟩ : ∃ n, S.gs.length = n := ⟨_, rfl⟩
  rw [hnc, hnm, hng] at hS0
  rw [hnc, hnm, hng]
  rw [hnc] at LC hl96
  rw [hnm] at hl4
  rw [hng] at hl16
  have HNC := Lib.hid hnc
  have HNM := Lib.hid hnm
  have HNG := Lib.hid hng
  have HOKS := Lib.hid hs
  clear hnc hnm hng hs rm rg
  have vs := Vals.newL w (w.heap.size) [.slice adc nc cc, .slice adm nm cm, .slice adg ng cg, .int .i64 S.sf, .int .i64 S.ch] 26 rfl
  have bb := below_alloc w (.cells #[.slice adc nc cc, .slice adm nm cm, .slice adg ng cg, .int .i64 S.sf, .int .i64 S.ch] 26)
  have B := bb
  have bb0 := B
  clear bb
  go_enter Tryz.func22, Tryz.ntmps22
  go_upto_region 1 with (fail)
  generalize (w.alloc (.cells #[.slice adc nc cc, .slice adm nm cm, .slice adg ng cg, .int .i64 S.sf, .int .i64 S.ch] 26)) = w0 at *
  have cvs0 := vs.cell (i := 0) (by simp)
  have cvs1 := vs.cell (i := 1) (by simp)
  have cvs2 := vs.cell (i := 2) (by simp)
  have cvs3 := vs.cell (i := 3) (by simp)
  have cvs4 := vs.cell (i := 4) (by simp)
  simp only [List.getD_cons_zero, List.getD_cons_succ] at cvs0 cvs1 cvs2 cvs3 cvs4
  have ltvs := vs.lt
  go_upto_region 2 with (fail)
  clear cvs0 cvs1 cvs2 cvs3 cvs4 ltvs
  have vx := Vals.newL w0 w0.heap.size [.slice adc nc cc, .slice adm nm cm, .slice adg ng cg, .int .i64 S.sf, .int .i64 S.ch, .slice none 0 0, .slice none 0 0, .slice none 0 0] 71 rfl
  have bb := below_alloc w0 (.cells #[.slice adc nc cc, .slice adm nm cm, .slice adg ng cg, .int .i64 S.sf, .int .i64 S.ch, .slice none 0 0, .slice none 0 0, .slice none 0 0] 71)
  have hbx := vs.lt
  replace vs := vs.mono bb
  replace B := below_trans B bb
  clear bb bb0
  generalize w0.alloc (.cells #[.slice adc nc cc, .slice adm nm cm, .slice adg ng cg, .int .i64 S.sf, .int .i64 S.ch, .slice none 0 0, .slice none 0 0, .slice none 0 0] 71) = W1 at *
  generalize w0.heap.size = bx at *
  have c1 := vs.cell (i := 1) (by simp)
  simp only [List.getD_cons_zero, List.getD_cons_succ] at c1
  have hlx := vx.lt
  go_wp2
  clear c1
  go_loopw [17] (fun iv wr => ∃ m : Nat, iv = .int .i64 (m : Int) ∧ m ≤ nm ∧ (∃ ad c, Vals wr bx [.slice adc nc cc, .slice adm nm cm, .slice adg ng cg, .int .i64 S.sf, .int .i64 S.ch, .slice ad (m * ng) c, .slice none 0 0, .slice none 0 0] ∧ wr.ownsRow (bx + 1) 73 2 (.slice ad (m * ng) c) (m * ng) (flat pcl ((allPk nm ng).take (m * ng)))) ∧ Vals wr w.heap.size [.slice adc nc cc, .slice adm nm cm, .slice adg ng cg, .int .i64 S.sf, .int .i64 S.ch] ∧ Below w.heap.size w wr ∧ bx < wr.heap.size)
    (fun iv _ => nm - (intOf iv).toNat)
  case atStart => exact ⟨0, rfl, Nat.zero_le _, ⟨none, 0, by rw [Nat.zero_mul]; exact vx, by rw [Nat.zero_mul, List.take_zero]; exact ownsRow_nil _ _ _ _⟩, vs, B, hlx⟩
  case round =>
    clear vx vs B hlx
    obtain ⟨m, rfl, hm, ⟨ad, c, vx, hown⟩, vs, B, hlx⟩ := hrel
    by_cases hlt : m < nm
    · have TK := fun g (hg : g < ng) => allPk_take (nm := nm) (ng := ng) hlt hg
      obtain ⟨q, hq⟩ : ∃ q, m * ng = q := ⟨_, rfl⟩
      have hq2 : (m + 1) * ng = q + ng := by rw [Nat.succ_mul, hq]
      have hq3 : q + ng ≤ 64 := by
        rw [← hq2]
        exact Nat.le_trans (Nat.mul_le_mul (show m + 1 ≤ 4 by omega) hl16.2) (by omega)
      rw [hq] at vx hown TK
      have HQ2 := Lib.hid hq2
      have HTK := Lib.hid TK
      clear TK hq hq2
      have c2 := vs.cell (i := 2) (by simp)
      simp only [List.getD_cons_zero, List.getD_cons_succ] at c2
      have lts := vs.lt
      go_wp2
      clear c2 lts
      go_loopw [23] (fun iv wr => ∃ g : Nat, iv = .int .i64 (g : Int) ∧ g ≤ ng ∧ (∃ ad c, Vals wr bx [.slice adc nc cc, .slice adm nm cm, .slice adg ng cg, .int .i64 S.sf, .int .i64 S.ch, .slice ad (q + g) c, .slice none 0 0, .slice none 0 0] ∧ wr.ownsRow (bx + 1) 73 2 (.slice ad (q + g) c) (q + g) (flat pcl ((allPk nm ng).take (q + g)))) ∧ Vals wr w.heap.size [.slice adc nc cc, .slice adm nm cm, .slice adg ng cg, .int .i64 S.sf, .int .i64 S.ch] ∧ Below w.heap.size w wr ∧ bx < wr.heap.size)
        (fun iv _ => ng - (intOf iv).toNat)
      case atStart => exact ⟨0, rfl, Nat.zero_le _, ⟨ad, c, vx, hown⟩, vs, B, hlx⟩
      case round =>
        clear vx hown vs B hlx ad c
        obtain ⟨g, rfl, hg, ⟨ad, c, vx, hown⟩, vs, B, hlx⟩ := hrel
        by_cases hgl : g < ng
        · have HT := Lib.hid (HTK.out g hgl)
          have c5 := vx.cell (i := 5) (by simp)
          simp only [List.getD_cons_zero, List.getD_cons_succ] at c5
          have bb := below_alloc wr (.cells #[.int .i64 (m : Int), .int .i64 (g : Int)] 73)
          go_wp2_with (at_builtin; refine wpList_append_rv rfl (.tmp 30) (.tmp 34) _ rfl (bx + 1) 73 _ 2 16 Tryz.underlying37 info_pick rfl (by decide) _ (q + g) _ rfl (ownsRow_mono hown bb) _ 1 1 [.int .i64 (m : Int), .int .i64 (g : Int)] rfl (Vals.rd (Vals.newL wr wr.heap.size [.int .i64 (m : Int), .int .i64 (g : Int)] 73 rfl) 1 2 rfl 1 (by omega) (by unfold maxLen; omega)) (pcl_one ⟨(m : Int), (g : Int)⟩) (by unfold maxLen; omega) (by omega) (Nat.le_trans hlx bb.size) (q + g + 1) rfl (flat pcl ((allPk nm ng).take (q + g + 1))) (by rw [HT.out, flat_append]; rfl) ?_; intro ad3 c3 w3 hown3 hg3 hn3 hb3 hk3; have vx3 := (vx.mono bb).below hb3 (Nat.lt_succ_self _); have vs3 := (vs.mono bb).below hb3 (by omega); have c5 := vx3.cell (i := 5) (by simp); simp only [List.getD_cons_zero, List.getD_cons_succ] at c5; have f5 := vx3.frozen 5; have lx3 := vx3.lt)
          have ow4 := ownsRow_other hown3 ⟨bx, 5, none⟩ (fun e => by have := (ownsRow_block hown3 _ e).1; dsimp only at this; omega) (.slice ad3 (q + g + 1) c3)
          have vx4 := set8_5 vx3 (.slice ad3 (q + g + 1) c3)
          have vs4 := vs3.other ⟨bx, 5, none⟩ (by dsimp only; omega) (.slice ad3 (q + g + 1) c3)
          have B4 := ((below_trans B bb).trans (hb3.mono (show w.heap.size ≤ bx + 1 by omega))).setCell (p := ⟨bx, 5, none⟩) (by dsimp only; omega) (.slice ad3 (q + g + 1) c3)
          have lx4 : bx < (w3.setCell ⟨bx, 5, none⟩ (.slice ad3 (q + g + 1) c3)).heap.size := by rw [size_set]; exact lx3
          clear vx vs B hown bb hown3 hg3 hn3 hb3 hk3 vx3 vs3 c5 f5 lx3
          go_wp2
          go_roundw
          case rel => exact ⟨g + 1, by go_num, by omega, ⟨ad3, c3, vx4, ow4⟩, vs4, B4, lx4⟩
          case measure => simp [intOf]; omega
        · obtain rfl : g = ng := by omega
          rw [← HQ2.out] at vx hown
          go_wp2
          go_roundw
          case rel => exact ⟨m + 1, by go_num, by omega, ⟨ad, c, vx, hown⟩, vs, B, hlx⟩
          case measure => simp [intOf]; omega
    · obtain rfl : nm = m := by omega
      have hbk := Nat.mul_le_mul hl4.2 hl16.2
      have hbk1 := Nat.mul_le_mul hl4.1 hl16.1
      obtain ⟨K, hK⟩ : ∃ K, nm * ng = K := ⟨_, rfl⟩
      rw [hK] at vx hown hbk hbk1
      rw [List.take_of_length_le (by rw [allPk_len, hK]; exact Nat.le_refl _)] at hown
      obtain ⟨pb, rfl, hp⟩ := ownsRow_pick hown (by rw [allPk_len, hK]) (by omega)
      have HK := Lib.hid hK
      clear hown hK hlt hm
      have hN1 := hlx
      have c0 := vs.cell (i := 0) (by simp)
      simp only [List.getD_cons_zero, List.getD_cons_succ] at c0
      have lts := vs.lt
      have HM3 := Lib.hid (run_make_vals (P := Tryz.prog) 24 3 (.int .i64 0) 8 Tryz.underlying24 info_int rfl K (by omega) (by omega))
      go_upto_region 12 with (fail)
      clear c0 lts
      obtain ⟨N1, hN⟩ : ∃ N, wr.heap.size = N := ⟨_, rfl⟩
      rw [hN] at hp hN1 hlx
      have HN := Lib.hid hN
      have hle : N1 ≤ wr.heap.size := by omega
      clear hN
      obtain ⟨hlm, hge⟩ : K ≤ 64 ∧ 1 ≤ K := ⟨by omega, by omega⟩
      go_wp2
      go_loopw [43] (fun iv wr => ∃ i : Nat, iv = .int .i64 (i : Int) ∧ i ≤ nc ∧ ∃ ad2 c2 Ls, Vals wr bx [.slice adc nc cc, .slice adm nm cm, .slice adg ng cg, .int .i64 S.sf, .int .i64 S.ch, .slice (some ⟨pb, 0, none⟩) K c, .slice ad2 i c2, .slice none 0 0] ∧ PickIn wr (bx + 1) N1 (.slice (some ⟨pb, 0, none⟩) K c) (allPk nm ng) ∧ PrcIn wr N1 wr.heap.size (.slice ad2 i c2) i Ls ∧
          (∀ j, j < i → (Ls.getD j []).length = K ∧ ∀ k, k < K → (Ls.getD j []).getD k 0 = prT S j k) ∧ Vals wr w.heap.size [.slice adc nc cc, .slice adm nm cm, .slice adg ng cg, .int .i64 S.sf, .int .i64 S.ch] ∧ Below w.heap.size w wr ∧ N1 ≤ wr.heap.size)
        (fun iv _ => nc - (intOf iv).toNat)
      case atStart => exact ⟨0, rfl, Nat.zero_le _, none, 0, [], vx, hp, prcIn_nil _ _ _, fun j hj => by omega, vs, B, hle⟩
      case round =>
        clear vx hp vs B hle HN
        obtain ⟨i, rfl, hi, ad2, c2, Ls, vx, hp, hprc, hLs, vs, B, hle⟩ := hrel
        by_cases hil : i < nc
        · have hic : i < S.cs.length := by rw [HNC.out]; exact hil
          have HLs := Lib.hid hLs
          obtain ⟨C, hC⟩ : ∃ C, S.cs.getD i c0 = C := ⟨_, rfl⟩
          have hcc := sclOk_c HOKS.out hic
          rw [hC] at hcc
          obtain ⟨bk, ok, rfl, _⟩ := rc.at hic
          obtain ⟨e0, e1, e2, e3⟩ := (rc.mono B).at2 hic hC
          have i1 : (0 : Int) ≤ (i : Int) := by omega
          have i2 : (i : Int) < (nc : Int) := by omega
          have HCC := Lib.hid hC
          have HC2 := Lib.hid hcc
          clear hC hLs hcc
          go_upto_region 14 with (fail)
          have vc := Vals.newL wr wr.heap.size [.int .i64 C.l, .int .i64 C.f, .int .i64 C.t, .int .i64 C.w] 78 rfl
          have bb := below_alloc wr (.cells #[.int .i64 C.l, .int .i64 C.f, .int .i64 C.t, .int .i64 C.w] 78)
          replace vx := vx.mono bb
          replace vs := vs.mono bb
          replace hp := hp.same (Same.of_below bb hle)
          replace hprc := hprc.same (Same.of_below bb (Nat.le_refl _))
          replace B := below_trans B bb
          have hbc := vc.lt
          clear e0 e1 e2 e3 bb
          generalize wr.alloc (.cells #[.int .i64 C.l, .int .i64 C.f, .int .i64 C.t, .int .i64 C.w] 78) = W1 at *
          generalize wr.heap.size = bc at *
          have c5 := (xcells vx).2.2.1
          have lx := vx.lt
          have M3 := HM3.out
          go_upto_region 15 with (fail)
          clear M3 c5 lx
          have ba := below_alloc W1 (.cells (Array.replicate K (Value.int .i64 0)) 3)
          have hsz3 : W1.heap.size < (W1.alloc (.cells (Array.replicate K (Value.int .i64 0)) 3)).heap.size := by rw [World.size_alloc]; omega
          have FF : KInv w (W1.alloc (.cells (Array.replicate K (Value.int .i64 0)) 3)) bx bc W1.heap.size i 0 K N1 [.slice (some ⟨bk, ok, none⟩) nc cc, .slice adm nm cm, .slice adg ng cg, .int .i64 S.sf, .int .i64 S.ch] [.int .i64 C.l, .int .i64 C.f, .int .i64 C.t, .int .i64 C.w] [.slice (some ⟨bk, ok, none⟩) nc cc, .slice adm nm cm, .slice adg ng cg, .int .i64 S.sf, .int .i64 S.ch, .slice (some ⟨pb, 0, none⟩) K c, .slice ad2 i c2, .slice none 0 0] (.slice (some ⟨pb, 0, none⟩) K c) (.slice ad2 i c2) (allPk nm ng) Ls (prT S i) :=
            ⟨below_trans B ba, vs.mono ba, vx.mono ba, vc.mono ba, hp.same (Same.of_below ba (by omega)), hprc.same (Same.of_below ba (by omega)), hbx, hN1, hle, hbc, hsz3, _, cellZ_made W1 K 3, by simp, fun m hm => by omega⟩
          clear ba hsz3 vx vs hp hprc B vc
          generalize W1.alloc (.cells (Array.replicate K (Value.int .i64 0)) 3) = W2 at *
          generalize W1.heap.size = h at *
          have c5 := (xcells FF.2.2.1).2.2.1
          go_wp2
          clear c5
          go_loopw [58] (fun kv wr => ∃ k : Nat, kv = .int .i64 (k : Int) ∧ k ≤ K ∧ KInv w wr bx bc h i k K N1 [.slice (some ⟨bk, ok, none⟩) nc cc, .slice adm nm cm, .slice adg ng cg, .int .i64 S.sf, .int .i64 S.ch] [.int .i64 C.l, .int .i64 C.f, .int .i64 C.t, .int .i64 C.w] [.slice (some ⟨bk, ok, none⟩) nc cc, .slice adm nm cm, .slice adg ng cg, .int .i64 S.sf, .int .i64 S.ch, .slice (some ⟨pb, 0, none⟩) K c, .slice ad2 i c2, .slice none 0 0] (.slice (some ⟨pb, 0, none⟩) K c) (.slice ad2 i c2) (allPk nm ng) Ls (prT S i))
            (fun kv _ => K - (intOf kv).toNat)
          case atStart => exact ⟨0, rfl, Nat.zero_le _, FF⟩
          case round =>
            clear FF
            obtain ⟨k, rfl, hk, FF⟩ := hrel
            by_cases hkl : k < K
            · have k1 : (0 : Int) ≤ (k : Int) := by omega
              have k2 : (k : Int) < (K : Int) := by omega
              have hpm : pkOk S ⟨((k / ng : Nat) : Int), ((k % ng : Nat) : Int)⟩ = true := by
                have := pk_ok (S := S) (k := k) (by rw [HNM.out, HNG.out, HK.out]; exact hkl)
                rw [HNG.out] at this
                exact this
              have hpr : prT S i k = if strongB S C ⟨((k / ng : Nat) : Int), ((k % ng : Nat) : Int)⟩ then ((priceN S C ⟨((k / ng : Nat) : Int), ((k % ng : Nat) : Int)⟩ : Nat) : Int) else -1 := by
                unfold prT
                rw [decide_eq_true hic, decide_eq_true (show k < S.ms.length * S.gs.length by rw [HNM.out, HNG.out, HK.out]; exact hkl), Bool.true_and, Bool.true_and, HNG.out, HCC.out]
              have SI := fun (cv mv gv : Value) (w : World) (h : InS w cv mv gv S) => strong_calls S C ⟨((k / ng : Nat) : Int), ((k % ng : Nat) : Int)⟩ cv mv gv w h HOKS.out hpm HC2.out
              have PI := fun (cv mv gv : Value) (w : World) (h : InS w cv mv gv S) => price_calls S C ⟨((k / ng : Nat) : Int), ((k % ng : Nat) : Int)⟩ cv mv gv w h HOKS.out hpm HC2.out
              obtain ⟨sb, hsb⟩ : ∃ s, strongB S C ⟨((k / ng : Nat) : Int), ((k % ng : Nat) : Int)⟩ = s := ⟨_, rfl⟩
              obtain ⟨pn, hpn⟩ : ∃ s, priceN S C ⟨((k / ng : Nat) : Int), ((k % ng : Nat) : Int)⟩ = s := ⟨_, rfl⟩
              rw [hsb, hpn] at hpr
              rw [hsb] at SI
              rw [hpn] at PI
              dsimp only at SI PI
              obtain ⟨ka, hka⟩ : ∃ a, ((k / ng : Nat) : Int) = a := ⟨_, rfl⟩
              obtain ⟨kb, hkb⟩ : ∃ a, ((k % ng : Nat) : Int) = a := ⟨_, rfl⟩
              rw [hka, hkb] at SI PI
              have HPR := Lib.hid hpr
              have HSI := Lib.hid SI
              have HPI := Lib.hid PI
              clear hpr SI PI hsb hpn hpm
              obtain ⟨Bf, vsf, vcf, hpf, c5, ⟨z0, chk⟩, fhk⟩ := FF.facts hkl
              obtain ⟨pb2, po2, pc2, hpe, hpl1, hpl2, _, _, hpcell⟩ := hpf
              have hpe2 : pb2 = pb ∧ po2 = 0 := by
                cases hpe
                exact ⟨rfl, rfl⟩
              obtain ⟨rfl, rfl⟩ := hpe2
              have cp := hpcell k (by rw [allPk_len, HK.out]; exact hkl)
              rw [allPk_get (by rw [HK.out]; exact hkl)] at cp
              dsimp only at cp
              rw [Nat.zero_add, hka, hkb] at cp
              obtain ⟨cp0, cp1⟩ := cp
              have lh := cell_lt chk
              clear hpe hpcell hpl1 hpl2 Bf vsf vcf hka hkb
              go_upto_region 19 with (fail)
              have F2 := FF.put (-1)
              have c1 := FF.putc hkl (-1)
              have hs0 := size_set wr ⟨h, k, none⟩ (.int .i64 (-1))
              clear FF chk fhk cp0 cp1 c5 lh
              generalize wr.setCell ⟨h, k, none⟩ (.int .i64 (-1)) = W4 at *
              have bb := below_alloc W4 (.cells #[.int .i64 ka, .int .i64 kb] 73)
              have vp := Vals.newL W4 wr.heap.size [.int .i64 ka, .int .i64 kb] 73 hs0.symm
              replace F2 := F2.mono bb
              replace c1 := (bb.cell (cell_lt c1)).trans c1
              clear bb hs0
              generalize W4.alloc (.cells #[.int .i64 ka, .int .i64 kb] 73) = W5 at *
              generalize wr.heap.size = bp at *
              obtain ⟨Bf, vsf, vcf, _, _, _, _⟩ := F2.facts hkl
              have cvsf0 := vsf.cell (i := 0) (by simp)
              have cvsf1 := vsf.cell (i := 1) (by simp)
              have cvsf2 := vsf.cell (i := 2) (by simp)
              have cvsf3 := vsf.cell (i := 3) (by simp)
              have cvsf4 := vsf.cell (i := 4) (by simp)
              have cvcf0 := vcf.cell (i := 0) (by simp)
              have cvcf1 := vcf.cell (i := 1) (by simp)
              have cvcf2 := vcf.cell (i := 2) (by simp)
              have cvcf3 := vcf.cell (i := 3) (by simp)
              have cvp0 := vp.cell (i := 0) (by simp)
              have cvp1 := vp.cell (i := 1) (by simp)
              simp only [List.getD_cons_zero, List.getD_cons_succ] at cvsf0 cvsf1 cvsf2 cvsf3 cvsf4 cvcf0 cvcf1 cvcf2 cvcf3 cvp0 cvp1
              have lt1 := vsf.lt
              have lt2 := vcf.lt
              have lt3 := vp.lt
              have IS := Lib.hid (hS0.mono Bf)
              clear Bf vsf vcf
              go_wp2_with fail
              clear cvsf0 cvsf1 cvsf2 cvsf3 cvsf4 cvcf0 cvcf1 cvcf2 cvcf3 cvp0 cvp1 lt1 lt2 lt3
              refine (HSI.out _ _ _ _ IS.out).mono ?_
              rintro e z1 ⟨rfl, b5⟩
              replace F2 := F2.mono b5
              replace vp := vp.mono b5
              replace c1 := (b5.cell (cell_lt c1)).trans c1
              clear b5 IS
              cases sb with
              | false =>
                have F3 := F2.stay hkl c1 (by rw [HPR.out]; rfl)
                clear c1 F2
                go_wp2
                go_roundw
                case rel => exact ⟨k + 1, by go_num, by omega, F3⟩
                case measure => simp [intOf]; omega
              | true =>
                obtain ⟨Bf, vsf, vcf, _, _, _, _⟩ := F2.facts hkl
                have cvsf0 := vsf.cell (i := 0) (by simp)
                have cvsf1 := vsf.cell (i := 1) (by simp)
                have cvsf2 := vsf.cell (i := 2) (by simp)
                have cvsf3 := vsf.cell (i := 3) (by simp)
                have cvsf4 := vsf.cell (i := 4) (by simp)
                have cvcf0 := vcf.cell (i := 0) (by simp)
                have cvcf1 := vcf.cell (i := 1) (by simp)
                have cvcf2 := vcf.cell (i := 2) (by simp)
                have cvcf3 := vcf.cell (i := 3) (by simp)
                have cvp0 := vp.cell (i := 0) (by simp)
                have cvp1 := vp.cell (i := 1) (by simp)
                simp only [List.getD_cons_zero, List.getD_cons_succ] at cvsf0 cvsf1 cvsf2 cvsf3 cvsf4 cvcf0 cvcf1 cvcf2 cvcf3 cvp0 cvp1
                have lt1 := vsf.lt
                have lt2 := vcf.lt
                have lt3 := vp.lt
                have IS := Lib.hid (hS0.mono Bf)
                clear Bf vsf vcf
                go_wp2_with fail
                clear cvsf0 cvsf1 cvsf2 cvsf3 cvsf4 cvcf0 cvcf1 cvcf2 cvcf3 cvp0 cvp1 lt1 lt2 lt3
                refine (HPI.out _ _ _ _ IS.out).mono ?_
                rintro e z2 ⟨rfl, b5⟩
                replace F2 := F2.mono b5
                clear b5 IS vp c1
                obtain ⟨_, _, _, _, _, ⟨z0, chk⟩, fhk⟩ := F2.facts hkl
                have lh := cell_lt chk
                have F3 := F2.store hkl ((pn : Nat) : Int) (by rw [HPR.out]; rfl)
                clear F2
                go_wp2
                go_roundw
                case rel => exact ⟨k + 1, by go_num, by omega, F3⟩
                case measure => simp [intOf]; omega
            · obtain rfl : K = k := by omega
              obtain ⟨B, vs, vx, vc, hp, hprc, _, _, _, hbh, hhl, zs, hz, hzl, hzv⟩ := FF
              obtain ⟨Mv, m1, m2, hown, m4, m5⟩ := hprc
              have c6 := (xcells vx).2.2.2.1
              have M1 := Lib.hid m1
              have M2 := Lib.hid m2
              have M4 := Lib.hid m4
              have M5 := Lib.hid m5
              have HZL := Lib.hid hzl
              have HZV := Lib.hid hzv
              clear m1 m2 m4 m5 hzl hzv vc
              have bb := below_alloc wr (.cells #[.slice (some ⟨h, 0, none⟩) K K] 24)
              go_wp2_with (at_builtin; refine wpList_append_rv rfl (.tmp 82) (.tmp 84) _ rfl N1 24 _ 1 24 Tryz.underlying68 info_i1 rfl (by decide) _ i _ rfl (ownsRow_mono hown bb) _ 1 1 [.slice (some ⟨h, 0, none⟩) K K] rfl (Vals.rd (Vals.newL wr wr.heap.size [.slice (some ⟨h, 0, none⟩) K K] 24 rfl) 1 1 rfl 1 (by omega) (by unfold maxLen; omega)) (by intro u hu; simp only [List.mem_cons, List.not_mem_nil, or_false] at hu; subst hu; rfl) (by unfold maxLen; omega) (by omega) (by rw [World.size_alloc]; omega) (i + 1) rfl _ rfl ?_; intro ad3 c3 w3 hown3 hg3 hn3 hb3 hk3; have vx3 := (vx.mono bb).below hb3 hN1; have vs3 := (vs.mono bb).below hb3 (by omega); have c6 := (xcells vx3).2.2.2.1; have f6 := vx3.frozen 6; have lx3 := vx3.lt)
              have hp3 := (hp.same (Same.of_below bb (by omega))).same (Same.of_below hb3 (Nat.le_refl _))
              have pr3 := PrcIn.push HZL.out M1.out M2.out hown3 hg3 hk3 M4.out (Nat.le_of_lt hbh) (fun j hj => (M5.out j hj).imp fun g h => h.imp fun c h => ⟨h.1, h.2.1, h.2.2.1, h.2.2.2.1, h.2.2.2.2.1, h.2.2.2.2.2.1.mono bb, h.2.2.2.2.2.2⟩) (hz.mono bb) (by omega) (Nat.le_of_eq HZL.out) (by unfold maxLen; omega)
              have B3 := ((below_trans B bb).trans (hb3.mono (show w.heap.size ≤ N1 by omega))).setCell (p := ⟨bx, 6, none⟩) (by dsimp only; omega) (.slice ad3 (i + 1) c3)
              have vx4 := set8_6 vx3 (.slice ad3 (i + 1) c3)
              have vs4 := vs3.other ⟨bx, 6, none⟩ (by dsimp only; omega) (.slice ad3 (i + 1) c3)
              have hp4 := hp3.same ((Same.refl _ _ w3).setCell ⟨bx, 6, none⟩ (.inl (Nat.lt_succ_self _)) (.slice ad3 (i + 1) c3))
              have pr4 := pr3.same ((Same.refl _ _ w3).setCell ⟨bx, 6, none⟩ (.inl hN1) (.slice ad3 (i + 1) c3))
              have hs4 := size_set w3 ⟨bx, 6, none⟩ (.slice ad3 (i + 1) c3)
              rw [← hs4] at pr4
              have hle4 : N1 ≤ (w3.setCell ⟨bx, 6, none⟩ (.slice ad3 (i + 1) c3)).heap.size := by
                rw [hs4]
                have := hb3.size
                rw [World.size_alloc] at this
                omega
              have HLS2 := Lib.hid (show ∀ j, j < i + 1 → ((Ls ++ [zs]).getD j []).length = K ∧ ∀ k, k < K → ((Ls ++ [zs]).getD j []).getD k 0 = prT S j k from fun j hj => by
                by_cases e : j < i
                · have e2 : (Ls ++ [zs]).getD j [] = Ls.getD j [] := by simp [List.getD, List.getElem?_append_left (show j < Ls.length by rw [M2.out]; exact e)]
                  rw [e2]
                  exact HLs.out j e
                · obtain rfl : j = i := by omega
                  have e2 : (Ls ++ [zs]).getD j [] = zs := by simp [List.getD, ← M2.out]
                  rw [e2]
                  exact ⟨HZL.out, HZV.out⟩)
              clear vx vs B hp hz hown bb hown3 hg3 hn3 hb3 hk3 vx3 vs3 hp3 pr3 hs4
              go_wp2
              go_roundw
              case rel => exact ⟨i + 1, by go_num, by omega, ad3, c3, _, vx4, hp4, pr4, HLS2.out, vs4, B3, hle4⟩
              case measure => simp [intOf]; omega
        · obtain rfl : nc = i := by omega
          have T := (hprc.tab hl96.1 hLs).weak (lo' := bx + 1) (hi' := wr.heap.size) (by omega) (Nat.le_refl _)
          have P := hp.weak (lo' := bx + 1) (hi' := wr.heap.size) (Nat.le_refl _) hle
          have HT := Lib.hid T
          have HP := Lib.hid P
          clear T P hLs hprc hp
          go_wp2
          go_ret
          exact ⟨bx, _, _, rfl, by omega, vx, by rw [HNM.out, HNG.out]; exact HP.out, by rw [HNC.out, HNM.out, HNG.out, HK.out]; exact HT.out, B⟩

end Go.Proofs
end

