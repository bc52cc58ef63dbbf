/- slices of fractions. -/
import Derived.Test.YtnogieknjcbchaaDoorVals
import Derived.Test.YtnogieknjcbchaaDoorGrow
import Derived.Test.YtnogieknjcbchaaDoorToneA
open Go.RowKit Go.Deep
namespace Go.Proofs
set_option linter.unusedVariables false
set_option linter.unusedSimpArgs false

def fcells : List (Int × Int) → List Value
  | [] => []
  | p :: L => .int .i64 p.1 :: .int .i64 p.2 :: fcells L
theorem fcells_length : ∀ L, (fcells L).length = L.length * 2
  | [] => rfl
  | p :: L => by simp only [fcells, List.length_cons, fcells_length L]; omega
theorem fcells_append : ∀ L M, fcells (L ++ M) = fcells L ++ fcells M
  | [], M => rfl
  | p :: L, M => by simp only [fcells, List.cons_append, fcells_append L M]
theorem fcells_get : ∀ (L : List (Int × Int)) (i : Nat), i < L.length → (fcells L)[2 * i]? = some (.int .i64 (L.getD i (0, 0)).1) ∧ (fcells L)[2 * i + 1]? = some (.int .i64 (L.getD i (0, 0)).2)
  | [], i, h => by simp at h
  | p :: L, 0, h => by simp [fcells]
  | p :: L, i + 1, h => by
    have := fcells_get L i (by simpa using h)
    rw [show 2 * (i + 1) = 2 * i + 1 + 1 by omega]
    simpa [fcells] using this
theorem fcells_one : ∀ (L : List (Int × Int)), ∀ u ∈ fcells L, u.oneCell' = true
  | [], u, h => by cases h
  | p :: L, u, h => by
    simp only [fcells, List.mem_cons] at h
    rcases h with rfl | rfl | h
    · rfl
    · rfl
    · exact fcells_one L u h

theorem info_frac : (Tryd.prog.info? 29).map (fun i => (i.zero, i.size, i.bytes)) = some (some (.agg #[.int .i64 0, .int .i64 0]), 2, 16) := by kernel_rfl

/-- fractions in a block of the call's own, to which it appends -/
def OwnF (w : World) (B : Nat) (v : Value) (L : List (Int × Int)) : Prop := w.ownsRow B 29 2 v L.length (fcells L)
theorem ownF_nil (w : World) (B : Nat) : OwnF w B (.slice none 0 0) [] := ⟨rfl, .inl ⟨rfl, rfl⟩⟩
theorem OwnF.block {w B v L} (h : OwnF w B v L) : ∀ k, v.ownBlock = some k → B ≤ k ∧ k < w.heap.size := by
  intro k hk
  obtain ⟨hl, h1⟩ := h
  rcases h1 with ⟨rfl, _⟩ | ⟨g, cap, cur, rfl, hg, hh, r⟩
  · cases hk
  · cases hk
    exact ⟨hg, lt_of_block hh⟩
theorem OwnF.mono {w w' : World} {B v L} (h : OwnF w B v L) (hb : Below w.heap.size w w') : OwnF w' B v L := by
  have hk := h.block
  obtain ⟨hl, h1⟩ := h
  refine ⟨hl, ?_⟩
  rcases h1 with h1 | ⟨g, cap, cur, rfl, hg, hh, r⟩
  · exact .inl h1
  · refine .inr ⟨g, cap, cur, rfl, hg, ?_, r⟩
    rw [hb.block g (hk g rfl).2]
    exact hh
theorem OwnF.form {w B v L} (h : OwnF w B v L) : ∃ ad c, v = .slice ad L.length c := by
  obtain ⟨hl, h1⟩ := h
  rcases h1 with ⟨rfl, h2⟩ | ⟨g, cap, cur, rfl, hg, hh, r⟩
  · exact ⟨none, 0, by rw [h2]⟩
  · exact ⟨_, _, rfl⟩
theorem OwnF.other {w : World} {B v L} (h : OwnF w B v L) (p : Addr) (hp : p.block < B) (u : Value) : OwnF (w.setCell p u) B v L := by
  obtain ⟨hl, h1⟩ := h
  refine ⟨hl, ?_⟩
  rcases h1 with h1 | ⟨g, cap, cur, rfl, hg, hh, r⟩
  · exact .inl h1
  · refine .inr ⟨g, cap, cur, rfl, hg, ?_, r⟩
    rw [Below.heap_setCell _ _ _ _ (show g ≠ p.block by omega)]
    exact hh
theorem OwnF.drew {w : World} {B v L} (h : OwnF w B v L) : OwnF w.drew B v L := h

/-- fractions that can be read -/
def RdF (w : World) (ad : Option Addr) (L : List (Int × Int)) : Prop :=
  (ad = none ∧ L = []) ∨ ∃ g, ad = some ⟨g, 0, none⟩ ∧ ∀ i, i < L.length → w.cell? ⟨g, 2 * i, none⟩ = some (.int .i64 (L.getD i (0, 0)).1) ∧ w.cell? ⟨g, 2 * i + 1, none⟩ = some (.int .i64 (L.getD i (0, 0)).2)
def InF (w : World) (v : Value) (L : List (Int × Int)) : Prop := ∃ ad c, v = .slice ad L.length c ∧ RdF w ad L
theorem cell_ltF {w : World} {a : Addr} {v : Value} (h : w.cell? a = some v) : a.block < w.heap.size := by
  by_cases hb : a.block < w.heap.size
  · exact hb
  · have e : w.heap[a.block]? = none := by simp; omega
    simp [World.cell?, e] at h
theorem RdF.mono {w w' : World} {ad L} (h : RdF w ad L) (hb : Below w.heap.size w w') : RdF w' ad L := by
  rcases h with h | ⟨g, rfl, h⟩
  · exact .inl h
  · exact .inr ⟨g, rfl, fun i hi => ⟨(hb.cell (cell_ltF (h i hi).1)).trans (h i hi).1, (hb.cell (cell_ltF (h i hi).2)).trans (h i hi).2⟩⟩
theorem InF.mono {w w' : World} {v L} (h : InF w v L) (hb : Below w.heap.size w w') : InF w' v L := by
  obtain ⟨ad, c, rfl, h⟩ := h
  exact ⟨ad, c, rfl, h.mono hb⟩
theorem OwnF.inF {w B v L} (h : OwnF w B v L) : InF w v L := by
  obtain ⟨hl, h1⟩ := h
  rcases h1 with ⟨rfl, h2⟩ | ⟨g, cap, cur, rfl, hg, hh, hn, hc, hs, ht⟩
  · exact ⟨none, 0, by rw [h2], .inl ⟨rfl, List.eq_nil_of_length_eq_zero h2⟩⟩
  · refine ⟨_, _, rfl, .inr ⟨g, rfl, fun i hi => ?_⟩⟩
    obtain ⟨h3, h4⟩ := fcells_get L i hi
    rw [← ht] at h3 h4
    rw [List.getElem?_take] at h3 h4
    rw [if_pos (by omega)] at h3 h4
    constructor
    · simp only [World.cell?, hh]
      simpa using h3
    · simp only [World.cell?, hh]
      simpa using h4

theorem Vals.grownBy {w w' : World} {b : Nat} {vs : List Value} {o : Option Nat} (h : Vals w b vs) (hg : w.grownBy w' o) (hc : o ≠ some b) : Vals w' b vs := by
  have hl := h.lt
  obtain ⟨e, h⟩ := h
  exact ⟨e, (hg.block b hl (fun e => hc e.symm)).trans h⟩

/-- append of one fraction to what the call itself made -/
theorem wpList_append_frac {P : Program} {w : World} {ops : Array Oper} {rest : List Oper} {o : Oper} {a : Act} {Q : Exit → Act → World → Prop} (hgd : o.guard = none) (s x : Operand) (t : TypeId)
    (ho : o.op = .call { callee := .builtin .append, args := #[s, x], argTypes := #[t, t] })
    (ht : P.underlying t = some (.slice 29)) (h2 : (P.info? 29).map (fun i => (i.zero, i.size, i.bytes)) = some (some (.agg #[.int .i64 0, .int .i64 0]), 2, 16))
    (B : Nat) (v : Value) (L : List (Int × Int)) (hv : a.eval s = v) (hown : OwnF w B v L) (hB : B ≤ w.heap.size)
    (b c : Nat) (p q : Int) (hx : a.eval x = .slice (some ⟨b, 0, none⟩) 1 c) (hs : Vals w b [.int .i64 p, .int .i64 q]) (hl : L.length ≤ 1000000)
    (h : ∀ ad c' w', OwnF w' B (.slice ad (L.length + 1) c') (L ++ [(p, q)]) → Below B w w' → (∀ b' vs, v.ownBlock ≠ some b' → Vals w b' vs → Vals w' b' vs) → wpList P ops Q rest (a.put o.dst (.slice ad (L.length + 1) c')) w') : wpList P ops Q (o :: rest) a w := by
  obtain ⟨i, hi, z0, z1, z2⟩ := info_parts h2
  have hk := OwnF.block hown
  refine wpList_append_own w hgd s _ t ho B 29 i _ 2 16 ht hi z0 z1 z2 rfl (by decide) v L.length (fcells L) hv hown
    ⟨b, 0, none⟩ 1 c [.int .i64 p, .int .i64 q] hx rfl (fun j u hj => ?_) (fun u hu => ?_) (by unfold maxLen; omega) (by omega) hB ?_
  · rw [add_off]
    have hj2 : j < 2 := by
      have := (List.getElem?_eq_some_iff.1 hj).1
      simpa using this
    have := hs.cell (i := j) (by simpa using hj2)
    rw [Nat.zero_add, this]
    rcases j with _ | _ | j
    · simpa using hj
    · simpa using hj
    · omega
  · simp only [List.mem_cons, List.not_mem_nil, or_false] at hu
    rcases hu with rfl | rfl <;> rfl
  · intro v' w' hown' hgrow hne
    have e : fcells L ++ [.int .i64 p, .int .i64 q] = fcells (L ++ [(p, q)]) := by rw [fcells_append]; rfl
    rw [e] at hown'
    have hlen : L.length + 1 = (L ++ [(p, q)]).length := by simp
    rw [hlen] at hown'
    obtain ⟨ad, c', rfl⟩ := OwnF.form hown'
    rw [← hlen] at hown'
    rw [← hlen]
    refine h ad c' w' (by unfold OwnF; rw [← hlen]; exact hown') ((Below.refl _ _).grown hgrow hB fun k hk' => (hk k hk').1) fun b' vs hb' hv' => hv'.grownBy hgrow hb'

/-- fractions are returned -/
def RetFr (w : World) (L : List (Int × Int)) (e : Ending) (w' : World) : Prop := ∃ v, e = .returned v ∧ InF w' v L ∧ Below w.heap.size w w'
/-- fractions and a number are returned -/
def RetFrE (w : World) (L : List (Int × Int)) (k : Int) (e : Ending) (w' : World) : Prop := ∃ v, e = .returned (.tuple #[v, .int .i64 k]) ∧ InF w' v L ∧ Below w.heap.size w w'

end Go.Proofs
