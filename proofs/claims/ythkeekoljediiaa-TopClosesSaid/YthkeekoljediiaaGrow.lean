/- A slice of limbs that the call itself made, and to which it appends: laws of the world. -/
import Derived.Test.YthkeekoljediiaaBase
open Go.RowKit
namespace Go.Proofs
set_option linter.unusedVariables false
set_option linter.unusedSimpArgs false

/-- v is a slice of xs in a block that is at B or beyond and begins with it -/
def Own (B : Nat) (w : World) (v : Value) (xs : List Nat) : Prop :=
  w.ownsRow B 109 1 v xs.length (lims xs) ∧ ∀ x ∈ xs, x < 4294967296

theorem Own.sl {B w v xs} (h : Own B w v xs) : ∃ ad c, v = .slice ad xs.length c ∧ Sl w ad c xs ∧ ∀ a, ad = some a → B ≤ a.block := owns_sl h.1 h.2

theorem own_made (w : World) : Own w.heap.size (w.alloc (.cells #[] 109)) (.slice (some ⟨w.heap.size, 0, none⟩) 0 0) [] :=
  ⟨⟨rfl, .inr ⟨w.heap.size, 0, #[], rfl, Nat.le_refl _, by rw [heap_alloc_new], Nat.le_refl _, Nat.zero_le _, rfl, rfl⟩⟩, by intro x hx; cases hx⟩

theorem Own.num {B w v xs} (h : Own B w v xs) (hc : limbs (val xs) = xs) : Num w v (val xs) ∧ Fresh B v := by
  obtain ⟨ad, c, rfl, hs, hf⟩ := h.sl
  exact ⟨⟨ad, c, by rw [hc], by rw [hc]; exact hs⟩, fresh_of hf⟩

theorem Own.grown {B B' : Nat} {w w' : World} {v : Value} {xs : List Nat} (h : Own B w v xs) (hb : Below B' w w') (hlt : ∀ k, v.ownBlock = some k → k < B') : Own B w' v xs := by
  obtain ⟨⟨hl, h1⟩, hd⟩ := h
  refine ⟨⟨hl, ?_⟩, hd⟩
  rcases h1 with h1 | ⟨g, cap, cur, rfl, hg, hh, r⟩
  · exact .inl h1
  · refine .inr ⟨g, cap, cur, rfl, hg, ?_, r⟩
    rw [hb.block g (hlt g rfl)]
    exact hh

theorem Own.block {B w v xs} (h : Own B w v xs) : ∀ k, v.ownBlock = some k → B ≤ k ∧ k < w.heap.size := by
  intro k hk
  obtain ⟨⟨hl, h1⟩, hd⟩ := h
  rcases h1 with ⟨rfl, _⟩ | ⟨g, cap, cur, rfl, hg, hh, r⟩
  · cases hk
  · cases hk
    exact ⟨hg, lt_of_block hh⟩

theorem Own.mono {B w w' v xs} (h : Own B w v xs) (hb : Below w.heap.size w w') : Own B w' v xs :=
  h.grown hb fun k hk => (h.block k hk).2

/-- what can be read at a slice: limbs, or nothing -/
def Rd (w : World) (ad : Option Addr) (c : Nat) (ys : List Nat) : Prop :=
  ys.length ≤ c ∧ c ≤ maxLen ∧ (∀ x ∈ ys, x < 4294967296) ∧ ((ad = none ∧ c = 0) ∨ ∃ x, ad = some x ∧ ∀ i, i < ys.length → w.cell? (x.add i) = some (.int .u32 (ys.getD i 0)))

theorem add_off (b o j : Nat) : (Addr.mk b o none).add j = ⟨b, o + j, none⟩ := by
  unfold Addr.add
  split
  · subst_vars; rfl
  · rfl

theorem Sl.rd {w ad c ys} (h : Sl w ad c ys) : Rd w ad c ys := by
  obtain ⟨h1, h2, h3, h | ⟨b, o, rfl, hb, hc⟩⟩ := h
  · exact ⟨h1, h2, h3, .inl h⟩
  · exact ⟨h1, h2, h3, .inr ⟨_, rfl, fun i hi => by rw [add_off]; exact (hc i hi).1⟩⟩

/-- append: to what the call made, whatever slice of limbs -/
theorem wpList_append_rd {P : Program} {w : World} {ops : Array Oper} {rest : List Oper} {o : Oper} {a : Act} {Q : Exit → Act → World → Prop} (hgd : o.guard = none) (s x : Operand) (t : TypeId)
    (ho : o.op = .call { callee := .builtin .append, args := #[s, x], argTypes := #[t, t] })
    (ht : P.underlying t = some (.slice 109)) (h2 : (P.info? 109).map (fun i => (i.zero, i.size, i.bytes)) = some (some (.int .u32 0), 1, 4))
    (B : Nat) (v : Value) (xs : List Nat) (hv : a.eval s = v) (hown : Own B w v xs) (hB : B ≤ w.heap.size)
    (ad : Option Addr) (m c : Nat) (ys : List Nat) (hx : a.eval x = .slice ad m c) (hm : m = ys.length) (hs : Rd w ad c ys) (hl : xs.length + ys.length ≤ 1099511627776)
    (h : ∀ v' w', Own B w' v' (xs ++ ys) → Below B w w' → wpList P ops Q rest (a.put o.dst v') w') : wpList P ops Q (o :: rest) a w := by
  subst hm
  obtain ⟨i, hi, z0, z1, z2⟩ := info_parts h2
  have hd := hs.2.2.1
  have hdd : ∀ x ∈ xs ++ ys, x < 4294967296 := by
    intro x hx
    rcases List.mem_append.1 hx with h1 | h1
    · exact hown.2 x h1
    · exact hd x h1
  rcases hs.2.2.2 with ⟨rfl, rfl⟩ | ⟨x, rfl, hc⟩
  · have h0 : ys = [] := List.eq_nil_of_length_eq_zero (by have := hs.1; omega)
    subst h0
    refine wpList_append_own_none hgd s x t ho B 109 i 1 ht hi v xs.length (lims xs) hv hown.1 hx ?_
    have := h v w (by rw [List.append_nil]; exact hown) (Below.refl _ _)
    exact this
  · refine wpList_append_own w hgd s _ t ho B 109 i (.int .u32 0) 1 4 ht hi z0 z1 z2 rfl (by decide) v xs.length (lims xs) hv hown.1
      x ys.length c (lims ys) hx (by simp [lims]) (fun j u hj => ?_) (fun u hu => ?_) (by unfold maxLen; omega) (by omega) hB ?_
    · have hj' : j < ys.length := by
        have := (List.getElem?_eq_some_iff.1 hj).1
        simpa [lims] using this
      have hv : u = .int .u32 (ys.getD j 0) := by
        simp [lims, hj'] at hj
        simp [List.getD, hj', ← hj]
      rw [hv]
      exact hc j hj'
    · obtain ⟨y, _, rfl⟩ := List.mem_map.1 hu
      rfl
    · intro v' w' hown' hgrow _
      have e : lims xs ++ lims ys = lims (xs ++ ys) := by simp [lims]
      rw [e] at hown'
      refine h v' w' ⟨by rw [List.length_append]; exact hown', hdd⟩ ((Below.refl _ _).grown hgrow hB ?_)
      intro k hk
      exact (hown.block k hk).1

theorem wpList_append_lims {P : Program} {w : World} {ops : Array Oper} {rest : List Oper} {o : Oper} {a : Act} {Q : Exit → Act → World → Prop} (hgd : o.guard = none) (s x : Operand) (t : TypeId)
    (ho : o.op = .call { callee := .builtin .append, args := #[s, x], argTypes := #[t, t] })
    (ht : P.underlying t = some (.slice 109)) (h2 : (P.info? 109).map (fun i => (i.zero, i.size, i.bytes)) = some (some (.int .u32 0), 1, 4))
    (B : Nat) (v : Value) (xs : List Nat) (hv : a.eval s = v) (hown : Own B w v xs) (hB : B ≤ w.heap.size)
    (ad : Option Addr) (m c : Nat) (ys : List Nat) (hx : a.eval x = .slice ad m c) (hm : m = ys.length) (hs : Sl w ad c ys) (hl : xs.length + ys.length ≤ 1099511627776)
    (h : ∀ v' w', Own B w' v' (xs ++ ys) → Below B w w' → wpList P ops Q rest (a.put o.dst v') w') : wpList P ops Q (o :: rest) a w :=
  wpList_append_rd hgd s x t ho ht h2 B v xs hv hown hB ad m c ys hx hm hs.rd hl h

/-- a slice of one limb that was just made -/
theorem sl_one (w : World) (d : Nat) (z : Int) (hz : z = (d : Int)) (hd : d < 4294967296) (e : Nat) : Sl (w.alloc (.cells #[Value.int .u32 z] e)) (some ⟨w.heap.size, 0, none⟩) 1 [d] := by
  subst hz
  exact (row_one w d e hd).whole (by simp [maxLen])

end Go.Proofs
