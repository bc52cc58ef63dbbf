/- For NatWeighted: the plain law of the weighted digits; a region that draws its order and ends in a store; four boxes. -/
import Derived.Test.YtbpkobjiinkpoaaWDigits
import Derived.Test.YtbpkobjiinkpoaaMore
open Go.RowKit
namespace Go.Proofs
set_option linter.unusedVariables false
set_option linter.unusedSimpArgs false

/-! ### the plain law -/
def ws (d : Nat) : List (Dg d) → Nat
  | [] => 0
  | x :: xs => x.1 + d * ws d xs
theorem ws_snoc (d : Nat) (x : Dg d) : ∀ (pre : List (Dg d)), ws d (pre ++ [x]) = ws d pre + d ^ pre.length * x.1
  | [] => by simp [ws]
  | y :: pre => by
    rw [List.cons_append, ws, ws, ws_snoc d x pre, List.length_cons, Nat.pow_succ, Nat.mul_add, Nat.add_assoc, ← Nat.mul_assoc, Nat.mul_comm d (d ^ pre.length)]
theorem ws_lt (d : Nat) : ∀ (pre : List (Dg d)), ws d pre < d ^ pre.length
  | [] => by simp [ws]
  | y :: pre => by
    have h := ws_lt d pre
    have hy := y.2
    rw [ws, List.length_cons, Nat.pow_succ]
    have h2 : d * (ws d pre + 1) ≤ d * d ^ pre.length := Nat.mul_le_mul_left d h
    rw [Nat.mul_add, Nat.mul_one] at h2
    rw [Nat.mul_comm (d ^ pre.length) d]
    omega
theorem ws_digs (d : Nat) (hd : 2 ≤ d) : ∀ (m : Nat), ws d (digs d m) = m := by
  intro m
  induction m using Nat.strongRecOn with
  | _ m ih =>
    by_cases h : m = 0
    · subst h; rw [digs_zero]; rfl
    · rw [digs_pos h hd, ws, ih (m / d) (Nat.div_lt_self (by omega) (by omega))]
      exact Nat.mod_add_div m d
def lastD (d : Nat) (pre : List (Dg d)) : Nat := (pre.getLast?.map (·.1)).getD 1
theorem lastD_snoc (d : Nat) (pre : List (Dg d)) (x : Dg d) : lastD d (pre ++ [x]) = x.1 := by simp [lastD]
theorem lastD_digs (d : Nat) (hd : 2 ≤ d) : ∀ (m : Nat), lastD d (digs d m) ≠ 0 := by
  intro m
  induction m using Nat.strongRecOn with
  | _ m ih =>
    by_cases h : m = 0
    · subst h; rw [digs_zero]; exact Nat.one_ne_zero
    · rw [digs_pos h hd]
      by_cases h2 : m / d = 0
      · rw [h2, digs_zero]
        have h3 : m < d := by
          rcases Nat.div_eq_zero_iff.1 h2 with h4 | h4
          · omega
          · exact h4
        show m % d ≠ 0
        rw [Nat.mod_eq_of_lt h3]
        exact h
      · have h3 := ih (m / d) (Nat.div_lt_self (by omega) (by omega))
        rw [digs_pos h2 hd] at h3 ⊢
        exact h3
theorem pow_room (d k : Nat) (hd : d < 4294967296) : (limbs (d ^ k)).length ≤ k + 1 := by
  refine limbs_length_le ?_
  exact Nat.lt_of_le_of_lt (Nat.pow_le_pow_left (Nat.le_of_lt hd) k) (Nat.pow_lt_pow_right (by omega) (Nat.lt_succ_self k))
theorem ws_room (d : Nat) (pre : List (Dg d)) (hd : d < 4294967296) : (limbs (ws d pre)).length ≤ pre.length + 1 :=
  Nat.le_trans (limbs_length_mono (Nat.le_of_lt (ws_lt d pre))) (pow_room d _ hd)

/-! ### a region in whatever order, its last operation a store into a cell that it has read -/
section
variable {P : Program} {ops : Array Oper} {Q : Exit → Act → World → Prop} {md : Region.Mode} {S : World → Prop} {L : Nat}

/-- S holds behind every operation but number L -/
def wpAnyT (P : Program) (md : Region.Mode) (ops : Array Oper) (Q : Exit → Act → World → Prop) (S : World → Prop) (L : Nat) : Nat → Array Bool → Act → World → Prop
  | 0, listed, a, w => Region.ready md ops listed = [] ∧ Q .normal a w
  | fuel + 1, listed, a, w =>
    (Region.ready md ops listed = [] → Q .normal a w) ∧
    ∀ i ∈ Region.ready md ops listed, wpOp P ops Q i (fun a' w' => (i ≠ L → S w') ∧ wpAnyT P md ops Q S L fuel (listed.setIfInBounds i true) a' w') a w

theorem wpAny_of_T : ∀ (fuel : Nat) (listed : Array Bool) (a : Act) (w : World), wpAnyT P md ops Q S L fuel listed a w → wpAny P md ops Q fuel listed a w
  | 0, _, _, _, h => h
  | fuel + 1, _, _, _, h => ⟨h.1, fun i hi => wpOp_mono (fun a' w' h' => wpAny_of_T fuel _ a' w' h'.2) (h.2 i hi)⟩

/-- number L waits for number i -/
def waitsFor (md : Region.Mode) (ops : Array Oper) (L i : Nat) : Bool := match ops[L]? with | some o => o.after.any (fun e => Region.binds md e && e.on == i) | none => false
theorem waitsFor_spec {i : Nat} {oL : Oper} (ho : ops[L]? = some oL) (h : waitsFor md ops L i = true) : ¬ ∀ e ∈ oL.after, Region.binds md e = true → e.on ≠ i := by
  intro hno
  unfold waitsFor at h
  rw [ho] at h
  obtain ⟨e, he, hb⟩ := Array.any_eq_true'.1 h
  simp only [Bool.and_eq_true, beq_iff_eq] at hb
  exact hno e he hb.1 hb.2

theorem wpAnyT_first {i : Nat} {oi : Oper} {v : Value} (hi : ops[i]? = some oi) (hL : waitsFor md ops L i = true) (hiL : i ≠ L) (hsel : ∀ (j : Nat) (o : Oper) cs b, ops[j]? = some o → o.op ≠ .select cs b)
    (hQ : ∀ c a w, Q (.panic c) (a.put oi.dst v) w → Q (.panic c) a w) :
    ∀ (fuel : Nat) (listed : Array Bool) (a : Act) (w : World),
      (∀ j oj, ops[j]? = some oj → j ≠ i → listed.getD j true = false → (∀ e ∈ oj.after, Region.binds md e = true → e.on ≠ i) → oi.apart ops oj = true) →
      i ∈ Region.ready md ops listed → YieldsIf P ops S oi v a → S w →
      wpAnyT P md ops Q S L fuel (listed.setIfInBounds i true) (a.put oi.dst v) w → wpAnyT P md ops Q S L (fuel + 1) listed a w := by
  intro fuel
  induction fuel with
  | zero =>
    intro listed a w _ hr hy hS H
    refine ⟨fun h => absurd hr (by rw [h]; exact List.not_mem_nil), fun j hj => ?_⟩
    by_cases e : j = i
    · subst e
      exact hy.wpOp hi hS ⟨fun _ => hS, H⟩
    · have h2 := ready_mono hj e
      rw [H.1] at h2
      cases h2
  | succ fuel ih =>
    intro listed a w hfree hr hy hS H
    refine ⟨fun h => absurd hr (by rw [h]; exact List.not_mem_nil), fun j hj => ?_⟩
    by_cases e : j = i
    · subst e
      exact hy.wpOp hi hS ⟨fun _ => hS, H⟩
    · have h1 := H.2 j (ready_mono hj e)
      obtain ⟨hun, oj, hoj, hall⟩ := mem_ready.1 hj
      have hno : ∀ e ∈ oj.after, Region.binds md e = true → e.on ≠ i := by
        intro e he hb heq
        have h3 := hall e he hb
        have h4 := (mem_ready.1 hr).1
        rw [heq] at h3
        rcases Nat.lt_or_ge i listed.size with h' | h'
        · simp only [Array.getD_eq_getD_getElem?, Array.getElem?_eq_getElem h', Option.getD_some] at h3 h4
          rw [h4] at h3
          cases h3
        · simp only [Array.getD_eq_getD_getElem?, Array.getElem?_eq_none h', Option.getD_none] at h3
          cases h3
      have hjL : j ≠ L := fun e' => by
        subst e'
        exact waitsFor_spec hoj hL hno
      have h2 := wpOp_putIf hoj (hfree j oj hoj e hun hno) (fun cs b => hsel i oi cs b hi) (fun cs b => hsel j oj cs b hoj) hQ hy h1
      have hfree2 : ∀ k ok, ops[k]? = some ok → k ≠ i → (listed.setIfInBounds j true).getD k true = false → (∀ e ∈ ok.after, Region.binds md e = true → e.on ≠ i) → oi.apart ops ok = true := by
        intro k ok hk hki hun2 hno2
        refine hfree k ok hk hki ?_ hno2
        by_cases hjk : j = k
        · subst hjk; exact hun
        · rw [Go.getD_set_ne true hjk] at hun2; exact hun2
      refine wpOp_mono (fun a' w' h3 => ⟨h3.2.1, ih (listed.setIfInBounds j true) a' w' hfree2 (ready_mono hr (Ne.symm e)) h3.1 (h3.2.1 hjL) ?_⟩) h2
      rw [Array.setIfInBounds_comm _ _ e]
      exact h3.2.2

theorem wpAnyT_take {i : Nat} {oi : Oper} {v : Value} {fuel : Nat} {listed : Array Bool} {a : Act} {w : World} (hi : ops[i]? = some oi) (hL : waitsFor md ops L i = true) (hiL : (i == L) = false)
    (hs : Region.noSelect ops = true) (hf : Region.free md ops listed i = true) (hr : (Region.ready md ops listed).contains i = true)
    (hQ : ∀ c a w, Q (.panic c) (a.put oi.dst v) w → Q (.panic c) a w) (hy : YieldsIf P ops S oi v a) (hS : S w)
    (h : wpAnyT P md ops Q S L fuel (listed.setIfInBounds i true) (a.put oi.dst v) w) : wpAnyT P md ops Q S L (fuel + 1) listed a w :=
  wpAnyT_first hi hL (by simpa using hiL) (Region.noSelect_spec hs) hQ fuel listed a w (Region.free_spec hi hf) (by simpa using hr) hy hS h

/-- one operation alone may come up -/
theorem wpAnyT_one {i : Nat} {o : Oper} {fuel : Nat} {listed : Array Bool} {a : Act} {w : World} (hr : Region.ready md ops listed = [i]) (ho : ops[i]? = some o)
    (h : ∀ K' : Act → World → Prop, Shut (∀ a w, (i ≠ L → S w) → ((i ≠ L → S w) → wpAnyT P md ops Q S L fuel (listed.setIfInBounds i true) a w) → K' a w) → if Region.wanted o (yielded ops a.tmps) = true then Oper.wp P o a w K' Q else K' (a.put o.dst undef) w) :
    wpAnyT P md ops Q S L (fuel + 1) listed a w := by
  refine ⟨fun h0 => (by rw [hr] at h0; cases h0), fun j hj => ?_⟩
  rw [hr] at hj
  rw [List.mem_singleton.1 hj]
  exact wpOp_step ho (fun K' hK => h K' (fun a w hS hW => hK a w ⟨hS, hW hS⟩))

theorem wpAnyT_done {listed : Array Bool} {a : Act} {w : World} (hr : Region.ready md ops listed = []) (h : Q .normal a w) : ∀ fuel, wpAnyT P md ops Q S L fuel listed a w
  | 0 => ⟨hr, h⟩
  | _ + 1 => ⟨fun _ => h, by rw [hr]; simp⟩
end

/-- the beginning, in a round of a range over a function -/
theorem wpIn_region_T {P : Program} {S : World → Prop} {ops : Array Oper} {Q : Exit → Act → World → Prop} {n l id L : Nat} {a : Act} {w : World} (hm : P.follows .mixedOrders = true) (hd : noDefer ops = true) (hS : S w.drew)
    (h : S w.drew → wpAnyT P .any ops (OnlyEnd (Q .normal)) S L ops.size (Array.replicate ops.size false) a w.drew) : (Code.region id ops true).wpIn (Fence.wide.inRound l) n P Q a w :=
  wpIn_region_any hm (wpAnyIn_of hd _ _ _ _ (wpAny_of_T _ _ _ _ (h hS)))

theorem onlyEnd_mk {K : Act → World → Prop} {a : Act} {w : World} (h : K a w) : OnlyEnd K .normal a w := h

/-! ### four boxes -/
def FourB (g : Nat) (_ : World) (k : Nat) : Prop := g ≤ k ∧ k < g + 4
theorem fourB_mine (g : Nat) : Mine g (FourB g) where
  below _ _ _ _ _ h := h
  turn _ _ _ _ _ h := h
/-- what a round may do: make blocks, write the four boxes -/
structure Kc (g : Nat) (W W' : World) : Prop where
  size : W.heap.size ≤ W'.heap.size
  same : ∀ k, k < W.heap.size → ¬ (g ≤ k ∧ k < g + 4) → W'.heap[k]? = W.heap[k]?
theorem Kc.below {g : Nat} {W W' : World} (h : Below W.heap.size W W') : Kc g W W' := ⟨h.size, fun k hk _ => h.block k hk⟩
theorem Kc.trans {g : Nat} {X Y Z : World} (h : Kc g X Y) (k : Kc g Y Z) : Kc g X Z :=
  ⟨Nat.le_trans h.size k.size, fun i hi hn => (k.same i (Nat.lt_of_lt_of_le hi h.size) hn).trans (h.same i hi hn)⟩
theorem Kc.set {g b : Nat} (W : World) (u : Value) (h1 : g ≤ b) (h2 : b < g + 4) : Kc g W (W.setCell ⟨b, 0, none⟩ u) :=
  ⟨(KeepsWalks.setCell W (⟨b, 0, none⟩ : Addr) u).size, fun k _ hn => Below.heap_setCell _ (⟨b, 0, none⟩ : Addr) _ k (fun e => hn (by show g ≤ k ∧ _; dsimp only at e; omega))⟩
theorem Kc.keep {g : Nat} {W W' : World} (h : Kc g W W') (hg : g + 4 ≤ W.heap.size) : KeepB (FourB g) W W' :=
  ⟨h.size, fun k o hk _ hB => (h.same k (Array.getElem?_eq_some_iff.1 hk).1 hB).trans hk, fun _ _ h => h, fun _ k hk => by have := hk.2; have := h.size; omega⟩
theorem KeepsOthers.of_set {B g : Nat} {W W' : World} (h : Kc g W W') (hc : ∀ k, g ≤ k → k < g + 4 → ∃ o : Obj, W.heap[k]? = some o ∧ o.isCells = true) : KeepsFrom B W W' :=
  ⟨h.size, fun k o _ hk ho => by
    refine (h.same k (Array.getElem?_eq_some_iff.1 hk).1 (fun hb => ?_)).trans hk
    obtain ⟨o2, h2, h3⟩ := hc k hb.1 hb.2
    rw [hk] at h2
    cases h2
    rw [ho] at h3
    cases h3⟩
theorem Num.own {W W' : World} {row : Option Nat} {v : Value} {n : Nat} (h : Num W v n) (hg : W.grownBy W' row) (hrow : ∀ r, row = some r → ∃ o : Obj, W.heap[r]? = some o ∧ o.isCells = false) : Num W' v n := by
  obtain ⟨ad, c, rfl, h1, h2, h3, h4⟩ := h
  refine ⟨ad, c, rfl, h1, h2, h3, ?_⟩
  rcases h4 with h4 | ⟨b, o, rfl, hb, hc⟩
  · exact .inl h4
  · exact .inr ⟨b, o, rfl, Nat.lt_of_lt_of_le hb hg.size, fun i hi => ⟨cell_kept (hc i hi).1 hg hrow, (frozen_kept (hc i hi).1 hg hrow).trans (hc i hi).2⟩⟩
theorem Vals.own {W W' : World} {row : Option Nat} {b : Nat} {vs : List Value} (h : Vals W b vs) (hg : W.grownBy W' row) (hrow : ∀ r, row = some r → ∃ o : Obj, W.heap[r]? = some o ∧ o.isCells = false) : Vals W' b vs := by
  have hl := h.lt
  obtain ⟨e, h⟩ := h
  refine ⟨e, (hg.block b hl (fun e' => ?_)).trans h⟩
  obtain ⟨o, ho, hc⟩ := hrow b e'.symm
  rw [h] at ho
  cases ho
  cases hc
/-- the four variables of the loop -/
def WSt (g d : Nat) (pre : List (Dg d)) (W : World) : Prop :=
  ∃ vs vw, Vals W g [vs] ∧ Vals W (g + 1) [vw] ∧ Vals W (g + 2) [.int .i64 ((pre.length : Nat) : Int)] ∧ Vals W (g + 3) [.int .u32 ((lastD d pre : Nat) : Int)] ∧
    Num W vs (ws d pre) ∧ Num W vw (d ^ pre.length) ∧ Off (FourB g W) vs ∧ Off (FourB g W) vw
theorem Vals.drewV {w : World} {b : Nat} {vs : List Value} (h : Vals w b vs) : Vals w.drew b vs := h
theorem Num.drewV {w : World} {v : Value} {n : Nat} (h : Num w v n) : Num w.drew v n := h
theorem wst_own (g d : Nat) : _root_.Go.Own (WSt g d) := by
  rintro pre W W' row ⟨vs, vw, h1, h2, h3, h4, h5, h6, h7, h8⟩ hg hrow
  exact ⟨vs, vw, h1.own hg hrow, h2.own hg hrow, h3.own hg hrow, h4.own hg hrow, h5.own hg hrow, h6.own hg hrow, h7, h8⟩
theorem Vals.c1 {w : World} {g : Nat} {v : Value} (h : Vals w g [v]) : w.cell? ⟨g, 0, none⟩ = some v := by simpa using h.cell (i := 0) (by simp)
theorem Off.world {g : Nat} {W W' : World} {v : Value} (h : Off (FourB g W) v) : Off (FourB g W') v := h
theorem wst_cells {g d : Nat} {pre : List (Dg d)} {W : World} (h : WSt g d pre W) : ∀ k, g ≤ k → k < g + 4 → ∃ o : Obj, W.heap[k]? = some o ∧ o.isCells = true := by
  obtain ⟨vs, vw, h1, h2, h3, h4, _⟩ := h
  intro k k0 k1
  have hc : ∀ (b : Nat) (us : List Value), Vals W b us → ∃ o : Obj, W.heap[b]? = some o ∧ o.isCells = true := fun b us ⟨e, h⟩ => ⟨_, h, rfl⟩
  rcases (show k = g ∨ k = g + 1 ∨ k = g + 2 ∨ k = g + 3 by omega) with rfl | rfl | rfl | rfl
  · exact hc _ _ h1
  · exact hc _ _ h2
  · exact hc _ _ h3
  · exact hc _ _ h4
theorem wst_mono {g d : Nat} {pre : List (Dg d)} {W W' : World} (h : WSt g d pre W) (hb : Below W.heap.size W W') : WSt g d pre W' := by
  obtain ⟨vs, vw, h1, h2, h3, h4, h5, h6, h7, h8⟩ := h
  exact ⟨vs, vw, h1.mono hb, h2.mono hb, h3.mono hb, h4.mono hb, h5.mono hb, h6.mono hb, h7, h8⟩
theorem wst_new (w : World) (d : Nat) (v6 v7 : Value) (t u i j : TypeId) (h6 : Num w v6 0) (h7 : Num w v7 1) :
    ∃ W, (((w.alloc (.cells #[v6] t)).alloc (.cells #[v7] u)).alloc (.cells #[.int .i64 0] i)).alloc (.cells #[.int .u32 1] j) = W ∧ WSt w.heap.size d [] W ∧ Below w.heap.size w W ∧ W.heap.size = w.heap.size + 4 := by
  refine ⟨_, rfl, ?_⟩
  have b1 := below_alloc w (.cells #[v6] t)
  have b2 := below_alloc (w.alloc (.cells #[v6] t)) (.cells #[v7] u)
  have b3 := below_alloc ((w.alloc (.cells #[v6] t)).alloc (.cells #[v7] u)) (.cells #[.int .i64 0] i)
  have b4 := below_alloc (((w.alloc (.cells #[v6] t)).alloc (.cells #[v7] u)).alloc (.cells #[.int .i64 0] i)) (.cells #[.int .u32 1] j)
  have c6 := (((Vals.newL w w.heap.size [v6] t rfl).mono b2).mono b3).mono b4
  have c7 := ((Vals.newL (w.alloc (.cells #[v6] t)) (w.heap.size + 1) [v7] u (by rw [World.size_alloc])).mono b3).mono b4
  have c8 := (Vals.newL ((w.alloc (.cells #[v6] t)).alloc (.cells #[v7] u)) (w.heap.size + 2) [.int .i64 0] i (by rw [World.size_alloc, World.size_alloc])).mono b4
  have c9 := Vals.newL (((w.alloc (.cells #[v6] t)).alloc (.cells #[v7] u)).alloc (.cells #[.int .i64 0] i)) (w.heap.size + 3) [.int .u32 1] j (by rw [World.size_alloc, World.size_alloc, World.size_alloc])
  have bb := below_trans (below_trans (below_trans b1 b2) b3) b4
  refine ⟨⟨v6, v7, c6, c7, c8, c9, h6.mono bb, ?_, off_of_num h6 (fun k hk => hk.1), off_of_num h7 (fun k hk => hk.1)⟩, bb, by rw [World.size_alloc, World.size_alloc, World.size_alloc, World.size_alloc]⟩
  exact h7.mono bb
theorem Off.apart {g b : Nat} {W : World} {v : Value} (h : Off (FourB g W) v) (h1 : g ≤ b) (h2 : b < g + 4) : Apart b v := by
  unfold Off at h
  unfold Apart
  split
  · rename_i a _ _
    exact fun e => h ⟨by omega, by omega⟩
  · trivial
theorem Num.put {w : World} {v : Value} {n b : Nat} (h : Num w v n) (hb : Apart b v) (u : Value) : Num (w.setCell ⟨b, 0, none⟩ u) v n := h.only (only_set w ⟨b, 0, none⟩ u) hb
theorem fresh_off {r g : Nat} {v : Value} (W : World) (h : Fresh r v) (hg : g + 4 ≤ r) : Off (FourB g W) v := by
  unfold Fresh at h
  unfold Off
  split
  · exact fun e => by have := e.2; dsimp only at h; omega
  · trivial
theorem leave1 {fn : Func} {p : Tmp} (h : fn.results = #[.cell p 4]) (F : Fence) (n : Nat) (tmps : Array Value) (w w1 : World) (g D1 : Nat)
    (hp : tmps.getD p undef = .pointer (some ⟨g, 0, none⟩)) (B : Below w.heap.size w w1) (vr : Vals w1 g [.bool true]) (hg : w.heap.size ≤ g)
    (hK1 : w1.heap[D1]? = some (.deferred (some []))) (hgD : g < D1) :
    LeavesInM F n Try.prog fn tmps (RetTrue w) [{ target := .collected D1, args := #[] }] .returning w1 := by
  refine ⟨by simp, .inl ⟨_, _, rfl, run_takeDeferred hK1, ?_⟩⟩
  have v3 := vr.put (.deferred none) (show g ≠ D1 by omega)
  have b1 := belowK_b (n₀ := w.heap.size) (w := w) (Nat.le_refl _) w1 D1 _ (.deferred none) (by omega) hK1 rfl rfl
  exact ⟨_, results_cell_bool h tmps _ g true hp (v3.cell (i := 0) (by simp)), rfl, B.trans b1⟩

end Go.Proofs
