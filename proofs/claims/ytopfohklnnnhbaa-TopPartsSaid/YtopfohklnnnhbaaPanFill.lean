/- panel: fill finds the greatest value of every rectangle. -/
import Derived.Test.YtopfohklnnnhbaaPanIter
import Derived.Deep.Cut
open Go.RowKit Go.Shelf Go.Deep
namespace Go.Proofs
set_option linter.unusedVariables false
set_option linter.unusedSimpArgs false
attribute [local go_sem] Oper.semAt_some

/-- the iterator of ways, as a range over a function wants it -/
theorem ways_stops (m : Nat) (hm : 1 ≤ m) (g b kf : Nat) (ad : Option Addr) (n c : Nat) (sh : List Shp) (T : Nat → Nat → Int) (s x y i j : Nat)
    (hi1 : 1 ≤ i) (hi2 : i ≤ 64) (hj1 : 1 ≤ j) (hj2 : j ≤ 64) (hkf : kf ≤ 8) (hT : ∀ a b, 0 ≤ T a b ∧ T a b ≤ 1000000000000) (hn : n ≤ 16)
    (hbg : b < g) (hgs : s ≠ g) (hgx : x ≠ g) (hgy : y ≠ g) (w : World) (hg : g < w.heap.size) (hq : SawQ w b kf ad n c sh T s x y i j) :
    SeqStopsK Fence.wide m Try.prog 11 #[.pointer (some ⟨s, 0, none⟩), .pointer (some ⟨x, 0, none⟩), .pointer (some ⟨y, 0, none⟩)]
      (fun z : Wy => #[.agg #[.int .i64 (z.k : Int), .int .i64 (z.p : Int), .int .i64 z.v]]) (KeepO g) (fun ys => ys = waysL T kf sh i j) (fun pre => pre <+: waysL T kf sh i j) (waysL T kf sh i j).length w := fun l J Jx W hW hJ hJx hY h0 =>
  ways1_in m hm g l b kf ad n c sh T s x y i j (waysL T kf sh i j) rfl hi1 hi2 hj1 hj2 hkf hT hn hbg hgs hgx hgy J Jx W (Nat.lt_of_lt_of_le hg hW.size) hJ (fun pre z W1 hp hj => hY pre z W1 hj (by have := hp.length_le; rw [List.length_append, List.length_singleton] at this; omega)) (hq.mono hW) h0

/-- the table, filled up to the rectangle i times j -/
def tabS (kf : Nat) (sh : List Shp) (H i j a b : Nat) : Int := if 1 ≤ b ∧ b ≤ H ∧ 1 ≤ a ∧ (a < i ∨ (a = i ∧ b < j)) then VV kf sh a b else 0
theorem tabS_ways {kf : Nat} {sh : List Shp} {H i j : Nat} (hi : 1 ≤ i) (hj : 1 ≤ j) (hH : j ≤ H) : waysL (tabS kf sh H i j) kf sh i j = waysL (VV kf sh) kf sh i j := by
  refine waysL_congr (fun a b ha hb hab => ?_) hi hj
  unfold tabS
  by_cases h : a = 0 ∨ b = 0
  · rw [if_neg (by omega), VV_zero h]
  · rw [if_pos (by omega)]
theorem tabS_bound {kf : Nat} {sh : List Shp} {H i j : Nat} (hs : ∀ s ∈ sh, s.v ≤ 1000000) (hH : H ≤ 64) (hi : i ≤ 65) : ∀ a b, 0 ≤ tabS kf sh H i j a b ∧ tabS kf sh H i j a b ≤ 1000000000000 := by
  intro a b
  unfold tabS
  split
  · rename_i h
    obtain ⟨h1, h2⟩ := VV_bound (kf := kf) (show (0 : Int) ≤ 1000000 by omega) hs (a + b) a b (Nat.le_refl _)
    refine ⟨h1, Int.le_trans h2 ?_⟩
    have h3 : a * b ≤ 65 * 64 := Nat.mul_le_mul (by omega) (by omega)
    omega
  · omega
theorem Saw.congr {w b kf ad n c sh T T'} (h : Saw w b kf ad n c sh T) (hT : ∀ i j, i < 65 → j < 65 → T i j = T' i j) : Saw w b kf ad n c sh T' :=
  ⟨h.k0, h.k1, fun i j hi hj => by rw [← hT i j hi hj]; exact h.tab i j hi hj, h.fr, h.rd, h.len, h.la⟩
theorem Saw.setT {w b kf ad n c sh T} (h : Saw w b kf ad n c sh T) {T' : Nat → Nat → Int} {i j : Nat} (hi : i < 65) (hj : j < 65) (v : Int) (hT : ∀ a c, a < 65 → c < 65 → T' a c = if a = i ∧ c = j then v else T a c) :
    Saw (w.setCell ⟨b, 2 + i * 65 + j, none⟩ (.int .i64 v)) b kf ad n c sh T' := by
  have oth : ∀ q : Nat, q ≠ 2 + i * 65 + j → (w.setCell ⟨b, 2 + i * 65 + j, none⟩ (.int .i64 v)).cell? ⟨b, q, none⟩ = w.cell? ⟨b, q, none⟩ := fun q hq =>
    World.cell?_setCell_other w ⟨b, 2 + i * 65 + j, none⟩ ⟨b, q, none⟩ _ (by intro e; injection e with e1 e2; exact hq e2.symm)
  refine ⟨by rw [oth 0 (by omega)]; exact h.k0, by rw [oth 1 (by omega)]; exact h.k1, fun a d ha hd => ?_, fun o => by rw [World.frozen?_setCell]; exact h.fr o, ?_, h.len, h.la⟩
  · rw [hT a d ha hd]
    by_cases e : a = i ∧ d = j
    · rw [if_pos e, e.1, e.2]
      exact World.cell?_setCell_same _ _ _ (h.tab i j hi hj)
    · rw [if_neg e, oth _ (by omega)]
      exact h.tab a d ha hd
  · exact h.rd.keep fun bb o e hn q u hu => by
      have hlt := h.la bb o e hn
      rw [World.cell?_setCell_far _ _ _ _ (by show b ≠ bb; omega)]
      exact hu
theorem tabS_step {kf : Nat} {sh : List Shp} {H i j : Nat} (hi : 1 ≤ i) (hj : 1 ≤ j) (hH : j ≤ H) (a c : Nat) : tabS kf sh H i (j + 1) a c = if a = i ∧ c = j then VV kf sh i j else tabS kf sh H i j a c := by
  unfold tabS
  by_cases e : a = i ∧ c = j
  · obtain ⟨rfl, rfl⟩ := e
    rw [if_pos (by omega), if_pos ⟨rfl, rfl⟩]
  · rw [if_neg e]
    by_cases h : 1 ≤ c ∧ c ≤ H ∧ 1 ≤ a ∧ (a < i ∨ (a = i ∧ c < j + 1))
    · rw [if_pos h, if_pos (by omega)]
    · rw [if_neg h, if_neg (by omega)]
theorem tabS_row {kf : Nat} {sh : List Shp} {H i : Nat} (a c : Nat) : tabS kf sh H i (H + 1) a c = tabS kf sh H (i + 1) 1 a c := by
  unfold tabS
  by_cases h : 1 ≤ c ∧ c ≤ H ∧ 1 ≤ a ∧ (a < i ∨ (a = i ∧ c < H + 1))
  · rw [if_pos h, if_pos (by omega)]
  · rw [if_neg h, if_neg (by omega)]
theorem tabS_zero {kf : Nat} {sh : List Shp} {H : Nat} (a c : Nat) : tabS kf sh H 1 1 a c = 0 := by
  unfold tabS
  rw [if_neg (by omega)]
/-- the whole table -/
def tabV (kf : Nat) (sh : List Shp) (W H a b : Nat) : Int := tabS kf sh H (W + 1) 1 a b
theorem tabV_in {kf : Nat} {sh : List Shp} {W H a b : Nat} (ha : a ≤ W) (hb : b ≤ H) : tabV kf sh W H a b = VV kf sh a b := by
  unfold tabV tabS
  by_cases h : a = 0 ∨ b = 0
  · rw [if_neg (by omega), VV_zero h]
  · rw [if_pos (by omega)]

def sawCells (k s : Value) : Array Value := (k :: s :: List.replicate 4225 (Value.int .i64 0)).toArray
set_option maxRecDepth 100000 in
theorem saw_built (kf : Int) (ad : Option Addr) (n c : Nat) : Try.prog.built 45 [(0, .int .i64 kf), (1, .slice ad n c)] = some (sawCells (.int .i64 kf) (.slice ad n c)) := by kernel_rfl
theorem wpList_build_saw {ops : Array Oper} {rest : List Oper} {o : Oper} {a : Act} {w : World} {Q : Exit → Act → World → Prop} (hg : o.guard = none) (x y : Operand) (ho : o.op = .build 45 #[(0, x), (1, y)])
    (kf : Int) (ad : Option Addr) (n c : Nat) (hx : a.eval x = .int .i64 kf) (hy : a.eval y = .slice ad n c)
    (h : wpList Try.prog ops Q rest (a.put o.dst (.agg (sawCells (.int .i64 kf) (.slice ad n c)))) w) : wpList Try.prog ops Q (o :: rest) a w := by
  have e : (#[(0, x), (1, y)].map fun (z : Nat × Operand) => (z.1, a.eval z.2)).toList = [(0, .int .i64 kf), (1, .slice ad n c)] := by simp [hx, hy]
  have e2 : Try.prog.built 45 (#[(0, x), (1, y)].map fun (z : Nat × Operand) => (z.1, a.eval z.2)).toList = some (sawCells (.int .i64 kf) (.slice ad n c)) := by rw [e]; exact saw_built kf ad n c
  exact wpList_plain hg fun _ hK => wp_build _ _ ho (by exact (congrArg Option.isSome e2).trans rfl) (hK _ _ (by
    have e3 : (Try.prog.built 45 (#[(0, x), (1, y)].map fun (z : Nat × Operand) => (z.1, a.eval z.2)).toList).getD #[] = sawCells (.int .i64 kf) (.slice ad n c) := by rw [e2]; rfl
    exact e3 ▸ h))
theorem saw_new {w : World} {kf : Nat} {ad : Option Addr} {n c : Nat} {sh : List Shp} (hl : sh.length = n) (hrd : RdV w ad c n 4 (flat scl sh)) : Saw (w.alloc (.cells (sawCells (.int .i64 (kf : Int)) (.slice ad n c)) 45)) w.heap.size kf ad n c sh (fun _ _ => 0) := by
  have hb := below_alloc w (.cells (sawCells (.int .i64 (kf : Int)) (.slice ad n c)) 45)
  have hcell : ∀ q u, (Value.int .i64 (kf : Int) :: Value.slice ad n c :: List.replicate 4225 (Value.int .i64 0))[q]? = some u → (w.alloc (.cells (sawCells (.int .i64 (kf : Int)) (.slice ad n c)) 45)).cell? ⟨w.heap.size, q, none⟩ = some u := by
    intro q u hu
    have hv := Vals.newL w w.heap.size (Value.int .i64 (kf : Int) :: Value.slice ad n c :: List.replicate 4225 (Value.int .i64 0)) 45 rfl
    have h1 := hv.cell (List.getElem?_eq_some_iff.1 hu).1
    rw [getD_of hu] at h1
    exact h1
  refine ⟨hcell 0 _ rfl, hcell 1 _ rfl, fun i j hi hj => hcell _ _ ?_, fun o => (Vals.newL w w.heap.size (Value.int .i64 (kf : Int) :: Value.slice ad n c :: List.replicate 4225 (Value.int .i64 0)) 45 rfl).frozen o, hrd.mono hb, hl, fun bb o e hn => ?_⟩
  · rw [show 2 + i * 65 + j = (i * 65 + j) + 1 + 1 by omega, List.getElem?_cons_succ, List.getElem?_cons_succ, List.getElem?_replicate, if_pos (by omega)]
  · obtain ⟨h1, h2, h3, h4⟩ := hrd
    rcases h4 with h4 | ⟨b2, o2, e2, h4⟩
    · omega
    · rw [e] at e2
      cases e2
      have h0 : (flat scl sh)[0]? = some ((flat scl sh)[0]'(by rw [h1]; omega)) := List.getElem?_eq_getElem _
      exact cell_ltV (h4 0 _ h0)

theorem boxedOnlyP_own {β : Type} (b : Nat) (t : TypeId) (f : β → Value) (G : β → Prop) : _root_.Go.Own (fun s W => Boxed W b t (f s) ∧ G s) := by
  rintro s X Y row ⟨hv, hG⟩ hg hrow
  refine ⟨hv.kept hg (fun e' => ?_), hG⟩
  obtain ⟨o, ho, hc⟩ := hrow b e'.symm
  rw [show X.heap[b]? = _ from hv] at ho
  cases ho
  cases hc
theorem valsP_own {B lo : Nat} {vs : List Value} {a' : Act} {f : Nat → Act} : OwnFrom B (fun (_ : Unit) W => ∃ p, lo < p ∧ Vals W p vs ∧ a' = f p) := by
  rintro _ X Y row ⟨p, h1, ⟨e, h2⟩, h3⟩ hg hrow
  refine ⟨p, h1, ⟨e, (hg.block p (Array.getElem?_eq_some_iff.1 h2).1 (fun e' => ?_)).trans h2⟩, h3⟩
  obtain ⟨_, o, ho, hc⟩ := hrow p e'.symm
  rw [h2] at ho
  cases ho
  cases hc

/-- the values of a way as a block holds them -/
def wcl (z : Wy) : List Value := [.int .i64 (z.k : Int), .int .i64 (z.p : Int), .int .i64 z.v]
/-- a range over ways, whose loop variable lies in a block of its own (behind lo); fr: the frame of a round -/
theorem wpIn_rangeWays {g : Operand} {ps : Array Tmp} {assign body : Code} {Q : Exit → Act → World → Prop} {a : Act} {w : World} {lb : Array Value} (hg : a.eval g = .func (.func 11) #[] lb)
    {gg N : Nat} {S Sp : List Wy → Prop} (hseq : SeqStopsK Fence.wide 8 Try.prog 11 lb (fun z : Wy => #[.agg #[.int .i64 (z.k : Int), .int .i64 (z.p : Int), .int .i64 z.v]]) (KeepO gg) S Sp N w) (hps : ps.size = 1)
    (I : List Wy → World → Prop) (Ix : Code → List Wy → World → Prop) (hI : OwnFrom w.heap.size I) (hIx : ∀ c, OwnFrom w.heap.size (Ix c)) (h0 : I [] w) (lo : Nat) (fr : Wy → Nat → Act)
    (hassign : ∀ (l : Nat) (pre : List Wy) (z : Wy) (W : World) (K : Act → World → Prop), I pre W → (∀ a' W', KeepsFrom w.heap.size W W' → KeepO gg W W' → I pre W' → (∃ p, lo < p ∧ Vals W' p (wcl z) ∧ a' = fr z p) → K a' W') →
      assign.wpIn (Fence.wide.inRound l) 7 Try.prog (Exit.then K (fun _ _ _ => False)) { tmps := (ps.zip #[.agg #[.int .i64 (z.k : Int), .int .i64 (z.p : Int), .int .i64 z.v]]).foldl (fun t (p, v) => t.setIfInBounds p v) a.tmps, defers := [] } W)
    (hbody : ∀ (l : Nat) (pre : List Wy) (z : Wy) (p : Nat) (W : World), I pre W → lo < p → Vals W p (wcl z) → pre.length < N → body.wpIn (Fence.wide.inRound l) 7 Try.prog (ownPostG w.heap.size (KeepO gg) I Ix (pre ++ [z]) W) (fr z p) W)
    (hdone : ∀ (D : Nat) (xs : List Wy) (W : World), w.heap.size ≤ D → S xs → I xs W → W.heap[D]? = some (.deferred (some [])) → Q .normal { a with defers := { target := .collected D, args := #[] } :: a.defers } W)
    (hstop : ∀ (D : Nat) (c : Code) (pre : List Wy) (W : World), w.heap.size ≤ D → Sp pre → Ix c pre W → W.heap[D]? = some (.deferred (some [])) → c.wpIn Fence.wide 9 Try.prog Q { a with defers := { target := .collected D, args := #[] } :: a.defers } W) :
    (Code.rangeFunc g ps assign body).wpIn Fence.wide 9 Try.prog Q a w :=
  wpIn_rangeFunc_ownH (F := Fence.wide) (n := 9) rfl (by omega) (gf := 11) (lb := lb) hg trivial (enters_of Try.func11 (by kernel_rfl) rfl)
    hseq (fun h k => KeepO.trans h k) (fun W l o o' _ h1 h2 _ => KeepO.turn gg W l o o' h1 h2) (Below.refl _ _) (fun _ => hps.symm) I Ix hI hIx h0
    (fun z a' W => ∃ p, lo < p ∧ Vals W p (wcl z) ∧ a' = fr z p) (fun z a' => valsP_own) hassign
    (fun l pre z a' W _ _ hi ⟨p, h1, h2, h3⟩ hl => by subst h3; exact hbody l pre z p W hi h1 h2 hl) hdone hstop

/-- the marks that the ranges over functions have left among the deferred calls -/
def Marks (lo : Nat) (W : World) : List Deferred → Prop
  | [] => True
  | d :: ds => ∃ D, d = { target := .collected D, args := #[] } ∧ lo ≤ D ∧ W.heap[D]? = some (.deferred (some [])) ∧ (∀ E, { target := .collected E, args := #[] } ∈ ds → E ≠ D) ∧ Marks lo W ds
theorem Marks.mono {lo : Nat} {W W' : World} (hb : Below W.heap.size W W') : ∀ {ds : List Deferred}, Marks lo W ds → Marks lo W' ds
  | [], _ => trivial
  | _ :: _, ⟨D, h1, h2, h3, h4, h5⟩ => ⟨D, h1, h2, (hb.block D (Array.getElem?_eq_some_iff.1 h3).1).trans h3, h4, h5.mono hb⟩
theorem Marks.drew {lo : Nat} {W : World} {ds : List Deferred} (h : Marks lo W ds) : Marks lo W.drew ds := h.mono ((Below.refl _ _).drew)
theorem heap_set_dfd {W : World} {p : Addr} {u : Value} {D : Nat} {l : Option (List Deferred)} (h : W.heap[D]? = some (.deferred l)) : (W.setCell p u).heap[D]? = some (.deferred l) := by
  by_cases e : D = p.block
  · have hlt : D < W.heap.size := (Array.getElem?_eq_some_iff.1 h).1
    have hv : W.heap[D] = .deferred l := (Array.getElem?_eq_some_iff.1 h).2
    show (W.heap.modify p.block _)[D]? = _
    rw [Array.getElem?_eq_getElem (by simpa using hlt), Array.getElem_modify]
    simp [hv]
  · exact (Below.heap_setCell _ _ _ _ e).trans h
theorem Marks.set {lo : Nat} {W : World} (p : Addr) (u : Value) : ∀ {ds : List Deferred}, Marks lo W ds → Marks lo (W.setCell p u) ds
  | [], _ => trivial
  | _ :: _, ⟨D, h1, h2, h3, h4, h5⟩ => ⟨D, h1, h2, heap_set_dfd h3, h4, h5.set p u⟩
theorem Marks.lt {lo : Nat} {W : World} : ∀ {ds : List Deferred}, Marks lo W ds → ∀ E, { target := .collected E, args := #[] } ∈ ds → E < W.heap.size
  | [], _, E, h => by cases h
  | _ :: _, ⟨D, h1, h2, h3, h4, h5⟩, E, h => by
    rcases List.mem_cons.1 h with e | h
    · rw [h1] at e
      injection e with e1 e2
      injection e1 with e3
      rw [e3]
      exact (Array.getElem?_eq_some_iff.1 h3).1
    · exact h5.lt E h
theorem Marks.push {lo : Nat} {w W : World} {ds : List Deferred} (h : Marks lo w ds) (hb : Below w.heap.size w W) {D : Nat} (hD : w.heap.size ≤ D) (hlo : lo ≤ D) (hK : W.heap[D]? = some (.deferred (some []))) : Marks lo W ({ target := .collected D, args := #[] } :: ds) :=
  ⟨D, rfl, hlo, hK, fun E hE => by have := h.lt E hE; omega, h.mono hb⟩
/-- what a way out through the marks keeps -/
structure Shut (lo : Nat) (W W' : World) : Prop where
  bel : Below lo W W'
  cells : ∀ (k : Nat) (o : Obj), W.heap[k]? = some o → o.isCells = true → W'.heap[k]? = some o
theorem Shut.refl (lo : Nat) (W : World) : Shut lo W W := ⟨Below.refl _ _, fun _ _ h _ => h⟩
theorem leaves_marks {F : Fence} {n : Nat} {P : Program} {fn : Func} {tmps : Array Value} {R : Ending → World → Prop} {lo : Nat} {W0 : World} (hR : ∀ W, Shut lo W0 W → LeavesInM F n P fn tmps R [] .returning W) :
    ∀ (ds : List Deferred) (W : World), lo ≤ W.heap.size → Shut lo W0 W → Marks lo W ds → LeavesInM F n P fn tmps R ds .returning W
  | [], W, _, hS, _ => hR W hS
  | _ :: ds, W, hlo, hS, ⟨D, rfl, h2, h3, h4, h5⟩ => by
    refine ⟨by simp, .inl ⟨_, _, rfl, run_takeDeferred h3, ?_⟩⟩
    have hb : Below lo W (W.putObj D (.deferred none)) := (Below.refl lo W).grown (grownBy_putObj' W D _) hlo (fun k e => by cases e; omega)
    have hS2 : Shut lo W0 (W.putObj D (.deferred none)) := ⟨hS.bel.trans hb, fun k o hk hc => by
      have := hS.cells k o hk hc
      by_cases e : k = D
      · subst e; rw [h3] at this; cases this; cases hc
      · exact (World.putObj_heap_other e).trans this⟩
    have hM : ∀ es : List Deferred, (∀ E, { target := .collected E, args := #[] } ∈ es → E ≠ D) → Marks lo W es → Marks lo (W.putObj D (.deferred none)) es := by
      intro es
      induction es with
      | nil => intro _ _; trivial
      | cons e es ih =>
        rintro hE ⟨D2, rfl, g2, g3, g4, g5⟩
        exact ⟨D2, rfl, g2, (World.putObj_heap_other (hE D2 List.mem_cons_self)).trans g3, g4, ih (fun E h => hE E (List.mem_cons_of_mem _ h)) g5⟩
    exact leaves_marks hR ds _ (by simpa using hlo) hS2 (hM ds h4 h5)
theorem Saw.shut {w w' b kf ad n c sh T lo} (h : Saw w b kf ad n c sh T) (hs : Shut lo w w') : Saw w' b kf ad n c sh T := by
  have key : ∀ bb q u, w.cell? ⟨bb, q, none⟩ = some u → w'.heap[bb]? = w.heap[bb]? := fun bb q u hu => by
    obtain ⟨o, ho, hc⟩ := cells_of_cell (a := ⟨bb, q, none⟩) hu
    exact (hs.cells bb o ho hc).trans ho.symm
  refine h.keep (fun bb _ q u hu => by have e := key bb q u hu; unfold World.cell? at hu ⊢; dsimp only at hu ⊢; rw [e]; exact hu) (fun o ho => by have e := key b 0 _ h.k0; unfold World.frozen? at ho ⊢; dsimp only at ho ⊢; rw [e]; exact ho)

set_option maxRecDepth 100000 in
set_option maxHeartbeats 4000000 in
theorem fill_calls (W H kf : Nat) (ad : Option Addr) (n c : Nat) (sh : List Shp) (w : World) (hW : 1 ≤ W ∧ W ≤ 64) (hH : 1 ≤ H ∧ H ≤ 64) (hkf : kf ≤ 8) (hn : n ≤ 16) (hl : sh.length = n) (hrd : RdV w ad c n 4 (flat scl sh)) (hsh : ∀ s ∈ sh, s.v ≤ 1000000) :
    Calls Try.prog 7 #[.int .i64 (W : Int), .int .i64 (H : Int), .int .i64 (kf : Int), .slice ad n c] w fun e w' =>
      ∃ b, e = .returned (.pointer (some ⟨b, 0, none⟩)) ∧ w.heap.size ≤ b ∧ Saw w' b kf ad n c sh (tabV kf sh W H) ∧ Below w.heap.size w w' := by
  have hs0 := saw_new (kf := kf) hl hrd
  have bb0 := below_alloc w (.cells (sawCells (.int .i64 (kf : Int)) (.slice ad n c)) 45)
  have hsz0 : (w.alloc (.cells (sawCells (.int .i64 (kf : Int)) (.slice ad n c)) 45)).heap.size = w.heap.size + 1 := World.size_alloc _ _
  have HB0 := Lib.hid bb0
  have HS0 := Lib.hid (hs0.congr (T' := tabS kf sh H 1 1) (fun a c _ _ => (tabS_zero a c).symm))
  have HSH := Lib.hid hsh
  have HHH := Lib.hid (And.intro hW hH)
  clear hs0 bb0 hrd hl hsh
  refine (callsIn_wide (n := 9)).1 ?_
  refine callsIn_of_wp_marks Try.func7 rfl trivial ?_ rfl
  simp only [Try.ntmps7, List.size_toArray, List.length_cons, List.length_nil, Nat.reduceAdd, Nat.reduceSub, Array.replicate_succ, Array.replicate_zero, List.push_toArray, List.append_toArray, List.nil_append, List.cons_append]
  refine wpIn_wide.2 ?_
  go_wp2_with (refine wpList_build_saw rfl (.tmp 14) (.tmp 15) rfl _ _ _ _ rfl rfl ?_)
  have lo0 := hsz0
  generalize (w.alloc (.cells (sawCells (.int .i64 (kf : Int)) (.slice ad n c)) 45)) = w0 at *
  refine wp_loop (fun a' wr => ∃ (u11 u12 u13 u18 u19 u20 u21 u22 u23 u24 u25 u26 u27 u28 u29 u30 u31 u32 u33 u34 u35 u36 u37 u38 u39 u40 u41 u42 u43 u44 iv : Value) (ds : List Deferred), (∃ i : Nat, 1 ≤ i ∧ i ≤ W + 1 ∧ iv = .int .i64 (i : Int) ∧ Saw wr w.heap.size kf ad n c sh (tabS kf sh H i 1) ∧ Below w.heap.size w wr ∧ w.heap.size + 1 ≤ wr.heap.size ∧ Marks (w.heap.size + 1) wr ds) ∧ a' = { tmps := #[.int .i64 (W : Int), .int .i64 (H : Int), .int .i64 (kf : Int), .slice ad n c, undef, undef, undef, undef, .pointer none, .pointer (some ⟨w.heap.size, 0, none⟩), iv, u11, u12, u13, .int .i64 (kf : Int), .slice ad n c, .agg (sawCells (.int .i64 (kf : Int)) (.slice ad n c)), .pointer (some ⟨w.heap.size, 0, none⟩), u18, u19, u20, u21, u22, u23, u24, u25, u26, u27, u28, u29, u30, u31, u32, u33, u34, u35, u36, u37, u38, u39, u40, u41, u42, u43, u44, undef], defers := ds })
    (fun a' _ => ((W : Int) + 1 - intOf (a'.tmps.getD 10 undef)).toNat) ?_ ?_
  · (repeat apply Exists.intro)
    refine ⟨?_, rfl⟩
    exact ⟨1, Nat.le_refl _, by omega, rfl, HS0.out, HB0.out, by omega, trivial⟩
  · clear HS0 HB0 lo0 hsz0
    rintro _ wr ⟨u11, u12, u13, u18, u19, u20, u21, u22, u23, u24, u25, u26, u27, u28, u29, u30, u31, u32, u33, u34, u35, u36, u37, u38, u39, u40, u41, u42, u43, u44, iv, ds, ⟨i, hi1, hi2, rfl, hS, hB, hZ, hM⟩, rfl⟩
    dsimp only
    have HM := Lib.hid hM
    have HB := Lib.hid hB
    clear hM hB
    by_cases hiW : i ≤ W
    · have t1 : (i : Int) ≤ (W : Int) := by omega
      have HS := Lib.hid hS
      clear hS
      go_wp2
      refine wp_loop (fun a' wr => ∃ (u12 u13 u18 u19 u20 u21 u22 u23 u24 u25 u26 u27 u28 u29 u30 u31 u32 u33 u34 u35 u36 u37 u38 u39 u40 u41 u42 u43 u44 jv : Value) (ds : List Deferred), (∃ j : Nat, 1 ≤ j ∧ j ≤ H + 1 ∧ jv = .int .i64 (j : Int) ∧ Saw wr w.heap.size kf ad n c sh (tabS kf sh H i j) ∧ Below w.heap.size w wr ∧ w.heap.size + 1 ≤ wr.heap.size ∧ Marks (w.heap.size + 1) wr ds) ∧ a' = { tmps := #[.int .i64 (W : Int), .int .i64 (H : Int), .int .i64 (kf : Int), .slice ad n c, undef, undef, undef, undef, .pointer none, .pointer (some ⟨w.heap.size, 0, none⟩), .int .i64 (i : Int), jv, u12, u13, .int .i64 (kf : Int), .slice ad n c, .agg (sawCells (.int .i64 (kf : Int)) (.slice ad n c)), .pointer (some ⟨w.heap.size, 0, none⟩), u18, u19, u20, u21, u22, u23, u24, u25, u26, u27, u28, u29, u30, u31, u32, u33, u34, u35, u36, u37, u38, u39, u40, u41, u42, u43, u44, undef], defers := ds })
        (fun a' _ => ((H : Int) + 1 - intOf (a'.tmps.getD 11 undef)).toNat) ?_ ?_
      · (repeat apply Exists.intro)
        refine ⟨?_, rfl⟩
        exact ⟨1, Nat.le_refl _, by omega, rfl, HS.out, HB.out, by omega, HM.out⟩
      · clear HS HB HM hZ
        rintro _ wr ⟨u12, u13, u18, u19, u20, u21, u22, u23, u24, u25, u26, u27, u28, u29, u30, u31, u32, u33, u34, u35, u36, u37, u38, u39, u40, u41, u42, u43, u44, jv, ds, ⟨j, hj1, hj2, rfl, hS, hB, hZ, hM⟩, rfl⟩
        dsimp only
        by_cases hjH : j ≤ H
        · have t2 : (j : Int) ≤ (H : Int) := by omega
          have bb := below_alloc wr (.cells #[.int .i64 0] 3)
          have hbx := Boxed.new wr 3 (.int .i64 0)
          have HS := Lib.hid hS
          have HBX := Lib.hid hbx
          have HBB := Lib.hid bb
          have HM := Lib.hid hM
          have HB := Lib.hid hB
          have hsz1 := World.size_alloc wr (.cells #[.int .i64 0] 3)
          have WC := Lib.hid (fun w1 : World => ways_calls w.heap.size i j w1)
          clear hS hbx bb hM hB
          go_wp2_with fail
          generalize wr.alloc (.cells #[.int .i64 0] 3) = w1 at *
          refine (WC.out _).mono ?_
          rintro e w2 ⟨s, x, y, rfl, hs, hx, hy, cs, cx, cy, b2⟩
          have hbx2 : Boxed w2 wr.heap.size 3 (.int .i64 0) := (b2.block _ (by omega)).trans HBX.out
          have hB2 : Below wr.heap.size wr w2 := below_trans HBB.out b2
          have hsz2 := b2.size
          have hS2 : Saw w2 w.heap.size kf ad n c sh (tabS kf sh H i j) := HS.out.mono hB2
          have hmost : most (waysL (tabS kf sh H i j) kf sh i j) = VV kf sh i j := by rw [tabS_ways hi1 hj1 hjH, ← VV_eq hi1 hj1]
          have hT := tabS_bound (kf := kf) (i := i) (j := j) HSH.out HHH.out.2.2 (show i ≤ 65 by have := HHH.out.1.2; omega)
          have hi64 : i ≤ 64 := by have := HHH.out.1.2; omega
          have hj64 : j ≤ 64 := by have := HHH.out.2.2; omega
          obtain ⟨T, hTT⟩ : ∃ T, tabS kf sh H i j = T := ⟨_, rfl⟩
          rw [hTT] at hS2 hmost hT HS
          have HTT := Lib.hid hTT
          clear hTT
          have STOPS := Lib.hid (ways_stops 8 (by omega) wr.heap.size w.heap.size kf ad n c sh T s x y i j hi1 hi64 hj1 hj64 hkf hT hn (by omega) (by omega) (by omega) (by omega) w2 (by omega) ⟨hS2, cs, cx, cy⟩)
          have HB2 := Lib.hid hB2
          have HBX2 := Lib.hid hbx2
          have HMO := Lib.hid hmost
          have HS1 := Lib.hid HS.out
          clear hB2 hbx2 hmost hT hS2 cs cx cy HS HBX HBB WC b2
          go_wp2_with fail
          refine (wpIn_wide (n := 9)).1 ?_
          refine' wpIn_rangeWays (lb := #[.pointer (some ⟨s, 0, none⟩), .pointer (some ⟨x, 0, none⟩), .pointer (some ⟨y, 0, none⟩)]) rfl STOPS.out rfl
            (fun (pre : List Wy) W' => (Boxed W' wr.heap.size 3 (.int .i64 (most pre)) ∧ True) ∧ Below wr.heap.size wr W')
            (fun _ _ _ => False)
            (OwnFrom.and (Own.from (boxedOnlyP_own wr.heap.size 3 (fun (pre : List Wy) => .int .i64 (most pre)) (fun _ => True)) _) (ownFrom_below (Nat.le_refl _) (by omega)))
            (fun _ _ _ _ _ hs _ _ => hs)
            ⟨⟨HBX2.out, trivial⟩, HB2.out⟩ wr.heap.size (fun z p => { tmps := #[.int .i64 (W : Int), .int .i64 (H : Int), .int .i64 (kf : Int), .slice ad n c, undef, undef, undef, undef, .pointer none, .pointer (some ⟨w.heap.size, 0, none⟩), .int .i64 (i : Int), .int .i64 (j : Int), .pointer (some ⟨wr.heap.size, 0, none⟩), .pointer (some ⟨p, 0, none⟩), .int .i64 (kf : Int), .slice ad n c, .agg (sawCells (.int .i64 (kf : Int)) (.slice ad n c)), .pointer (some ⟨w.heap.size, 0, none⟩), u18, u19, u20, u21, u22, .int .i64 (j : Int), .int .i64 (H : Int), .bool true, u26, u27, .pointer (some ⟨w.heap.size, 0, none⟩), .int .i64 (i : Int), .int .i64 (j : Int), .func (.func 11) #[] #[.pointer (some ⟨s, 0, none⟩), .pointer (some ⟨x, 0, none⟩), .pointer (some ⟨y, 0, none⟩)], .agg #[.int .i64 (z.k : Int), .int .i64 (z.p : Int), .int .i64 z.v], u33, u34, u35, u36, u37, u38, u39, u40, u41, u42, u43, u44, undef], defers := [] }) ?assign ?body ?done ?stop
          case assign =>
            rintro l pre z W' K ⟨⟨hbx, _⟩, hB'⟩ hK
            have v := Vals.newL W' W'.heap.size [.int .i64 (z.k : Int), .int .i64 (z.p : Int), .int .i64 z.v] 50 rfl
            have bb := below_alloc W' (.cells #[.int .i64 (z.k : Int), .int .i64 (z.p : Int), .int .i64 z.v] 50)
            have hlt := hbx.lt
            have h1 := (KeepsOthers.alloc W' (.cells #[.int .i64 (z.k : Int), .int .i64 (z.p : Int), .int .i64 z.v] 50)).from w2.heap.size
            have h2 := KeepO.of_below (g := wr.heap.size) bb
            have h3 : (Boxed (W'.alloc (.cells #[.int .i64 (z.k : Int), .int .i64 (z.p : Int), .int .i64 z.v] 50)) wr.heap.size 3 (.int .i64 (most pre)) ∧ True) ∧ Below wr.heap.size wr (W'.alloc (.cells #[.int .i64 (z.k : Int), .int .i64 (z.p : Int), .int .i64 z.v] 50)) := ⟨⟨hbx.alloc _, trivial⟩, below_trans hB' bb⟩
            clear bb hbx hB'
            gi_wp2
            generalize hpp : W'.heap.size = p at *
            exact hK _ _ h1 h2 h3 ⟨p, hlt, v, rfl⟩
          case body =>
            rintro l pre z p W' ⟨⟨hbx, _⟩, hB'⟩ hp hv hlt
            obtain ⟨M, hM⟩ : ∃ M, most pre = M := ⟨_, rfl⟩
            obtain ⟨M2, hM2⟩ : ∃ M, most (pre ++ [z]) = M := ⟨_, rfl⟩
            have q0 : (if M < z.v then z.v else M) = M2 := by
              rw [← hM2, ← hM]
              unfold most
              rw [List.foldl_append]
              show _ = max _ z.v
              split <;> omega
            rw [hM] at hbx
            have cx := hbx.cell
            have fx := hbx.frozen
            have cz := hv.cell (i := 2) (by simp [wcl])
            simp only [wcl, List.getD_cons_zero, List.getD_cons_succ] at cz
            have HBX := Lib.hid hbx
            have HB' := Lib.hid hB'
            have HM2 := Lib.hid hM2
            clear hbx hB' hM hM2 hv
            gi_wp2
            have hb5 := HBX.out.set (.int .i64 M2)
            rw [← HM2.out] at hb5 ⊢
            exact ⟨(KeepsOthers.setCell W' _ _).from _, KeepO.set _ _ _, ⟨⟨hb5, trivial⟩, HB'.out.setCell (Nat.le_refl _) _⟩⟩
          case stop =>
            rintro D c pre W' _ _ h _
            exact h.elim
          case done =>
            rintro D xs W' hD rfl ⟨⟨hbx, _⟩, hB'⟩ hK
            rw [HMO.out] at hbx
            have hS' := HS1.out.mono hB'
            have HM' := Lib.hid (HM.out.push hB' (show wr.heap.size ≤ D by omega) (by omega) hK)
            have hstep := tabS_step (kf := kf) (sh := sh) hi1 hj1 hjH
            obtain ⟨v, hv⟩ : ∃ v, VV kf sh i j = v := ⟨_, rfl⟩
            rw [hv] at hbx hstep
            rw [HTT.out] at hstep
            have HST := Lib.hid hstep
            have cb := hbx.cell
            have i65 : i < 65 := by omega
            have j65 : j < 65 := by omega
            have i65' : (i : Int) < 65 := by omega
            have j65' : (j : Int) < 65 := by omega
            have ct := hS'.tab i j i65 j65
            have ft := hS'.fr (2 + i * 65 + j)
            have HS5 := Lib.hid hS'
            have HB5 := Lib.hid (HB.out.trans (hB'.mono (by omega)))
            have hZ5 : w.heap.size + 1 ≤ W'.heap.size := Nat.le_trans hZ hB'.size
            clear hS' hbx hB' hstep hv HMO HS1 HM HB hK hD STOPS HB2 HBX2 hsz2 hsz1
            dsimp only
            go_upto_region 12 with (fail)
            go_region
            go_wp2
            have hS6 := HS5.out.drew.setT i65 j65 v (fun a c _ _ => HST.out a c)
            have hB6 := (HB5.out.drew).setCell (p := ⟨w.heap.size, 2 + i * 65 + j, none⟩) (Nat.le_refl _) (.int .i64 v)
            have hM6 := (HM'.out.drew).set ⟨w.heap.size, 2 + i * 65 + j, none⟩ (.int .i64 v)
            have hZ6 : w.heap.size + 1 ≤ (W'.drew.setCell ⟨w.heap.size, 2 + i * 65 + j, none⟩ (.int .i64 v)).heap.size := by simpa [World.setCell] using hZ5
            refine ⟨⟨_, _, _, _, _, _, _, _, _, _, _, _, _, _, _, _, _, _, _, _, _, _, _, _, _, _, _, _, _, _, _, ?rel, rfl⟩, ?measure⟩
            case rel => exact ⟨j + 1, by omega, by omega, by go_num, hS6, hB6, hZ6, hM6⟩
            case measure => simp [intOf]; omega
        · obtain rfl : j = H + 1 := by omega
          have hS6 := hS.congr (T' := tabS kf sh H (i + 1) 1) (fun a c _ _ => tabS_row a c)
          have HS6 := Lib.hid hS6
          have HM6 := Lib.hid hM
          have HB6 := Lib.hid hB
          clear hS hS6 hM hB
          go_wp2
          refine ⟨⟨_, _, _, _, _, _, _, _, _, _, _, _, _, _, _, _, _, _, _, _, _, _, _, _, _, _, _, _, _, _, _, _, ?rel, rfl⟩, ?measure⟩
          case rel => exact ⟨i + 1, by omega, by omega, by go_num, HS6.out, HB6.out, hZ, HM6.out⟩
          case measure => simp [intOf]; omega
    · obtain rfl : i = W + 1 := by omega
      have HS := Lib.hid hS
      clear hS
      go_wp2
      refine leaves_marks (lo := w.heap.size + 1) (W0 := wr) (fun W' hW' => ?_) ds wr hZ (Shut.refl _ _) HM.out
      exact ⟨_, results_tmp rfl _ _ _, ⟨w.heap.size, rfl, Nat.le_refl _, HS.out.shut hW', HB.out.trans (hW'.bel.mono (Nat.le_succ _))⟩⟩

end Go.Proofs
