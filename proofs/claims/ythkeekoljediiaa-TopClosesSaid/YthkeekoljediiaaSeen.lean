/- A range over a function that yields memory of its own: the round sees what the iterator has laid for it. The round ends only at its end. -/
import Derived.Test.YthkeekoljediiaaBase
import Derived.RangeFuncNested
open Go.RowKit
namespace Go.Proofs
set_option linter.unusedVariables false
set_option linter.unusedSimpArgs false

/-- laid blocks turn no old one -/
theorem grown_of_below {W W' : World} (h : Below W.heap.size W W') : W.grownBy W' none := ⟨h.os, h.tape, h.output, h.size, fun k hk _ => h.block k hk⟩
/-- every block of cells outside S is as it was -/
structure KeepC (S : Nat → Prop) (W W' : World) : Prop where
  size : W.heap.size ≤ W'.heap.size
  same : ∀ i o, ¬ S i → W.heap[i]? = some o → o.isCells = true → W'.heap[i]? = some o
theorem KeepC.trans {S : Nat → Prop} {X Y Z : World} (h : KeepC S X Y) (k : KeepC S Y Z) : KeepC S X Z := ⟨Nat.le_trans h.size k.size, fun i o hi ho hc => k.same i o hi (h.same i o hi ho hc) hc⟩
theorem KeepC.refl (S : Nat → Prop) (W : World) : KeepC S W W := ⟨Nat.le_refl _, fun _ _ _ h _ => h⟩
theorem KeepC.of_below {S : Nat → Prop} {W W' : World} (h : Below W.heap.size W W') : KeepC S W W' := ⟨h.size, fun k o _ hk _ => (h.block k (Array.getElem?_eq_some_iff.1 hk).1).trans hk⟩
theorem KeepC.turn (S : Nat → Prop) {W : World} {l : Nat} {o : Obj} (o' : Obj) (hl : W.heap[l]? = some o) (ho : o.isCells = false) : KeepC S W (W.putObj l o') :=
  ⟨by rw [World.putObj_size]; exact Nat.le_refl _, fun i u _ hi hc => by
    by_cases e : i = l
    · subst e
      rw [hl] at hi
      cases hi
      rw [ho] at hc
      cases hc
    · exact (World.putObj_heap_other e).trans hi⟩
theorem KeepC.set {S : Nat → Prop} (W : World) (p : Addr) (hp : S p.block) (u : Value) : KeepC S W (W.setCell p u) :=
  ⟨by simp [World.setCell], fun i o hi ho _ => (Below.heap_setCell _ _ _ i (fun e => hi (by rw [e]; exact hp))).trans ho⟩
theorem KeepC.drew (S : Nat → Prop) (W : World) : KeepC S W W.drew := ⟨Nat.le_refl _, fun _ _ _ h _ => h⟩
/-- what minds neither a laid block nor a store into block f -/
structure Lays (f : Nat) (J : World → Prop) : Prop where
  lay : ∀ W W', J W → Below W.heap.size W W' → J W'
  put : ∀ W (p : Addr) u, p.block = f → J W → J (W.setCell p u)
theorem KeepC.block {S : Nat → Prop} {W W' : World} (h : KeepC S W W') {b : Nat} {o : Obj} (hb : W.heap[b]? = some o) (hc : o.isCells = true) (hS : ¬ S b) : W'.heap[b]? = some o := h.same b o hS hb hc

section law
variable {α : Type} {P : Program} {g : Operand} {ps : Array Tmp} {assign body : Code} {Q : Exit → Act → World → Prop} {a : Act} {w : World} {gf : Nat} {lb : Array Value}
/-- the loop's record, and the mark of its deferred calls -/
def book (fn : FuncId) (a : Act) (ps : Array Tmp) (assign body : Code) (D : Nat) (s : LoopState) : Loop := { state := s, pending := none, fn := fn, tmps := a.tmps, params := ps, assign := assign, body := body, defers := D }
def Booked (W : World) (l D : Nat) (r : Loop) : Prop := W.heap[l]? = some (.loop r) ∧ W.heap[D]? = some (.deferred (some []))

/-- one call of yield, out of one round -/
theorem yield_seen {fn : FuncId} (hfn : Fence.wide.fn fn) {l D B : Nat} (hlD : D < l) (hBD : B ≤ D) {S : Nat → Prop} {G I : World → Prop} (hG : OwnFrom B (fun (_ : Unit) W => G W)) (hI : OwnFrom B (fun (_ : Unit) W => I W))
    {args : Array Value} (hps : args.size = ps.size) {a₁ : Act}
    (hassign : ∀ (W : World) (K : Act → World → Prop), K a₁ W → assign.wpIn (Fence.wide.inRound l) 7 P (Exit.then K (fun _ _ _ => False)) { tmps := (ps.zip args).foldl (fun t (p, v) => t.setIfInBounds p v) a.tmps, defers := [] } W)
    (hbody : ∀ W, I W → G W → body.wpIn (Fence.wide.inRound l) 7 P (fun e _ W' => e = .normal ∧ KeepsFrom B W W' ∧ KeepC S W W' ∧ I W') a₁ W)
    {W : World} (hb : Booked W l D (book fn a ps assign body D .ready)) (hi : I W) (hgW : G W) :
    YieldAt Fence.wide 7 P l args W fun e W' => e = .returned (.bool true) ∧ (I W' ∧ Booked W' l D (book fn a ps assign body D .ready)) ∧ KeepC S W W' := by
  obtain ⟨hl, hd⟩ := hb
  have hlt : l < W.heap.size := (Array.getElem?_eq_some_iff.1 hl).1
  refine ⟨fn, _, assign, body, run_yield (P := P) (r := book fn a ps assign body D .ready) hl hps, roundIn_of_wpIn hfn (hassign W _ ⟨_, run_beginRound hl rfl, ?_⟩)⟩
  -- the round runs while the record is busy
  obtain ⟨Wb, hWb⟩ : ∃ Wb, W.putObj l (.loop { book fn a ps assign body D .ready with state := .busy }) = Wb := ⟨_, rfl⟩
  rw [hWb]
  have hlb : Wb.heap[l]? = some (.loop { book fn a ps assign body D .ready with state := .busy }) := by rw [← hWb]; exact World.putObj_heap_same hlt
  have hdb : Wb.heap[D]? = some (.deferred (some [])) := by rw [← hWb]; exact (World.putObj_heap_other (by omega)).trans hd
  have hib : I Wb := by rw [← hWb]; exact hI.putObj (s := ()) _ hi (by omega) hl rfl
  have hgb : G Wb := by rw [← hWb]; exact hG.putObj (s := ()) _ hgW (by omega) hl rfl
  have hkb : KeepC S W Wb := by rw [← hWb]; exact KeepC.turn S _ hl rfl
  refine wpIn_mono (hbody Wb hib hgb) ?_
  rintro e a' W2 ⟨rfl, hk, hkc, hi2⟩
  have hl2 := hk.same _ _ (by omega) hlb rfl
  have hd2 := hk.same _ _ hBD hdb rfl
  refine ⟨_, _, run_endRound none hl2, rfl, ⟨hI.putObj (s := ()) _ hi2 (by omega) hl2 rfl, World.putObj_heap_same (Array.getElem?_eq_some_iff.1 hl2).1, (World.putObj_heap_other (by omega)).trans hd2⟩, (hkb.trans hkc).trans (KeepC.turn S _ hl2 rfl)⟩

/-- the range over the function -/
theorem wpIn_rangeSeen (hg : a.eval g = .func (.func gf) #[] lb) (eg : ∀ args w, (callFunc gf args).run P w = .ok (.enter gf args) w)
    (encs : α → Array Value) (hps : ∀ x, (encs x).size = ps.size) (S : Nat → Prop) (G : α → World → Prop) (I : World → Prop) (hG : ∀ x, OwnFrom w.heap.size (fun (_ : Unit) W => G x W)) (hI : OwnFrom w.heap.size (fun (_ : Unit) W => I W)) (hIp : ∀ W (p : Addr) u, p.block = w.heap.size + 2 → I W → I (W.setCell p u)) (h0 : I w)
    (hseq : ∀ (l : Nat) (J : World → Prop) (W : World), Below w.heap.size w W → W.heap.size = w.heap.size + 2 → Lays (w.heap.size + 2) J → (∀ x W1, J W1 → G x W1 → YieldAt Fence.wide 7 P l (encs x) W1 fun e W' => e = .returned (.bool true) ∧ J W' ∧ KeepC S W1 W') → J W →
      CallsIn Fence.wide 8 P gf (#[.func (.yield l) #[] #[]] ++ lb) W fun e W' => (∃ v, e = .returned v) ∧ J W')
    (a₁ : α → Act)
    (hassign : ∀ (l : Nat) (x : α) (W : World) (K : Act → World → Prop), K (a₁ x) W → assign.wpIn (Fence.wide.inRound l) 7 P (Exit.then K (fun _ _ _ => False)) { tmps := (ps.zip (encs x)).foldl (fun t (p, v) => t.setIfInBounds p v) a.tmps, defers := [] } W)
    (hbody : ∀ (l : Nat) (x : α) (W : World), I W → G x W → body.wpIn (Fence.wide.inRound l) 7 P (fun e _ W' => e = .normal ∧ KeepsFrom w.heap.size W W' ∧ KeepC S W W' ∧ I W') (a₁ x) W)
    (hdone : ∀ (D : Nat) (W : World), w.heap.size ≤ D → I W → W.heap[D]? = some (.deferred (some [])) → Q .normal { a with defers := { target := .collected D, args := #[] } :: a.defers } W) :
    (Code.rangeFunc g ps assign body).wpIn Fence.wide 9 P Q a w := by
  refine wpIn_rangeFunc fun fn hfn => ?_
  obtain ⟨W1, hW1⟩ : ∃ W1, (w.alloc (.deferred (some []))).alloc (.loop (book fn a ps assign body w.heap.size .ready)) = W1 := ⟨_, rfl⟩
  have hB1 : Below w.heap.size w W1 := by rw [← hW1]; exact ((Below.refl _ w).alloc (Nat.le_refl _) _).alloc (by simp) _
  have hbook : Booked W1 (w.heap.size + 1) w.heap.size (book fn a ps assign body w.heap.size .ready) := by
    rw [← hW1]
    refine ⟨?_, (Below.heap_alloc _ _ _ (by simp)).trans (World.alloc_heap_new w _)⟩
    have := World.alloc_heap_new (w.alloc (.deferred (some []))) (.loop (book fn a ps assign body w.heap.size .ready))
    rwa [World.size_alloc] at this
  have hsz1 : W1.heap.size = w.heap.size + 2 := by rw [← hW1]; simp
  have hI1 : I W1 := hI () w W1 none h0 (grown_of_below hB1) (by rintro r e; cases e)
  refine ⟨w.heap.size + 1, [{ target := .collected w.heap.size, args := #[] }], W1, { target := .fn (.func gf) lb, args := #[.func (.yield (w.heap.size + 1)) #[] #[]] }, W1, gf, #[.func (.yield (w.heap.size + 1)) #[] #[]] ++ lb, W1, ?_, ?_, ?_, ?_, fun _ => by omega, ?_⟩
  · rw [← hW1]; exact run_enterLoop_outer _ _ _ _ _
  · simp only [resolve, hg]
    simp [go_sem]
  · intro f' hf'; exact trivial
  · simp [invoke, go_sem, eg]
  · refine (hseq (w.heap.size + 1) (fun W => I W ∧ Booked W (w.heap.size + 1) w.heap.size (book fn a ps assign body w.heap.size .ready)) W1 hB1 hsz1 ⟨?_, ?_⟩ ?_ ⟨hI1, hbook⟩).mono ?_
    · rintro W W' ⟨h1, h2, h3⟩ hb
      exact ⟨hI () W W' none h1 (grown_of_below hb) (by rintro r e; cases e), (hb.block _ (Array.getElem?_eq_some_iff.1 h2).1).trans h2, (hb.block _ (Array.getElem?_eq_some_iff.1 h3).1).trans h3⟩
    · rintro W p u hp ⟨h1, h2, h3⟩
      exact ⟨hIp W p u hp h1, (Below.heap_setCell _ _ _ _ (by omega)).trans h2, (Below.heap_setCell _ _ _ _ (by omega)).trans h3⟩
    · rintro x W ⟨h1, h2⟩ hgx
      exact yield_seen hfn (Nat.lt_succ_self _) (Nat.le_refl _) (hG x) hI (hps x) (hassign _ x) (fun W hi hg => hbody _ x W hi hg) h2 h1 hgx
    · rintro e W2 ⟨⟨v, rfl⟩, hi, hl, hd⟩
      exact ⟨none, _, run_endLoop (P := P) (r := book fn a ps assign body w.heap.size .ready) hl (by simp [book]), hdone _ _ (Nat.le_refl _) (hI.putObj (s := ()) _ hi (by omega) hl rfl) ((World.putObj_heap_other (by omega)).trans hd)⟩
end law

end Go.Proofs
