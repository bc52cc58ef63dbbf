/- The walk of NatDigits: whatever comes in, it returns true and changes nothing that was there. -/
import Derived.Test.YtbpkobjiinkpoaaRDigits
import Derived.Test.YtbpkobjiinkpoaaRound
import Derived.Test.YtbpkobjiinkpoaaVals
import Derived.Test.YtbpkobjiinkpoaaLaw
import Derived.Deep.Cut
open Go.RowKit Go.Deep Go.Shelf
namespace Go.Proofs
set_option linter.unusedVariables false
set_option linter.unusedSimpArgs false
attribute [local go_sem] Oper.semAt_some

/-- what the law wants, of slices that may be malformed -/
def mOf (ys : List Nat) (d : Nat) : Nat := if chk ys = 0 ∧ 2 ≤ d then val ys else 0
theorem digits_any (v : Value) (ys : List Nat) (d : Nat) (w : World) (hv : Raw w v ys) (hl : ys.length ≤ 1000) (hd : d < 4294967296) :
    Calls Try.prog 10 #[v, .int .u32 (d : Int)] w (RetSeq w d (mOf ys d)) := by
  unfold mOf
  by_cases h2 : 2 ≤ d
  · by_cases hc : chk ys = 0
    · rw [if_pos ⟨hc, h2⟩]
      have hn := hv.num hc
      obtain ⟨ad, c, rfl, hs⟩ := hv
      have h3 := (chk_num hc hs.2.2.1).1
      exact digits_ok _ _ d w hn (by rw [h3]; omega) h2 hd
    · rw [if_neg (fun h => hc h.1)]
      exact digits_bad v ys d w hv hc h2
  · rw [if_neg (fun h => h2 h.2)]
    exact digits_low v d w (by omega)

theorem and_seven (z : Int) (z0 : -9223372036854775808 ≤ z) (z1 : z < 9223372036854775808) : ∃ k : Nat, k < 8 ∧ bits BinOp.and IntKind.i64 z 7 = (k : Int) := by
  refine ⟨(BitVec.ofInt 64 z).toNat &&& 7, Nat.lt_of_le_of_lt Nat.and_le_right (by omega), ?_⟩
  have hlt : (BitVec.ofInt 64 z).toNat &&& 7 < 8 := Nat.lt_of_le_of_lt Nat.and_le_right (by omega)
  have e : (BitVec.ofInt 64 z &&& BitVec.ofInt 64 7).toNat = (BitVec.ofInt 64 z).toNat &&& 7 := by
    rw [BitVec.toNat_and]
    rfl
  show IntKind.i64.wrap ((BitVec.ofInt 64 z &&& BitVec.ofInt 64 7).toNat : Int) = _
  rw [e, IntKind.wrap_i64]
  omega
/-- the blocks that a box of a slice may write: itself, and its slice's array -/
def GotB (g : Nat) (W : World) (k : Nat) : Prop := k = g ∨ ∃ v, W.cell? ⟨g, 0, none⟩ = some v ∧ v.ownBlock = some k
theorem gotB_mine (g : Nat) : Mine g (GotB g) where
  below W W' hg hb k h := by
    rcases h with h | ⟨v, h, e⟩
    · exact .inl h
    · exact .inr ⟨v, (hb.cell (p := ⟨g, 0, none⟩) hg).symm.trans h, e⟩
  turn W l o' hl k h := by
    rcases h with h | ⟨v, h, e⟩
    · exact .inl h
    · refine .inr ⟨v, ?_, e⟩
      unfold World.cell? at h ⊢
      dsimp only at h ⊢
      rw [World.putObj_heap_other (Ne.symm hl)] at h
      exact h
theorem gotB_new {g t lo : Nat} {x : World} {v : Value} (hg : Boxed x g t v) (hv : ∀ k, v.ownBlock = some k → lo ≤ k ∧ k < x.heap.size) (h1 : lo ≤ g) : ∀ k, GotB g x k → lo ≤ k ∧ k < x.heap.size := by
  intro k hk
  rcases hk with h | ⟨u, h, e⟩
  · subst h; exact ⟨h1, hg.lt⟩
  · rw [hg.cell] at h
    cases h
    exact hv k e
theorem off_of_num {w : World} {v : Value} {n : Nat} {B : Nat → Prop} (h : Num w v n) (hB : ∀ k, B k → w.heap.size ≤ k) : Off B v := by
  obtain ⟨ad, c, rfl, h1, h2, h3, h4⟩ := h
  rcases h4 with h4 | ⟨b, o, rfl, hb, hc⟩
  · obtain ⟨rfl, h5⟩ := h4
    trivial
  · intro h
    have h5 := hB _ h
    dsimp only at h5
    have h6 : b < w.heap.size := hb
    omega
theorem wpListIn_append_lim {P : Program} {w : World} {ops : Array Oper} {rest : List Oper} {o : Oper} {a : Act} {Q : Exit → Act → World → Prop} {n l : Nat} (hgd : o.guard = none) (s x : Operand) (t : TypeId)
    (ho : o.op = .call { callee := .builtin .append, args := #[s, x], argTypes := #[t, t] })
    (ht : P.underlying t = some (.slice 24)) (h2 : (P.info? 24).map (fun i => (i.zero, i.size, i.bytes)) = some (some (.int .u32 0), 1, 4))
    (B : Nat) (v : Value) (xs : List Nat) (hv : a.eval s = v) (hown : Own B w v xs) (hB : B ≤ w.heap.size)
    (g c d : Nat) (hx : a.eval x = .slice (some ⟨g, 0, none⟩) 1 c) (hs : Sl w (some ⟨g, 0, none⟩) c [d]) (hl : xs.length + 1 ≤ 1099511627776)
    (h : ∀ v' w', Own B w' v' (xs ++ [d]) → Below B w w' → w.grownBy w' v.ownBlock → (v'.ownBlock = v.ownBlock ∨ v'.ownBlock = some w.heap.size) → wpListIn (Fence.wide.inRound l) n P ops Q rest (a.put o.dst v') w') : wpListIn (Fence.wide.inRound l) n P ops Q (o :: rest) a w :=
  wpListIn_op (fun c e => by rw [ho] at e; cases e) (wpList_append_lim hgd s x t ho ht h2 B v xs hv hown hB g c d hx hs hl (fun v' w' a b c d => h v' w' a b c d))
theorem got_keep {g t : Nat} {W w1 : World} {tmp : Obj} {v v' : Value} (hb : Boxed W g t v) (hw : ∀ k, v.ownBlock = some k → k < W.heap.size) (hgrow : (W.alloc tmp).grownBy w1 v.ownBlock) (hg1 : some g ≠ v.ownBlock)
    (hat : v'.ownBlock = v.ownBlock ∨ v'.ownBlock = some (W.alloc tmp).heap.size) (hw2 : ∀ k, v'.ownBlock = some k → k < w1.heap.size) : KeepB (GotB g) W (w1.setCell ⟨g, 0, none⟩ v') := by
  have hb1 : Boxed w1 g t v := (hb.alloc tmp).kept hgrow hg1
  have hc : (w1.setCell ⟨g, 0, none⟩ v').cell? ⟨g, 0, none⟩ = some v' := (hb1.set v').cell
  have hsz : W.heap.size + 1 ≤ w1.heap.size := by have := hgrow.size; rw [World.size_alloc] at this; exact this
  have hsz2 : w1.heap.size ≤ (w1.setCell ⟨g, 0, none⟩ v').heap.size := (KeepsWalks.setCell w1 _ v').size
  refine ⟨by omega, ?_, ?_, ?_⟩
  · intro k o hk _ hB
    have hlt := (Array.getElem?_eq_some_iff.1 hk).1
    have hne : k ≠ g := fun e => hB (.inl e)
    have h1 : some k ≠ v.ownBlock := fun e => hB (.inr ⟨v, hb.cell, e.symm⟩)
    have h2 : (W.alloc tmp).heap[k]? = some o := (Below.heap_alloc W tmp k hlt).trans hk
    have h3 := (hgrow.block k (by rw [World.size_alloc]; omega) h1).trans h2
    exact (Below.heap_setCell _ _ _ k (fun e => hne e)).trans h3
  · intro k hk hB
    rcases hB with h | ⟨u, h, e⟩
    · exact .inl h
    · rw [hc] at h
      cases h
      rcases hat with h2 | h2
      · exact .inr ⟨v, hb.cell, by rw [← h2]; exact e⟩
      · rw [h2, World.size_alloc] at e
        injection e with e
        omega
  · intro _ k hB
    rcases hB with h | ⟨u, h, e⟩
    · have := hb.lt; omega
    · rw [hc] at h
      cases h
      have := hw2 k e
      omega

theorem show_stop {p : Prop} (h : p ∧ True) : p := h.1
/-- one block alone -/
def OneB (g : Nat) (_ : World) (k : Nat) : Prop := k = g
theorem oneB_mine (g : Nat) : Mine g (OneB g) where
  below _ _ _ _ _ h := h
  turn _ _ _ _ _ h := h
theorem one_keep (g : Nat) (W : World) (u : Value) (hg : g < W.heap.size) : KeepB (OneB g) W (W.setCell ⟨g, 0, none⟩ u) := by
  have hs := (KeepsWalks.setCell W (⟨g, 0, none⟩ : Addr) u).size
  refine ⟨hs, fun k o hk _ hB => (Below.heap_setCell _ (⟨g, 0, none⟩ : Addr) _ k (fun e => hB e)).trans hk, fun k _ h => h, fun _ k h => ?_⟩
  have h2 : k = g := h
  omega
theorem dfd_mono {W W' : World} {D : Nat} {o : Obj} (h : W.heap[D]? = some o) (hb : Below W.heap.size W W') : W'.heap[D]? = some o :=
  (hb.block D (Array.getElem?_eq_some_iff.1 h).1).trans h
theorem dfd_put {W : World} {D E : Nat} {o p : Obj} (h : W.heap[D]? = some o) (hne : D ≠ E) : (W.putObj E p).heap[D]? = some o :=
  (World.putObj_heap_other hne).trans h
theorem prefix_snoc {α : Type} {pre L : List α} {x : α} (h : pre <+: L) (hx : L[pre.length]? = some x) : pre ++ [x] <+: L := by
  obtain ⟨t, rfl⟩ := h
  rw [List.getElem?_append_right (Nat.le_refl _), Nat.sub_self] at hx
  cases t with
  | nil => cases hx
  | cons y t =>
    simp only [List.getElem?_cons_zero, Option.some.injEq] at hx
    exact ⟨t, by rw [hx, List.append_assoc]; rfl⟩
theorem prefix_get {α : Type} {pre L : List α} {x : α} (h : pre ++ [x] <+: L) : L[pre.length]? = some x := by
  obtain ⟨t, rfl⟩ := h
  rw [List.append_assoc, List.getElem?_append_right (Nat.le_refl _), Nat.sub_self]
  rfl
theorem dign_get {d m i : Nat} {x : Dg d} (h : (digs d m)[i]? = some x) : (dign d m).getD i 0 = x.1 := by
  unfold dign
  simp [List.getD, h]
theorem dign_get' {d m i : Nat} (hi : i < (digs d m).length) {x : Dg d} (h : x.1 = (dign d m).getD i 0) : (digs d m)[i]? = some x := by
  rw [List.getElem?_eq_getElem hi]
  unfold dign at h
  rw [List.getD_eq_getElem?_getD, List.getElem?_map, List.getElem?_eq_getElem hi] at h
  simp only [Option.map_some, Option.getD_some] at h
  rw [Option.some.injEq]
  exact (Subtype.ext h).symm

theorem Raw.setBox {w : World} {v : Value} {xs : List Nat} {b : Nat} (h : Raw w v xs) (hb : Apart b v) (u : Value) : Raw (w.setCell ⟨b, 0, none⟩ u) v xs := by
  obtain ⟨ad, c, rfl, s⟩ := h
  refine ⟨ad, c, rfl, s.only (only_set w _ u) (fun a e => ?_)⟩
  subst e
  exact hb
theorem Vals.only {w w' : World} {g b : Nat} {vs : List Value} (h : Vals w g vs) (ho : Only b w w') (hb : g ≠ b) : Vals w' g vs := by
  have hl := h.lt
  obtain ⟨e, h⟩ := h
  exact ⟨e, (ho.block g hl hb).trans h⟩
theorem Raw.only {w w' : World} {v : Value} {xs : List Nat} {b : Nat} (h : Raw w v xs) (ho : Only b w w') (hb : Apart b v) : Raw w' v xs := by
  obtain ⟨ad, c, rfl, s⟩ := h
  refine ⟨ad, c, rfl, s.only ho (fun a e => ?_)⟩
  subst e
  exact hb

theorem ownFrom_or {β : Type} {B : Nat} {I : β → World → Prop} (h : OwnFrom B I) (p q : β → Prop) : OwnFrom B (fun s W => (p s ∧ I s W) ∨ q s) := by
  rintro s W W' row (⟨hp, hi⟩ | hq) hg hr
  · exact .inl ⟨hp, h s W W' row hi hg hr⟩
  · exact .inr hq
theorem boxedOnly_own {β : Type} (b : Nat) (t : TypeId) (f : β → Value) (G : β → Prop) : _root_.Go.Own (fun s W => Boxed W b t (f s) ∧ G s) := by
  rintro s X Y row ⟨hv, hG⟩ hg hrow
  refine ⟨hv.kept hg (fun e' => ?_), hG⟩
  obtain ⟨o, ho, hc⟩ := hrow b e'.symm
  rw [show X.heap[b]? = _ from hv] at ho
  cases ho
  cases hc
theorem Vals.put {w : World} {g D : Nat} {vs : List Value} (h : Vals w g vs) (o : Obj) (hne : g ≠ D) : Vals (w.putObj D o) g vs := by
  obtain ⟨e, h⟩ := h
  exact ⟨e, dfd_put h hne⟩
theorem results_cell_bool {fn : Func} {p : Tmp} (h : fn.results = #[.cell p 4]) (tmps : Array Value) (w : World) (g : Nat) (b : Bool)
    (hp : tmps.getD p undef = .pointer (some ⟨g, 0, none⟩)) (hc : w.cell? ⟨g, 0, none⟩ = some (.bool b)) : (results fn tmps).run Try.prog w = .ok (.bool b) w := by
  have hp' : tmps[p]?.getD undef = .pointer (some ⟨g, 0, none⟩) := by simpa using hp
  have hl : (loadVar 4 ⟨g, 0, none⟩).run Try.prog w = .ok (.bool b) w := by
    have h1 : (isAgg 4).run Try.prog w = .ok false w := by rfl
    simp [loadVar, h1, hc]
  simp [results, h, hp', asAddr, hl]
theorem leave3 {fn : Func} {p : Tmp} (h : fn.results = #[.cell p 4]) (F : Fence) (n : Nat) (tmps : Array Value) (w w1 : World) (g D1 D2 D3 : Nat)
    (hp : tmps.getD p undef = .pointer (some ⟨g, 0, none⟩)) (B : Below w.heap.size w w1) (vr : Vals w1 g [.bool true]) (hg : w.heap.size ≤ g)
    (hK1 : w1.heap[D1]? = some (.deferred (some []))) (hK2 : w1.heap[D2]? = some (.deferred (some []))) (hK3 : w1.heap[D3]? = some (.deferred (some []))) (h12 : D1 < D2) (h23 : D2 < D3) (hgD : g < D1) :
    LeavesInM F n Try.prog fn tmps (RetTrue w) [{ target := .collected D3, args := #[] }, { target := .collected D2, args := #[] }, { target := .collected D1, args := #[] }] .returning w1 := by
  refine ⟨by simp, .inl ⟨_, _, rfl, run_takeDeferred hK3, ?_⟩⟩
  refine ⟨by simp, .inl ⟨_, _, rfl, run_takeDeferred (dfd_put hK2 (by omega)), ?_⟩⟩
  refine ⟨by simp, .inl ⟨_, _, rfl, run_takeDeferred (dfd_put (dfd_put hK1 (by omega)) (by omega)), ?_⟩⟩
  have v3 := ((vr.put (.deferred none) (show g ≠ D3 by omega)).put (.deferred none) (show g ≠ D2 by omega)).put (.deferred none) (show g ≠ D1 by omega)
  have b1 := belowK_b (n₀ := w.heap.size) (w := w) (Nat.le_refl _) w1 D3 _ (.deferred none) (by omega) hK3 rfl rfl
  have b2 := belowK_b (n₀ := w.heap.size) (w := w) (Nat.le_refl _) _ D2 _ (.deferred none) (by omega) (dfd_put (p := .deferred none) hK2 (show D2 ≠ D3 by omega)) rfl rfl
  have b3 := belowK_b (n₀ := w.heap.size) (w := w) (Nat.le_refl _) _ D1 _ (.deferred none) (by omega) (dfd_put (p := .deferred none) (dfd_put (p := .deferred none) hK1 (show D1 ≠ D3 by omega)) (show D1 ≠ D2 by omega)) rfl rfl
  exact ⟨_, results_cell_bool h tmps _ g true hp (v3.cell (i := 0) (by simp)), rfl, ((B.trans b1).trans b2).trans b3⟩

set_option maxRecDepth 100000 in
set_option maxHeartbeats 1000000 in
theorem walk_digits (v : Value) (xs : List Nat) (d : Nat) (most : Int) (w : World) (hx : In w v xs) (hd : d < 4294967296) (hm : -9223372036854775808 ≤ most ∧ most < 9223372036854775808) :
    Calls Try.prog 3 #[v, .int .u32 (d : Int), .int .i64 most] w (RetTrue w) := by
  have CU := fun (W : World) (hb : Below w.heap.size w W) => cut_calls v xs 6 6 W (hx.mono hb) rfl (by omega)
  obtain ⟨ad, c, rfl, hs⟩ := hx
  obtain ⟨nx, hnx⟩ : ∃ n, xs.length = n := ⟨_, rfl⟩
  rw [hnx] at CU ⊢
  have HCU := Lib.hid CU
  have hsl := hs
  clear CU hnx
  obtain ⟨ys, hys⟩ : ∃ ys, xs.take 6 = ys := ⟨_, rfl⟩
  have hyl : ys.length ≤ 6 := by rw [← hys, List.length_take]; omega
  rw [hys] at HCU
  have HRW : chk ys = 0 → limbs (val ys) = ys := fun h => (chk_num h (by rw [← hys]; exact fun x hx => hs.2.2.1 x (List.mem_of_mem_take hx))).1
  clear hys hs hsl
  obtain ⟨m, hm0⟩ : ∃ m, mOf ys d = m := ⟨_, rfl⟩
  have hmd : m = 0 ∨ 2 ≤ d := by
    unfold mOf at hm0
    split at hm0
    · rename_i h; exact .inr h.2
    · exact .inl hm0.symm
  have HMD := Lib.hid hmd
  have hlm6 : (limbs m).length ≤ 6 := by
    unfold mOf at hm0
    split at hm0
    · rename_i h
      have h1 := HRW h.1
      rw [← hm0, h1]
      exact hyl
    · rw [← hm0, limbs_zero]
      exact Nat.zero_le _
  have HLM := Lib.hid (show (limbs m).length ≤ 1000000 by omega)
  have HN := Lib.hid (show (digs d m).length ≤ 192 from digs_room d m 6 hlm6)
  refine (callsIn_wide (n := 9)).1 ?_
  refine callsIn_of_wp_marks Try.func3 rfl trivial ?_ rfl
  simp only [Try.ntmps3, List.size_toArray, List.length_cons, List.length_nil, Nat.reduceAdd, Nat.reduceSub, Array.replicate_succ, Array.replicate_zero, List.push_toArray, List.append_toArray, List.nil_append, List.cons_append]
  refine wpIn_wide.2 ?_
  go_wp2_with fail
  have vm := Vals.newL w w.heap.size [.int .i64 most] 3 rfl
  have b0 := below_alloc w (.cells #[.int .i64 most] 3)
  have sz := World.size_alloc w (.cells #[.int .i64 most] 3)
  have vr := Vals.newL (w.alloc (.cells #[.int .i64 most] 3)) (w.heap.size + 1) [.bool false] 4 sz.symm
  have b1 := below_alloc (w.alloc (.cells #[.int .i64 most] 3)) (.cells #[.bool false] 4)
  replace vm := vm.mono b1
  have B := below_trans b0 b1
  clear b0 b1 sz
  have lt0 := vm.lt
  generalize (w.alloc (.cells #[.int .i64 most] 3)).alloc (.cells #[.bool false] 4) = w0 at *
  refine (HCU.out _ B).mono ?_
  rintro e w1 ⟨v1, rfl, ha, hfa, b1⟩
  replace vm := vm.mono b1
  replace vr := vr.mono b1
  replace B := below_trans B b1
  clear b1 HCU hmd hlm6
  have lt1 := vm.lt
  have ap1 := hfa.apart lt0
  clear hfa lt0
  have bl := below_alloc w1 (.cells #[] 24)
  have bl2 := below_trans bl (below_alloc (w1.alloc (.cells #[] 24)) (.cells #[.slice (some ⟨w1.heap.size, 0, none⟩) 0 0] 22))
  have o8 := (own_made w1).mono (below_alloc (w1.alloc (.cells #[] 24)) (.cells #[.slice (some ⟨w1.heap.size, 0, none⟩) 0 0] 22))
  have v8 := Vals.newL (w1.alloc (.cells #[] 24)) (w1.heap.size + 1) [.slice (some ⟨w1.heap.size, 0, none⟩) 0 0] 22 (World.size_alloc _ _).symm
  clear bl
  go_upto_region 3 with (fail)
  generalize (w1.alloc (.cells #[] 24)).alloc (.cells #[.slice (some ⟨w1.heap.size, 0, none⟩) 0 0] 22) = w2 at *
  go_cut [24] from 25 (fun tv wc => ∃ b : Bool, tv = .bool b ∧ w2 = wc ∧ b = decide (chk ys = 0 ∧ 2 ≤ d))
  case first =>
    have ha2 := ha.mono bl2
    go_wp2_with fail
    refine (rcheck_calls v1 ys w2 ha2).mono ?_
    rintro e wz ⟨rfl, rfl⟩
    obtain ⟨er, her⟩ : ∃ z, chk ys = z := ⟨_, rfl⟩
    rw [her]
    have HER := Lib.hid her
    clear her
    by_cases hc : er = 0
    · have t1 : (er == 0) = true := by rw [beq_iff_eq]; exact hc
      by_cases h2 : 2 ≤ d
      · have t2 : (2 : Int) ≤ (d : Int) := by omega
        have HB := Lib.hid (show true = decide (chk ys = 0 ∧ 2 ≤ d) from (decide_eq_true ⟨HER.out.trans hc, h2⟩).symm)
        clear hc
        go_wp2
        go_meet
        exact ⟨_, rfl, rfl, HB.out⟩
      · have t2 : ¬ (2 : Int) ≤ (d : Int) := by omega
        have HB := Lib.hid (show decide ((2 : Int) ≤ (d : Int)) = decide (chk ys = 0 ∧ 2 ≤ d) by rw [decide_eq_false t2]; exact (decide_eq_false (fun h => h2 h.2)).symm)
        clear hc
        go_wp2
        go_meet
        exact ⟨_, rfl, rfl, HB.out⟩
    · have t1 : (er == 0) = false := by rw [beq_eq_false_iff_ne]; exact hc
      have HB := Lib.hid (show false = decide (chk ys = 0 ∧ 2 ≤ d) from (decide_eq_false (fun h => hc (HER.out.symm.trans h.1))).symm)
      clear hc
      go_wp2
      go_meet
      exact ⟨_, rfl, rfl, HB.out⟩
  case rest =>
    obtain ⟨b, rfl, rfl, hb⟩ := hcut
    have HB := Lib.hid hb
    clear hb
    go_upto_if 24 with (fail)
    go_cut [] from 24 (fun wc => ∃ wv, Below w1.heap.size w1 wc ∧ Vals wc (w1.heap.size + 1) [wv] ∧ Raw wc wv (dign d m) ∧ Fresh w1.heap.size wv)
    case first =>
      cases b with
      | true =>
        obtain ⟨hc, h2⟩ := of_decide_eq_true HB.out.symm
        have hmv : m = val ys := by rw [← hm0]; unfold mOf; rw [if_pos ⟨hc, h2⟩]
        have ha2 := ha.mono bl2
        have hn := ha2.num hc
        have hlm : (limbs (val ys)).length ≤ 1000 := by
          obtain ⟨_, _, _, s⟩ := ha2
          rw [(chk_num hc s.2.2.1).1]
          omega
        rw [← hmv] at hn hlm
        clear hc hmv hm0 HB
        go_wp2_with fail
        refine (rdigits_calls v1 m d _ hn h2 hd hlm).mono ?_
        rintro e w3 ⟨vd, rfl, hr, hf, b3⟩
        obtain ⟨adv, cv, rfl, sv⟩ := hr
        have HR := Lib.hid (show Raw w3 (.slice adv (dign d m).length cv) (dign d m) from ⟨_, _, rfl, sv⟩)
        clear sv
        have h8 := v8.lt
        replace v8 := v8.mono b3
        have c8 := v8.cell (i := 0) (by simp)
        have f8 := v8.frozen 0
        simp only [List.getD_cons_zero] at c8
        go_wp2
        go_meet
        exact ⟨_, (bl2.trans (b3.mono bl2.size)).setCell (p := ⟨w1.heap.size + 1, 0, none⟩) (Nat.le_succ _) _, v8.set 0 _, HR.out.setBox (hf.apart h8) _, hf.mono bl2.size⟩
      | false =>
        have hmv : dign d m = [] := by rw [← hm0]; unfold mOf; rw [if_neg (of_decide_eq_false HB.out.symm), dign_zero]
        have HMV := Lib.hid hmv
        clear hmv hm0
        go_wp2
        go_meet
        refine ⟨_, bl2, v8, ?_, Nat.le_refl _⟩
        rw [HMV.out]
        obtain ⟨a, c, e, s, _⟩ := o8.sl
        exact ⟨a, c, e, s⟩
    case rest =>
      obtain ⟨wv, b2, v8, hwv, hfw⟩ := hcut
      rename World => w4
      replace ha := ha.mono b2
      replace vm := vm.mono b2
      replace vr := vr.mono b2
      replace B := below_trans B b2
      clear b2 bl2 o8
      have ap8 := hfw.apart lt1
      obtain ⟨g8, hg8⟩ : ∃ g, w1.heap.size + 1 = g := ⟨_, rfl⟩
      rw [hg8] at v8 ⊢
      have ne8 : g8 ≠ w.heap.size := by omega
      clear hg8 hfw lt1
      go_upto_region 5 with (fail)
      go_cut [33] from 34 (fun tv wd => ∃ b : Bool, tv = .bool b ∧ w4 = wd ∧ (b = false → 0 ≤ most ∧ most ≤ 8))
      case first =>
        have cm := vm.cell (i := 0) (by simp)
        have lm := vm.lt
        simp only [List.getD_cons_zero] at cm
        by_cases h1 : most < 0
        · go_wp2
          go_meet
          exact ⟨_, rfl, rfl, fun h => by cases h⟩
        · by_cases h2 : 8 < most
          · go_wp2
            go_meet
            exact ⟨_, rfl, rfl, fun h => by cases h⟩
          · go_wp2
            go_meet
            exact ⟨_, rfl, rfl, fun _ => by omega⟩
      case rest =>
        obtain ⟨b, rfl, rfl, hb⟩ := hcut
        have HB := Lib.hid hb
        clear hb
        go_upto_if 33 with (fail)
        go_cut [] from 33 (fun we => ∃ k : Nat, k ≤ 8 ∧ Only w.heap.size w4 we ∧ Vals we w.heap.size [.int .i64 (k : Int)])
        case first =>
          obtain ⟨k7, hk7, ek7⟩ := and_seven most hm.1 hm.2
          have cm := vm.cell (i := 0) (by simp)
          have fm := vm.frozen 0
          have lm := vm.lt
          simp only [List.getD_cons_zero] at cm
          cases b with
          | true =>
            go_wp2
            go_meet
            exact ⟨k7, by omega, only_set _ ⟨w.heap.size, 0, none⟩ _, vm.set 0 _⟩
          | false =>
            have h12 := HB.out rfl
            go_wp2
            go_meet
            exact ⟨most.toNat, by omega, Only.refl _ _, by rw [Int.toNat_of_nonneg (by omega)]; exact vm⟩
        case rest =>
          obtain ⟨k, hk8, ho4, vk⟩ := hcut
          rename World => w5
          replace v8 := v8.only ho4 ne8
          replace vr := vr.only ho4 (by omega)
          replace ha := ha.only ho4 ap1
          replace hwv := hwv.only ho4 ap8
          replace B := below_only B ho4 (Nat.le_refl _) B.size
          clear vm ho4 ap1 ap8
          go_wp2_with fail
          refine (digits_any v1 ys d w5 ha (by omega) hd).mono ?_
          rintro e w6 ⟨Bs, Bb, vq, rfl, hBs, hBb, hcs, hcb, hnum, hfr, b6⟩
          rw [hm0] at hnum
          replace vr := vr.mono b6
          replace vk := vk.mono b6
          replace v8 := v8.mono b6
          replace hwv := hwv.mono b6
          replace B := below_trans B b6
          clear ha b6 hm0
          have lr6 := vr.lt
          have hnil : (binOp .eql 31 (.func (.func 34) #[] #[.pointer (some ⟨Bs, 0, none⟩), .pointer (some ⟨Bb, 0, none⟩)]) .nilFunc).run Try.prog w6 = .ok (.bool false) w6 := by rfl
          go_wp2_with fail
          refine wp_loop_rounds 3 ?_
          rw [rounds_succ]
          have bl := below_trans (below_alloc w6 (.cells #[] 24)) (below_alloc (w6.alloc (.cells #[] 24)) (.cells #[.slice (some ⟨w6.heap.size, 0, none⟩) 0 0] 22))
          have own := (own_made w6).mono (below_alloc (w6.alloc (.cells #[] 24)) (.cells #[.slice (some ⟨w6.heap.size, 0, none⟩) 0 0] 22))
          have bx := Boxed.new (w6.alloc (.cells #[] 24)) 22 (.slice (some ⟨w6.heap.size, 0, none⟩) 0 0)
          rw [World.size_alloc] at bx
          have hsz : ((w6.alloc (.cells #[] 24)).alloc (.cells #[.slice (some ⟨w6.heap.size, 0, none⟩) 0 0] 22)).heap.size = w6.heap.size + 2 := by rw [World.size_alloc, World.size_alloc]
          go_wp2_with fail
          generalize ((w6.alloc (.cells #[] 24)).alloc (.cells #[.slice (some ⟨w6.heap.size, 0, none⟩) 0 0] 22)) = x1 at *
          refine (wpIn_wide (n := 9)).1 ?_
          have GN := gotB_new bx (fun k hk => own.block k hk) (Nat.le_succ _)
          have hBb2 := lt_cell hcb
          refine' wpIn_rangeFunc_ownG (F := Fence.wide) (n := 9) rfl (by omega) (gf := 34) (lb := #[.pointer (some ⟨Bs, 0, none⟩), .pointer (some ⟨Bb, 0, none⟩)]) rfl trivial (enters_of Try.func34 (by kernel_rfl) rfl)
            (digits_stops 8 (by omega) (w6.heap.size + 1) (GotB (w6.heap.size + 1)) (gotB_mine _) Bs Bb d m vq hd HMD.out HLM.out x1 (by omega) (fun k hk => (GN k hk).2) (fun h => by have h2 := (GN _ h).1; dsimp only at hBb2; omega)
              ((bl.cell (p := ⟨Bs, 0, none⟩) (lt_cell hcs)).trans hcs) ((bl.cell (p := ⟨Bb, 0, none⟩) (lt_cell hcb)).trans hcb) (hnum.mono bl) (off_of_num hnum (fun k hk => (GN k hk).1)))
            (fun h k => KeepB.trans h k) (fun W l o o' hl h1 h2 _ => KeepB.turn (gotB_mine _) W l o o' (by omega) h1 h2) (Below.refl _ _) (fun _ => rfl)
            (fun (pre : List (Dg d)) W => (∃ v, Boxed W (w6.heap.size + 1) 22 v ∧ W.ownsRow w6.heap.size 24 1 v pre.length (lims (pre.map (·.1))) ∧ True) ∧ Below w6.heap.size w6 W)
            (fun _ _ _ => False)
            (OwnFrom.and (Own.from (holdsRow_own w6.heap.size (w6.heap.size + 1) 22 24 1 (fun (pre : List (Dg d)) => pre.length) (fun (pre : List (Dg d)) => lims (pre.map (·.1))) (fun _ _ => True)) _) (ownFrom_below (Nat.le_refl _) (by omega)))
            (fun _ _ _ _ _ hs _ _ => hs)
            ⟨⟨_, bx, own.1, trivial⟩, bl⟩ _ ?assign ?body ?done ?stop
          case assign =>
            intro l x W K hK
            gi_wp2
            exact hK
          case body =>
            rintro l pre x W ⟨⟨v, hbx, hrow, _⟩, hB⟩ hlt
            obtain ⟨zs, hzs⟩ : ∃ zs, pre.map (·.1) = zs := ⟨_, rfl⟩
            have hzl : zs.length = pre.length := by rw [← hzs, List.length_map]
            have own1 : Own w6.heap.size W v zs := ⟨by rw [hzl, ← hzs]; exact hrow, fun y hy => by rw [← hzs] at hy; obtain ⟨q, _, rfl⟩ := List.mem_map.1 hy; have := q.2; omega⟩
            have hx2 := x.2
            have hn := HN.out
            have hsz1 := hB.size
            have cx := hbx.cell
            have fx := hbx.frozen
            have own2 := own1.mono (below_alloc W (.cells #[Value.int .u32 ((x.1 : Nat) : Int)] 24))
            have sl2 := sl_one W x.1 _ rfl (by omega) 24
            have hal : w6.heap.size ≤ (W.alloc (.cells #[Value.int .u32 ((x.1 : Nat) : Int)] 24)).heap.size := by rw [World.size_alloc]; omega
            have Hrow := Lib.hid hrow
            have Hown1 := Lib.hid own1
            have Hzs := Lib.hid hzs
            clear hrow own1 hzs
            gi_wp2_with (gi_at_builtin; refine wpListIn_append_lim rfl (.tmp 48) (.tmp 50) _ rfl Try.underlying22 info32 w6.heap.size _ _ rfl own2 hal _ 1 _ rfl sl2 (by omega) ?_; intro v3 w3 hown3 hb3 hg3 hat3; obtain ⟨hv1, hv2, hr2, hk2, hbb2⟩ := Boxed.appended hbx (by decide) Hrow.out hsz1 (Nat.le_succ _) hown3.1 hg3; have cv := hv1.cell; have fv := hv1.frozen; have c2 := hv2.cell; have HK := Lib.hid (got_keep hbx (fun k hk => (Hown1.out.block k hk).2) hg3 (hbx.not_row (by decide) Hrow.out) hat3 (fun k hk => (hown3.block k hk).2)); obtain ⟨a3, c3, rfl, s3, _⟩ := hown3.sl; obtain ⟨n3, hn3⟩ : ∃ n, (zs ++ [x.1]).length = n := ⟨_, rfl⟩; have hn4 : n3 = pre.length + 1 := (by rw [← hn3, List.length_append, hzl]; rfl); rw [hn3] at c2 hr2 hv2 HK hk2 hbb2 ⊢; have HR2 := Lib.hid hr2; have HV2 := Lib.hid hv2; clear hr2 hv2 hv1 s3 hb3 hg3 hat3 own2 sl2 hn3)
            subst hn4
            have e1 : (pre ++ [x]).map (·.1) = zs ++ [x.1] := by rw [List.map_append, Hzs.out]; rfl
            have e2 : (pre ++ [x]).length = pre.length + 1 := by rw [List.length_append]; rfl
            exact ⟨hk2.from _, HK.out, ⟨⟨_, HV2.out, (show World.ownsRow _ _ _ _ _ (pre ++ [x]).length (lims ((pre ++ [x]).map (·.1))) from (by rw [e1, e2]; exact HR2.out))⟩, hB.trans hbb2⟩⟩
          case stop =>
            rintro D c pre W _ _ h _
            exact h.elim
          case done =>
            rintro D1 zs W hD rfl ⟨⟨v, hbx, hrow, _⟩, hB⟩ hK
            have own1 : Own w6.heap.size W v (dign d m) := ⟨by unfold dign; rw [List.length_map]; exact hrow, fun y hy => by unfold dign at hy; obtain ⟨q, _, rfl⟩ := List.mem_map.1 hy; have := q.2; omega⟩
            obtain ⟨a1, c1, rfl, s1, _⟩ := own1.sl
            have hraw : Raw W (.slice a1 (dign d m).length c1) (dign d m) := ⟨_, _, rfl, s1⟩
            have cx := hbx.cell
            have lx := hbx.lt
            replace v8 := v8.mono hB
            replace hwv := hwv.mono hB
            have c8 := v8.cell (i := 0) (by simp)
            have l8 := v8.lt
            simp only [List.getD_cons_zero] at c8
            have HRaw := Lib.hid hraw
            have HWV := Lib.hid hwv
            obtain ⟨nd, hnd⟩ : ∃ n, (dign d m).length = n := ⟨_, rfl⟩
            rw [hnd] at HRaw cx hbx
            clear hraw hwv s1 own1 hrow hnd
            go_wp2_with fail
            refine (same_calls _ _ (dign d m) W HRaw.out HWV.out).mono ?_
            rintro e y1 ⟨rfl, b7⟩
            replace v8 := v8.mono b7
            have hwv := HWV.out.mono b7
            have bW := hB.trans (b7.mono hB.size)
            replace vr := vr.mono bW
            replace vk := vk.mono bW
            replace hcs := (bW.cell (p := ⟨Bs, 0, none⟩) (lt_cell hcs)).trans hcs
            replace hcb := (bW.cell (p := ⟨Bb, 0, none⟩) (lt_cell hcb)).trans hcb
            replace hnum := hnum.mono bW
            replace B := below_trans B bW
            have hK1 := dfd_mono hK b7
            have hDlt1 := (Array.getElem?_eq_some_iff.1 hK1).1
            have hD1 : w6.heap.size ≤ D1 := by omega
            clear b7 HWV HRaw cx lx c8 l8 hbx hK hB hD GN hBb2 bl own bx hsz

            go_wp2_with fail
            rw [rounds_succ]
            have bl := below_trans (below_alloc y1 (.cells #[] 24)) (below_alloc (y1.alloc (.cells #[] 24)) (.cells #[.slice (some ⟨y1.heap.size, 0, none⟩) 0 0] 22))
            have own := (own_made y1).mono (below_alloc (y1.alloc (.cells #[] 24)) (.cells #[.slice (some ⟨y1.heap.size, 0, none⟩) 0 0] 22))
            have bx := Boxed.new (y1.alloc (.cells #[] 24)) 22 (.slice (some ⟨y1.heap.size, 0, none⟩) 0 0)
            rw [World.size_alloc] at bx
            have hsz : ((y1.alloc (.cells #[] 24)).alloc (.cells #[.slice (some ⟨y1.heap.size, 0, none⟩) 0 0] 22)).heap.size = y1.heap.size + 2 := by rw [World.size_alloc, World.size_alloc]
            go_wp2_with fail
            generalize ((y1.alloc (.cells #[] 24)).alloc (.cells #[.slice (some ⟨y1.heap.size, 0, none⟩) 0 0] 22)) = x2 at *
            refine (wpIn_wide (n := 9)).1 ?_
            have GN := gotB_new bx (fun k hk => own.block k hk) (Nat.le_succ _)
            have hBb2 := lt_cell hcb
            refine' wpIn_rangeFunc_ownG (F := Fence.wide) (n := 9) rfl (by omega) (gf := 34) (lb := #[.pointer (some ⟨Bs, 0, none⟩), .pointer (some ⟨Bb, 0, none⟩)]) rfl trivial (enters_of Try.func34 (by kernel_rfl) rfl)
              (digits_stops 8 (by omega) (y1.heap.size + 1) (GotB (y1.heap.size + 1)) (gotB_mine _) Bs Bb d m vq hd HMD.out HLM.out x2 (by omega) (fun k hk => (GN k hk).2) (fun h => by have h2 := (GN _ h).1; dsimp only at hBb2; omega)
                ((bl.cell (p := ⟨Bs, 0, none⟩) (lt_cell hcs)).trans hcs) ((bl.cell (p := ⟨Bb, 0, none⟩) (lt_cell hcb)).trans hcb) (hnum.mono bl) (off_of_num hnum (fun k hk => (GN k hk).1)))
              (fun h k => KeepB.trans h k) (fun W l o o' hl h1 h2 _ => KeepB.turn (gotB_mine _) W l o o' (by omega) h1 h2) (Below.refl _ _) (fun _ => rfl)
              (fun (pre : List (Dg d)) W => (∃ v, Boxed W (y1.heap.size + 1) 22 v ∧ W.ownsRow y1.heap.size 24 1 v pre.length (lims (pre.map (·.1))) ∧ True) ∧ Below y1.heap.size y1 W)
              (fun _ _ _ => False)
              (OwnFrom.and (Own.from (holdsRow_own y1.heap.size (y1.heap.size + 1) 22 24 1 (fun (pre : List (Dg d)) => pre.length) (fun (pre : List (Dg d)) => lims (pre.map (·.1))) (fun _ _ => True)) _) (ownFrom_below (Nat.le_refl _) (by omega)))
              (fun _ _ _ _ _ hs _ _ => hs)
              ⟨⟨_, bx, own.1, trivial⟩, bl⟩ _ ?assign ?body ?done ?stop
            case assign =>
              intro l x W K hK
              gi_wp2
              exact hK
            case body =>
              rintro l pre x W ⟨⟨v, hbx, hrow, _⟩, hB⟩ hlt
              obtain ⟨zs, hzs⟩ : ∃ zs, pre.map (·.1) = zs := ⟨_, rfl⟩
              have hzl : zs.length = pre.length := by rw [← hzs, List.length_map]
              have own1 : Own y1.heap.size W v zs := ⟨by rw [hzl, ← hzs]; exact hrow, fun y hy => by rw [← hzs] at hy; obtain ⟨q, _, rfl⟩ := List.mem_map.1 hy; have := q.2; omega⟩
              have hx2 := x.2
              have hn := HN.out
              have hsz1 := hB.size
              have cx := hbx.cell
              have fx := hbx.frozen
              have own2 := own1.mono (below_alloc W (.cells #[Value.int .u32 ((x.1 : Nat) : Int)] 24))
              have sl2 := sl_one W x.1 _ rfl (by omega) 24
              have hal : y1.heap.size ≤ (W.alloc (.cells #[Value.int .u32 ((x.1 : Nat) : Int)] 24)).heap.size := by rw [World.size_alloc]; omega
              have Hrow := Lib.hid hrow
              have Hown1 := Lib.hid own1
              have Hzs := Lib.hid hzs
              clear hrow own1 hzs
              gi_wp2_with (gi_at_builtin; refine wpListIn_append_lim rfl (.tmp 48) (.tmp 50) _ rfl Try.underlying22 info32 y1.heap.size _ _ rfl own2 hal _ 1 _ rfl sl2 (by omega) ?_; intro v3 w3 hown3 hb3 hg3 hat3; obtain ⟨hv1, hv2, hr2, hk2, hbb2⟩ := Boxed.appended hbx (by decide) Hrow.out hsz1 (Nat.le_succ _) hown3.1 hg3; have cv := hv1.cell; have fv := hv1.frozen; have c2 := hv2.cell; have HK := Lib.hid (got_keep hbx (fun k hk => (Hown1.out.block k hk).2) hg3 (hbx.not_row (by decide) Hrow.out) hat3 (fun k hk => (hown3.block k hk).2)); obtain ⟨a3, c3, rfl, s3, _⟩ := hown3.sl; obtain ⟨n3, hn3⟩ : ∃ n, (zs ++ [x.1]).length = n := ⟨_, rfl⟩; have hn4 : n3 = pre.length + 1 := (by rw [← hn3, List.length_append, hzl]; rfl); rw [hn3] at c2 hr2 hv2 HK hk2 hbb2 ⊢; have HR2 := Lib.hid hr2; have HV2 := Lib.hid hv2; clear hr2 hv2 hv1 s3 hb3 hg3 hat3 own2 sl2 hn3)
              subst hn4
              have e1 : (pre ++ [x]).map (·.1) = zs ++ [x.1] := by rw [List.map_append, Hzs.out]; rfl
              have e2 : (pre ++ [x]).length = pre.length + 1 := by rw [List.length_append]; rfl
              exact ⟨hk2.from _, HK.out, ⟨⟨_, HV2.out, (show World.ownsRow _ _ _ _ _ (pre ++ [x]).length (lims ((pre ++ [x]).map (·.1))) from (by rw [e1, e2]; exact HR2.out))⟩, hB.trans hbb2⟩⟩
            case stop =>
              rintro D c pre W _ _ h _
              exact h.elim
            case done =>
              rintro D2 zs W hD rfl ⟨⟨v, hbx, hrow, _⟩, hB⟩ hK
              have own1 : Own y1.heap.size W v (dign d m) := ⟨by unfold dign; rw [List.length_map]; exact hrow, fun y hy => by unfold dign at hy; obtain ⟨q, _, rfl⟩ := List.mem_map.1 hy; have := q.2; omega⟩
              obtain ⟨a1, c1, rfl, s1, _⟩ := own1.sl
              have hraw : Raw W (.slice a1 (dign d m).length c1) (dign d m) := ⟨_, _, rfl, s1⟩
              have cx := hbx.cell
              have lx := hbx.lt
              replace v8 := v8.mono hB
              replace hwv := hwv.mono hB
              have c8 := v8.cell (i := 0) (by simp)
              have l8 := v8.lt
              simp only [List.getD_cons_zero] at c8
              have HRaw := Lib.hid hraw
              have HWV := Lib.hid hwv
              obtain ⟨nd, hnd⟩ : ∃ n, (dign d m).length = n := ⟨_, rfl⟩
              rw [hnd] at HRaw cx hbx
              clear hraw hwv s1 own1 hrow hnd
              go_wp2_with fail
              refine (same_calls _ _ (dign d m) W HRaw.out HWV.out).mono ?_
              rintro e y2 ⟨rfl, b7⟩
              replace v8 := v8.mono b7
              have hwv := HWV.out.mono b7
              have bW := hB.trans (b7.mono hB.size)
              replace vr := vr.mono bW
              replace vk := vk.mono bW
              replace hcs := (bW.cell (p := ⟨Bs, 0, none⟩) (lt_cell hcs)).trans hcs
              replace hcb := (bW.cell (p := ⟨Bb, 0, none⟩) (lt_cell hcb)).trans hcb
              replace hnum := hnum.mono bW
              replace B := below_trans B bW
              replace hK1 := dfd_mono hK1 bW
              have hK2 := dfd_mono hK b7
              have hDlt2 := (Array.getElem?_eq_some_iff.1 hK2).1
              have hD2 : y1.heap.size ≤ D2 := by omega
              clear b7 HWV HRaw cx lx c8 l8 hbx hK hB hD GN hBb2 bl own bx hsz

              go_wp2_with fail
              rw [rounds_succ]
              go_wp2_with fail
              have bz := below_alloc y2 (.cells #[.int .i64 0] 3)
              have bx := Boxed.new y2 3 (.int .i64 0)
              generalize (y2.alloc (.cells #[.int .i64 0] 3)) = x3 at *
              refine (wpIn_wide (n := 9)).1 ?_
              have hg3 := bx.lt
              have hBb2 := lt_cell hcb
              dsimp only at hBb2
              refine' wpIn_rangeFunc_ownG (F := Fence.wide) (n := 9) rfl (by omega) (gf := 34) (lb := #[.pointer (some ⟨Bs, 0, none⟩), .pointer (some ⟨Bb, 0, none⟩)]) rfl trivial (enters_of Try.func34 (by kernel_rfl) rfl)
                (digits_stops 8 (by omega) y2.heap.size (OneB y2.heap.size) (oneB_mine _) Bs Bb d m vq hd HMD.out HLM.out x3 hg3 (fun k hk => by rw [show k = y2.heap.size from hk]; exact hg3) (fun h => by have h2 : Bb = y2.heap.size := h; omega)
                  ((bz.cell (p := ⟨Bs, 0, none⟩) (lt_cell hcs)).trans hcs) ((bz.cell (p := ⟨Bb, 0, none⟩) (lt_cell hcb)).trans hcb) (hnum.mono bz) (off_of_num hnum (fun k hk => Nat.le_of_eq (show k = y2.heap.size from hk).symm)))
                (fun h k => KeepB.trans h k) (fun W l o o' hl h1 h2 _ => KeepB.turn (oneB_mine y2.heap.size) W l o o' (by omega) h1 h2) (Below.refl _ _) (fun _ => rfl)
                (fun (pre : List (Dg d)) W => (Boxed W y2.heap.size 3 (.int .i64 ((pre.length : Nat) : Int)) ∧ pre <+: digs d m) ∧ Below y2.heap.size y2 W)
                (fun c pre W => ((c = Code.exit 4 ∧ k ≤ pre.length) ∧ ((Boxed W y2.heap.size 3 (.int .i64 ((pre.length : Nat) : Int)) ∧ True) ∧ Below y2.heap.size y2 W)) ∨ (c = Code.ret ∧ ¬ pre <+: digs d m))
                (OwnFrom.and (Own.from (boxedOnly_own y2.heap.size 3 (fun (pre : List (Dg d)) => .int .i64 ((pre.length : Nat) : Int)) (fun pre => pre <+: digs d m)) _) (ownFrom_below (Nat.le_refl _) (by omega)))
                (fun c => ownFrom_or (OwnFrom.and (Own.from (boxedOnly_own y2.heap.size 3 (fun (pre : List (Dg d)) => .int .i64 ((pre.length : Nat) : Int)) (fun _ => True)) _) (ownFrom_below (Nat.le_refl _) (by omega))) (fun pre => c = Code.exit 4 ∧ k ≤ pre.length) (fun pre => c = Code.ret ∧ ¬ pre <+: digs d m))
                ⟨⟨bx, List.nil_prefix⟩, bz⟩ _ ?assign ?body ?done ?stop
              case assign =>
                intro l x W K hK
                gi_wp2
                exact hK
              case body =>
                rintro l pre x W ⟨⟨hbx, hpre⟩, hB⟩ hlt
                have lk2 := vk.lt
                have lr2 := vr.lt
                replace v8 := v8.mono hB
                replace hwv := hwv.mono hB
                replace vk := vk.mono hB
                replace vr := vr.mono hB
                obtain ⟨a5, c5, rfl, s5⟩ := hwv
                have c8 := v8.cell (i := 0) (by simp)
                have ck := vk.cell (i := 0) (by simp)
                simp only [List.getD_cons_zero] at c8 ck
                have hl5 : (dign d m).length = (digs d m).length := by unfold dign; rw [List.length_map]
                obtain ⟨nd, hnd⟩ : ∃ n, (digs d m).length = n := ⟨_, rfl⟩
                rw [hl5, hnd] at c8 v8
                have hn := HN.out
                rw [hnd] at hn
                rw [hnd] at hlt
                have cx := hbx.cell
                have fx := hbx.frozen
                have lx := hbx.lt
                have lr := vr.lt
                have cr := vr.cell (i := 0) (by simp)
                have fr := vr.frozen 0
                simp only [List.getD_cons_zero] at cr
                have t0 : ¬ ((nd : Int) ≤ (pre.length : Int)) := by omega
                obtain ⟨b5, o5, rfl, hb5, ce, fe⟩ := s5.open (i := pre.length) (by omega)
                have E2 := Lib.hid (show (((pre ++ [x]).length : Nat) : Int) = (pre.length : Int) + 1 by rw [List.length_append, List.length_singleton, Int.natCast_add]; rfl)
                have BS := Lib.hid (hbx.set (.int .i64 ((pre.length : Int) + 1)))
                have HBS := Lib.hid (hB.setCell (p := ⟨y2.heap.size, 0, none⟩) (Nat.le_refl _) (.int .i64 ((pre.length : Int) + 1)))
                have Hs5 := Lib.hid s5
                have HPRE := Lib.hid hpre
                obtain ⟨ev, hev⟩ : ∃ n, (dign d m).getD pre.length 0 = n := ⟨_, rfl⟩
                rw [hev] at ce
                have HEV := Lib.hid hev
                have HND := Lib.hid hnd
                obtain ⟨xv, hxv⟩ : ∃ n, x.1 = n := ⟨_, rfl⟩
                have HXV := Lib.hid hxv
                clear s5 hpre hev hnd hl5
                rw [hxv]
                clear hxv
                by_cases hx : ev = xv
                · subst hx
                  by_cases hk : k ≤ pre.length + 1
                  · have t1 : (k : Int) ≤ (pre.length : Int) + 1 := by omega
                    gi_wp2
                    exact ⟨(KeepsOthers.setCell W _ _).from _, .inl ⟨⟨rfl, by rw [List.length_append]; exact hk⟩, by rw [E2.out]; exact BS.out, HBS.out⟩⟩
                  · have t1 : ¬ (k : Int) ≤ (pre.length : Int) + 1 := by omega
                    gi_wp2
                    exact ⟨(KeepsOthers.setCell W _ _).from _, one_keep _ _ _ lx, ⟨by rw [E2.out]; exact BS.out, prefix_snoc HPRE.out (dign_get' (by rw [HND.out]; exact hlt) (HXV.out.trans HEV.out.symm))⟩, HBS.out⟩
                · have t1 : ¬ ((ev : Int) = (xv : Int)) := by omega
                  gi_wp2
                  exact ⟨(KeepsOthers.setCell W _ _).from _, .inr ⟨rfl, fun hp => hx (HEV.out.symm.trans ((dign_get (prefix_get hp)).trans HXV.out))⟩⟩
              case stop =>
                rintro D3 c pre W hD hpre (⟨⟨rfl, hk⟩, ⟨hbx, _⟩, hB⟩ | ⟨rfl, hno⟩) hK
                · have t1 : (k : Int) ≤ (pre.length : Int) := by omega
                  have lk2 := vk.lt
                  have lr2 := vr.lt
                  replace v8 := v8.mono hB
                  replace hwv := hwv.mono hB
                  replace vk := vk.mono hB
                  replace vr := vr.mono hB
                  obtain ⟨a5, c5, rfl, s5⟩ := hwv
                  have c8 := v8.cell (i := 0) (by simp)
                  have ck := vk.cell (i := 0) (by simp)
                  simp only [List.getD_cons_zero] at c8 ck
                  have hl5 : (dign d m).length = (digs d m).length := by unfold dign; rw [List.length_map]
                  obtain ⟨nd, hnd⟩ : ∃ n, (digs d m).length = n := ⟨_, rfl⟩
                  rw [hl5, hnd] at c8 v8
                  have hn := HN.out
                  rw [hnd] at hn
                  have cx := hbx.cell
                  replace hK1 := dfd_mono hK1 hB
                  replace hK2 := dfd_mono hK2 hB
                  replace B := below_trans B hB
                  refine (wpIn_wide (n := 9)).2 ?_
                  go_wp2_with fail
                  refine (lives_calls _).mono ?_
                  rintro e y4 ⟨rfl, b8⟩
                  replace vr := vr.mono b8
                  have hR1 := dfd_mono hK1 b8
                  have hR2 := dfd_mono hK2 b8
                  have hR3 := dfd_mono hK b8
                  replace B := below_trans B b8
                  have cr := vr.cell (i := 0) (by simp)
                  have fr := vr.frozen 0
                  simp only [List.getD_cons_zero] at cr
                  go_wp2
                  exact leave3 rfl _ _ _ w _ _ D1 D2 D3 rfl (B.setCell (p := ⟨w.heap.size + 1, 0, none⟩) (Nat.le_succ _) _) (vr.set 0 _) (Nat.le_succ _) ((Below.heap_setCell _ _ _ _ (by show D1 ≠ w.heap.size + 1; omega)).trans hR1) ((Below.heap_setCell _ _ _ _ (by show D2 ≠ w.heap.size + 1; omega)).trans hR2) ((Below.heap_setCell _ _ _ _ (by show D3 ≠ w.heap.size + 1; omega)).trans hR3) (by omega) (by omega) (by omega)
                · exact absurd hpre hno
              case done =>
                rintro D3 zs W hD rfl ⟨⟨hbx, _⟩, hB⟩ hK
                have lk2 := vk.lt
                have lr2 := vr.lt
                replace v8 := v8.mono hB
                replace hwv := hwv.mono hB
                replace vk := vk.mono hB
                replace vr := vr.mono hB
                obtain ⟨a5, c5, rfl, s5⟩ := hwv
                have c8 := v8.cell (i := 0) (by simp)
                have ck := vk.cell (i := 0) (by simp)
                simp only [List.getD_cons_zero] at c8 ck
                have hl5 : (dign d m).length = (digs d m).length := by unfold dign; rw [List.length_map]
                obtain ⟨nd, hnd⟩ : ∃ n, (digs d m).length = n := ⟨_, rfl⟩
                rw [hl5, hnd] at c8 v8
                have hn := HN.out
                rw [hnd] at hn
                rw [hnd] at hbx
                have cx := hbx.cell
                replace hK1 := dfd_mono hK1 hB
                replace hK2 := dfd_mono hK2 hB
                replace B := below_trans B hB
                by_cases hk : k ≤ nd
                · have t1 : (k : Int) ≤ (nd : Int) := by omega
                  go_wp2_with fail
                  refine (lives_calls _).mono ?_
                  rintro e y4 ⟨rfl, b8⟩
                  replace vr := vr.mono b8
                  have hR1 := dfd_mono hK1 b8
                  have hR2 := dfd_mono hK2 b8
                  have hR3 := dfd_mono hK b8
                  replace B := below_trans B b8
                  have cr := vr.cell (i := 0) (by simp)
                  have fr := vr.frozen 0
                  simp only [List.getD_cons_zero] at cr
                  go_wp2
                  exact leave3 rfl _ _ _ w _ _ D1 D2 D3 rfl (B.setCell (p := ⟨w.heap.size + 1, 0, none⟩) (Nat.le_succ _) _) (vr.set 0 _) (Nat.le_succ _) ((Below.heap_setCell _ _ _ _ (by show D1 ≠ w.heap.size + 1; omega)).trans hR1) ((Below.heap_setCell _ _ _ _ (by show D2 ≠ w.heap.size + 1; omega)).trans hR2) ((Below.heap_setCell _ _ _ _ (by show D3 ≠ w.heap.size + 1; omega)).trans hR3) (by omega) (by omega) (by omega)
                · have t1 : ¬ (k : Int) ≤ (nd : Int) := by omega
                  go_wp2_with fail
                  refine (lives_calls _).mono ?_
                  rintro e y4 ⟨rfl, b8⟩
                  replace vr := vr.mono b8
                  have hR1 := dfd_mono hK1 b8
                  have hR2 := dfd_mono hK2 b8
                  have hR3 := dfd_mono hK b8
                  replace B := below_trans B b8
                  have cr := vr.cell (i := 0) (by simp)
                  have fr := vr.frozen 0
                  simp only [List.getD_cons_zero] at cr
                  go_wp2
                  exact leave3 rfl _ _ _ w _ _ D1 D2 D3 rfl (B.setCell (p := ⟨w.heap.size + 1, 0, none⟩) (Nat.le_succ _) _) (vr.set 0 _) (Nat.le_succ _) ((Below.heap_setCell _ _ _ _ (by show D1 ≠ w.heap.size + 1; omega)).trans hR1) ((Below.heap_setCell _ _ _ _ (by show D2 ≠ w.heap.size + 1; omega)).trans hR2) ((Below.heap_setCell _ _ _ _ (by show D3 ≠ w.heap.size + 1; omega)).trans hR3) (by omega) (by omega) (by omega)
end Go.Proofs
