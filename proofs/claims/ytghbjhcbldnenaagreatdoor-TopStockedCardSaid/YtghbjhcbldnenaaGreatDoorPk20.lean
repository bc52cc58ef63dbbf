/- TopStocked: what the walk of the law carries. Lots in order: comparing by account and item is a strict weak order (plain law). What the sort of lots asks: cmp.Or, the comparison, memory behind the sort. balances.lots: as many lots as there are places that are not nought. -/
import Derived.Test.YtghbjhcbldnenaaGreatDoorPk11
import Derived.Test.YtghbjhcbldnenaaGreatDoorPk15
import Derived.Test.YtghbjhcbldnenaaGreatDoorPk18
import Derived.Test.YtghbjhcbldnenaaGreatDoorPk19
import Derived.Lib.Bytealg
import Derived.Shelf.SlSortCmp.Insertion
import Derived.Test.YtghbjhcbldnenaaGreatDoorPk09
import Derived.Test.YtghbjhcbldnenaaGreatDoorShelf
import Derived.Shelf.SlSortCmp.InsertionK
import Derived.Shelf.SlSortCmp.WholeK
import Derived.Test.YtghbjhcbldnenaaGreatDoorShelfB

section
open Go.RowKit Go.Deep Go.Maps
namespace Go.Proofs
set_option linter.unusedVariables false
set_option linter.unusedSimpArgs false

theorem smask_1023 (z : Int) : ∃ k : Nat, k ≤ 1023 ∧ bits BinOp.and IntKind.i64 z 1023 = (k : Int) := by
  refine ⟨(BitVec.ofInt 64 z).toNat &&& 1023, Nat.and_le_right, ?_⟩
  have hlt : (BitVec.ofInt 64 z).toNat &&& 1023 ≤ 1023 := Nat.and_le_right
  have e : (BitVec.ofInt 64 z &&& BitVec.ofInt 64 1023).toNat = (BitVec.ofInt 64 z).toNat &&& 1023 := by
    rw [BitVec.toNat_and]
    rfl
  show IntKind.i64.wrap ((BitVec.ofInt 64 z &&& BitVec.ofInt 64 1023).toNat : Int) = _
  rw [e, IntKind.wrap_i64]
  omega
def RetTrueS (w : World) (e : Ending) (w' : World) : Prop := e = .returned (.bool true) ∧ Below w.heap.size w w'
def cutS (S : Scl) : Scl := ⟨S.cs.take 12, S.ms, S.gs.take 6, S.sf, S.ch⟩
theorem cutS_I {S : Scl} (h : SclI S) : SclI (cutS S) where
  cs := fun c hc => h.cs c (List.mem_of_mem_take hc)
  ms := h.ms
  gs := fun z hz => h.gs z (List.mem_of_mem_take hz)
  sf := h.sf
  ch := h.ch
theorem RdZ.takeS {w : World} {ad c L} (h : RdZ w ad c L) (m : Nat) : RdZ w ad c (L.take m) := by
  have hl : (L.take m).length ≤ L.length := by rw [List.length_take]; omega
  refine ⟨Nat.le_trans hl h.1, h.2.1, ?_⟩
  rcases h.2.2 with h4 | ⟨x, rfl, h4⟩
  · exact .inl h4
  · exact .inr ⟨x, rfl, fun i hi => by rw [getD_takeP L m 0 hi]; exact h4 i (by omega)⟩
theorem InC.cut {w : World} {ad c} {L : List Crs} (h : RdC w ad c L) (m : Nat) (hm : m ≤ L.length) : InC w (.slice ad m c) (L.take m) := ⟨ad, c, by rw [List.length_take, Nat.min_eq_left hm], h.take m⟩
theorem InZ.cut {w : World} {ad c} {L : List Int} (h : RdZ w ad c L) (m : Nat) (hm : m ≤ L.length) : InZ w (.slice ad m c) (L.take m) := ⟨ad, c, by rw [List.length_take, Nat.min_eq_left hm], h.takeS m⟩
theorem InC.at0 {w : World} {ad c} {L : List Crs} (h : RdC w ad c L) (hL : 0 < L.length) : ∃ b o, ad = some ⟨b, o, none⟩ := by
  obtain ⟨h1, h2, h3⟩ := h
  rcases h3 with h3 | ⟨b, o, e, _⟩
  · omega
  · exact ⟨b, o, e⟩
theorem bestP_IS {S : Scl} (hs : sclOk S = true) (hv : (bestV S).1 ≠ -1) : PksI (bestP S) := by
  intro p hp
  obtain ⟨i, hi, rfl⟩ := List.mem_map.1 hp
  have hi2 := List.mem_range.1 hi
  have h := (idx_pkAt ((best_steps hv).2.1 i hi2).1).1
  obtain ⟨⟨h1, h2⟩, h3, h4⟩ := pk_facts h
  obtain ⟨_, l2, l3, _⟩ := headOk_lens (headOk_of hs)
  unfold zI
  omega
theorem lot_cellsS {w : World} {ad : Option Addr} {c n : Nat} {L : List Lt} (h : RdV w ad c n 3 (flat lcl L)) {i : Nat} (hi : i < L.length) {X : Lt} (hX : L.getD i lt0 = X) :
    ∃ b o, ad = some ⟨b, o, none⟩ ∧ w.cell? ⟨b, o + i * 3, none⟩ = some (.string wireB) ∧ w.cell? ⟨b, o + i * 3 + 1, none⟩ = some (.string X.s) ∧ w.cell? ⟨b, o + i * 3 + 2, none⟩ = some (.int .i64 X.q) := by
  obtain ⟨b, o, e, k⟩ := RdV.at lcl_len h (by omega) lt0 hi
  rw [hX] at k
  exact ⟨b, o, e, k 0 _ rfl, k 1 _ rfl, k 2 _ rfl⟩
theorem vals_belowS {w w' : World} {b B : Nat} {vs : List Value} (h : Vals w b vs) (hb : Below B w w') (hB : b < B) : Vals w' b vs := by
  obtain ⟨e, h⟩ := h
  exact ⟨e, (hb.block b hB).trans h⟩

/-- no scaling, or no picks -/
theorem stk_bad (T : Scl) (tail : Nat) (cv mv gv : Value) (w : World) (hS : InS w cv mv gv T) (hI : SclI T) (hb : sclOk T = false ∨ (sclOk T = true ∧ (bestV T).1 = -1)) :
    ∃ c1 : Int, c1 ≠ 0 ∧ Calls Tryz.prog 7 #[.agg #[cv, mv, gv, .int .i64 T.sf, .int .i64 T.ch]] w fun e w' => e = .returned (.tuple #[.slice none 0 0, .int .i64 0, .int .i64 c1]) ∧ Below w.heap.size w w' := by
  rcases hb with hb | ⟨hb, hv⟩
  · exact ⟨1, by decide, wbest_bad T cv mv gv w hS hI hb⟩
  · exact ⟨6, by decide, wbest_none T cv mv gv w hS hI hb hv⟩
theorem stk_bad2 (T : Scl) (tail : Int) (ht : 0 ≤ tail ∧ tail ≤ 100000) (cv mv gv : Value) (w : World) (hS : InS w cv mv gv T) (hI : SclI T) :
    ∃ c2 : Int, c2 ≠ 0 ∧ Calls Tryz.prog 8 #[.agg #[cv, mv, gv, .int .i64 T.sf, .int .i64 T.ch], .slice none 0 0, .int .i64 tail] w fun e w' => e = .returned (.tuple #[.slice none 0 0, .int .i64 c2]) ∧ Below w.heap.size w w' := by
  have hP : InP w (.slice none 0 0) [] := ⟨none, 0, rfl, Nat.le_refl _, Nat.zero_le _, .inl rfl⟩
  have hPI : PksI [] := fun p hp => by cases hp
  cases hs : sclOk T with
  | false => exact ⟨1, by decide, wneeds_bad T [] tail cv mv gv _ w hS hP hI (by unfold zI; omega) (fun h => by rw [hs] at h; cases h)⟩
  | true =>
    refine ⟨2, by decide, wneeds_form T [] tail cv mv gv _ w hS hP hI hPI hs ht ?_⟩
    obtain ⟨l1, _⟩ := headOk_lens (headOk_of hs)
    cases hf : fitsB T [] with
    | false => rfl
    | true =>
      have := (fits_parts hf).1
      simp at this
      omega

/-- the book at work: its disk is block B -/
structure Stk (wc W : World) (B b mb k n : Nat) (f : Bal) (xs : List Nat) : Prop where
  bk : BookS W B b B mb k n f
  dk : DiskS W B B xs
  bl : Below B wc W
  sz : B ≤ W.heap.size
theorem Stk.kt {wc W W' B b mb k n f xs ts} (H : Stk wc W B b mb k n f xs) (K : KT ts B W W') (h1 : some 57 ∉ ts) (h2 : some 36 ∉ ts) (h3 : none ∉ ts) (h4 : some 51 ∉ ts) (h5 : some 5 ∉ ts) : Stk wc W' B b mb k n f xs :=
  ⟨H.bk.kt K h1 h2 h3, H.dk.kt K h4 h5, H.bl.trans K.below, Nat.le_trans H.sz K.size⟩
theorem Stk.on {wc W W' B b mb k n f xs} (H : Stk wc W B b mb k n f xs) (hb : Below W.heap.size W W') : Stk wc W' B b mb k n f xs :=
  H.kt (KT.of_below (ts := []) hb H.sz) (by simp) (by simp) (by simp) (by simp) (by simp)
theorem stk_post {wc W B b mb k n f xs} (H : Stk wc W B b mb k n f xs) {L : List Mv} {v : Value} (hv : MvT W v L) (hL : 1 ≤ L.length ∧ L.length ≤ 32) (hG : ∀ k, k < L.length → MvOk (L.getD k mv0)) (hB : Bd f 500000000000)
    (hR : refN f (doN z0 L L.length) (plsN L L.length) (2 * L.length) = 0) (hn : n ≤ 100000) (hk : k ≤ 100000) (hx : xs.length ≤ 50000) :
    Calls Tryz.prog 6 #[.pointer (some ⟨b, 0, none⟩), v] W fun e w' => e = .returned (.int .i64 0) ∧ Stk wc w' B b mb (k + 1) (n + 2 * L.length) (doN f L L.length) (xs ++ encB L) ∧ KT allT B W w' :=
  (post_ok W B b B mb k n f L v xs H.bk H.dk hv hL hG hB hR hn hk hx H.sz).mono fun e w' ⟨h1, h2, h3, h4⟩ => ⟨h1, ⟨h2, h3, H.bl.trans h4.below, Nat.le_trans H.sz h4.size⟩, h4⟩
theorem stk_no {wc W B b mb k n f xs} (H : Stk wc W B b mb k n f xs) {L : List Mv} {v : Value} (hv : MvT W v L) (hL : 1 ≤ L.length ∧ L.length ≤ 32) (hG : ∀ k, k < L.length → MvOk (L.getD k mv0)) (hB : Bd f 500000000000)
    (hR : refN f (doN z0 L L.length) (plsN L L.length) (2 * L.length) = 10) :
    Calls Tryz.prog 6 #[.pointer (some ⟨b, 0, none⟩), v] W fun e w' => e = .returned (.int .i64 10) ∧ Below W.heap.size W w' :=
  post_no W B b B mb k n f L v 10 H.bk hv.inMv hL hG hB hR (by decide)
theorem MvT.new (w : World) (L : List Mv) (vs : Array Value) (hv : vs = (flat mvcl L).toArray) (hl : L.length ≤ maxLen) : MvT (w.alloc (.cells vs 35)) (.slice (some ⟨w.heap.size, 0, none⟩) L.length L.length) L :=
  ⟨_, L.length, rfl, rd_new mvcl_len w _ L vs hv hl, fun a ha => by cases ha; exact ⟨_, _, heap_alloc_new w _⟩⟩
theorem MvT.own {w : World} {C : Nat} {ad : Option Addr} {c n : Nat} {L : List Mv} (h : w.ownsRow C 35 4 (.slice ad n c) n (flat mvcl L)) (hl : L.length = n) : MvT w (.slice ad n c) L := by
  subst hl
  exact ⟨ad, c, rfl, (ownsRow_rds h).1, own_typed h⟩

theorem owns_grownS {w w' : World} {B e k n : Nat} {v : Value} {cs : List Value} {row : Option Nat} (h : w.ownsRow B e k v n cs) (hg : w.grownBy w' row) (hne : ∀ b, v.ownBlock = some b → row ≠ some b) : w'.ownsRow B e k v n cs := by
  obtain ⟨hl, h1⟩ := h
  refine ⟨hl, ?_⟩
  rcases h1 with h1 | ⟨g, cap, cur, rfl, hg0, hh, hrest⟩
  · exact .inl h1
  · exact .inr ⟨g, cap, cur, rfl, hg0, (hg.block g (Array.getElem?_eq_some_iff.1 hh).1 (fun e => hne g rfl e.symm)).trans hh, hrest⟩
/-- two rows of moves that grow -/
structure TwoS (W0 W : World) (v1 : Value) (n1 : Nat) (L1 : List Mv) (v2 : Value) (n2 : Nat) (L2 : List Mv) : Prop where
  o1 : W.ownsRow W0.heap.size 35 4 v1 n1 (flat mvcl L1)
  o2 : W.ownsRow W0.heap.size 35 4 v2 n2 (flat mvcl L2)
  ne : ∀ b, v1.ownBlock = some b → v2.ownBlock ≠ some b
  bl : Below W0.heap.size W0 W
theorem TwoS.sz {W0 W v1 n1 L1 v2 n2 L2} (h : TwoS W0 W v1 n1 L1 v2 n2 L2) : W0.heap.size ≤ W.heap.size := h.bl.size
theorem TwoS.lay {W0 W W' v1 n1 L1 v2 n2 L2} (h : TwoS W0 W v1 n1 L1 v2 n2 L2) (hb : Below W.heap.size W W') : TwoS W0 W' v1 n1 L1 v2 n2 L2 :=
  ⟨ownsRow_mono h.o1 hb, ownsRow_mono h.o2 hb, h.ne, h.bl.trans (hb.mono h.sz)⟩
theorem TwoS.app1 {W0 W W' v1 n1 L1 v2 n2 L2 v1' n1' L1'} (h : TwoS W0 W v1 n1 L1 v2 n2 L2) (ho : W'.ownsRow W0.heap.size 35 4 v1' n1' (flat mvcl L1')) (hg : W.grownBy W' v1.ownBlock) (hb : Below W0.heap.size W W')
    (hk : v1'.ownBlock = v1.ownBlock ∨ v1'.ownBlock = some W.heap.size) : TwoS W0 W' v1' n1' L1' v2 n2 L2 :=
  ⟨ho, owns_grownS h.o2 hg (fun b hb e => h.ne b e hb), fun b hb e => by
    rcases hk with hk | hk
    · exact h.ne b (hk.symm.trans hb) e
    · have := (ownsRow_block h.o2 b e).2
      rw [hk] at hb
      have := Option.some.inj hb
      omega, h.bl.trans hb⟩
theorem TwoS.app2 {W0 W W' v1 n1 L1 v2 n2 L2 v2' n2' L2'} (h : TwoS W0 W v1 n1 L1 v2 n2 L2) (ho : W'.ownsRow W0.heap.size 35 4 v2' n2' (flat mvcl L2')) (hg : W.grownBy W' v2.ownBlock) (hb : Below W0.heap.size W W')
    (hk : v2'.ownBlock = v2.ownBlock ∨ v2'.ownBlock = some W.heap.size) : TwoS W0 W' v1 n1 L1 v2' n2' L2' :=
  ⟨owns_grownS h.o1 hg (fun b hb e => h.ne b hb e), ho, fun b hb e => by
    rcases hk with hk | hk
    · exact h.ne b hb (hk.symm.trans e)
    · have := (ownsRow_block h.o1 b hb).2
      rw [hk] at e
      have := Option.some.inj e
      omega, h.bl.trans hb⟩
theorem TwoS.start (W : World) : TwoS W ((W.alloc (.cells #[] 35)).alloc (.cells #[] 35)) (.slice (some ⟨W.heap.size, 0, none⟩) 0 0) 0 [] (.slice (some ⟨W.heap.size + 1, 0, none⟩) 0 0) 0 [] := by
  have h1 := ownsRow_mono (ownsRow_made W 35 4) (below_alloc _ (.cells #[] 35))
  have h2 := ownsRow_made (W.alloc (.cells #[] 35)) 35 4
  rw [World.size_alloc] at h2
  refine ⟨h1, own_low h2 (Nat.le_succ _), fun b hb e => ?_, (below_alloc _ _).trans ((below_alloc _ _).mono (by rw [World.size_alloc]; omega))⟩
  have h3 := Option.some.inj hb
  have h4 := Option.some.inj e
  dsimp only at h3 h4
  omega
theorem buyL_take {NL : List Lt} {i : Nat} (h : i < NL.length) : buyL (NL.take (i + 1)) = buyL (NL.take i) ++ [⟨outB, stoB, (NL.getD i lt0).s, (NL.getD i lt0).q⟩] := by
  have hg : NL.getD i lt0 = NL[i] := by simp [List.getD, List.getElem?_eq_getElem h]
  rw [List.take_succ_eq_append_getElem h, hg]
  unfold buyL
  rw [List.map_append]
  rfl
theorem useL_take {NL : List Lt} {i : Nat} (h : i < NL.length) : useL (NL.take (i + 1)) = useL (NL.take i) ++ [⟨stoB, casB, (NL.getD i lt0).s, (NL.getD i lt0).q⟩] := by
  have hg : NL.getD i lt0 = NL[i] := by simp [List.getD, List.getElem?_eq_getElem h]
  rw [List.take_succ_eq_append_getElem h, hg]
  unfold useL
  rw [List.map_append]
  rfl
end Go.Proofs
end

section
namespace Go.Proofs
set_option linter.unusedVariables false
set_option linter.unusedSimpArgs false
open Go.Sort

theorem cb_self : ∀ a : List UInt8, Lib.compareBytes a a = 0
  | [] => rfl
  | x :: a => by
    unfold Lib.compareBytes
    rw [if_neg (UInt8.lt_irrefl x), if_neg (UInt8.lt_irrefl x)]
    exact cb_self a
theorem cb_anti : ∀ a b : List UInt8, Lib.compareBytes b a = - Lib.compareBytes a b
  | [], [] => rfl
  | [], _ :: _ => rfl
  | _ :: _, [] => rfl
  | x :: a, y :: b => by
    have ih := cb_anti a b
    unfold Lib.compareBytes
    by_cases h1 : x < y
    · have h2 : ¬ y < x := UInt8.lt_asymm h1
      rw [if_neg h2, if_pos h1, if_pos h1]
      rfl
    · by_cases h2 : y < x
      · rw [if_pos h2, if_neg h1, if_pos h2]
      · rw [if_neg h2, if_neg h1, if_neg h1, if_neg h2]
        exact ih
theorem cb_zero : ∀ a b : List UInt8, Lib.compareBytes a b = 0 → a = b
  | [], [], _ => rfl
  | [], _ :: _, h => by unfold Lib.compareBytes at h; cases h
  | _ :: _, [], h => by unfold Lib.compareBytes at h; cases h
  | x :: a, y :: b, h => by
    unfold Lib.compareBytes at h
    by_cases h1 : x < y
    · rw [if_pos h1] at h; cases h
    · rw [if_neg h1] at h
      by_cases h2 : y < x
      · rw [if_pos h2] at h; cases h
      · rw [if_neg h2] at h
        have e : x = y := UInt8.le_antisymm (UInt8.not_lt.1 h2) (UInt8.not_lt.1 h1)
        rw [e, cb_zero a b h]
theorem cb_trans : ∀ a b c : List UInt8, Lib.compareBytes a b < 0 → Lib.compareBytes b c < 0 → Lib.compareBytes a c < 0
  | [], [], _, h, _ => by unfold Lib.compareBytes at h; omega
  | [], _ :: _, [], _, h => by unfold Lib.compareBytes at h; omega
  | [], _ :: _, _ :: _, _, _ => by unfold Lib.compareBytes; omega
  | _ :: _, [], _, h, _ => by unfold Lib.compareBytes at h; omega
  | _ :: _, _ :: _, [], _, h => by unfold Lib.compareBytes at h; omega
  | x :: a, y :: b, z :: c, h, k => by
    have ih := cb_trans a b c
    unfold Lib.compareBytes at h k ⊢
    by_cases h1 : x < y
    · by_cases h3 : y < z
      · rw [if_pos (UInt8.lt_trans h1 h3)]; omega
      · rw [if_neg h3] at k
        by_cases h4 : z < y
        · rw [if_pos h4] at k; omega
        · have e : y = z := UInt8.le_antisymm (UInt8.not_lt.1 h4) (UInt8.not_lt.1 h3)
          rw [← e, if_pos h1]; omega
    · rw [if_neg h1] at h
      by_cases h2 : y < x
      · rw [if_pos h2] at h; omega
      · rw [if_neg h2] at h
        have e : x = y := UInt8.le_antisymm (UInt8.not_lt.1 h2) (UInt8.not_lt.1 h1)
        subst e
        by_cases h3 : x < z
        · rw [if_pos h3]; omega
        · rw [if_neg h3] at k ⊢
          by_cases h4 : z < x
          · rw [if_pos h4] at k; omega
          · rw [if_neg h4] at k ⊢
            exact ih h k

/-- a lot -/
structure Lo where
  a : ByteArray
  i : ByteArray
  q : Int
instance : Inhabited Lo := ⟨⟨⟨#[]⟩, ⟨#[]⟩, 0⟩⟩
def cmpB (a b : ByteArray) : Int := Lib.compareBytes a.data.toList b.data.toList
def cfLo (x y : Lo) : Int := if cmpB x.a y.a ≠ 0 then cmpB x.a y.a else cmpB x.i y.i
theorem cmpB_anti (a b : ByteArray) : cmpB b a = - cmpB a b := cb_anti _ _
theorem cmpB_zero {a b : ByteArray} (h : cmpB a b = 0) : a = b := by
  have := cb_zero _ _ h
  obtain ⟨x⟩ := a
  obtain ⟨y⟩ := b
  congr 1
  exact Array.toList_inj.1 this
theorem cmpB_self (a : ByteArray) : cmpB a a = 0 := cb_self _
theorem cmpB_trans {a b c : ByteArray} (h : cmpB a b < 0) (k : cmpB b c < 0) : cmpB a c < 0 := cb_trans _ _ _ h k
theorem cfLo_self (x : Lo) : cfLo x x = 0 := by
  unfold cfLo
  rw [cmpB_self, if_neg (by simp), cmpB_self]
theorem cfLo_anti (x y : Lo) : cfLo y x = - cfLo x y := by
  have h1 := cmpB_anti x.a y.a
  have h2 := cmpB_anti x.i y.i
  unfold cfLo
  by_cases h : cmpB x.a y.a = 0
  · rw [if_neg (by omega), if_neg (by omega), h2]
  · rw [if_pos (by omega), if_pos (by omega), h1]
theorem cfLo_zero {x y : Lo} (h : cfLo x y = 0) : x.a = y.a ∧ x.i = y.i := by
  unfold cfLo at h
  by_cases h0 : cmpB x.a y.a = 0
  · rw [if_neg (by omega)] at h
    exact ⟨cmpB_zero h0, cmpB_zero h⟩
  · rw [if_pos (by omega)] at h
    exact absurd h h0
theorem cfLo_trans {x y z : Lo} (h : cfLo x y < 0) (k : cfLo y z < 0) : cfLo x z < 0 := by
  unfold cfLo at h k ⊢
  by_cases h0 : cmpB x.a y.a = 0
  · rw [if_neg (by omega)] at h
    rw [cmpB_zero h0]
    by_cases k0 : cmpB y.a z.a = 0
    · rw [if_neg (by omega)] at k
      rw [if_neg (by omega)]
      exact cmpB_trans h k
    · rw [if_pos (by omega)] at k
      rw [if_pos (by omega)]
      exact k
  · rw [if_pos (by omega)] at h
    by_cases k0 : cmpB y.a z.a = 0
    · have e := cmpB_zero k0
      rw [← e, if_pos (by omega)]
      exact h
    · rw [if_pos (by omega)] at k
      have := cmpB_trans h k
      rw [if_pos (by omega)]
      exact this
theorem cfLo_same {x y : Lo} (h : x.a = y.a ∧ x.i = y.i) (z : Lo) : cfLo x z = cfLo y z := by
  unfold cfLo
  rw [h.1, h.2]
theorem cfLo_same2 {x y : Lo} (h : x.a = y.a ∧ x.i = y.i) (z : Lo) : cfLo z x = cfLo z y := by
  unfold cfLo
  rw [h.1, h.2]
theorem swoLo : SWO (ltOf cfLo) where
  irrefl x := by
    unfold ltOf
    rw [cfLo_self]
    rfl
  trans x y z h1 h2 := by
    unfold ltOf at *
    rw [decide_eq_true_eq] at *
    exact cfLo_trans h1 h2
  ntrans x y z h1 h2 := by
    unfold ltOf at *
    rw [decide_eq_false_iff_not] at *
    have a1 := cfLo_anti x y
    have a2 := cfLo_anti y z
    have a3 := cfLo_anti x z
    intro h3
    by_cases e1 : cfLo x y = 0
    · rw [cfLo_same (cfLo_zero e1) z] at h3
      exact h2 h3
    · by_cases e2 : cfLo y z = 0
      · rw [← cfLo_same2 (cfLo_zero e2) x] at h3
        exact h1 h3
      · have := cfLo_trans (x := z) (y := y) (z := x) (by omega) (by omega)
        omega
end Go.Proofs
end

section
open Go.RowKit Go.Deep Go.Maps Go.Sort
namespace Go.Proofs
set_option linter.unusedVariables false
set_option linter.unusedSimpArgs false

def locl (l : Lo) : List Value := [.string l.a, .string l.i, .int .i64 l.q]
theorem locl_len (l : Lo) : (locl l).length = 3 := rfl
theorem locl_one (l : Lo) : ∀ u ∈ locl l, u.oneCell' = true := by
  intro u hu
  simp only [locl, List.mem_cons, List.not_mem_nil, or_false] at hu
  rcases hu with rfl | rfl | rfl <;> rfl

set_option maxHeartbeats 1000000 in
theorem or_calls (w : World) (g : Nat) (x y : Int) (h0 : w.cell? ⟨g, 0, none⟩ = some (.int .i64 x)) (h1 : w.cell? ⟨g, 1, none⟩ = some (.int .i64 y)) :
    Calls Tryz.prog 47 #[.slice (some ⟨g, 0, none⟩) 2 2] w fun e w' => e = .returned (.int .i64 (if x ≠ 0 then x else y)) ∧ w' = w := by
  obtain ⟨R, hR⟩ : ∃ R, (if x ≠ 0 then x else y) = R := ⟨_, rfl⟩
  rw [hR]
  have HR := Lib.hid hR
  clear hR
  have lg := cell_lt h0
  go_enter Tryz.func47, Tryz.ntmps47
  go_wp2
  go_loopw [8] (fun iv wr => ∃ i : Nat, iv = .int .i64 (i : Int) ∧ i ≤ 2 ∧ (1 ≤ i → x = 0) ∧ (2 ≤ i → y = 0) ∧ wr = w)
    (fun iv _ => 2 - (intOf iv).toNat)
  case atStart => exact ⟨0, rfl, by omega, fun h => by omega, fun h => by omega, rfl⟩
  case round =>
    obtain ⟨i, rfl, hi, ha, hb, rfl⟩ := hrel
    have HA := Lib.hid ha
    have HB := Lib.hid hb
    clear ha hb
    rcases (show i = 0 ∨ i = 1 ∨ i = 2 by omega) with rfl | rfl | rfl
    · by_cases hx : x = 0
      · subst hx
        go_wp2
        go_roundw
        case rel => exact ⟨1, rfl, by omega, fun _ => by simp, fun h => by omega, by simp⟩
        case measure => simp [intOf]
      · have hx2 : (x != 0) = true := by simp [hx]
        go_wp2
        go_ret
        exact ⟨by rw [← HR.out, if_pos hx]; rfl, rfl⟩
    · have hx := HA.out (by omega)
      by_cases hy : y = 0
      · subst hy
        go_wp2
        go_roundw
        case rel => exact ⟨2, rfl, by omega, fun _ => hx, fun _ => by simp, by simp⟩
        case measure => simp [intOf]
      · have hy2 : (y != 0) = true := by simp [hy]
        go_wp2
        go_ret
        exact ⟨by rw [← HR.out, if_neg (by omega)]; rfl, rfl⟩
    · have hx := HA.out (by omega)
      have hy := HB.out (by omega)
      go_wp2
      go_ret
      exact ⟨by rw [← HR.out, if_neg (by omega), hy]; rfl, rfl⟩

set_option maxRecDepth 100000 in
set_option maxHeartbeats 2000000 in
theorem lotcmp_calls (x y : Lo) (w : World) :
    Calls Tryz.prog 46 #[.agg #[.string x.a, .string x.i, .int .i64 x.q], .agg #[.string y.a, .string y.i, .int .i64 y.q]] w fun e w' => e = .returned (.int .i64 (cfLo x y)) ∧ ∃ q os', w' = grow (w.drewN q) os' := by
  obtain ⟨R, hR⟩ : ∃ R, cfLo x y = R := ⟨_, rfl⟩
  obtain ⟨ca, hca⟩ : ∃ R, Lib.compareBytes x.a.data.toList y.a.data.toList = R := ⟨_, rfl⟩
  obtain ⟨ci, hci⟩ : ∃ R, Lib.compareBytes x.i.data.toList y.i.data.toList = R := ⟨_, rfl⟩
  have hR2 : (if ca ≠ 0 then ca else ci) = R := by rw [← hR, ← hca, ← hci]; rfl
  have CA := fun w : World => Tryz.strings_Compare x.a y.a w
  have CI := fun w : World => Tryz.strings_Compare x.i y.i w
  rw [hca] at CA
  rw [hci] at CI
  have HCA := Lib.hid CA
  have HCI := Lib.hid CI
  have HR := Lib.hid hR2
  rw [hR]
  clear hR hca hci hR2 CA CI
  go_enter Tryz.func46, Tryz.ntmps46
  go_upto_region 1 with (fail)
  have v0 := Vals.newL w w.heap.size [.string x.a, .string x.i, .int .i64 x.q] 45 rfl
  have bb := below_alloc (w.alloc (.cells #[.string x.a, .string x.i, .int .i64 x.q] 45)) (.cells #[.string y.a, .string y.i, .int .i64 y.q] 45)
  have v1 := Vals.newL (w.alloc (.cells #[.string x.a, .string x.i, .int .i64 x.q] 45)) (w.heap.size + 1) [.string y.a, .string y.i, .int .i64 y.q] 45 (by rw [World.size_alloc])
  have v2 := v0.mono bb
  obtain ⟨W1, hW1⟩ : ∃ W1, (w.alloc (.cells #[.string x.a, .string x.i, .int .i64 x.q] 45)).alloc (.cells #[.string y.a, .string y.i, .int .i64 y.q] 45) = W1 := ⟨_, rfl⟩
  have hW1s : W1.heap.size = w.heap.size + 2 := by rw [← hW1, World.size_alloc, World.size_alloc]
  rw [List.toArray] at v1 v2
  rw [hW1] at v1 v2 ⊢
  obtain ⟨B, hB⟩ : ∃ B, w.heap.size = B := ⟨_, rfl⟩
  rw [hB] at v1 v2 hW1s ⊢
  have x0 := v2.cell (i := 0) (by simp)
  have x1 := v2.cell (i := 1) (by simp)
  have y0 := v1.cell (i := 0) (by simp)
  have y1 := v1.cell (i := 1) (by simp)
  simp only [List.getD_cons_zero, List.getD_cons_succ] at x0 x1 y0 y1
  have HW1 := Lib.hid hW1
  have HS1 := Lib.hid hW1s
  clear v0 v1 v2 bb hW1 hB hW1s
  obtain ⟨S, hS⟩ : ∃ S : World → Prop, ∀ w', S w' ↔ (w'.cell? ⟨B, 0, none⟩ = some (.string x.a) ∧ w'.cell? ⟨B, 1, none⟩ = some (.string x.i) ∧ w'.cell? ⟨B + 1, 0, none⟩ = some (.string y.a) ∧ w'.cell? ⟨B + 1, 1, none⟩ = some (.string y.i)) := ⟨_, fun _ => Iff.rfl⟩
  have HSS := Lib.hid hS
  have hS1 : S W1.drew := (hS _).2 ⟨x0, x1, y0, y1⟩
  clear hS x0 x1 y0 y1
  refine wp_region_L (S := S) (lx := []) (by kernel_rfl) hS1 (fun hHeld => ?_)
  clear hS1
  obtain ⟨wd, hwd⟩ : ∃ wd, W1.drew = wd := ⟨_, rfl⟩
  rw [hwd] at hHeld ⊢
  have HWD := Lib.hid hwd
  clear hwd
  refine wpAnyL_pure (i := 0) (v := ?vp1) rfl (by kernel_rfl) (by kernel_rfl) (by kernel_rfl) (fun _ _ _ h => h) (Or.inl ⟨by rfl, ?hyp1⟩) ?_
  case hyp1 => (intro w _; (go_simp) <;> (with_reducible rfl))
  try simp only [Act.put, List.getElem_toArray, List.getElem_cons_zero, List.getElem_cons_succ, List.setIfInBounds_toArray, List.set_cons_zero, List.set_cons_succ]
  refine wpAnyL_take (i := 1) (v := ?vp2) rfl (by kernel_rfl) (by kernel_rfl) (by kernel_rfl) (by kernel_rfl) (fun _ _ _ h => h) (Or.inl ⟨by rfl, ?hyp2⟩) (by assumption) ?_
  case hyp2 => (intro w hSw; obtain ⟨q0, q1, q2, q3⟩ := (HSS.out w).1 hSw; (go_simp) <;> (with_reducible rfl))
  try simp only [Act.put, List.getElem_toArray, List.getElem_cons_zero, List.getElem_cons_succ, List.setIfInBounds_toArray, List.set_cons_zero, List.set_cons_succ]
  refine wpAnyL_pure (i := 2) (v := ?vp3) rfl (by kernel_rfl) (by kernel_rfl) (by kernel_rfl) (fun _ _ _ h => h) (Or.inl ⟨by rfl, ?hyp3⟩) ?_
  case hyp3 => (intro w _; (go_simp) <;> (with_reducible rfl))
  try simp only [Act.put, List.getElem_toArray, List.getElem_cons_zero, List.getElem_cons_succ, List.setIfInBounds_toArray, List.set_cons_zero, List.set_cons_succ]
  refine wpAnyL_take (i := 3) (v := ?vp4) rfl (by kernel_rfl) (by kernel_rfl) (by kernel_rfl) (by kernel_rfl) (fun _ _ _ h => h) (Or.inl ⟨by rfl, ?hyp4⟩) (by assumption) ?_
  case hyp4 => (intro w hSw; obtain ⟨q0, q1, q2, q3⟩ := (HSS.out w).1 hSw; (go_simp) <;> (with_reducible rfl))
  try simp only [Act.put, List.getElem_toArray, List.getElem_cons_zero, List.getElem_cons_succ, List.setIfInBounds_toArray, List.set_cons_zero, List.set_cons_succ]
  refine wpAnyL_pure (i := 5) (v := ?vp5) rfl (by kernel_rfl) (by kernel_rfl) (by kernel_rfl) (fun _ _ _ h => h) (Or.inl ⟨by rfl, ?hyp5⟩) ?_
  case hyp5 => (intro w _; (go_simp) <;> (with_reducible rfl))
  try simp only [Act.put, List.getElem_toArray, List.getElem_cons_zero, List.getElem_cons_succ, List.setIfInBounds_toArray, List.set_cons_zero, List.set_cons_succ]
  refine wpAnyL_take (i := 6) (v := ?vp6) rfl (by kernel_rfl) (by kernel_rfl) (by kernel_rfl) (by kernel_rfl) (fun _ _ _ h => h) (Or.inl ⟨by rfl, ?hyp6⟩) (by assumption) ?_
  case hyp6 => (intro w hSw; obtain ⟨q0, q1, q2, q3⟩ := (HSS.out w).1 hSw; (go_simp) <;> (with_reducible rfl))
  try simp only [Act.put, List.getElem_toArray, List.getElem_cons_zero, List.getElem_cons_succ, List.setIfInBounds_toArray, List.set_cons_zero, List.set_cons_succ]
  refine wpAnyL_pure (i := 7) (v := ?vp7) rfl (by kernel_rfl) (by kernel_rfl) (by kernel_rfl) (fun _ _ _ h => h) (Or.inl ⟨by rfl, ?hyp7⟩) ?_
  case hyp7 => (intro w _; (go_simp) <;> (with_reducible rfl))
  try simp only [Act.put, List.getElem_toArray, List.getElem_cons_zero, List.getElem_cons_succ, List.setIfInBounds_toArray, List.set_cons_zero, List.set_cons_succ]
  refine wpAnyL_take (i := 8) (v := ?vp8) rfl (by kernel_rfl) (by kernel_rfl) (by kernel_rfl) (by kernel_rfl) (fun _ _ _ h => h) (Or.inl ⟨by rfl, ?hyp8⟩) (by assumption) ?_
  case hyp8 => (intro w hSw; obtain ⟨q0, q1, q2, q3⟩ := (HSS.out w).1 hSw; (go_simp) <;> (with_reducible rfl))
  try simp only [Act.put, List.getElem_toArray, List.getElem_cons_zero, List.getElem_cons_succ, List.setIfInBounds_toArray, List.set_cons_zero, List.set_cons_succ]
  refine wpAnyL_all (rs := [4]) (by kernel_rfl) (by simp) (fun j hj => ?_)
  obtain rfl := List.mem_singleton.1 hj
  clear hj
  refine wpOpL (by rfl) (fun K hK => ?_)
  go_simp
  go_at_call 48
  refine (HCA.out _).mono ?_
  rintro e w' ⟨rfl, rfl⟩
  go_wp2_with fail
  refine hK.out _ _ (fun _ h => h) ?_
  clear hK K
  try simp only [Act.put, List.getElem_toArray, List.getElem_cons_zero, List.getElem_cons_succ, List.setIfInBounds_toArray, List.set_cons_zero, List.set_cons_succ]
  refine wpAnyL_all (rs := [9]) (by kernel_rfl) (by simp) (fun j hj => ?_)
  obtain rfl := List.mem_singleton.1 hj
  clear hj
  refine wpOpL (by rfl) (fun K hK => ?_)
  go_simp
  go_at_call 48
  refine (HCI.out _).mono ?_
  rintro e w' ⟨rfl, rfl⟩
  go_wp2_with fail
  refine hK.out _ _ (fun _ h => h) ?_
  clear hK K
  try simp only [Act.put, List.getElem_toArray, List.getElem_cons_zero, List.getElem_cons_succ, List.setIfInBounds_toArray, List.set_cons_zero, List.set_cons_succ]
  refine wpAnyL_all (rs := [10]) (by kernel_rfl) (by simp) (fun j hj => ?_)
  obtain rfl := List.mem_singleton.1 hj
  clear hj
  refine wpOpL (by rfl) (fun K hK => ?_)
  go_simp
  have bz := below_alloc w' (.cells #[.int .i64 ca, .int .i64 ci] 3)
  have vz := Vals.newL w' w'.heap.size [.int .i64 ca, .int .i64 ci] 3 rfl
  have z0 := vz.cell (i := 0) (by simp)
  have z1 := vz.cell (i := 1) (by simp)
  simp only [List.getD_cons_zero, List.getD_cons_succ] at z0 z1
  have OR := or_calls _ _ _ _ z0 z1
  rw [HR.out] at OR
  refine hK.out _ _ (fun _ h => ?_) ?_
  · obtain ⟨q0, q1, q2, q3⟩ := (HSS.out _).1 h
    exact (HSS.out _).2 ⟨(bz.cell (cell_lt q0)).trans q0, (bz.cell (cell_lt q1)).trans q1, (bz.cell (cell_lt q2)).trans q2, (bz.cell (cell_lt q3)).trans q3⟩
  clear hK K bz vz z0 z1
  try simp only [Act.put, List.getElem_toArray, List.getElem_cons_zero, List.getElem_cons_succ, List.setIfInBounds_toArray, List.set_cons_zero, List.set_cons_succ]
  refine wpAnyL_all (rs := [11]) (by kernel_rfl) (by simp) (fun j hj => ?_)
  obtain rfl := List.mem_singleton.1 hj
  clear hj
  refine wpOpL (by rfl) (fun K hK => ?_)
  go_simp
  go_at_call 47
  refine OR.mono ?_
  rintro e w2 ⟨rfl, rfl⟩
  go_wp2_with fail
  refine hK.out _ _ (fun _ h => h) ?_
  clear hK K OR
  try simp only [Act.put, List.getElem_toArray, List.getElem_cons_zero, List.getElem_cons_succ, List.setIfInBounds_toArray, List.set_cons_zero, List.set_cons_succ]
  refine wpAnyL_pure (i := 12) (v := ?vp9) rfl (by kernel_rfl) (by kernel_rfl) (by kernel_rfl) (fun _ _ _ h => h) (Or.inl ⟨by rfl, ?hyp9⟩) ?_
  case hyp9 => (intro w _; (go_simp) <;> (with_reducible rfl))
  try simp only [Act.put, List.getElem_toArray, List.getElem_cons_zero, List.getElem_cons_succ, List.setIfInBounds_toArray, List.set_cons_zero, List.set_cons_succ]
  refine wpAnyL_done (by kernel_rfl) ?_ _
  go_wp2
  go_ret
  refine ⟨rfl, 1, #[.cells #[.string x.a, .string x.i, .int .i64 x.q] 45, .cells #[.string y.a, .string y.i, .int .i64 y.q] 45, .cells #[.int .i64 ca, .int .i64 ci] 3], ?_⟩
  rw [← HWD.out, ← HW1.out]
  simp only [alloc_eq_grow, drew_grow, grow_grow]
  rfl
end Go.Proofs
end

section
open Go.RowKit Go.Deep Go.Maps Go.Sort Go.Shelf
namespace Go.Proofs
set_option linter.unusedVariables false
set_option linter.unusedSimpArgs false

theorem sort_below {w : World} {B blk off n : Nat} {d : Array Lo} {os : Array Obj} (hB : B ≤ blk) (hBw : B ≤ w.heap.size) : Below B w (sortWorldK locl 3 w blk off n d os) := by
  unfold sortWorldK
  refine ⟨rfl, rfl, rfl, ?_, fun k hk => ?_⟩
  · rw [size_grow, size_putRowK]
    exact Nat.le_add_right _ _
  · unfold grow putRowK putRow mapBlock Sort.ahead
    dsimp only
    rw [Array.getElem?_append_left (by rw [Array.size_modify]; omega), Array.getElem?_modify, if_neg (by omega)]
theorem holds_own {w : World} {B : Nat} {v : Value} {L : List Lo} (h : w.ownsRow B 45 3 v L.length (flat locl L)) (hne : 0 < L.length) :
    ∃ g cap, v = .slice (some ⟨g, 0, none⟩) L.length cap ∧ B ≤ g ∧ g < w.heap.size ∧ HoldsK locl 3 w g 0 L.toArray := by
  obtain ⟨hl, h1⟩ := h
  rcases h1 with ⟨_, h0⟩ | ⟨g, cap, cur, rfl, hB, hh, h2, h3, h4, h5⟩
  · omega
  · refine ⟨g, cap, rfl, hB, (Array.getElem?_eq_some_iff.1 hh).1, fun j hj => ?_⟩
    rw [size_flatK, List.size_toArray] at hj
    have hq : j / 3 < L.length := by omega
    have hr : RdV w (some ⟨g, 0, none⟩) cap L.length 3 (flat locl L) := (ownsRow_rds (ad := some ⟨g, 0, none⟩) (c := cap) ⟨hl, .inr ⟨g, cap, cur, rfl, hB, hh, h2, h3, h4, h5⟩⟩).1
    obtain ⟨b, o, e, hc⟩ := hr.at locl_len (by omega) default hq
    cases e
    have e1 : L.toArray[j / 3]! = L.getD (j / 3) default := by
      rw [getElem!_pos L.toArray (j / 3) (by simpa using hq)]
      simp [List.getD, List.getElem?_eq_getElem hq]
    have hj3 : j % 3 < (locl (L.getD (j / 3) default)).length := by rw [locl_len]; omega
    have h6 := hc (j % 3) _ (List.getElem?_eq_getElem hj3)
    rw [show j / 3 * 3 + j % 3 = j by omega] at h6
    rw [get_flatK _ _ _ j (by rw [List.size_toArray]; exact hj), e1, getElem!_pos (locl (L.getD (j / 3) default)) (j % 3) hj3]
    refine ⟨h6, ?_⟩
    unfold World.frozen?
    rw [hh]
    simp
def pkP (p : Pl) : Value := pk p.1 p.2
def intV (c : Int) : Value := .int .i64 c
/-- a range over the map under way: L has come -/
structure LotI (w wr : World) (mb n : Nat) (D : DataW Unit) (left : Lit → Bool) (cnt : Nat) (L : List Lo) : Prop where
  rg : wr.ranges Tryz.prog 81 (plainElem Tryz.prog 3) mb w.heap.size n D left cnt
  nd : (L.map fun l => (l.a, l.i)).Nodup
  sz : ∀ l ∈ L, SzB l.a ∧ SzB l.i
  hd : ∀ a i, SzB a → SzB i → (left (KL a i) = true ↔ Maps.has D (KL a i) = true ∧ (a, i) ∉ L.map fun l => (l.a, l.i))
  hs : ∀ l ∈ L, Maps.has D (KL l.a l.i) = true
  ct : L.length + cnt ≤ n
  bl : Below w.heap.size w wr
theorem LotI.more {w wr w1 : World} {mb n : Nat} {D : DataW Unit} {left : Lit → Bool} {cnt cnt1 : Nat} {L : List Lo} (H : LotI w wr mb n D left cnt L) {a i : ByteArray} {q : Int} (ha : SzB a) (hi : SzB i) (hl : left (KL a i) = true)
    (hrg : w1.ranges Tryz.prog 81 (plainElem Tryz.prog 3) mb w.heap.size n D (fun z => left z && !z.sameKey (KL a i)) cnt1) (hlt : cnt1 < cnt) (hb : Below w.heap.size w w1) :
    LotI w w1 mb n D (fun z => left z && !z.sameKey (KL a i)) cnt1 (L ++ [⟨a, i, q⟩]) where
  rg := hrg
  nd := by
    have h1 := ((H.hd a i ha hi).1 hl).2
    rw [List.map_append, List.nodup_append]
    refine ⟨H.nd, by simp, fun x hx y hy => ?_⟩
    simp only [List.map_cons, List.map_nil, List.mem_singleton] at hy
    subst hy
    exact fun e => h1 (e ▸ hx)
  sz := fun l hl => by
    rcases List.mem_append.1 hl with h | h
    · exact H.sz l h
    · rw [List.mem_singleton.1 h]; exact ⟨ha, hi⟩
  hd := fun a' i' ha' hi' => by
    have h0 := H.hd a' i' ha' hi'
    simp only [Bool.and_eq_true, Bool.not_eq_true', List.map_append, List.map_cons, List.map_nil, List.mem_append, List.mem_singleton, not_or, h0]
    constructor
    · rintro ⟨⟨h1, h2⟩, h3⟩
      refine ⟨h1, h2, fun e => ?_⟩
      simp only [Prod.mk.injEq] at e
      rw [e.1, e.2, WideAt.sameKey_self (KL_lit _ _)] at h3
      cases h3
    · rintro ⟨h1, h2, h3⟩
      refine ⟨⟨h1, h2⟩, ?_⟩
      cases hk : (KL a' i').sameKey (KL a i) with
      | false => rfl
      | true =>
        obtain ⟨rfl, rfl⟩ := KL_inj ha' hi' ha hi (WideAt.sameKey_eq hk)
        exact absurd rfl h3
  hs := fun l hl2 => by
    rcases List.mem_append.1 hl2 with h | h
    · exact H.hs l h
    · rw [List.mem_singleton.1 h]; exact ((H.hd a i ha hi).1 hl).1
  ct := by
    have := H.ct
    rw [List.length_append, List.length_singleton]
    omega
  bl := hb
theorem LotI.start {w w0 : World} {mb n : Nat} {D : DataW Unit} (hrg : w0.ranges Tryz.prog 81 (plainElem Tryz.prog 3) mb w.heap.size n D (Maps.has D) (Maps.size D)) (hs : Maps.size D ≤ n) (hb : Below w.heap.size w w0) : LotI w w0 mb n D (Maps.has D) (Maps.size D) [] where
  rg := hrg
  nd := by simp
  sz := fun l h => by cases h
  hd := fun a i _ _ => by simp
  hs := fun l h => by cases h
  ct := by simpa using hs
  bl := hb
theorem below_of_grown {w w' : World} (h : w.grownBy w' none) : Below w.heap.size w w' := ⟨h.os, h.tape, h.output, h.size, fun k hk => h.block k hk (by simp)⟩
theorem below_andGrown {w wr w1 : World} {r : Nat} (h : Below w.heap.size w wr) (k : wr.grownBy w1 (some r)) (hr : w.heap.size ≤ r) : Below w.heap.size w w1 :=
  ⟨k.os.trans h.os, k.tape.trans h.tape, k.output.trans h.output, Nat.le_trans h.size k.size, fun j hj => (k.block j (by have := h.size; omega) (by intro e; cases e; omega)).trans (h.block j hj)⟩
theorem LotI.grow {w wr w2 : World} {mb n : Nat} {D : DataW Unit} {left : Lit → Bool} {cnt : Nat} {L : List Lo} (H : LotI w wr mb n D left cnt L) {row : Option Nat} (hg : wr.grownBy w2 row) (hr : ∀ b, row = some b → w.heap.size + 1 ≤ b) (hmb : mb < w.heap.size) : LotI w w2 mb n D left cnt L where
  rg := H.rg.kept hg (fun e => by have := hr mb e.symm; omega) (fun e => by have := hr w.heap.size e.symm; omega)
  nd := H.nd
  sz := H.sz
  hd := H.hd
  hs := H.hs
  ct := H.ct
  bl := ⟨hg.os.trans H.bl.os, hg.tape.trans H.bl.tape, hg.output.trans H.bl.output, Nat.le_trans H.bl.size hg.size, fun j hj => (hg.block j (by have := H.bl.size; omega) (fun e => by have := hr j e.symm; omega)).trans (H.bl.block j hj)⟩
theorem own_grown {w w1 : World} {B e k : Nat} {v : Value} {n : Nat} {cs : List Value} {r : Nat} (h : w.ownsRow B e k v n cs) (hg : w.grownBy w1 (some r)) (hr : r < B) : w1.ownsRow B e k v n cs := by
  obtain ⟨hl, h1⟩ := h
  refine ⟨hl, ?_⟩
  rcases h1 with h1 | ⟨g, cap, cur, rfl, hB, hh, h2⟩
  · exact .inl h1
  · exact .inr ⟨g, cap, cur, rfl, hB, (hg.block g (Array.getElem?_eq_some_iff.1 hh).1 (by intro e; cases e; omega)).trans hh, h2⟩
theorem info_lotk : (Tryz.prog.info? 45).map (fun i => (i.zero, i.size, i.bytes)) = some (some (.agg #[.string ⟨#[]⟩, .string ⟨#[]⟩, .int .i64 0]), 3, 40) := by kernel_rfl
theorem agg_lot : ∀ w, (isAgg 45).run Tryz.prog w = .ok true w := fun w => by kernel_rfl
theorem size_lot : ∀ w, (Go.sizeOf 45).run Tryz.prog w = .ok 3 w := fun w => by kernel_rfl

/-- the sort: no lot is lost -/
theorem sort_calls (w : World) (B : Nat) (v : Value) (L : List Lo) (h : w.ownsRow B 45 3 v L.length (flat locl L)) (hne : 0 < L.length) (hl : L.length ≤ 1000000) (hB : B ≤ w.heap.size) :
    Calls Tryz.prog 45 #[v, .func (.func 46) #[] #[]] w fun e w' => e = .returned (.tuple #[]) ∧ Below B w w' := by
  obtain ⟨g, cap, rfl, hg, hgl, hh⟩ := holds_own h hne
  have eg : ∀ args w, (callFunc 46 args).run Tryz.prog w = .ok (.enter 46 args) w := enters_of Tryz.func46 (by kernel_rfl) rfl
  have hcmp : CmpLays Tryz.prog 46 #[] locl 3 cfLo g 0 L.toArray.size w := fun m os dk _ x y => lotcmp_calls x y _
  have hcon := AnyQ.slices_SortFunc Tryz.laysSort 3 agg_lot size_lot locl locl_len locl_one cfLo swoLo 46 #[] g 0 cap L.toArray w eg hcmp hh hgl (by rw [List.size_toArray]; omega)
  rw [List.size_toArray] at hcon
  change Calls Tryz.prog 45 _ _ _ at hcon
  refine hcon.mono ?_
  rintro e w' ⟨rfl, d', n, os, -, -, rfl⟩
  exact ⟨rfl, sort_below hg hB⟩

set_option maxRecDepth 100000 in
set_option maxHeartbeats 4000000 in
theorem lots_calls (w : World) (mb n : Nat) (f : Bal) (H : BalZ w mb n f) (hne : ∃ a i, SzB a ∧ SzB i ∧ nz f a i = true) (hn : n ≤ 100000) :
    Calls Tryz.prog 27 #[.map (some mb)] w fun e w' => ∃ ad c m, e = .returned (.slice ad m c) ∧ (∃ L : List Pl, L.length = m ∧ L.Nodup ∧ (∀ p ∈ L, SzB p.1 ∧ SzB p.2) ∧ ∀ a i, SzB a → SzB i → ((a, i) ∈ L ↔ nz f a i = true)) ∧ Below w.heap.size w w' := by
  obtain ⟨D, hown, hD⟩ := H
  have hsz := hown.size_le
  have hmb := hown.lt
  have HD := Lib.hid hD
  clear hD
  go_enter Tryz.func27, Tryz.ntmps27
  go_wp2_with (first
    | (at_range; refine wpList_range_own _ rfl _ 54 rfl 81 3 pl_keyed Tryz.underlying54 _ mb n _ rfl hown ?_; intro w0 hrg0 hg0 hs0)
    | go_in)
  go_frame
  have HST := Lib.hid (LotI.start hrg0 hsz (below_of_grown hg0))
  have hC0 : w.heap.size + 1 ≤ w0.heap.size := by omega
  clear hrg0 hg0 hs0 hown
  go_loopw [3] (fun ov wr => ∃ (left : Lit → Bool) (cnt : Nat) (L : List Lo) (m : Nat), LotI w wr mb n D left cnt L ∧ L.length = m ∧ (∃ a c, ov = .slice a m c) ∧ wr.ownsRow (w.heap.size + 1) 45 3 ov m (flat locl L) ∧ w.heap.size + 1 ≤ wr.heap.size)
    (fun _ wr => wr.rangeLeft mb w.heap.size)
  case atStart => exact ⟨_, _, [], 0, HST.out, rfl, ⟨_, _, rfl⟩, ownsRow_nil _ _ _ _, hC0⟩
  case round =>
    clear HST
    obtain ⟨left, cnt, L, m, HI, hm, ⟨oa, oc, rfl⟩, hown, hC⟩ := hrel
    have hrg := HI.rg
    have hct := HI.ct
    rw [hm] at hct
    have HII := Lib.hid HI
    have HM := Lib.hid hm
    have HO := Lib.hid hown
    have hleft := hrg.left_eq
    have HLE := Lib.hid hleft
    clear HI hm hown hleft
    go_wp2_with (first
      | (at_next; refine wpList_next_ranges _ rfl _ rfl 81 pl_keyed (plainElem Tryz.prog 3) pkP intV (fun key kl hkey => by obtain ⟨a, i, e, _, _⟩ := key_inv hkey; exact ⟨(a, i), e⟩) (fun v y hv => by obtain ⟨c, rfl, _⟩ := plainElem_int_inv Tryz.underlying3 hv; exact ⟨c, rfl⟩) mb w.heap.size n _ _ _ rfl hrg ?_ ?_)
      | go_in)
    · intro hc0 hl0
      clear hrg
      have hP : ∀ a i, SzB a → SzB i → ((a, i) ∈ (L.map fun l => (l.a, l.i)) ↔ nz f a i = true) := fun a i ha hi => by
        have h1 := HII.out.hd a i ha hi
        rw [hl0] at h1
        have h2 := (HD.out a i ha hi).2
        constructor
        · intro h
          obtain ⟨l, hl, e⟩ := List.mem_map.1 h
          simp only [Prod.mk.injEq] at e
          have h3 := HII.out.hs l hl
          rw [e.1, e.2, h2] at h3
          exact h3
        · intro h
          rw [← h2] at h
          exact Classical.byContradiction fun hc => by have := h1.2 ⟨h, hc⟩; cases this
      have hpos : 0 < m := by
        obtain ⟨a, i, ha, hi, h⟩ := hne
        have := List.length_pos_of_mem ((hP a i ha hi).2 h)
        rw [List.length_map, HM.out] at this
        exact this
      have HP := Lib.hid hP
      clear hP
      have hown := HO.out
      rw [← HM.out] at hown
      have SC := sort_calls wr (w.heap.size + 1) _ L hown (by rw [HM.out]; exact hpos) (by rw [HM.out]; omega) hC
      rw [HM.out] at SC
      have HSC := Lib.hid SC
      clear SC hown
      go_wp2_with fail
      refine HSC.out.mono ?_
      rintro e w2 ⟨rfl, b2⟩
      have b3 := HII.out.bl.trans (b2.mono (Nat.le_succ _))
      clear HSC b2
      go_wp2
      go_ret
      refine ⟨oa, oc, m, rfl, ⟨L.map fun l => (l.a, l.i), by rw [List.length_map, HM.out], HII.out.nd, fun p hp => ?_, HP.out⟩, b3⟩
      obtain ⟨l, hl, rfl⟩ := List.mem_map.1 hp
      exact HII.out.sz l hl
    · intro a i c kl yd yp w1 cnt1 hkey hlk hv hat hrg1 hlt hg1 hs1 hen
      have hs := key_inv hkey
      obtain ⟨a', i', e, ha, hi⟩ := hs
      unfold pkP pk at e
      simp only [Value.agg.injEq, Array.mk.injEq, List.cons.injEq, Value.string.injEq, and_true] at e
      obtain ⟨rfl, rfl⟩ := e
      obtain rfl : kl = KL a i := by
        have h1 : keyOf Tryz.prog 81 (pk a i) = some kl := hkey
        rw [key_KL ha hi] at h1
        exact (Option.some.inj h1).symm
      have hbl := below_andGrown HII.out.bl hg1 (Nat.le_refl _)
      have HI1 := Lib.hid (HII.out.more (q := c) ha hi hlk hrg1 hlt hbl)
      have HO1 := Lib.hid (own_grown HO.out hg1 (Nat.lt_succ_self _))
      rw [← hs1] at hC
      unfold pkP pk intV at hen ⊢
      clear hkey hlk hv hat hg1 hs1 hrg hrg1 HO hbl
      go_upto_region 5 with (fail)
      have vm := Vals.newL w1 w1.heap.size [.string a, .string i] 81 rfl
      have bm := below_alloc w1 (.cells #[.string a, .string i] 81)
      have HI2 := Lib.hid (HI1.out.grow (grown_of_below none bm) (by simp) hmb)
      have HO2 := Lib.hid (ownsRow_mono HO1.out bm)
      have hC2 := Nat.le_trans hC bm.size
      clear bm HI1 HO1 hC
      generalize w1.alloc (.cells #[.string a, .string i] 81) = w2 at *
      have x0 := vm.cell (i := 0) (by simp)
      have x1 := vm.cell (i := 1) (by simp)
      simp only [List.getD_cons_zero, List.getD_cons_succ] at x0 x1
      have lv := vm.lt
      have bz := below_alloc w2 (.cells #[.string a, .string i, .int .i64 c] 45)
      have HRD := Lib.hid (rd_new locl_len w2 45 [⟨a, i, c⟩] #[.string a, .string i, .int .i64 c] rfl (by unfold maxLen; simp))
      have HI3 := Lib.hid (HI2.out.grow (grown_of_below none bz) (by simp) hmb)
      have HO3 := Lib.hid (ownsRow_mono HO2.out bz)
      have hC3 := Nat.le_trans hC2 bz.size
      have ha : flat locl (L ++ [⟨a, i, c⟩]) = flat locl L ++ flat locl [⟨a, i, c⟩] := flat_append _ _ _
      have HA := Lib.hid ha
      clear ha bz vm HI2 HO2
      go_wp2_with (at_builtin; refine wpList_append_rv rfl (.tmp 13) (.tmp 20) _ rfl (w.heap.size + 1) 45 _ 3 40 Tryz.underlying40 info_lotk rfl (by decide) _ m _ rfl HO3.out _ 1 1 _ rfl HRD.out (flat_one locl_one _) (by unfold maxLen; omega) (by omega) hC3 (m + 1) rfl _ HA.out ?_; intro ad7 c7 w7 hown7 hg7 hn7 hb7 hk7; have HI7 := Lib.hid (HI3.out.grow hg7 (fun b e => (own_ty HO3.out b e).1) hmb); have HO7 := Lib.hid hown7; have hC7 := Nat.le_trans hC3 hg7.size; clear hown7 hg7 hn7 hb7 hk7)
      go_roundw
      case rel => exact ⟨_, cnt1, _, m + 1, HI7.out, by rw [List.length_append, HM.out]; rfl, ⟨ad7, c7, rfl⟩, HO7.out, hC7⟩
      case measure => rw [HLE.out, HI7.out.rg.left_eq]; exact hlt

set_option maxHeartbeats 1000000 in
theorem newdisk_calls (w : World) : Calls Tryz.prog 4 #[] w fun e w' => e = .returned (.pointer (some ⟨w.heap.size, 0, none⟩)) ∧ DiskS w' w.heap.size w.heap.size [] ∧ Below w.heap.size w w' := by
  have v0 := Vt.new w (dcl (.slice none 0 0) 0) 51
  have b0 := below_alloc w (.cells (dcl (.slice none 0 0) 0).toArray 51)
  have HF := Lib.hid (show DiskS (w.alloc (.cells (dcl (.slice none 0 0) 0).toArray 51)) w.heap.size w.heap.size [] ∧ Below w.heap.size w (w.alloc (.cells (dcl (.slice none 0 0) 0).toArray 51)) from
    ⟨⟨none, 0, 0, v0, World.ownsRow_nil _ _ _ _, Nat.le_refl _⟩, b0⟩)
  clear v0 b0
  go_enter Tryz.func4, Tryz.ntmps4
  go_wp2
  go_ret
  exact ⟨rfl, HF.out⟩

set_option maxHeartbeats 1000000 in
theorem mlots_calls (w : World) (B b db mb k n : Nat) (f : Bal) (H : BookS w B b db mb k n f) (hne : ∃ a i, SzB a ∧ SzB i ∧ nz f a i = true) (hn : n ≤ 100000) :
    Calls Tryz.prog 11 #[.pointer (some ⟨b, 0, none⟩)] w fun e w' => ∃ ad c m, e = .returned (.slice ad m c) ∧ (∃ L : List Pl, L.length = m ∧ L.Nodup ∧ (∀ p ∈ L, SzB p.1 ∧ SzB p.2) ∧ ∀ a i, SzB a → SzB i → ((a, i) ∈ L ↔ nz f a i = true)) ∧ Below w.heap.size w w' := by
  obtain ⟨_, _, ⟨ea, ec, es, h, _⟩, hb⟩ := H
  have LC := Lib.hid (lots_calls w mb n f hb hne hn)
  have c2 := h.vals.cell (i := 2) (by simp [bcl])
  simp only [bcl, List.getD_cons_zero, List.getD_cons_succ] at c2
  have lv := h.vals.lt
  clear h hb hne
  go_enter Tryz.func11, Tryz.ntmps11
  go_wp2_with fail
  refine LC.out.mono ?_
  rintro e w1 ⟨ad, c, m, rfl, hL, b1⟩
  have HL := Lib.hid hL
  clear hL
  go_wp2
  go_ret
  exact ⟨ad, c, m, rfl, HL.out, b1⟩
end Go.Proofs
end

