/- panel: the iterator of ways yields all that can be done with a rectangle, in order. -/
import Derived.Test.YtopfohklnnnhbaaPanWays
open Go.RowKit Go.Shelf Go.Deep
namespace Go.Proofs
set_option linter.unusedVariables false
set_option linter.unusedSimpArgs false

/-- every block of cells but one is kept -/
structure KeepO (g : Nat) (W W' : World) : Prop where
  size : W.heap.size ≤ W'.heap.size
  same : ∀ (k : Nat) (o : Obj), k ≠ g → W.heap[k]? = some o → o.isCells = true → W'.heap[k]? = some o
theorem KeepO.trans {g : Nat} {X Y Z : World} (h : KeepO g X Y) (k : KeepO g Y Z) : KeepO g X Z := ⟨Nat.le_trans h.size k.size, fun i o hi ho hc => k.same i o hi (h.same i o hi ho hc) hc⟩
theorem KeepO.refl (g : Nat) (W : World) : KeepO g W W := ⟨Nat.le_refl _, fun _ _ _ h _ => h⟩
theorem KeepO.turn (g : Nat) (W : World) (l : Nat) (o o' : Obj) (hl : W.heap[l]? = some o) (ho : o.isCells = false) : KeepO g W (W.putObj l o') :=
  ⟨by simp, fun k x hk hx hc => by
    by_cases e : k = l
    · subst e; rw [hl] at hx; cases hx; rw [ho] at hc; cases hc
    · exact (World.putObj_heap_other e).trans hx⟩
theorem KeepO.of_below {g : Nat} {W W' : World} (h : Below W.heap.size W W') : KeepO g W W' := ⟨h.size, fun k o _ hk _ => (h.block k (Array.getElem?_eq_some_iff.1 hk).1).trans hk⟩
theorem KeepO.drew (g : Nat) (W : World) : KeepO g W W.drew := ⟨Nat.le_refl _, fun _ _ _ h _ => h⟩
theorem KeepO.drewN (g : Nat) (W : World) (m : Nat) : KeepO g W (W.drewN m) := ⟨Nat.le_refl _, fun _ _ _ h _ => h⟩
theorem KeepO.set (g : Nat) (W : World) (u : Value) : KeepO g W (W.setCell ⟨g, 0, none⟩ u) :=
  ⟨(KeepsWalks.setCell W (⟨g, 0, none⟩ : Addr) u).size, fun k o hk ho _ => (Below.heap_setCell _ (⟨g, 0, none⟩ : Addr) _ k (fun e => hk e)).trans ho⟩
theorem KeepO.cell {g : Nat} {W W' : World} (h : KeepO g W W') {p : Addr} {v : Value} (hc : W.cell? p = some v) (hB : p.block ≠ g) : W'.cell? p = some v := by
  unfold World.cell? at hc ⊢
  cases ho : W.heap[p.block]? with
  | none => rw [ho] at hc; cases hc
  | some o =>
    cases o with
    | cells c e f => rw [h.same _ _ hB ho rfl]; rw [ho] at hc; exact hc
    | _ => rw [ho] at hc; cases hc
theorem KeepO.frozen {g : Nat} {W W' : World} (h : KeepO g W W') {p : Addr} {v : Value} (hc : W.cell? p = some v) (hf : W.frozen? p = false) (hB : p.block ≠ g) : W'.frozen? p = false := by
  unfold World.cell? at hc
  unfold World.frozen? at hf ⊢
  cases ho : W.heap[p.block]? with
  | none => rw [ho] at hc; cases hc
  | some o =>
    cases o with
    | cells c e f => rw [h.same _ _ hB ho rfl]; rw [ho] at hf; exact hf
    | _ => rw [ho] at hc; cases hc
theorem KeepO.vals {g : Nat} {W W' : World} (h : KeepO g W W') {b : Nat} {vs : List Value} (hv : Vals W b vs) (hB : b ≠ g) : Vals W' b vs := by
  obtain ⟨e, he⟩ := hv
  exact ⟨e, h.same b _ hB he rfl⟩
theorem Saw.keepO {w w' : World} {g b kf ad n c sh T} (h : Saw w b kf ad n c sh T) (hk : KeepO g w w') (hg : b < g) : Saw w' b kf ad n c sh T := by
  have hbg : b ≠ g := by omega
  obtain ⟨o, ho, hc⟩ : ∃ o : Obj, w.heap[b]? = some o ∧ o.isCells = true := cells_of_cell (a := ⟨b, 0, none⟩) h.k0
  refine h.keep (fun bb hbb q u hu => hk.cell hu (by show bb ≠ g; omega)) (fun q hq => ?_)
  have hs := hk.same b o hbg ho hc
  unfold World.frozen? at hq ⊢
  dsimp only at hq ⊢
  rw [hs]
  rw [ho] at hq
  exact hq
theorem SawQ.keepO {w w' : World} {g b kf ad n c sh T s x y i j} (h : SawQ w b kf ad n c sh T s x y i j) (hk : KeepO g w w') (hg : b < g) (h1 : s ≠ g) (h2 : x ≠ g) (h3 : y ≠ g) : SawQ w' b kf ad n c sh T s x y i j :=
  ⟨h.saw.keepO hk hg, hk.cell h.cs h1, hk.cell h.cx h2, hk.cell h.cy h3⟩
theorem pan_grown {W W' : World} (h : Below W.heap.size W W') : W.grownBy W' none := ⟨h.os, h.tape, h.output, h.size, fun k hk _ => h.block k hk⟩
theorem abides_keep {β : Type} {B : Nat} {J : β → World → Prop} (hJ : AbidesFrom B J) {p : β} {w w' : World} (h : J p w) (hb : Below w.heap.size w w') : J p w' := hJ p w w' none h (pan_grown hb) (by intro q hq; cases hq)
theorem abides_drew {β : Type} {B : Nat} {J : β → World → Prop} (hJ : AbidesFrom B J) {p : β} {w : World} (h : J p w) : J p w.drew := abides_keep hJ h ((Below.refl _ _).drew)
theorem drop_cons {α : Type} (l : List α) (d : α) (k : Nat) (h : k < l.length) : l.drop k = l.getD k d :: l.drop (k + 1) := by
  rw [List.drop_eq_getElem_cons h]; simp [List.getD, h]
theorem range_cons (a m : Nat) : List.range' a (m + 1) = a :: List.range' (a + 1) m := by rw [List.range'_succ]
theorem split_ways {i j k : Nat} {L pre rest : List Wy} {sw sv sx : Int} {st : Bool} {t : List Shp} (h : L = pre ++ (shFrom i j k (⟨sw, sv, sx, st⟩ :: t) ++ rest)) (A B : List Wy) (hA : (if sw = (i : Int) ∧ sv = (j : Int) then [⟨1, k, sx⟩] else []) = A) (hB : (if st = true ∧ sv = (i : Int) ∧ sw = (j : Int) then [⟨2, k, sx⟩] else []) = B) :
    L = pre ++ (A ++ (B ++ (shFrom i j (k + 1) t ++ rest))) := by
  subst hA hB
  rw [h]
  simp [shFrom, shWays]
theorem first_cases (sw sv : Int) (i j : Nat) : ((sw == (i : Int)) = false ∧ ∀ l : List Wy, (if sw = (i : Int) ∧ sv = (j : Int) then l else []) = []) ∨ ((sw == (i : Int)) = true ∧ (sv == (j : Int)) = false ∧ ∀ l : List Wy, (if sw = (i : Int) ∧ sv = (j : Int) then l else []) = []) ∨
    ((sw == (i : Int)) = true ∧ (sv == (j : Int)) = true ∧ ∀ l : List Wy, (if sw = (i : Int) ∧ sv = (j : Int) then l else []) = l) := by
  by_cases e1 : sw = (i : Int)
  · by_cases e2 : sv = (j : Int)
    · exact .inr (.inr ⟨by rw [e1]; exact beq_self_eq_true _, by rw [e2]; exact beq_self_eq_true _, fun l => if_pos ⟨e1, e2⟩⟩)
    · exact .inr (.inl ⟨by rw [e1]; exact beq_self_eq_true _, beq_false_of_ne e2, fun l => if_neg fun h => e2 h.2⟩)
  · exact .inl ⟨beq_false_of_ne e1, fun l => if_neg fun h => e1 h.1⟩
theorem second_cases (sw sv : Int) (i j : Nat) (st : Bool) : (st = false ∧ ∀ l : List Wy, (if st = true ∧ sv = (i : Int) ∧ sw = (j : Int) then l else []) = []) ∨ (st = true ∧ (sv == (i : Int)) = false ∧ ∀ l : List Wy, (if st = true ∧ sv = (i : Int) ∧ sw = (j : Int) then l else []) = []) ∨
    (st = true ∧ (sv == (i : Int)) = true ∧ (sw == (j : Int)) = false ∧ ∀ l : List Wy, (if st = true ∧ sv = (i : Int) ∧ sw = (j : Int) then l else []) = []) ∨ (st = true ∧ (sv == (i : Int)) = true ∧ (sw == (j : Int)) = true ∧ ∀ l : List Wy, (if st = true ∧ sv = (i : Int) ∧ sw = (j : Int) then l else []) = l) := by
  cases st
  · exact .inl ⟨rfl, fun l => if_neg fun h => by cases h.1⟩
  · by_cases e1 : sv = (i : Int)
    · by_cases e2 : sw = (j : Int)
      · exact .inr (.inr (.inr ⟨rfl, by rw [e1]; exact beq_self_eq_true _, by rw [e2]; exact beq_self_eq_true _, fun l => if_pos ⟨rfl, e1, e2⟩⟩))
      · exact .inr (.inr (.inl ⟨rfl, by rw [e1]; exact beq_self_eq_true _, beq_false_of_ne e2, fun l => if_neg fun h => e2 h.2.2⟩))
    · exact .inr (.inl ⟨rfl, beq_false_of_ne e1, fun l => if_neg fun h => e1 h.2.1⟩)
theorem prefix_of_split {α : Type} {L pre : List α} {x : α} {t : List α} (h : L = pre ++ x :: t) : pre ++ [x] <+: L := ⟨t, by rw [h]; simp⟩
theorem lt_of_split {α : Type} {L pre : List α} {x : α} {t : List α} (h : L = pre ++ x :: t) : pre.length < L.length := by rw [h]; simp

set_option maxRecDepth 100000 in
set_option maxHeartbeats 4000000 in
theorem ways1_in (m : Nat) (hm : 1 ≤ m) (g l b kf : Nat) (ad : Option Addr) (n c : Nat) (sh : List Shp) (T : Nat → Nat → Int) (s x y i j : Nat) (L : List Wy) (hL : L = waysL T kf sh i j)
    (hi1 : 1 ≤ i) (hi2 : i ≤ 64) (hj1 : 1 ≤ j) (hj2 : j ≤ 64) (hkf : kf ≤ 8) (hT : ∀ a b, 0 ≤ T a b ∧ T a b ≤ 1000000000000) (hn : n ≤ 16)
    (hbg : b < g) (hgs : s ≠ g) (hgx : x ≠ g) (hgy : y ≠ g)
    (J Jx : List Wy → World → Prop) (W : World) (hg : g < W.heap.size) (hJ : AbidesFrom W.heap.size J)
    (hY : ∀ pre z W1, pre ++ [z] <+: L → J pre W1 → YieldAt Fence.wide (m - 1) Try.prog l #[.agg #[.int .i64 (z.k : Int), .int .i64 (z.p : Int), .int .i64 z.v]] W1 fun e W' =>
      (e = .returned (.bool true) ∧ J (pre ++ [z]) W' ∧ KeepO g W1 W') ∨ (e = .returned (.bool false) ∧ Jx (pre ++ [z]) W'))
    (hq : SawQ W b kf ad n c sh T s x y i j) (h0 : J [] W) :
    CallsIn Fence.wide m Try.prog 11 #[.func (.yield l) #[] #[], .pointer (some ⟨s, 0, none⟩), .pointer (some ⟨x, 0, none⟩), .pointer (some ⟨y, 0, none⟩)] W fun e W' => (∃ u, e = .returned u) ∧
      ((∃ ys, ys = L ∧ J ys W') ∨ (∃ pre, pre <+: L ∧ Jx pre W')) := by
  have hl0 : L = [] ++ (⟨0, 0, 0⟩ : Wy) :: (shFrom i j 0 sh ++ (acrs T kf i j ++ dwns T kf i j)) := by rw [hL]; rfl
  have HYY := Lib.hid hY
  have HJJ := Lib.hid hJ
  have HTT := Lib.hid hT
  have HL0 := Lib.hid hl0
  have keepQ := Lib.hid (fun (w w' : World) (h : SawQ w b kf ad n c sh T s x y i j) (hk : KeepO g w w') => h.keepO hk hbg hgs hgx hgy)
  obtain ⟨fn, tmps, assign, body, hy, hR⟩ := hY [] ⟨0, 0, 0⟩ W (prefix_of_split hl0) h0
  replace hy : (Instr.yield l #[.agg #[.int .i64 0, .int .i64 0, .int .i64 0]]).run Try.prog W = .ok (.round l fn tmps assign body) W := hy
  have HQ := Lib.hid hq
  clear hY hJ hT hl0 hL hq h0
  refine callsIn_of_wp Try.func11 rfl trivial ?_ rfl
  simp only [Try.ntmps11, List.size_toArray, List.length_cons, List.length_nil, Nat.reduceAdd, Nat.reduceSub, Array.replicate_succ, Array.replicate_zero, List.push_toArray, List.append_toArray, List.nil_append, List.cons_append]
  gi_wp2
  refine hR.mono ?_
  rintro e W1 (⟨rfl, hJ1, hk1⟩ | ⟨rfl, hJx1⟩)
  · have hq := keepQ.out _ _ HQ.out hk1
    have g1 : g < W1.heap.size := Nat.lt_of_lt_of_le hg hk1.size
    have cs := hq.cs
    have k1 := hq.saw.k1
    have HQ1 := Lib.hid hq
    have HJ1 := Lib.hid hJ1
    have hsz := Lib.hid hk1.size
    clear hR hy hJ1 hk1 HQ hg hq
    gi_wp2
    gi_loopw [20] (fun kv wr => ∃ (k : Nat) (pre : List Wy), k ≤ n ∧ kv = .int .i64 (k : Int) ∧ L = pre ++ (shFrom i j k (sh.drop k) ++ (acrs T kf i j ++ dwns T kf i j)) ∧ J pre wr ∧ SawQ wr b kf ad n c sh T s x y i j ∧ g < wr.heap.size ∧ W.heap.size ≤ wr.heap.size) (fun kv _ => ((n : Int) - intOf kv).toNat)
    case atStart => exact ⟨0, _, Nat.zero_le _, rfl, HL0.out, HJ1.out, HQ1.out, g1, hsz.out⟩
    case round =>
      clear HJ1 HQ1 g1 hsz cs k1 HL0
      obtain ⟨k, pre, hk, rfl, hlk, hjk, hqk, gk, hsk⟩ := hrel
      by_cases hkn : k < n
      · have t1 : (k : Int) < (n : Int) := by omega
        have hkl : k < sh.length := by rw [hqk.saw.len]; exact hkn
        rw [drop_cons sh s0 k hkl] at hlk
        obtain ⟨bl, ol, had, hc⟩ := hqk.saw.rd.at scl_len (by omega) s0 hkl
        subst had
        obtain ⟨⟨sw, sv, sx, st⟩, hx⟩ : ∃ z, sh.getD k s0 = z := ⟨_, rfl⟩
        rw [hx] at hlk hc
        have c0 : wr.cell? ⟨bl, ol + k * 4, none⟩ = some (.int .i64 sw) := hc 0 _ rfl
        have c1 : wr.cell? ⟨bl, ol + k * 4 + 1, none⟩ = some (.int .i64 sv) := hc 1 _ rfl
        have c2 : wr.cell? ⟨bl, ol + k * 4 + 2, none⟩ = some (.int .i64 sx) := hc 2 _ rfl
        have c3 : wr.cell? ⟨bl, ol + k * 4 + 3, none⟩ = some (.bool st) := hc 3 _ rfl
        have v := Vals.newL wr wr.heap.size [.int .i64 sw, .int .i64 sv, .int .i64 sx, .bool st] 25 rfl
        have bb := below_alloc wr (.cells #[.int .i64 sw, .int .i64 sv, .int .i64 sx, .bool st] 25)
        have HQ2 := Lib.hid (hqk.mono bb)
        have HJ2 := Lib.hid (abides_keep HJJ.out hjk bb)
        have g2 : g < (wr.alloc (.cells #[.int .i64 sw, .int .i64 sv, .int .i64 sx, .bool st] 25)).heap.size := Nat.lt_of_lt_of_le gk bb.size
        have sz2 : W.heap.size ≤ (wr.alloc (.cells #[.int .i64 sw, .int .i64 sv, .int .i64 sx, .bool st] 25)).heap.size := Nat.le_trans hsk bb.size
        have hne : wr.heap.size ≠ g := by omega
        have HLK := Lib.hid hlk
        clear hc hx hlk hjk hqk bb hsk
        have d0 := v.cell (i := 0) (by simp)
        have d1 := v.cell (i := 1) (by simp)
        have d2 := v.cell (i := 2) (by simp)
        have d3 := v.cell (i := 3) (by simp)
        simp only [List.getD_cons_zero, List.getD_cons_succ] at d0 d1 d2 d3
        have cx := HQ2.out.cx
        have cy := HQ2.out.cy
        have ltv := v.lt
        rcases first_cases sw sv i j with ⟨u4, h1⟩ | ⟨u4, u5, h1⟩ | ⟨u4, u5, h1⟩
        · rcases second_cases sw sv i j st with ⟨u1, h2⟩ | ⟨u1, u2, h2⟩ | ⟨u1, u2, u3, h2⟩ | ⟨u1, u2, u3, h2⟩
          · subst u1
            have hs := split_ways HLK.out [] [] (h1 _) (h2 _)
            have HLN := Lib.hid (show L = (pre) ++ (shFrom i j (k + 1) (sh.drop (k + 1)) ++ (acrs T kf i j ++ dwns T kf i j)) by rw [hs]; simp)
            clear hs h1 h2
            gi_wp2_with ((with_reducible refine wpListIn_skip ?_ ?_ ?_); (exact rfl); (with_unfolding_all exact rfl))
            go_roundw
            case rel => exact ⟨k + 1, _, by omega, by go_num, HLN.out, HJ2.out, HQ2.out, g2, sz2⟩
            case measure => simp [intOf]; omega
          · subst u1
            have hs := split_ways HLK.out [] [] (h1 _) (h2 _)
            have HLN := Lib.hid (show L = (pre) ++ (shFrom i j (k + 1) (sh.drop (k + 1)) ++ (acrs T kf i j ++ dwns T kf i j)) by rw [hs]; simp)
            clear hs h1 h2
            gi_wp2_with ((with_reducible refine wpListIn_skip ?_ ?_ ?_); (exact rfl); (with_unfolding_all exact rfl))
            go_roundw
            case rel => exact ⟨k + 1, _, by omega, by go_num, HLN.out, HJ2.out, HQ2.out, g2, sz2⟩
            case measure => simp [intOf]; omega
          · subst u1
            have hs := split_ways HLK.out [] [] (h1 _) (h2 _)
            have HLN := Lib.hid (show L = (pre) ++ (shFrom i j (k + 1) (sh.drop (k + 1)) ++ (acrs T kf i j ++ dwns T kf i j)) by rw [hs]; simp)
            clear hs h1 h2
            gi_wp2_with ((with_reducible refine wpListIn_skip ?_ ?_ ?_); (exact rfl); (with_unfolding_all exact rfl))
            go_roundw
            case rel => exact ⟨k + 1, _, by omega, by go_num, HLN.out, HJ2.out, HQ2.out, g2, sz2⟩
            case measure => simp [intOf]; omega
          · subst u1
            have hs := split_ways HLK.out [] [⟨2, k, sx⟩] (h1 _) (h2 _)
            have HLN := Lib.hid (show L = (pre ++ [⟨2, k, sx⟩]) ++ (shFrom i j (k + 1) (sh.drop (k + 1)) ++ (acrs T kf i j ++ dwns T kf i j)) by rw [hs]; simp)
            have HLP := Lib.hid (show L = (pre) ++ (⟨2, k, sx⟩ : Wy) :: (shFrom i j (k + 1) (sh.drop (k + 1)) ++ (acrs T kf i j ++ dwns T kf i j)) by rw [hs]; simp)
            clear hs h1 h2
            obtain ⟨fn, tmps, assign, body, hy, hR⟩ := HYY.out (pre) ⟨2, k, sx⟩ _ (prefix_of_split HLP.out) HJ2.out
            replace hy : (Instr.yield l #[.agg #[.int .i64 2, .int .i64 (k : Int), .int .i64 sx]]).run Try.prog (wr.alloc (.cells #[.int .i64 sw, .int .i64 sv, .int .i64 sx, .bool true] 25)) = .ok (.round l fn tmps assign body) (wr.alloc (.cells #[.int .i64 sw, .int .i64 sv, .int .i64 sx, .bool true] 25)) := hy
            gi_wp2_with ((with_reducible refine wpListIn_skip ?_ ?_ ?_); (exact rfl); (with_unfolding_all exact rfl))
            refine hR.mono ?_
            rintro e W5 (⟨rfl, hJ5, hk5⟩ | ⟨rfl, hJx3⟩)
            · have HQ5 := Lib.hid (keepQ.out _ _ HQ2.out hk5)
              have g5 : g < W5.heap.size := Nat.lt_of_lt_of_le g2 hk5.size
              have sz5 : W.heap.size ≤ W5.heap.size := Nat.le_trans sz2 hk5.size
              clear hR hy hk5 d0 d1 d2 d3 cx cy ltv
              gi_wp2_with ((with_reducible refine wpListIn_skip ?_ ?_ ?_); (exact rfl); (with_unfolding_all exact rfl))
              go_roundw
              case rel => exact ⟨k + 1, _, by omega, by go_num, HLN.out, hJ5, HQ5.out, g5, sz5⟩
              case measure => simp [intOf]; omega
            · clear d0 d1 d2 d3 cx cy ltv hR hy
              clear HYY
              gi_wp2
              refine bodyPost_ret (results_none rfl _ _ _) rfl ?_
              exact ⟨⟨_, rfl⟩, .inr ⟨_, prefix_of_split HLP.out, hJx3⟩⟩
        · rcases second_cases sw sv i j st with ⟨u1, h2⟩ | ⟨u1, u2, h2⟩ | ⟨u1, u2, u3, h2⟩ | ⟨u1, u2, u3, h2⟩
          · subst u1
            have hs := split_ways HLK.out [] [] (h1 _) (h2 _)
            have HLN := Lib.hid (show L = (pre) ++ (shFrom i j (k + 1) (sh.drop (k + 1)) ++ (acrs T kf i j ++ dwns T kf i j)) by rw [hs]; simp)
            clear hs h1 h2
            gi_wp2_with ((with_reducible refine wpListIn_skip ?_ ?_ ?_); (exact rfl); (with_unfolding_all exact rfl))
            go_roundw
            case rel => exact ⟨k + 1, _, by omega, by go_num, HLN.out, HJ2.out, HQ2.out, g2, sz2⟩
            case measure => simp [intOf]; omega
          · subst u1
            have hs := split_ways HLK.out [] [] (h1 _) (h2 _)
            have HLN := Lib.hid (show L = (pre) ++ (shFrom i j (k + 1) (sh.drop (k + 1)) ++ (acrs T kf i j ++ dwns T kf i j)) by rw [hs]; simp)
            clear hs h1 h2
            gi_wp2_with ((with_reducible refine wpListIn_skip ?_ ?_ ?_); (exact rfl); (with_unfolding_all exact rfl))
            go_roundw
            case rel => exact ⟨k + 1, _, by omega, by go_num, HLN.out, HJ2.out, HQ2.out, g2, sz2⟩
            case measure => simp [intOf]; omega
          · subst u1
            have hs := split_ways HLK.out [] [] (h1 _) (h2 _)
            have HLN := Lib.hid (show L = (pre) ++ (shFrom i j (k + 1) (sh.drop (k + 1)) ++ (acrs T kf i j ++ dwns T kf i j)) by rw [hs]; simp)
            clear hs h1 h2
            gi_wp2_with ((with_reducible refine wpListIn_skip ?_ ?_ ?_); (exact rfl); (with_unfolding_all exact rfl))
            go_roundw
            case rel => exact ⟨k + 1, _, by omega, by go_num, HLN.out, HJ2.out, HQ2.out, g2, sz2⟩
            case measure => simp [intOf]; omega
          · subst u1
            have hs := split_ways HLK.out [] [⟨2, k, sx⟩] (h1 _) (h2 _)
            have HLN := Lib.hid (show L = (pre ++ [⟨2, k, sx⟩]) ++ (shFrom i j (k + 1) (sh.drop (k + 1)) ++ (acrs T kf i j ++ dwns T kf i j)) by rw [hs]; simp)
            have HLP := Lib.hid (show L = (pre) ++ (⟨2, k, sx⟩ : Wy) :: (shFrom i j (k + 1) (sh.drop (k + 1)) ++ (acrs T kf i j ++ dwns T kf i j)) by rw [hs]; simp)
            clear hs h1 h2
            obtain ⟨fn, tmps, assign, body, hy, hR⟩ := HYY.out (pre) ⟨2, k, sx⟩ _ (prefix_of_split HLP.out) HJ2.out
            replace hy : (Instr.yield l #[.agg #[.int .i64 2, .int .i64 (k : Int), .int .i64 sx]]).run Try.prog (wr.alloc (.cells #[.int .i64 sw, .int .i64 sv, .int .i64 sx, .bool true] 25)) = .ok (.round l fn tmps assign body) (wr.alloc (.cells #[.int .i64 sw, .int .i64 sv, .int .i64 sx, .bool true] 25)) := hy
            gi_wp2_with ((with_reducible refine wpListIn_skip ?_ ?_ ?_); (exact rfl); (with_unfolding_all exact rfl))
            refine hR.mono ?_
            rintro e W5 (⟨rfl, hJ5, hk5⟩ | ⟨rfl, hJx3⟩)
            · have HQ5 := Lib.hid (keepQ.out _ _ HQ2.out hk5)
              have g5 : g < W5.heap.size := Nat.lt_of_lt_of_le g2 hk5.size
              have sz5 : W.heap.size ≤ W5.heap.size := Nat.le_trans sz2 hk5.size
              clear hR hy hk5 d0 d1 d2 d3 cx cy ltv
              gi_wp2_with ((with_reducible refine wpListIn_skip ?_ ?_ ?_); (exact rfl); (with_unfolding_all exact rfl))
              go_roundw
              case rel => exact ⟨k + 1, _, by omega, by go_num, HLN.out, hJ5, HQ5.out, g5, sz5⟩
              case measure => simp [intOf]; omega
            · clear d0 d1 d2 d3 cx cy ltv hR hy
              clear HYY
              gi_wp2
              refine bodyPost_ret (results_none rfl _ _ _) rfl ?_
              exact ⟨⟨_, rfl⟩, .inr ⟨_, prefix_of_split HLP.out, hJx3⟩⟩
        · have HLP := Lib.hid (show L = pre ++ (⟨1, k, sx⟩ : Wy) :: ((if st = true ∧ sv = (i : Int) ∧ sw = (j : Int) then [⟨2, k, sx⟩] else []) ++ (shFrom i j (k + 1) (sh.drop (k + 1)) ++ (acrs T kf i j ++ dwns T kf i j))) by rw [split_ways HLK.out [⟨1, k, sx⟩] _ (h1 _) rfl]; simp)
          obtain ⟨fn, tmps, assign, body, hy, hR⟩ := HYY.out (pre) ⟨1, k, sx⟩ _ (prefix_of_split HLP.out) HJ2.out
          replace hy : (Instr.yield l #[.agg #[.int .i64 1, .int .i64 (k : Int), .int .i64 sx]]).run Try.prog (wr.alloc (.cells #[.int .i64 sw, .int .i64 sv, .int .i64 sx, .bool st] 25)) = .ok (.round l fn tmps assign body) (wr.alloc (.cells #[.int .i64 sw, .int .i64 sv, .int .i64 sx, .bool st] 25)) := hy
          gi_wp2_with ((with_reducible refine wpListIn_skip ?_ ?_ ?_); (exact rfl); (with_unfolding_all exact rfl))
          refine hR.mono ?_
          rintro e W3 (⟨rfl, hJ3, hk3⟩ | ⟨rfl, hJx3⟩)
          · have HQ3 := Lib.hid (keepQ.out _ _ HQ2.out hk3)
            have v3 := hk3.vals v hne
            have g3 : g < W3.heap.size := Nat.lt_of_lt_of_le g2 hk3.size
            have sz3 : W.heap.size ≤ W3.heap.size := Nat.le_trans sz2 hk3.size
            clear hR hy hk3 d0 d1 d2 d3 cx cy ltv v HQ2 HJ2 g2 sz2 c0 c1 c2 c3 HLP
            have d0 := v3.cell (i := 0) (by simp)
            have d1 := v3.cell (i := 1) (by simp)
            have d2 := v3.cell (i := 2) (by simp)
            have d3 := v3.cell (i := 3) (by simp)
            simp only [List.getD_cons_zero, List.getD_cons_succ] at d0 d1 d2 d3
            have cx := HQ3.out.cx
            have cy := HQ3.out.cy
            have ltv := v3.lt
            rcases second_cases sw sv i j st with ⟨u1, h2⟩ | ⟨u1, u2, h2⟩ | ⟨u1, u2, u3, h2⟩ | ⟨u1, u2, u3, h2⟩
            · subst u1
              have hs := split_ways HLK.out [⟨1, k, sx⟩] [] (h1 _) (h2 _)
              have HLN := Lib.hid (show L = (pre ++ [⟨1, k, sx⟩]) ++ (shFrom i j (k + 1) (sh.drop (k + 1)) ++ (acrs T kf i j ++ dwns T kf i j)) by rw [hs]; simp)
              clear hs h1 h2
              gi_wp2_with ((with_reducible refine wpListIn_skip ?_ ?_ ?_); (exact rfl); (with_unfolding_all exact rfl))
              go_roundw
              case rel => exact ⟨k + 1, _, by omega, by go_num, HLN.out, hJ3, HQ3.out, g3, sz3⟩
              case measure => simp [intOf]; omega
            · subst u1
              have hs := split_ways HLK.out [⟨1, k, sx⟩] [] (h1 _) (h2 _)
              have HLN := Lib.hid (show L = (pre ++ [⟨1, k, sx⟩]) ++ (shFrom i j (k + 1) (sh.drop (k + 1)) ++ (acrs T kf i j ++ dwns T kf i j)) by rw [hs]; simp)
              clear hs h1 h2
              gi_wp2_with ((with_reducible refine wpListIn_skip ?_ ?_ ?_); (exact rfl); (with_unfolding_all exact rfl))
              go_roundw
              case rel => exact ⟨k + 1, _, by omega, by go_num, HLN.out, hJ3, HQ3.out, g3, sz3⟩
              case measure => simp [intOf]; omega
            · subst u1
              have hs := split_ways HLK.out [⟨1, k, sx⟩] [] (h1 _) (h2 _)
              have HLN := Lib.hid (show L = (pre ++ [⟨1, k, sx⟩]) ++ (shFrom i j (k + 1) (sh.drop (k + 1)) ++ (acrs T kf i j ++ dwns T kf i j)) by rw [hs]; simp)
              clear hs h1 h2
              gi_wp2_with ((with_reducible refine wpListIn_skip ?_ ?_ ?_); (exact rfl); (with_unfolding_all exact rfl))
              go_roundw
              case rel => exact ⟨k + 1, _, by omega, by go_num, HLN.out, hJ3, HQ3.out, g3, sz3⟩
              case measure => simp [intOf]; omega
            · subst u1
              have hs := split_ways HLK.out [⟨1, k, sx⟩] [⟨2, k, sx⟩] (h1 _) (h2 _)
              have HLN := Lib.hid (show L = (pre ++ [⟨1, k, sx⟩] ++ [⟨2, k, sx⟩]) ++ (shFrom i j (k + 1) (sh.drop (k + 1)) ++ (acrs T kf i j ++ dwns T kf i j)) by rw [hs]; simp)
              have HLP := Lib.hid (show L = (pre ++ [⟨1, k, sx⟩]) ++ (⟨2, k, sx⟩ : Wy) :: (shFrom i j (k + 1) (sh.drop (k + 1)) ++ (acrs T kf i j ++ dwns T kf i j)) by rw [hs]; simp)
              clear hs h1 h2
              obtain ⟨fn, tmps, assign, body, hy, hR⟩ := HYY.out (pre ++ [⟨1, k, sx⟩]) ⟨2, k, sx⟩ _ (prefix_of_split HLP.out) hJ3
              replace hy : (Instr.yield l #[.agg #[.int .i64 2, .int .i64 (k : Int), .int .i64 sx]]).run Try.prog W3 = .ok (.round l fn tmps assign body) W3 := hy
              gi_wp2_with ((with_reducible refine wpListIn_skip ?_ ?_ ?_); (exact rfl); (with_unfolding_all exact rfl))
              refine hR.mono ?_
              rintro e W5 (⟨rfl, hJ5, hk5⟩ | ⟨rfl, hJx3⟩)
              · have HQ5 := Lib.hid (keepQ.out _ _ HQ3.out hk5)
                have g5 : g < W5.heap.size := Nat.lt_of_lt_of_le g3 hk5.size
                have sz5 : W.heap.size ≤ W5.heap.size := Nat.le_trans sz3 hk5.size
                clear hR hy hk5 d0 d1 d2 d3 cx cy ltv
                gi_wp2_with ((with_reducible refine wpListIn_skip ?_ ?_ ?_); (exact rfl); (with_unfolding_all exact rfl))
                go_roundw
                case rel => exact ⟨k + 1, _, by omega, by go_num, HLN.out, hJ5, HQ5.out, g5, sz5⟩
                case measure => simp [intOf]; omega
              · clear d0 d1 d2 d3 cx cy ltv hR hy
                clear HYY
                gi_wp2
                refine bodyPost_ret (results_none rfl _ _ _) rfl ?_
                exact ⟨⟨_, rfl⟩, .inr ⟨_, prefix_of_split HLP.out, hJx3⟩⟩
          · clear d0 d1 d2 d3 cx cy ltv hR hy c0 c1 c2 c3
            clear HYY
            gi_wp2
            refine bodyPost_ret (results_none rfl _ _ _) rfl ?_
            exact ⟨⟨_, rfl⟩, .inr ⟨_, prefix_of_split HLP.out, hJx3⟩⟩
      · obtain rfl : n = k := by omega
        have hz : L = pre ++ (acrs T kf i j ++ dwns T kf i j) := by rw [hlk, List.drop_eq_nil_of_le (by rw [hqk.saw.len]; exact Nat.le_refl _)]; rfl
        have cx := hqk.cx
        have cy := hqk.cy
        have HZ := Lib.hid hz
        have HJ3 := Lib.hid hjk
        have HQ3 := Lib.hid hqk
        have hsz3 := Lib.hid hsk
        clear hz hjk hqk hsk hlk hkn hk
        gi_wp2
        gi_loopw [7] (fun av wr => ∃ (a : Nat) (pre : List Wy), 1 ≤ a ∧ a ≤ i ∧ av = .int .i64 (a : Int) ∧ L = pre ++ ((List.range' a (i - a)).map (acr T kf i j) ++ dwns T kf i j) ∧ J pre wr ∧ SawQ wr b kf ad n c sh T s x y i j ∧ g < wr.heap.size ∧ W.heap.size ≤ wr.heap.size) (fun av _ => ((i : Int) - intOf av).toNat)
        case atStart => exact ⟨1, _, Nat.le_refl _, hi1, rfl, HZ.out, HJ3.out, HQ3.out, gk, hsz3.out⟩
        case round =>
          clear HJ3 HQ3 gk hsz3 HZ cx cy
          obtain ⟨a, pre, ha1, ha, rfl, hlk, hjk, hqk, gk, hsk⟩ := hrel
          by_cases hai : a < i
          · have t1 : (a : Int) < (i : Int) := by omega
            rw [show i - a = (i - a - 1) + 1 by omega, range_cons, List.map_cons] at hlk
            have hlk2 : L = pre ++ (acr T kf i j a) :: ((List.range' (a + 1) (i - (a + 1))).map (acr T kf i j) ++ dwns T kf i j) := by rw [hlk, show i - a - 1 = i - (a + 1) by omega] <;> rfl
            unfold acr at hlk2
            obtain ⟨z, hz⟩ : ∃ z : Int, (i : Int) - (a : Int) - (kf : Int) = z := ⟨_, rfl⟩
            obtain ⟨r, hr⟩ : ∃ r : Nat, i - a - kf = r := ⟨_, rfl⟩
            obtain ⟨ta, hta⟩ : ∃ t : Int, T a j = t := ⟨_, rfl⟩
            obtain ⟨tb, htb⟩ : ∃ t : Int, T r j = t := ⟨_, rfl⟩
            have q1 : IntKind.i64.wrap ((i : Int) - (a : Int)) = (i : Int) - (a : Int) := IntWalk.i64_in _ (by omega)
            have q2 : IntKind.i64.wrap ((i : Int) - (a : Int) - (kf : Int)) = z := by rw [hz]; exact IntWalk.i64_in _ (by omega)
            have q3 : (if 0 < z then z else 0) = (r : Int) := by split <;> omega
            have q9 : (0 : Int) ≤ (r : Int) := by omega
            have b1 := HTT.out a j
            have b2 := HTT.out r j
            have q4 : IntKind.i64.wrap (ta + tb) = ta + tb := IntWalk.i64_in _ (by omega)
            have q5 : (r : Int) < 65 := by omega
            have q6 : r < 65 := by omega
            have q7 : (a : Int) < 65 := by omega
            have q8 : (j : Int) < 65 := by omega
            have cs := hqk.cs
            have cx := hqk.cx
            have cy := hqk.cy
            have k0 := hqk.saw.k0
            have cA := hqk.saw.tab a j (by omega) (by omega)
            have cB := hqk.saw.tab r j (by omega) (by omega)
            rw [hta] at cA
            rw [htb] at cB
            have hS : (fun w' => w'.cell? ⟨s, 0, none⟩ = some (.pointer (some ⟨b, 0, none⟩)) ∧ True) wr.drew := ⟨cs, trivial⟩
            have HS := Lib.hid (show (fun w' => w'.cell? ⟨s, 0, none⟩ = some (.pointer (some ⟨b, 0, none⟩)) ∧ w'.cell? ⟨x, 0, none⟩ = some (.int .i64 (i : Int)) ∧ w'.cell? ⟨y, 0, none⟩ = some (.int .i64 (j : Int)) ∧ w'.cell? ⟨b, 0, none⟩ = some (.int .i64 (kf : Int)) ∧ w'.cell? ⟨b, 2 + a * 65 + j, none⟩ = some (.int .i64 ta) ∧ w'.cell? ⟨b, 2 + r * 65 + j, none⟩ = some (.int .i64 tb)) wr.drew from ⟨cs, cx, cy, k0, cA, cB⟩)
            rw [hr, hta, htb] at hlk2
            have HLP := Lib.hid hlk2
            have HLN := Lib.hid (show L = (pre ++ [⟨3, a, ta + tb⟩]) ++ ((List.range' (a + 1) (i - (a + 1))).map (acr T kf i j) ++ dwns T kf i j) by rw [hlk2, List.append_assoc] <;> rfl)
            have HJ := Lib.hid (abides_drew HJJ.out hjk)
            have HQ := Lib.hid hqk.drew
            clear hS hlk hlk2 hjk hqk hr hz hta htb b1 b2 k0 cs cA cB
            gi_wp2
            refine wpIn_wide.2 ?_
            have q3' : (if z > 0 then z else 0) = (r : Int) := q3
            go_region_held3 (fun w' => w'.cell? ⟨s, 0, none⟩ = some (.pointer (some ⟨b, 0, none⟩)) ∧ w'.cell? ⟨x, 0, none⟩ = some (.int .i64 (i : Int)) ∧ w'.cell? ⟨y, 0, none⟩ = some (.int .i64 (j : Int)) ∧ w'.cell? ⟨b, 0, none⟩ = some (.int .i64 (kf : Int)) ∧ w'.cell? ⟨b, 2 + a * 65 + j, none⟩ = some (.int .i64 ta) ∧ w'.cell? ⟨b, 2 + r * 65 + j, none⟩ = some (.int .i64 tb)) (exact HS.out) (fail)
            obtain ⟨fn, tmps, assign, body, hy, hR⟩ := HYY.out pre ⟨3, a, ta + tb⟩ _ (prefix_of_split HLP.out) HJ.out
            replace hy : (Instr.yield l #[.agg #[.int .i64 3, .int .i64 (a : Int), .int .i64 (ta + tb)]]).run Try.prog wr.drew = .ok (.round l fn tmps assign body) wr.drew := hy
            have gk2 : g < wr.drew.heap.size := gk
            have hsk2 : W.heap.size ≤ wr.drew.heap.size := hsk
            gi_wp2
            refine hR.mono ?_
            rintro e W3 (⟨rfl, hJ3, hk3⟩ | ⟨rfl, hJx3⟩)
            · have HQ3 := Lib.hid (keepQ.out _ _ HQ.out hk3)
              have g3 : g < W3.heap.size := Nat.lt_of_lt_of_le gk2 hk3.size
              have sz3 : W.heap.size ≤ W3.heap.size := Nat.le_trans hsk2 hk3.size
              clear hR hy hk3 cx cy HQ HJ gk hsk gk2 hsk2 HLP
              gi_wp2
              go_roundw
              case rel => exact ⟨a + 1, _, by omega, by omega, by go_num, HLN.out, hJ3, HQ3.out, g3, sz3⟩
              case measure => simp [intOf]; omega
            · clear HYY hR hy
              gi_wp2
              refine bodyPost_ret (results_none rfl _ _ _) rfl ?_
              exact ⟨⟨_, rfl⟩, .inr ⟨_, prefix_of_split HLP.out, hJx3⟩⟩
          · obtain rfl : i = a := by omega
            have hz : L = pre ++ (List.range' 1 (j - 1)).map (dwn T kf i j) := by rw [hlk, Nat.sub_self]; rfl
            have cx := hqk.cx
            have cy := hqk.cy
            have HZ := Lib.hid hz
            have HJ3 := Lib.hid hjk
            have HQ3 := Lib.hid hqk
            have hsz3 := Lib.hid hsk
            clear hz hjk hqk hsk hlk hai ha
            gi_wp2
            gi_loopw [9] (fun av wr => ∃ (a : Nat) (pre : List Wy), 1 ≤ a ∧ a ≤ j ∧ av = .int .i64 (a : Int) ∧ L = pre ++ ((List.range' a (j - a)).map (dwn T kf i j)) ∧ J pre wr ∧ SawQ wr b kf ad n c sh T s x y i j ∧ g < wr.heap.size ∧ W.heap.size ≤ wr.heap.size) (fun av _ => ((j : Int) - intOf av).toNat)
            case atStart => exact ⟨1, _, Nat.le_refl _, hj1, rfl, HZ.out, HJ3.out, HQ3.out, gk, hsz3.out⟩
            case round =>
              clear HJ3 HQ3 gk hsz3 HZ cx cy
              obtain ⟨a, pre, ha1, ha, rfl, hlk, hjk, hqk, gk, hsk⟩ := hrel
              by_cases hai : a < j
              · have t1 : (a : Int) < (j : Int) := by omega
                rw [show j - a = (j - a - 1) + 1 by omega, range_cons, List.map_cons] at hlk
                have hlk2 : L = pre ++ (dwn T kf i j a) :: ((List.range' (a + 1) (j - (a + 1))).map (dwn T kf i j)) := by rw [hlk, show j - a - 1 = j - (a + 1) by omega] <;> rfl
                unfold dwn at hlk2
                obtain ⟨z, hz⟩ : ∃ z : Int, (j : Int) - (a : Int) - (kf : Int) = z := ⟨_, rfl⟩
                obtain ⟨r, hr⟩ : ∃ r : Nat, j - a - kf = r := ⟨_, rfl⟩
                obtain ⟨ta, hta⟩ : ∃ t : Int, T i a = t := ⟨_, rfl⟩
                obtain ⟨tb, htb⟩ : ∃ t : Int, T i r = t := ⟨_, rfl⟩
                have q1 : IntKind.i64.wrap ((j : Int) - (a : Int)) = (j : Int) - (a : Int) := IntWalk.i64_in _ (by omega)
                have q2 : IntKind.i64.wrap ((j : Int) - (a : Int) - (kf : Int)) = z := by rw [hz]; exact IntWalk.i64_in _ (by omega)
                have q3 : (if 0 < z then z else 0) = (r : Int) := by split <;> omega
                have q9 : (0 : Int) ≤ (r : Int) := by omega
                have b1 := HTT.out i a
                have b2 := HTT.out i r
                have q4 : IntKind.i64.wrap (ta + tb) = ta + tb := IntWalk.i64_in _ (by omega)
                have q5 : (r : Int) < 65 := by omega
                have q6 : r < 65 := by omega
                have q7 : (a : Int) < 65 := by omega
                have q8 : (i : Int) < 65 := by omega
                have cs := hqk.cs
                have cx := hqk.cx
                have cy := hqk.cy
                have k0 := hqk.saw.k0
                have cA := hqk.saw.tab i a (by omega) (by omega)
                have cB := hqk.saw.tab i r (by omega) (by omega)
                rw [hta] at cA
                rw [htb] at cB
                have hS : (fun w' => w'.cell? ⟨s, 0, none⟩ = some (.pointer (some ⟨b, 0, none⟩)) ∧ True) wr.drew := ⟨cs, trivial⟩
                have HS := Lib.hid (show (fun w' => w'.cell? ⟨s, 0, none⟩ = some (.pointer (some ⟨b, 0, none⟩)) ∧ w'.cell? ⟨x, 0, none⟩ = some (.int .i64 (i : Int)) ∧ w'.cell? ⟨y, 0, none⟩ = some (.int .i64 (j : Int)) ∧ w'.cell? ⟨b, 0, none⟩ = some (.int .i64 (kf : Int)) ∧ w'.cell? ⟨b, 2 + i * 65 + a, none⟩ = some (.int .i64 ta) ∧ w'.cell? ⟨b, 2 + i * 65 + r, none⟩ = some (.int .i64 tb)) wr.drew from ⟨cs, cx, cy, k0, cA, cB⟩)
                rw [hr, hta, htb] at hlk2
                have HLP := Lib.hid hlk2
                have HLN := Lib.hid (show L = (pre ++ [⟨4, a, ta + tb⟩]) ++ ((List.range' (a + 1) (j - (a + 1))).map (dwn T kf i j)) by rw [hlk2, List.append_assoc] <;> rfl)
                have HJ := Lib.hid (abides_drew HJJ.out hjk)
                have HQ := Lib.hid hqk.drew
                clear hS hlk hlk2 hjk hqk hr hz hta htb b1 b2 k0 cs cA cB
                gi_wp2
                refine wpIn_wide.2 ?_
                have q3' : (if z > 0 then z else 0) = (r : Int) := q3
                go_region_held3 (fun w' => w'.cell? ⟨s, 0, none⟩ = some (.pointer (some ⟨b, 0, none⟩)) ∧ w'.cell? ⟨x, 0, none⟩ = some (.int .i64 (i : Int)) ∧ w'.cell? ⟨y, 0, none⟩ = some (.int .i64 (j : Int)) ∧ w'.cell? ⟨b, 0, none⟩ = some (.int .i64 (kf : Int)) ∧ w'.cell? ⟨b, 2 + i * 65 + a, none⟩ = some (.int .i64 ta) ∧ w'.cell? ⟨b, 2 + i * 65 + r, none⟩ = some (.int .i64 tb)) (exact HS.out) (fail)
                obtain ⟨fn, tmps, assign, body, hy, hR⟩ := HYY.out pre ⟨4, a, ta + tb⟩ _ (prefix_of_split HLP.out) HJ.out
                replace hy : (Instr.yield l #[.agg #[.int .i64 4, .int .i64 (a : Int), .int .i64 (ta + tb)]]).run Try.prog wr.drew = .ok (.round l fn tmps assign body) wr.drew := hy
                have gk2 : g < wr.drew.heap.size := gk
                have hsk2 : W.heap.size ≤ wr.drew.heap.size := hsk
                gi_wp2
                refine hR.mono ?_
                rintro e W3 (⟨rfl, hJ3, hk3⟩ | ⟨rfl, hJx3⟩)
                · have HQ3 := Lib.hid (keepQ.out _ _ HQ.out hk3)
                  have g3 : g < W3.heap.size := Nat.lt_of_lt_of_le gk2 hk3.size
                  have sz3 : W.heap.size ≤ W3.heap.size := Nat.le_trans hsk2 hk3.size
                  clear hR hy hk3 cx cy HQ HJ gk hsk gk2 hsk2 HLP
                  gi_wp2
                  go_roundw
                  case rel => exact ⟨a + 1, _, by omega, by omega, by go_num, HLN.out, hJ3, HQ3.out, g3, sz3⟩
                  case measure => simp [intOf]; omega
                · clear HYY hR hy
                  gi_wp2
                  refine bodyPost_ret (results_none rfl _ _ _) rfl ?_
                  exact ⟨⟨_, rfl⟩, .inr ⟨_, prefix_of_split HLP.out, hJx3⟩⟩
              · obtain rfl : j = a := by omega
                have hz : pre = L := by rw [hlk, Nat.sub_self]; simp
                have HZ := Lib.hid hz
                have cx := hqk.cx
                have cy := hqk.cy
                clear hz hlk
                gi_wp2
                go_end0
                exact ⟨⟨_, rfl⟩, .inl ⟨_, HZ.out, hjk⟩⟩
  · clear HYY
    gi_wp2
    refine bodyPost_ret (results_none rfl _ _ _) rfl ?_
    exact ⟨⟨_, rfl⟩, .inr ⟨_, ⟨_, by rw [HL0.out, List.append_assoc]; rfl⟩, hJx1⟩⟩

end Go.Proofs
