/- nat.Digits: the iterator's contract: the digits of a number in a base, the least one first. -/
import Derived.RangeFuncNested
import Derived.RangeFuncBound
import Derived.RangeFuncCalls
import Derived.RangeFuncLeaves
import Derived.Shelf.Abstract
import Derived.Shelf.RegionOpen
import Derived.WalkKit
import Derived.OwnWalkIn
import Derived.TacticsInMore
import Derived.LoopNIn
import Derived.LoopIn
import Derived.Test.YtbpkobjiinkpoaaDigs
import Derived.Test.YtbpkobjiinkpoaaNatA
import Derived.Test.YtbpkobjiinkpoaaNatC
import Derived.Test.YtbpkobjiinkpoaaRootLaw
open Go.RowKit Go.Shelf
namespace Go.Proofs
set_option linter.unusedVariables false
set_option linter.unusedSimpArgs false

theorem lt_cell'' {w : World} {a : Addr} {v : Value} (h : w.cell? a = some v) : a.block < w.heap.size := by
  by_cases hb : a.block < w.heap.size
  · exact hb
  · have e : w.heap[a.block]? = none := by simp; omega
    simp [World.cell?, e] at h

/-- what nat.Digits returns: a function value over two boxes: the number, and the base -/
def RetSeq (w : World) (d m : Nat) (e : Ending) (w' : World) : Prop :=
  ∃ (Bs Bb : Nat) (v : Value), e = .returned (.func (.func 34) #[] #[.pointer (some ⟨Bs, 0, none⟩), .pointer (some ⟨Bb, 0, none⟩)]) ∧ w.heap.size ≤ Bs ∧ w.heap.size ≤ Bb ∧
    w'.cell? ⟨Bs, 0, none⟩ = some v ∧ w'.cell? ⟨Bb, 0, none⟩ = some (.int .u32 (d : Int)) ∧ Num w' v m ∧ Fresh w.heap.size v ∧ Below w.heap.size w w'

theorem RetSeq.of {w w1 : World} {d m : Nat} {v : Value} {e : Nat} {g : Ending} {W : World} (hg : g = .returned (.func (.func 34) #[] #[.pointer (some ⟨w1.heap.size, 0, none⟩), .pointer (some ⟨w.heap.size, 0, none⟩)])) (hW : W = w1.alloc (.cells #[v] e))
    (hb : Below w.heap.size w w1) (hc : w1.cell? ⟨w.heap.size, 0, none⟩ = some (.int .u32 (d : Int))) (hv : Num w1 v m) (hf : Fresh w.heap.size v) : RetSeq w d m g W := by
  subst hW
  have hlt : w.heap.size < w1.heap.size := by
    by_cases h : w.heap.size < w1.heap.size
    · exact h
    · have e : w1.heap[w.heap.size]? = none := by simp; omega
      simp [World.cell?, e] at hc
  have ha := below_alloc w1 (.cells #[v] e)
  refine ⟨w1.heap.size, w.heap.size, v, hg, hb.size, Nat.le_refl _, cells_one w1 v e 0 (by omega), (ha.cell (p := ⟨w.heap.size, 0, none⟩) hlt).trans hc, hv.mono ha, hf, below_trans hb ha⟩

set_option maxRecDepth 100000 in
theorem digits_ok (v : Value) (m d : Nat) (w : World) (hv : Num w v m) (hl : (limbs m).length ≤ 262144) (hd : 2 ≤ d) (hd2 : d < 4294967296) :
    Calls Try.prog 10 #[v, .int .u32 (d : Int)] w (RetSeq w d m) := by
  have hb0 := below_alloc w (.cells #[.int .u32 (d : Int)] 24)
  have hk := hv.mono hb0
  have t1 : (firstErr [limbs m] != 0) = false := by
    rw [bne_eq_false_iff_eq]
    simp [firstErr, chk_limbs, show ¬ 262144 < (limbs m).length by omega]
  have t2 : ¬ ((d : Int) < 2) := by omega
  have hb1 := below_alloc (w.alloc (.cells #[.int .u32 (d : Int)] 24)) (.cells #[v] 23)
  have hk2 := hk.mono hb1
  have hb2 := below_trans hb0 hb1
  have hbox : ((w.alloc (.cells #[.int .u32 (d : Int)] 24)).alloc (.cells #[v] 23)).cell? ⟨w.heap.size, 0, none⟩ = some (.int .u32 (d : Int)) :=
    (hb1.cell (p := ⟨w.heap.size, 0, none⟩) (by show w.heap.size < _; rw [World.size_alloc]; omega)).trans (cells_one w (.int .u32 (d : Int)) 24 0 (by omega))
  have Hbox := Lib.hid hbox
  have hb1s := hb2.size
  clear hbox
  obtain ⟨ad, c, rfl, hs⟩ := hv
  have hk' : Num _ (.slice ad (limbs m).length c) m := hk
  have V := valid1 _ (limbs m) _ hk'.raw
  have O := own_calls _ m _ hk2 (by omega)
  rw [World.size_alloc] at V
  clear hk hk' hk2 hs
  go_enter Try.func10, Try.ntmps10
  go_wp2_with fail
  refine V.mono ?_
  rintro e w' ⟨rfl, rfl⟩
  clear V
  go_wp2_with fail
  refine O.mono ?_
  clear O
  rintro e w1 ⟨v', rfl, hv', hf', hb'⟩
  obtain ⟨ad', c', rfl, hs'⟩ := hv'
  have Hv : Num w1 (.slice ad' _ c') _ := ⟨_, _, rfl, hs'⟩
  clear hs'
  go_wp2
  go_ret
  exact RetSeq.of rfl rfl (below_trans hb2 hb') ((hb'.cell (p := ⟨w.heap.size, 0, none⟩) (lt_cell'' Hbox.out)).trans Hbox.out) Hv (hf'.mono hb1s)

set_option maxRecDepth 100000 in
theorem digits_low (v : Value) (d : Nat) (w : World) (hd : d < 2) :
    Calls Try.prog 10 #[v, .int .u32 (d : Int)] w (RetSeq w d 0) := by
  have hb0 := below_alloc w (.cells #[.int .u32 (d : Int)] 24)
  have t2 : (d : Int) < 2 := by omega
  have Hbox := Lib.hid (cells_one w (.int .u32 (d : Int)) 24 0 (by omega))
  have hb1s := hb0.size
  have O := own_calls _ 0 _ (Num.nil (w.alloc (.cells #[.int .u32 (d : Int)] 24))) (by rw [limbs_zero]; simp)
  go_enter Try.func10, Try.ntmps10
  go_wp2_with fail
  refine O.mono ?_
  clear O
  rintro e w1 ⟨v', rfl, hv', hf', hb'⟩
  obtain ⟨ad', c', rfl, hs'⟩ := hv'
  have Hv : Num w1 (.slice ad' _ c') _ := ⟨_, _, rfl, hs'⟩
  clear hs'
  go_wp2
  go_ret
  exact RetSeq.of rfl rfl (below_trans hb0 hb') ((hb'.cell (p := ⟨w.heap.size, 0, none⟩) (lt_cell'' Hbox.out)).trans Hbox.out) Hv (hf'.mono hb1s)

set_option maxRecDepth 100000 in
theorem digits_bad (v : Value) (xs : List Nat) (d : Nat) (w : World) (hv : Raw w v xs) (hc : chk xs ≠ 0) (hd : 2 ≤ d) :
    Calls Try.prog 10 #[v, .int .u32 (d : Int)] w (RetSeq w d 0) := by
  have hb0 := below_alloc w (.cells #[.int .u32 (d : Int)] 24)
  have hk := hv.mono hb0
  have t1 : (firstErr [xs] != 0) = true := by
    rw [bne_iff_ne]
    simp only [firstErr]
    split
    · contradiction
    · exact hc
  have t2 : ¬ ((d : Int) < 2) := by omega
  have hb1 := below_alloc (w.alloc (.cells #[.int .u32 (d : Int)] 24)) (.cells #[v] 23)
  have hb2 := below_trans hb0 hb1
  have hbox : ((w.alloc (.cells #[.int .u32 (d : Int)] 24)).alloc (.cells #[v] 23)).cell? ⟨w.heap.size, 0, none⟩ = some (.int .u32 (d : Int)) :=
    (hb1.cell (p := ⟨w.heap.size, 0, none⟩) (by show w.heap.size < _; rw [World.size_alloc]; omega)).trans (cells_one w (.int .u32 (d : Int)) 24 0 (by omega))
  have Hbox := Lib.hid hbox
  have hb1s := hb2.size
  clear hbox
  obtain ⟨ad, c, rfl, hs⟩ := hv
  have hk' : Raw _ (.slice ad xs.length c) xs := hk
  have V := valid1 _ xs _ hk'
  have O := own_calls _ 0 _ (Num.nil ((w.alloc (.cells #[.int .u32 (d : Int)] 24)).alloc (.cells #[.slice ad xs.length c] 23))) (by rw [limbs_zero]; simp)
  rw [World.size_alloc] at V
  clear hk hk' hs
  go_enter Try.func10, Try.ntmps10
  go_wp2_with fail
  refine V.mono ?_
  rintro e w' ⟨rfl, rfl⟩
  clear V
  go_wp2_with fail
  refine O.mono ?_
  clear O
  rintro e w1 ⟨v', rfl, hv', hf', hb'⟩
  obtain ⟨ad', c', rfl, hs'⟩ := hv'
  have Hv : Num w1 (.slice ad' _ c') _ := ⟨_, _, rfl, hs'⟩
  clear hs'
  go_wp2
  go_ret
  exact RetSeq.of rfl rfl (below_trans hb2 hb') ((hb'.cell (p := ⟨w.heap.size, 0, none⟩) (lt_cell'' Hbox.out)).trans Hbox.out) Hv (hf'.mono hb1s)

attribute [local go_sem] Oper.semAt_some

/-- which blocks the body of a loop may write, world by world (a box, and the array that the box's slice has) -/
structure Mine (g : Nat) (B : World → Nat → Prop) : Prop where
  below : ∀ W W', g < W.heap.size → Below W.heap.size W W' → ∀ k, B W' k → B W k
  turn : ∀ (W : World) (l : Nat) (o' : Obj), l ≠ g → ∀ k, B (W.putObj l o') k → B W k

structure KeepB (B : World → Nat → Prop) (W W' : World) : Prop where
  size : W.heap.size ≤ W'.heap.size
  same : ∀ (k : Nat) (o : Obj), W.heap[k]? = some o → o.isCells = true → ¬ B W k → W'.heap[k]? = some o
  own : ∀ k, k < W.heap.size → B W' k → B W k
  wf : (∀ k, B W k → k < W.heap.size) → ∀ k, B W' k → k < W'.heap.size

theorem KeepB.trans {B : World → Nat → Prop} {X Y Z : World} (h : KeepB B X Y) (k : KeepB B Y Z) : KeepB B X Z :=
  ⟨Nat.le_trans h.size k.size, fun i o hi ho hB => k.same i o (h.same i o hi ho hB) ho (fun hb => hB (h.own i (Array.getElem?_eq_some_iff.1 hi).1 hb)),
    fun i hi hb => h.own i hi (k.own i (Nat.lt_of_lt_of_le hi h.size) hb), fun hw => k.wf (h.wf hw)⟩
theorem KeepB.turn {g : Nat} {B : World → Nat → Prop} (hM : Mine g B) (W : World) (l : Nat) (o o' : Obj) (hg : l ≠ g) (hl : W.heap[l]? = some o) (ho : o.isCells = false) : KeepB B W (W.putObj l o') :=
  ⟨by simp, fun k x hk hx _ => by
    by_cases e : k = l
    · subst e; rw [hl] at hk; cases hk; rw [ho] at hx; cases hx
    · exact (World.putObj_heap_other e).trans hk, fun k _ hb => hM.turn W l o' hg k hb, fun hw k hb => by
      have := hw k (hM.turn W l o' hg k hb)
      simpa using this⟩
theorem KeepB.of_below {g : Nat} {B : World → Nat → Prop} (hM : Mine g B) {W W' : World} (hg : g < W.heap.size) (h : Below W.heap.size W W') : KeepB B W W' :=
  ⟨h.size, fun k o hk _ _ => (h.block k (Array.getElem?_eq_some_iff.1 hk).1).trans hk, fun k _ hb => hM.below W W' hg h k hb, fun hw k hb => Nat.lt_of_lt_of_le (hw k (hM.below W W' hg h k hb)) h.size⟩

theorem KeepB.cell {B : World → Nat → Prop} {W W' : World} (h : KeepB B W W') {p : Addr} {v : Value} (hc : W.cell? p = some v) (hB : ¬ B W p.block) : W'.cell? p = some v := by
  unfold World.cell? at hc ⊢
  cases ho : W.heap[p.block]? with
  | none => rw [ho] at hc; cases hc
  | some o =>
    cases o with
    | cells c e f => rw [h.same _ _ ho rfl hB]; rw [ho] at hc; exact hc
    | _ => rw [ho] at hc; cases hc
theorem KeepB.frozen {B : World → Nat → Prop} {W W' : World} (h : KeepB B W W') {p : Addr} {v : Value} (hc : W.cell? p = some v) (hf : W.frozen? p = false) (hB : ¬ B W p.block) : W'.frozen? p = false := by
  unfold World.cell? at hc
  unfold World.frozen? at hf ⊢
  cases ho : W.heap[p.block]? with
  | none => rw [ho] at hc; cases hc
  | some o =>
    cases o with
    | cells c e f => rw [h.same _ _ ho rfl hB]; rw [ho] at hf; exact hf
    | _ => rw [ho] at hc; cases hc

/-- a slice that lies in none of these blocks -/
def Off (B : Nat → Prop) : Value → Prop
  | .slice (some a) _ _ => ¬ B a.block
  | _ => True

theorem Num.kept {B : World → Nat → Prop} {W W' : World} {v : Value} {n : Nat} (h : Num W v n) (hk : KeepB B W W') (ho : Off (B W) v) : Num W' v n ∧ Off (B W') v := by
  obtain ⟨ad, c, rfl, h1, h2, h3, h4⟩ := h
  rcases h4 with h4 | ⟨b, o, rfl, hb, hc⟩
  · obtain ⟨rfl, h5⟩ := h4
    exact ⟨⟨none, c, rfl, h1, h2, h3, .inl ⟨rfl, h5⟩⟩, trivial⟩
  · exact ⟨⟨_, c, rfl, h1, h2, h3, .inr ⟨b, o, rfl, Nat.lt_of_lt_of_le hb hk.size, fun i hi => ⟨hk.cell (hc i hi).1 ho, hk.frozen (hc i hi).1 (hc i hi).2 ho⟩⟩⟩, fun hb2 => ho (hk.own b hb hb2)⟩

theorem Fresh.off {B : Nat → Prop} {r : Nat} {v : Value} (h : Fresh r v) (hB : ∀ k, B k → k < r) : Off B v := by
  cases v with
  | slice a n c =>
    cases a with
    | none => trivial
    | some a => intro hb; have := hB _ hb; have h2 : r ≤ a.block := h; omega
  | _ => trivial

theorem lt_cell' {w : World} {a : Addr} {v : Value} (h : w.cell? a = some v) : a.block < w.heap.size := by
  by_cases hb : a.block < w.heap.size
  · exact hb
  · have e : w.heap[a.block]? = none := by simp; omega
    simp [World.cell?, e] at h

theorem below_grown {W W' : World} (h : Below W.heap.size W W') : W.grownBy W' none :=
  ⟨h.os, h.tape, h.output, h.size, fun k hk _ => h.block k hk⟩

set_option maxRecDepth 100000 in
set_option maxHeartbeats 2000000 in
theorem digits1_in (n : Nat) (hn : 1 ≤ n) (g : Nat) (B : World → Nat → Prop) (hM : Mine g B) (l Bs Bb d m : Nat) (v : Value) (hd2 : d < 4294967296) (hm : m = 0 ∨ 2 ≤ d) (hlen : (limbs m).length ≤ 1000000)
    (J Jx : List (Dg d) → World → Prop) (W : World) (hg : g < W.heap.size) (hwf : ∀ k, B W k → k < W.heap.size) (hBb : ¬ B W Bb)
    (hJ : AbidesFrom W.heap.size J)
    (hY : ∀ pre x W1, J pre W1 → pre.length < (digs d m).length → YieldAt Fence.wide (n - 1) Try.prog l #[.int .u32 ((x.1 : Nat) : Int)] W1 fun e W' =>
      (e = .returned (.bool true) ∧ J (pre ++ [x]) W' ∧ KeepB B W1 W') ∨ (e = .returned (.bool false) ∧ Jx (pre ++ [x]) W'))
    (hcs : W.cell? ⟨Bs, 0, none⟩ = some v) (hcb : W.cell? ⟨Bb, 0, none⟩ = some (.int .u32 (d : Int))) (hv : Num W v m) (hoff : Off (B W) v) (h0 : J [] W) :
    CallsIn Fence.wide n Try.prog 34 #[.func (.yield l) #[] #[], .pointer (some ⟨Bs, 0, none⟩), .pointer (some ⟨Bb, 0, none⟩)] W fun e W' => (∃ u, e = .returned u) ∧
      ((∃ ys, ys = digs d m ∧ J ys W') ∨ (∃ pre, pre <+: digs d m ∧ Jx pre W')) := by
  refine callsIn_of_wp Try.func34 rfl trivial ?_ rfl
  simp only [Try.ntmps34, List.size_toArray, List.length_cons, List.length_nil, Nat.reduceAdd, Nat.reduceSub, Array.replicate_succ, Array.replicate_zero, List.push_toArray, List.append_toArray, List.nil_append, List.cons_append]
  gi_wp2
  gi_loopw [4] (fun rv wr => ∃ (pre : List (Dg d)) (r : Nat), Num wr rv r ∧ Off (B wr) rv ∧ digs d m = pre ++ digs d r ∧ J pre wr ∧ wr.cell? ⟨Bb, 0, none⟩ = some (.int .u32 (d : Int)) ∧ ¬ B wr Bb ∧ (∀ k, B wr k → k < wr.heap.size) ∧ (limbs r).length ≤ 1000000 ∧ (r = 0 ∨ 2 ≤ d) ∧ W.heap.size ≤ wr.heap.size)
    (fun rv wr => numOf wr rv)
  case atStart => exact ⟨[], m, hv, hoff, rfl, h0, hcb, hBb, hwf, hlen, hm, Nat.le_refl _⟩
  case round =>
    obtain ⟨pre, r, hr, hro, hD, hJs, hcb1, hbb1, hwf1, hl, hr2, hsz⟩ := hrel
    have HD := Lib.hid hD
    clear hD
    have hr0 := hr
    obtain ⟨ad, c, rfl, hs⟩ := hr0
    by_cases h0 : r = 0
    · have t1 : ¬ 0 < (limbs r).length := by rw [h0, limbs_zero]; simp
      have hz : digs d m = pre := by rw [HD.out, h0, digs_zero, List.append_nil]
      have HZ := Lib.hid hz
      clear hz h0 hs
      gi_wp2
      go_end0
      exact ⟨⟨_, rfl⟩, .inl ⟨pre, HZ.out.symm, hJs⟩⟩
    · have t1 : 0 < (limbs r).length := by
        by_cases h : (limbs r).length = 0
        · exact absurd (limbs_eq_nil.mp (List.eq_nil_of_length_eq_zero h)) h0
        · omega
      have hd' : 2 ≤ d := hr2.resolve_left h0
      have hpos : 0 < d := by omega
      have hDp := digs_pos h0 hd'
      have hlt : pre.length < (digs d m).length := by rw [HD.out, hDp]; simp
      have hDn : digs d m = (pre ++ [⟨r % d, Nat.mod_lt _ hpos⟩]) ++ digs d (r / d) := by rw [HD.out, hDp, List.append_assoc]; rfl
      have HDn := Lib.hid hDn
      have hmea : r / d < r := Nat.div_lt_self (by omega) (by omega)
      have Hmea := Lib.hid hmea
      have hlq := limbs_length_mono (Nat.div_le_self r d)
      have Hlt := Lib.hid hlt
      have hg1 : g < wr.heap.size := Nat.lt_of_lt_of_le hg hsz
      clear hDp hDn hmea hlt hs
      gi_wp2_with (fail)
      refine ⟨trivial, ?_⟩
      refine (callsIn_wide.2 (byWord_calls _ r d _ wr hr rfl hpos hd2 (by omega))).mono ?_
      rintro e w1 ⟨vq, rfl, hq, hf, hb⟩
      obtain ⟨fn, tmps, assign, body, hy, hR⟩ := hY pre ⟨r % d, Nat.mod_lt _ hpos⟩ w1 (hJ pre wr w1 none hJs (below_grown hb) (by intro q hq; cases hq)) Hlt.out
      dsimp only at hy
      rw [Int.natCast_emod] at hy
      have hwf2 : ∀ k, B w1 k → k < wr.heap.size := fun k hk => hwf1 k (hM.below wr w1 hg1 hb k hk)
      have hbb2 : ¬ B w1 Bb := fun hk => hbb1 (hM.below wr w1 hg1 hb _ hk)
      have hqo : Off (B w1) vq := hf.off hwf2
      have hcb2 : w1.cell? ⟨Bb, 0, none⟩ = some (.int .u32 (d : Int)) := (hb.cell (p := ⟨Bb, 0, none⟩) (lt_cell' hcb1)).trans hcb1
      have Hwf2 := Lib.hid hwf2
      have Hbb2 := Lib.hid hbb2
      have Hqo := Lib.hid hqo
      have Hcb2 := Lib.hid hcb2
      clear hwf2 hbb2 hqo hcb2
      gi_wp2
      refine hR.mono ?_
      rintro e W3 (⟨rfl, hJ3, hk3⟩ | ⟨rfl, hJx3⟩)
      · have hq3 := hq.kept hk3 Hqo.out
        have hcb3 := hk3.cell Hcb2.out Hbb2.out
        have hbb3 : ¬ B W3 Bb := fun hk => Hbb2.out (hk3.own _ (lt_cell' Hcb2.out) hk)
        have hwf3 := hk3.wf (fun k hk => Nat.lt_of_lt_of_le (Hwf2.out k hk) hb.size)
        have Hwf3 := Lib.hid hwf3
        have Hbb3 := Lib.hid hbb3
        clear hwf3 hbb3
        gi_wp2
        go_roundw
        case rel => exact ⟨_, r / d, hq3.1, hq3.2, HDn.out, hJ3, hcb3, Hbb3.out, Hwf3.out, by omega, .inr hd', Nat.le_trans (Nat.le_trans hsz hb.size) hk3.size⟩
        case measure => rw [numOf_eq hq3.1, numOf_eq hr]; exact Hmea.out
      · gi_wp2
        refine bodyPost_ret (results_none rfl _ _ _) rfl ?_
        exact ⟨⟨_, rfl⟩, .inr ⟨_, ⟨digs d (r / d), HDn.out.symm⟩, hJx3⟩⟩

theorem off_below {g : Nat} {B : World → Nat → Prop} (hM : Mine g B) {w W : World} (hg : g < w.heap.size) (h : Below w.heap.size w W) {v : Value} (ho : Off (B w) v) : Off (B W) v := by
  cases v with
  | slice a n c =>
    cases a with
    | none => trivial
    | some a => exact fun hb => ho (hM.below w W hg h _ hb)
  | _ => trivial

/-- the value of nat.Digits: it yields the digits, and reads nothing that the body may write -/
theorem digits_stops (n : Nat) (hn : 1 ≤ n) (g : Nat) (B : World → Nat → Prop) (hM : Mine g B) (Bs Bb d m : Nat) (v : Value) (hd2 : d < 4294967296) (hm : m = 0 ∨ 2 ≤ d) (hlen : (limbs m).length ≤ 1000000)
    (w : World) (hg : g < w.heap.size) (hwf : ∀ k, B w k → k < w.heap.size) (hBb : ¬ B w Bb)
    (hcs : w.cell? ⟨Bs, 0, none⟩ = some v) (hcb : w.cell? ⟨Bb, 0, none⟩ = some (.int .u32 (d : Int))) (hv : Num w v m) (hoff : Off (B w) v) :
    SeqStopsK Fence.wide n Try.prog 34 #[.pointer (some ⟨Bs, 0, none⟩), .pointer (some ⟨Bb, 0, none⟩)] (fun x : Dg d => #[.int .u32 ((x.1 : Nat) : Int)]) (KeepB B)
      (fun ys => ys = digs d m) (fun pre => pre <+: digs d m) (digs d m).length w := fun l J Jx W hW hJ hJx hY h0 =>
  digits1_in n hn g B hM l Bs Bb d m v hd2 hm hlen J Jx W (Nat.lt_of_lt_of_le hg hW.size) (fun k hk => Nat.lt_of_lt_of_le (hwf k (hM.below w W hg hW k hk)) hW.size) (fun hk => hBb (hM.below w W hg hW _ hk)) hJ hY ((hW.cell (p := ⟨Bs, 0, none⟩) (lt_cell' hcs)).trans hcs) ((hW.cell (p := ⟨Bb, 0, none⟩) (lt_cell' hcb)).trans hcb) (hv.mono hW) (off_below hM hg hW hoff) h0

end Go.Proofs
