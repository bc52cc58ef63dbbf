/- panel: what a round of plan keeps. -/
import Derived.Test.YtopfohklnnnhbaaPanFill
import Derived.Test.YtopfohklnnnhbaaRound
import Derived.Maps.Range
open Go.RowKit Go.Shelf Go.Deep
namespace Go.Proofs
set_option linter.unusedVariables false
set_option linter.unusedSimpArgs false

/-- cuts as cells -/
def ccl (c : Nat × Nat) : List Value := [.int .i64 (c.1 : Int), .int .i64 (c.2 : Int)]
theorem ccl_len (c : Nat × Nat) : (ccl c).length = 2 := rfl
theorem info_cut : (Try.prog.info? 35).map (fun i => (i.zero, i.size, i.bytes)) = some (some (.agg #[.int .i64 0, .int .i64 0]), 2, 16) := by kernel_rfl

/-- what plan returns: the slice, longer by these cuts -/
def RetPlan (B : Nat) (w : World) (v : Value) (ys : List (Nat × Nat)) (e : Ending) (w' : World) : Prop :=
  ∃ u, e = .returned u ∧ w'.ownsRow B 35 2 u ys.length (flat ccl ys) ∧ w.grownBy w' v.ownBlock ∧ (u.ownBlock = v.ownBlock ∨ ∃ g, u.ownBlock = some g ∧ w.heap.size ≤ g)

/-- the state within a round that has found the cut: u is the slice so far, bx what the box of out holds -/
structure PSt (w W0 W : World) (B b kf : Nat) (ad : Option Addr) (n c : Nat) (sh : List Shp) (T : Nat → Nat → Int) (v : Value) (i j pz lo2 : Nat) (zc : List Value) (bx u : Value) (ys : List (Nat × Nat)) : Prop where
  own : W.ownsRow B 35 2 u ys.length (flat ccl ys)
  grw : w.grownBy W v.ownBlock
  at_ : u.ownBlock = v.ownBlock ∨ ∃ g, u.ownBlock = some g ∧ pz < g
  box : Boxed W (w.heap.size + 1) 26 bx
  c4 : W.cell? ⟨w.heap.size, 0, none⟩ = some (.pointer (some ⟨b, 0, none⟩))
  c6 : W.cell? ⟨w.heap.size + 2, 0, none⟩ = some (.int .i64 (i : Int))
  c7 : W.cell? ⟨w.heap.size + 3, 0, none⟩ = some (.int .i64 (j : Int))
  saw : Saw W b kf ad n c sh T
  vz : Vals W pz zc
  kfr : KeepsFrom lo2 W0 W

section
variable {w W0 W W2 : World} {B b kf : Nat} {ad : Option Addr} {n c : Nat} {sh : List Shp} {T : Nat → Nat → Int} {v : Value} {i j pz lo2 : Nat} {zc : List Value} {bx u u' : Value} {ys ys' : List (Nat × Nat)}

theorem saw_grown (h : Saw W b kf ad n c sh T) {row : Option Nat} (hg : W.grownBy W2 row) (hr : ∀ k, row = some k → b < k) : Saw W2 b kf ad n c sh T := by
  have hlt := h.lt
  refine h.keep (fun bb hbb q u hu => ?_) (fun o ho => ?_)
  · have e := hg.block bb (by omega) (fun e => by have := hr bb e.symm; omega)
    rw [World.cell?_of_block (a := ⟨bb, q, none⟩) e]
    exact hu
  · have e := hg.block b hlt (fun e => by have := hr b e.symm; omega)
    rw [World.frozen?_of_block (a := ⟨b, o, none⟩) e]
    exact ho
theorem PSt.call (hv : ∀ g, v.ownBlock = some g → B ≤ g ∧ g < w.heap.size) (hb : b < B) (hp : w.heap.size + 3 < pz) (h : PSt w W0 W B b kf ad n c sh T v i j pz lo2 zc bx u ys)
    (hg : W.grownBy W2 u.ownBlock) (hown : W2.ownsRow B 35 2 u' ys'.length (flat ccl ys')) (hat : u'.ownBlock = u.ownBlock ∨ ∃ g, u'.ownBlock = some g ∧ W.heap.size ≤ g) : PSt w W0 W2 B b kf ad n c sh T v i j pz lo2 zc bx u' ys' := by
  have hpz := h.vz.lt
  have huB := ownsRow_block h.own
  have row : ∀ k, u.ownBlock = some k → B ≤ k ∧ (k < w.heap.size ∨ pz < k) := by
    intro k hk
    refine ⟨(huB k hk).1, ?_⟩
    rcases h.at_ with e | ⟨g, e, hgt⟩
    · exact .inl (hv k (e ▸ hk)).2
    · rw [e] at hk; cases hk; exact .inr hgt
  have blk : ∀ k, w.heap.size ≤ k → k ≤ pz → W2.heap[k]? = W.heap[k]? := fun k h1 h2 => hg.block k (by omega) (fun e => by rcases (row k e.symm).2 with h3 | h3 <;> omega)
  have k4 := blk w.heap.size (Nat.le_refl _) (by omega)
  have k6 := blk (w.heap.size + 2) (by omega) (by omega)
  have k7 := blk (w.heap.size + 3) (by omega) (by omega)
  refine ⟨hown, h.grw.andThen hg (fun k hk => ?_), ?_, (blk _ (by omega) (by omega)).trans h.box, (World.cell?_of_block (a := ⟨w.heap.size, 0, none⟩) k4).trans h.c4, (World.cell?_of_block (a := ⟨w.heap.size + 2, 0, none⟩) k6).trans h.c6,
    (World.cell?_of_block (a := ⟨w.heap.size + 3, 0, none⟩) k7).trans h.c7, saw_grown h.saw hg (fun k hk => by have := (row k hk).1; omega), ?_, ?_⟩
  · rcases h.at_ with e | ⟨g, e, hgt⟩
    · exact .inr (by rw [← e, hk])
    · rw [e] at hk; cases hk; exact .inl (by omega)
  · rcases hat with e | ⟨g, e, hgt⟩
    · rcases h.at_ with e2 | ⟨g, e2, hgt⟩
      · exact .inl (e.trans e2)
      · exact .inr ⟨g, e.trans e2, hgt⟩
    · exact .inr ⟨g, e, by omega⟩
  · obtain ⟨e, he⟩ := h.vz
    exact ⟨e, (blk pz (by omega) (Nat.le_refl _)).trans he⟩
  · refine h.kfr.trans ((KeepsOthers.of_grownBy hg fun k o hk ho => ?_).from lo2)
    obtain ⟨hl, h1⟩ := h.own
    rcases h1 with ⟨rfl, _⟩ | ⟨g, cap, cur, rfl, _, hh, _⟩
    · cases hk
    · cases hk
      rw [hh] at ho
      cases ho
      rfl
theorem PSt.put (hv : ∀ g, v.ownBlock = some g → B ≤ g ∧ g < w.heap.size) (hb : b < B) (hBw : B ≤ w.heap.size) (hp : w.heap.size + 3 < pz) (h : PSt w W0 W B b kf ad n c sh T v i j pz lo2 zc bx u ys) : PSt w W0 (W.setCell ⟨w.heap.size + 1, 0, none⟩ u) B b kf ad n c sh T v i j pz lo2 zc u u ys := by
  refine ⟨ownsRow_other h.own _ (fun e => ?_) u, h.grw.andThen (grownBy_setCell' W _ u) (fun k hk => by cases hk; exact .inl (by omega)), h.at_, h.box.set u, ?_, ?_, ?_, h.saw.other _ (by show b < w.heap.size + 1; omega) u, h.vz.other _ (by show w.heap.size + 1 ≠ pz; omega) u, h.kfr.trans ((KeepsOthers.setCell W _ u).from lo2)⟩
  · rcases h.at_ with e2 | ⟨g, e2, hgt⟩
    · have := (hv _ (e2 ▸ e)).2
      dsimp only at this
      omega
    · rw [e2] at e
      injection e with e
      dsimp only at e
      omega
  · rw [World.cell?_setCell_far _ _ _ _ (by show w.heap.size + 1 ≠ w.heap.size; omega)]; exact h.c4
  · rw [World.cell?_setCell_far _ _ _ _ (by show w.heap.size + 1 ≠ w.heap.size + 2; omega)]; exact h.c6
  · rw [World.cell?_setCell_far _ _ _ _ (by show w.heap.size + 1 ≠ w.heap.size + 3; omega)]; exact h.c7
theorem PSt.drew (h : PSt w W0 W B b kf ad n c sh T v i j pz lo2 zc bx u ys) : PSt w W0 W.drew B b kf ad n c sh T v i j pz lo2 zc bx u ys :=
  ⟨h.own, ⟨h.grw.os, h.grw.tape, h.grw.output, h.grw.size, h.grw.block⟩, h.at_, h.box, h.c4, h.c6, h.c7, h.saw.drew, h.vz, h.kfr.trans ((KeepsOthers.drew W).from lo2)⟩

theorem wpListIn_append_rv {P : Program} {w : World} {ops : Array Oper} {rest : List Oper} {o : Oper} {a : Act} {Q : Exit → Act → World → Prop} {nn l : Nat} (hgd : o.guard = none) (s x : Operand) (t : TypeId)
    (ho : o.op = .call { callee := .builtin .append, args := #[s, x], argTypes := #[t, t] })
    (B : Nat) (e : TypeId) (z : Value) (k bytes : Nat) (ht : P.underlying t = some (.slice e)) (h2 : (P.info? e).map (fun i => (i.zero, i.size, i.bytes)) = some (some z, k, bytes)) (hzs : z.cells.size = k) (hsz : 0 < k)
    (v : Value) (n : Nat) (cs : List Value) (hs : a.eval s = v) (hown : w.ownsRow B e k v n cs) (ad : Option Addr) (m c : Nat) (news : List Value) (hx : a.eval x = .slice ad m c) (hrd : RdV w ad c m k news) (h1 : ∀ u ∈ news, u.oneCell' = true)
    (h63 : n + m ≤ maxLen) (hbytes : (n + m) * bytes ≤ 140737488355328) (hB : B ≤ w.heap.size) (q : Nat) (hq : q = n + m) (all : List Value) (hall : all = cs ++ news)
    (h : AfterApp w B e k v q all (fun v' w' => wpListIn (Fence.wide.inRound l) nn P ops Q rest (a.put o.dst v') w')) : wpListIn (Fence.wide.inRound l) nn P ops Q (o :: rest) a w :=
  wpListIn_op (fun c e => by rw [ho] at e; cases e) (wpList_append_rv hgd s x t ho B e z k bytes ht h2 hzs hsz v n cs hs hown ad m c news hx hrd h1 h63 hbytes hB q hq all hall h)
end

/-- the iterator of ways over ways that are known to be ways -/
theorem ways_mem (m : Nat) (hm : 1 ≤ m) (g b kf : Nat) (ad : Option Addr) (n c : Nat) (sh : List Shp) (T : Nat → Nat → Int) (s x y i j : Nat) (L : List Wy) (hL : L = waysL T kf sh i j)
    (hi1 : 1 ≤ i) (hi2 : i ≤ 64) (hj1 : 1 ≤ j) (hj2 : j ≤ 64) (hkf : kf ≤ 8) (hT : ∀ a b, 0 ≤ T a b ∧ T a b ≤ 1000000000000) (hn : n ≤ 16)
    (hbg : b < g) (hgs : s ≠ g) (hgx : x ≠ g) (hgy : y ≠ g) (w : World) (hg : g < w.heap.size) (hq : SawQ w b kf ad n c sh T s x y i j) :
    SeqStopsK Fence.wide m Try.prog 11 #[.pointer (some ⟨s, 0, none⟩), .pointer (some ⟨x, 0, none⟩), .pointer (some ⟨y, 0, none⟩)]
      (fun z : { z : Wy // z ∈ L } => #[.agg #[.int .i64 (z.1.k : Int), .int .i64 (z.1.p : Int), .int .i64 z.1.v]]) (KeepO g) (fun ys => ys.map (·.1) = L) (fun pre => pre.map (·.1) <+: L) L.length w := fun l J Jx W hW hJ hJx hY h0 => by
  refine (ways1_in m hm g l b kf ad n c sh T s x y i j L hL hi1 hi2 hj1 hj2 hkf hT hn hbg hgs hgx hgy (fun pre W => ∃ p : List { z : Wy // z ∈ L }, p.map (·.1) = pre ∧ J p W) (fun pre W => ∃ p : List { z : Wy // z ∈ L }, p.map (·.1) = pre ∧ Jx p W) W (Nat.lt_of_lt_of_le hg hW.size)
    (fun s X Y row ⟨p, h1, h2⟩ hg hr => ⟨p, h1, hJ p X Y row h2 hg hr⟩) ?_ (hq.mono hW) ⟨[], rfl, h0⟩).mono ?_
  · rintro pre z W1 hp ⟨p, rfl, hj⟩
    have hz : z ∈ L := hp.subset (by simp)
    have hlen : p.length < L.length := by
      have := hp.length_le
      rw [List.length_append, List.length_singleton, List.length_map] at this
      omega
    obtain ⟨fn, tmps, assign, body, hy, hR⟩ := hY p ⟨z, hz⟩ W1 hj hlen
    refine ⟨fn, tmps, assign, body, hy, hR.mono ?_⟩
    rintro e W' (⟨h1, h2, h3⟩ | ⟨h1, h2⟩)
    · exact .inl ⟨h1, ⟨_, by rw [List.map_append]; rfl, h2⟩, h3⟩
    · exact .inr ⟨h1, ⟨_, by rw [List.map_append]; rfl, h2⟩⟩
  · rintro e W' ⟨hu, ⟨ys, rfl, p, h1, h2⟩ | ⟨pre, h0, p, rfl, h2⟩⟩
    · exact ⟨hu, .inl ⟨p, h1, h2⟩⟩
    · exact ⟨hu, .inr ⟨p, h0, h2⟩⟩

/-- the last way's cut and what comes behind it -/
def lastPlan (kf : Nat) (sh : List Shp) (i j : Nat) {L : List Wy} (pre : List { z : Wy // z ∈ L }) : List (Nat × Nat) :=
  match pre.getLast? with
  | some z => (z.1.k, z.1.p) :: restV kf sh i j z.1
  | none => []
theorem lastPlan_snoc (kf : Nat) (sh : List Shp) (i j : Nat) {L : List Wy} (pre : List { z : Wy // z ∈ L }) (z : { z : Wy // z ∈ L }) : lastPlan kf sh i j (pre ++ [z]) = (z.1.k, z.1.p) :: restV kf sh i j z.1 := by
  unfold lastPlan
  rw [List.getLast?_append]
  rfl
/-- the first way that fits is the one that find? finds -/
theorem find_prefix {L pre : List Wy} {z : Wy} {V : Int} (h : pre ++ [z] <+: L) (h1 : ∀ y ∈ pre, y.v ≠ V) (h2 : z.v = V) : L.find? (fun x => x.v == V) = some z := by
  obtain ⟨t, rfl⟩ := h
  rw [List.append_assoc, List.find?_append]
  have e : pre.find? (fun x => x.v == V) = none := by
    rw [List.find?_eq_none]
    intro y hy
    simpa using h1 y hy
  rw [e]
  simp [h2]

/-- the same over ways that are known to be ways; whose loop variable lies in a block of its own (behind lo); fr: the frame of a round -/
theorem wpIn_rangeWaysM {L : List Wy} {g : Operand} {ps : Array Tmp} {assign body : Code} {Q : Exit → Act → World → Prop} {a : Act} {w : World} {lb : Array Value} (hg : a.eval g = .func (.func 11) #[] lb)
    {gg N : Nat} {S Sp : List { z : Wy // z ∈ L } → Prop} (hseq : SeqStopsK Fence.wide 8 Try.prog 11 lb (fun z : { z : Wy // z ∈ L } => #[.agg #[.int .i64 (z.1.k : Int), .int .i64 (z.1.p : Int), .int .i64 z.1.v]]) (KeepO gg) S Sp N w) (hps : ps.size = 1)
    (I : List { z : Wy // z ∈ L } → World → Prop) (Ix : Code → List { z : Wy // z ∈ L } → World → Prop) (hI : OwnFrom w.heap.size I) (hIx : ∀ c, OwnFrom w.heap.size (Ix c)) (h0 : I [] w) (lo : Nat) (fr : { z : Wy // z ∈ L } → Nat → Act)
    (hassign : ∀ (l : Nat) (pre : List { z : Wy // z ∈ L }) (z : { z : Wy // z ∈ L }) (W : World) (K : Act → World → Prop), I pre W → (∀ a' W', KeepsFrom w.heap.size W W' → KeepO gg W W' → I pre W' → (∃ p, lo < p ∧ Vals W' p (wcl z.1) ∧ a' = fr z p) → K a' W') →
      assign.wpIn (Fence.wide.inRound l) 7 Try.prog (Exit.then K (fun _ _ _ => False)) { tmps := (ps.zip #[.agg #[.int .i64 (z.1.k : Int), .int .i64 (z.1.p : Int), .int .i64 z.1.v]]).foldl (fun t (p, v) => t.setIfInBounds p v) a.tmps, defers := [] } W)
    (hbody : ∀ (l : Nat) (pre : List { z : Wy // z ∈ L }) (z : { z : Wy // z ∈ L }) (p : Nat) (W : World), I pre W → lo < p → Vals W p (wcl z.1) → pre.length < N → body.wpIn (Fence.wide.inRound l) 7 Try.prog (ownPostG w.heap.size (KeepO gg) I Ix (pre ++ [z]) W) (fr z p) W)
    (hdone : ∀ (D : Nat) (xs : List { z : Wy // z ∈ L }) (W : World), w.heap.size ≤ D → S xs → I xs W → W.heap[D]? = some (.deferred (some [])) → Q .normal { a with defers := { target := .collected D, args := #[] } :: a.defers } W)
    (hstop : ∀ (D : Nat) (c : Code) (pre : List { z : Wy // z ∈ L }) (W : World), w.heap.size ≤ D → Sp pre → Ix c pre W → W.heap[D]? = some (.deferred (some [])) → c.wpIn Fence.wide 9 Try.prog Q { a with defers := { target := .collected D, args := #[] } :: a.defers } W) :
    (Code.rangeFunc g ps assign body).wpIn Fence.wide 9 Try.prog Q a w :=
  wpIn_rangeFunc_ownH (F := Fence.wide) (n := 9) rfl (by omega) (gf := 11) (lb := lb) hg trivial (enters_of Try.func11 (by kernel_rfl) rfl)
    hseq (fun h k => KeepO.trans h k) (fun W l o o' _ h1 h2 _ => KeepO.turn gg W l o o' h1 h2) (Below.refl _ _) (fun _ => hps.symm) I Ix hI hIx h0
    (fun z a' W => ∃ p, lo < p ∧ Vals W p (wcl z.1) ∧ a' = fr z p) (fun z a' => valsP_own) hassign
    (fun l pre z a' W _ _ hi ⟨p, h1, h2, h3⟩ hl => by subst h3; exact hbody l pre z p W hi h1 h2 hl) hdone hstop


theorem Vals.rd2 {w : World} {b : Nat} {v0 v1 : Value} (h : Vals w b [v0, v1]) : RdV w (some ⟨b, 0, none⟩) 1 1 2 [v0, v1] := by
  refine ⟨rfl, Nat.le_refl _, by unfold maxLen; omega, .inr ⟨b, 0, rfl, fun j u hj => ?_⟩⟩
  have hj2 := (List.getElem?_eq_some_iff.1 hj).1
  have e := h.cell hj2
  rw [Nat.zero_add, e, getD_of hj]
theorem onlyEnd_mkP {K : Act → World → Prop} {a : Act} {w : World} (h : K a w) : OnlyEnd K .normal a w := h
/-- how long a plan is at most -/
theorem planV_len (kf : Nat) (sh : List Shp) : ∀ (N i j : Nat), i + j ≤ N → 1 ≤ i → 1 ≤ j → (planV kf sh i j).length + 1 ≤ 2 * (i * j) := by
  intro N
  induction N with
  | zero => intro i j h h1 h2; omega
  | succ N ih =>
    intro i j h h1 h2
    obtain ⟨x, hx, hm, hv⟩ := first_way (kf := kf) (sh := sh) h1 h2
    rw [planV_eq h1 h2 hx hm]
    have hij : 1 ≤ i * j := Nat.mul_le_mul h1 h2
    unfold restV
    rcases mem_ways hm with ⟨a, _⟩ | ⟨a, _⟩ | ⟨a, b, c, _⟩ | ⟨a, b, c, _⟩
    · rw [if_neg (show ¬ x.k = 3 by omega), if_neg (show ¬ x.k = 4 by omega)]; simp; omega
    · rw [if_neg (show ¬ x.k = 3 by omega), if_neg (show ¬ x.k = 4 by omega)]; simp; omega
    · rw [if_pos a]
      have g1 := ih x.p j (by omega) b h2
      have hxj : (x.p + 1) * j ≤ i * j := Nat.mul_le_mul_right j (by omega)
      rw [Nat.add_mul, Nat.one_mul] at hxj
      by_cases hr : 1 ≤ i - x.p - kf
      · rw [if_pos hr]
        have g2 := ih (i - x.p - kf) j (by omega) hr h2
        have hs : (x.p + (i - x.p - kf)) * j ≤ i * j := Nat.mul_le_mul_right j (by omega)
        rw [Nat.add_mul] at hs
        simp only [List.length_cons, List.length_append]
        omega
      · rw [if_neg hr]
        simp only [List.length_cons, List.length_append, List.length_nil]
        omega
    · rw [if_neg (show ¬ x.k = 3 by omega), if_pos a]
      have g1 := ih i x.p (by omega) h1 b
      have hxj : i * (x.p + 1) ≤ i * j := Nat.mul_le_mul_left i (by omega)
      rw [Nat.mul_add, Nat.mul_one] at hxj
      by_cases hr : 1 ≤ j - x.p - kf
      · rw [if_pos hr]
        have g2 := ih i (j - x.p - kf) (by omega) h1 hr
        have hs : i * (x.p + (j - x.p - kf)) ≤ i * j := Nat.mul_le_mul_left i (by omega)
        rw [Nat.mul_add] at hs
        simp only [List.length_cons, List.length_append]
        omega
      · rw [if_neg hr]
        simp only [List.length_cons, List.length_append, List.length_nil]
        omega
theorem four_boxes (w : World) (v1 v2 v3 v4 : Value) (t1 t2 t3 t4 : TypeId) : ∃ W, (((w.alloc (.cells #[v1] t1)).alloc (.cells #[v2] t2)).alloc (.cells #[v3] t3)).alloc (.cells #[v4] t4) = W ∧ Below w.heap.size w W ∧ W.heap.size = w.heap.size + 4 ∧
    W.cell? ⟨w.heap.size, 0, none⟩ = some v1 ∧ Boxed W (w.heap.size + 1) t2 v2 ∧ W.cell? ⟨w.heap.size + 2, 0, none⟩ = some v3 ∧ W.cell? ⟨w.heap.size + 3, 0, none⟩ = some v4 := by
  have b1 := below_alloc w (.cells #[v1] t1)
  have b2 := below_alloc (w.alloc (.cells #[v1] t1)) (.cells #[v2] t2)
  have b3 := below_alloc ((w.alloc (.cells #[v1] t1)).alloc (.cells #[v2] t2)) (.cells #[v3] t3)
  have b4 := below_alloc (((w.alloc (.cells #[v1] t1)).alloc (.cells #[v2] t2)).alloc (.cells #[v3] t3)) (.cells #[v4] t4)
  have c1 := (((Vals.newL w w.heap.size [v1] t1 rfl).mono b2).mono b3).mono b4
  have c2 := Boxed.new (w.alloc (.cells #[v1] t1)) t2 v2
  have c3 := (Vals.newL ((w.alloc (.cells #[v1] t1)).alloc (.cells #[v2] t2)) (w.heap.size + 2) [v3] t3 (by rw [World.size_alloc, World.size_alloc])).mono b4
  have c4 := Vals.newL (((w.alloc (.cells #[v1] t1)).alloc (.cells #[v2] t2)).alloc (.cells #[v3] t3)) (w.heap.size + 3) [v4] t4 (by rw [World.size_alloc, World.size_alloc, World.size_alloc])
  rw [World.size_alloc] at c2
  refine ⟨_, rfl, below_trans (below_trans (below_trans b1 b2) b3) b4, by rw [World.size_alloc, World.size_alloc, World.size_alloc, World.size_alloc], c1.cell (i := 0) (by simp), ((c2.alloc _).alloc _), c3.cell (i := 0) (by simp), c4.cell (i := 0) (by simp)⟩
theorem ownsRow_shut {W W' : World} {lo B e k : Nat} {v : Value} {n : Nat} {cs : List Value} (h : W.ownsRow B e k v n cs) (hs : Shut lo W W') : W'.ownsRow B e k v n cs := by
  obtain ⟨hl, h1⟩ := h
  refine ⟨hl, ?_⟩
  rcases h1 with h1 | ⟨g, cap, cur, rfl, hg, hh, r⟩
  · exact .inl h1
  · exact .inr ⟨g, cap, cur, rfl, hg, hs.cells g _ hh rfl, r⟩
theorem grown_shut {w W W' : World} {lo : Nat} {row : Option Nat} (h : w.grownBy W row) (hs : Shut lo W W') (hlo : w.heap.size ≤ lo) : w.grownBy W' row :=
  ⟨hs.bel.os.trans h.os, hs.bel.tape.trans h.tape, hs.bel.output.trans h.output, Nat.le_trans h.size hs.bel.size, fun k hk hne => (hs.bel.block k (by omega)).trans (h.block k hk hne)⟩
theorem grown_own {β : Type} {w : World} {B : Nat} (hB : w.heap.size ≤ B) (row : Option Nat) : OwnFrom B (fun (_ : β) W => w.grownBy W row) :=
  fun _ X Y row' h hg hr => World.grownBy.andThen h hg (fun j hj => .inl (by have := (hr j hj).1; omega))
theorem pure_below_own {β : Type} {w2 : World} (p : β → Prop) : OwnFrom w2.heap.size (fun (s : β) W => p s ∧ Below w2.heap.size w2 W) := OwnFrom.and (ownFrom_pure _ p) (ownFrom_below (Nat.le_refl _) (Nat.le_refl _))

end Go.Proofs
