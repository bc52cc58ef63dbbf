/- The reference's Best: its array of picks, its digits and what it keeps. -/
import Derived.Test.YtmnalmmffphnpaaBestEnum
import Derived.Test.YtmnalmmffphnpaaWPicks
import Derived.Test.YtmnalmmffphnpaaBestFill
open Go.RowKit Go.Deep
namespace Go.Proofs
set_option linter.unusedVariables false
set_option linter.unusedSimpArgs false

theorem madeCells_two (z : Value) (k : Nat) : madeCells #[z, z] k = (List.replicate k z).toArray := by
  apply Array.ext
  · simp [madeCells]
  · intro i h1 h2
    simp only [madeCells, List.getElem_toArray, List.getElem_replicate]
    rcases Nat.mod_two_eq_zero_or_one i with h | h <;> simp [h]
theorem flat_p0 : ∀ n, flat pcl (List.replicate n p0) = List.replicate (n * 2) (.int .i64 0)
  | 0 => rfl
  | n + 1 => by
    rw [List.replicate_succ, Nat.succ_mul, List.replicate_succ, List.replicate_succ, ← flat_p0 n]
    rfl
theorem run_make_pk (n : Nat) (hn : n ≤ 1000) : ∃ A : Array Value, A = (flat pcl (List.replicate n p0)).toArray ∧ ∀ w : World, (Instr.makeSlice 27 (.int .i64 (n : Int)) (.int .i64 (n : Int))).run Try.prog w = .ok (.slice (some ⟨w.heap.size, 0, none⟩) n n) (w.alloc (.cells A 52)) := by
  refine ⟨_, rfl, fun w => ?_⟩
  obtain ⟨i, hi, z0, z1, z2⟩ := info_parts info_pick
  have hr := run_make (P := Try.prog) w 27 52 i _ Try.underlying27 hi z0 .i64 .i64 n n (by omega) (Int.le_refl _) (by rw [z2]; omega) (by omega)
  rw [z1] at hr
  simp only [Int.toNat_natCast] at hr
  rw [show (Value.agg #[.int .i64 0, .int .i64 0]).cells = #[.int .i64 0, .int .i64 0] from rfl, madeCells_two, ← flat_p0] at hr
  exact hr

theorem flat_set : ∀ (L : List Pk) (i : Nat) (x : Pk), i < L.length → ((flat pcl L).set (i * 2) (.int .i64 x.m)).set (i * 2 + 1) (.int .i64 x.g) = flat pcl (L.set i x)
  | [], i, x, h => by simp at h
  | p :: L, 0, x, h => by simp [flat, pcl]
  | p :: L, i + 1, x, h => by
    have ih := flat_set L i x (by simpa using h)
    rw [List.set_cons_succ, show flat pcl (p :: L) = .int .i64 p.m :: .int .i64 p.g :: flat pcl L from rfl, show (i + 1) * 2 = i * 2 + 1 + 1 by omega]
    simp only [List.set_cons_succ]
    rw [ih]
    rfl
theorem flat_setg : ∀ (L : List Pk) (i : Nat) (g : Int), i < L.length → (flat pcl L).set (i * 2 + 1) (.int .i64 g) = flat pcl (L.set i ⟨(L.getD i p0).m, g⟩)
  | [], i, x, h => by simp at h
  | p :: L, 0, x, h => by simp [flat, pcl]
  | p :: L, i + 1, x, h => by
    have ih := flat_setg L i x (by simpa using h)
    rw [List.set_cons_succ, show flat pcl (p :: L) = .int .i64 p.m :: .int .i64 p.g :: flat pcl L from rfl, show (i + 1) * 2 = i * 2 + 1 + 1 by omega]
    simp only [List.set_cons_succ, List.getD_cons_succ]
    rw [ih]
    rfl
theorem pk_block {w : World} {b : Nat} {P : List Pk} (h : Vals w b (flat pcl P)) (hn : P.length ≤ 1000) : RdP w (some ⟨b, 0, none⟩) P.length P :=
  (h.rd P.length 2 (flat_length pcl_len P) P.length (Nat.le_refl _) (by unfold maxLen; omega)).rdp
theorem pk_cells {w : World} {b : Nat} {P : List Pk} (h : Vals w b (flat pcl P)) (hn : P.length ≤ 1000) {i : Nat} (hi : i < P.length) {C : Pk} (hC : P.getD i p0 = C) :
    w.cell? ⟨b, i * 2, none⟩ = some (.int .i64 C.m) ∧ w.cell? ⟨b, i * 2 + 1, none⟩ = some (.int .i64 C.g) := by
  have k := (pk_block h hn).at2 hi hC
  rw [Nat.zero_add] at k
  exact k

/-- what the reference's Best holds: its array, and the best picks so far -/
def RB (n K ng : Nat) (w wr : World) (VS : List Value) (P : List Pk) (M : Int × Nat) (bv : Value) : Prop :=
  Below w.heap.size w wr ∧ Vals wr w.heap.size VS ∧ Vals wr (w.heap.size + 1) (flat pcl P) ∧ P.length = n ∧
    (M.1 ≠ -1 → wr.ownsRow (w.heap.size + 2) 52 2 bv n (flat pcl (arrK ng (dgK K n M.2))))
theorem RB.mono {n K ng : Nat} {w wr wx : World} {VS : List Value} {P : List Pk} {M : Int × Nat} {bv : Value} (h : RB n K ng w wr VS P M bv) (hb : Below wr.heap.size wr wx) : RB n K ng w wx VS P M bv :=
  ⟨below_trans h.1 hb, h.2.1.mono hb, h.2.2.1.mono hb, h.2.2.2.1, fun hm => ownsRow_mono (h.2.2.2.2 hm) hb⟩
theorem ownsRow_far {w : World} {B e k : Nat} {v : Value} {n : Nat} {cs : List Value} (h : w.ownsRow B e k v n cs) (p : Addr) (hp : p.block < B) (u : Value) : (w.setCell p u).ownsRow B e k v n cs :=
  ownsRow_other h p (fun e => by have := (ownsRow_block h _ e).1; omega) u
theorem RB.setg {n K ng : Nat} {w wr : World} {VS : List Value} {P : List Pk} {M : Int × Nat} {bv : Value} (h : RB n K ng w wr VS P M bv) {i : Nat} (hi : i < n) (g : Int) :
    RB n K ng w (wr.setCell ⟨w.heap.size + 1, i * 2 + 1, none⟩ (.int .i64 g)) VS (P.set i ⟨(P.getD i p0).m, g⟩) M bv := by
  obtain ⟨h1, h2, h3, h4, h5⟩ := h
  refine ⟨h1.setCell (by dsimp only; omega) _, h2.other _ (by dsimp only; omega) _, ?_, by rw [List.length_set]; exact h4, fun hm => ownsRow_far (h5 hm) _ (by dsimp only; omega) _⟩
  have := h3.set (i * 2 + 1) (.int .i64 g)
  rw [flat_setg P i g (by omega)] at this
  exact this
theorem RB.set {n K ng : Nat} {w wr : World} {VS : List Value} {P : List Pk} {M : Int × Nat} {bv : Value} (h : RB n K ng w wr VS P M bv) {i : Nat} (hi : i < n) (x : Pk) :
    RB n K ng w ((wr.setCell ⟨w.heap.size + 1, i * 2, none⟩ (.int .i64 x.m)).setCell ⟨w.heap.size + 1, i * 2 + 1, none⟩ (.int .i64 x.g)) VS (P.set i x) M bv := by
  obtain ⟨h1, h2, h3, h4, h5⟩ := h
  refine ⟨(h1.setCell (by dsimp only; omega) _).setCell (by dsimp only; omega) _, (h2.other _ (by dsimp only; omega) _).other _ (by dsimp only; omega) _, ?_, by rw [List.length_set]; exact h4, fun hm => ownsRow_far (ownsRow_far (h5 hm) _ (by dsimp only; omega) _) _ (by dsimp only; omega) _⟩
  have := (h3.set (i * 2) (.int .i64 x.m)).set (i * 2 + 1) (.int .i64 x.g)
  rw [flat_set P i x (by omega)] at this
  exact this

/-- the first j digits are set to 0 -/
def dsx (j : Nat) (ds : List Nat) : List Nat := List.replicate j 0 ++ ds.drop j
theorem dsx_len {j : Nat} {ds : List Nat} (h : j ≤ ds.length) : (dsx j ds).length = ds.length := by
  unfold dsx; simp; omega
theorem dsx_lt {j K : Nat} {ds : List Nat} (h : ∀ d ∈ ds, d < K) (hK : 0 < K) : ∀ d ∈ dsx j ds, d < K := by
  intro d hd
  rcases List.mem_append.1 hd with h1 | h1
  · rw [(List.mem_replicate.1 h1).2]; exact hK
  · exact h d (List.mem_of_mem_drop h1)
theorem drop_at {ds : List Nat} {j : Nat} (h : j < ds.length) : ds.drop j = ds.getD j 0 :: ds.drop (j + 1) := by
  rw [List.drop_eq_getElem_cons h]
  simp [List.getD, List.getElem?_eq_getElem h]
theorem dsx_get {j : Nat} {ds : List Nat} (h : j < ds.length) : (dsx j ds).getD j 0 = ds.getD j 0 := by
  unfold dsx
  rw [drop_at h]
  simp [List.getD]
theorem dsx_set {j d : Nat} {ds : List Nat} (h : j < ds.length) : (dsx j ds).set j d = List.replicate j 0 ++ d :: ds.drop (j + 1) := by
  unfold dsx
  rw [drop_at h, List.set_append_right _ _ (by simp)]
  simp
theorem dsx_succ {j : Nat} {ds : List Nat} (h : j < ds.length) : (dsx j ds).set j 0 = dsx (j + 1) ds := by
  rw [dsx_set h, dsx, List.replicate_succ', List.append_assoc]
  rfl
theorem take_succ {j c : Nat} {ds : List Nat} (h : j < ds.length) (ht : ds.take j = List.replicate j c) (hd : ds.getD j 0 = c) : ds.take (j + 1) = List.replicate (j + 1) c := by
  rw [List.replicate_succ', ← ht, List.take_add_one]
  congr 1
  simp [List.getD, List.getElem?_eq_getElem h] at hd
  simp [List.getElem?_eq_getElem h, hd]
theorem rank_next {K j : Nat} {ds : List Nat} (hK : 0 < K) (h : j < ds.length) (ht : ds.take j = List.replicate j (K - 1)) : rkK K ((dsx j ds).set j (ds.getD j 0 + 1)) = rkK K ds + 1 := by
  rw [dsx_set h, ← rkK_next hK (ds.getD j 0) (ds.drop (j + 1)) j, ← ht, ← drop_at h, List.take_append_drop]
theorem rank_full {K n : Nat} {ds : List Nat} (hK : 0 < K) (hl : ds.length = n) (ht : ds.take n = List.replicate n (K - 1)) : rkK K ds + 1 = K ^ n := by
  rw [← rkK_full hK n, ← ht, ← hl, List.take_length]
theorem set_lt {K j d : Nat} {ds : List Nat} (h : ∀ d ∈ ds, d < K) (hd : d < K) : ∀ x ∈ ds.set j d, x < K := by
  intro x hx
  rcases List.mem_or_eq_of_mem_set hx with h1 | rfl
  · exact h x h1
  · exact hd
theorem getD_ltK {K j : Nat} {ds : List Nat} (h : ∀ d ∈ ds, d < K) (hj : j < ds.length) : ds.getD j 0 < K := by
  rw [List.getD_eq_getElem?_getD, List.getElem?_eq_getElem hj]
  exact h _ (List.getElem_mem hj)
theorem set_set_same {α : Type} (L : List α) (i : Nat) (a b : α) : (L.set i a).set i b = L.set i b := by simp
theorem pkAt_last {nm ng d : Nat} (hg : 0 < ng) (hd : d < nm * ng) : (d / ng = nm - 1 ∧ d % ng = ng - 1) ↔ d = nm * ng - 1 := by
  have h1 := Nat.div_add_mod d ng
  have h2 := Nat.mod_lt d hg
  have hm : 0 < nm := by
    rcases Nat.eq_zero_or_pos nm with h | h
    · subst h; rw [Nat.zero_mul] at hd; omega
    · exact h
  obtain ⟨m, rfl⟩ : ∃ m, nm = m + 1 := ⟨nm - 1, by omega⟩
  rw [Nat.succ_mul] at hd ⊢
  have e1 : (m * ng + ng - 1) / ng = m := by
    rw [show m * ng + ng - 1 = (ng - 1) + ng * m by rw [Nat.mul_comm ng m]; omega, Nat.add_mul_div_left _ _ hg, Nat.div_eq_of_lt (by omega)]
    omega
  have e2 : (m * ng + ng - 1) % ng = ng - 1 := by
    rw [show m * ng + ng - 1 = (ng - 1) + ng * m by rw [Nat.mul_comm ng m]; omega, Nat.add_mul_mod_self_left, Nat.mod_eq_of_lt (by omega)]
  constructor
  · rintro ⟨a, b⟩
    rw [a, b, Nat.mul_comm, show m + 1 - 1 = m from rfl] at h1
    omega
  · intro h
    rw [h]
    exact ⟨by rw [e1]; rfl, e2⟩
theorem pkAt_next {ng d : Nat} (hg : 0 < ng) : pkAt ng (d + 1) = if d % ng + 1 = ng then ⟨((d / ng : Nat) : Int) + 1, 0⟩ else ⟨((d / ng : Nat) : Int), ((d % ng : Nat) : Int) + 1⟩ := by
  have h1 := Nat.div_add_mod d ng
  have h2 := Nat.mod_lt d hg
  unfold pkAt
  obtain ⟨q, hq⟩ : ∃ q, d / ng = q := ⟨_, rfl⟩
  obtain ⟨r, hr⟩ : ∃ r, d % ng = r := ⟨_, rfl⟩
  rw [hq, hr] at h1
  rw [hr] at h2
  rw [hq, hr]
  split
  · rename_i h
    have e : d + 1 = ng * (q + 1) := by rw [Nat.mul_succ]; omega
    rw [e, Nat.mul_div_cancel_left _ hg, Nat.mul_mod_right]
    rfl
  · rename_i h
    have e : d + 1 = (r + 1) + ng * q := by omega
    rw [e, Nat.add_mul_div_left _ _ hg, Nat.div_eq_of_lt (by omega), Nat.add_mul_mod_self_left, Nat.mod_eq_of_lt (by omega)]
    simp

/-- the number that an array of picks shows -/
def valN (w : World) (b o : Nat) : Nat := match w.cell? ⟨b, o, none⟩ with | some (.int _ z) => z.toNat | _ => 0
def rkW (w : World) (b ng K : Nat) : Nat → Nat
  | 0 => 0
  | n + 1 => (valN w b (n * 2) * ng + valN w b (n * 2 + 1)) + K * rkW w b ng K n
theorem rkW_eq {w : World} {b ng K : Nat} (hg : 0 < ng) : ∀ ds : List Nat, (∀ i, i < ds.length → w.cell? ⟨b, i * 2, none⟩ = some (.int .i64 ((arrK ng ds).getD i p0).m) ∧ w.cell? ⟨b, i * 2 + 1, none⟩ = some (.int .i64 ((arrK ng ds).getD i p0).g)) → rkW w b ng K ds.length = rkK K ds
  | [], _ => rfl
  | d :: ds, h => by
    have ih := rkW_eq (K := K) hg ds (fun i hi => by
      have := h i (by simp; omega)
      have e : (arrK ng (d :: ds)).getD i p0 = (arrK ng ds).getD i p0 := by
        rw [arrK_cons, List.getD_eq_getElem?_getD, List.getElem?_append_left (by rw [arrK_len]; exact hi), ← List.getD_eq_getElem?_getD]
      rw [e] at this
      exact this)
    obtain ⟨h1, h2⟩ := h ds.length (by simp)
    have e : (arrK ng (d :: ds)).getD ds.length p0 = pkAt ng d := by
      rw [arrK_cons, List.getD_eq_getElem?_getD, List.getElem?_append_right (by rw [arrK_len]; exact Nat.le_refl _), arrK_len, Nat.sub_self]
      rfl
    rw [e] at h1 h2
    have v1 : valN w b (ds.length * 2) = d / ng := by unfold valN; rw [h1]; rfl
    have v2 : valN w b (ds.length * 2 + 1) = d % ng := by unfold valN; rw [h2]; rfl
    rw [List.length_cons, rkW, ih, v1, v2, rkK, Nat.div_add_mod']
theorem RB.rank {n K ng : Nat} {w wr : World} {VS : List Value} {ds : List Nat} {M : Int × Nat} {bv : Value} (h : RB n K ng w wr VS (arrK ng ds) M bv) (hg : 0 < ng) (hl : ds.length = n) (hn : n ≤ 1000) : rkW wr (w.heap.size + 1) ng K n = rkK K ds := by
  rw [← hl]
  refine rkW_eq hg ds (fun i hi => pk_cells h.2.2.1 (by rw [arrK_len]; omega) (by rw [arrK_len]; exact hi) rfl)
theorem RB.inp {n K ng : Nat} {w wr : World} {VS : List Value} {P : List Pk} {M : Int × Nat} {bv : Value} (h : RB n K ng w wr VS P M bv) (hn : n ≤ 1000) : InP wr (.slice (some ⟨w.heap.size + 1, 0, none⟩) n n) P := by
  have h4 := h.2.2.2.1
  subst h4
  exact ⟨_, _, rfl, pk_block h.2.2.1 hn⟩
theorem enF_ge (S : Scl) (k : Nat) : -1 ≤ enF S k := by
  unfold enF
  split <;> omega
theorem amin_yes {f : Nat → Int} {N : Nat} (h : f N ≠ -1 ∧ ((amin f N).1 = -1 ∨ f N < (amin f N).1)) : amin f (N + 1) = (f N, N) := by rw [amin, if_pos h]
theorem amin_no {f : Nat → Int} {N : Nat} (h : ¬ (f N ≠ -1 ∧ ((amin f N).1 = -1 ∨ f N < (amin f N).1))) : amin f (N + 1) = amin f N := by rw [amin, if_neg h]

end Go.Proofs
