/- Rows of values, k cells an element, that a call made itself; what is read of a slice of such elements. A region in whatever order that reads, makes memory and at its end stores into cells that it has read: what is held need not hold behind the stores. The map of the balances: its keys are places. Moves, places; book.places. -/
import Derived.Test.YtghbjhcbldnenaaGreatDoorPk01
import Derived.Below
import Derived.Deep.QuietTactic
import Derived.Deep.AppendLies
import Derived.Deep.RegionHeld3
import Derived.Test.YtghbjhcbldnenaaGreatDoorPk06
import Derived.Maps.OwnOps
import Derived.Maps.OwnSet
import Derived.Maps.RangeWalk
import Derived.WideKeyEntry
import Derived.DeepKeys5
import Derived.WalkArith
import Derived.Lib.Hide
import Derived.Deep.Cut
import Derived.BigQuiet

section
open Go.RowKit
namespace Go.Proofs
set_option linter.unusedVariables false
set_option linter.unusedSimpArgs false

def flat {α : Type} (f : α → List Value) : List α → List Value
  | [] => []
  | x :: L => f x ++ flat f L
theorem flat_append {α : Type} (f : α → List Value) : ∀ L M, flat f (L ++ M) = flat f L ++ flat f M
  | [], M => rfl
  | x :: L, M => by simp only [flat, List.cons_append, flat_append f L M, List.append_assoc]
theorem flat_length {α : Type} {f : α → List Value} {k : Nat} (hk : ∀ x, (f x).length = k) : ∀ L, (flat f L).length = L.length * k
  | [] => by simp [flat]
  | x :: L => by simp only [flat, List.length_append, List.length_cons, flat_length hk L, hk x, Nat.succ_mul]; omega
theorem flat_get {α : Type} {f : α → List Value} {k : Nat} (hk : ∀ x, (f x).length = k) (d : α) : ∀ (L : List α) (i : Nat), i < L.length → ∀ j, j < k → (flat f L)[i * k + j]? = (f (L.getD i d))[j]?
  | [], i, h, _, _ => by simp at h
  | x :: L, 0, h, j, hj => by
    rw [Nat.zero_mul, Nat.zero_add, List.getD_cons_zero]
    simp only [flat]
    rw [List.getElem?_append_left (by rw [hk]; exact hj)]
  | x :: L, i + 1, h, j, hj => by
    have := flat_get hk d L i (by simpa using h) j hj
    rw [List.getD_cons_succ, ← this]
    simp only [flat]
    rw [List.getElem?_append_right (by rw [hk, Nat.succ_mul]; omega), hk]
    congr 1
    rw [Nat.succ_mul]; omega
theorem flat_one {α : Type} {f : α → List Value} (h1 : ∀ x, ∀ u ∈ f x, u.oneCell' = true) : ∀ (L : List α), ∀ u ∈ flat f L, u.oneCell' = true
  | [], u, h => by cases h
  | x :: L, u, h => by
    simp only [flat, List.mem_append] at h
    rcases h with h | h
    · exact h1 x u h
    · exact flat_one h1 L u h

/-- n elements of k cells each that can be read -/
def RdV (w : World) (ad : Option Addr) (c n k : Nat) (cs : List Value) : Prop :=
  cs.length = n * k ∧ n ≤ c ∧ c ≤ maxLen ∧ (c = 0 ∨ ∃ b o, ad = some ⟨b, o, none⟩ ∧ ∀ j u, cs[j]? = some u → w.cell? ⟨b, o + j, none⟩ = some u)
theorem cell_ltV {w : World} {a : Addr} {v : Value} (h : w.cell? a = some v) : a.block < w.heap.size := by
  by_cases hb : a.block < w.heap.size
  · exact hb
  · have e : w.heap[a.block]? = none := by simp; omega
    simp [World.cell?, e] at h
theorem RdV.mono {w w' : World} {ad c n k cs} (h : RdV w ad c n k cs) (hb : Below w.heap.size w w') : RdV w' ad c n k cs := by
  obtain ⟨h1, h2, h3, h4⟩ := h
  refine ⟨h1, h2, h3, ?_⟩
  rcases h4 with h4 | ⟨b, o, rfl, h4⟩
  · exact .inl h4
  · exact .inr ⟨b, o, rfl, fun j u hj => (hb.cell (cell_ltV (h4 j u hj))).trans (h4 j u hj)⟩
theorem RdV.drew {w : World} {ad c n k cs} (h : RdV w ad c n k cs) : RdV w.drew ad c n k cs := h
theorem RdV.take {w : World} {ad c n k cs} (h : RdV w ad c n k cs) (m : Nat) (hm : m ≤ n) : RdV w ad c m k (cs.take (m * k)) := by
  obtain ⟨h1, h2, h3, h4⟩ := h
  have hmk : m * k ≤ n * k := Nat.mul_le_mul_right k hm
  refine ⟨by rw [List.length_take]; omega, by omega, h3, ?_⟩
  rcases h4 with h4 | ⟨b, o, rfl, h4⟩
  · exact .inl h4
  · refine .inr ⟨b, o, rfl, fun j u hj => h4 j u ?_⟩
    rw [List.getElem?_take] at hj
    split at hj
    · exact hj
    · cases hj
/-- the cells of an element -/
theorem RdV.at {α : Type} {f : α → List Value} {w : World} {ad : Option Addr} {c n k : Nat} {L : List α} (hk : ∀ x, (f x).length = k) (h : RdV w ad c n k (flat f L)) (hk0 : 0 < k) (d : α) {i : Nat} (hi : i < L.length) :
    ∃ b o, ad = some ⟨b, o, none⟩ ∧ ∀ j u, (f (L.getD i d))[j]? = some u → w.cell? ⟨b, o + (i * k + j), none⟩ = some u := by
  obtain ⟨h1, h2, h3, h4⟩ := h
  rw [flat_length hk] at h1
  have h5 : L.length = n := Nat.eq_of_mul_eq_mul_right hk0 h1
  rcases h4 with h4 | ⟨b, o, rfl, h4⟩
  · omega
  · refine ⟨b, o, rfl, fun j u hj => ?_⟩
    have hj2 : j < k := by
      have := (List.getElem?_eq_some_iff.1 hj).1
      rwa [hk] at this
    exact h4 _ u (by rw [flat_get hk d L i hi j hj2]; exact hj)

theorem getD_of {l : List Value} {i : Nat} {u : Value} (h : l[i]? = some u) : l.getD i undef = u := by simp [List.getD, h]
/-- cells of rows of 2 and of 4 -/
theorem RdV.of2 {α : Type} {f : α → List Value} (hk : ∀ x, (f x).length = 2) {w : World} {ad : Option Addr} {c : Nat} {L : List α} (d : α) (hc : L.length ≤ c) (hm : c ≤ maxLen)
    (h : c = 0 ∨ ∃ b o, ad = some ⟨b, o, none⟩ ∧ ∀ i, i < L.length → w.cell? ⟨b, o + i * 2, none⟩ = some ((f (L.getD i d)).getD 0 undef) ∧ w.cell? ⟨b, o + i * 2 + 1, none⟩ = some ((f (L.getD i d)).getD 1 undef)) : RdV w ad c L.length 2 (flat f L) := by
  refine ⟨flat_length hk L, hc, hm, ?_⟩
  rcases h with h | ⟨b, o, rfl, h⟩
  · exact .inl h
  · refine .inr ⟨b, o, rfl, fun j u hj => ?_⟩
    have hlt := (List.getElem?_eq_some_iff.1 hj).1
    rw [flat_length hk] at hlt
    obtain ⟨i, r, hr, rfl⟩ : ∃ i r, r < 2 ∧ j = i * 2 + r := ⟨j / 2, j % 2, by omega, by omega⟩
    have hi : i < L.length := by omega
    rw [flat_get hk d L i hi r hr] at hj
    obtain ⟨h0, h1⟩ := h i hi
    rcases (show r = 0 ∨ r = 1 by omega) with rfl | rfl
    · rw [Nat.add_zero, h0]; rw [getD_of hj]
    · rw [← Nat.add_assoc, h1]; rw [getD_of hj]
theorem RdV.of4 {α : Type} {f : α → List Value} (hk : ∀ x, (f x).length = 4) {w : World} {ad : Option Addr} {c : Nat} {L : List α} (d : α) (hc : L.length ≤ c) (hm : c ≤ maxLen)
    (h : c = 0 ∨ ∃ b o, ad = some ⟨b, o, none⟩ ∧ ∀ i, i < L.length → w.cell? ⟨b, o + i * 4, none⟩ = some ((f (L.getD i d)).getD 0 undef) ∧ w.cell? ⟨b, o + i * 4 + 1, none⟩ = some ((f (L.getD i d)).getD 1 undef) ∧
      w.cell? ⟨b, o + i * 4 + 2, none⟩ = some ((f (L.getD i d)).getD 2 undef) ∧ w.cell? ⟨b, o + i * 4 + 3, none⟩ = some ((f (L.getD i d)).getD 3 undef)) : RdV w ad c L.length 4 (flat f L) := by
  refine ⟨flat_length hk L, hc, hm, ?_⟩
  rcases h with h | ⟨b, o, rfl, h⟩
  · exact .inl h
  · refine .inr ⟨b, o, rfl, fun j u hj => ?_⟩
    have hlt := (List.getElem?_eq_some_iff.1 hj).1
    rw [flat_length hk] at hlt
    obtain ⟨i, r, hr, rfl⟩ : ∃ i r, r < 4 ∧ j = i * 4 + r := ⟨j / 4, j % 4, by omega, by omega⟩
    have hi : i < L.length := by omega
    rw [flat_get hk d L i hi r hr] at hj
    obtain ⟨h0, h1, h2, h3⟩ := h i hi
    rcases (show r = 0 ∨ r = 1 ∨ r = 2 ∨ r = 3 by omega) with rfl | rfl | rfl | rfl
    · rw [Nat.add_zero, h0]; rw [getD_of hj]
    · rw [← Nat.add_assoc, h1]; rw [getD_of hj]
    · rw [← Nat.add_assoc, h2]; rw [getD_of hj]
    · rw [← Nat.add_assoc, h3]; rw [getD_of hj]

theorem ownsRow_block {w : World} {B e k : Nat} {v : Value} {n : Nat} {cs : List Value} (h : w.ownsRow B e k v n cs) : ∀ b, v.ownBlock = some b → B ≤ b ∧ b < w.heap.size := by
  intro b hb
  obtain ⟨hl, h1⟩ := h
  rcases h1 with ⟨rfl, _⟩ | ⟨g, cap, cur, rfl, hg, hh, r⟩
  · cases hb
  · cases hb
    exact ⟨hg, lt_of_block hh⟩
theorem ownsRow_mono {w w' : World} {B e k : Nat} {v : Value} {n : Nat} {cs : List Value} (h : w.ownsRow B e k v n cs) (hb : Below w.heap.size w w') : w'.ownsRow B e k v n cs := by
  have hk := ownsRow_block h
  obtain ⟨hl, h1⟩ := h
  refine ⟨hl, ?_⟩
  rcases h1 with h1 | ⟨g, cap, cur, rfl, hg, hh, r⟩
  · exact .inl h1
  · refine .inr ⟨g, cap, cur, rfl, hg, ?_, r⟩
    rw [hb.block g (hk g rfl).2]
    exact hh
theorem ownsRow_form {w : World} {B e k : Nat} {v : Value} {n : Nat} {cs : List Value} (h : w.ownsRow B e k v n cs) : ∃ ad c, v = .slice ad n c := by
  obtain ⟨hl, h1⟩ := h
  rcases h1 with ⟨rfl, h2⟩ | ⟨g, cap, cur, rfl, hg, hh, r⟩
  · exact ⟨none, 0, by rw [h2]⟩
  · exact ⟨_, _, rfl⟩
theorem ownsRow_other {w : World} {B e k : Nat} {v : Value} {n : Nat} {cs : List Value} (h : w.ownsRow B e k v n cs) (p : Addr) (hp : v.ownBlock ≠ some p.block) (u : Value) : (w.setCell p u).ownsRow B e k v n cs := by
  obtain ⟨hl, h1⟩ := h
  refine ⟨hl, ?_⟩
  rcases h1 with h1 | ⟨g, cap, cur, rfl, hg, hh, r⟩
  · exact .inl h1
  · refine .inr ⟨g, cap, cur, rfl, hg, ?_, r⟩
    rw [Below.heap_setCell _ _ _ _ (show g ≠ p.block from fun e => hp (by rw [← e]; rfl))]
    exact hh
theorem ownsRow_drew {w : World} {B e k : Nat} {v : Value} {n : Nat} {cs : List Value} (h : w.ownsRow B e k v n cs) : w.drew.ownsRow B e k v n cs := h
theorem ownsRow_nil (w : World) (B e k : Nat) : w.ownsRow B e k (.slice none 0 0) 0 [] := ⟨by simp, .inl ⟨rfl, rfl⟩⟩
theorem ownsRow_rd {w : World} {B e k : Nat} {v : Value} {n : Nat} {cs : List Value} (h : w.ownsRow B e k v n cs) : ∃ ad c, v = .slice ad n c ∧ RdV w ad c n k cs ∧ ∀ a, ad = some a → B ≤ a.block := by
  obtain ⟨hl, h1⟩ := h
  rcases h1 with ⟨rfl, h2⟩ | ⟨g, cap, cur, rfl, hg, hh, hn, hc, hs, ht⟩
  · subst h2
    refine ⟨none, 0, rfl, ⟨hl, Nat.le_refl _, by unfold maxLen; omega, .inl rfl⟩, fun a ha => by cases ha⟩
  · refine ⟨_, _, rfl, ⟨hl, hn, hc, .inr ⟨g, 0, rfl, fun j u hj => ?_⟩⟩, fun a ha => by cases ha; exact hg⟩
    rw [← ht, List.getElem?_take] at hj
    split at hj
    · simp only [World.cell?, hh, Nat.zero_add]
      simpa using hj
    · cases hj
theorem ownsRow_rds {w : World} {B e k : Nat} {ad : Option Addr} {n c : Nat} {cs : List Value} (h : w.ownsRow B e k (.slice ad n c) n cs) : RdV w ad c n k cs ∧ ∀ a, ad = some a → B ≤ a.block := by
  obtain ⟨ad', c', e1, h1, h2⟩ := ownsRow_rd h
  cases e1
  exact ⟨h1, h2⟩
/-- an empty row that is not nil -/
theorem ownsRow_made (w : World) (e k : Nat) : (w.alloc (.cells #[] e)).ownsRow w.heap.size e k (.slice (some ⟨w.heap.size, 0, none⟩) 0 0) 0 [] :=
  ⟨by simp, .inr ⟨w.heap.size, 0, #[], rfl, Nat.le_refl _, heap_alloc_new w _, Nat.le_refl _, by unfold maxLen; omega, by simp, by simp⟩⟩
/-- a row written down -/
theorem ownsRow_lit (w : World) (e k n : Nat) (cs : List Value) (vs : Array Value) (hv : vs = cs.toArray) (hl : cs.length = n * k) (hm : n ≤ maxLen) : (w.alloc (.cells vs e)).ownsRow w.heap.size e k (.slice (some ⟨w.heap.size, 0, none⟩) n n) n cs :=
  ⟨hl, .inr ⟨w.heap.size, n, vs, rfl, Nat.le_refl _, heap_alloc_new w _, Nat.le_refl _, hm, by subst hv; simpa using hl, by subst hv; rw [← hl]; simp⟩⟩
theorem add_offV (b o j : Nat) : (⟨b, o, none⟩ : Addr).add j = ⟨b, o + j, none⟩ := by
  unfold Addr.add; split <;> simp_all

/-- append of what can be read to a row of the call's own -/
theorem run_append_rv {P : Program} {w : World} (B : Nat) (t ty e : TypeId) (i : TypeInfo) (z : Value) (k bytes : Nat) (ht : P.underlying t = some (.slice e)) (hi : P.info? e = some i) (hz : i.zero = some z)
    (hsize : i.size = k) (hby : i.bytes = bytes) (hzs : z.cells.size = k) (hsz : 0 < k)
    (v : Value) (n : Nat) (cs : List Value) (hown : w.ownsRow B e k v n cs) (ad : Option Addr) (m c : Nat) (news : List Value) (hrd : RdV w ad c m k news) (h1 : ∀ u ∈ news, u.oneCell' = true)
    (h63 : n + m ≤ maxLen) (hbytes : (n + m) * bytes ≤ 140737488355328) (hB : B ≤ w.heap.size) :
    ∃ v' w', (Builtin.append_ #[t, t] ty #[v, .slice ad m c]).run P w = .ok v' w' ∧ w'.ownsRow B e k v' (n + m) (cs ++ news) ∧ w.grownBy w' v.ownBlock ∧ (v' = .slice none 0 0 → v = .slice none 0 0) ∧ (v'.ownBlock = v.ownBlock ∨ v'.ownBlock = some w.heap.size) := by
  obtain ⟨h3, h4, h5, h6⟩ := hrd
  rcases h6 with rfl | ⟨b, o, rfl, h6⟩
  · have hm0 : m = 0 := by omega
    subst hm0
    have hn0 : news = [] := List.eq_nil_of_length_eq_zero (by rw [h3, Nat.zero_mul])
    subst hn0
    cases ad with
    | none =>
      refine ⟨v, w, run_append_owned_none (P := P) (w := w) B t ty e i k ht hi v n cs hown, by rw [List.append_nil]; exact hown, ?_, fun h => h, .inl rfl⟩
      exact ⟨rfl, rfl, rfl, Nat.le_refl _, fun _ _ _ => rfl⟩
    | some x =>
      obtain ⟨v', w', hr, ho, hg, hn, hk⟩ := run_append_own_at (P := P) w B t ty e i z k bytes ht hi hz hsize hby hzs hsz v n cs hown x 0 0 [] h3 (fun j u hj => by cases hj) h1 h63 hbytes hB
      exact ⟨v', w', hr, ho, hg, fun h => (hn.1 h).1, hk⟩
  · obtain ⟨v', w', hr, ho, hg, hn, hk⟩ := run_append_own_at (P := P) w B t ty e i z k bytes ht hi hz hsize hby hzs hsz v n cs hown ⟨b, o, none⟩ m c news h3 (fun j u hj => by rw [add_offV]; exact h6 j u hj) h1 h63 hbytes hB
    exact ⟨v', w', hr, ho, hg, fun h => (hn.1 h).1, hk⟩

theorem grown_below {w w' : World} {B e k : Nat} {v : Value} {n : Nat} {cs : List Value} (hown : w.ownsRow B e k v n cs) (hB : B ≤ w.heap.size) (hg : w.grownBy w' v.ownBlock) : Below B w w' :=
  (Below.refl _ _).grown hg hB fun b hb => (ownsRow_block hown b hb).1

/-- what the append leaves, for whatever goes on -/
def AfterApp (w : World) (B e k : Nat) (v : Value) (q : Nat) (cs : List Value) (K : Value → World → Prop) : Prop :=
  ∀ ad c w', w'.ownsRow B e k (.slice ad q c) q cs → w.grownBy w' v.ownBlock → (ad = none → c = 0 → q = 0 → v = .slice none 0 0) → Below B w w' → ((Value.slice ad q c).ownBlock = v.ownBlock ∨ (Value.slice ad q c).ownBlock = some w.heap.size) → K (.slice ad q c) w'

theorem wp_append_rv {P : Program} {w : World} {o : Oper} {a : Act} {K : Act → World → Prop} {Q : Exit → Act → World → Prop} (s x : Operand) (t : TypeId)
    (ho : o.op = .call { callee := .builtin .append, args := #[s, x], argTypes := #[t, t] })
    (B : Nat) (e : TypeId) (z : Value) (k bytes : Nat) (ht : P.underlying t = some (.slice e)) (h2 : (P.info? e).map (fun i => (i.zero, i.size, i.bytes)) = some (some z, k, bytes)) (hzs : z.cells.size = k) (hsz : 0 < k)
    (v : Value) (n : Nat) (cs : List Value) (hs : a.eval s = v) (hown : w.ownsRow B e k v n cs) (ad : Option Addr) (m c : Nat) (news : List Value) (hx : a.eval x = .slice ad m c) (hrd : RdV w ad c m k news) (h1 : ∀ u ∈ news, u.oneCell' = true)
    (h63 : n + m ≤ maxLen) (hbytes : (n + m) * bytes ≤ 140737488355328) (hB : B ≤ w.heap.size) (q : Nat) (hq : q = n + m) (all : List Value) (hall : all = cs ++ news)
    (h : AfterApp w B e k v q all (fun v' w' => K (a.put o.dst v') w')) : o.wp P a w K Q := by
  subst hq
  subst hall
  obtain ⟨i, hi, z0, z1, z2⟩ := info_parts h2
  obtain ⟨v', w', hr, h3, h4, h5, h6⟩ := run_append_rv (P := P) B t o.type e i z k bytes ht hi z0 z1 z2 hzs hsz v n cs hown ad m c news hrd h1 h63 hbytes hB
  obtain ⟨ad', c', rfl⟩ := ownsRow_form h3
  unfold Oper.wp execOp
  simp only [ho, resolve, invoke, builtin, Sem.run_bind, Sem.run_pure, Result.andThen_ok, List.map_toArray, List.map_cons, List.map_nil, hs, hx, hr]
  exact h ad' c' w' h3 h4 (fun h6 h7 h8 => h5 (by rw [h6, h7, h8])) (grown_below hown hB h4) h6

theorem wpList_append_rv {P : Program} {w : World} {ops : Array Oper} {rest : List Oper} {o : Oper} {a : Act} {Q : Exit → Act → World → Prop} (hgd : o.guard = none) (s x : Operand) (t : TypeId)
    (ho : o.op = .call { callee := .builtin .append, args := #[s, x], argTypes := #[t, t] })
    (B : Nat) (e : TypeId) (z : Value) (k bytes : Nat) (ht : P.underlying t = some (.slice e)) (h2 : (P.info? e).map (fun i => (i.zero, i.size, i.bytes)) = some (some z, k, bytes)) (hzs : z.cells.size = k) (hsz : 0 < k)
    (v : Value) (n : Nat) (cs : List Value) (hs : a.eval s = v) (hown : w.ownsRow B e k v n cs) (ad : Option Addr) (m c : Nat) (news : List Value) (hx : a.eval x = .slice ad m c) (hrd : RdV w ad c m k news) (h1 : ∀ u ∈ news, u.oneCell' = true)
    (h63 : n + m ≤ maxLen) (hbytes : (n + m) * bytes ≤ 140737488355328) (hB : B ≤ w.heap.size) (q : Nat) (hq : q = n + m) (all : List Value) (hall : all = cs ++ news)
    (h : AfterApp w B e k v q all (fun v' w' => wpList P ops Q rest (a.put o.dst v') w')) : wpList P ops Q (o :: rest) a w :=
  wpList_plain hgd fun _ hK => wp_append_rv s x t ho B e z k bytes ht h2 hzs hsz v n cs hs hown ad m c news hx hrd h1 h63 hbytes hB q hq all hall fun ad' c' w' h3 h4 h5 h6 h7 => hK _ _ (h ad' c' w' h3 h4 h5 h6 h7)

theorem step_append_rv {P : Program} {w : World} {ops : Array Oper} {o : Oper} {a : Act} {K : Act → World → Prop} {Q : Exit → Act → World → Prop} {E : Prop} (hgd : o.guard = none) (s x : Operand) (t : TypeId)
    (ho : o.op = .call { callee := .builtin .append, args := #[s, x], argTypes := #[t, t] })
    (B : Nat) (e : TypeId) (z : Value) (k bytes : Nat) (ht : P.underlying t = some (.slice e)) (h2 : (P.info? e).map (fun i => (i.zero, i.size, i.bytes)) = some (some z, k, bytes)) (hzs : z.cells.size = k) (hsz : 0 < k)
    (v : Value) (n : Nat) (cs : List Value) (hs : a.eval s = v) (hown : w.ownsRow B e k v n cs) (ad : Option Addr) (m c : Nat) (news : List Value) (hx : a.eval x = .slice ad m c) (hrd : RdV w ad c m k news) (h1 : ∀ u ∈ news, u.oneCell' = true)
    (h63 : n + m ≤ maxLen) (hbytes : (n + m) * bytes ≤ 140737488355328) (hB : B ≤ w.heap.size) (q : Nat) (hq : q = n + m) (all : List Value) (hall : all = cs ++ news)
    (h : AfterApp w B e k v q all (fun v' w' => K (a.put o.dst v') w')) : if Region.wanted o (yielded ops a.tmps) = true then Oper.wp P o a w K Q else E := by
  have hw : Region.wanted o (yielded ops a.tmps) = true := by simp [Region.wanted, hgd]
  rw [if_pos hw]
  exact wp_append_rv s x t ho B e z k bytes ht h2 hzs hsz v n cs hs hown ad m c news hx hrd h1 h63 hbytes hB q hq all hall h

end Go.Proofs
end

section
open Go.RowKit
namespace Go.Proofs
set_option linter.unusedVariables false
set_option linter.unusedSimpArgs false

section
variable {P : Program} {ops : Array Oper} {Q : Exit → Act → World → Prop} {md : Region.Mode} {S : World → Prop} {lx : List Nat}

/-- every operation but those of lx keeps S -/
def wpAnyL (P : Program) (md : Region.Mode) (ops : Array Oper) (Q : Exit → Act → World → Prop) (S : World → Prop) (lx : List Nat) : Nat → Array Bool → Act → World → Prop
  | 0, listed, a, w => Region.ready md ops listed = [] ∧ Q .normal a w
  | fuel + 1, listed, a, w =>
    (Region.ready md ops listed = [] → Q .normal a w) ∧
    ∀ i ∈ Region.ready md ops listed, wpOp P ops Q i (fun a' w' => (lx.contains i = false → S w → S w') ∧ wpAnyL P md ops Q S lx fuel (listed.setIfInBounds i true) a' w') a w

theorem wpAny_of_L : ∀ (fuel : Nat) (listed : Array Bool) (a : Act) (w : World), wpAnyL P md ops Q S lx fuel listed a w → wpAny P md ops Q fuel listed a w
  | 0, _, _, _, h => h
  | fuel + 1, _, _, _, h => ⟨h.1, fun i hi => wpOp_mono (fun a' w' h' => wpAny_of_L fuel _ a' w' h'.2) (h.2 i hi)⟩

/-- number l waits for number i -/
def waitsL (md : Region.Mode) (ops : Array Oper) (i l : Nat) : Bool := match ops[l]? with | some o => o.after.any (fun e => Region.binds md e && e.on == i) | none => false
theorem waitsL_spec {i l : Nat} {o : Oper} (ho : ops[l]? = some o) (h : waitsL md ops i l = true) : ¬ ∀ e ∈ o.after, Region.binds md e = true → e.on ≠ i := by
  intro hno
  unfold waitsL at h
  rw [ho] at h
  obtain ⟨e, he, hb⟩ := Array.any_eq_true'.1 h
  simp only [Bool.and_eq_true, beq_iff_eq] at hb
  exact hno e he hb.1 hb.2

/-- what yields at every time is carried out first -/
theorem wpAnyL_first {i : Nat} {oi : Oper} {v : Value} {T : World → Prop} (hi : ops[i]? = some oi) (hsel : ∀ (j : Nat) (o : Oper) cs b, ops[j]? = some o → o.op ≠ .select cs b)
    (hQ : ∀ c a w, Q (.panic c) (a.put oi.dst v) w → Q (.panic c) a w)
    (hT : ∀ (j : Nat) (oj : Oper), ops[j]? = some oj → (∀ e ∈ oj.after, Region.binds md e = true → e.on ≠ i) → ∀ w w', T w → (lx.contains j = false → S w → S w') → T w') :
    ∀ (fuel : Nat) (listed : Array Bool) (a : Act) (w : World),
      (∀ j oj, ops[j]? = some oj → j ≠ i → listed.getD j true = false → (∀ e ∈ oj.after, Region.binds md e = true → e.on ≠ i) → oi.apart ops oj = true) →
      i ∈ Region.ready md ops listed → YieldsIf P ops T oi v a → T w →
      wpAnyL P md ops Q S lx fuel (listed.setIfInBounds i true) (a.put oi.dst v) w → wpAnyL P md ops Q S lx (fuel + 1) listed a w := by
  intro fuel
  induction fuel with
  | zero =>
    intro listed a w _ hr hy hS H
    refine ⟨fun h => absurd hr (by rw [h]; exact List.not_mem_nil), fun j hj => ?_⟩
    by_cases e : j = i
    · subst e
      exact hy.wpOp hi hS ⟨fun _ h => h, H⟩
    · have h2 := ready_mono hj e
      rw [H.1] at h2
      cases h2
  | succ fuel ih =>
    intro listed a w hfree hr hy hS H
    refine ⟨fun h => absurd hr (by rw [h]; exact List.not_mem_nil), fun j hj => ?_⟩
    by_cases e : j = i
    · subst e
      exact hy.wpOp hi hS ⟨fun _ h => h, H⟩
    · have h1 := H.2 j (ready_mono hj e)
      obtain ⟨hun, oj, hoj, hall⟩ := mem_ready.1 hj
      have hno : ∀ e ∈ oj.after, Region.binds md e = true → e.on ≠ i := by
        intro e he hb heq
        have h3 := hall e he hb
        have h4 := (mem_ready.1 hr).1
        rw [heq] at h3
        rcases Nat.lt_or_ge i listed.size with h' | h'
        · simp only [Array.getD_eq_getD_getElem?, Array.getElem?_eq_getElem h', Option.getD_some] at h3 h4
          rw [h4] at h3
          cases h3
        · simp only [Array.getD_eq_getD_getElem?, Array.getElem?_eq_none h', Option.getD_none] at h3
          cases h3
      have h2 := wpOp_putIf hoj (hfree j oj hoj e hun hno) (fun cs b => hsel i oi cs b hi) (fun cs b => hsel j oj cs b hoj) hQ hy h1
      have hfree2 : ∀ k ok, ops[k]? = some ok → k ≠ i → (listed.setIfInBounds j true).getD k true = false → (∀ e ∈ ok.after, Region.binds md e = true → e.on ≠ i) → oi.apart ops ok = true := by
        intro k ok hk hki hun2 hno2
        refine hfree k ok hk hki ?_ hno2
        by_cases hjk : j = k
        · subst hjk; exact hun
        · rw [Go.getD_set_ne true hjk] at hun2; exact hun2
      refine wpOp_mono (fun a' w' h3 => ⟨h3.2.1, ih (listed.setIfInBounds j true) a' w' hfree2 (ready_mono hr (Ne.symm e)) h3.1 (hT j oj hoj hno w w' hS h3.2.1) ?_⟩) h2
      rw [Array.setIfInBounds_comm _ _ e]
      exact h3.2.2

/-- a reading operation for which all of lx waits -/
theorem wpAnyL_take {i : Nat} {oi : Oper} {v : Value} {fuel : Nat} {listed : Array Bool} {a : Act} {w : World} (hi : ops[i]? = some oi) (hL : lx.all (waitsL md ops i) = true)
    (hs : Region.noSelect ops = true) (hf : Region.free md ops listed i = true) (hr : (Region.ready md ops listed).contains i = true)
    (hQ : ∀ c a w, Q (.panic c) (a.put oi.dst v) w → Q (.panic c) a w) (hy : YieldsIf P ops S oi v a) (hS : S w)
    (h : wpAnyL P md ops Q S lx fuel (listed.setIfInBounds i true) (a.put oi.dst v) w) : wpAnyL P md ops Q S lx (fuel + 1) listed a w :=
  wpAnyL_first (T := S) hi (Region.noSelect_spec hs) hQ (fun j oj hj hno w w' h0 h1 => h1 (by
    cases hc : lx.contains j with
    | false => rfl
    | true => exact absurd hno (waitsL_spec hj (List.all_eq_true.1 hL j (by simpa using hc)))) h0) fuel listed a w (Region.free_spec hi hf) (by simpa using hr) hy hS h

/-- an operation that reads no memory -/
theorem wpAnyL_pure {i : Nat} {oi : Oper} {v : Value} {fuel : Nat} {listed : Array Bool} {a : Act} {w : World} (hi : ops[i]? = some oi)
    (hs : Region.noSelect ops = true) (hf : Region.free md ops listed i = true) (hr : (Region.ready md ops listed).contains i = true)
    (hQ : ∀ c a w, Q (.panic c) (a.put oi.dst v) w → Q (.panic c) a w) (hy : YieldsIf P ops (fun _ => True) oi v a)
    (h : wpAnyL P md ops Q S lx fuel (listed.setIfInBounds i true) (a.put oi.dst v) w) : wpAnyL P md ops Q S lx (fuel + 1) listed a w :=
  wpAnyL_first (T := fun _ => True) hi (Region.noSelect_spec hs) hQ (fun _ _ _ _ _ _ _ _ => trivial) fuel listed a w (Region.free_spec hi hf) (by simpa using hr) hy trivial h

/-- whichever may come up -/
theorem wpAnyL_all {fuel : Nat} {listed : Array Bool} {a : Act} {w : World} {rs : List Nat} (hr : Region.ready md ops listed = rs) (hne : rs ≠ [])
    (h : ∀ i ∈ rs, wpOp P ops Q i (fun a' w' => (lx.contains i = false → S w → S w') ∧ wpAnyL P md ops Q S lx fuel (listed.setIfInBounds i true) a' w') a w) : wpAnyL P md ops Q S lx (fuel + 1) listed a w :=
  ⟨fun h0 => absurd (hr.symm.trans h0) hne, fun j hj => h j (by rwa [hr] at hj)⟩
theorem wpOpL {fuel : Nat} {listed : Array Bool} {i : Nat} {o : Oper} {a : Act} {w : World} (ho : ops[i]? = some o)
    (h : ∀ K' : Act → World → Prop, Shut (∀ a w', (lx.contains i = false → S w → S w') → wpAnyL P md ops Q S lx fuel (listed.setIfInBounds i true) a w' → K' a w') → if Region.wanted o (yielded ops a.tmps) = true then Oper.wp P o a w K' Q else K' (a.put o.dst undef) w) :
    wpOp P ops Q i (fun a' w' => (lx.contains i = false → S w → S w') ∧ wpAnyL P md ops Q S lx fuel (listed.setIfInBounds i true) a' w') a w :=
  wpOp_step ho (fun K' hK => h K' (fun a w hS hW => hK a w ⟨hS, hW⟩))
theorem wpAnyL_done {listed : Array Bool} {a : Act} {w : World} (hr : Region.ready md ops listed = []) (h : Q .normal a w) : ∀ fuel, wpAnyL P md ops Q S lx fuel listed a w
  | 0 => ⟨hr, h⟩
  | _ + 1 => ⟨fun _ => h, by rw [hr]; simp⟩
end
/-- the beginning -/
theorem wp_region_L {P : Program} {S : World → Prop} {ops : Array Oper} {Q : Exit → Act → World → Prop} {lx : List Nat} {id : Nat} {a : Act} {w : World} (hm : P.follows .mixedOrders = true) (hS : S w.drew)
    (h : S w.drew → wpAnyL P .any ops Q S lx ops.size (Array.replicate ops.size false) a w.drew) : (Code.region id ops true).wp P Q a w :=
  wp_region_any hm (wpAny_of_L _ _ _ _ (h hS))

end Go.Proofs
end

section
open Go.RowKit Go.Deep Go.Maps Go.ChangeMaps
namespace Go.Proofs
set_option linter.unusedVariables false
set_option linter.unusedSimpArgs false

theorem bk_laid : laidOutB Tryz.prog = true := by kernel_rfl
theorem pl_law : WideMaps.KeyLaw Tryz.prog 81 := deep_law_gate bk_laid (of_decide_eq_true (by kernel_rfl)) (of_decide_eq_true (by kernel_rfl)) (by kernel_rfl) (by kernel_rfl)
theorem pl_keyed : Keyed Tryz.prog 81 := Keyed.of_law pl_law

def pk (a i : ByteArray) : Value := .agg #[.string a, .string i]
def SzB (a : ByteArray) : Prop := a.size ≤ maxLen

theorem lit_str {d : Nat} {x : ByteArray} (hx : SzB x) : Tryz.prog.keyLits (d + 1) 9 [.string x] = some [.string x.data.toList] := by
  unfold SzB at hx
  unfold Program.keyLits
  simp only [Tryz.underlying9, hx, if_true]
theorem lit_str_inv {d : Nat} {x : Value} {l : List Lit} (h : Tryz.prog.keyLits (d + 1) 9 [x] = some l) : ∃ s, x = .string s ∧ SzB s := by
  unfold Program.keyLits at h
  simp only [Tryz.underlying9] at h
  cases x with
  | string s =>
    refine ⟨s, rfl, ?_⟩
    simp only at h
    split at h
    · assumption
    · cases h
  | _ => cases h
theorem types_succ : ∃ s, Tryz.prog.types.size = s + 1 := ⟨Tryz.prog.types.size - 1, by kernel_rfl⟩
theorem cells_str : Tryz.prog.cellsOf 9 = 1 := by kernel_rfl
theorem cells_pl : Tryz.prog.cellsOf 81 = 2 := by kernel_rfl
theorem pl_unfold (s : Nat) (x y : Value) (kx ky : Option (List Lit)) (h1 : Tryz.prog.keyLits (s + 1) 9 [x] = kx) (h2 : Tryz.prog.keyLits (s + 1) 9 [y] = ky) :
    Tryz.prog.keyLits (s + 1 + 1) 81 [x, y] = (kx.bind fun l => ky.bind fun m => some (l ++ m)) := by
  unfold Program.keyLits
  simp only [Tryz.underlying81, cells_pl]
  simp [cells_str, h1, h2]
  cases kx <;> cases ky <;> simp
theorem pl_lits {a i : ByteArray} (ha : SzB a) (hi : SzB i) : Tryz.prog.keyLits (Tryz.prog.types.size + 1) 81 [.string a, .string i] = some [.string a.data.toList, .string i.data.toList] := by
  obtain ⟨s, hs⟩ := types_succ
  rw [hs, pl_unfold s _ _ _ _ (lit_str ha) (lit_str hi)]
  rfl
theorem key_of {a i : ByteArray} (ha : SzB a) (hi : SzB i) : keyOf Tryz.prog 81 (pk a i) = some (.string (keyBytes [.string a.data.toList, .string i.data.toList])) := by
  have hk : Tryz.prog.keyType 81 = true := by kernel_rfl
  have hf : (pk a i).formed Tryz.prog 81 = true := by
    unfold pk
    simp only [Value.formed, Tryz.underlying81, cells_pl]
    rfl
  have hl := pl_lits ha hi
  unfold keyOf
  simp only [Tryz.underlying81, hk, hf, Bool.and_self, if_true]
  simp only [pk, Value.cells]
  rw [hl]
  rfl
def KL (a i : ByteArray) : Lit := .string (keyBytes [.string a.data.toList, .string i.data.toList])
theorem key_KL {a i : ByteArray} (ha : SzB a) (hi : SzB i) : keyOf Tryz.prog 81 (pk a i) = some (KL a i) := key_of ha hi
theorem KL_inj {a i b j : ByteArray} (ha : SzB a) (hi : SzB i) (hb : SzB b) (hj : SzB j) (h : KL a i = KL b j) : a = b ∧ i = j := by
  have h1 := key_KL ha hi
  rw [h] at h1
  have h2 := pl_keyed.inj h1 (key_KL hb hj)
  unfold pk at h2
  simpa using h2
theorem KL_lit (a i : ByteArray) : WideAt.IsKeyLit (KL a i) := trivial
theorem list_two : ∀ {l : List Value}, l.length = 2 → ∃ x y, l = [x, y]
  | [x, y], _ => ⟨x, y, rfl⟩
theorem arr_two {cs : Array Value} (h : cs.size = 2) : ∃ x y, cs = #[x, y] := by
  obtain ⟨x, y, e⟩ := list_two (l := cs.toList) (by simpa using h)
  exact ⟨x, y, Array.ext' e⟩
theorem key_inv {v : Value} {kl : Lit} (h : keyOf Tryz.prog 81 v = some kl) : ∃ a i, v = pk a i ∧ SzB a ∧ SzB i := by
  unfold keyOf at h
  simp only [Tryz.underlying81] at h
  split at h
  · rename_i hf
    simp only [Bool.and_eq_true] at hf
    have hf2 := hf.2
    cases v with
    | agg cs =>
      simp only [Value.formed, Tryz.underlying81, cells_pl, beq_iff_eq] at hf2
      obtain ⟨x, y, rfl⟩ := arr_two hf2
      obtain ⟨s, hs⟩ := types_succ
      have e : (Value.agg #[x, y]).cells.toList = [x, y] := rfl
      rw [hs, e, pl_unfold s x y _ _ rfl rfl] at h
      cases h1 : Tryz.prog.keyLits (s + 1) 9 [x] with
      | none => rw [h1] at h; cases h
      | some l =>
        cases h2 : Tryz.prog.keyLits (s + 1) 9 [y] with
        | none => rw [h1, h2] at h; cases h
        | some m =>
          obtain ⟨a, rfl, ha⟩ := lit_str_inv h1
          obtain ⟨b, rfl, hb⟩ := lit_str_inv h2
          exact ⟨a, b, rfl, ha, hb⟩
    | _ => simp [Value.formed, Tryz.underlying81] at hf2
  · cases h

/-! ### one entry -/
section
variable {H : Type} {P : Program} {w : World} {t k e : TypeId} {R : Value → Option (DataW H × List MemPlace)} {b n : Nat} {D : DataW H}

/-- the entry of a key, the zero laid where there was none; then any value stored in it, whatever lies elsewhere -/
theorem owns_entry (K : WideMaps.KeyLaw P k) (ht : P.underlying t = some (.map k e)) {z : Value} (hz : ∀ u : World, (zeroValue e).run P u = .ok z u) {zd : DataW H} {zp : List MemPlace} (hzd : R z = some (zd, zp))
    (h : w.ownsMap P k R b n D) (hn : n < maxLen) {key : Value} {kl : Lit} (hkey : keyOf P k key = some kl) :
    ∃ (v0 : Value) (ps : List MemPlace) (st : Nat) (w1 : World) (D1 : DataW H), (Instr.mapEntry t (.map (some b)) key).run P w = .ok (.tuple #[v0, goInt st]) w1 ∧ R v0 = some (D.atKey kl zd, ps) ∧
      w1.ownsMap P k R b (n + 1) D1 ∧ D1.atKey kl zd = D.atKey kl zd ∧ w.mapTurned w1 b ∧
      ∀ (w2 : World) (val : Value) (d : DataW H) (qs : List MemPlace), w2.heap[b]? = w1.heap[b]? → R val = some (d, qs) → ∃ w3, (Instr.entryStore t (.map (some b)) (goInt st) val).run P w2 = .ok () w3 ∧ w3.ownsMap P k R b (n + 1) (D.put kl d) ∧ w2.mapTurned w3 b := by
  have K' := Keyed.of_law K
  have hstore := fun (val : Value) (d : DataW H) (qs : List MemPlace) (hv : R val = some (d, qs)) => h.store (t := t) (e := e) K' ht hn hkey hv
  have hlook := h.lookup (t := t) (e := e) K' ht (hz w) hzd hkey
  have h0 := h
  obtain ⟨es, clock, hb, F, hs, hD⟩ := h
  obtain ⟨v0, st, es1, clock1, hrun, hv0, hst⟩ := WideElems.entry_then_store K ht hz hb F hkey
  have hb1 : (setBlock w b (.map es1 clock1)).heap[b]? = some (.map es1 clock1) := heap_setBlock_same hb _
  have hlast : ∀ (w2 : World) (val : Value) (d : DataW H) (qs : List MemPlace), w2.heap[b]? = some (.map es1 clock1) → R val = some (d, qs) → ∃ w3, (Instr.entryStore t (.map (some b)) (goInt st) val).run P w2 = .ok () w3 ∧ w3.ownsMap P k R b (n + 1) (D.put kl d) ∧ w2.mapTurned w3 b := by
    intro w2 val d qs h2 hv
    obtain ⟨es', clock', r1, r2⟩ := hst w2 val h2
    obtain ⟨w', r3, ho, _⟩ := hstore val d qs hv
    rw [r2] at r3
    cases r3
    obtain ⟨es2, clock2, g1, g2, g3, g4⟩ := ho
    rw [heap_setBlock_same hb] at g1
    cases g1
    exact ⟨_, r1, ⟨es', clock', heap_setBlock_same h2 _, g2, g3, g4⟩, ⟨es1, clock1, es', clock', h2, rfl⟩⟩
  obtain ⟨lv, lps, l1, l2⟩ := hlook
  rcases K.find w hkey es.toList F.keys with ⟨f1, f2⟩ | ⟨j, e0, f1, f2, f3⟩
  · -- a new key
    have hz' := hz w
    obtain ⟨w', m1, mo, mt⟩ := hstore z zd zp hzd
    have hv : v0 = z := by
      rcases hv0 with ⟨x, hx, hk, _⟩ | ⟨_, hv⟩
      · exact absurd hk (f2 x hx)
      · exact hv
    subst hv
    have hlz : lv = v0 := by
      simp [Instr.lookup, run_underlying ht, MapKept.run_getObj_map hb, K.check w _ hkey, f1, hz', Result.andThen] at l1
      exact l1.symm
    subst hlz
    have hat : D.atKey kl zd = zd := by
      rw [hzd] at l2
      simp only [Option.some.injEq, Prod.mk.injEq] at l2
      exact l2.1.symm
    have hup : (Instr.mapUpdate t (.map (some b)) key lv).run P w = .ok () (setBlock w b (.map es1 clock1)) := by
      simp [Instr.mapEntry, run_underlying ht, MapKept.run_getObj_map hb, K.check w false hkey, f1, hz', MapKept.run_setObj_map _ hb, Result.andThen] at hrun
      obtain ⟨_, e3⟩ := hrun
      rw [← e3]
      simp [Instr.mapUpdate, run_underlying ht, MapKept.run_getObj_map hb, K.check w false hkey, f1, MapKept.run_setObj_map _ hb, Result.andThen]
    rw [hup] at m1
    cases m1
    refine ⟨lv, lps, st, _, D.put kl zd, hrun, l2, mo, ?_, mt, fun w2 val d qs h2 hv => hlast w2 val d qs (h2.trans hb1) hv⟩
    rw [Maps.atKey_put_same h0.isMap (K'.key hkey), hat]
  · have hj : es[j]? = some e0 := by simpa using f2
    have hsame : es.modify j (fun e => { e with key := key }) = es := by
      apply Array.ext'
      rw [Array.toList_modify, modify_eq_set _ _ _ _ f2]
      have : ({ e0 with key := key } : MapEntry) = e0 := by rw [← f3]
      rw [this]
      apply List.ext_getElem?
      intro m
      rw [List.getElem?_set]
      split
      · rename_i e; subst e; split
        · exact f2.symm
        · rename_i h; exact absurd ((List.getElem?_eq_some_iff.1 f2).1) (by simpa using h)
      · rfl
    have hrun0 := hrun
    simp [Instr.mapEntry, run_underlying ht, MapKept.run_getObj_map hb, K.check w false hkey, f1, hj, f3, K.stays w hkey, hsame, MapKept.run_setObj_map _ hb, Result.andThen] at hrun
    obtain ⟨⟨hv, _⟩, hw⟩ := hrun
    subst hv
    have hw2 := congrArg (fun x : World => x.heap[b]?) hw
    simp only [hb1] at hw2
    have hlt := (Array.getElem?_eq_some_iff.1 hb).1
    rw [Array.getElem?_setIfInBounds_self_of_lt hlt] at hw2
    cases hw2
    have hlz : lv = e0.val := by
      simp [Instr.lookup, run_underlying ht, MapKept.run_getObj_map hb, K.check w _ hkey, f1, Result.andThen] at l1
      exact l1.symm
    subst hlz
    exact ⟨_, lps, st, _, D, hrun0, l2, ⟨es, clock, hb1, F, Nat.le_succ_of_le hs, hD⟩, rfl, ⟨es, clock, es, clock, hb, rfl⟩, fun w2 val d qs h2 hv => hlast w2 val d qs (h2.trans hb1) hv⟩
end

/-! ### balances -/
abbrev Bal := ByteArray → ByteArray → Int
def upd (f : Bal) (a i : ByteArray) (v : Int) : Bal := fun a' i' => if a' = a ∧ i' = i then v else f a' i'
def updB (f : ByteArray → ByteArray → Bool) (a i : ByteArray) (v : Bool) : ByteArray → ByteArray → Bool := fun a' i' => if a' = a ∧ i' = i then v else f a' i'
def iF (z : Int) : DataW Unit := .lit (.int .i64 z)
/-- block mb is a map that holds f, and an entry just where h says so -/
def BalM (w : World) (mb n : Nat) (f : Bal) (h : ByteArray → ByteArray → Bool) : Prop :=
  ∃ D : DataW Unit, w.ownsMap Tryz.prog 81 (plainElem Tryz.prog 3) mb n D ∧ ∀ a i, SzB a → SzB i → D.atKey (KL a i) (iF 0) = iF (f a i) ∧ Maps.has D (KL a i) = h a i
/-- a map from places to ints -/
def MapT (t : TypeId) : Prop := Tryz.prog.underlying t = some (.map 81 3)
theorem mapT_bal : MapT 54 := Tryz.underlying54
theorem mapT_pl : MapT 53 := Tryz.underlying53
theorem zero_int (u : World) : (zeroValue 3).run Tryz.prog u = .ok (.int .i64 0) u := by kernel_rfl
theorem elem_int {z : Int} (hz : (Lit.int .i64 z).wf = true) : plainElem (H := Unit) Tryz.prog 3 (.int .i64 z) = some (iF z, []) := plainElem_int Tryz.underlying3 hz

theorem BalM.made (w : World) : BalM (w.alloc (.map #[] 0)) w.heap.size 0 (fun _ _ => 0) (fun _ _ => false) :=
  ⟨.map [], World.ownsMap_made w _ _ _, fun a i _ _ => ⟨rfl, rfl⟩⟩
theorem BalM.mono {w mb n f h} (H : BalM w mb n f h) {n' : Nat} (hn : n ≤ n') : BalM w mb n' f h := by
  obtain ⟨D, h1, h2⟩ := H
  exact ⟨D, h1.mono hn, h2⟩
theorem BalM.lt {w mb n f h} (H : BalM w mb n f h) : mb < w.heap.size := by
  obtain ⟨D, h1, h2⟩ := H
  exact h1.lt
theorem BalM.kept {w w' : World} {mb n f h} {row : Option Nat} (H : BalM w mb n f h) (hg : w.grownBy w' row) (hne : some mb ≠ row) : BalM w' mb n f h := by
  obtain ⟨D, h1, h2⟩ := H
  exact ⟨D, h1.kept hg hne, h2⟩
theorem BalM.below {w w' : World} {mb n f h} (H : BalM w mb n f h) (hb : Below w.heap.size w w') : BalM w' mb n f h := by
  obtain ⟨D, ⟨es, clock, e1, e2⟩, h2⟩ := H
  exact ⟨D, ⟨es, clock, (hb.block mb (Array.getElem?_eq_some_iff.1 e1).1).trans e1, e2⟩, h2⟩
theorem BalM.setCell {w : World} {mb n f h} (H : BalM w mb n f h) {a : Addr} (ha : mb ≠ a.block) (u : Value) : BalM (w.setCell a u) mb n f h := by
  obtain ⟨D, h1, h2⟩ := H
  exact ⟨D, h1.setCell ha u, h2⟩
theorem BalM.obj {w : World} {mb n f h} (H : BalM w mb n f h) : ∃ es c, w.heap[mb]? = some (.map es c) := by
  obtain ⟨D, ⟨es, clock, e1, e2⟩, h2⟩ := H
  exact ⟨es, clock, e1⟩
theorem BalM.ne_cells {w : World} {mb n f h} (H : BalM w mb n f h) {b : Nat} {cs : Array Value} {e : TypeId} {q : Nat × Nat} (hb : w.heap[b]? = some (.cells cs e q)) : mb ≠ b := by
  obtain ⟨es, c, e1⟩ := H.obj
  intro h
  rw [h, hb] at e1
  cases e1

theorem iF_inj {a b : Int} (h : iF a = iF b) : a = b := by
  unfold iF at h
  simpa using h
/-- what a place has -/
theorem BalM.look {w mb n f h} (H : BalM w mb n f h) {t : TypeId} (ht : MapT t) {a i : ByteArray} (ha : SzB a) (hi : SzB i) :
    (Instr.lookup t (.map (some mb)) (pk a i) false).run Tryz.prog w = .ok (.int .i64 (f a i)) w ∧ (Lit.int .i64 (f a i)).wf = true := by
  obtain ⟨D, h1, h2⟩ := H
  obtain ⟨c, r1, r2, r3⟩ := h1.lookup_int pl_keyed ht Tryz.underlying3 (zero_int w) (key_KL ha hi)
  have e := (h2 a i ha hi).1
  unfold iF at e
  rw [e] at r2
  obtain rfl : f a i = c := by simpa using r2
  exact ⟨r1, r3⟩
theorem upd_at {D : DataW Unit} {f : Bal} {h : ByteArray → ByteArray → Bool} (hD : Maps.IsMap D) (H : ∀ a i, SzB a → SzB i → D.atKey (KL a i) (iF 0) = iF (f a i) ∧ Maps.has D (KL a i) = h a i)
    {a i : ByteArray} (ha : SzB a) (hi : SzB i) (v : Int) : ∀ a' i', SzB a' → SzB i' → (D.put (KL a i) (iF v)).atKey (KL a' i') (iF 0) = iF (upd f a i v a' i') ∧ Maps.has (D.put (KL a i) (iF v)) (KL a' i') = updB h a i true a' i' := by
  intro a' i' ha' hi'
  unfold upd updB
  by_cases e : a' = a ∧ i' = i
  · obtain ⟨rfl, rfl⟩ := e
    simp only [and_self, if_true]
    exact ⟨Maps.atKey_put_same hD (KL_lit _ _) _ _, Maps.has_put_same hD (KL_lit _ _) _⟩
  · have hne : KL a' i' ≠ KL a i := fun h => e (KL_inj ha' hi' ha hi h)
    rw [if_neg e, if_neg e, Maps.atKey_put_other hne, Maps.has_put_other hne]
    exact H a' i' ha' hi'
/-- an entry, and what is stored in it -/
theorem BalM.entry {w mb n f h} (H : BalM w mb n f h) (hn : n < maxLen) {t : TypeId} (ht : MapT t) {a i : ByteArray} (ha : SzB a) (hi : SzB i) :
    ∃ (st : Nat) (w1 : World), (Instr.mapEntry t (.map (some mb)) (pk a i)).run Tryz.prog w = .ok (.tuple #[.int .i64 (f a i), .int .i64 (st : Int)]) w1 ∧
      (Instr.lookup t (.map (some mb)) (pk a i) false).run Tryz.prog w1 = .ok (.int .i64 (f a i)) w1 ∧ w.mapTurned w1 mb ∧
      ∀ (w2 : World) (v : Int), w2.heap[mb]? = w1.heap[mb]? → (Lit.int .i64 v).wf = true → ∃ w3, (Instr.entryStore t (.map (some mb)) (.int .i64 (st : Int)) (.int .i64 v)).run Tryz.prog w2 = .ok () w3 ∧
        BalM w3 mb (n + 1) (upd f a i v) (updB h a i true) ∧ w2.mapTurned w3 mb := by
  obtain ⟨D, h1, h2⟩ := H
  obtain ⟨v0, ps, st, w1, D1, r1, r2, r3, r4, r5, r6⟩ := owns_entry pl_law ht zero_int (elem_int (z := 0) (by decide)) h1 hn (key_KL ha hi)
  rw [(h2 a i ha hi).1] at r2 r4
  obtain ⟨c, rfl, hc, hwc⟩ := plainElem_int_inv Tryz.underlying3 r2
  obtain rfl : f a i = c := by
    simp only [Prod.mk.injEq] at hc
    exact iF_inj hc.1
  obtain ⟨c2, q1, q2, q3⟩ := r3.lookup_int pl_keyed ht Tryz.underlying3 (zero_int w1) (key_KL ha hi)
  have e2 := r4
  unfold iF at e2
  rw [e2] at q2
  obtain rfl : f a i = c2 := by simpa using q2
  refine ⟨st, w1, r1, q1, r5, fun w2 v hw2 hv => ?_⟩
  obtain ⟨w3, s1, s2, s3⟩ := r6 w2 (.int .i64 v) _ _ hw2 (elem_int hv)
  exact ⟨w3, s1, ⟨_, s2, upd_at h1.isMap h2 ha hi v⟩, s3⟩
/-- struck off -/
theorem BalM.drop {w mb n f h} (H : BalM w mb n f h) {t : TypeId} (ht : MapT t) {a i : ByteArray} (ha : SzB a) (hi : SzB i) (ty : TypeId) :
    ∃ w', (Builtin.delete_ #[t, 81] ty #[.map (some mb), pk a i]).run Tryz.prog w = .ok (.tuple #[]) w' ∧ BalM w' mb n (upd f a i 0) (updB h a i false) ∧ w.mapTurned w' mb := by
  obtain ⟨D, h1, h2⟩ := H
  obtain ⟨w', r1, r2, r3⟩ := h1.drop pl_keyed ht (key_KL ha hi) ty
  refine ⟨w', r1, ⟨_, r2, fun a' i' ha' hi' => ?_⟩, r3⟩
  unfold upd updB
  by_cases e : a' = a ∧ i' = i
  · obtain ⟨rfl, rfl⟩ := e
    simp only [and_self, if_true]
    exact ⟨Maps.atKey_del_same _, Maps.has_del_same⟩
  · have hne : KL a' i' ≠ KL a i := fun h => e (KL_inj ha' hi' ha hi h)
    rw [if_neg e, if_neg e, Maps.atKey_del_other hne, Maps.has_del_other hne]
    exact h2 a' i' ha' hi'

theorem grown_drew {w w' : World} {o : Option Nat} (h : w.grownBy w' o) : w.grownBy w'.drew o := ⟨h.os, h.tape, h.output, h.size, h.block⟩
theorem grown_refl (w : World) (o : Option Nat) : w.grownBy w o := ⟨rfl, rfl, rfl, Nat.le_refl _, fun _ _ _ => rfl⟩
theorem grown_one {w w1 w2 : World} {o : Option Nat} (h : w.grownBy w1 o) (k : w1.grownBy w2 o) : w.grownBy w2 o := h.andThen k fun j hj => .inr hj
theorem grown_of_below {w w' : World} (o : Option Nat) (h : Below w.heap.size w w') : w.grownBy w' o := ⟨h.os, h.tape, h.output, h.size, fun k hk _ => h.block k hk⟩
theorem Vals.kept {w w' : World} {b : Nat} {vs : List Value} {o : Option Nat} (h : Vals w b vs) (hg : w.grownBy w' o) (hc : o ≠ some b) : Vals w' b vs := by
  have hl := h.lt
  obtain ⟨e, h⟩ := h
  exact ⟨e, (hg.block b hl (fun e => hc e.symm)).trans h⟩

/-! ### how many entries -/
theorem nodup_le {α : Type} [DecidableEq α] : ∀ (l m : List α), l.Nodup → (∀ x ∈ l, x ∈ m) → l.length ≤ m.length
  | [], _, _, _ => Nat.zero_le _
  | x :: l, m, hn, hs => by
    obtain ⟨h1, h2⟩ := List.nodup_cons.1 hn
    have hx := hs x (by simp)
    have := nodup_le l (m.erase x) h2 (fun y hy => (List.mem_erase_of_ne (fun e => h1 (by rw [← e]; exact hy))).2 (hs y (by simp [hy])))
    rw [List.length_erase_of_mem hx] at this
    have := List.length_pos_of_mem hx
    simp only [List.length_cons]
    omega
theorem nodup_same {α : Type} {l m : List α} (hl : l.Nodup) (hm : m.Nodup) (h : ∀ x, x ∈ l ↔ x ∈ m) : l.length = m.length := by
  haveI : DecidableEq α := fun a b => Classical.propDecidable (a = b)
  exact Nat.le_antisymm (nodup_le l m hl fun x hx => (h x).1 hx) (nodup_le m l hm fun x hx => (h x).2 hx)
theorem owns_keys {w : World} {mb n : Nat} {D : DataW Unit} (h : w.ownsMap Tryz.prog 81 (plainElem Tryz.prog 3) mb n D) {kl : Lit} (hh : Maps.has D kl = true) : ∃ a i, SzB a ∧ SzB i ∧ kl = KL a i := by
  obtain ⟨es, clock, hb, F, hs, rfl⟩ := h
  rw [Maps.has_eq, List.any_eq_true] at hh
  obtain ⟨p, hp, hk⟩ := hh
  rw [mem_sorted, List.mem_map] at hp
  obtain ⟨x, hx, rfl⟩ := hp
  obtain ⟨y, hy⟩ := F.reads x hx
  have h1 := WideElems.rd_key hy
  rw [WideElems.rg_of hy] at hk
  have e := WideAt.sameKey_eq hk
  subst e
  obtain ⟨a, i, h2, ha, hi⟩ := key_inv h1
  rw [h2, key_KL ha hi] at h1
  exact ⟨a, i, ha, hi, (Option.some.inj h1).symm⟩
theorem size_of_keys {w : World} {mb n : Nat} {D : DataW Unit} (h : w.ownsMap Tryz.prog 81 (plainElem Tryz.prog 3) mb n D) (L : List (ByteArray × ByteArray)) (hL : L.Nodup) (hs : ∀ p ∈ L, SzB p.1 ∧ SzB p.2)
    (hh : ∀ a i, SzB a → SzB i → (Maps.has D (KL a i) = true ↔ (a, i) ∈ L)) : Maps.size D = L.length := by
  have hk := fun kl => owns_keys h (kl := kl)
  obtain ⟨es, rfl, hpw, hlit⟩ := h.entries pl_keyed
  have e1 : (es.map (·.1)).Nodup := by
    unfold List.Nodup
    rw [List.pairwise_map]
    exact hpw
  have e2 : (L.map fun p => KL p.1 p.2).Nodup := by
    unfold List.Nodup
    rw [List.pairwise_map]
    have : L.Pairwise fun p q => p ≠ q := hL
    exact this.imp_of_mem (fun hp hq hne he => by
      obtain ⟨a1, a2⟩ := hs _ hp
      obtain ⟨b1, b2⟩ := hs _ hq
      obtain ⟨c1, c2⟩ := KL_inj a1 a2 b1 b2 he
      exact hne (Prod.ext c1 c2))
  have hm : ∀ kl, kl ∈ es.map (·.1) ↔ Maps.has (DataW.map es) kl = true := by
    intro kl
    rw [Maps.has_eq, List.any_eq_true, List.mem_map]
    constructor
    · rintro ⟨p, hp, rfl⟩
      exact ⟨p, hp, WideAt.sameKey_self (hlit p hp)⟩
    · rintro ⟨p, hp, h1⟩
      exact ⟨p, hp, WideAt.sameKey_eq h1⟩
  have h3 := nodup_same e1 e2 (fun kl => by
    rw [hm, List.mem_map]
    constructor
    · intro h1
      obtain ⟨a, i, ha, hi, rfl⟩ := hk kl h1
      exact ⟨(a, i), (hh a i ha hi).1 h1, rfl⟩
    · rintro ⟨p, hp, rfl⟩
      obtain ⟨a1, a2⟩ := hs p hp
      exact (hh p.1 p.2 a1 a2).2 hp)
  rw [List.length_map, List.length_map] at h3
  rw [Maps.size_eq]
  exact h3
end Go.Proofs
end

section
open Go.RowKit Go.Deep Go.Maps
namespace Go.Proofs
set_option linter.unusedVariables false
set_option linter.unusedSimpArgs false

/-- a move -/
structure Mv where
  f : ByteArray
  t : ByteArray
  i : ByteArray
  q : Int
def mv0 : Mv := ⟨⟨#[]⟩, ⟨#[]⟩, ⟨#[]⟩, 0⟩
def mvcl (m : Mv) : List Value := [.string m.f, .string m.t, .string m.i, .int .i64 m.q]
theorem mvcl_len (m : Mv) : (mvcl m).length = 4 := rfl
theorem mvcl_one (m : Mv) : ∀ u ∈ mvcl m, u.oneCell' = true := by
  intro u hu
  simp only [mvcl, List.mem_cons, List.not_mem_nil, or_false] at hu
  rcases hu with rfl | rfl | rfl | rfl <;> rfl
theorem info_mv : (Tryz.prog.info? 35).map (fun i => (i.zero, i.size, i.bytes)) = some (some (.agg #[.string ⟨#[]⟩, .string ⟨#[]⟩, .string ⟨#[]⟩, .int .i64 0]), 4, 56) := by kernel_rfl
/-- moves that can be read -/
def InMv (w : World) (v : Value) (L : List Mv) : Prop := ∃ ad c, v = .slice ad L.length c ∧ RdV w ad c L.length 4 (flat mvcl L)
theorem InMv.mono {w w' : World} {v : Value} {L : List Mv} (h : InMv w v L) (hb : Below w.heap.size w w') : InMv w' v L := by
  obtain ⟨ad, c, e, h⟩ := h
  exact ⟨ad, c, e, h.mono hb⟩
theorem mv_cells {w : World} {ad : Option Addr} {c n : Nat} {L : List Mv} (h : RdV w ad c n 4 (flat mvcl L)) {i : Nat} (hi : i < L.length) {X : Mv} (hX : L.getD i mv0 = X) :
    ∃ b o, ad = some ⟨b, o, none⟩ ∧ w.cell? ⟨b, o + i * 4, none⟩ = some (.string X.f) ∧ w.cell? ⟨b, o + i * 4 + 1, none⟩ = some (.string X.t) ∧ w.cell? ⟨b, o + i * 4 + 2, none⟩ = some (.string X.i) ∧ w.cell? ⟨b, o + i * 4 + 3, none⟩ = some (.int .i64 X.q) := by
  obtain ⟨b, o, e, k⟩ := RdV.at mvcl_len h (by omega) mv0 hi
  rw [hX] at k
  exact ⟨b, o, e, k 0 _ rfl, k 1 _ rfl, k 2 _ rfl, k 3 _ rfl⟩

/-- places -/
abbrev Pl := ByteArray × ByteArray
def pl0 : Pl := (⟨#[]⟩, ⟨#[]⟩)
def plc (p : Pl) : List Value := [.string p.1, .string p.2]
theorem plc_len (p : Pl) : (plc p).length = 2 := rfl
theorem plc_one (p : Pl) : ∀ u ∈ plc p, u.oneCell' = true := by
  intro u hu
  simp only [plc, List.mem_cons, List.not_mem_nil, or_false] at hu
  rcases hu with rfl | rfl <;> rfl
theorem info_pl : (Tryz.prog.info? 81).map (fun i => (i.zero, i.size, i.bytes)) = some (some (.agg #[.string ⟨#[]⟩, .string ⟨#[]⟩]), 2, 32) := by kernel_rfl
def InPl (w : World) (v : Value) (L : List Pl) : Prop := ∃ ad c, v = .slice ad L.length c ∧ RdV w ad c L.length 2 (flat plc L)
theorem InPl.mono {w w' : World} {v : Value} {L : List Pl} (h : InPl w v L) (hb : Below w.heap.size w w') : InPl w' v L := by
  obtain ⟨ad, c, e, h⟩ := h
  exact ⟨ad, c, e, h.mono hb⟩
theorem pl_cells {w : World} {ad : Option Addr} {c n : Nat} {L : List Pl} (h : RdV w ad c n 2 (flat plc L)) {i : Nat} (hi : i < L.length) {X : Pl} (hX : L.getD i pl0 = X) :
    ∃ b o, ad = some ⟨b, o, none⟩ ∧ w.cell? ⟨b, o + i * 2, none⟩ = some (.string X.1) ∧ w.cell? ⟨b, o + i * 2 + 1, none⟩ = some (.string X.2) := by
  obtain ⟨b, o, e, k⟩ := RdV.at plc_len h (by omega) pl0 hi
  rw [hX] at k
  exact ⟨b, o, e, k 0 _ rfl, k 1 _ rfl⟩
/-- the places of the first k moves -/
def plsN (L : List Mv) : Nat → List Pl
  | 0 => []
  | k + 1 => plsN L k ++ [((L.getD k mv0).f, (L.getD k mv0).i), ((L.getD k mv0).t, (L.getD k mv0).i)]
theorem plsN_len (L : List Mv) : ∀ k, (plsN L k).length = 2 * k
  | 0 => rfl
  | k + 1 => by rw [plsN, List.length_append, plsN_len L k]; simp; omega

/-- new memory of a row -/
theorem rd_new {α : Type} {f : α → List Value} {k : Nat} (hk : ∀ x, (f x).length = k) (w : World) (e : TypeId) (L : List α) (vs : Array Value) (hv : vs = (flat f L).toArray) (hm : L.length ≤ maxLen) :
    RdV (w.alloc (.cells vs e)) (some ⟨w.heap.size, 0, none⟩) L.length L.length k (flat f L) := by
  have := ownsRow_lit w e k L.length (flat f L) vs hv (flat_length hk L) hm
  exact (ownsRow_rds this).1

set_option maxRecDepth 100000 in
set_option maxHeartbeats 2000000 in
theorem places_calls (L : List Mv) (v : Value) (w : World) (hv : InMv w v L) (hl : L.length ≤ 1000) :
    Calls Tryz.prog 52 #[v] w fun e w' => ∃ v', e = .returned v' ∧ InPl w' v' (plsN L L.length) ∧ Below w.heap.size w w' := by
  obtain ⟨ad, c, rfl, rd⟩ := hv
  have LP := rd.2.1
  have LP2 := rd.2.2.1
  unfold maxLen at LP2
  obtain ⟨n, hn⟩ : ∃ n, L.length = n := ⟨_, rfl⟩
  rw [hn] at LP rd hl ⊢
  have HN := Lib.hid hn
  clear hn
  go_enter Tryz.func52, Tryz.ntmps52
  go_wp2
  go_loopw [3, 8] (fun ov iv wr => ∃ i : Nat, iv = .int .i64 (i : Int) ∧ i ≤ n ∧ (∃ a c, ov = .slice a (plsN L i).length c) ∧ wr.ownsRow w.heap.size 81 2 ov (plsN L i).length (flat plc (plsN L i)) ∧ Below w.heap.size w wr)
    (fun _ iv _ => n - (intOf iv).toNat)
  case atStart => exact ⟨0, rfl, Nat.zero_le _, ⟨_, _, rfl⟩, ownsRow_nil _ _ _ _, Below.refl _ _⟩
  case round =>
    obtain ⟨i, rfl, hi, ⟨oa, oc, rfl⟩, hown, B⟩ := hrel
    have rdx := rd.mono B
    obtain ⟨m, hm⟩ : ∃ m, (plsN L i).length = m := ⟨_, rfl⟩
    have hm2 := hm
    rw [plsN_len] at hm2
    rw [hm] at hown ⊢
    have HM := Lib.hid hm
    have HM2 := Lib.hid hm2
    clear hm hm2
    by_cases h1 : i < n
    · have hip : i < L.length := by rw [HN.out]; exact h1
      obtain ⟨X, hX⟩ : ∃ X, L.getD i mv0 = X := ⟨_, rfl⟩
      obtain ⟨b, o, rfl, c0, c1, c2, c3⟩ := mv_cells rdx hip hX
      have HX := Lib.hid hX
      have i0 : (0 : Int) ≤ (i : Int) := by omega
      have i1 : (i : Int) < (n : Int) := by omega
      clear rdx hX
      go_upto_region 5 with (fail)
      have vm := Vals.newL wr wr.heap.size (mvcl X) 35 rfl
      have bm := below_alloc wr (.cells (mvcl X).toArray 35)
      unfold mvcl at vm bm
      have B1 := below_trans B bm
      have hown1 := ownsRow_mono hown bm
      clear hown c0 c1 c2 c3
      have sz1 := bm.size
      clear bm
      generalize wr.alloc (.cells #[.string X.f, .string X.t, .string X.i, .int .i64 X.q] 35) = w1 at *
      have x0 := vm.cell (i := 0) (by simp)
      have x1 := vm.cell (i := 1) (by simp)
      have x2 := vm.cell (i := 2) (by simp)
      simp only [List.getD_cons_zero, List.getD_cons_succ] at x0 x1 x2
      have lv := vm.lt
      have bz := below_alloc w1 (.cells #[.string X.f, .string X.i, .string X.t, .string X.i] 81)
      have hrd := rd_new plc_len w1 81 [(X.f, X.i), (X.t, X.i)] #[.string X.f, .string X.i, .string X.t, .string X.i] rfl (by unfold maxLen; simp)
      have HRD := Lib.hid hrd
      have HO := Lib.hid (ownsRow_mono hown1 bz)
      have hws := B1.size
      have HB1 := Lib.hid (B1.trans (bz.mono B1.size))
      have hwz : w.heap.size ≤ (w1.alloc (.cells #[.string X.f, .string X.i, .string X.t, .string X.i] 81)).heap.size := Nat.le_trans hws bz.size
      have h2 := HM2.out
      have ha : flat plc (plsN L (i + 1)) = flat plc (plsN L i) ++ flat plc [(X.f, X.i), (X.t, X.i)] := by rw [plsN, flat_append, HX.out]
      have HA := Lib.hid ha
      have hm3 : (plsN L (i + 1)).length = m + 2 := by rw [plsN_len]; omega
      have HM3 := Lib.hid hm3
      clear hrd hown1 bz B1 B hm3 ha h2
      go_wp2_with (at_builtin; refine wpList_append_rv rfl (.tmp 12) (.tmp 23) _ rfl w.heap.size 81 _ 2 32 Tryz.underlying109 info_pl rfl (by decide) _ m _ rfl HO.out _ 2 2 _ rfl HRD.out (flat_one plc_one _) (by have := HM2.out; unfold maxLen; omega) (by have := HM2.out; omega) hwz (m + 2) rfl _ HA.out ?_; intro ad2 c2 w7 hown7 hg7 hn7 hb7 hk7; have O7 := Lib.hid hown7; have B7 := Lib.hid (HB1.out.trans hb7); clear hown7 hg7 hn7 hb7 hk7)
      go_roundw
      case rel => exact ⟨i + 1, by go_num, by omega, ⟨ad2, c2, by rw [HM3.out]⟩, by rw [HM3.out]; exact O7.out, B7.out⟩
      case measure => simp [intOf]; omega
    · obtain rfl : i = n := by omega
      go_wp2
      go_ret
      obtain ⟨r1, -⟩ := ownsRow_rds hown
      exact ⟨.slice oa m oc, rfl, ⟨oa, oc, by rw [HM.out], by rw [HM.out]; exact r1⟩, B⟩
end Go.Proofs
end

