/- Rows of values, k cells an element, that a call made itself; what is read of a slice of such elements. -/
import Derived.Test.YthkeekoljediiaaBase
import Derived.Below
import Derived.Deep.QuietTactic
import Derived.Deep.AppendLies
open Go.RowKit
namespace Go.Proofs
set_option linter.unusedVariables false
set_option linter.unusedSimpArgs false

def flat {α : Type} (f : α → List Value) : List α → List Value
  | [] => []
  | x :: L => f x ++ flat f L
theorem flat_append {α : Type} (f : α → List Value) : ∀ L M, flat f (L ++ M) = flat f L ++ flat f M
  | [], M => rfl
  | x :: L, M => by simp only [flat, List.cons_append, flat_append f L M, List.append_assoc]
theorem flat_length {α : Type} {f : α → List Value} {k : Nat} (hk : ∀ x, (f x).length = k) : ∀ L, (flat f L).length = L.length * k
  | [] => by simp [flat]
  | x :: L => by simp only [flat, List.length_append, List.length_cons, flat_length hk L, hk x, Nat.succ_mul]; omega
theorem flat_get {α : Type} {f : α → List Value} {k : Nat} (hk : ∀ x, (f x).length = k) (d : α) : ∀ (L : List α) (i : Nat), i < L.length → ∀ j, j < k → (flat f L)[i * k + j]? = (f (L.getD i d))[j]?
  | [], i, h, _, _ => by simp at h
  | x :: L, 0, h, j, hj => by
    rw [Nat.zero_mul, Nat.zero_add, List.getD_cons_zero]
    simp only [flat]
    rw [List.getElem?_append_left (by rw [hk]; exact hj)]
  | x :: L, i + 1, h, j, hj => by
    have := flat_get hk d L i (by simpa using h) j hj
    rw [List.getD_cons_succ, ← this]
    simp only [flat]
    rw [List.getElem?_append_right (by rw [hk, Nat.succ_mul]; omega), hk]
    congr 1
    rw [Nat.succ_mul]; omega
theorem flat_one {α : Type} {f : α → List Value} (h1 : ∀ x, ∀ u ∈ f x, u.oneCell' = true) : ∀ (L : List α), ∀ u ∈ flat f L, u.oneCell' = true
  | [], u, h => by cases h
  | x :: L, u, h => by
    simp only [flat, List.mem_append] at h
    rcases h with h | h
    · exact h1 x u h
    · exact flat_one h1 L u h

/-- n elements of k cells each that can be read -/
def RdV (w : World) (ad : Option Addr) (c n k : Nat) (cs : List Value) : Prop :=
  cs.length = n * k ∧ n ≤ c ∧ c ≤ maxLen ∧ (c = 0 ∨ ∃ b o, ad = some ⟨b, o, none⟩ ∧ ∀ j u, cs[j]? = some u → w.cell? ⟨b, o + j, none⟩ = some u)
theorem cell_ltV {w : World} {a : Addr} {v : Value} (h : w.cell? a = some v) : a.block < w.heap.size := by
  by_cases hb : a.block < w.heap.size
  · exact hb
  · have e : w.heap[a.block]? = none := by simp; omega
    simp [World.cell?, e] at h
theorem RdV.mono {w w' : World} {ad c n k cs} (h : RdV w ad c n k cs) (hb : Below w.heap.size w w') : RdV w' ad c n k cs := by
  obtain ⟨h1, h2, h3, h4⟩ := h
  refine ⟨h1, h2, h3, ?_⟩
  rcases h4 with h4 | ⟨b, o, rfl, h4⟩
  · exact .inl h4
  · exact .inr ⟨b, o, rfl, fun j u hj => (hb.cell (cell_ltV (h4 j u hj))).trans (h4 j u hj)⟩
theorem RdV.drew {w : World} {ad c n k cs} (h : RdV w ad c n k cs) : RdV w.drew ad c n k cs := h
theorem RdV.take {w : World} {ad c n k cs} (h : RdV w ad c n k cs) (m : Nat) (hm : m ≤ n) : RdV w ad c m k (cs.take (m * k)) := by
  obtain ⟨h1, h2, h3, h4⟩ := h
  have hmk : m * k ≤ n * k := Nat.mul_le_mul_right k hm
  refine ⟨by rw [List.length_take]; omega, by omega, h3, ?_⟩
  rcases h4 with h4 | ⟨b, o, rfl, h4⟩
  · exact .inl h4
  · refine .inr ⟨b, o, rfl, fun j u hj => h4 j u ?_⟩
    rw [List.getElem?_take] at hj
    split at hj
    · exact hj
    · cases hj
/-- the cells of an element -/
theorem RdV.at {α : Type} {f : α → List Value} {w : World} {ad : Option Addr} {c n k : Nat} {L : List α} (hk : ∀ x, (f x).length = k) (h : RdV w ad c n k (flat f L)) (hk0 : 0 < k) (d : α) {i : Nat} (hi : i < L.length) :
    ∃ b o, ad = some ⟨b, o, none⟩ ∧ ∀ j u, (f (L.getD i d))[j]? = some u → w.cell? ⟨b, o + (i * k + j), none⟩ = some u := by
  obtain ⟨h1, h2, h3, h4⟩ := h
  rw [flat_length hk] at h1
  have h5 : L.length = n := Nat.eq_of_mul_eq_mul_right hk0 h1
  rcases h4 with h4 | ⟨b, o, rfl, h4⟩
  · omega
  · refine ⟨b, o, rfl, fun j u hj => ?_⟩
    have hj2 : j < k := by
      have := (List.getElem?_eq_some_iff.1 hj).1
      rwa [hk] at this
    exact h4 _ u (by rw [flat_get hk d L i hi j hj2]; exact hj)

theorem getD_of {l : List Value} {i : Nat} {u : Value} (h : l[i]? = some u) : l.getD i undef = u := by simp [List.getD, h]
/-- cells of rows of 2 and of 4 -/
theorem RdV.of2 {α : Type} {f : α → List Value} (hk : ∀ x, (f x).length = 2) {w : World} {ad : Option Addr} {c : Nat} {L : List α} (d : α) (hc : L.length ≤ c) (hm : c ≤ maxLen)
    (h : c = 0 ∨ ∃ b o, ad = some ⟨b, o, none⟩ ∧ ∀ i, i < L.length → w.cell? ⟨b, o + i * 2, none⟩ = some ((f (L.getD i d)).getD 0 undef) ∧ w.cell? ⟨b, o + i * 2 + 1, none⟩ = some ((f (L.getD i d)).getD 1 undef)) : RdV w ad c L.length 2 (flat f L) := by
  refine ⟨flat_length hk L, hc, hm, ?_⟩
  rcases h with h | ⟨b, o, rfl, h⟩
  · exact .inl h
  · refine .inr ⟨b, o, rfl, fun j u hj => ?_⟩
    have hlt := (List.getElem?_eq_some_iff.1 hj).1
    rw [flat_length hk] at hlt
    obtain ⟨i, r, hr, rfl⟩ : ∃ i r, r < 2 ∧ j = i * 2 + r := ⟨j / 2, j % 2, by omega, by omega⟩
    have hi : i < L.length := by omega
    rw [flat_get hk d L i hi r hr] at hj
    obtain ⟨h0, h1⟩ := h i hi
    rcases (show r = 0 ∨ r = 1 by omega) with rfl | rfl
    · rw [Nat.add_zero, h0]; rw [getD_of hj]
    · rw [← Nat.add_assoc, h1]; rw [getD_of hj]
theorem RdV.of4 {α : Type} {f : α → List Value} (hk : ∀ x, (f x).length = 4) {w : World} {ad : Option Addr} {c : Nat} {L : List α} (d : α) (hc : L.length ≤ c) (hm : c ≤ maxLen)
    (h : c = 0 ∨ ∃ b o, ad = some ⟨b, o, none⟩ ∧ ∀ i, i < L.length → w.cell? ⟨b, o + i * 4, none⟩ = some ((f (L.getD i d)).getD 0 undef) ∧ w.cell? ⟨b, o + i * 4 + 1, none⟩ = some ((f (L.getD i d)).getD 1 undef) ∧
      w.cell? ⟨b, o + i * 4 + 2, none⟩ = some ((f (L.getD i d)).getD 2 undef) ∧ w.cell? ⟨b, o + i * 4 + 3, none⟩ = some ((f (L.getD i d)).getD 3 undef)) : RdV w ad c L.length 4 (flat f L) := by
  refine ⟨flat_length hk L, hc, hm, ?_⟩
  rcases h with h | ⟨b, o, rfl, h⟩
  · exact .inl h
  · refine .inr ⟨b, o, rfl, fun j u hj => ?_⟩
    have hlt := (List.getElem?_eq_some_iff.1 hj).1
    rw [flat_length hk] at hlt
    obtain ⟨i, r, hr, rfl⟩ : ∃ i r, r < 4 ∧ j = i * 4 + r := ⟨j / 4, j % 4, by omega, by omega⟩
    have hi : i < L.length := by omega
    rw [flat_get hk d L i hi r hr] at hj
    obtain ⟨h0, h1, h2, h3⟩ := h i hi
    rcases (show r = 0 ∨ r = 1 ∨ r = 2 ∨ r = 3 by omega) with rfl | rfl | rfl | rfl
    · rw [Nat.add_zero, h0]; rw [getD_of hj]
    · rw [← Nat.add_assoc, h1]; rw [getD_of hj]
    · rw [← Nat.add_assoc, h2]; rw [getD_of hj]
    · rw [← Nat.add_assoc, h3]; rw [getD_of hj]

theorem ownsRow_block {w : World} {B e k : Nat} {v : Value} {n : Nat} {cs : List Value} (h : w.ownsRow B e k v n cs) : ∀ b, v.ownBlock = some b → B ≤ b ∧ b < w.heap.size := by
  intro b hb
  obtain ⟨hl, h1⟩ := h
  rcases h1 with ⟨rfl, _⟩ | ⟨g, cap, cur, rfl, hg, hh, r⟩
  · cases hb
  · cases hb
    exact ⟨hg, lt_of_block hh⟩
theorem ownsRow_mono {w w' : World} {B e k : Nat} {v : Value} {n : Nat} {cs : List Value} (h : w.ownsRow B e k v n cs) (hb : Below w.heap.size w w') : w'.ownsRow B e k v n cs := by
  have hk := ownsRow_block h
  obtain ⟨hl, h1⟩ := h
  refine ⟨hl, ?_⟩
  rcases h1 with h1 | ⟨g, cap, cur, rfl, hg, hh, r⟩
  · exact .inl h1
  · refine .inr ⟨g, cap, cur, rfl, hg, ?_, r⟩
    rw [hb.block g (hk g rfl).2]
    exact hh
theorem ownsRow_form {w : World} {B e k : Nat} {v : Value} {n : Nat} {cs : List Value} (h : w.ownsRow B e k v n cs) : ∃ ad c, v = .slice ad n c := by
  obtain ⟨hl, h1⟩ := h
  rcases h1 with ⟨rfl, h2⟩ | ⟨g, cap, cur, rfl, hg, hh, r⟩
  · exact ⟨none, 0, by rw [h2]⟩
  · exact ⟨_, _, rfl⟩
theorem ownsRow_other {w : World} {B e k : Nat} {v : Value} {n : Nat} {cs : List Value} (h : w.ownsRow B e k v n cs) (p : Addr) (hp : v.ownBlock ≠ some p.block) (u : Value) : (w.setCell p u).ownsRow B e k v n cs := by
  obtain ⟨hl, h1⟩ := h
  refine ⟨hl, ?_⟩
  rcases h1 with h1 | ⟨g, cap, cur, rfl, hg, hh, r⟩
  · exact .inl h1
  · refine .inr ⟨g, cap, cur, rfl, hg, ?_, r⟩
    rw [Below.heap_setCell _ _ _ _ (show g ≠ p.block from fun e => hp (by rw [← e]; rfl))]
    exact hh
theorem ownsRow_drew {w : World} {B e k : Nat} {v : Value} {n : Nat} {cs : List Value} (h : w.ownsRow B e k v n cs) : w.drew.ownsRow B e k v n cs := h
theorem ownsRow_nil (w : World) (B e k : Nat) : w.ownsRow B e k (.slice none 0 0) 0 [] := ⟨by simp, .inl ⟨rfl, rfl⟩⟩
theorem ownsRow_rd {w : World} {B e k : Nat} {v : Value} {n : Nat} {cs : List Value} (h : w.ownsRow B e k v n cs) : ∃ ad c, v = .slice ad n c ∧ RdV w ad c n k cs ∧ ∀ a, ad = some a → B ≤ a.block := by
  obtain ⟨hl, h1⟩ := h
  rcases h1 with ⟨rfl, h2⟩ | ⟨g, cap, cur, rfl, hg, hh, hn, hc, hs, ht⟩
  · subst h2
    refine ⟨none, 0, rfl, ⟨hl, Nat.le_refl _, by unfold maxLen; omega, .inl rfl⟩, fun a ha => by cases ha⟩
  · refine ⟨_, _, rfl, ⟨hl, hn, hc, .inr ⟨g, 0, rfl, fun j u hj => ?_⟩⟩, fun a ha => by cases ha; exact hg⟩
    rw [← ht, List.getElem?_take] at hj
    split at hj
    · simp only [World.cell?, hh, Nat.zero_add]
      simpa using hj
    · cases hj
theorem ownsRow_rds {w : World} {B e k : Nat} {ad : Option Addr} {n c : Nat} {cs : List Value} (h : w.ownsRow B e k (.slice ad n c) n cs) : RdV w ad c n k cs ∧ ∀ a, ad = some a → B ≤ a.block := by
  obtain ⟨ad', c', e1, h1, h2⟩ := ownsRow_rd h
  cases e1
  exact ⟨h1, h2⟩
/-- an empty row that is not nil -/
theorem ownsRow_made (w : World) (e k : Nat) : (w.alloc (.cells #[] e)).ownsRow w.heap.size e k (.slice (some ⟨w.heap.size, 0, none⟩) 0 0) 0 [] :=
  ⟨by simp, .inr ⟨w.heap.size, 0, #[], rfl, Nat.le_refl _, heap_alloc_new w _, Nat.le_refl _, by unfold maxLen; omega, by simp, by simp⟩⟩
/-- a row written down -/
theorem ownsRow_lit (w : World) (e k n : Nat) (cs : List Value) (vs : Array Value) (hv : vs = cs.toArray) (hl : cs.length = n * k) (hm : n ≤ maxLen) : (w.alloc (.cells vs e)).ownsRow w.heap.size e k (.slice (some ⟨w.heap.size, 0, none⟩) n n) n cs :=
  ⟨hl, .inr ⟨w.heap.size, n, vs, rfl, Nat.le_refl _, heap_alloc_new w _, Nat.le_refl _, hm, by subst hv; simpa using hl, by subst hv; rw [← hl]; simp⟩⟩
theorem add_offV (b o j : Nat) : (⟨b, o, none⟩ : Addr).add j = ⟨b, o + j, none⟩ := by
  unfold Addr.add; split <;> simp_all

/-- append of what can be read to a row of the call's own -/
theorem run_append_rv {P : Program} {w : World} (B : Nat) (t ty e : TypeId) (i : TypeInfo) (z : Value) (k bytes : Nat) (ht : P.underlying t = some (.slice e)) (hi : P.info? e = some i) (hz : i.zero = some z)
    (hsize : i.size = k) (hby : i.bytes = bytes) (hzs : z.cells.size = k) (hsz : 0 < k)
    (v : Value) (n : Nat) (cs : List Value) (hown : w.ownsRow B e k v n cs) (ad : Option Addr) (m c : Nat) (news : List Value) (hrd : RdV w ad c m k news) (h1 : ∀ u ∈ news, u.oneCell' = true)
    (h63 : n + m ≤ maxLen) (hbytes : (n + m) * bytes ≤ 140737488355328) (hB : B ≤ w.heap.size) :
    ∃ v' w', (Builtin.append_ #[t, t] ty #[v, .slice ad m c]).run P w = .ok v' w' ∧ w'.ownsRow B e k v' (n + m) (cs ++ news) ∧ w.grownBy w' v.ownBlock ∧ (v' = .slice none 0 0 → v = .slice none 0 0) ∧ (v'.ownBlock = v.ownBlock ∨ v'.ownBlock = some w.heap.size) := by
  obtain ⟨h3, h4, h5, h6⟩ := hrd
  rcases h6 with rfl | ⟨b, o, rfl, h6⟩
  · have hm0 : m = 0 := by omega
    subst hm0
    have hn0 : news = [] := List.eq_nil_of_length_eq_zero (by rw [h3, Nat.zero_mul])
    subst hn0
    cases ad with
    | none =>
      refine ⟨v, w, run_append_owned_none (P := P) (w := w) B t ty e i k ht hi v n cs hown, by rw [List.append_nil]; exact hown, ?_, fun h => h, .inl rfl⟩
      exact ⟨rfl, rfl, rfl, Nat.le_refl _, fun _ _ _ => rfl⟩
    | some x =>
      obtain ⟨v', w', hr, ho, hg, hn, hk⟩ := run_append_own_at (P := P) w B t ty e i z k bytes ht hi hz hsize hby hzs hsz v n cs hown x 0 0 [] h3 (fun j u hj => by cases hj) h1 h63 hbytes hB
      exact ⟨v', w', hr, ho, hg, fun h => (hn.1 h).1, hk⟩
  · obtain ⟨v', w', hr, ho, hg, hn, hk⟩ := run_append_own_at (P := P) w B t ty e i z k bytes ht hi hz hsize hby hzs hsz v n cs hown ⟨b, o, none⟩ m c news h3 (fun j u hj => by rw [add_offV]; exact h6 j u hj) h1 h63 hbytes hB
    exact ⟨v', w', hr, ho, hg, fun h => (hn.1 h).1, hk⟩

theorem grown_below {w w' : World} {B e k : Nat} {v : Value} {n : Nat} {cs : List Value} (hown : w.ownsRow B e k v n cs) (hB : B ≤ w.heap.size) (hg : w.grownBy w' v.ownBlock) : Below B w w' :=
  (Below.refl _ _).grown hg hB fun b hb => (ownsRow_block hown b hb).1

/-- what the append leaves, for whatever goes on -/
def AfterApp (w : World) (B e k : Nat) (v : Value) (q : Nat) (cs : List Value) (K : Value → World → Prop) : Prop :=
  ∀ ad c w', w'.ownsRow B e k (.slice ad q c) q cs → w.grownBy w' v.ownBlock → (ad = none → c = 0 → q = 0 → v = .slice none 0 0) → Below B w w' → ((Value.slice ad q c).ownBlock = v.ownBlock ∨ (Value.slice ad q c).ownBlock = some w.heap.size) → K (.slice ad q c) w'

theorem wp_append_rv {P : Program} {w : World} {o : Oper} {a : Act} {K : Act → World → Prop} {Q : Exit → Act → World → Prop} (s x : Operand) (t : TypeId)
    (ho : o.op = .call { callee := .builtin .append, args := #[s, x], argTypes := #[t, t] })
    (B : Nat) (e : TypeId) (z : Value) (k bytes : Nat) (ht : P.underlying t = some (.slice e)) (h2 : (P.info? e).map (fun i => (i.zero, i.size, i.bytes)) = some (some z, k, bytes)) (hzs : z.cells.size = k) (hsz : 0 < k)
    (v : Value) (n : Nat) (cs : List Value) (hs : a.eval s = v) (hown : w.ownsRow B e k v n cs) (ad : Option Addr) (m c : Nat) (news : List Value) (hx : a.eval x = .slice ad m c) (hrd : RdV w ad c m k news) (h1 : ∀ u ∈ news, u.oneCell' = true)
    (h63 : n + m ≤ maxLen) (hbytes : (n + m) * bytes ≤ 140737488355328) (hB : B ≤ w.heap.size) (q : Nat) (hq : q = n + m) (all : List Value) (hall : all = cs ++ news)
    (h : AfterApp w B e k v q all (fun v' w' => K (a.put o.dst v') w')) : o.wp P a w K Q := by
  subst hq
  subst hall
  obtain ⟨i, hi, z0, z1, z2⟩ := info_parts h2
  obtain ⟨v', w', hr, h3, h4, h5, h6⟩ := run_append_rv (P := P) B t o.type e i z k bytes ht hi z0 z1 z2 hzs hsz v n cs hown ad m c news hrd h1 h63 hbytes hB
  obtain ⟨ad', c', rfl⟩ := ownsRow_form h3
  unfold Oper.wp execOp
  simp only [ho, resolve, invoke, builtin, Sem.run_bind, Sem.run_pure, Result.andThen_ok, List.map_toArray, List.map_cons, List.map_nil, hs, hx, hr]
  exact h ad' c' w' h3 h4 (fun h6 h7 h8 => h5 (by rw [h6, h7, h8])) (grown_below hown hB h4) h6

theorem wpList_append_rv {P : Program} {w : World} {ops : Array Oper} {rest : List Oper} {o : Oper} {a : Act} {Q : Exit → Act → World → Prop} (hgd : o.guard = none) (s x : Operand) (t : TypeId)
    (ho : o.op = .call { callee := .builtin .append, args := #[s, x], argTypes := #[t, t] })
    (B : Nat) (e : TypeId) (z : Value) (k bytes : Nat) (ht : P.underlying t = some (.slice e)) (h2 : (P.info? e).map (fun i => (i.zero, i.size, i.bytes)) = some (some z, k, bytes)) (hzs : z.cells.size = k) (hsz : 0 < k)
    (v : Value) (n : Nat) (cs : List Value) (hs : a.eval s = v) (hown : w.ownsRow B e k v n cs) (ad : Option Addr) (m c : Nat) (news : List Value) (hx : a.eval x = .slice ad m c) (hrd : RdV w ad c m k news) (h1 : ∀ u ∈ news, u.oneCell' = true)
    (h63 : n + m ≤ maxLen) (hbytes : (n + m) * bytes ≤ 140737488355328) (hB : B ≤ w.heap.size) (q : Nat) (hq : q = n + m) (all : List Value) (hall : all = cs ++ news)
    (h : AfterApp w B e k v q all (fun v' w' => wpList P ops Q rest (a.put o.dst v') w')) : wpList P ops Q (o :: rest) a w :=
  wpList_plain hgd fun _ hK => wp_append_rv s x t ho B e z k bytes ht h2 hzs hsz v n cs hs hown ad m c news hx hrd h1 h63 hbytes hB q hq all hall fun ad' c' w' h3 h4 h5 h6 h7 => hK _ _ (h ad' c' w' h3 h4 h5 h6 h7)

theorem step_append_rv {P : Program} {w : World} {ops : Array Oper} {o : Oper} {a : Act} {K : Act → World → Prop} {Q : Exit → Act → World → Prop} {E : Prop} (hgd : o.guard = none) (s x : Operand) (t : TypeId)
    (ho : o.op = .call { callee := .builtin .append, args := #[s, x], argTypes := #[t, t] })
    (B : Nat) (e : TypeId) (z : Value) (k bytes : Nat) (ht : P.underlying t = some (.slice e)) (h2 : (P.info? e).map (fun i => (i.zero, i.size, i.bytes)) = some (some z, k, bytes)) (hzs : z.cells.size = k) (hsz : 0 < k)
    (v : Value) (n : Nat) (cs : List Value) (hs : a.eval s = v) (hown : w.ownsRow B e k v n cs) (ad : Option Addr) (m c : Nat) (news : List Value) (hx : a.eval x = .slice ad m c) (hrd : RdV w ad c m k news) (h1 : ∀ u ∈ news, u.oneCell' = true)
    (h63 : n + m ≤ maxLen) (hbytes : (n + m) * bytes ≤ 140737488355328) (hB : B ≤ w.heap.size) (q : Nat) (hq : q = n + m) (all : List Value) (hall : all = cs ++ news)
    (h : AfterApp w B e k v q all (fun v' w' => K (a.put o.dst v') w')) : if Region.wanted o (yielded ops a.tmps) = true then Oper.wp P o a w K Q else E := by
  have hw : Region.wanted o (yielded ops a.tmps) = true := by simp [Region.wanted, hgd]
  rw [if_pos hw]
  exact wp_append_rv s x t ho B e z k bytes ht h2 hzs hsz v n cs hs hown ad m c news hx hrd h1 h63 hbytes hB q hq all hall h

end Go.Proofs
