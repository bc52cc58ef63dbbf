/- For NatOwn: slices that share no memory, kept in a row of slices. -/
import Derived.Test.YtbpkobjiinkpoaaMore
import Derived.Test.YtbpkobjiinkpoaaGcd
import Derived.Test.YtbpkobjiinkpoaaPow
import Derived.Test.YtbpkobjiinkpoaaRootLaw
import Derived.Test.YtbpkobjiinkpoaaRowsV
import Derived.Test.YtbpkobjiinkpoaaVals
open Go.RowKit
namespace Go.Proofs
set_option linter.unusedVariables false
set_option linter.unusedSimpArgs false

/-- the call returns some new slice of limbs, and changes nothing that was there -/
def RetSome (w : World) (e : Ending) (w' : World) : Prop :=
  ∃ v er xs, e = .returned (.tuple #[v, .int .i64 er]) ∧ xs.length ≤ 1000 ∧ Raw w' v xs ∧ Fresh w.heap.size v ∧ Below w.heap.size w w'
theorem some_got {w : World} {n : Nat} {er : Int} {e : Ending} {w' : World} (hl : (limbs n).length ≤ 1000) (h : Got w n er e w') : RetSome w e w' := by
  obtain ⟨v, rfl, hn, hf, hb⟩ := h
  exact ⟨v, er, _, rfl, hl, hn.raw, hf, hb⟩
theorem zero_len : (limbs 0).length ≤ 1000 := by rw [limbs_zero]; exact Nat.zero_le _
theorem len_of_le {a b : Nat} (h : a ≤ b) (hb : (limbs b).length ≤ 20) : (limbs a).length ≤ 1000 := by have := limbs_length_mono h; omega
def RetSome2 (w : World) (e : Ending) (w' : World) : Prop :=
  ∃ v u er xs ys, e = .returned (.tuple #[v, u, .int .i64 er]) ∧ xs.length ≤ 1000 ∧ ys.length ≤ 1000 ∧ Raw w' v xs ∧ Raw w' u ys ∧ Fresh w.heap.size v ∧ Fresh w.heap.size u ∧ Sep v u ∧ Below w.heap.size w w'
theorem raw_nil (w : World) : Raw w (.slice none 0 0) [] := ⟨none, 0, rfl, Nat.le_refl _, (by unfold maxLen; omega), (fun x hx => nomatch hx), .inl ⟨rfl, rfl⟩⟩

section
variable (v1 v2 : Value) (a b : Nat) (w : World) (h1 : Num w v1 a) (h2 : Num w v2 b) (ha : (limbs a).length ≤ 20) (hb : (limbs b).length ≤ 20)
include h1 h2 ha hb
theorem some_add : Calls Try.prog 23 #[v1, v2] w (RetSome w) :=
  (add_ok v1 v2 a b w h1 h2 ⟨by omega, by omega, by have := limbs_length_add a b; omega⟩).mono fun _ _ h => some_got (by have := limbs_length_add a b; omega) h
theorem some_sub : Calls Try.prog 24 #[v1, v2] w (RetSome w) := by
  by_cases h : b ≤ a
  · exact (sub_ok v1 v2 a b w h1 h2 ⟨by omega, by omega⟩ h).mono fun _ _ h => some_got (len_of_le (Nat.sub_le a b) ha) h
  · exact (sub_low v1 v2 a b w h1 h2 ⟨by omega, by omega⟩ (by omega)).mono fun _ _ h => some_got zero_len h
theorem some_mul : Calls Try.prog 25 #[v1, v2] w (RetSome w) :=
  (mul_ok v1 v2 a b w h1 h2 (by omega)).mono fun _ _ h => some_got (by have := limbs_length_mul a b; omega) h
theorem some_divmod : Calls Try.prog 26 #[v1, v2] w (RetSome2 w) := by
  by_cases h : b = 0
  · subst h
    refine (divmod_zero v1 v2 a w h1 h2 (by omega)).mono ?_
    rintro e w' ⟨rfl, hbl⟩
    exact ⟨_, _, _, [], [], rfl, Nat.zero_le _, Nat.zero_le _, raw_nil w', raw_nil w', trivial, trivial, sep_nil _, hbl⟩
  · refine (divmod_ok v1 v2 a b w h1 h2 ⟨by omega, by omega⟩ h).mono ?_
    rintro e w' ⟨q, r, rfl, hq, hr, hf, hg, hs, hbl⟩
    exact ⟨q, r, _, _, _, rfl, len_of_le (Nat.div_le_self a b) ha, len_of_le (Nat.mod_le a b) ha, hq.raw, hr.raw, hf, hg, hs, hbl⟩
theorem some_gcd : Calls Try.prog 28 #[v1, v2] w (RetSome w) := by
  have hl : (limbs (Nat.gcd a b)).length ≤ 1000 := by
    by_cases h : a = 0
    · rw [h, Nat.gcd_zero_left]; omega
    · exact len_of_le (Nat.gcd_le_left b (by omega)) ha
  exact (gcd_ok v1 v2 a b w h1 h2 ⟨by omega, by omega⟩).mono fun _ _ h => some_got hl h
theorem some_lcm : Calls Try.prog 29 #[v1, v2] w (RetSome w) := by
  by_cases h : a = 0 ∨ b = 0
  · exact (lcm_zero v1 v2 a b w h1 h2 ⟨by omega, by omega⟩ h).mono fun _ _ h => some_got zero_len h
  · refine (lcm_ok v1 v2 a b w h1 h2 (by omega) (by omega) (by omega)).mono fun _ _ h => some_got ?_ h
    have e1 := limbs_length_mono (Nat.mul_le_mul_right b (Nat.div_le_self a (Nat.gcd a b)))
    have e2 := limbs_length_mul a b
    omega
end
section
variable (v1 : Value) (a k : Nat) (z : Int) (w : World) (h1 : Num w v1 a) (ha : (limbs a).length ≤ 20) (hk : k ≤ 3)
include h1 ha hk
theorem some_shift (hz : z = (k : Int) - 1) : Calls Try.prog 19 #[v1, .int .i64 z] w (RetSome w) := by
  by_cases h0 : a = 0
  · exact (shift_none v1 a z w h1 (.inl h0) (by omega)).mono fun _ _ h => some_got zero_len h
  · by_cases hk0 : k = 0
    · subst hk0
      exact (shift_down v1 a 1 z w h1 (by omega) h0 (by omega) (by omega) (by omega)).mono fun _ _ h => some_got (len_of_le (Nat.div_le_self _ _) ha) h
    · have e1 := limbs_length_mul a (2 ^ (k - 1))
      have e2 : (limbs (2 ^ (k - 1))).length ≤ 1 := limbs_length_le (Nat.lt_of_le_of_lt (Nat.pow_le_pow_right (by omega) (show k - 1 ≤ 2 by omega)) (by decide))
      exact (shift_up v1 a (k - 1) z w h1 (by omega) h0 (by omega) (by omega) (by omega)).mono fun _ _ h => some_got (by omega) h
theorem some_pow (hz : z = (k : Int)) : Calls Try.prog 27 #[v1, .int .i64 z] w (RetSome w) := by
  have e : (limbs a).length * k ≤ 20 * 3 := Nat.mul_le_mul ha hk
  exact (pow_ok v1 a k z w h1 hz (by omega) (.inr (by omega)) (by omega)).mono fun _ _ h => some_got (by have := limbs_length_pow a k; omega) h
theorem some_root (hz : z = ((k + 1 : Nat) : Int)) : Calls Try.prog 30 #[v1, .int .i64 z] w (RetSome w) := by
  obtain ⟨r, hr⟩ := root_exists (k + 1) (by omega) a
  exact (root_ok v1 a (k + 1) r z w h1 hz (by omega) (by omega) (by omega) hr).mono fun _ _ h => some_got (len_of_le (Nat.le_trans (Nat.le_self_pow (by omega) r) hr.1) ha) h
end

/-! ### slices that share no memory -/
def Disj (v u : Value) : Prop := ∀ b, v.ownBlock = some b → u.ownBlock ≠ some b
theorem Disj.symm {v u : Value} (h : Disj v u) : Disj u v := fun b hb hv => h b hv hb
theorem Raw.lt {w : World} {v : Value} {xs : List Nat} (h : Raw w v xs) : ∀ b, v.ownBlock = some b → b < w.heap.size := by
  obtain ⟨ad, c, rfl, _, _, _, h4⟩ := h
  intro b hb
  rcases h4 with ⟨rfl, _⟩ | ⟨b', o, rfl, h5, _⟩
  · cases hb
  · cases hb; exact h5
theorem Fresh.le {r : Nat} {v : Value} (h : Fresh r v) : ∀ b, v.ownBlock = some b → r ≤ b := by
  intro b hb
  unfold Fresh at h
  split at h
  · cases hb; exact h
  · cases v with
    | slice a _ _ => cases a with
      | none => cases hb
      | some a => rename_i hne; exact absurd rfl (hne _ _ _)
    | _ => cases hb
theorem Sep.disj {v u : Value} (h : Sep v u) : Disj v u := by
  intro b hb hu
  have h2 := h b hb
  unfold Apart at h2
  split at h2
  · cases hu; exact h2 rfl
  · cases u with
    | slice a _ _ => cases a with
      | none => cases hu
      | some a => rename_i hne; exact absurd rfl (hne _ _ _)
    | _ => cases hu
theorem Raw.kept {w w' : World} {v : Value} {xs : List Nat} (h : Raw w v xs) (hs : w.heap.size ≤ w'.heap.size) (hk : ∀ b, v.ownBlock = some b → w'.heap[b]? = w.heap[b]?) : Raw w' v xs := by
  obtain ⟨ad, c, rfl, h1, h2, h3, h4⟩ := h
  refine ⟨ad, c, rfl, h1, h2, h3, ?_⟩
  rcases h4 with h4 | ⟨b, o, rfl, h5, h6⟩
  · exact .inl h4
  · refine .inr ⟨b, o, rfl, by omega, fun i hi => ?_⟩
    have e := hk b rfl
    obtain ⟨p, q⟩ := h6 i hi
    unfold World.cell? World.frozen? at *
    dsimp only at *
    rw [e]
    exact ⟨p, q⟩

structure Bank (lo : Nat) (W : World) (row : Value) (L : List (Value × List Nat)) : Prop where
  own : W.ownsRow lo 22 1 row L.length (L.map (·.1))
  raw : ∀ p ∈ L, Raw W p.1 p.2
  len : ∀ p ∈ L, p.2.length ≤ 1000
  fresh : ∀ p ∈ L, Fresh lo p.1
  pair : L.Pairwise (fun p q => Disj p.1 q.1)
  off : ∀ p ∈ L, Disj row p.1
theorem Bank.mono {lo : Nat} {W W' : World} {row : Value} {L : List (Value × List Nat)} (h : Bank lo W row L) (hb : Below W.heap.size W W') : Bank lo W' row L :=
  ⟨ownsRow_mono h.own hb, fun p hp => (h.raw p hp).mono hb, h.len, h.fresh, h.pair, h.off⟩
theorem bank_nil (W : World) : Bank W.heap.size (W.alloc (.cells #[] 22)) (.slice (some ⟨W.heap.size, 0, none⟩) 0 0) [] :=
  ⟨ownsRow_made W _ 1, (fun p hp => nomatch hp), (fun p hp => nomatch hp), (fun p hp => nomatch hp), List.Pairwise.nil, (fun p hp => nomatch hp)⟩
/-- new slices are put behind -/
theorem Bank.push {lo : Nat} {W0 W W' : World} {row row' : Value} {L M : List (Value × List Nat)} {tmp : Obj} (h : Bank lo W0 row L) (hb : Below W0.heap.size W0 W) (hlo : lo ≤ W0.heap.size)
    (hr : ∀ p ∈ M, Raw W p.1 p.2) (hlen : ∀ p ∈ M, p.2.length ≤ 1000) (hf : ∀ p ∈ M, Fresh W0.heap.size p.1) (hp : M.Pairwise (fun p q => Disj p.1 q.1))
    (hown : W'.ownsRow lo 22 1 row' (L.length + M.length) (L.map (·.1) ++ M.map (·.1))) (hg : (W.alloc tmp).grownBy W' row.ownBlock)
    (hk : row'.ownBlock = row.ownBlock ∨ row'.ownBlock = some (W.alloc tmp).heap.size) : Bank lo W' row' (L ++ M) := by
  have hsz : W.heap.size ≤ W'.heap.size := Nat.le_trans (by rw [World.size_alloc]; omega) hg.size
  have hrow : ∀ b, row.ownBlock = some b → b < W0.heap.size := fun b hb => (ownsRow_block h.own b hb).2
  have hnew : ∀ v : Value, Fresh W0.heap.size v → ∀ b, b < W0.heap.size → v.ownBlock ≠ some b := fun v hv b hb e => by have := hv.le b e; omega
  have hL : ∀ p ∈ L, Raw W p.1 p.2 := fun p hp => (h.raw p hp).mono hb
  have hall : ∀ p, p ∈ L ++ M → Raw W p.1 p.2 ∧ Disj row p.1 := by
    intro p hp
    rcases List.mem_append.1 hp with h1 | h1
    · exact ⟨hL p h1, h.off p h1⟩
    · exact ⟨hr p h1, fun b hb => hnew _ (hf p h1) b (hrow b hb)⟩
  refine ⟨by rw [List.length_append, List.map_append]; exact hown, fun p hp => ?_, fun p hp => (List.mem_append.1 hp).elim (h.len p) (hlen p), fun p hp => ?_, ?_, fun p hp => ?_⟩
  · obtain ⟨h1, h2⟩ := hall p hp
    refine h1.kept hsz fun b hb => ?_
    have hlt := h1.lt b hb
    have e := hg.block b (by rw [World.size_alloc]; omega) (fun e => h2 b e.symm hb)
    rw [e]
    exact Below.heap_alloc W tmp b hlt
  · rcases List.mem_append.1 hp with h1 | h1
    · exact h.fresh p h1
    · have hf1 := hf p h1
      unfold Fresh at hf1 ⊢
      split
      · rename_i a _ _ e; rw [e] at hf1; exact Nat.le_trans hlo hf1
      · trivial
  · refine List.pairwise_append.2 ⟨h.pair, hp, fun p hp q hq b hb => hnew _ (hf q hq) b ((h.raw p hp).lt b hb)⟩
  · obtain ⟨h1, h2⟩ := hall p hp
    rcases hk with e | e
    · intro b hb
      rw [e] at hb
      exact h2 b hb
    · intro b hb hv
      have h3 := h1.lt b hv
      rw [e, World.size_alloc] at hb
      cases hb
      omega
theorem Bank.push1 {lo : Nat} {W0 W W' : World} {row row' v : Value} {L : List (Value × List Nat)} {xs : List Nat} {tmp : Obj} (h : Bank lo W0 row L) (hb : Below W0.heap.size W0 W) (hlo : lo ≤ W0.heap.size)
    (hr : Raw W v xs) (hl : xs.length ≤ 1000) (hf : Fresh W0.heap.size v) (hown : W'.ownsRow lo 22 1 row' (L.length + 1) (L.map (·.1) ++ [v])) (hg : (W.alloc tmp).grownBy W' row.ownBlock)
    (hk : row'.ownBlock = row.ownBlock ∨ row'.ownBlock = some (W.alloc tmp).heap.size) : Bank lo W' row' (L ++ [(v, xs)]) :=
  h.push hb hlo (by intro p hp; rw [List.mem_singleton.1 hp]; exact hr) (by intro p hp; rw [List.mem_singleton.1 hp]; exact hl) (by intro p hp; rw [List.mem_singleton.1 hp]; exact hf) (List.pairwise_singleton _ _) hown hg hk
theorem Bank.push2 {lo : Nat} {W0 W W' : World} {row row' v u : Value} {L : List (Value × List Nat)} {xs ys : List Nat} {tmp : Obj} (h : Bank lo W0 row L) (hb : Below W0.heap.size W0 W) (hlo : lo ≤ W0.heap.size)
    (hr : Raw W v xs) (hr2 : Raw W u ys) (hl : xs.length ≤ 1000) (hl2 : ys.length ≤ 1000) (hf : Fresh W0.heap.size v) (hf2 : Fresh W0.heap.size u) (hs : Sep v u)
    (hown : W'.ownsRow lo 22 1 row' (L.length + 2) (L.map (·.1) ++ [v, u])) (hg : (W.alloc tmp).grownBy W' row.ownBlock)
    (hk : row'.ownBlock = row.ownBlock ∨ row'.ownBlock = some (W.alloc tmp).heap.size) : Bank lo W' row' (L ++ [(v, xs), (u, ys)]) :=
  h.push hb hlo (fun p hp => (List.mem_cons.1 hp).elim (fun e => by rw [e]; exact hr) (fun e => by rw [List.mem_singleton.1 e]; exact hr2)) (fun p hp => (List.mem_cons.1 hp).elim (fun e => by rw [e]; exact hl) (fun e => by rw [List.mem_singleton.1 e]; exact hl2)) (fun p hp => (List.mem_cons.1 hp).elim (fun e => by rw [e]; exact hf) (fun e => by rw [List.mem_singleton.1 e]; exact hf2))
    (List.pairwise_cons.2 ⟨by intro p hp; rw [List.mem_singleton.1 hp]; exact hs.disj, List.pairwise_singleton _ _⟩) hown hg hk
theorem Vals.rdN {w : World} {b : Nat} {vs : List Value} (h : Vals w b vs) (n : Nat) (hl : vs.length = n) (hm : n ≤ maxLen) : RdV w (some ⟨b, 0, none⟩) n n 1 vs := by
  refine ⟨by omega, Nat.le_refl _, hm, .inr ⟨b, 0, rfl, fun j u hj => ?_⟩⟩
  have hj2 := (List.getElem?_eq_some_iff.1 hj).1
  have e := h.cell hj2
  rw [Nat.zero_add, e, getD_of hj]
theorem info_su : (Try.prog.info? 22).map (fun i => (i.zero, i.size, i.bytes)) = some (some (.slice none 0 0), 1, 24) := by kernel_rfl

end Go.Proofs
