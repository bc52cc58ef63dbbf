/- The search of wire.Best in memory: its picks, prices, least costs; what is kept of them. What picks need of each wire, as a list: plain law. Plain law of WireLengths: the quantities add up, no item occurs twice. Plain law of TopStocked: what the posts leave, what is told of each. -/
import Derived.Test.YtghbjhcbldnenaaGreatDoorPk13
import Derived.Test.YtghbjhcbldnenaaGreatDoorPk14
import Derived.Test.YtghbjhcbldnenaaGreatDoorPk11
import Derived.Test.YtghbjhcbldnenaaGreatDoorPk12
import Derived.Test.YtghbjhcbldnenaaGreatDoorPk09

section
open Go.RowKit Go.Deep
namespace Go.Proofs
set_option linter.unusedVariables false
set_option linter.unusedSimpArgs false

/-- the blocks from lo to hi are as they were -/
def Same (lo hi : Nat) (w w' : World) : Prop := ∀ k, lo ≤ k → k < hi → w'.heap[k]? = w.heap[k]?
theorem Same.refl (lo hi : Nat) (w : World) : Same lo hi w w := fun _ _ _ => rfl
theorem Same.trans {lo hi : Nat} {a b c : World} (h : Same lo hi a b) (k : Same lo hi b c) : Same lo hi a c := fun i h1 h2 => (k i h1 h2).trans (h i h1 h2)
theorem Same.weak {lo hi lo' hi' : Nat} {a b : World} (h : Same lo hi a b) (h1 : lo ≤ lo') (h2 : hi' ≤ hi) : Same lo' hi' a b := fun i k1 k2 => h i (by omega) (by omega)
theorem Same.of_below {lo hi B : Nat} {a b : World} (h : Below B a b) (hB : hi ≤ B) : Same lo hi a b := fun i h1 h2 => h.block i (by omega)
theorem Same.setCell {lo hi : Nat} {a b : World} (h : Same lo hi a b) (p : Addr) (hp : p.block < lo ∨ hi ≤ p.block) (u : Value) : Same lo hi a (b.setCell p u) := fun i h1 h2 => by
  rw [Below.heap_setCell _ _ _ _ (show i ≠ p.block by omega)]
  exact h i h1 h2
theorem Same.alloc {lo hi : Nat} {a b : World} (h : Same lo hi a b) (hb : hi ≤ b.heap.size) (o : Obj) : Same lo hi a (b.alloc o) := h.trans (Same.of_below (below_alloc b o) hb)
theorem Same.drew {lo hi : Nat} {a b : World} (h : Same lo hi a b) : Same lo hi a b.drew := h
theorem Same.cell {lo hi : Nat} {w w' : World} (h : Same lo hi w w') {p : Addr} {v : Value} (hc : w.cell? p = some v) (h1 : lo ≤ p.block) (h2 : p.block < hi) : w'.cell? p = some v := by
  unfold World.cell? at hc ⊢
  rw [h p.block h1 h2]
  exact hc
theorem Same.frozen {lo hi : Nat} {w w' : World} (h : Same lo hi w w') {p : Addr} (h1 : lo ≤ p.block) (h2 : p.block < hi) : w'.frozen? p = w.frozen? p := by
  unfold World.frozen?
  rw [h p.block h1 h2]
theorem Vals.same {lo hi : Nat} {w w' : World} {b : Nat} {vs : List Value} (h : Vals w b vs) (hs : Same lo hi w w') (h1 : lo ≤ b) (h2 : b < hi) : Vals w' b vs := by
  obtain ⟨e, h⟩ := h
  exact ⟨e, (hs b h1 h2).trans h⟩

/-- picks in blocks from lo to hi -/
def PickIn (w : World) (lo hi : Nat) (v : Value) (L : List Pk) : Prop :=
  ∃ b o c, v = .slice (some ⟨b, o, none⟩) L.length c ∧ lo ≤ b ∧ b < hi ∧ L.length ≤ c ∧ c ≤ maxLen ∧ ∀ i, i < L.length → w.cell? ⟨b, o + i * 2, none⟩ = some (.int .i64 (L.getD i p0).m) ∧ w.cell? ⟨b, o + i * 2 + 1, none⟩ = some (.int .i64 (L.getD i p0).g)
theorem PickIn.same {w w' : World} {lo hi : Nat} {v : Value} {L : List Pk} (h : PickIn w lo hi v L) (hs : Same lo hi w w') : PickIn w' lo hi v L := by
  obtain ⟨b, o, c, h0, h1, h2, h3, h4, h5⟩ := h
  exact ⟨b, o, c, h0, h1, h2, h3, h4, fun i hi => ⟨hs.cell (h5 i hi).1 h1 h2, hs.cell (h5 i hi).2 h1 h2⟩⟩
theorem PickIn.weak {w : World} {lo hi lo' hi' : Nat} {v : Value} {L : List Pk} (h : PickIn w lo hi v L) (k1 : lo' ≤ lo) (k2 : hi ≤ hi') : PickIn w lo' hi' v L := by
  obtain ⟨b, o, c, h0, h1, h2, h3⟩ := h
  exact ⟨b, o, c, h0, by omega, by omega, h3⟩

/-- a table of numbers: rows of K -/
def TabIn (w : World) (lo hi : Nat) (v : Value) (n K : Nat) (pr : Nat → Nat → Int) : Prop :=
  ∃ b c, v = .slice (some ⟨b, 0, none⟩) n c ∧ lo ≤ b ∧ b < hi ∧ n ≤ c ∧ c ≤ maxLen ∧ ∀ i, i < n → ∃ h c', lo ≤ h ∧ h < hi ∧ w.cell? ⟨b, i, none⟩ = some (.slice (some ⟨h, 0, none⟩) K c') ∧ K ≤ c' ∧ c' ≤ maxLen ∧ ∀ k, k < K → w.cell? ⟨h, k, none⟩ = some (.int .i64 (pr i k))
theorem TabIn.same {w w' : World} {lo hi : Nat} {v : Value} {n K : Nat} {pr : Nat → Nat → Int} (h : TabIn w lo hi v n K pr) (hs : Same lo hi w w') : TabIn w' lo hi v n K pr := by
  obtain ⟨b, c, h0, h1, h2, h3, h4, h5⟩ := h
  refine ⟨b, c, h0, h1, h2, h3, h4, fun i hi => ?_⟩
  obtain ⟨g, c', g1, g2, g3, g4, g5, g6⟩ := h5 i hi
  exact ⟨g, c', g1, g2, hs.cell g3 h1 h2, g4, g5, fun k hk => hs.cell (g6 k hk) g1 g2⟩
theorem TabIn.weak {w : World} {lo hi lo' hi' : Nat} {v : Value} {n K : Nat} {pr : Nat → Nat → Int} (h : TabIn w lo hi v n K pr) (k1 : lo' ≤ lo) (k2 : hi ≤ hi') : TabIn w lo' hi' v n K pr := by
  obtain ⟨b, c, h0, h1, h2, h3, h4, h5⟩ := h
  refine ⟨b, c, h0, by omega, by omega, h3, h4, fun i hi => ?_⟩
  obtain ⟨g, c', g1, g2, g3⟩ := h5 i hi
  exact ⟨g, c', by omega, by omega, g3⟩

/-- a row of the least costs: by pick, by changes -/
def RowIn (w : World) (lo hi : Nat) (v : Value) (K L : Nat) (F : Nat → Nat → Int) : Prop :=
  ∃ b, v = .slice (some ⟨b, 0, none⟩) K K ∧ lo ≤ b ∧ b < hi ∧ ∀ k, k < K → ∃ h, lo ≤ h ∧ h < hi ∧ w.cell? ⟨b, k, none⟩ = some (.slice (some ⟨h, 0, none⟩) L L) ∧ ∀ l, l < L → w.cell? ⟨h, l, none⟩ = some (.int .i64 (F k l))
theorem RowIn.same {w w' : World} {lo hi : Nat} {v : Value} {K L : Nat} {F : Nat → Nat → Int} (h : RowIn w lo hi v K L F) (hs : Same lo hi w w') : RowIn w' lo hi v K L F := by
  obtain ⟨b, h0, h1, h2, h5⟩ := h
  refine ⟨b, h0, h1, h2, fun i hi => ?_⟩
  obtain ⟨g, g1, g2, g3, g6⟩ := h5 i hi
  exact ⟨g, g1, g2, hs.cell g3 h1 h2, fun k hk => hs.cell (g6 k hk) g1 g2⟩
theorem RowIn.weak {w : World} {lo hi lo' hi' : Nat} {v : Value} {K L : Nat} {F : Nat → Nat → Int} (h : RowIn w lo hi v K L F) (k1 : lo' ≤ lo) (k2 : hi ≤ hi') : RowIn w lo' hi' v K L F := by
  obtain ⟨b, h0, h1, h2, h5⟩ := h
  refine ⟨b, h0, by omega, by omega, fun i hi => ?_⟩
  obtain ⟨g, g1, g2, g3⟩ := h5 i hi
  exact ⟨g, by omega, by omega, g3⟩

/-- all picks, in order -/
def allPk (nm ng : Nat) : List Pk := (List.range (nm * ng)).map fun k => ⟨((k / ng : Nat) : Int), ((k % ng : Nat) : Int)⟩
theorem allPk_len (nm ng : Nat) : (allPk nm ng).length = nm * ng := by simp [allPk]
theorem allPk_get {nm ng k : Nat} (h : k < nm * ng) : (allPk nm ng).getD k p0 = ⟨((k / ng : Nat) : Int), ((k % ng : Nat) : Int)⟩ := by simp [allPk, List.getD, h]
def folN (ng a b : Nat) : Bool := decide (a / ng ≤ b / ng) && decide (a % ng ≤ b % ng)

end Go.Proofs
end

section
open Go.RowKit Go.Deep
namespace Go.Proofs
set_option linter.unusedVariables false
set_option linter.unusedSimpArgs false

/-- an item and how much of it -/
structure Lt where
  s : ByteArray
  q : Int
def lt0 : Lt := ⟨⟨#[]⟩, 0⟩
def wireB : ByteArray := ⟨#[119, 105, 114, 101]⟩
def lcl (l : Lt) : List Value := [.string wireB, .string l.s, .int .i64 l.q]
theorem lcl_len (l : Lt) : (lcl l).length = 3 := rfl
theorem lcl_one (l : Lt) : ∀ u ∈ lcl l, u.oneCell' = true := by
  intro u hu
  simp only [lcl, List.mem_cons, List.not_mem_nil, or_false] at hu
  rcases hu with rfl | rfl | rfl <;> rfl
theorem info_lot : (Tryz.prog.info? 45).map (fun i => (i.zero, i.size, i.bytes)) = some (some (.agg #[.string ⟨#[]⟩, .string ⟨#[]⟩, .int .i64 0]), 3, 40) := by kernel_rfl
/-- lots that can be read -/
def InL (w : World) (v : Value) (L : List Lt) : Prop := ∃ ad c, v = .slice ad L.length c ∧ RdV w ad c L.length 3 (flat lcl L)
theorem InL.mono {w w' : World} {v : Value} {L : List Lt} (h : InL w v L) (hb : Below w.heap.size w w') : InL w' v L := by
  obtain ⟨ad, c, e, h⟩ := h
  exact ⟨ad, c, e, h.mono hb⟩

def mB : ByteArray := ⟨#[109]⟩
def gB : ByteArray := ⟨#[103]⟩
/-- the name of a wire -/
def itemB (a b : Int) : ByteArray := mB ++ itB a ++ gB ++ itB b
/-- the length that the first i picks need of one wire -/
def sumN (S : Scl) (P : List Pk) (tail : Int) (p : Pk) : Nat → Int
  | 0 => 0
  | i + 1 => if p.m = (P.getD i p0).m ∧ p.g = (P.getD i p0).g then sumN S P tail p i + ((S.cs.getD i c0).l + tail) else sumN S P tail p i
def pkK (ng k : Nat) : Pk := ⟨((k / ng : Nat) : Int), ((k % ng : Nat) : Int)⟩
def lotK (S : Scl) (P : List Pk) (tail : Int) (k : Nat) : Lt := ⟨itemB ((k / S.gs.length : Nat) : Int) (S.gs.getD (k % S.gs.length) 0), sumN S P tail (pkK S.gs.length k) P.length⟩
/-- what the first k wires are needed of -/
def needs (S : Scl) (P : List Pk) (tail : Int) : Nat → List Lt
  | 0 => []
  | k + 1 => if 0 < (lotK S P tail k).q then needs S P tail k ++ [lotK S P tail k] else needs S P tail k
theorem needs_len (S : Scl) (P : List Pk) (tail : Int) : ∀ k, (needs S P tail k).length ≤ k
  | 0 => Nat.le_refl _
  | k + 1 => by
    have := needs_len S P tail k
    unfold needs
    split
    · rw [List.length_append]; simpa using this
    · omega
theorem sumN_bd {S : Scl} (hs : sclOk S = true) {P : List Pk} {tail : Int} (ht : 0 ≤ tail ∧ tail ≤ 100000) (p : Pk) : ∀ i, i ≤ S.cs.length → 0 ≤ sumN S P tail p i ∧ sumN S P tail p i ≤ 200000 * (i : Int)
  | 0, _ => by simp [sumN]
  | i + 1, hi => by
    have h1 := sumN_bd hs (P := P) ht p i (by omega)
    have h2 := sclOk_c hs (show i < S.cs.length by omega)
    have h3 := (crs_facts h2).1
    rw [sumN]
    split <;> omega

end Go.Proofs
end

section
open Go.RowKit Go.Deep
namespace Go.Proofs
set_option linter.unusedVariables false
set_option linter.unusedSimpArgs false

/-- the sum of the first n -/
def sumZ (f : Nat → Int) : Nat → Int
  | 0 => 0
  | n + 1 => sumZ f n + f n
theorem sumZ_congr {f g : Nat → Int} : ∀ {n : Nat}, (∀ i, i < n → f i = g i) → sumZ f n = sumZ g n
  | 0, _ => rfl
  | n + 1, h => by
    unfold sumZ
    rw [sumZ_congr (n := n) fun i hi => h i (by omega), h n (by omega)]
theorem sumZ_add (f g : Nat → Int) : ∀ n, sumZ (fun i => f i + g i) n = sumZ f n + sumZ g n
  | 0 => rfl
  | n + 1 => by
    unfold sumZ
    rw [sumZ_add f g n]
    omega
theorem sumZ_zero {f : Nat → Int} : ∀ {n : Nat}, (∀ i, i < n → f i = 0) → sumZ f n = 0
  | 0, _ => rfl
  | n + 1, h => by
    unfold sumZ
    rw [sumZ_zero (n := n) fun i hi => h i (by omega), h n (by omega)]
    rfl
theorem sumZ_one {f : Nat → Int} {k : Nat} : ∀ {n : Nat}, k < n → (∀ i, i < n → i ≠ k → f i = 0) → sumZ f n = f k
  | 0, h, _ => by omega
  | n + 1, h, h2 => by
    unfold sumZ
    by_cases e : k = n
    · subst e
      rw [sumZ_zero (n := k) fun i hi => h2 i (by omega) (by omega)]
      omega
    · rw [sumZ_one (n := n) (by omega) fun i hi => h2 i (by omega), h2 n (by omega) (by omega)]
      omega
theorem sumZ_bd {f : Nat → Int} {M : Int} : ∀ {n : Nat}, (∀ i, i < n → 0 ≤ f i ∧ f i ≤ M) → 0 ≤ sumZ f n ∧ sumZ f n ≤ M * (n : Int)
  | 0, _ => by simp [sumZ]
  | n + 1, h => by
    have h1 := sumZ_bd (n := n) (M := M) fun i hi => h i (by omega)
    have h2 := h n (by omega)
    unfold sumZ
    rw [Int.natCast_add, Int.mul_add]
    omega

theorem lt_getD_left {A : List Lt} {B : List Lt} {i : Nat} (h : i < A.length) : (A ++ B).getD i lt0 = A.getD i lt0 := by
  simp [List.getD, List.getElem?_append_left h]
theorem lt_getD_last (A : List Lt) (x : Lt) : (A ++ [x]).getD A.length lt0 = x := by
  simp [List.getD]

/-- the quantities of the list -/
def qsum (L : List Lt) (n : Nat) : Int := sumZ (fun i => (L.getD i lt0).q) n
theorem needs_sum (S : Scl) (P : List Pk) (tail : Int) : ∀ k, (∀ j, j < k → 0 ≤ (lotK S P tail j).q) →
    qsum (needs S P tail k) (needs S P tail k).length = sumZ (fun j => (lotK S P tail j).q) k
  | 0, _ => rfl
  | k + 1, h => by
    have ih := needs_sum S P tail k fun j hj => h j (by omega)
    have h0 := h k (by omega)
    rw [needs]
    split
    · rename_i hp
      unfold qsum at ih ⊢
      rw [List.length_append, List.length_singleton]
      unfold sumZ
      rw [lt_getD_last, ← ih]
      congr 1
      exact sumZ_congr fun i hi => by rw [lt_getD_left hi]
    · unfold qsum at ih ⊢
      conv => rhs; unfold sumZ
      rw [ih]
      omega

theorem sumN_step (S : Scl) (P : List Pk) (tail : Int) (p : Pk) (i : Nat) :
    sumN S P tail p (i + 1) = sumN S P tail p i + (if p.m = (P.getD i p0).m ∧ p.g = (P.getD i p0).g then (S.cs.getD i c0).l + tail else 0) := by
  rw [sumN]
  split <;> omega
theorem pkK_at {ng : Nat} (hg : 0 < ng) {m g : Int} {nm : Nat} (hm : 0 ≤ m ∧ m < nm) (hgg : 0 ≤ g ∧ g < ng) :
    ∃ k, k < nm * ng ∧ (pkK ng k).m = m ∧ (pkK ng k).g = g ∧ ∀ j, j ≠ k → ¬ ((pkK ng j).m = m ∧ (pkK ng j).g = g) := by
  obtain ⟨a, rfl⟩ := Int.eq_ofNat_of_zero_le hm.1
  obtain ⟨b, rfl⟩ := Int.eq_ofNat_of_zero_le hgg.1
  have ha : a < nm := by omega
  have hb : b < ng := by omega
  have e1 : (ng * a + b) / ng = a := by rw [Nat.mul_add_div hg, Nat.div_eq_of_lt hb, Nat.add_zero]
  have e2 : (ng * a + b) % ng = b := by rw [Nat.mul_add_mod, Nat.mod_eq_of_lt hb]
  refine ⟨ng * a + b, ?_, ?_, ?_, ?_⟩
  · have h1 : ng * (a + 1) ≤ ng * nm := Nat.mul_le_mul_left _ ha
    rw [Nat.mul_comm nm ng]
    rw [Nat.mul_add] at h1
    omega
  · unfold pkK; dsimp only; rw [e1]
  · unfold pkK; dsimp only; rw [e2]
  · rintro j hj ⟨h1, h2⟩
    unfold pkK at h1 h2
    dsimp only at h1 h2
    have h3 : j / ng = a := by omega
    have h4 : j % ng = b := by omega
    have h5 := Nat.div_add_mod j ng
    rw [h3, h4] at h5
    exact hj h5.symm
theorem lots_sum {S : Scl} {P : List Pk} {tail : Int} (hg : 0 < S.gs.length) : ∀ n, (∀ i, i < n → pkOk S (P.getD i p0) = true) →
    sumZ (fun k => sumN S P tail (pkK S.gs.length k) n) (S.ms.length * S.gs.length) = sumZ (fun i => (S.cs.getD i c0).l + tail) n
  | 0, _ => sumZ_zero fun i hi => rfl
  | n + 1, h => by
    have ih := lots_sum (tail := tail) hg n fun i hi => h i (by omega)
    have hp := h n (by omega)
    unfold pkOk at hp
    rw [Bool.and_eq_true, decide_eq_true_eq, decide_eq_true_eq] at hp
    obtain ⟨k, hk, k1, k2, k3⟩ := pkK_at hg hp.1 hp.2
    rw [sumZ_congr fun i _ => sumN_step S P tail (pkK S.gs.length i) n, sumZ_add, ih]
    conv => rhs; unfold sumZ
    congr 1
    rw [sumZ_one hk fun i _ hne => if_neg (k3 i hne), if_pos ⟨k1, k2⟩]

/-- all that is needed, together: all lengths and tails -/
theorem needs_total {S : Scl} (hs : sclOk S = true) {P : List Pk} {tail : Int} (ht : 0 ≤ tail ∧ tail ≤ 100000) (hf : fitsB S P = true) :
    qsum (needs S P tail (S.ms.length * S.gs.length)) (needs S P tail (S.ms.length * S.gs.length)).length = sumZ (fun i => (S.cs.getD i c0).l + tail) S.cs.length := by
  unfold fitsB at hf
  rw [Bool.and_eq_true, allTo_iff, decide_eq_true_eq] at hf
  obtain ⟨_, _, hl16, _, _⟩ := headOk_lens (headOk_of hs)
  rw [needs_sum S P tail _ fun j hj => (sumN_bd hs ht _ _ (by rw [hf.2]; exact Nat.le_refl _)).1, ← hf.2]
  exact lots_sum hl16.1 _ hf.1

/-- each quantity is above 0, and small -/
theorem needs_q {S : Scl} (hs : sclOk S = true) {P : List Pk} {tail : Int} (ht : 0 ≤ tail ∧ tail ≤ 100000) (hf : fitsB S P = true) : ∀ k i, i < (needs S P tail k).length →
    ∃ j, j < k ∧ (needs S P tail k).getD i lt0 = lotK S P tail j ∧ 1 ≤ (lotK S P tail j).q ∧ (lotK S P tail j).q ≤ 19200000
  | 0, i, h => by simp [needs] at h
  | k + 1, i, h => by
    unfold fitsB at hf
    rw [Bool.and_eq_true, allTo_iff, decide_eq_true_eq] at hf
    obtain ⟨hl96, _, _, _, _⟩ := headOk_lens (headOk_of hs)
    have hb := (sumN_bd hs (P := P) ht (pkK S.gs.length k) P.length (by rw [hf.2]; exact Nat.le_refl _)).2
    have hl := hf.2
    have ih := needs_q hs (P := P) ht (by unfold fitsB; rw [Bool.and_eq_true, allTo_iff, decide_eq_true_eq]; exact hf) k
    rw [needs] at h ⊢
    by_cases hp : 0 < (lotK S P tail k).q
    · rw [if_pos hp] at h ⊢
      rw [List.length_append, List.length_singleton] at h
      by_cases hi : i < (needs S P tail k).length
      · obtain ⟨j, h1, h2, h3⟩ := ih i hi
        exact ⟨j, by omega, by rw [lt_getD_left hi]; exact h2, h3⟩
      · obtain rfl : i = (needs S P tail k).length := by omega
        refine ⟨k, by omega, lt_getD_last _ _, hp, ?_⟩
        unfold lotK
        dsimp only
        omega
    · rw [if_neg hp] at h ⊢
      obtain ⟨j, h1, h2, h3⟩ := ih i h
      exact ⟨j, by omega, h2, h3⟩

/-- a numeral is of digits, and says its number -/
theorem dec_digits (u : Nat) : ∀ c ∈ Lib.decDigits u, c ≠ 103 := by
  induction u using Nat.strongRecOn with
  | _ u ih =>
    intro c hc
    have hd : ∀ x, x < 10 → UInt8.ofNat (48 + x) ≠ 103 := by decide
    by_cases h : u < 10
    · rw [Lib.decDigits, dif_pos h, List.mem_singleton] at hc
      rw [hc]
      exact hd u h
    · rw [Lib.decDigits, dif_neg h, List.mem_append, List.mem_singleton] at hc
      rcases hc with hc | hc
      · exact ih (u / 10) (by omega) c hc
      · rw [hc]
        exact hd _ (Nat.mod_lt _ (by decide))
def decVal (l : List UInt8) : Nat := l.foldl (fun a c => a * 10 + (c.toNat - 48)) 0
theorem decVal_dec (u : Nat) : decVal (Lib.decDigits u) = u := by
  induction u using Nat.strongRecOn with
  | _ u ih =>
    have hd : ∀ x, x < 10 → (UInt8.ofNat (48 + x)).toNat - 48 = x := by decide
    by_cases h : u < 10
    · rw [Lib.decDigits, dif_pos h]
      unfold decVal
      simp only [List.foldl_cons, List.foldl_nil]
      rw [hd u h]
      omega
    · have h2 := ih (u / 10) (by omega)
      rw [Lib.decDigits, dif_neg h]
      unfold decVal at h2 ⊢
      rw [List.foldl_append, h2]
      simp only [List.foldl_cons, List.foldl_nil]
      rw [hd _ (Nat.mod_lt _ (by decide))]
      omega
theorem cut103 : ∀ {a b c d : List UInt8}, (∀ x ∈ a, x ≠ 103) → (∀ x ∈ b, x ≠ 103) → a ++ 103 :: c = b ++ 103 :: d → a = b ∧ c = d
  | [], [], c, d, _, _, h => by simpa using h
  | [], y :: b, c, d, _, hb, h => by
    simp only [List.nil_append, List.cons_append, List.cons.injEq] at h
    exact absurd h.1.symm (hb y (by simp))
  | x :: a, [], c, d, ha, _, h => by
    simp only [List.nil_append, List.cons_append, List.cons.injEq] at h
    exact absurd h.1 (ha x (by simp))
  | x :: a, y :: b, c, d, ha, hb, h => by
    simp only [List.cons_append, List.cons.injEq] at h
    obtain ⟨h1, h2⟩ := cut103 (fun z hz => ha z (by simp [hz])) (fun z hz => hb z (by simp [hz])) h.2
    exact ⟨by rw [h.1, h1], h2⟩
theorem itoa_pos {n : Int} (h : 0 ≤ n) : Lib.itoa n = Lib.decDigits n.toNat := by unfold Lib.itoa; rw [if_neg (by omega)]
theorem itemB_list (a b : Int) : (itemB a b).data.toList = 109 :: (Lib.itoa a ++ 103 :: Lib.itoa b) := by
  unfold itemB mB gB itB
  simp [ByteArray.data_append]
theorem itemB_inj {a b c d : Int} (ha : 0 ≤ a) (hb : 0 ≤ b) (hc : 0 ≤ c) (hd : 0 ≤ d) (h : itemB a b = itemB c d) : a = c ∧ b = d := by
  have h1 : (itemB a b).data.toList = (itemB c d).data.toList := by rw [h]
  rw [itemB_list, itemB_list, itoa_pos ha, itoa_pos hb, itoa_pos hc, itoa_pos hd, List.cons.injEq] at h1
  obtain ⟨h2, h3⟩ := cut103 (dec_digits _) (dec_digits _) h1.2
  have h4 := congrArg decVal h2
  have h5 := congrArg decVal h3
  rw [decVal_dec, decVal_dec] at h4 h5
  omega

theorem gauges_fall {S : Scl} (hs : sclOk S = true) {i : Nat} : ∀ j, i < j → j < S.gs.length → S.gs.getD j 0 < S.gs.getD i 0
  | 0, h, _ => by omega
  | j + 1, h, hj => by
    have hg : gOk S.gs (j + 1) = true := by
      unfold sclOk at hs
      simp only [Bool.and_eq_true] at hs
      exact allTo_iff.1 hs.1.1.2 (j + 1) hj
    unfold gOk at hg
    simp only [Bool.and_eq_true, Bool.or_eq_true, decide_eq_true_eq, Nat.add_sub_cancel] at hg
    have h2 : S.gs.getD (j + 1) 0 < S.gs.getD j 0 := by
      rcases hg.2 with h3 | h3
      · omega
      · exact h3
    by_cases e : i = j
    · rw [e]; exact h2
    · have h3 := gauges_fall hs (i := i) j (by omega) (by omega)
      omega
theorem gauge_pos {S : Scl} (hs : sclOk S = true) {i : Nat} (hi : i < S.gs.length) : 0 ≤ S.gs.getD i 0 := by
  have hg : gOk S.gs i = true := by
    unfold sclOk at hs
    simp only [Bool.and_eq_true] at hs
    exact allTo_iff.1 hs.1.1.2 i hi
  unfold gOk inR at hg
  simp only [Bool.and_eq_true, Bool.or_eq_true, decide_eq_true_eq] at hg
  omega
theorem lot_name {S : Scl} (hs : sclOk S = true) {P : List Pk} {tail : Int} {j k : Nat} (h : (lotK S P tail j).s = (lotK S P tail k).s) : j = k := by
  obtain ⟨_, _, hl16, _, _⟩ := headOk_lens (headOk_of hs)
  have g1 := Nat.mod_lt j hl16.1
  have g2 := Nat.mod_lt k hl16.1
  unfold lotK at h
  dsimp only at h
  obtain ⟨h1, h2⟩ := itemB_inj (Int.natCast_nonneg _) (gauge_pos hs g1) (Int.natCast_nonneg _) (gauge_pos hs g2) h
  have h3 : j % S.gs.length = k % S.gs.length := by
    rcases Nat.lt_trichotomy (j % S.gs.length) (k % S.gs.length) with h4 | h4 | h4
    · have := gauges_fall hs _ h4 g2
      omega
    · exact h4
    · have := gauges_fall hs _ h4 g1
      omega
  have h4 : j / S.gs.length = k / S.gs.length := Int.ofNat.inj h1
  rw [← Nat.div_add_mod j S.gs.length, ← Nat.div_add_mod k S.gs.length, h3, h4]
/-- no item occurs twice -/
theorem needs_names {S : Scl} (hs : sclOk S = true) {P : List Pk} {tail : Int} (ht : 0 ≤ tail ∧ tail ≤ 100000) (hf : fitsB S P = true) : ∀ k i j, i < (needs S P tail k).length → j < i →
    ((needs S P tail k).getD j lt0).s ≠ ((needs S P tail k).getD i lt0).s
  | 0, i, j, h, _ => by simp [needs] at h
  | k + 1, i, j, h, hj => by
    have ih := needs_names hs (P := P) ht hf k
    rw [needs] at h ⊢
    by_cases hp : 0 < (lotK S P tail k).q
    · rw [if_pos hp] at h ⊢
      rw [List.length_append, List.length_singleton] at h
      by_cases hi : i < (needs S P tail k).length
      · rw [lt_getD_left hi, lt_getD_left (by omega)]
        exact ih i j hi hj
      · obtain rfl : i = (needs S P tail k).length := by omega
        rw [lt_getD_last, lt_getD_left hj]
        obtain ⟨j2, h1, h2, _⟩ := needs_q hs ht hf k j hj
        rw [h2]
        intro e
        have := lot_name hs e
        omega
    · rw [if_neg hp] at h ⊢
      exact ih i j h hj

theorem bytes_inj {a b : ByteArray} (h : a.toList = b.toList) : a = b := by
  rw [ByteArray.toList_eq, ByteArray.toList_eq] at h
  obtain ⟨x⟩ := a
  obtain ⟨y⟩ := b
  have h2 : x = y := Array.toList_inj.1 h
  rw [h2]

end Go.Proofs
end

section
open Go.RowKit Go.Deep Go.Maps
namespace Go.Proofs
set_option linter.unusedVariables false
set_option linter.unusedSimpArgs false

def outB : ByteArray := ⟨#[111, 117, 116, 115, 105, 100, 101]⟩
def stoB : ByteArray := ⟨#[115, 116, 111, 114, 101]⟩
def casB : ByteArray := ⟨#[99, 97, 115, 101]⟩
def plkB : ByteArray := ⟨#[112, 108, 97, 110, 107]⟩
theorem out_ok : NameOk outB := by unfold NameOk; decide
theorem sto_ok : NameOk stoB := by unfold NameOk; decide
theorem cas_ok : NameOk casB := by unfold NameOk; decide
theorem plk_ok : NameOk plkB := by unfold NameOk; decide
theorem out_sto : outB ≠ stoB := by decide
theorem sto_cas : stoB ≠ casB := by decide
theorem out_cas : outB ≠ casB := by decide
theorem out_out : isOut outB = true := by decide
theorem sto_out : isOut stoB = false := by decide

/-! ### names of wires -/
theorem dec_chars (u : Nat) : ∀ c ∈ Lib.decDigits u, 48 ≤ c.toNat ∧ c.toNat ≤ 57 := by
  induction u using Nat.strongRecOn with
  | _ u ih =>
    intro c hc
    have hd : ∀ x, x < 10 → 48 ≤ (UInt8.ofNat (48 + x)).toNat ∧ (UInt8.ofNat (48 + x)).toNat ≤ 57 := by decide
    by_cases h : u < 10
    · rw [Lib.decDigits, dif_pos h, List.mem_singleton] at hc
      rw [hc]
      exact hd u h
    · rw [Lib.decDigits, dif_neg h, List.mem_append, List.mem_singleton] at hc
      rcases hc with hc | hc
      · exact ih (u / 10) (by omega) c hc
      · rw [hc]
        exact hd _ (Nat.mod_lt _ (by decide))
theorem dec_len : ∀ (k u : Nat), u < 10 ^ (k + 1) → (Lib.decDigits u).length ≤ k + 1
  | 0, u, h => by
    have h1 : u < 10 := by simpa using h
    rw [Lib.decDigits, dif_pos h1]
    simp
  | k + 1, u, h => by
    by_cases h1 : u < 10
    · rw [Lib.decDigits, dif_pos h1]
      simp
    · rw [Lib.decDigits, dif_neg h1, List.length_append, List.length_singleton]
      have := dec_len k (u / 10) (by rw [Nat.pow_succ] at h; omega)
      omega
theorem name_of_list {s : ByteArray} {r : List UInt8} (h : s.data.toList = 109 :: r) (hl : r.length ≤ 11) (hr : ∀ c ∈ r, (97 ≤ c.toNat ∧ c.toNat ≤ 122) ∨ (48 ≤ c.toNat ∧ c.toNat ≤ 57)) : NameOk s := by
  have hs : s.size = r.length + 1 := by
    rw [← ByteArray.size_data, ← Array.length_toList, h, List.length_cons]
  refine ⟨by omega, by omega, fun i hi => ?_⟩
  have hb : byteAt s i = ((s.data.toList)[i]'(by rw [h, List.length_cons]; omega)).toNat := by
    rw [← byteAt_eq hi]
    rfl
  rw [hb]
  match i, hi with
  | 0, _ =>
    left
    simp only [h, List.getElem_cons_zero]
    decide
  | j + 1, hj =>
    have hm : (s.data.toList)[j + 1]'(by rw [h, List.length_cons]; omega) = r[j]'(by omega) := by simp only [h, List.getElem_cons_succ]
    have hjr : j < r.length := by omega
    rw [hm]
    rcases hr _ (List.getElem_mem hjr) with h1 | h1
    · exact .inl h1
    · exact .inr ⟨by omega, h1⟩
theorem item_ok {a b : Int} (ha : 0 ≤ a ∧ a < 10) (hb : 0 ≤ b ∧ b < 10000) : NameOk (itemB a b) := by
  refine name_of_list (itemB_list a b) ?_ (fun c hc => ?_)
  · rw [itoa_pos ha.1, itoa_pos hb.1, List.length_append, List.length_cons]
    have h1 := dec_len 0 a.toNat (by simp; omega)
    have h2 := dec_len 3 b.toNat (by simp; omega)
    omega
  · rw [itoa_pos ha.1, itoa_pos hb.1, List.mem_append, List.mem_cons] at hc
    rcases hc with hc | rfl | hc
    · exact .inr (dec_chars _ c hc)
    · left; decide
    · exact .inr (dec_chars _ c hc)
theorem item_plk (a b : Int) : itemB a b ≠ plkB := by
  intro h
  have := itemB_list a b
  rw [h] at this
  simp [plkB] at this

/-- needs that can be bought -/
structure Good (NL : List Lt) : Prop where
  l1 : 1 ≤ NL.length
  l2 : NL.length ≤ 32
  q : ∀ k, k < NL.length → 1 ≤ (NL.getD k lt0).q ∧ (NL.getD k lt0).q ≤ 1000000000
  nm : ∀ k, k < NL.length → NameOk (NL.getD k lt0).s
  ap : ∀ j k, j < NL.length → k < NL.length → (NL.getD j lt0).s = (NL.getD k lt0).s → j = k
  pl : ∀ k, k < NL.length → (NL.getD k lt0).s ≠ plkB
theorem needs_good {S : Scl} (hs : sclOk S = true) (hg6 : S.gs.length ≤ 6) {P : List Pk} {tail : Int} (ht : 0 ≤ tail ∧ tail ≤ 100000) (hf : fitsB S P = true) : Good (needs S P tail (S.ms.length * S.gs.length)) := by
  obtain ⟨l1, l2, l3, _, _⟩ := headOk_lens (headOk_of hs)
  obtain ⟨K, hK⟩ : ∃ K, S.ms.length * S.gs.length = K := ⟨_, rfl⟩
  have hK24 : K ≤ 24 := by
    rw [← hK]
    exact Nat.le_trans (Nat.mul_le_mul l2.2 hg6) (by decide)
  rw [hK]
  have hq := needs_q hs ht hf K
  have hn := needs_names hs ht hf K
  have htot := needs_total hs ht hf
  rw [hK] at htot
  have hitem : ∀ k, k < (needs S P tail K).length → ∃ j, j < K ∧ (needs S P tail K).getD k lt0 = lotK S P tail j := fun k hk => by
    obtain ⟨j, h1, h2, _⟩ := hq k hk
    exact ⟨j, h1, h2⟩
  refine ⟨?_, Nat.le_trans (needs_len S P tail K) (by omega), fun k hk => ?_, fun k hk => ?_, fun j k hj hk e => ?_, fun k hk => ?_⟩
  · cases h : (needs S P tail K) with
    | nil =>
      exfalso
      rw [h] at htot
      have h0 : qsum ([] : List Lt) ([] : List Lt).length = 0 := rfl
      rw [h0] at htot
      have hp : ∀ n, n ≤ S.cs.length → 0 ≤ sumZ (fun i => (S.cs.getD i c0).l + tail) n ∧ (1 ≤ n → 1 ≤ sumZ (fun i => (S.cs.getD i c0).l + tail) n) := by
        intro n
        induction n with
        | zero => intro _; exact ⟨by unfold sumZ; omega, fun h => by omega⟩
        | succ n ih =>
          intro hn
          have h1 := ih (by omega)
          have h2 := (crs_facts (sclOk_c hs (show n < S.cs.length by omega))).1
          unfold sumZ
          refine ⟨by omega, fun _ => by omega⟩
      have := (hp S.cs.length (Nat.le_refl _)).2 l1.1
      omega
    | cons x r => simp
  · obtain ⟨j, h1, h2, h3, h4⟩ := hq k hk
    rw [h2]
    omega
  · obtain ⟨j, h1, h2⟩ := hitem k hk
    rw [h2]
    unfold lotK
    dsimp only
    have hm := Nat.mod_lt j l3.1
    have h0 := gauge_pos hs hm
    have hgk : gOk S.gs (j % S.gs.length) = true := by
      unfold sclOk at hs
      simp only [Bool.and_eq_true] at hs
      exact allTo_iff.1 hs.1.1.2 _ hm
    unfold gOk inR at hgk
    simp only [Bool.and_eq_true, Bool.or_eq_true, decide_eq_true_eq] at hgk
    have h5 : j / S.gs.length < S.ms.length := Nat.div_lt_of_lt_mul (by rw [Nat.mul_comm, hK]; exact h1)
    obtain ⟨d, hd⟩ : ∃ d, j / S.gs.length = d := ⟨_, rfl⟩
    rw [hd] at h5 ⊢
    exact item_ok (by omega) (by omega)
  · rcases Nat.lt_trichotomy j k with h | h | h
    · exact absurd e (hn k j hk h)
    · exact h
    · exact absurd e.symm (hn j k hj h)
  · obtain ⟨j, h1, h2⟩ := hitem k hk
    rw [h2]
    exact item_plk _ _

/-! ### the three entries -/
def plL (q : Int) : List Mv := [⟨outB, stoB, plkB, q⟩]
def buyL (NL : List Lt) : List Mv := NL.map fun l => ⟨outB, stoB, l.s, l.q⟩
def useL (NL : List Lt) : List Mv := NL.map fun l => ⟨stoB, casB, l.s, l.q⟩
theorem buyL_len (NL) : (buyL NL).length = NL.length := by simp [buyL]
theorem useL_len (NL) : (useL NL).length = NL.length := by simp [useL]
theorem buyL_get {NL : List Lt} {k : Nat} (h : k < NL.length) : (buyL NL).getD k mv0 = ⟨outB, stoB, (NL.getD k lt0).s, (NL.getD k lt0).q⟩ := by simp [buyL, List.getD, h]
theorem useL_get {NL : List Lt} {k : Nat} (h : k < NL.length) : (useL NL).getD k mv0 = ⟨stoB, casB, (NL.getD k lt0).s, (NL.getD k lt0).q⟩ := by simp [useL, List.getD, h]
theorem buy_ok {NL : List Lt} (G : Good NL) : ∀ k, k < (buyL NL).length → MvOk ((buyL NL).getD k mv0) := fun k hk => by
  rw [buyL_len] at hk
  rw [buyL_get hk]
  exact ⟨out_ok, sto_ok, G.nm k hk, out_sto, (G.q k hk).1, (G.q k hk).2⟩
theorem use_ok {NL : List Lt} (G : Good NL) : ∀ k, k < (useL NL).length → MvOk ((useL NL).getD k mv0) := fun k hk => by
  rw [useL_len] at hk
  rw [useL_get hk]
  exact ⟨sto_ok, cas_ok, G.nm k hk, sto_cas, (G.q k hk).1, (G.q k hk).2⟩
theorem pl_ok {q : Int} (h : 1 ≤ q ∧ q ≤ 1024) : ∀ k, k < (plL q).length → MvOk ((plL q).getD k mv0) := fun k hk => by
  have hk : k < 1 := hk
  obtain rfl : k = 0 := by omega
  exact ⟨out_ok, sto_ok, plk_ok, out_sto, h.1, by show q ≤ 1000000000; omega⟩
theorem pl_unif (q : Int) : Unif (plL q) outB stoB :=
  ⟨fun k hk => by have hk : k < 1 := hk; obtain rfl : k = 0 := (by omega); rfl, fun k hk => by have hk : k < 1 := hk; obtain rfl : k = 0 := (by omega); rfl, out_sto, fun j k hj hk _ => by have hj : j < 1 := hj; have hk : k < 1 := hk; omega⟩
theorem buy_unif {NL : List Lt} (G : Good NL) : Unif (buyL NL) outB stoB :=
  ⟨fun k hk => by rw [buyL_len] at hk; rw [buyL_get hk], fun k hk => by rw [buyL_len] at hk; rw [buyL_get hk], out_sto, fun j k hj hk e => by
    rw [buyL_len] at hj hk
    rw [buyL_get hj, buyL_get hk] at e
    exact G.ap j k hj hk e⟩
theorem use_unif {NL : List Lt} (G : Good NL) : Unif (useL NL) stoB casB :=
  ⟨fun k hk => by rw [useL_len] at hk; rw [useL_get hk], fun k hk => by rw [useL_len] at hk; rw [useL_get hk], sto_cas, fun j k hj hk e => by
    rw [useL_len] at hj hk
    rw [useL_get hj, useL_get hk] at e
    exact G.ap j k hj hk e⟩

def f1 (q : Int) : Bal := doN z0 (plL q) (plL q).length
def f2 (q : Int) (NL : List Lt) : Bal := doN (f1 q) (buyL NL) (buyL NL).length
def f3 (q : Int) (NL : List Lt) : Bal := doN (f2 q NL) (useL NL) (useL NL).length
theorem f1_item (q : Int) {a i : ByteArray} (h : i ≠ plkB) : f1 q a i = 0 := by
  unfold f1
  rw [doN_other _ (fun j hj => by have hj : j < 1 := hj; obtain rfl : j = 0 := (by omega); exact Ne.symm h)]
  rfl
theorem f1_plk (q : Int) : f1 q outB plkB = -q ∧ f1 q stoB plkB = q := by
  obtain ⟨a, b⟩ := doN_unif (f := z0) (pl_unif q) (j := 0) (show 0 < 1 by omega) 1 (by omega) (Nat.le_refl 1)
  have e : (plL q).getD 0 mv0 = ⟨outB, stoB, plkB, q⟩ := rfl
  rw [e] at a b
  have za : z0 outB plkB = 0 := rfl
  have zb : z0 stoB plkB = 0 := rfl
  dsimp only at a b
  rw [za] at a
  rw [zb] at b
  refine ⟨?_, ?_⟩
  · show doN z0 (plL q) 1 outB plkB = -q
    rw [a]; omega
  · show doN z0 (plL q) 1 stoB plkB = q
    rw [b]; omega
theorem f1_acc (q : Int) {a i : ByteArray} (h1 : a ≠ outB) (h2 : a ≠ stoB) : f1 q a i = 0 := by
  unfold f1
  rw [doN_acc _ (fun j hj => by have hj : j < 1 := hj; obtain rfl : j = 0 := (by omega); exact ⟨Ne.symm h1, Ne.symm h2⟩)]
  rfl
theorem f2_acc {q : Int} {NL : List Lt} {a i : ByteArray} (h1 : a ≠ outB) (h2 : a ≠ stoB) : f2 q NL a i = 0 := by
  unfold f2
  rw [doN_acc _ (fun j hj => by rw [buyL_len] at hj; rw [buyL_get hj]; exact ⟨Ne.symm h1, Ne.symm h2⟩)]
  exact f1_acc q h1 h2
theorem f2_other {q : Int} {NL : List Lt} {a i : ByteArray} (h : ∀ j, j < NL.length → (NL.getD j lt0).s ≠ i) : f2 q NL a i = f1 q a i := by
  unfold f2
  exact doN_other _ (fun j hj => by rw [buyL_len] at hj; rw [buyL_get hj]; exact h j hj)
theorem code_pl {q : Int} (h : 1 ≤ q) : refN z0 (doN z0 (plL q) (plL q).length) (plsN (plL q) (plL q).length) (2 * (plL q).length) = 0 :=
  code_zero (pl_unif q) (.inl out_out) (fun j hj => by
    have hj : j < 1 := hj
    obtain rfl : j = 0 := by omega
    show 0 ≤ (0 : Int) + q
    omega)
theorem f3_other {q : Int} {NL : List Lt} {a i : ByteArray} (h : ∀ j, j < NL.length → (NL.getD j lt0).s ≠ i) : f3 q NL a i = f1 q a i := by
  unfold f3
  rw [doN_other _ (fun j hj => by rw [useL_len] at hj; rw [useL_get hj]; exact h j hj)]
  exact f2_other h
theorem f3_acc {q : Int} {NL : List Lt} {a i : ByteArray} (h1 : a ≠ outB) (h2 : a ≠ stoB) (h3 : a ≠ casB) : f3 q NL a i = 0 := by
  unfold f3
  rw [doN_acc _ (fun j hj => by rw [useL_len] at hj; rw [useL_get hj]; exact ⟨Ne.symm h2, Ne.symm h3⟩)]
  exact f2_acc h1 h2
section
variable {q : Int} {NL : List Lt} (G : Good NL)
include G
theorem f2_item {j : Nat} (hj : j < NL.length) : f2 q NL outB (NL.getD j lt0).s = -(NL.getD j lt0).q ∧ f2 q NL stoB (NL.getD j lt0).s = (NL.getD j lt0).q := by
  obtain ⟨a, b⟩ := doN_unif (f := f1 q) (buy_unif G) (j := j) (by rw [buyL_len]; exact hj) (buyL NL).length (by rw [buyL_len]; exact hj) (Nat.le_refl _)
  rw [buyL_get hj] at a b
  dsimp only at a b
  rw [f1_item q (G.pl j hj)] at a b
  unfold f2
  rw [a, b]
  omega
theorem f3_item {j : Nat} (hj : j < NL.length) : f3 q NL stoB (NL.getD j lt0).s = 0 ∧ f3 q NL casB (NL.getD j lt0).s = (NL.getD j lt0).q ∧ f3 q NL outB (NL.getD j lt0).s = -(NL.getD j lt0).q := by
  obtain ⟨a, b⟩ := doN_unif (f := f2 q NL) (use_unif G) (j := j) (by rw [useL_len]; exact hj) (useL NL).length (by rw [useL_len]; exact hj) (Nat.le_refl _)
  rw [useL_get hj] at a b
  dsimp only at a b
  obtain ⟨c, d⟩ := f2_item (q := q) G hj
  rw [d] at a
  rw [f2_acc (Ne.symm out_cas) (Ne.symm sto_cas)] at b
  refine ⟨?_, ?_, ?_⟩
  · unfold f3; rw [a]; omega
  · unfold f3; rw [b]; omega
  · unfold f3
    rw [doN_acc _ (fun j hj => by rw [useL_len] at hj; rw [useL_get hj]; exact ⟨Ne.symm out_sto, Ne.symm out_cas⟩)]
    exact c
theorem f3_plk : f3 q NL stoB plkB = q := by
  rw [f3_other (fun j hj => G.pl j hj)]
  exact (f1_plk q).2

/-! ### what is told -/
theorem code_use1 : refN (f1 q) (doN z0 (useL NL) (useL NL).length) (plsN (useL NL) (useL NL).length) (2 * (useL NL).length) = 10 := by
  have h0 : 0 < NL.length := G.l1
  refine code_ten (use_unif G) (by rw [useL_len]; exact G.l1) sto_out ?_
  rw [useL_get h0]
  dsimp only
  rw [f1_item q (G.pl 0 h0)]
  have := (G.q 0 h0).1
  omega
theorem code_buy : refN (f1 q) (doN z0 (buyL NL) (buyL NL).length) (plsN (buyL NL) (buyL NL).length) (2 * (buyL NL).length) = 0 :=
  code_zero (buy_unif G) (.inl out_out) (fun j hj => by
    rw [buyL_len] at hj
    rw [buyL_get hj]
    dsimp only
    rw [f1_item q (G.pl j hj)]
    have := (G.q j hj).1
    omega)
theorem code_use2 : refN (f2 q NL) (doN z0 (useL NL) (useL NL).length) (plsN (useL NL) (useL NL).length) (2 * (useL NL).length) = 0 :=
  code_zero (use_unif G) (.inr (fun j hj => by
    rw [useL_len] at hj
    rw [useL_get hj]
    dsimp only
    rw [(f2_item G hj).2]
    omega)) (fun j hj => by
    rw [useL_len] at hj
    rw [useL_get hj]
    dsimp only
    rw [f2_acc (Ne.symm out_cas) (Ne.symm sto_cas)]
    have := (G.q j hj).1
    omega)
theorem code_use3 : refN (f3 q NL) (doN z0 (useL NL) (useL NL).length) (plsN (useL NL) (useL NL).length) (2 * (useL NL).length) = 10 := by
  have h0 : 0 < NL.length := G.l1
  refine code_ten (use_unif G) (by rw [useL_len]; exact G.l1) sto_out ?_
  rw [useL_get h0]
  dsimp only
  rw [(f3_item G h0).1]
  have := (G.q 0 h0).1
  omega
end

/-! ### bounds -/
theorem bd_doN {f : Bal} {B : Int} {L : List Mv} (h : Bd f B) (hG : ∀ k, k < L.length → MvOk (L.getD k mv0)) : ∀ k, k ≤ L.length → Bd (doN f L k) (B + 2000000000 * (k : Int))
  | 0, _ => by
    rw [show B + 2000000000 * ((0 : Nat) : Int) = B by omega]
    exact h
  | k + 1, hk => by
    have h1 := bd_doN h hG k (by omega)
    have h2 := (bd_step h1 (szM_of (hG k (by omega)))).2
    rw [show B + 2000000000 * ((k + 1 : Nat) : Int) = B + 2000000000 * (k : Int) + 2000000000 by omega]
    exact h2
theorem bd_more {f : Bal} {B C : Int} (h : Bd f B) (hC : B ≤ C) : Bd f C := fun a i => by have := h a i; omega
theorem bd_z : Bd z0 0 := fun a i => by unfold z0; omega
theorem bd_f1 {q : Int} (h : 1 ≤ q ∧ q ≤ 1024) : Bd (f1 q) 2000000000 := by
  have := bd_doN bd_z (pl_ok h) 1 (Nat.le_refl 1)
  exact bd_more this (by omega)
theorem bd_f2 {q : Int} (h : 1 ≤ q ∧ q ≤ 1024) {NL : List Lt} (G : Good NL) : Bd (f2 q NL) 66000000000 := by
  have := bd_doN (bd_f1 h) (buy_ok G) _ (Nat.le_refl _)
  refine bd_more this ?_
  rw [buyL_len]
  have := G.l2
  omega
theorem bd_f3 {q : Int} (h : 1 ≤ q ∧ q ≤ 1024) {NL : List Lt} (G : Good NL) : Bd (f3 q NL) 130000000000 := by
  have := bd_doN (bd_f2 h G) (use_ok G) _ (Nat.le_refl _)
  refine bd_more this ?_
  rw [useL_len]
  have := G.l2
  omega

/-! ### the disk -/
def esL (q : Int) (NL : List Lt) : List (List Mv) := [plL q, buyL NL, useL NL]
theorem esL_ok {q : Int} (h : 1 ≤ q ∧ q ≤ 1024) {NL : List Lt} (G : Good NL) : ∀ L ∈ esL q NL, (1 ≤ L.length ∧ L.length ≤ 32) ∧ ∀ k, k < L.length → MvOk (L.getD k mv0) := by
  intro L hL
  simp only [esL, List.mem_cons, List.not_mem_nil, or_false] at hL
  rcases hL with rfl | rfl | rfl
  · exact ⟨⟨Nat.le_refl 1, show 1 ≤ 32 by omega⟩, pl_ok h⟩
  · exact ⟨by rw [buyL_len]; exact ⟨G.l1, G.l2⟩, buy_ok G⟩
  · exact ⟨by rw [useL_len]; exact ⟨G.l1, G.l2⟩, use_ok G⟩
theorem encA_esL (q : Int) (NL : List Lt) : encA (esL q NL) = encB (plL q) ++ encB (buyL NL) ++ encB (useL NL) := by
  simp only [esL, encA, List.append_nil, List.append_assoc]
theorem be_lt (n k : Nat) : ∀ x ∈ be n k, x < 256 := by
  intro x hx
  unfold be at hx
  have : ∀ j, ∀ x ∈ beT n k j, x < 256 := by
    intro j
    induction j with
    | zero => intro x hx; simp [beT] at hx
    | succ j ih =>
      intro x hx
      rw [beT, List.mem_append, List.mem_singleton] at hx
      rcases hx with hx | rfl
      · exact ih x hx
      · exact Nat.mod_lt _ (by decide)
  exact this _ x hx
theorem encB_lt {L : List Mv} (hL : L.length ≤ 32) (hG : ∀ k, k < L.length → MvOk (L.getD k mv0)) : ∀ x ∈ encB L, x < 256 := by
  intro x hx
  unfold encB at hx
  rw [List.mem_append, List.mem_append] at hx
  rcases hx with (hx | hx) | hx
  · exact be_lt _ _ x hx
  · exact be_lt _ _ x hx
  · exact bodyN_lt hL hG L.length (Nat.le_refl _) x hx
theorem encA_lt : ∀ (es : List (List Mv)), (∀ L ∈ es, (1 ≤ L.length ∧ L.length ≤ 32) ∧ ∀ k, k < L.length → MvOk (L.getD k mv0)) → ∀ x ∈ encA es, x < 256
  | [], _, x, hx => by simp [encA] at hx
  | L :: r, h, x, hx => by
    rw [encA, List.mem_append] at hx
    rcases hx with hx | hx
    · exact encB_lt (h L (by simp)).1.2 (h L (by simp)).2 x hx
    · exact encA_lt r (fun M hM => h M (by simp [hM])) x hx
theorem encA_le : ∀ (es : List (List Mv)), (∀ L ∈ es, (1 ≤ L.length ∧ L.length ≤ 32) ∧ ∀ k, k < L.length → MvOk (L.getD k mv0)) → (encA es).length ≤ 2000 * es.length
  | [], _ => by simp [encA]
  | L :: r, h => by
    have h1 := encB_len (h L (by simp)).1.2 (h L (by simp)).2
    have h2 := encA_le r (fun M hM => h M (by simp [hM]))
    rw [encA, List.length_append, List.length_cons]
    omega
theorem balA_esL (q : Int) (NL : List Lt) : balA (esL q NL) 0 = z0 ∧ balA (esL q NL) 1 = f1 q ∧ balA (esL q NL) 2 = f2 q NL ∧ balA (esL q NL) 3 = f3 q NL := ⟨rfl, rfl, rfl, rfl⟩
theorem bd_esL {q : Int} (h : 1 ≤ q ∧ q ≤ 1024) {NL : List Lt} (G : Good NL) : ∀ k, k ≤ (esL q NL).length → Bd (balA (esL q NL) k) 1000000000000000 := by
  intro k hk
  have hk : k ≤ 3 := hk
  rcases (show k = 0 ∨ k = 1 ∨ k = 2 ∨ k = 3 by omega) with rfl | rfl | rfl | rfl
  · exact bd_more bd_z (by omega)
  · exact bd_more (bd_f1 h) (by omega)
  · exact bd_more (bd_f2 h G) (by omega)
  · exact bd_more (bd_f3 h G) (by omega)

/-! ### as many lots -/
def plsL (NL : List Lt) : List Pl := (outB, plkB) :: (stoB, plkB) :: ((NL.map fun l => (casB, l.s)) ++ NL.map fun l => (outB, l.s))
theorem plsL_len (NL : List Lt) : (plsL NL).length = 2 + 2 * NL.length := by
  simp only [plsL, List.length_cons, List.length_append, List.length_map]
  omega
theorem mem_lots {NL : List Lt} {a i F : ByteArray} : (a, i) ∈ (NL.map fun l => (F, l.s)) ↔ a = F ∧ ∃ j, j < NL.length ∧ (NL.getD j lt0).s = i := by
  rw [List.mem_map]
  constructor
  · rintro ⟨l, hl, e⟩
    simp only [Prod.mk.injEq] at e
    obtain ⟨j, hj, rfl⟩ := List.mem_iff_getElem.1 hl
    exact ⟨e.1.symm, j, hj, by rw [← e.2]; simp [List.getD, List.getElem?_eq_getElem hj]⟩
  · rintro ⟨rfl, j, hj, rfl⟩
    refine ⟨NL[j], List.getElem_mem hj, ?_⟩
    simp [List.getD, List.getElem?_eq_getElem hj]
theorem nodup_lots {NL : List Lt} (G : Good NL) (F : ByteArray) : (NL.map fun l => (F, l.s)).Nodup := by
  unfold List.Nodup
  rw [List.pairwise_map, List.pairwise_iff_getElem]
  intro j k hj hk hjk e
  simp only [Prod.mk.injEq, true_and] at e
  have := G.ap j k hj hk (by simp only [List.getD, List.getElem?_eq_getElem hj, List.getElem?_eq_getElem hk, Option.getD_some]; exact e)
  omega
theorem plsL_nodup {NL : List Lt} (G : Good NL) : (plsL NL).Nodup := by
  have hp : ∀ F F', (F', plkB) ∉ (NL.map fun l => (F, l.s)) := fun F F' h => by
    obtain ⟨_, j, hj, e⟩ := mem_lots.1 h
    exact G.pl j hj e
  unfold plsL
  rw [List.nodup_cons, List.nodup_cons, List.nodup_append]
  refine ⟨?_, ?_, nodup_lots G _, nodup_lots G _, ?_⟩
  · rw [List.mem_cons, List.mem_append]
    rintro (h | h | h)
    · simp only [Prod.mk.injEq] at h
      exact out_sto h.1
    · exact hp _ _ h
    · exact hp _ _ h
  · rw [List.mem_append]
    rintro (h | h)
    · exact hp _ _ h
    · exact hp _ _ h
  · rintro ⟨a, i⟩ hx ⟨b, k⟩ hy e
    simp only [Prod.mk.injEq] at e
    have h1 := (mem_lots.1 hx).1
    have h2 := (mem_lots.1 hy).1
    exact out_cas (by rw [← h2, ← e.1, h1])
theorem nz_f3 {q : Int} (h : 1 ≤ q ∧ q ≤ 1024) {NL : List Lt} (G : Good NL) (a i : ByteArray) : nz (f3 q NL) a i = true ↔ (a, i) ∈ plsL NL := by
  unfold nz plsL
  rw [decide_eq_true_eq, List.mem_cons, List.mem_cons, List.mem_append, mem_lots, mem_lots]
  simp only [Prod.mk.injEq]
  by_cases hi : ∃ j, j < NL.length ∧ (NL.getD j lt0).s = i
  · obtain ⟨j, hj, rfl⟩ := hi
    obtain ⟨h1, h2, h3⟩ := f3_item (q := q) G hj
    have hq := (G.q j hj).1
    have hpl := G.pl j hj
    constructor
    · intro hne
      by_cases ha : a = outB
      · exact .inr (.inr (.inr ⟨ha, j, hj, rfl⟩))
      · by_cases hb : a = stoB
        · rw [hb, h1] at hne; exact absurd rfl hne
        · by_cases hc : a = casB
          · exact .inr (.inr (.inl ⟨hc, j, hj, rfl⟩))
          · exact absurd (f3_acc ha hb hc) hne
    · rintro (⟨_, e⟩ | ⟨_, e⟩ | ⟨rfl, _⟩ | ⟨rfl, _⟩)
      · exact absurd e hpl
      · exact absurd e hpl
      · rw [h2]; omega
      · rw [h3]; omega
  · have ho : ∀ j, j < NL.length → (NL.getD j lt0).s ≠ i := fun j hj e => hi ⟨j, hj, e⟩
    rw [f3_other ho]
    constructor
    · intro hne
      by_cases he : i = plkB
      · by_cases ha : a = outB
        · exact .inl ⟨ha, he⟩
        · by_cases hb : a = stoB
          · exact .inr (.inl ⟨hb, he⟩)
          · exact absurd (f1_acc q ha hb) hne
      · exact absurd (f1_item q he) hne
    · rintro (⟨rfl, rfl⟩ | ⟨rfl, rfl⟩ | ⟨_, e⟩ | ⟨_, e⟩)
      · rw [(f1_plk q).1]; omega
      · rw [(f1_plk q).2]; omega
      · exact absurd e hi
      · exact absurd e hi
theorem plsL_sz {NL : List Lt} (G : Good NL) : ∀ p ∈ plsL NL, SzB p.1 ∧ SzB p.2 := by
  rintro ⟨a, i⟩ hp
  unfold plsL at hp
  rw [List.mem_cons, List.mem_cons, List.mem_append, mem_lots, mem_lots] at hp
  simp only [Prod.mk.injEq] at hp
  rcases hp with ⟨rfl, rfl⟩ | ⟨rfl, rfl⟩ | ⟨rfl, j, hj, rfl⟩ | ⟨rfl, j, hj, rfl⟩
  · exact ⟨sz_of_name out_ok, sz_of_name plk_ok⟩
  · exact ⟨sz_of_name sto_ok, sz_of_name plk_ok⟩
  · exact ⟨sz_of_name cas_ok, sz_of_name (G.nm j hj)⟩
  · exact ⟨sz_of_name out_ok, sz_of_name (G.nm j hj)⟩
theorem lots_len {q : Int} (h : 1 ≤ q ∧ q ≤ 1024) {NL : List Lt} (G : Good NL) {L : List Pl} (hn : L.Nodup) (hs : ∀ p ∈ L, SzB p.1 ∧ SzB p.2) (hm : ∀ a i, SzB a → SzB i → ((a, i) ∈ L ↔ nz (f3 q NL) a i = true)) : L.length = 2 + 2 * NL.length := by
  rw [← plsL_len]
  refine nodup_same hn (plsL_nodup G) ?_
  rintro ⟨a, i⟩
  constructor
  · intro hp
    obtain ⟨h1, h2⟩ := hs _ hp
    exact (nz_f3 h G a i).1 ((hm a i h1 h2).1 hp)
  · intro hp
    obtain ⟨h1, h2⟩ := plsL_sz G _ hp
    exact (hm a i h1 h2).2 ((nz_f3 h G a i).2 hp)
theorem nz_some {q : Int} (h : 1 ≤ q ∧ q ≤ 1024) {NL : List Lt} (G : Good NL) : ∃ a i, SzB a ∧ SzB i ∧ nz (f3 q NL) a i = true :=
  ⟨outB, plkB, sz_of_name out_ok, sz_of_name plk_ok, (nz_f3 h G _ _).2 (by unfold plsL; simp)⟩
end Go.Proofs
end

