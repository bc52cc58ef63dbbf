/- Plain law of WireLengths: the quantities add up, no item occurs twice. -/
import Derived.Test.YtmnalmmffphnpaaDoorNeedsLaw
import Derived.Test.YtmnalmmffphnpaaDoorWFit
open Go.RowKit Go.Deep
namespace Go.Proofs
set_option linter.unusedVariables false
set_option linter.unusedSimpArgs false

/-- the sum of the first n -/
def sumZ (f : Nat → Int) : Nat → Int
  | 0 => 0
  | n + 1 => sumZ f n + f n
theorem sumZ_congr {f g : Nat → Int} : ∀ {n : Nat}, (∀ i, i < n → f i = g i) → sumZ f n = sumZ g n
  | 0, _ => rfl
  | n + 1, h => by
    unfold sumZ
    rw [sumZ_congr (n := n) fun i hi => h i (by omega), h n (by omega)]
theorem sumZ_add (f g : Nat → Int) : ∀ n, sumZ (fun i => f i + g i) n = sumZ f n + sumZ g n
  | 0 => rfl
  | n + 1 => by
    unfold sumZ
    rw [sumZ_add f g n]
    omega
theorem sumZ_zero {f : Nat → Int} : ∀ {n : Nat}, (∀ i, i < n → f i = 0) → sumZ f n = 0
  | 0, _ => rfl
  | n + 1, h => by
    unfold sumZ
    rw [sumZ_zero (n := n) fun i hi => h i (by omega), h n (by omega)]
    rfl
theorem sumZ_one {f : Nat → Int} {k : Nat} : ∀ {n : Nat}, k < n → (∀ i, i < n → i ≠ k → f i = 0) → sumZ f n = f k
  | 0, h, _ => by omega
  | n + 1, h, h2 => by
    unfold sumZ
    by_cases e : k = n
    · subst e
      rw [sumZ_zero (n := k) fun i hi => h2 i (by omega) (by omega)]
      omega
    · rw [sumZ_one (n := n) (by omega) fun i hi => h2 i (by omega), h2 n (by omega) (by omega)]
      omega
theorem sumZ_bd {f : Nat → Int} {M : Int} : ∀ {n : Nat}, (∀ i, i < n → 0 ≤ f i ∧ f i ≤ M) → 0 ≤ sumZ f n ∧ sumZ f n ≤ M * (n : Int)
  | 0, _ => by simp [sumZ]
  | n + 1, h => by
    have h1 := sumZ_bd (n := n) (M := M) fun i hi => h i (by omega)
    have h2 := h n (by omega)
    unfold sumZ
    rw [Int.natCast_add, Int.mul_add]
    omega

theorem lt_getD_left {A : List Lt} {B : List Lt} {i : Nat} (h : i < A.length) : (A ++ B).getD i lt0 = A.getD i lt0 := by
  simp [List.getD, List.getElem?_append_left h]
theorem lt_getD_last (A : List Lt) (x : Lt) : (A ++ [x]).getD A.length lt0 = x := by
  simp [List.getD]

/-- the quantities of the list -/
def qsum (L : List Lt) (n : Nat) : Int := sumZ (fun i => (L.getD i lt0).q) n
theorem needs_sum (S : Scl) (P : List Pk) (tail : Int) : ∀ k, (∀ j, j < k → 0 ≤ (lotK S P tail j).q) →
    qsum (needs S P tail k) (needs S P tail k).length = sumZ (fun j => (lotK S P tail j).q) k
  | 0, _ => rfl
  | k + 1, h => by
    have ih := needs_sum S P tail k fun j hj => h j (by omega)
    have h0 := h k (by omega)
    rw [needs]
    split
    · rename_i hp
      unfold qsum at ih ⊢
      rw [List.length_append, List.length_singleton]
      unfold sumZ
      rw [lt_getD_last, ← ih]
      congr 1
      exact sumZ_congr fun i hi => by rw [lt_getD_left hi]
    · unfold qsum at ih ⊢
      conv => rhs; unfold sumZ
      rw [ih]
      omega

theorem sumN_step (S : Scl) (P : List Pk) (tail : Int) (p : Pk) (i : Nat) :
    sumN S P tail p (i + 1) = sumN S P tail p i + (if p.m = (P.getD i p0).m ∧ p.g = (P.getD i p0).g then (S.cs.getD i c0).l + tail else 0) := by
  rw [sumN]
  split <;> omega
theorem pkK_at {ng : Nat} (hg : 0 < ng) {m g : Int} {nm : Nat} (hm : 0 ≤ m ∧ m < nm) (hgg : 0 ≤ g ∧ g < ng) :
    ∃ k, k < nm * ng ∧ (pkK ng k).m = m ∧ (pkK ng k).g = g ∧ ∀ j, j ≠ k → ¬ ((pkK ng j).m = m ∧ (pkK ng j).g = g) := by
  obtain ⟨a, rfl⟩ := Int.eq_ofNat_of_zero_le hm.1
  obtain ⟨b, rfl⟩ := Int.eq_ofNat_of_zero_le hgg.1
  have ha : a < nm := by omega
  have hb : b < ng := by omega
  have e1 : (ng * a + b) / ng = a := by rw [Nat.mul_add_div hg, Nat.div_eq_of_lt hb, Nat.add_zero]
  have e2 : (ng * a + b) % ng = b := by rw [Nat.mul_add_mod, Nat.mod_eq_of_lt hb]
  refine ⟨ng * a + b, ?_, ?_, ?_, ?_⟩
  · have h1 : ng * (a + 1) ≤ ng * nm := Nat.mul_le_mul_left _ ha
    rw [Nat.mul_comm nm ng]
    rw [Nat.mul_add] at h1
    omega
  · unfold pkK; dsimp only; rw [e1]
  · unfold pkK; dsimp only; rw [e2]
  · rintro j hj ⟨h1, h2⟩
    unfold pkK at h1 h2
    dsimp only at h1 h2
    have h3 : j / ng = a := by omega
    have h4 : j % ng = b := by omega
    have h5 := Nat.div_add_mod j ng
    rw [h3, h4] at h5
    exact hj h5.symm
theorem lots_sum {S : Scl} {P : List Pk} {tail : Int} (hg : 0 < S.gs.length) : ∀ n, (∀ i, i < n → pkOk S (P.getD i p0) = true) →
    sumZ (fun k => sumN S P tail (pkK S.gs.length k) n) (S.ms.length * S.gs.length) = sumZ (fun i => (S.cs.getD i c0).l + tail) n
  | 0, _ => sumZ_zero fun i hi => rfl
  | n + 1, h => by
    have ih := lots_sum (tail := tail) hg n fun i hi => h i (by omega)
    have hp := h n (by omega)
    unfold pkOk at hp
    rw [Bool.and_eq_true, decide_eq_true_eq, decide_eq_true_eq] at hp
    obtain ⟨k, hk, k1, k2, k3⟩ := pkK_at hg hp.1 hp.2
    rw [sumZ_congr fun i _ => sumN_step S P tail (pkK S.gs.length i) n, sumZ_add, ih]
    conv => rhs; unfold sumZ
    congr 1
    rw [sumZ_one hk fun i _ hne => if_neg (k3 i hne), if_pos ⟨k1, k2⟩]

/-- all that is needed, together: all lengths and tails -/
theorem needs_total {S : Scl} (hs : sclOk S = true) {P : List Pk} {tail : Int} (ht : 0 ≤ tail ∧ tail ≤ 100000) (hf : fitsB S P = true) :
    qsum (needs S P tail (S.ms.length * S.gs.length)) (needs S P tail (S.ms.length * S.gs.length)).length = sumZ (fun i => (S.cs.getD i c0).l + tail) S.cs.length := by
  unfold fitsB at hf
  rw [Bool.and_eq_true, allTo_iff, decide_eq_true_eq] at hf
  obtain ⟨_, _, hl16, _, _⟩ := headOk_lens (headOk_of hs)
  rw [needs_sum S P tail _ fun j hj => (sumN_bd hs ht _ _ (by rw [hf.2]; exact Nat.le_refl _)).1, ← hf.2]
  exact lots_sum hl16.1 _ hf.1

/-- each quantity is above 0, and small -/
theorem needs_q {S : Scl} (hs : sclOk S = true) {P : List Pk} {tail : Int} (ht : 0 ≤ tail ∧ tail ≤ 100000) (hf : fitsB S P = true) : ∀ k i, i < (needs S P tail k).length →
    ∃ j, j < k ∧ (needs S P tail k).getD i lt0 = lotK S P tail j ∧ 1 ≤ (lotK S P tail j).q ∧ (lotK S P tail j).q ≤ 19200000
  | 0, i, h => by simp [needs] at h
  | k + 1, i, h => by
    unfold fitsB at hf
    rw [Bool.and_eq_true, allTo_iff, decide_eq_true_eq] at hf
    obtain ⟨hl96, _, _, _, _⟩ := headOk_lens (headOk_of hs)
    have hb := (sumN_bd hs (P := P) ht (pkK S.gs.length k) P.length (by rw [hf.2]; exact Nat.le_refl _)).2
    have hl := hf.2
    have ih := needs_q hs (P := P) ht (by unfold fitsB; rw [Bool.and_eq_true, allTo_iff, decide_eq_true_eq]; exact hf) k
    rw [needs] at h ⊢
    by_cases hp : 0 < (lotK S P tail k).q
    · rw [if_pos hp] at h ⊢
      rw [List.length_append, List.length_singleton] at h
      by_cases hi : i < (needs S P tail k).length
      · obtain ⟨j, h1, h2, h3⟩ := ih i hi
        exact ⟨j, by omega, by rw [lt_getD_left hi]; exact h2, h3⟩
      · obtain rfl : i = (needs S P tail k).length := by omega
        refine ⟨k, by omega, lt_getD_last _ _, hp, ?_⟩
        unfold lotK
        dsimp only
        omega
    · rw [if_neg hp] at h ⊢
      obtain ⟨j, h1, h2, h3⟩ := ih i h
      exact ⟨j, by omega, h2, h3⟩

/-- a numeral is of digits, and says its number -/
theorem dec_digits (u : Nat) : ∀ c ∈ Lib.decDigits u, c ≠ 103 := by
  induction u using Nat.strongRecOn with
  | _ u ih =>
    intro c hc
    have hd : ∀ x, x < 10 → UInt8.ofNat (48 + x) ≠ 103 := by decide
    by_cases h : u < 10
    · rw [Lib.decDigits, dif_pos h, List.mem_singleton] at hc
      rw [hc]
      exact hd u h
    · rw [Lib.decDigits, dif_neg h, List.mem_append, List.mem_singleton] at hc
      rcases hc with hc | hc
      · exact ih (u / 10) (by omega) c hc
      · rw [hc]
        exact hd _ (Nat.mod_lt _ (by decide))
def decVal (l : List UInt8) : Nat := l.foldl (fun a c => a * 10 + (c.toNat - 48)) 0
theorem decVal_dec (u : Nat) : decVal (Lib.decDigits u) = u := by
  induction u using Nat.strongRecOn with
  | _ u ih =>
    have hd : ∀ x, x < 10 → (UInt8.ofNat (48 + x)).toNat - 48 = x := by decide
    by_cases h : u < 10
    · rw [Lib.decDigits, dif_pos h]
      unfold decVal
      simp only [List.foldl_cons, List.foldl_nil]
      rw [hd u h]
      omega
    · have h2 := ih (u / 10) (by omega)
      rw [Lib.decDigits, dif_neg h]
      unfold decVal at h2 ⊢
      rw [List.foldl_append, h2]
      simp only [List.foldl_cons, List.foldl_nil]
      rw [hd _ (Nat.mod_lt _ (by decide))]
      omega
theorem cut103 : ∀ {a b c d : List UInt8}, (∀ x ∈ a, x ≠ 103) → (∀ x ∈ b, x ≠ 103) → a ++ 103 :: c = b ++ 103 :: d → a = b ∧ c = d
  | [], [], c, d, _, _, h => by simpa using h
  | [], y :: b, c, d, _, hb, h => by
    simp only [List.nil_append, List.cons_append, List.cons.injEq] at h
    exact absurd h.1.symm (hb y (by simp))
  | x :: a, [], c, d, ha, _, h => by
    simp only [List.nil_append, List.cons_append, List.cons.injEq] at h
    exact absurd h.1 (ha x (by simp))
  | x :: a, y :: b, c, d, ha, hb, h => by
    simp only [List.cons_append, List.cons.injEq] at h
    obtain ⟨h1, h2⟩ := cut103 (fun z hz => ha z (by simp [hz])) (fun z hz => hb z (by simp [hz])) h.2
    exact ⟨by rw [h.1, h1], h2⟩
theorem itoa_pos {n : Int} (h : 0 ≤ n) : Lib.itoa n = Lib.decDigits n.toNat := by unfold Lib.itoa; rw [if_neg (by omega)]
theorem itemB_list (a b : Int) : (itemB a b).data.toList = 109 :: (Lib.itoa a ++ 103 :: Lib.itoa b) := by
  unfold itemB mB gB itB
  simp [ByteArray.data_append]
theorem itemB_inj {a b c d : Int} (ha : 0 ≤ a) (hb : 0 ≤ b) (hc : 0 ≤ c) (hd : 0 ≤ d) (h : itemB a b = itemB c d) : a = c ∧ b = d := by
  have h1 : (itemB a b).data.toList = (itemB c d).data.toList := by rw [h]
  rw [itemB_list, itemB_list, itoa_pos ha, itoa_pos hb, itoa_pos hc, itoa_pos hd, List.cons.injEq] at h1
  obtain ⟨h2, h3⟩ := cut103 (dec_digits _) (dec_digits _) h1.2
  have h4 := congrArg decVal h2
  have h5 := congrArg decVal h3
  rw [decVal_dec, decVal_dec] at h4 h5
  omega

theorem gauges_fall {S : Scl} (hs : sclOk S = true) {i : Nat} : ∀ j, i < j → j < S.gs.length → S.gs.getD j 0 < S.gs.getD i 0
  | 0, h, _ => by omega
  | j + 1, h, hj => by
    have hg : gOk S.gs (j + 1) = true := by
      unfold sclOk at hs
      simp only [Bool.and_eq_true] at hs
      exact allTo_iff.1 hs.1.1.2 (j + 1) hj
    unfold gOk at hg
    simp only [Bool.and_eq_true, Bool.or_eq_true, decide_eq_true_eq, Nat.add_sub_cancel] at hg
    have h2 : S.gs.getD (j + 1) 0 < S.gs.getD j 0 := by
      rcases hg.2 with h3 | h3
      · omega
      · exact h3
    by_cases e : i = j
    · rw [e]; exact h2
    · have h3 := gauges_fall hs (i := i) j (by omega) (by omega)
      omega
theorem gauge_pos {S : Scl} (hs : sclOk S = true) {i : Nat} (hi : i < S.gs.length) : 0 ≤ S.gs.getD i 0 := by
  have hg : gOk S.gs i = true := by
    unfold sclOk at hs
    simp only [Bool.and_eq_true] at hs
    exact allTo_iff.1 hs.1.1.2 i hi
  unfold gOk inR at hg
  simp only [Bool.and_eq_true, Bool.or_eq_true, decide_eq_true_eq] at hg
  omega
theorem lot_name {S : Scl} (hs : sclOk S = true) {P : List Pk} {tail : Int} {j k : Nat} (h : (lotK S P tail j).s = (lotK S P tail k).s) : j = k := by
  obtain ⟨_, _, hl16, _, _⟩ := headOk_lens (headOk_of hs)
  have g1 := Nat.mod_lt j hl16.1
  have g2 := Nat.mod_lt k hl16.1
  unfold lotK at h
  dsimp only at h
  obtain ⟨h1, h2⟩ := itemB_inj (Int.natCast_nonneg _) (gauge_pos hs g1) (Int.natCast_nonneg _) (gauge_pos hs g2) h
  have h3 : j % S.gs.length = k % S.gs.length := by
    rcases Nat.lt_trichotomy (j % S.gs.length) (k % S.gs.length) with h4 | h4 | h4
    · have := gauges_fall hs _ h4 g2
      omega
    · exact h4
    · have := gauges_fall hs _ h4 g1
      omega
  have h4 : j / S.gs.length = k / S.gs.length := Int.ofNat.inj h1
  rw [← Nat.div_add_mod j S.gs.length, ← Nat.div_add_mod k S.gs.length, h3, h4]
/-- no item occurs twice -/
theorem needs_names {S : Scl} (hs : sclOk S = true) {P : List Pk} {tail : Int} (ht : 0 ≤ tail ∧ tail ≤ 100000) (hf : fitsB S P = true) : ∀ k i j, i < (needs S P tail k).length → j < i →
    ((needs S P tail k).getD j lt0).s ≠ ((needs S P tail k).getD i lt0).s
  | 0, i, j, h, _ => by simp [needs] at h
  | k + 1, i, j, h, hj => by
    have ih := needs_names hs (P := P) ht hf k
    rw [needs] at h ⊢
    by_cases hp : 0 < (lotK S P tail k).q
    · rw [if_pos hp] at h ⊢
      rw [List.length_append, List.length_singleton] at h
      by_cases hi : i < (needs S P tail k).length
      · rw [lt_getD_left hi, lt_getD_left (by omega)]
        exact ih i j hi hj
      · obtain rfl : i = (needs S P tail k).length := by omega
        rw [lt_getD_last, lt_getD_left hj]
        obtain ⟨j2, h1, h2, _⟩ := needs_q hs ht hf k j hj
        rw [h2]
        intro e
        have := lot_name hs e
        omega
    · rw [if_neg hp] at h ⊢
      exact ih i j h hj

theorem bytes_inj {a b : ByteArray} (h : a.toList = b.toList) : a = b := by
  rw [ByteArray.toList_eq, ByteArray.toList_eq] at h
  obtain ⟨x⟩ := a
  obtain ⟨y⟩ := b
  have h2 : x = y := Array.toList_inj.1 h
  rw [h2]

end Go.Proofs
