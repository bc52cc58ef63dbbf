/- The plain law of ToneTexts and ToneBack: what parses a tone's text finds the tone. -/
import Derived.Shelf.Strings.Split
import Derived.Shelf.Strings.Cut
import Derived.Lib.AtoiAll
import Derived.Lib.ItoaNum
import Derived.Lib.ItoaMem
import Derived.Lib.IndexBytes
import Derived.Lib.CountLaws
import Derived.Lib.SplitLaws
namespace Go.Proofs
set_option linter.unusedVariables false
set_option linter.unusedSimpArgs false

def isDg (b : UInt8) : Prop := 48 ≤ b.toNat ∧ b.toNat ≤ 57
theorem dg_new (k : Nat) (h : k < 10) : (UInt8.ofNat (48 + k)).toNat = 48 + k := by
  rw [UInt8.toNat_ofNat']
  omega
theorem dec_dg : ∀ (u : Nat), ∀ b ∈ Lib.decDigits u, isDg b := by
  intro u
  induction u using Nat.strongRecOn with
  | _ u ih =>
    intro b hb
    rw [Lib.decDigits] at hb
    split at hb
    · rename_i h
      rw [List.mem_singleton.1 hb]
      unfold isDg
      rw [dg_new u h]
      omega
    · rcases List.mem_append.1 hb with h | h
      · exact ih (u / 10) (by omega) b h
      · rw [List.mem_singleton.1 h]
        unfold isDg
        rw [dg_new _ (by omega)]
        omega
theorem dec_ne (u : Nat) : Lib.decDigits u ≠ [] := by
  rw [Lib.decDigits]
  split
  · simp
  · simp
theorem dec_len : ∀ (k u : Nat), u < 10 ^ (k + 1) → (Lib.decDigits u).length ≤ k + 1 := by
  intro k
  induction k with
  | zero =>
    intro u h
    rw [Lib.decDigits, dif_pos (by simpa using h)]
    simp
  | succ k ih =>
    intro u h
    rw [Lib.decDigits]
    split
    · simp
    · have h2 := ih (u / 10) (by rw [Nat.pow_succ] at h; omega)
      rw [List.length_append, List.length_singleton]
      omega
/-- the number that digits spell -/
def decL (acc : Nat) : List UInt8 → Nat
  | [] => acc
  | b :: r => decL (acc * 10 + (b.toNat - 48)) r
theorem decL_append : ∀ (l : List UInt8) (acc : Nat) (b : UInt8), decL acc (l ++ [b]) = decL acc l * 10 + (b.toNat - 48)
  | [], acc, b => rfl
  | c :: l, acc, b => by
    show decL _ (l ++ [b]) = _
    rw [decL_append l]
    rfl
theorem decL_dec : ∀ (u : Nat), decL 0 (Lib.decDigits u) = u := by
  intro u
  induction u using Nat.strongRecOn with
  | _ u ih =>
    rw [Lib.decDigits]
    split
    · rename_i h
      show 0 * 10 + ((UInt8.ofNat (48 + u)).toNat - 48) = u
      rw [dg_new u h]
      omega
    · rw [decL_append, ih (u / 10) (by omega), dg_new _ (by omega)]
      omega
theorem decL_le : ∀ (l : List UInt8) (acc : Nat), acc ≤ decL acc l
  | [], acc => Nat.le_refl _
  | b :: l, acc => Nat.le_trans (by omega) (decL_le l _)
theorem parse_u : ∀ (l : List UInt8) (acc : Nat), (∀ b ∈ l, isDg b) → decL acc l < 18446744073709551616 → Lib.parseUint10 acc l = .ok (decL acc l)
  | [], acc, _, _ => rfl
  | b :: l, acc, h, hb => by
    have h1 := h b (List.mem_cons_self ..)
    unfold isDg at h1
    have h2 := decL_le l (acc * 10 + (b.toNat - 48))
    have h3 : decL acc (b :: l) = decL (acc * 10 + (b.toNat - 48)) l := rfl
    rw [Lib.parseUint10, if_pos h1, if_neg (by omega), if_neg (by omega), h3]
    exact parse_u l _ (fun c hc => h c (List.mem_cons_of_mem _ hc)) (by rw [← h3]; exact hb)
theorem mag_dec (u : Nat) (hu : u < 18446744073709551616) : Lib.parseMag (Lib.decDigits u) = .ok u := by
  unfold Lib.parseMag
  rw [if_neg (dec_ne u), parse_u _ 0 (dec_dg u) (by rw [decL_dec]; exact hu), decL_dec]
theorem atoi_itoa (n : Int) (h0 : -9223372036854775808 ≤ n) (h1 : n < 9223372036854775808) : Lib.atoiAll (Lib.itoa n) = .ok n := by
  unfold Lib.itoa
  split
  · rename_i h
    unfold Lib.atoiAll
    have h45 : (45 : UInt8).toNat = 45 := rfl
    simp only [h45]
    rw [if_pos (.inr trivial), mag_dec _ (by omega)]
    simp only [not_true, false_and, if_false, true_and, if_true]
    rw [if_neg (by omega)]
    congr 1
    omega
  · rename_i h
    have hne := dec_ne n.toNat
    have hd := dec_dg n.toNat
    have hm := mag_dec n.toNat (by omega)
    unfold Lib.atoiAll
    cases hl : Lib.decDigits n.toNat with
    | nil => exact absurd hl hne
    | cons c r =>
      rw [hl] at hd hm
      have hc := hd c (List.mem_cons_self ..)
      unfold isDg at hc
      simp only
      rw [if_neg (by omega), hm]
      simp only
      rw [if_neg (by omega), if_neg (by omega), if_neg (by omega)]
      congr 1
      omega
/-- what strconv.Atoi returns beside the error -/
def avL (l : List UInt8) : Int := match Lib.atoiAll l with | .ok v => v | .range => Lib.atoiSat l | _ => 0
theorem av_itoa (n : Int) (h0 : -9223372036854775808 ≤ n) (h1 : n < 9223372036854775808) : avL (Lib.itoa n) = n := by
  unfold avL
  rw [atoi_itoa n h0 h1]
theorem itoa_bytes (n : Int) : ∀ b ∈ Lib.itoa n, b = 45 ∨ isDg b := by
  intro b hb
  unfold Lib.itoa at hb
  split at hb
  · rcases List.mem_cons.1 hb with h | h
    · exact .inl h
    · exact .inr (dec_dg _ b h)
  · exact .inr (dec_dg _ b hb)
theorem itoa_no (n : Int) (c : UInt8) (h : c = 46 ∨ c = 47) : ∀ b ∈ Lib.itoa n, b ≠ c := by
  intro b hb e
  subst e
  rcases itoa_bytes n b hb with h2 | h2
  · rcases h with h | h <;> (rw [h2] at h; exact absurd h (by decide))
  · unfold isDg at h2
    rcases h with h | h <;> (rw [h] at h2; exact absurd h2 (by decide))
theorem itoa_len (n : Int) (h : n.natAbs < 10000) : (Lib.itoa n).length ≤ 5 := by
  unfold Lib.itoa
  split
  · have := dec_len 3 n.natAbs (by omega)
    rw [List.length_cons]
    omega
  · have := dec_len 3 n.toNat (by omega)
    omega

theorem index_at (A B : List UInt8) (c : UInt8) (h : ∀ b ∈ A, b ≠ c) : Lib.index (A ++ c :: B) [c] = A.length := by
  rw [Lib.index_one]
  induction A with
  | nil => simp [Lib.indexByte]
  | cons a A ih =>
    have h1 := ih (fun b hb => h b (List.mem_cons_of_mem _ hb))
    have h2 := h a (List.mem_cons_self ..)
    rw [List.cons_append, Lib.indexByte, if_neg (by simpa using h2), h1, if_neg (by rw [beq_iff_eq]; omega), List.length_cons]
    omega
theorem index_not (A : List UInt8) (c : UInt8) (h : ∀ b ∈ A, b ≠ c) : Lib.index A [c] = -1 := by
  rw [Lib.index_one]
  induction A with
  | nil => rfl
  | cons a A ih =>
    have h1 := ih (fun b hb => h b (List.mem_cons_of_mem _ hb))
    have h2 := h a (List.mem_cons_self ..)
    rw [Lib.indexByte, if_neg (by simpa using h2), h1]
    rfl
theorem cut_at (A B : List UInt8) (c : UInt8) (h : ∀ b ∈ A, b ≠ c) : Lib.cut (A ++ c :: B) [c] = (A, B, true) := by
  unfold Lib.cut
  rw [index_at A B c h, if_pos (by omega), Int.toNat_natCast]
  simp
theorem count_at (A B : List UInt8) (c : UInt8) (h : ∀ b ∈ A, b ≠ c) : Lib.count (A ++ c :: B) [c] = 1 + Lib.count B [c] := by
  rw [Lib.count_hit (by simp) (index_at A B c h)]
  congr 2
  simp
theorem splitK_at (A B : List UInt8) (c : UInt8) (k : Nat) (h : ∀ b ∈ A, b ≠ c) : Lib.splitK [c] 0 (k + 1) (A ++ c :: B) = A :: Lib.splitK [c] 0 k B := by
  rw [Lib.splitK, index_at A B c h, if_neg (by rw [beq_iff_eq]; omega), Int.toNat_natCast]
  simp
theorem split_three (A B C : List UInt8) (c : UInt8) (hA : ∀ b ∈ A, b ≠ c) (hB : ∀ b ∈ B, b ≠ c) (hC : ∀ b ∈ C, b ≠ c) : Lib.split (A ++ c :: (B ++ c :: C)) [c] = [A, B, C] := by
  unfold Lib.split
  rw [count_at A _ c hA, count_at B C c hB, Lib.count_miss (index_not C c hC), show 1 + (1 + 0) = 0 + 1 + 1 from rfl, splitK_at A _ c _ hA, splitK_at B C c _ hB]
  rfl

/-! ### the document's way -/
/-- the integer at the beginning of l is v, and the rest r -/
def ValR (l : List UInt8) (v : Int) (r : List UInt8) : Prop :=
  ∃ (neg : Bool) (t : List UInt8), ((neg = true ∧ l = 45 :: t) ∨ (neg = false ∧ t = l ∧ l.head? ≠ some 45)) ∧
    ∃ j, j ≤ 5 ∧ j ≤ t.length ∧ (∀ b ∈ t.take j, isDg b) ∧ (j = 5 ∨ j = t.length ∨ ∃ b, t[j]? = some b ∧ ¬ isDg b) ∧ r = t.drop j ∧ v = if neg then -(decL 0 (t.take j) : Int) else (decL 0 (t.take j) : Int)
theorem run_len (D R : List UInt8) (hD : ∀ b ∈ D, isDg b) (hl : D.length ≤ 5) (hR : R = [] ∨ ∃ c r, R = c :: r ∧ ¬ isDg c) (j : Nat) (h5 : j ≤ 5) (hj : j ≤ (D ++ R).length) (hd : ∀ b ∈ (D ++ R).take j, isDg b)
    (he : j = 5 ∨ j = (D ++ R).length ∨ ∃ b, (D ++ R)[j]? = some b ∧ ¬ isDg b) : j = D.length := by
  rcases Nat.lt_trichotomy j D.length with h | h | h
  · rcases he with h1 | h1 | ⟨b, h1, h2⟩
    · omega
    · rw [List.length_append] at h1; omega
    · rw [List.getElem?_append_left h] at h1
      exact absurd (hD b (List.mem_of_getElem? h1)) h2
  · exact h
  · rcases hR with rfl | ⟨c, r, rfl, hc⟩
    · rw [List.append_nil] at hj; omega
    · exfalso
      refine hc (hd c ?_)
      have h1 : (D ++ c :: r)[D.length]? = some c := by
        rw [List.getElem?_append_right (Nat.le_refl _), Nat.sub_self]; rfl
      have h2 : ((D ++ c :: r).take j)[D.length]? = some c := by rw [List.getElem?_take, if_pos h, h1]
      exact List.mem_of_getElem? h2
theorem val_itoa (n : Int) (hn : n.natAbs < 10000) (R : List UInt8) (hR : R = [] ∨ ∃ c r, R = c :: r ∧ ¬ isDg c) (v : Int) (r : List UInt8) (h : ValR (Lib.itoa n ++ R) v r) : v = n ∧ r = R := by
  obtain ⟨neg, t, hs, j, h5, hj, hd, he, hr, hv⟩ := h
  unfold Lib.itoa at hs
  by_cases h0 : n < 0
  · rw [if_pos h0] at hs
    have hdl := dec_len 3 n.natAbs (by omega)
    rcases hs with ⟨rfl, hs⟩ | ⟨_, _, hs⟩
    · rw [List.cons_append] at hs
      injection hs with _ hs
      subst hs
      have ej := run_len _ R (dec_dg _) (by omega) hR j h5 hj hd he
      subst ej
      rw [List.drop_left] at hr
      rw [List.take_left, decL_dec, if_pos rfl] at hv
      exact ⟨by omega, hr⟩
    · exact absurd rfl hs
  · rw [if_neg h0] at hs
    have hdl := dec_len 3 n.toNat (by omega)
    have hne := dec_ne n.toNat
    have hdg := dec_dg n.toNat
    rcases hs with ⟨_, hs⟩ | ⟨rfl, rfl, _⟩
    · exfalso
      cases hl : Lib.decDigits n.toNat with
      | nil => exact hne hl
      | cons c q =>
        rw [hl] at hs hdg
        injection hs with hs
        have h1 := hdg c (List.mem_cons_self ..)
        rw [hs] at h1
        exact absurd h1 (by unfold isDg; decide)
    · have ej := run_len _ R hdg (by omega) hR j h5 hj hd he
      subst ej
      rw [List.drop_left] at hr
      rw [List.take_left, decL_dec] at hv
      refine ⟨?_, hr⟩
      rw [hv, if_neg (by decide)]
      omega

end Go.Proofs
