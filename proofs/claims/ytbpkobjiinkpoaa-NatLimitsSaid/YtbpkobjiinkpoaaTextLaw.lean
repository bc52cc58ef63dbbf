/- Plain facts: a number's text says the number; a text is the text of its number. -/
import Derived.Test.YtbpkobjiinkpoaaRText
import Derived.Test.YtbpkobjiinkpoaaParse
open Go.RowKit
namespace Go.Proofs
set_option linter.unusedVariables false
set_option linter.unusedSimpArgs false

theorem lows_lt (m : Nat) : ∀ x ∈ lows m, 48 ≤ x ∧ x ≤ 57 := by
  intro x hx
  rw [lows, dign] at hx
  simp only [List.map_map, List.mem_map] at hx
  obtain ⟨d, _, rfl⟩ := hx
  have := d.2
  simp only [Function.comp]
  omega

theorem byteAt_strOf (L : List Nat) (h : ∀ x ∈ L, x < 256) (i : Nat) (hi : i < L.length) : byteAt (strOf L) i = L.getD i 0 := by
  have hs : i < (strOf L).size := by rw [strOf_size]; exact hi
  rw [← byteAt_eq hs]
  have h1 : (strOf L).data.toList[i]? = some (UInt8.ofNat (L.getD i 0)) := by
    rw [strOf_toList, List.getElem?_map]
    simp [List.getD, hi]
  have h2 : (strOf L)[i] = UInt8.ofNat (L.getD i 0) := by
    rw [Array.getElem?_toList] at h1
    have h3 : (strOf L).data[i]? = some ((strOf L)[i]) := by
      show (strOf L).data[i]? = some ((strOf L).data[i])
      exact Array.getElem?_eq_getElem _
    rw [h3] at h1
    injection h1
  rw [h2]
  have hlt : L.getD i 0 < 256 := by
    have := h L[i] (List.getElem_mem hi)
    simpa [List.getD, hi] using this
  rw [UInt8.toNat_ofNat']
  omega

theorem lows_last (m : Nat) (h : m ≠ 0) : (lows m).getD ((lows m).length - 1) 0 ≠ 48 := by
  induction m using Nat.strongRecOn with
  | _ m ih =>
    rw [lows_pos h]
    by_cases h2 : m / 10 = 0
    · rw [h2, lows_zero]
      simp [List.getD]
      omega
    · have hne : 0 < (lows (m / 10)).length := by rw [lows_pos h2]; simp
      have := ih (m / 10) (by omega) h2
      rw [List.length_cons, Nat.add_sub_cancel]
      obtain ⟨k, hk⟩ : ∃ k, (lows (m / 10)).length = k + 1 := ⟨_, (Nat.succ_pred_eq_of_pos hne).symm⟩
      rw [hk] at this ⊢
      simpa [List.getD] using this

theorem dec_lows : ∀ (m : Nat) (T : List Nat), (∀ x ∈ T, x < 256) → dec (strOf ((lows m).reverse ++ T)) (lows m).length = m := by
  intro m
  induction m using Nat.strongRecOn with
  | _ m ih =>
    intro T hT
    by_cases h : m = 0
    · subst h; rw [lows_zero]; rfl
    · have e : (lows m).reverse ++ T = (lows (m / 10)).reverse ++ ((m % 10 + 48) :: T) := by rw [lows_pos h]; simp
      have hl : (lows m).length = (lows (m / 10)).length + 1 := by rw [lows_pos h]; rfl
      have hT2 : ∀ x ∈ (m % 10 + 48) :: T, x < 256 := by
        intro x hx
        rcases List.mem_cons.1 hx with rfl | hx
        · omega
        · exact hT x hx
      rw [hl, dec, e, ih (m / 10) (by omega) _ hT2]
      have hall : ∀ x ∈ (lows (m / 10)).reverse ++ ((m % 10 + 48) :: T), x < 256 := by
        intro x hx
        rcases List.mem_append.1 hx with hx | hx
        · have := lows_lt _ x (List.mem_reverse.1 hx); omega
        · exact hT2 x hx
      rw [byteAt_strOf _ hall _ (by simp)]
      have : ((lows (m / 10)).reverse ++ ((m % 10 + 48) :: T)).getD (lows (m / 10)).length 0 = m % 10 + 48 := by
        simp [List.getD, List.getElem?_append_right]
      rw [this]
      omega

theorem text_lt (m : Nat) : ∀ x ∈ text m, 48 ≤ x ∧ x ≤ 57 := by
  intro x hx
  rw [text] at hx
  split at hx
  · simp at hx; omega
  · exact lows_lt m x (List.mem_reverse.1 hx)

theorem dec_text (m : Nat) : dec (strOf (text m)) (strOf (text m)).size = m := by
  rw [strOf_size]
  by_cases h : m = 0
  · subst h
    rw [text, if_pos rfl]
    have := byteAt_strOf [48] (by simp) 0 (by simp)
    simp [dec, this, List.getD]
  · rw [text, if_neg h, List.length_reverse]
    have := dec_lows m [] (by simp)
    rwa [List.append_nil] at this

theorem textOk_text (m : Nat) : TextOk (strOf (text m)) := by
  have hb : ∀ i, i < (text m).length → byteAt (strOf (text m)) i = (text m).getD i 0 := fun i hi => byteAt_strOf _ (fun x hx => by have := text_lt m x hx; omega) i hi
  have hlen : 0 < (text m).length := by
    rw [text]
    split
    · simp
    · rename_i h; rw [lows_pos h]; simp
  refine ⟨by rw [strOf_size]; exact hlen, fun h1 => ?_, fun i hi => ?_⟩
  · rw [strOf_size] at h1
    rw [hb 0 hlen]
    by_cases h : m = 0
    · subst h; rw [text, if_pos rfl] at h1; simp at h1
    · have h2 := lows_last m h
      have hl2 : 0 < (lows m).length := by rw [lows_pos h]; simp
      have e : (text m).getD 0 0 = (lows m).getD ((lows m).length - 1) 0 := by
        rw [text, if_neg h]
        have h3 : (lows m).length - 1 < (lows m).length := by omega
        simp [List.getD, List.getElem?_reverse, hl2, List.getElem?_eq_getElem h3]
      rw [e]
      exact h2
  · rw [strOf_size] at hi
    rw [hb i hi]
    have := text_lt m (text m)[i] (List.getElem_mem hi)
    simpa [List.getD, hi] using this

theorem lows_dec (s : ByteArray) (h0 : byteAt s 0 ≠ 48) (hd : Digi s s.size) : ∀ k, k ≤ s.size → lows (dec s k) = ((List.range k).map (byteAt s)).reverse := by
  intro k
  induction k with
  | zero => intro _; rw [dec, lows_zero]; rfl
  | succ k ih =>
    intro hk
    have ih := ih (by omega)
    have hb := hd k (by omega)
    have hne : dec s (k + 1) ≠ 0 := by
      rw [dec]
      by_cases h : k = 0
      · subst h; omega
      · intro e
        have e2 : dec s k = 0 := by omega
        rw [e2, lows_zero] at ih
        have := congrArg List.length ih
        simp at this
        omega
    rw [lows_pos hne, List.range_succ, List.map_append, List.reverse_append]
    have h1 : dec s (k + 1) % 10 + 48 = byteAt s k := by rw [dec]; omega
    have h2 : dec s (k + 1) / 10 = dec s k := by rw [dec]; omega
    rw [h1, h2, ih]
    rfl

theorem text_dec (s : ByteArray) (h : TextOk s) : strOf (text (dec s s.size)) = s := by
  obtain ⟨h0, h1, hd⟩ := h
  have hs : strOf ((List.range s.size).map (byteAt s)) = s := by
    refine (strOf_of ?_).symm
    refine List.ext_getElem (by simp [strOfL]) fun i h3 h4 => ?_
    have hi : i < s.size := by simpa using h3
    simp only [strOfL, List.getElem_map, List.getElem_range]
    rw [← byteAt_eq hi]
    show s.data.toList[i] = UInt8.ofNat (s.data[i].toNat)
    simp
  by_cases h48 : byteAt s 0 = 48
  · have hs1 : s.size = 1 := by
      by_cases h2 : 1 < s.size
      · exact absurd h48 (h1 h2)
      · omega
    have hd0 : dec s s.size = 0 := by rw [hs1]; simp [dec, h48]
    rw [hd0, text, if_pos rfl]
    rw [hs1] at hs
    rw [← hs]
    simp [List.range_succ, h48]
  · have hl := lows_dec s h48 hd s.size (Nat.le_refl _)
    have hne : dec s s.size ≠ 0 := by
      intro e
      rw [e, lows_zero] at hl
      have := congrArg List.length hl
      simp at this
      omega
    rw [text, if_neg hne, hl, List.reverse_reverse]
    exact hs

theorem lows_digits (m k : Nat) (h : m < 10 ^ k) : (lows m).length ≤ k := by
  induction k generalizing m with
  | zero =>
    obtain rfl : m = 0 := by simpa using h
    rw [lows_zero]; exact Nat.le_refl _
  | succ k ih =>
    by_cases h0 : m = 0
    · subst h0; rw [lows_zero]; exact Nat.zero_le _
    · rw [lows_pos h0, List.length_cons]
      have := ih (m / 10) (by rw [Nat.pow_succ] at h; omega)
      omega

end Go.Proofs
