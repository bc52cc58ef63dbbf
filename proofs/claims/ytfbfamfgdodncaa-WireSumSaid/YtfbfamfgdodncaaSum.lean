/- the plain law of WireSum: the best bound is enough for all pieces, and no more than their number. -/
import Derived.Test.YtfbfamfgdodncaaFloor2
open Go.RowKit Go.Deep
namespace Go.Proofs
set_option linter.unusedVariables false

def sumTo (zs : List Int) : Nat → Int
  | 0 => 0
  | i + 1 => sumTo zs i + zs.getD i 0

theorem sum_zero (zs : List Int) (C : Int) {n : Nat} (h : Fine zs C n) : ∀ i, i ≤ n → secTo zs C 0 i + smallTo zs C 0 i = sumTo zs i ∧ fstTo zs C 0 i = 0
  | 0, _ => by simp [secTo, smallTo, sumTo, fstTo]
  | i + 1, hi => by
    have h1 := sum_zero zs C h i (by omega)
    have h2 := h.2.2.2 i (by omega)
    simp only [secTo, smallTo, sumTo, fstTo]
    generalize zs.getD i 0 = p at *
    have q0 : ¬ C - 0 < p := by omega
    have q3 : (0 : Int) ≤ p := by omega
    simp only [if_neg q0, if_pos q3]
    by_cases hq : C < 2 * p
    · simp only [if_pos hq]; omega
    · simp only [if_neg hq]; omega

theorem small_le (zs : List Int) (C k : Int) {n : Nat} (h : Fine zs C n) : ∀ i, i ≤ n → smallTo zs C k i ≤ ((i : Int) - fstTo zs C k i - sndTo zs C k i) * C
  | 0, _ => by simp [smallTo, fstTo, sndTo]
  | i + 1, hi => by
    have h1 := small_le zs C k h i (by omega)
    have h2 := h.2.2.2 i (by omega)
    have h3 := h.2.1
    simp only [smallTo, fstTo, sndTo]
    generalize zs.getD i 0 = p at *
    generalize fstTo zs C k i = a at *
    generalize sndTo zs C k i = b at *
    generalize smallTo zs C k i = s at *
    have e : (((i + 1 : Nat) : Int) - a - b) * C = ((i : Int) - a - b) * C + C := by
      rw [show (((i + 1 : Nat) : Int) - a - b) = ((i : Int) - a - b) + 1 by omega, Int.add_mul, Int.one_mul]
    have e1 : (((i + 1 : Nat) : Int) - (a + 1) - (b + 0)) = ((i : Int) - a - b) := by omega
    have e2 : (((i + 1 : Nat) : Int) - (a + 0) - (b + 1)) = ((i : Int) - a - b) := by omega
    have e3 : (((i + 1 : Nat) : Int) - (a + 0) - (b + 0)) = (((i + 1 : Nat) : Int) - a - b) := by omega
    by_cases q1 : C - k < p
    · simp only [if_pos q1]
      rw [e1]; omega
    · simp only [if_neg q1]
      by_cases q2 : C < 2 * p
      · simp only [if_pos q2]
        rw [e2]; omega
      · simp only [if_neg q2]
        rw [e3, e]
        split <;> omega

theorem boundZ_le {zs : List Int} {C k : Int} {n : Nat} (h : Fine zs C n) : boundZ zs C k n ≤ n := by
  have t := tos zs C k h n (Nat.le_refl _)
  have s := small_le zs C k h n (Nat.le_refl _)
  unfold boundZ cntTo
  generalize fstTo zs C k n = a at *
  generalize sndTo zs C k n = b at *
  generalize smallTo zs C k n = e at *
  generalize roomTo zs C k n = d at *
  obtain ⟨m, hm⟩ : ∃ m : Nat, (n : Int) - a - b = (m : Int) := ⟨((n : Int) - a - b).toNat, by omega⟩
  rw [hm] at s
  split
  · omega
  · have := div_small (a := e - d) (C := C) (m := m) h.2.1 (by omega) (by omega)
    omega

theorem bestTo_le {zs : List Int} {C : Int} {n : Nat} (h : Fine zs C n) : ∀ i, bestTo zs C n i ≤ n
  | 0 => boundZ_le h
  | i + 1 => by
    have h1 := bestTo_le h i
    have h2 := boundZ_le (k := zs.getD i 0) h
    simp only [bestTo]
    split <;> omega

theorem bestTo_ge {zs : List Int} {C : Int} {n : Nat} : ∀ i, boundZ zs C 0 n ≤ bestTo zs C n i
  | 0 => Int.le_refl _
  | i + 1 => by
    have h1 := bestTo_ge (zs := zs) (C := C) (n := n) i
    simp only [bestTo]
    split <;> omega

theorem bound_enough {zs : List Int} {C : Int} {n : Nat} (h : Fine zs C n) : sumTo zs n ≤ boundZ zs C 0 n * C := by
  have t := tos zs C 0 h n (Nat.le_refl _)
  have s := sum_zero zs C h n (Nat.le_refl _)
  have r := room_eq zs C 0 n
  have hC := h.2.1
  unfold boundZ cntTo
  rw [← s.1, s.2]
  rw [s.2] at t
  generalize sndTo zs C 0 n = b at *
  generalize smallTo zs C 0 n = e at *
  generalize roomTo zs C 0 n = d at *
  generalize secTo zs C 0 n = c at *
  split
  · rw [Int.add_mul, Int.zero_mul]; omega
  · have hd : e - d ≤ (e - d + C - 1) / C * C := by
      have h1 := Int.emod_add_mul_ediv (e - d + C - 1) C
      have h2 := Int.emod_lt_of_pos (e - d + C - 1) (show 0 < C by omega)
      have h3 : C * ((e - d + C - 1) / C) = (e - d + C - 1) / C * C := Int.mul_comm _ _
      omega
    rw [Int.add_mul, Int.add_mul, Int.zero_mul]
    omega

theorem best_enough {zs : List Int} {C : Int} {n : Nat} (h : Fine zs C n) : sumTo zs n ≤ bestTo zs C n n * C :=
  Int.le_trans (bound_enough h) (Int.mul_le_mul_of_nonneg_right (bestTo_ge n) (by have := h.2.1; omega))

theorem codeZ_of {zs : List Int} {C : Int} (h : Fine zs C zs.length) : codeZ zs C = 0 := by
  have h1 : inR C 1000000000 = true := by
    have := h.2
    simp [inR]; omega
  have h2 : okTo zs zs.length = true := by
    cases e : okTo zs zs.length with
    | true => rfl
    | false =>
      exfalso
      have all : ∀ n, n ≤ zs.length → okTo zs n = true := by
        intro n
        induction n with
        | zero => intro _; rfl
        | succ n ih =>
          intro hn
          have := h.2.2.2 n (by omega)
          have hC := h.2.2.1
          simp only [okTo, ih (by omega), inR, Bool.true_and, decide_eq_true_eq]
          omega
      rw [all _ (Nat.le_refl _)] at e
      cases e
  have h3 : longTo zs C zs.length = false := by
    have all : ∀ n, n ≤ zs.length → longTo zs C n = false := by
      intro n
      induction n with
      | zero => intro _; rfl
      | succ n ih =>
        intro hn
        have := h.2.2.2 n (by omega)
        simp only [longTo, ih (by omega), Bool.false_or, decide_eq_false_iff_not]
        omega
    exact all _ (Nat.le_refl _)
  unfold codeZ
  rw [decide_eq_true h.1, h1, h2, h3]
  rfl

/-- the first i folded -/
def mix (ys : List Int) (f : Int → Int) (i : Nat) : List Int := (ys.take i).map f ++ ys.drop i
theorem mix_length (ys : List Int) (f : Int → Int) (i : Nat) : (mix ys f i).length = ys.length := by
  simp [mix]; omega
theorem mix_at (ys : List Int) (f : Int → Int) {i : Nat} (h : i < ys.length) : (mix ys f i).getD i 0 = ys.getD i 0 := by
  have hl : ((ys.take i).map f).length = i := by simp; omega
  simp only [mix, List.getD]
  rw [List.getElem?_append_right (by omega), hl, Nat.sub_self, List.getElem?_drop, Nat.add_zero]
theorem mix_set (ys : List Int) (f : Int → Int) {i : Nat} (h : i < ys.length) : (mix ys f i).set i (f (ys.getD i 0)) = mix ys f (i + 1) := by
  have hl : ((ys.take i).map f).length = i := by simp; omega
  simp only [mix]
  rw [List.set_append_right _ _ (by omega), hl, Nat.sub_self, List.drop_eq_getElem_cons h, List.set_cons_zero, List.take_add_one, List.map_append, List.getElem?_eq_getElem h]
  simp [List.getD, h]
theorem mix_all (ys : List Int) (f : Int → Int) : mix ys f ys.length = ys.map f := by simp [mix]

end Go.Proofs
