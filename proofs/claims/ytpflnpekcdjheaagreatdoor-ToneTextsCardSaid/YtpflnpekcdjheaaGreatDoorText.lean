/- nat.Text: the decimal text of a number. -/
import Derived.Test.YtpflnpekcdjheaaGreatDoorBytes
import Derived.Test.YtpflnpekcdjheaaGreatDoorDigs
import Derived.Test.YtpflnpekcdjheaaGreatDoorNatA
import Derived.Test.YtpflnpekcdjheaaGreatDoorNatD
import Derived.Test.YtpflnpekcdjheaaGreatDoorRootLaw
open Go.RowKit
namespace Go.Proofs
set_option linter.unusedVariables false
set_option linter.unusedSimpArgs false

/-- the bytes of the decimal text, the least digit first -/
def lows (m : Nat) : List Nat := (dign 10 m).map (· + 48)
theorem lows_zero : lows 0 = [] := by rw [lows, dign_zero]; rfl
theorem lows_pos {m : Nat} (h : m ≠ 0) : lows m = (m % 10 + 48) :: lows (m / 10) := by rw [lows, dign_pos h (by omega)]; rfl
/-- the decimal text -/
def text (m : Nat) : List Nat := if m = 0 then [48] else (lows m).reverse

theorem lows_step (q k r : Nat) (h : q * 10 ^ (k + 1) + r ≠ 0) : lows (q * 10 ^ (k + 1) + r) = (r % 10 + 48) :: lows (q * 10 ^ k + r / 10) := by
  have e : q * 10 ^ (k + 1) = 10 * (q * 10 ^ k) := by rw [Nat.pow_succ, Nat.mul_comm (10 ^ k) 10, Nat.mul_left_comm]
  rw [lows_pos h, e]
  have h1 : (10 * (q * 10 ^ k) + r) % 10 = r % 10 := by omega
  have h2 : (10 * (q * 10 ^ k) + r) / 10 = q * 10 ^ k + r / 10 := by omega
  rw [h1, h2]

theorem CellB.set {w : World} {g : Nat} {xs : List Nat} (h : CellB w g xs) (i v : Nat) (z : Int) (hz : z = (v : Int)) (hi : i < xs.length) : CellB (w.setCell ⟨g, i, none⟩ (.int .u8 z)) g (xs.set i v) := by
  subst hz
  intro j hj
  rw [List.length_set] at hj
  have hcj := h j hj
  constructor
  · by_cases e : j = i
    · subst e
      rw [getD_set_eq _ _ hj]
      exact World.cell?_setCell_same _ _ _ (h j hj).1
    · rw [getD_set_ne _ _ (Ne.symm e), ← hcj.1]
      exact World.cell?_setCell_other w ⟨g, i, none⟩ ⟨g, j, none⟩ _ (by intro h; apply e; injection h with h1 h2; omega)
  · rw [World.frozen?_setCell]
    exact hcj.2

theorem CellB.drew {w : World} {g : Nat} {xs : List Nat} (h : CellB w g xs) : CellB w.drew g xs := h

theorem swap_cells {w : World} {g : Nat} {ys : List Nat} (h : CellB w g ys) {i j x y : Nat} (hi : i < ys.length) (hj : j < ys.length) (hx : ys.getD i 0 = x) (hy : ys.getD j 0 = y) :
    CellB ((w.setCell ⟨g, i, none⟩ (.int .u8 (y : Int))).setCell ⟨g, j, none⟩ (.int .u8 (x : Int))).drew g ((ys.set i y).set j x) :=
  ((h.set i y _ rfl hi).set j x _ rfl (by rw [List.length_set]; exact hj)).drew

theorem swap_reads {pre ys : List Nat} {i j n x y : Nat} (hij : i + j + 1 = n) (hlt : i < j) (hl : ys.length = n)
    (h : ∀ k, k < n → ys.getD k 0 = if k < i ∨ j < k then pre.getD (n - 1 - k) 0 else pre.getD k 0) (hx : ys.getD i 0 = x) (hy : ys.getD j 0 = y) :
    ∀ k, k < n → ((ys.set i y).set j x).getD k 0 = if k < i + 1 ∨ j - 1 < k then pre.getD (n - 1 - k) 0 else pre.getD k 0 := by
  intro k hk
  have hi := h i (by omega)
  have hj := h j (by omega)
  rw [if_neg (by omega), hx] at hi
  rw [if_neg (by omega), hy] at hj
  by_cases e1 : k = j
  · subst e1
    rw [getD_set_eq _ _ (by rw [List.length_set]; omega), if_pos (by omega), hi]
    congr 1
    omega
  · rw [getD_set_ne _ _ (Ne.symm e1)]
    by_cases e2 : k = i
    · subst e2
      rw [getD_set_eq _ _ (by omega), if_pos (by omega), hj]
      congr 1
      omega
    · rw [getD_set_ne _ _ (Ne.symm e2), h k hk]
      by_cases c : k < i ∨ j < k
      · rw [if_pos c, if_pos (by omega)]
      · rw [if_neg c, if_neg (by omega)]

theorem swap_done {pre ys : List Nat} {i j n : Nat} (hij : i + j + 1 = n) (hge : j ≤ i) (hl : ys.length = n) (hp : pre.length = n)
    (h : ∀ k, k < n → ys.getD k 0 = if k < i ∨ j < k then pre.getD (n - 1 - k) 0 else pre.getD k 0) : ys = pre.reverse := by
  refine List.ext_getElem (by rw [List.length_reverse]; omega) fun k h1 h2 => ?_
  rw [List.getElem_reverse]
  have h3 := h k (by omega)
  have e1 : ys.getD k 0 = ys[k] := by simp [List.getD, h1]
  have e2 : pre.getD (n - 1 - k) 0 = pre[pre.length - 1 - k]'(by omega) := by
    have : n - 1 - k < pre.length := by omega
    subst hp
    simp [List.getD, this]
  rw [← e1, ← e2, h3]
  by_cases c : k < i ∨ j < k
  · rw [if_pos c]
  · rw [if_neg c]
    congr 1
    omega


end Go.Proofs
