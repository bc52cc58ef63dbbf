/- nat.Check, nat.valid, nat.short. -/
import Derived.Test.YtgdgdaofmjnepaaDoorTrim
open Go.RowKit
namespace Go.Proofs
set_option linter.unusedVariables false

theorem getLast_getD (xs : List Nat) (h : 0 < xs.length) : xs.getLast? = some (xs.getD (xs.length - 1) 0) := by
  rw [List.getLast?_eq_getElem?]
  simp [List.getD, show xs.length - 1 < xs.length by omega]

theorem check_calls (v : Value) (xs : List Nat) (w : World) (hv : Raw w v xs) :
    Calls Tryd.prog 134 #[v] w fun e w' => e = .returned (.int .i64 (chk xs)) ∧ w = w' := by
  obtain ⟨ad, c, rfl, hs⟩ := hv
  have hc := hs.1
  have hcm := hs.2.1
  unfold maxLen at hcm
  by_cases hl : 262144 < xs.length
  · have e : chk xs = 3 := by unfold chk; rw [if_pos hl]
    rw [e]
    clear e
    go_enter Tryd.func134, Tryd.ntmps134
    go_wp2
    go_ret
    exact ⟨rfl, rfl⟩
  · by_cases h0 : 0 < xs.length
    · obtain ⟨b, o, rfl, hbs, hcell, hfr⟩ := hs.open (i := xs.length - 1) (by omega)
      have hlast := getLast_getD xs h0
      obtain ⟨x, ex⟩ : ∃ x, xs.getD (xs.length - 1) 0 = x := ⟨_, rfl⟩
      rw [ex] at hcell hlast
      have t0 : (0 : Int) < (xs.length : Int) := by omega
      by_cases hx : x = 0
      · subst hx
        have e : chk xs = 2 := by unfold chk; rw [if_neg hl, if_pos hlast]
        rw [e]
        clear e hlast ex
        go_enter Tryd.func134, Tryd.ntmps134
        go_wp2
        go_ret
        exact ⟨rfl, rfl⟩
      · have e : chk xs = 0 := by unfold chk; rw [if_neg hl, if_neg (by rw [hlast]; intro h; cases h; exact hx rfl)]
        have t1 : ((x : Int) == 0) = false := by rw [beq_eq_false_iff_ne]; omega
        rw [e]
        clear e hlast ex
        go_enter Tryd.func134, Tryd.ntmps134
        go_wp2
        go_ret
        exact ⟨rfl, rfl⟩
    · have hx : xs = [] := List.eq_nil_of_length_eq_zero (by omega)
      subst hx
      have e : chk [] = 0 := rfl
      rw [e]
      clear e
      go_enter Tryd.func134, Tryd.ntmps134
      go_wp2
      go_ret
      exact ⟨rfl, rfl⟩

theorem firstErr_skip (l : List (List Nat)) : ∀ k, k ≤ l.length → (∀ i, i < k → chk (l.getD i []) = 0) → firstErr l = firstErr (l.drop k) := by
  induction l with
  | nil => intro k hk _; simp at hk; subst hk; rfl
  | cons xs l ih =>
    intro k hk h
    cases k with
    | zero => rfl
    | succ k =>
      have h0 := h 0 (by omega)
      have h0' : chk xs = 0 := by simpa [List.getD] using h0
      rw [firstErr, if_pos h0', List.drop_succ_cons]
      exact ih k (by simpa using hk) fun i hi => by have := h (i + 1) (by omega); simpa [List.getD] using this

theorem valid_calls (b n : Nat) (vs : List Value) (l : List (List Nat)) (w : World) (hn : vs.length = n) (hl : l.length = n) (hb : n ≤ 1000)
    (hcell : ∀ i, i < n → w.cell? ⟨b, i, none⟩ = some (vs.getD i undef)) (hraw : ∀ i, i < n → Raw w (vs.getD i undef) (l.getD i [])) :
    Calls Tryd.prog 107 #[.slice (some ⟨b, 0, none⟩) n n] w fun e w' => e = .returned (.int .i64 (firstErr l)) ∧ w = w' := by
  have Hn := Lib.hid hn
  have Hl := Lib.hid hl
  have Hcell := Lib.hid hcell
  have Hraw := Lib.hid hraw
  clear hn hl hcell hraw
  go_enter Tryd.func107, Tryd.ntmps107
  go_wp2
  go_loop [8] (fun iv => ∃ i : Nat, i ≤ n ∧ iv = .int .i64 i ∧ ∀ j, j < i → chk (l.getD j []) = 0) (fun iv => n - (intOf iv).toNat)
  case atStart => exact ⟨0, Nat.zero_le _, rfl, fun j h => (Nat.not_lt_zero _ h).elim⟩
  case round =>
    obtain ⟨i, hi, rfl, hok⟩ := hrel
    have Hok := Lib.hid hok
    clear hok
    by_cases hlt : i < n
    · have hc := Hcell.out i hlt
      have hr := Hraw.out i hlt
      have hsk := firstErr_skip l i (by have := Hl.out; omega) Hok.out
      have hd : l.drop i = l.getD i [] :: l.drop (i + 1) := by
        rw [List.drop_eq_getElem_cons (by have := Hl.out; omega)]
        simp [List.getD, show i < l.length by have := Hl.out; omega]
      rw [hd, firstErr] at hsk
      have hor := chk_cases (l.getD i [])
      obtain ⟨xs, exs⟩ : ∃ xs, l.getD i [] = xs := ⟨_, rfl⟩
      rw [exs] at hr hsk hor
      obtain ⟨v, ev⟩ : ∃ v, vs.getD i undef = v := ⟨_, rfl⟩
      rw [ev] at hc hr
      have Hxs := Lib.hid exs
      clear exs ev hd
      by_cases h0 : chk xs = 0
      · have t1 : (chk xs != 0) = false := by simp [h0]
        have H0 := Lib.hid h0
        clear h0 hsk hor
        go_wp2_with (go_at_call 134; refine (check_calls v xs _ hr).mono ?_; rintro e w' ⟨rfl, rfl⟩)
        go_round
        case rel =>
          refine ⟨i + 1, by omega, by go_num, fun j hj => ?_⟩
          by_cases e : j = i
          · rw [e, Hxs.out]; exact H0.out
          · exact Hok.out j (by omega)
        case measure => simp [intOf]; omega
      · have t1 : (chk xs != 0) = true := by rw [bne_iff_ne]; exact h0
        rw [if_neg h0] at hsk
        have Hsk := Lib.hid hsk
        clear hsk h0 hor
        go_wp2_with (go_at_call 134; refine (check_calls v xs _ hr).mono ?_; rintro e w' ⟨rfl, rfl⟩)
        go_ret
        exact ⟨by rw [Hsk.out]; rfl, rfl⟩
    · obtain rfl : i = n := by omega
      have hsk := firstErr_skip l i (by have := Hl.out; omega) Hok.out
      rw [List.drop_of_length_le (by rw [Hl.out]; exact Nat.le_refl _)] at hsk
      have Hsk := Lib.hid hsk
      clear hsk
      go_wp2
      go_ret
      exact ⟨by rw [Hsk.out]; rfl, rfl⟩

theorem cells_one (w : World) (v : Value) (e : Nat) : ∀ i, i < 1 → (w.alloc (.cells #[v] e)).cell? ⟨w.heap.size, i, none⟩ = some ([v].getD i undef) := by
  intro i hi
  obtain rfl : i = 0 := by omega
  simp only [World.cell?]; rw [heap_alloc_new]; rfl

theorem cells_two (w : World) (v1 v2 : Value) (e : Nat) : ∀ i, i < 2 → (w.alloc (.cells #[v1, v2] e)).cell? ⟨w.heap.size, i, none⟩ = some ([v1, v2].getD i undef) := by
  intro i hi
  rcases (show i = 0 ∨ i = 1 by omega) with rfl | rfl <;> (simp only [World.cell?]; rw [heap_alloc_new]; rfl)

theorem cells_three (w : World) (v1 v2 v3 : Value) (e : Nat) : ∀ i, i < 3 → (w.alloc (.cells #[v1, v2, v3] e)).cell? ⟨w.heap.size, i, none⟩ = some ([v1, v2, v3].getD i undef) := by
  intro i hi
  rcases (show i = 0 ∨ i = 1 ∨ i = 2 by omega) with rfl | rfl | rfl <;> (simp only [World.cell?]; rw [heap_alloc_new]; rfl)

/-- valid over one, two, three numbers, laid in a new block -/
theorem valid1 (v1 : Value) (x1 : List Nat) (w : World) (h1 : Raw w v1 x1) :
    Calls Tryd.prog 107 #[.slice (some ⟨w.heap.size, 0, none⟩) 1 1] (w.alloc (.cells #[v1] 89)) fun e w' => e = .returned (.int .i64 (firstErr [x1])) ∧ w.alloc (.cells #[v1] 89) = w' :=
  valid_calls _ 1 [v1] [x1] _ rfl rfl (by omega) (cells_one w v1 _) (by
    intro i hi
    obtain rfl : i = 0 := by omega
    exact h1.mono (below_alloc _ _))

theorem valid2 (v1 v2 : Value) (x1 x2 : List Nat) (w : World) (h1 : Raw w v1 x1) (h2 : Raw w v2 x2) :
    Calls Tryd.prog 107 #[.slice (some ⟨w.heap.size, 0, none⟩) 2 2] (w.alloc (.cells #[v1, v2] 89)) fun e w' => e = .returned (.int .i64 (firstErr [x1, x2])) ∧ w.alloc (.cells #[v1, v2] 89) = w' :=
  valid_calls _ 2 [v1, v2] [x1, x2] _ rfl rfl (by omega) (cells_two w v1 v2 _) (by
    intro i hi
    rcases (show i = 0 ∨ i = 1 by omega) with rfl | rfl
    · exact h1.mono (below_alloc _ _)
    · exact h2.mono (below_alloc _ _))

theorem valid3 (v1 v2 v3 : Value) (x1 x2 x3 : List Nat) (w : World) (h1 : Raw w v1 x1) (h2 : Raw w v2 x2) (h3 : Raw w v3 x3) :
    Calls Tryd.prog 107 #[.slice (some ⟨w.heap.size, 0, none⟩) 3 3] (w.alloc (.cells #[v1, v2, v3] 89)) fun e w' => e = .returned (.int .i64 (firstErr [x1, x2, x3])) ∧ w.alloc (.cells #[v1, v2, v3] 89) = w' :=
  valid_calls _ 3 [v1, v2, v3] [x1, x2, x3] _ rfl rfl (by omega) (cells_three w v1 v2 v3 _) (by
    intro i hi
    rcases (show i = 0 ∨ i = 1 ∨ i = 2 by omega) with rfl | rfl | rfl
    · exact h1.mono (below_alloc _ _)
    · exact h2.mono (below_alloc _ _)
    · exact h3.mono (below_alloc _ _))

/-- what an exported function returns: a number, or an error and nothing -/
def Got (w : World) (n : Nat) (er : Int) (e : Ending) (w' : World) : Prop :=
  ∃ v, e = .returned (.tuple #[v, .int .i64 er]) ∧ Num w' v n ∧ Fresh w.heap.size v ∧ Below w.heap.size w w'

/-- short, where the number is new -/
theorem short_calls (v : Value) (n B : Nat) (w : World) (hv : Num w v n) (hf : Fresh B v) :
    Calls Tryd.prog 117 #[v] w fun e w' => ∃ v', e = .returned (.tuple #[v', .int .i64 (if 262144 < (limbs n).length then 3 else 0)]) ∧ Num w' v' (if 262144 < (limbs n).length then 0 else n) ∧ Fresh B v' ∧ w = w' := by
  have g := hv
  obtain ⟨ad, c, rfl, hs⟩ := hv
  by_cases hl : 262144 < (limbs n).length
  · rw [if_pos hl, if_pos hl]
    go_enter Tryd.func117, Tryd.ntmps117
    go_wp2
    go_ret2
    exact ⟨_, rfl, Num.nil _, trivial, rfl⟩
  · rw [if_neg hl, if_neg hl]
    go_enter Tryd.func117, Tryd.ntmps117
    go_wp2
    go_ret2
    exact ⟨_, rfl, g, hf, rfl⟩

end Go.Proofs
