/- wire.Floor and the reference's Floor. -/
import Derived.Test.YtfbfamfgdodncaaFloor
open Go.RowKit Go.Deep
namespace Go.Proofs
set_option linter.unusedVariables false

theorem fine_of_code {zs : List Int} {C : Int} (h : codeZ zs C = 0) : Fine zs C zs.length := by
  obtain ⟨h1, h2, h3⟩ := codeZ_zero h
  exact ⟨h1, h2.1, h2.2, h3⟩

set_option maxRecDepth 100000 in
theorem wfloor_bad (g c n : Nat) (zs : List Int) (C : Int) (w : World) (hn : n = zs.length) (hl : n ≤ 1000000) (h : CellZ w g zs) (hc : codeZ zs C ≠ 0) :
    Calls Try.prog 31 #[.slice (some ⟨g, 0, none⟩) n c, .int .i64 C] w fun e w' => e = .returned (.tuple #[.int .i64 0, .int .i64 (codeZ zs C)]) ∧ Below w.heap.size w w' := by
  have H := wcut_calls g c n zs C w hn hl h
  generalize codeZ zs C = x at *
  have hx : (x == 0) = false := by simpa using hc
  clear hn hc
  go_enter Try.func31, Try.ntmps31
  go_wp2_with fail
  refine H.mono ?_
  clear H
  rintro e w1 ⟨rfl, b1⟩
  go_wp2
  go_ret2
  exact ⟨rfl, b1⟩

set_option maxRecDepth 100000 in
theorem wfloor_ok (g c n : Nat) (zs : List Int) (C : Int) (w : World) (hn : n = zs.length) (h : CellZ w g zs) (hc : codeZ zs C = 0) :
    Calls Try.prog 31 #[.slice (some ⟨g, 0, none⟩) n c, .int .i64 C] w fun e w' => e = .returned (.tuple #[.int .i64 (bestTo zs C n n), .int .i64 0]) ∧ Below w.heap.size w w' := by
  have hf := fine_of_code hc
  rw [← hn] at hf
  have H := wcut_calls g c n zs C w hn (by have := hf.1; omega) h
  rw [hc] at H
  have HN := Lib.hid hn
  have HF := Lib.hid hf
  have hn14 := hf.1
  have hC1 := hf.2.1
  have hC2 := hf.2.2.1
  have HB := fun (k : Int) (w : World) (hk : 0 ≤ k ∧ k ≤ C) (h : CellZ w g zs) => bound_calls g c n zs C k w hn hf hk h
  have HH := Lib.hid HB
  obtain ⟨R, hR⟩ : ∃ R, bestTo zs C n n = R := ⟨_, rfl⟩
  rw [hR]
  have HR := Lib.hid hR
  clear hn hc hf HB hR
  go_enter Try.func31, Try.ntmps31
  go_wp2_with fail
  refine H.mono ?_
  clear H
  rintro e w1 ⟨rfl, b1⟩
  replace h := h.mono b1
  go_wp2_with fail
  refine (HH.out 0 _ (by omega) h).mono ?_
  rintro e w2 ⟨rfl, rfl⟩
  go_wp2
  go_loopw [7, 21] (fun bv iv wr => ∃ i : Nat, i ≤ n ∧ iv = .int .i64 i ∧ bv = .int .i64 (bestTo zs C n i) ∧ CellZ wr g zs ∧ Below w.heap.size w wr) (fun _ iv _ => n - (intOf iv).toNat)
  case atStart => exact ⟨0, by omega, rfl, rfl, h, b1⟩
  case round =>
    obtain ⟨i, hi, rfl, rfl, hz, hbel⟩ := hrel
    by_cases hlt : i < n
    · have hcell := hz.cell (i := i) (by have := HN.out; omega)
      have hp := HF.out.2.2.2 i hlt
      have e1 : bestTo zs C n (i + 1) = if C < 2 * zs.getD i 0 then bestTo zs C n i else max (bestTo zs C n i) (boundZ zs C (zs.getD i 0) n) := rfl
      have hb1 := bestTo_bounds HF.out i
      have hb2 := boundZ_bounds (k := zs.getD i 0) HF.out
      have HP := HH.out (zs.getD i 0) wr
      obtain ⟨p, ep⟩ : ∃ p, zs.getD i 0 = p := ⟨_, rfl⟩
      rw [ep] at hcell e1 hp hb2 HP
      generalize bestTo zs C n i = a at *
      generalize boundZ zs C p n = q at *
      have E1 := Lib.hid e1
      have HHP := Lib.hid HP
      have t1 : (i : Int) < (n : Int) := by omega
      obtain ⟨hp1, hp2⟩ := hp
      clear e1 ep hlt HP
      by_cases q2 : C < 2 * p
      · have q2' : ¬ 2 * p ≤ C := by omega
        go_wp2
        go_roundw
        case rel => exact ⟨i + 1, by omega, by go_num, by rw [E1.out, if_pos (by omega)], hz, hbel⟩
        case measure => simp [intOf]; omega
      · have q2' : 2 * p ≤ C := by omega
        go_wp2_with fail
        refine (HHP.out (by omega) hz).mono ?_
        rintro e w2 ⟨rfl, rfl⟩
        go_wp2
        go_roundw
        case rel => exact ⟨i + 1, by omega, by go_num, by rw [E1.out, if_neg (by omega)], hz, hbel⟩
        case measure => simp [intOf]; omega
    · obtain rfl : i = n := by omega
      have t1 : ¬ (i : Int) < (i : Int) := by omega
      clear hlt
      go_wp2
      go_ret2
      exact ⟨by rw [← HR.out] <;> rfl, hbel⟩

/-- rounded up -/
def upZ (more C : Int) : Int := if more ≤ 0 then 0 else (more + C - 1) / C

theorem boundZ_up (zs : List Int) (C k : Int) (n : Nat) : boundZ zs C k n = fstTo zs C k n + sndTo zs C k n + upZ (smallTo zs C k n - (sndTo zs C k n * C - secTo zs C k n)) C := by
  unfold boundZ upZ cntTo
  rw [← room_eq]
  generalize smallTo zs C k n = s
  generalize roomTo zs C k n = r
  by_cases h : s ≤ r
  · rw [if_pos h, if_pos (by omega), Int.add_zero]
  · rw [if_neg h, if_neg (by omega)]

theorem upZ_of {more C : Int} {j : Nat} (hC : 1 ≤ C) (h1 : j = 0 ∨ ((j : Int) - 1) * C < more) (h2 : more ≤ (j : Int) * C) : upZ more C = (j : Int) := by
  unfold upZ
  rcases h1 with rfl | h1
  · rw [if_pos (by simpa using h2)]; rfl
  · have hm : 0 < more ∨ more ≤ 0 := by omega
    rcases hm with hm | hm
    · rw [if_neg (by omega)]
      have e1 : (more + C - 1) / C < (j : Int) + 1 := by
        rw [Int.ediv_lt_iff_lt_mul (by omega), Int.add_mul]; omega
      have e2 : (j : Int) ≤ (more + C - 1) / C := by
        rw [Int.le_ediv_iff_mul_le (by omega)]
        rw [Int.sub_mul] at h1
        omega
      omega
    · rw [if_pos hm]
      have : ((j : Int) - 1) * C < 0 := by omega
      have h3 : ((j : Int) - 1) < 0 := by
        by_cases h : ((j : Int) - 1) < 0
        · exact h
        · have := Int.mul_nonneg (show 0 ≤ (j : Int) - 1 by omega) (show 0 ≤ C by omega)
          omega
      omega

/-- the best so far, as the reference finds it -/
def refTo (zs : List Int) (C : Int) (n : Nat) : Nat → Int
  | 0 => 0
  | i + 1 => if C < 2 * (0 :: zs).getD i 0 then refTo zs C n i else max (refTo zs C n i) (boundZ zs C ((0 :: zs).getD i 0) n)

theorem refTo_best {zs : List Int} {C : Int} {n : Nat} (h : Fine zs C n) : ∀ i, refTo zs C n (i + 1) = bestTo zs C n i
  | 0 => by
    have h1 := boundZ_bounds (k := 0) h
    have h2 := h.2.1
    have e : (0 :: zs).getD 0 0 = 0 := rfl
    simp only [refTo, bestTo, e]
    rw [if_neg (by omega)]
    omega
  | i + 1 => by
    have e : (0 :: zs).getD (i + 1) 0 = zs.getD i 0 := by simp [List.getD]
    rw [refTo, refTo_best h i, e]
    rfl

end Go.Proofs
