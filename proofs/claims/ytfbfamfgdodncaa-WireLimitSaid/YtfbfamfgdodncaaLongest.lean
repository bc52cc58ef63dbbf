/- wire.Longest in range and out of range; plain facts: a string holds just up to a root. -/
import Derived.Test.YtfbfamfgdodncaaWire
import Derived.Test.YtfbfamfgdodncaaRoot
open Go.RowKit
namespace Go.Proofs
set_option linter.unusedVariables false

/-- the greatest square below -/
def quoN (d s f y : Nat) : Nat := 10 ^ 20 * (y * s) / (400 * d * f * f)

theorem prod4 (a b c d : Nat) : 10 ^ 0 * prodTo [a, b, c, d] [a, b, c, d].length = a * b * c * d := by
  simp [prodTo, List.getD]

theorem le_root {r q l : Nat} (h1 : r ^ 2 ≤ q) (h2 : q < (r + 1) ^ 2) : l * l ≤ q ↔ l ≤ r := by
  rw [Nat.pow_two] at h1 h2
  constructor
  · intro h
    rcases Nat.lt_or_ge r l with h3 | h3
    · have := Nat.mul_le_mul (show r + 1 ≤ l by omega) (show r + 1 ≤ l by omega)
      omega
    · exact h3
  · intro h
    exact Nat.le_trans (Nat.mul_le_mul h h) h1

theorem holds_root {d s l f y r : Nat} (hd : 1 ≤ d) (hf : 1 ≤ f) (h1 : r ^ 2 ≤ quoN d s f y) (h2 : quoN d s f y < (r + 1) ^ 2) : holdsB d s l f y = decide (l ≤ r) := by
  unfold holdsB
  rw [decide_eq_decide, ← le_root h1 h2]
  unfold quoN
  have hpos : 0 < 400 * d * f * f := Nat.mul_pos (Nat.mul_pos (Nat.mul_pos (by omega) hd) hf) hf
  rw [Nat.le_div_iff_mul_le hpos]
  have : l * l * (400 * d * f * f) = 400 * d * l * l * f * f := by grind
  rw [this]

theorem quoN_bound {d s f y : Nat} (hd : 1 ≤ d) (hf : 1 ≤ f) (hs : s ≤ 100000) (hy : y ≤ 100) : quoN d s f y ≤ 10 ^ 27 := by
  unfold quoN
  have h1 : y * s ≤ 100 * 100000 := Nat.mul_le_mul hy hs
  exact Nat.le_trans (Nat.div_le_self _ _) (by omega)

theorem root_bound {r q : Nat} (h1 : r ^ 2 ≤ q) (h2 : q ≤ 10 ^ 27) : r < 100000000000000 := by
  rcases Nat.lt_or_ge r 100000000000000 with h | h
  · exact h
  · have := Nat.mul_le_mul h h
    rw [Nat.pow_two] at h1
    omega

set_option maxRecDepth 100000 in
set_option maxHeartbeats 1000000 in
theorem longest_in (d s f y r : Nat) (w : World) (hd : 1 ≤ d ∧ d ≤ 30000) (hs : 1 ≤ s ∧ s ≤ 100000) (hf : 1 ≤ f ∧ f ≤ 10000000) (hy : 1 ≤ y ∧ y ≤ 100) (hr1 : r ^ 2 ≤ quoN d s f y) (hr2 : quoN d s f y < (r + 1) ^ 2) :
    Calls Try.prog 34 #[.int .i64 (d : Int), .int .i64 (s : Int), .int .i64 (f : Int), .int .i64 (y : Int)] w fun e w' => e = .returned (.tuple #[.int .i64 (if 100000 < r then 100000 else (r : Int)), .int .i64 (if r = 0 then 6 else 0)]) ∧ Below w.heap.size w w' := by
  have h1 : inR d 30000 = true := inR_nat hd.1 (by omega)
  have h2 : inR s 100000 = true := inR_nat hs.1 (by omega)
  have h4 : inR f 10000000 = true := inR_nat hf.1 (by omega)
  have h5 : inR y 100 = true := inR_nat hy.1 (by omega)
  have hys : y * s ≤ 100 * 100000 := Nat.mul_le_mul hy.2 hs.2
  have hqb := quoN_bound hd.1 hf.1 hs.2 hy.2
  have hrb := root_bound hr1 hqb
  have hB : 400 * d * f * f ≤ 400 * 30000 * 10000000 * 10000000 := mul_bound (mul_bound (mul_bound (Nat.le_refl _) hd.2) hf.2) hf.2
  have hpos : 400 * d * f * f ≠ 0 := Nat.ne_of_gt (Nat.mul_pos (Nat.mul_pos (Nat.mul_pos (by omega) hd.1) hf.1) hf.1)
  have hc1 := cellI_new w [y, s] #[.int .i64 (y : Int), .int .i64 (s : Int)] 3 rfl
  have P1 := product_calls 20 20 w.heap.size 2 2 _ _ rfl (by omega) rfl (by simp) (by intro x hx; simp at hx; omega) hc1
  rw [prod2] at P1
  have b0 := below_alloc w (.cells #[.int .i64 (y : Int), .int .i64 (s : Int)] 3)
  have hP2 : ∀ w1 : World, Calls Try.prog 57 #[.int .i64 0, .slice (some ⟨w1.heap.size, 0, none⟩) 4 4] (w1.alloc (.cells #[.int .i64 400, .int .i64 (d : Int), .int .i64 (f : Int), .int .i64 (f : Int)] 3)) (RetNum (w1.alloc (.cells #[.int .i64 400, .int .i64 (d : Int), .int .i64 (f : Int), .int .i64 (f : Int)] 3)) (400 * d * f * f)) := fun w1 => by
    have hc2 := cellI_new w1 [400, d, f, f] #[.int .i64 400, .int .i64 (d : Int), .int .i64 (f : Int), .int .i64 (f : Int)] 3 rfl
    have P2 := product_calls 0 0 w1.heap.size 4 4 _ _ rfl (by omega) rfl (by simp) (by intro x hx; simp at hx; omega) hc2
    rw [prod4] at P2
    exact P2
  have hq : quoN d s f y = 10 ^ 20 * (y * s) / (400 * d * f * f) := rfl
  have hlA : (limbs (10 ^ 20 * (y * s))).length ≤ 60 := Nat.le_trans (limbs_small_pow (n := 10 ^ 20 * (y * s)) (k := 50) (by generalize y * s = t at *; omega)) (by omega)
  have hlB : (limbs (400 * d * f * f)).length ≤ 60 := Nat.le_trans (limbs_small_pow (n := 400 * d * f * f) (k := 50) (by omega)) (by omega)
  have hlq : (limbs (quoN d s f y)).length ≤ 60 := Nat.le_trans (limbs_small_pow (n := quoN d s f y) (k := 50) (by omega)) (by omega)
  have hlr : (limbs r).length ≤ 2 := limbs_length_le (by omega)
  generalize quoN d s f y = q at *
  generalize 10 ^ 20 * (y * s) = A at *
  generalize 400 * d * f * f = B at *
  have D := fun (v1 v2 : Value) (w : World) (h1 : Num w v1 A) (h2 : Num w v2 B) => divmod_ok v1 v2 A B w h1 h2 ⟨by omega, by omega⟩ hpos
  rw [← hq] at D
  have HD := Lib.hid D
  obtain ⟨L, hL⟩ : ∃ L : Int, (if 100000 < r then (100000 : Int) else (r : Int)) = L := ⟨_, rfl⟩
  obtain ⟨E, hE⟩ : ∃ E : Int, (if r = 0 then (6 : Int) else 0) = E := ⟨_, rfl⟩
  rw [hL, hE]
  have HL := Lib.hid hL
  have HE := Lib.hid hE
  clear hL hE
  have HP2 := Lib.hid hP2
  have Hr := Lib.hid (And.intro hr1 hr2)
  have hri : (r : Int) < 100000000000000 := by omega
  clear D hP2 hq hr1 hr2 hqb hB hpos hlA hlB hc1 hd hs hf hy hys hrb
  go_enter Try.func34, Try.ntmps34
  go_wp2_with (go_at_call 52; refine (within_calls _ _ _).mono ?_; rintro e w' ⟨rfl, rfl⟩)
  refine P1.mono ?_
  clear P1
  rintro e w1 ⟨v1, rfl, hv1, _, b1⟩
  replace b1 := below_trans b0 b1
  clear b0
  have b2 := below_alloc w1 (.cells #[.int .i64 400, .int .i64 (d : Int), .int .i64 (f : Int), .int .i64 (f : Int)] 3)
  replace hv1 := hv1.mono b2
  go_wp2_with fail
  refine (HP2.out w1).mono ?_
  rintro e w2 ⟨v2, rfl, hv2, _, b3⟩
  replace hv1 := hv1.mono b3
  go_wp2_with fail
  refine (HD.out v1 v2 w2 hv1 hv2).mono ?_
  rintro e w3 ⟨vq, vr, rfl, hvq, _, _, _, _, b4⟩
  go_wp2_with fail
  refine (root_ok _ q 2 r _ _ hvq (by rfl) (by omega) (by omega) (by omega) Hr.out).mono ?_
  rintro e w4 ⟨vo, rfl, ho, _, b5⟩
  go_wp2_with fail
  refine (uint64_ok _ r _ ho hlr).mono ?_
  rintro e w5 ⟨rfl, b6⟩
  have bb := below_trans (below_trans b1 b2) (below_trans b3 (below_trans b4 (below_trans b5 b6)))
  clear b1 b2 b3 b4 b5 b6
  clear hri hlr ho hvq HD HP2 Hr hlq hv1 hv2
  by_cases c1 : 100000 < r
  · have C1 := Lib.hid c1
    have k1 : decide ((100000 : Int) < (r : Int)) = true := by rw [decide_eq_true_eq]; omega
    clear c1
    go_wp2
    go_ret2
    exact ⟨by rw [← HL.out, ← HE.out, if_pos C1.out, if_neg (by have := C1.out; omega)] <;> rfl, bb⟩
  · have C1 := Lib.hid c1
    have k1 : decide ((100000 : Int) < (r : Int)) = false := by rw [decide_eq_false_iff_not]; omega
    by_cases c2 : r = 0
    · have C2 := Lib.hid c2
      have k2 : ((r : Int) == 0) = true := by rw [beq_iff_eq]; omega
      clear c1 c2
      go_wp2
      go_ret2
      exact ⟨by rw [← HL.out, ← HE.out, if_neg C1.out, if_pos C2.out, C2.out] <;> rfl, bb⟩
    · have C2 := Lib.hid c2
      have k2 : ((r : Int) == 0) = false := by rw [beq_eq_false_iff_ne]; omega
      have kw : wrap64 (r : Int) = (r : Int) := wrap64_id (by omega) (by omega)
      clear c1 c2
      go_wp2
      go_ret2
      exact ⟨by rw [← HL.out, ← HE.out, if_neg C1.out, if_neg C2.out, kw] <;> rfl, bb⟩

theorem longest_out (z1 z2 z3 z4 : Int) (w : World) (h : ¬ (inR z1 30000 = true ∧ inR z2 100000 = true ∧ inR z3 10000000 = true ∧ inR z4 100 = true)) :
    Calls Try.prog 34 #[.int .i64 z1, .int .i64 z2, .int .i64 z3, .int .i64 z4] w fun e w' => e = .returned (.tuple #[.int .i64 0, .int .i64 1]) ∧ Below w.heap.size w w' := by
  have ways : inR z1 30000 = false ∨ (inR z1 30000 = true ∧ inR z2 100000 = false) ∨ (inR z1 30000 = true ∧ inR z2 100000 = true ∧ inR z3 10000000 = false) ∨ (inR z1 30000 = true ∧ inR z2 100000 = true ∧ inR z3 10000000 = true ∧ inR z4 100 = false) := by
    revert h
    generalize inR z1 30000 = r1
    generalize inR z2 100000 = r2
    generalize inR z3 10000000 = r3
    generalize inR z4 100 = r4
    intro h
    cases r1 <;> cases r2 <;> cases r3 <;> cases r4 <;> simp_all
  clear h
  rcases ways with h1 | ⟨h1, h2⟩ | ⟨h1, h2, h3⟩ | ⟨h1, h2, h3, h4⟩
  all_goals
    go_enter Try.func34, Try.ntmps34
    go_wp2_with (go_at_call 52; refine (within_calls _ _ _).mono ?_; rintro e w' ⟨rfl, rfl⟩)
    go_ret2
    exact ⟨rfl, Below.refl _ _⟩

end Go.Proofs
