/- The reference's of, times, low, reduce: integers of any size with a sign. -/
import Derived.Test.YtgdgdaofmjnepaaDoorTRef
import Derived.Test.YtgdgdaofmjnepaaDoorRMul
import Derived.Test.YtgdgdaofmjnepaaDoorRDiv
import Derived.Test.YtgdgdaofmjnepaaDoorGcd
import Derived.Test.YtgdgdaofmjnepaaDoorUint
import Derived.Deep.RegionHeld3
open Go.RowKit Go.Deep
namespace Go.Proofs
set_option linter.unusedVariables false

/-- a sign and a size are returned -/
def RetBig (w : World) (m : Bool) (n : Nat) (e : Ending) (w' : World) : Prop :=
  ∃ v, e = .returned (.agg #[.bool m, v]) ∧ Num w' v n ∧ Below w.heap.size w w'

/-- what is left of four signs and sizes -/
def redBig (m1 m2 m3 m4 : Bool) (a b c d : Nat) : T4 × Int :=
  if smallN a b c d (gcdN a b c d) = true then (⟨sgnV m1 (a / gcdN a b c d), sgnV m2 (b / gcdN a b c d), sgnV m3 (c / gcdN a b c d), sgnV m4 (d / gcdN a b c d)⟩, 0) else (⟨0, 0, 0, 0⟩, 5)

theorem redBig_redT {a b c d : Int} (hd : 1 ≤ d) : redBig (decide (a < 0)) (decide (b < 0)) (decide (c < 0)) (decide (d < 0)) a.natAbs b.natAbs c.natAbs d.natAbs = redT a b c d := by
  unfold redBig redT
  rw [redOk_eq hd, tdiv_sgn a, tdiv_sgn b, tdiv_sgn c, tdiv_sgn d]
  rfl

/-- the sign of a product -/
theorem mul_sign {a b : Int} (h : decide (a * b < 0) ≠ (decide (a < 0) != decide (b < 0))) : a * b = 0 := by
  rcases Int.lt_trichotomy a 0 with h1 | h1 | h1
  · rcases Int.lt_trichotomy b 0 with h2 | h2 | h2
    · have := Int.mul_pos_of_neg_of_neg h1 h2
      rw [decide_eq_true h1, decide_eq_true h2, decide_eq_false (by omega)] at h
      simp at h
    · rw [h2, Int.mul_zero]
    · have := Int.mul_neg_of_neg_of_pos h1 h2
      rw [decide_eq_true h1, decide_eq_false (show ¬ b < 0 by omega), decide_eq_true this] at h
      simp at h
  · rw [h1, Int.zero_mul]
  · rcases Int.lt_trichotomy b 0 with h2 | h2 | h2
    · have := Int.mul_neg_of_pos_of_neg h1 h2
      rw [decide_eq_false (show ¬ a < 0 by omega), decide_eq_true h2, decide_eq_true this] at h
      simp at h
    · rw [h2, Int.mul_zero]
    · have := Int.mul_pos h1 h2
      rw [decide_eq_false (show ¬ a < 0 by omega), decide_eq_false (show ¬ b < 0 by omega), decide_eq_false (by omega)] at h
      simp at h
theorem sgnV_mul (a b : Int) (g : Nat) : sgnV (decide (a < 0) != decide (b < 0)) ((a.natAbs * b.natAbs) / g) = sgnV (decide (a * b < 0)) ((a * b).natAbs / g) := by
  rw [Int.natAbs_mul]
  by_cases h : decide (a * b < 0) = (decide (a < 0) != decide (b < 0))
  · rw [h]
  · have h2 := mul_sign h
    rw [← Int.natAbs_mul, h2]
    simp [sgnV_zero]
theorem redBig_mul {a b c d n k : Int} (hd : 1 ≤ d * k) : redBig (decide (a < 0) != decide (n < 0)) (decide (b < 0) != decide (n < 0)) (decide (c < 0) != decide (n < 0)) (decide (d < 0) != decide (k < 0)) (a.natAbs * n.natAbs) (b.natAbs * n.natAbs) (c.natAbs * n.natAbs) (d.natAbs * k.natAbs)
    = redT (a * n) (b * n) (c * n) (d * k) := by
  rw [← redBig_redT hd]
  unfold redBig
  rw [sgnV_mul, sgnV_mul, sgnV_mul, sgnV_mul, Int.natAbs_mul, Int.natAbs_mul, Int.natAbs_mul, Int.natAbs_mul]

theorem Vals.set2 {w : World} {b : Nat} {v0 v1 : Value} (h : Vals w b [v0, v1]) (x y : Value) : Vals ((w.setCell ⟨b, 0, none⟩ x).setCell ⟨b, 1, none⟩ y) b [x, y] := (h.set 0 x).set 1 y
theorem below_set2 {B b : Nat} {a w : World} (h : Below B a w) (hb : B ≤ b) (x y : Value) : Below B a ((w.setCell ⟨b, 0, none⟩ x).setCell ⟨b, 1, none⟩ y) :=
  (h.setCell (p := ⟨b, 0, none⟩) hb x).setCell (p := ⟨b, 1, none⟩) hb y
theorem num_set2 {w : World} {v : Value} {n b : Nat} (h : Num w v n) (ha : Apart b v) (x y : Value) : Num ((w.setCell ⟨b, 0, none⟩ x).setCell ⟨b, 1, none⟩ y) v n :=
  h.only (((Only.refl b w).setCell (p := ⟨b, 0, none⟩) rfl x).setCell (p := ⟨b, 1, none⟩) rfl y) ha
theorem Num.drew'' {w : World} {v : Value} {n : Nat} (h : Num w v n) : Num w.drew v n := h

set_option maxRecDepth 100000 in
theorem rbig_at (z : Int) (m : Bool) (w : World) (h : i64 z) (d : decide (z < 0) = m) :
    Calls Tryd.prog 66 #[.int .i64 z] w (RetBig w m z.natAbs) := by
  have S := fun w : World => rsize_calls z w h
  have O := fun (w : World) => rof_calls z.natAbs (z.natAbs : Int) w rfl (by unfold i64 at h; omega)
  obtain ⟨n, hn⟩ : ∃ n, z.natAbs = n := ⟨_, rfl⟩
  rw [hn] at S O ⊢
  have HS := Lib.hid S
  have HO := Lib.hid O
  clear S O h hn
  have vr := Vals.newL w w.heap.size [.bool false, .slice none 0 0] 83 rfl
  have B := below_alloc w (.cells #[.bool false, .slice none 0 0] 83)
  have sz := World.size_alloc w (.cells #[.bool false, .slice none 0 0] 83)
  cases m
  all_goals
    go_enter Tryd.func66, Tryd.ntmps66
    go_wp2_with fail
    generalize w.alloc (.cells #[.bool false, .slice none 0 0] 83) = w0 at *
    refine (HS.out _).mono ?_
    rintro e wq ⟨rfl, rfl⟩
    go_wp2_with fail
    refine (HO.out _).mono ?_
    rintro e w1 ⟨v1, rfl, h1, f1, b1⟩
    have ap : Apart w.heap.size v1 := f1.apart (by omega)
    obtain ⟨ad, c, rfl, s1⟩ := h1
    have h1 : Num w1 (.slice ad (limbs n).length c) n := ⟨_, _, rfl, s1⟩
    clear s1
    replace vr := vr.mono b1
    replace B := below_trans B b1
    clear b1 sz f1
    have ltr := vr.lt
    have fr0 := vr.frozen 0
    have fr1 := vr.frozen 1
    have cr0 := vr.cell (i := 0) (by simp)
    have cr1 := vr.cell (i := 1) (by simp)
    simp only [List.getD_cons_zero, List.getD_cons_succ] at cr0 cr1
    go_wp2
    obtain ⟨te, hg⟩ := vr.set2 (.bool _) (.slice ad (limbs n).length c)
    refine bodyPost_ret_by (results_cell_row rfl _ _ w.heap.size te _ (0, 0) _ rfl hg Tryd.underlying83 rfl (by kernel_rfl)) rfl ?_
    exact ⟨_, rfl, num_set2 h1 ap _ _, below_set2 B (by omega) _ _⟩

theorem rbig_calls (z : Int) (w : World) (h : i64 z) :
    Calls Tryd.prog 66 #[.int .i64 z] w (RetBig w (decide (z < 0)) z.natAbs) := rbig_at z _ w h rfl


theorem vals_off2 {w : World} {b g : Nat} {vs : List Value} (h : Vals w b vs) (hg : g ≠ b) (x y : Value) : Vals ((w.setCell ⟨g, 0, none⟩ x).setCell ⟨g, 1, none⟩ y) b vs :=
  (h.other ⟨g, 0, none⟩ hg x).other ⟨g, 1, none⟩ hg y
theorem vals22 {w : World} {b c : Nat} {v0 v1 u0 u1 : Value} (h : Vals w b [v0, v1]) (k : Vals w c [u0, u1]) :
    w.cell? ⟨b, 0, none⟩ = some v0 ∧ w.cell? ⟨b, 1, none⟩ = some v1 ∧ w.cell? ⟨c, 0, none⟩ = some u0 ∧ w.cell? ⟨c, 1, none⟩ = some u1 :=
  ⟨h.cell (i := 0) (by simp), h.cell (i := 1) (by simp), k.cell (i := 0) (by simp), k.cell (i := 1) (by simp)⟩


set_option maxRecDepth 100000 in
theorem rbigmul_calls (v1 v2 : Value) (m n : Bool) (a b : Nat) (w : World) (h1 : Num w v1 a) (h2 : Num w v2 b) (l1 : (limbs a).length ≤ 1000) (l2 : (limbs b).length ≤ 1000) :
    Calls Tryd.prog 68 #[.agg #[.bool m, v1], .agg #[.bool n, v2]] w (RetBig w (m != n) (a * b)) := by
  have PM := fun (w : World) (h1 : Num w v1 a) (h2 : Num w v2 b) => rmul_calls v1 v2 a b w h1 h2 (by omega) (by omega)
  have HPM := Lib.hid PM
  clear PM l1 l2
  have vx := Vals.newL w (w.heap.size) [.bool m, v1] 83 rfl
  have bb := below_alloc w (.cells #[.bool m, v1] 83)
  have B := bb
  have sz0 := World.size_alloc w (.cells #[.bool m, v1] 83)
  have sz := sz0
  clear sz0
  clear bb
  have vy := Vals.newL (w.alloc (.cells #[.bool m, v1] 83)) (w.heap.size + 1) [.bool n, v2] 83 sz.symm
  have bb := below_alloc (w.alloc (.cells #[.bool m, v1] 83)) (.cells #[.bool n, v2] 83)
  replace vx := vx.mono bb
  replace B := below_trans B bb
  clear bb
  have sz1 := World.size_alloc (w.alloc (.cells #[.bool m, v1] 83)) (.cells #[.bool n, v2] 83)
  rw [sz] at sz1
  clear sz
  have sz := sz1
  clear sz1
  have vr := Vals.newL ((w.alloc (.cells #[.bool m, v1] 83)).alloc (.cells #[.bool n, v2] 83)) (w.heap.size + 1 + 1) [.bool false, .slice none 0 0] 83 sz.symm
  have bb := below_alloc ((w.alloc (.cells #[.bool m, v1] 83)).alloc (.cells #[.bool n, v2] 83)) (.cells #[.bool false, .slice none 0 0] 83)
  replace vx := vx.mono bb
  replace vy := vy.mono bb
  replace B := below_trans B bb
  clear sz
  have bb0 := B
  clear bb
  go_enter Tryd.func68, Tryd.ntmps68
  go_wp2_with fail
  generalize (((w.alloc (.cells #[.bool m, v1] 83)).alloc (.cells #[.bool n, v2] 83)).alloc (.cells #[.bool false, .slice none 0 0] 83)) = w0 at *
  replace h1 := h1.mono bb0
  replace h2 := h2.mono bb0
  clear bb0
  replace h1 := Num.drew'' h1
  replace h2 := Num.drew'' h2
  have ltr : w.heap.size + 1 + 1 < w0.heap.size := vr.lt
  have fr0 := vr.frozen 0
  have fr1 := vr.frozen 1
  cases m <;> cases n
  · skip
    go_region_held3 (fun w' => w'.cell? ⟨w.heap.size, 0, none⟩ = some (.bool false) ∧ w'.cell? ⟨w.heap.size, 1, none⟩ = some v1 ∧ w'.cell? ⟨w.heap.size + 1, 0, none⟩ = some (.bool false) ∧ w'.cell? ⟨w.heap.size + 1, 1, none⟩ = some v2)
      (first | exact vals22 vx vy | exact vals22 vx.drew vy.drew | exact vals22 (vals_off2 vx (show w.heap.size + 1 + 1 ≠ w.heap.size by omega) _ _) (vals_off2 vy (show w.heap.size + 1 + 1 ≠ w.heap.size + 1 by omega) _ _))
      ((go_at_call 56; refine (HPM.out _ h1 h2).mono ?_; rintro e w5 ⟨v5, rfl, h7, f7, b5⟩; obtain ⟨ad5, c5, rfl, s5⟩ := h7; have h7 : Num w5 (.slice ad5 _ c5) _ := ⟨_, _, rfl, s5⟩; clear s5; replace vx := vx.drew.mono b5; replace vy := vy.drew.mono b5; replace vr := vr.drew.mono b5; replace B := below_trans B.drew b5; have ltr5 := vr.lt; have gr0 := vr.frozen 0; have gr1 := vr.frozen 1; have cr0 := vr.cell (i := 0) (by simp); have cr1 := vr.cell (i := 1) (by simp); simp only [List.getD_cons_zero, List.getD_cons_succ] at cr0 cr1; have ap : Apart (w.heap.size + 1 + 1) (.slice ad5 (limbs (a * b)).length c5) := f7.apart (by simpa using ltr); clear b5 f7 h1 h2))
    go_wp2
    obtain ⟨te, hg⟩ := vr.set2 (.bool false) (.slice ad5 (limbs (a * b)).length c5)
    refine bodyPost_ret_by (results_cell_row rfl _ _ (w.heap.size + 1 + 1) te _ (0, 0) _ rfl hg Tryd.underlying83 rfl (by kernel_rfl)) rfl ?_
    exact ⟨_, rfl, num_set2 h7 ap _ _, below_set2 B (by omega) _ _⟩
  · skip
    go_region_held3 (fun w' => w'.cell? ⟨w.heap.size, 0, none⟩ = some (.bool false) ∧ w'.cell? ⟨w.heap.size, 1, none⟩ = some v1 ∧ w'.cell? ⟨w.heap.size + 1, 0, none⟩ = some (.bool true) ∧ w'.cell? ⟨w.heap.size + 1, 1, none⟩ = some v2)
      (first | exact vals22 vx vy | exact vals22 vx.drew vy.drew | exact vals22 (vals_off2 vx (show w.heap.size + 1 + 1 ≠ w.heap.size by omega) _ _) (vals_off2 vy (show w.heap.size + 1 + 1 ≠ w.heap.size + 1 by omega) _ _))
      ((go_at_call 56; refine (HPM.out _ h1 h2).mono ?_; rintro e w5 ⟨v5, rfl, h7, f7, b5⟩; obtain ⟨ad5, c5, rfl, s5⟩ := h7; have h7 : Num w5 (.slice ad5 _ c5) _ := ⟨_, _, rfl, s5⟩; clear s5; replace vx := vx.drew.mono b5; replace vy := vy.drew.mono b5; replace vr := vr.drew.mono b5; replace B := below_trans B.drew b5; have ltr5 := vr.lt; have gr0 := vr.frozen 0; have gr1 := vr.frozen 1; have cr0 := vr.cell (i := 0) (by simp); have cr1 := vr.cell (i := 1) (by simp); simp only [List.getD_cons_zero, List.getD_cons_succ] at cr0 cr1; have ap : Apart (w.heap.size + 1 + 1) (.slice ad5 (limbs (a * b)).length c5) := f7.apart (by simpa using ltr); clear b5 f7 h1 h2))
    go_wp2
    obtain ⟨te, hg⟩ := vr.set2 (.bool true) (.slice ad5 (limbs (a * b)).length c5)
    refine bodyPost_ret_by (results_cell_row rfl _ _ (w.heap.size + 1 + 1) te _ (0, 0) _ rfl hg Tryd.underlying83 rfl (by kernel_rfl)) rfl ?_
    exact ⟨_, rfl, num_set2 h7 ap _ _, below_set2 B (by omega) _ _⟩
  · skip
    go_region_held3 (fun w' => w'.cell? ⟨w.heap.size, 0, none⟩ = some (.bool true) ∧ w'.cell? ⟨w.heap.size, 1, none⟩ = some v1 ∧ w'.cell? ⟨w.heap.size + 1, 0, none⟩ = some (.bool false) ∧ w'.cell? ⟨w.heap.size + 1, 1, none⟩ = some v2)
      (first | exact vals22 vx vy | exact vals22 vx.drew vy.drew | exact vals22 (vals_off2 vx (show w.heap.size + 1 + 1 ≠ w.heap.size by omega) _ _) (vals_off2 vy (show w.heap.size + 1 + 1 ≠ w.heap.size + 1 by omega) _ _))
      ((go_at_call 56; refine (HPM.out _ h1 h2).mono ?_; rintro e w5 ⟨v5, rfl, h7, f7, b5⟩; obtain ⟨ad5, c5, rfl, s5⟩ := h7; have h7 : Num w5 (.slice ad5 _ c5) _ := ⟨_, _, rfl, s5⟩; clear s5; replace vx := vx.drew.mono b5; replace vy := vy.drew.mono b5; replace vr := vr.drew.mono b5; replace B := below_trans B.drew b5; have ltr5 := vr.lt; have gr0 := vr.frozen 0; have gr1 := vr.frozen 1; have cr0 := vr.cell (i := 0) (by simp); have cr1 := vr.cell (i := 1) (by simp); simp only [List.getD_cons_zero, List.getD_cons_succ] at cr0 cr1; have ap : Apart (w.heap.size + 1 + 1) (.slice ad5 (limbs (a * b)).length c5) := f7.apart (by simpa using ltr); clear b5 f7 h1 h2))
    go_wp2
    obtain ⟨te, hg⟩ := vr.set2 (.bool true) (.slice ad5 (limbs (a * b)).length c5)
    refine bodyPost_ret_by (results_cell_row rfl _ _ (w.heap.size + 1 + 1) te _ (0, 0) _ rfl hg Tryd.underlying83 rfl (by kernel_rfl)) rfl ?_
    exact ⟨_, rfl, num_set2 h7 ap _ _, below_set2 B (by omega) _ _⟩
  · skip
    go_region_held3 (fun w' => w'.cell? ⟨w.heap.size, 0, none⟩ = some (.bool true) ∧ w'.cell? ⟨w.heap.size, 1, none⟩ = some v1 ∧ w'.cell? ⟨w.heap.size + 1, 0, none⟩ = some (.bool true) ∧ w'.cell? ⟨w.heap.size + 1, 1, none⟩ = some v2)
      (first | exact vals22 vx vy | exact vals22 vx.drew vy.drew | exact vals22 (vals_off2 vx (show w.heap.size + 1 + 1 ≠ w.heap.size by omega) _ _) (vals_off2 vy (show w.heap.size + 1 + 1 ≠ w.heap.size + 1 by omega) _ _))
      ((go_at_call 56; refine (HPM.out _ h1 h2).mono ?_; rintro e w5 ⟨v5, rfl, h7, f7, b5⟩; obtain ⟨ad5, c5, rfl, s5⟩ := h7; have h7 : Num w5 (.slice ad5 _ c5) _ := ⟨_, _, rfl, s5⟩; clear s5; replace vx := vx.drew.mono b5; replace vy := vy.drew.mono b5; replace vr := vr.drew.mono b5; replace B := below_trans B.drew b5; have ltr5 := vr.lt; have gr0 := vr.frozen 0; have gr1 := vr.frozen 1; have cr0 := vr.cell (i := 0) (by simp); have cr1 := vr.cell (i := 1) (by simp); simp only [List.getD_cons_zero, List.getD_cons_succ] at cr0 cr1; have ap : Apart (w.heap.size + 1 + 1) (.slice ad5 (limbs (a * b)).length c5) := f7.apart (by simpa using ltr); clear b5 f7 h1 h2))
    go_wp2
    obtain ⟨te, hg⟩ := vr.set2 (.bool false) (.slice ad5 (limbs (a * b)).length c5)
    refine bodyPost_ret_by (results_cell_row rfl _ _ (w.heap.size + 1 + 1) te _ (0, 0) _ rfl hg Tryd.underlying83 rfl (by kernel_rfl)) rfl ?_
    exact ⟨_, rfl, num_set2 h7 ap _ _, below_set2 B (by omega) _ _⟩

/-- a number of a tone, or that it is too great -/
def RetLow (w : World) (z : Int) (b : Bool) (e : Ending) (w' : World) : Prop := e = .returned (.tuple #[.int .i64 z, .bool b]) ∧ Below w.heap.size w w'
theorem lowRet_true (q : Nat) (h : q ≤ 960) : Ending.returned (.tuple #[.int .i64 (-(q : Int)), .bool true]) = .returned (.tuple #[.int .i64 (sgnV true q), .bool true]) := rfl
theorem lowRet_false (q : Nat) (h : q ≤ 960) : Ending.returned (.tuple #[.int .i64 (q : Int), .bool true]) = .returned (.tuple #[.int .i64 (sgnV false q), .bool true]) := rfl

set_option maxRecDepth 100000 in
theorem rlow_yes_true (v1 v2 : Value) (n g k : Nat) (w : World) (h1 : Num w v1 n) (h2 : Num w v2 g) (hg : g ≠ 0) (l1 : (limbs n).length ≤ 1000) (l2 : (limbs g).length ≤ 1000) (hm : k ≤ 960) (hk : n / g ≤ k) :
    Calls Tryd.prog 101 #[.agg #[.bool true, v1], v2, .int .i64 (k : Int)] w (RetLow w (sgnV true (n / g)) true) := by
  have hq := limbs_length_mono (Nat.div_le_self n g)
  have DV := fun (w : World) (h1 : Num w v1 n) (h2 : Num w v2 g) => rdivmod_calls v1 v2 n g w h1 h2 hg (by omega) (by omega)
  obtain ⟨q, eq⟩ : ∃ q, n / g = q := ⟨_, rfl⟩
  rw [eq] at DV hq hk
  rw [eq]
  have HDV := Lib.hid DV
  clear DV hg l1 l2 eq
  have SM := fun (v : Value) (w : World) (h : Num w v q) => small_ok v q w h (limbs_length_le (by omega))
  have HSM := Lib.hid SM
  have hq2 : q ≤ 960 := by omega
  have tk : decide ((k : Int) < (q : Int)) = false := by rw [decide_eq_false_iff_not]; omega
  have tk2 : ¬ ((k : Int) < (q : Int)) := by omega
  clear SM hq hk
  have vx := Vals.newL w (w.heap.size) [.bool true, v1] 83 rfl
  have bb := below_alloc w (.cells #[.bool true, v1] 83)
  have B := bb
  have bb0 := B
  clear bb
  go_enter Tryd.func101, Tryd.ntmps101
  go_wp2_with fail
  generalize (w.alloc (.cells #[.bool true, v1] 83)) = w0 at *
  replace h1 := h1.mono bb0
  replace h2 := h2.mono bb0
  clear bb0
  have cvx0 := vx.cell (i := 0) (by simp)
  have cvx1 := vx.cell (i := 1) (by simp)
  simp only [List.getD_cons_zero, List.getD_cons_succ] at cvx0 cvx1
  have ltvx := vx.lt
  try go_wp2_with fail
  clear cvx0 cvx1 ltvx
  refine (HDV.out _ h1 h2).mono ?_
  rintro e w1 ⟨v3, v4, rfl, h3, _, b1⟩
  replace h1 := h1.mono b1
  replace h2 := h2.mono b1
  replace vx := vx.mono b1
  replace B := below_trans B b1
  clear b1
  clear h1 h2
  go_wp2_with fail
  refine (HSM.out _ _ h3).mono ?_
  rintro e wq ⟨rfl, rfl⟩
  clear h3
  have cvx0 := vx.cell (i := 0) (by simp)
  have cvx1 := vx.cell (i := 1) (by simp)
  simp only [List.getD_cons_zero, List.getD_cons_succ] at cvx0 cvx1
  have ltvx := vx.lt
  go_wp2
  go_ret2
  exact ⟨lowRet_true q hq2, B⟩

set_option maxRecDepth 100000 in
theorem rlow_yes_false (v1 v2 : Value) (n g k : Nat) (w : World) (h1 : Num w v1 n) (h2 : Num w v2 g) (hg : g ≠ 0) (l1 : (limbs n).length ≤ 1000) (l2 : (limbs g).length ≤ 1000) (hm : k ≤ 960) (hk : n / g ≤ k) :
    Calls Tryd.prog 101 #[.agg #[.bool false, v1], v2, .int .i64 (k : Int)] w (RetLow w (sgnV false (n / g)) true) := by
  have hq := limbs_length_mono (Nat.div_le_self n g)
  have DV := fun (w : World) (h1 : Num w v1 n) (h2 : Num w v2 g) => rdivmod_calls v1 v2 n g w h1 h2 hg (by omega) (by omega)
  obtain ⟨q, eq⟩ : ∃ q, n / g = q := ⟨_, rfl⟩
  rw [eq] at DV hq hk
  rw [eq]
  have HDV := Lib.hid DV
  clear DV hg l1 l2 eq
  have SM := fun (v : Value) (w : World) (h : Num w v q) => small_ok v q w h (limbs_length_le (by omega))
  have HSM := Lib.hid SM
  have hq2 : q ≤ 960 := by omega
  have tk : decide ((k : Int) < (q : Int)) = false := by rw [decide_eq_false_iff_not]; omega
  have tk2 : ¬ ((k : Int) < (q : Int)) := by omega
  clear SM hq hk
  have vx := Vals.newL w (w.heap.size) [.bool false, v1] 83 rfl
  have bb := below_alloc w (.cells #[.bool false, v1] 83)
  have B := bb
  have bb0 := B
  clear bb
  go_enter Tryd.func101, Tryd.ntmps101
  go_wp2_with fail
  generalize (w.alloc (.cells #[.bool false, v1] 83)) = w0 at *
  replace h1 := h1.mono bb0
  replace h2 := h2.mono bb0
  clear bb0
  have cvx0 := vx.cell (i := 0) (by simp)
  have cvx1 := vx.cell (i := 1) (by simp)
  simp only [List.getD_cons_zero, List.getD_cons_succ] at cvx0 cvx1
  have ltvx := vx.lt
  try go_wp2_with fail
  clear cvx0 cvx1 ltvx
  refine (HDV.out _ h1 h2).mono ?_
  rintro e w1 ⟨v3, v4, rfl, h3, _, b1⟩
  replace h1 := h1.mono b1
  replace h2 := h2.mono b1
  replace vx := vx.mono b1
  replace B := below_trans B b1
  clear b1
  clear h1 h2
  go_wp2_with fail
  refine (HSM.out _ _ h3).mono ?_
  rintro e wq ⟨rfl, rfl⟩
  clear h3
  have cvx0 := vx.cell (i := 0) (by simp)
  have cvx1 := vx.cell (i := 1) (by simp)
  simp only [List.getD_cons_zero, List.getD_cons_succ] at cvx0 cvx1
  have ltvx := vx.lt
  go_wp2
  go_ret2
  exact ⟨lowRet_false q hq2, B⟩

set_option maxRecDepth 100000 in
theorem rlow_no (m : Bool) (v1 v2 : Value) (n g k : Nat) (w : World) (h1 : Num w v1 n) (h2 : Num w v2 g) (hg : g ≠ 0) (l1 : (limbs n).length ≤ 1000) (l2 : (limbs g).length ≤ 1000) (hm : k ≤ 960) (hk : k < n / g) (hj : (limbs (n / g)).length ≤ 2) :
    Calls Tryd.prog 101 #[.agg #[.bool m, v1], v2, .int .i64 (k : Int)] w (RetLow w 0 false) := by
  have hq := limbs_length_mono (Nat.div_le_self n g)
  have DV := fun (w : World) (h1 : Num w v1 n) (h2 : Num w v2 g) => rdivmod_calls v1 v2 n g w h1 h2 hg (by omega) (by omega)
  obtain ⟨q, eq⟩ : ∃ q, n / g = q := ⟨_, rfl⟩
  rw [eq] at DV hq hk hj
  have HDV := Lib.hid DV
  clear DV hg l1 l2 eq
  have SM := fun (v : Value) (w : World) (h : Num w v q) => small_ok v q w h hj
  have HSM := Lib.hid SM
  have hq2 : q < 18446744073709551616 := by
    have := val_lt (limbs q) (limbs_lt q)
    rw [val_limbs] at this
    have h3 : (4294967296 : Nat) ^ (limbs q).length ≤ 4294967296 ^ 2 := Nat.pow_le_pow_right (by omega) hj
    omega
  have tk : decide ((k : Int) < (q : Int)) = true := by rw [decide_eq_true_eq]; omega
  clear SM hq hj
  have vx := Vals.newL w (w.heap.size) [.bool m, v1] 83 rfl
  have bb := below_alloc w (.cells #[.bool m, v1] 83)
  have B := bb
  have bb0 := B
  clear bb
  go_enter Tryd.func101, Tryd.ntmps101
  go_wp2_with fail
  generalize (w.alloc (.cells #[.bool m, v1] 83)) = w0 at *
  replace h1 := h1.mono bb0
  replace h2 := h2.mono bb0
  clear bb0
  have cvx0 := vx.cell (i := 0) (by simp)
  have cvx1 := vx.cell (i := 1) (by simp)
  simp only [List.getD_cons_zero, List.getD_cons_succ] at cvx0 cvx1
  have ltvx := vx.lt
  try go_wp2_with fail
  clear cvx0 cvx1 ltvx
  refine (HDV.out _ h1 h2).mono ?_
  rintro e w1 ⟨v3, v4, rfl, h3, _, b1⟩
  replace h1 := h1.mono b1
  replace h2 := h2.mono b1
  replace vx := vx.mono b1
  replace B := below_trans B b1
  clear b1
  clear h1 h2
  go_wp2_with fail
  refine (HSM.out _ _ h3).mono ?_
  rintro e wq ⟨rfl, rfl⟩
  clear h3
  go_wp2
  go_ret2
  exact ⟨rfl, B⟩

set_option maxRecDepth 100000 in
theorem rlow_long (m : Bool) (v1 v2 : Value) (n g k : Nat) (w : World) (h1 : Num w v1 n) (h2 : Num w v2 g) (hg : g ≠ 0) (l1 : (limbs n).length ≤ 1000) (l2 : (limbs g).length ≤ 1000) (hm : k ≤ 960) (hk : k < n / g) (hj : 2 < (limbs (n / g)).length) :
    Calls Tryd.prog 101 #[.agg #[.bool m, v1], v2, .int .i64 (k : Int)] w (RetLow w 0 false) := by
  have hq := limbs_length_mono (Nat.div_le_self n g)
  have DV := fun (w : World) (h1 : Num w v1 n) (h2 : Num w v2 g) => rdivmod_calls v1 v2 n g w h1 h2 hg (by omega) (by omega)
  obtain ⟨q, eq⟩ : ∃ q, n / g = q := ⟨_, rfl⟩
  rw [eq] at DV hq hk hj
  have HDV := Lib.hid DV
  clear DV hg l1 l2 eq
  have SM := fun (v : Value) (w : World) (h : Num w v q) => small_long v q w h hj
  have HSM := Lib.hid SM
  clear SM hq hk hj
  have vx := Vals.newL w (w.heap.size) [.bool m, v1] 83 rfl
  have bb := below_alloc w (.cells #[.bool m, v1] 83)
  have B := bb
  have bb0 := B
  clear bb
  go_enter Tryd.func101, Tryd.ntmps101
  go_wp2_with fail
  generalize (w.alloc (.cells #[.bool m, v1] 83)) = w0 at *
  replace h1 := h1.mono bb0
  replace h2 := h2.mono bb0
  clear bb0
  have cvx0 := vx.cell (i := 0) (by simp)
  have cvx1 := vx.cell (i := 1) (by simp)
  simp only [List.getD_cons_zero, List.getD_cons_succ] at cvx0 cvx1
  have ltvx := vx.lt
  try go_wp2_with fail
  clear cvx0 cvx1 ltvx
  refine (HDV.out _ h1 h2).mono ?_
  rintro e w1 ⟨v3, v4, rfl, h3, _, b1⟩
  replace h1 := h1.mono b1
  replace h2 := h2.mono b1
  replace vx := vx.mono b1
  replace B := below_trans B b1
  clear b1
  clear h1 h2
  go_wp2_with fail
  refine (HSM.out _ _ h3).mono ?_
  rintro e wq ⟨rfl, rfl⟩
  clear h3
  go_wp2
  go_ret2
  exact ⟨rfl, B⟩

/-- a number of a tone that is small enough, else nothing -/
def lowV (m : Bool) (q k : Nat) : Int := if q ≤ k then sgnV m q else 0
theorem rlow_calls (m : Bool) (v1 v2 : Value) (n g k : Nat) (z : Int) (w : World) (h1 : Num w v1 n) (h2 : Num w v2 g) (hg : g ≠ 0) (l1 : (limbs n).length ≤ 1000) (l2 : (limbs g).length ≤ 1000) (hm : k ≤ 960) (hz : z = (k : Int)) :
    Calls Tryd.prog 101 #[.agg #[.bool m, v1], v2, .int .i64 z] w (RetLow w (lowV m (n / g) k) (decide (n / g ≤ k))) := by
  subst hz
  unfold lowV
  by_cases hk : n / g ≤ k
  · rw [if_pos hk, decide_eq_true hk]
    cases m
    · exact rlow_yes_false v1 v2 n g k w h1 h2 hg l1 l2 hm hk
    · exact rlow_yes_true v1 v2 n g k w h1 h2 hg l1 l2 hm hk
  · rw [if_neg hk, decide_eq_false hk]
    by_cases hj : (limbs (n / g)).length ≤ 2
    · exact rlow_no m v1 v2 n g k w h1 h2 hg l1 l2 hm (by omega) hj
    · exact rlow_long m v1 v2 n g k w h1 h2 hg l1 l2 hm (by omega) (by omega)

end Go.Proofs
