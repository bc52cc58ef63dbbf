/- wire: product, whole, pull, holds; Tension, Stress, Holds in range; the law's fold. -/
import Derived.Test.YtmnalmmffphnpaaDoorNatD
import Derived.Test.YtmnalmmffphnpaaDoorPow
open Go.RowKit
namespace Go.Proofs
set_option linter.unusedVariables false
set_option linter.unusedSimpArgs false

def ints (ns : List Nat) : Array Value := (ns.map fun (n : Nat) => Value.int .i64 (n : Int)).toArray

/-- a row of ints -/
def CellI (w : World) (b : Nat) (ns : List Nat) : Prop := b < w.heap.size ∧ ∀ i, i < ns.length → w.cell? ⟨b, i, none⟩ = some (.int .i64 ((ns.getD i 0 : Nat) : Int)) ∧ w.frozen? ⟨b, i, none⟩ = false

theorem CellI.mono {w w' b ns} (h : CellI w b ns) (hb : Below w.heap.size w w') : CellI w' b ns :=
  ⟨Nat.lt_of_lt_of_le h.1 hb.size, fun i hi => ⟨(hb.cell (p := ⟨b, i, none⟩) h.1).trans (h.2 i hi).1, (hb.frozen (p := ⟨b, i, none⟩) h.1).trans (h.2 i hi).2⟩⟩

theorem cellI_new (w : World) (ns : List Nat) (vs : Array Value) (e : TypeId) (hv : vs = ints ns) : CellI (w.alloc (.cells vs e)) w.heap.size ns := by
  subst hv
  refine ⟨by rw [World.size_alloc]; omega, fun i hi => ⟨?_, ?_⟩⟩
  · have h1 : (ints ns)[i]? = some (.int .i64 ((ns.getD i 0 : Nat) : Int)) := by
      simp [ints, hi]
    unfold World.cell?
    rw [heap_alloc_new]
    simpa using h1
  · unfold World.frozen?
    rw [heap_alloc_new]
    simp

/-- the product of the first i numbers -/
def prodTo (ns : List Nat) : Nat → Nat
  | 0 => 1
  | i + 1 => prodTo ns i * ns.getD i 0

theorem ten_limbs (n : Nat) : (limbs (10 ^ n)).length ≤ n + 1 := by
  have h5 := limbs_length_pow 10 n
  have h6 : (limbs 10).length ≤ 1 := limbs_length_le (by omega)
  have h8 : (limbs 10).length * n ≤ 1 * n := Nat.mul_le_mul_right n h6
  omega

set_option maxRecDepth 100000 in
theorem product_calls (ten : Nat) (z : Int) (b n c : Nat) (ns : List Nat) (w : World) (hz : z = (ten : Int)) (ht : ten ≤ 30) (hn : n = ns.length) (h8 : ns.length ≤ 10) (hlt : ∀ x ∈ ns, x < 18446744073709551616) (hc : CellI w b ns) :
    Calls Tryd.prog 46 #[.int .i64 z, .slice (some ⟨b, 0, none⟩) n c] w (RetNum w (10 ^ ten * prodTo ns ns.length)) := by
  subst hz
  have HN := Lib.hid hn
  have hn10 : n ≤ 10 := by omega
  have hlt' : ∀ i, i < ns.length → ns.getD i 0 < 18446744073709551616 := by
    intro i hi
    have := hlt ns[i] (List.getElem_mem hi)
    simpa [List.getD, hi] using this
  have HLT := Lib.hid hlt'
  have h10 : (limbs 10).length ≤ 1 := limbs_length_le (by omega)
  have hm10 : (limbs 10).length * ten ≤ 1 * 30 := Nat.mul_le_mul h10 ht
  have hten := ten_limbs ten
  clear hn hlt hlt'
  go_enter Tryd.func46, Tryd.ntmps46
  go_wp2_with fail
  refine (of_calls 10 _ _ (by rfl) (by omega)).mono ?_
  rintro e w1 ⟨v1, rfl, h1, _, b1⟩
  replace hc := hc.mono b1
  go_wp2_with fail
  refine (pow_ok _ 10 ten _ _ h1 (by rfl) (by omega) (.inr (by omega)) (by omega)).mono ?_
  rintro e w2 ⟨v2, rfl, h2, f2, b2⟩
  replace hc := hc.mono b2
  have bb := below_trans b1 b2
  have ff := f2.mono b1.size
  clear b1 b2 f2 h1
  go_wp2
  go_loopw [5, 17] (fun ov iv wr => ∃ i : Nat, i ≤ n ∧ iv = .int .i64 i ∧ Num wr ov (10 ^ ten * prodTo ns i) ∧ Fresh w.heap.size ov ∧ (limbs (10 ^ ten * prodTo ns i)).length ≤ 31 + 2 * i ∧ CellI wr b ns ∧ Below w.heap.size w wr)
    (fun _ iv _ => n - (intOf iv).toNat)
  case atStart => exact ⟨0, by omega, rfl, by rw [prodTo, Nat.mul_one]; exact h2, ff, by rw [prodTo, Nat.mul_one]; omega, hc, bb⟩
  case round =>
    obtain ⟨i, hi, rfl, hv, hf, hl, hci, hbel⟩ := hrel
    by_cases hlt : i < n
    · have hcell := (hci.2 i (by have := HN.out; omega)).1
      have hxi := HLT.out i (by have := HN.out; omega)
      have hstep : 10 ^ ten * prodTo ns (i + 1) = 10 ^ ten * prodTo ns i * ns.getD i 0 := by rw [prodTo, Nat.mul_assoc]
      have Hstep := Lib.hid hstep
      obtain ⟨x, ex⟩ : ∃ x, ns.getD i 0 = x := ⟨_, rfl⟩
      rw [ex] at hcell hxi Hstep
      have hlm := limbs_length_mul (10 ^ ten * prodTo ns i) x
      generalize 10 ^ ten * prodTo ns i = p at *
      have hlx : (limbs x).length ≤ 2 := limbs_length_le (by omega)
      have t1 : (i : Int) < (n : Int) := by omega
      have kw : IntKind.u64.wrap (x : Int) = (x : Int) := by rw [IntKind.wrap_u64]; omega
      clear hstep ex
      go_wp2_with fail
      refine (of_calls x _ _ (by first | rfl | omega) hxi).mono ?_
      rintro e w3 ⟨v3, rfl, h3, _, b3⟩
      replace hv := hv.mono b3
      go_wp2_with fail
      refine (mul_ok _ _ p x _ hv h3 (by omega)).mono ?_
      rintro e w4 ⟨v4, rfl, h4, f4, b4⟩
      have b34 := below_trans b3 b4
      have hci4 := hci.mono b34
      have f4' := f4.mono (below_trans hbel b3).size
      go_wp2
      go_roundw
      case rel => exact ⟨i + 1, by omega, by go_num, by rw [Hstep.out]; exact h4, f4', by rw [Hstep.out]; omega, hci4, below_trans hbel b34⟩
      case measure => simp [intOf]; omega
    · obtain rfl : i = n := by omega
      have t1 : ¬ (i : Int) < (i : Int) := by omega
      clear hlt
      go_wp2
      go_ret
      exact ⟨_, rfl, by rw [← HN.out]; exact hv, hf, hbel⟩

set_option maxRecDepth 100000 in
theorem wwhole_calls (v1 v2 : Value) (a b : Nat) (w : World) (h1 : Num w v1 a) (h2 : Num w v2 b) (hl : (limbs a).length ≤ 262144 ∧ (limbs b).length ≤ 262144) (hb : b ≠ 0) (hq : a / b < 9223372036854775808) :
    Calls Tryd.prog 45 #[v1, v2] w fun e w' => e = .returned (.int .i64 ((a / b : Nat) : Int)) ∧ Below w.heap.size w w' := by
  have D := divmod_ok _ _ a b _ h1 h2 hl hb
  generalize a / b = x at D hq ⊢
  go_enter Tryd.func45, Tryd.ntmps45
  go_wp2_with fail
  refine D.mono ?_
  clear D
  rintro e w1 ⟨q, r, rfl, hq1, _, _, _, _, b1⟩
  have kw : IntKind.i64.wrap (x : Int) = (x : Int) := by rw [IntWalk.i64_in _ (by omega)]
  go_wp2_with fail
  refine (uint64_ok _ x _ hq1 (limbs_length_le (by omega))).mono ?_
  rintro e w2 ⟨rfl, b2⟩
  go_wp2
  go_ret
  exact ⟨rfl, below_trans b1 b2⟩

theorem limbs_small_pow {n k : Nat} (h : n < 10 ^ k) : (limbs n).length ≤ k + 1 := by
  have h1 := limbs_length_mono (Nat.le_of_lt h)
  have h2 := ten_limbs k
  omega

/-- what a string is pulled with -/
def pullN (d w l f : Nat) : Nat := 355 * d * w * w * l * l * f * f / (10 ^ 23 * 113)
def stressN (d l f : Nat) : Nat := 4 * d * l * l * f * f / 10 ^ 20
def holdsB (d s l f y : Nat) : Bool := decide (400 * d * l * l * f * f ≤ 10 ^ 20 * (y * s))

theorem prod8 (a b c d e f g h : Nat) : 10 ^ 0 * prodTo [a, b, c, d, e, f, g, h] [a, b, c, d, e, f, g, h].length = a * b * c * d * e * f * g * h := by
  simp [prodTo, List.getD]
theorem prod6 (a b c d e f : Nat) : 10 ^ 0 * prodTo [a, b, c, d, e, f] [a, b, c, d, e, f].length = a * b * c * d * e * f := by
  simp [prodTo, List.getD]
theorem prod1 (k a : Nat) : 10 ^ k * prodTo [a] [a].length = 10 ^ k * a := by
  simp [prodTo, List.getD]
theorem prod2 (k a b : Nat) : 10 ^ k * prodTo [a, b] [a, b].length = 10 ^ k * (a * b) := by
  simp [prodTo, List.getD]
theorem prod0 (k : Nat) : 10 ^ k * prodTo [] ([] : List Nat).length = 10 ^ k := by
  simp [prodTo]

/-- a bound of such a product -/
theorem mul_bound {a b A B : Nat} (h1 : a ≤ A) (h2 : b ≤ B) : a * b ≤ A * B := Nat.mul_le_mul h1 h2

theorem pull_bound {d w l f : Nat} (hd : d ≤ 30000) (hw : w ≤ 2000) (hl : l ≤ 100000) (hf : f ≤ 10000000) : 355 * d * w * w * l * l * f * f ≤ 355 * 30000 * 2000 * 2000 * 100000 * 100000 * 10000000 * 10000000 :=
  mul_bound (mul_bound (mul_bound (mul_bound (mul_bound (mul_bound (mul_bound (Nat.le_refl _) hd) hw) hw) hl) hl) hf) hf

theorem pullN_lt {d w l f : Nat} (hd : d ≤ 30000) (hw : w ≤ 2000) (hl : l ≤ 100000) (hf : f ≤ 10000000) : pullN d w l f ≤ 4000000000000 := by
  unfold pullN
  have h := pull_bound hd hw hl hf
  generalize 355 * d * w * w * l * l * f * f = x at *
  omega

theorem stress_bound {d l f : Nat} (k : Nat) (hd : d ≤ 30000) (hl : l ≤ 100000) (hf : f ≤ 10000000) : k * d * l * l * f * f ≤ k * 30000 * 100000 * 100000 * 10000000 * 10000000 :=
  mul_bound (mul_bound (mul_bound (mul_bound (mul_bound (Nat.le_refl _) hd) hl) hl) hf) hf

theorem stressN_lt {d l f : Nat} (hd : d ≤ 30000) (hl : l ≤ 100000) (hf : f ≤ 10000000) : stressN d l f ≤ 4000000000000 := by
  unfold stressN
  have h := stress_bound 4 hd hl hf
  generalize 4 * d * l * l * f * f = x at *
  omega

set_option maxRecDepth 100000 in
theorem pull_calls (d dia l f : Nat) (w : World) (hd : d ≤ 30000) (hw : dia ≤ 2000) (hl : l ≤ 100000) (hf : f ≤ 10000000) :
    Calls Tryd.prog 36 #[.int .i64 (d : Int), .int .i64 (dia : Int), .int .i64 (l : Int), .int .i64 (f : Int)] w fun e w' => e = .returned (.int .i64 ((pullN d dia l f : Nat) : Int)) ∧ Below w.heap.size w w' := by
  have hA := pull_bound hd hw hl hf
  have hq := pullN_lt hd hw hl hf
  have hc1 := cellI_new w [355, d, dia, dia, l, l, f, f] #[.int .i64 355, .int .i64 (d : Int), .int .i64 (dia : Int), .int .i64 (dia : Int), .int .i64 (l : Int), .int .i64 (l : Int), .int .i64 (f : Int), .int .i64 (f : Int)] 3 rfl
  have P1 := product_calls 0 0 w.heap.size 8 8 _ _ rfl (by omega) rfl (by simp) (by intro x hx; simp at hx; omega) hc1
  rw [prod8] at P1
  have b0 := below_alloc w (.cells #[.int .i64 355, .int .i64 (d : Int), .int .i64 (dia : Int), .int .i64 (dia : Int), .int .i64 (l : Int), .int .i64 (l : Int), .int .i64 (f : Int), .int .i64 (f : Int)] 3)
  obtain ⟨A, eA⟩ : ∃ A, 355 * d * dia * dia * l * l * f * f = A := ⟨_, rfl⟩
  have hpull : pullN d dia l f = A / (10 ^ 23 * 113) := by rw [pullN, eA]
  rw [hpull] at hq ⊢
  rw [eA] at hA P1
  have hlA : (limbs A).length ≤ 60 := Nat.le_trans (limbs_small_pow (n := A) (k := 50) (by omega)) (by omega)
  have lB : (limbs (10 ^ 23 * 113)).length ≤ 60 := Nat.le_trans (limbs_small_pow (n := 10 ^ 23 * 113) (k := 50) (by omega)) (by omega)
  have hB0 : 10 ^ 23 * 113 ≠ 0 := by omega
  obtain ⟨B, eB⟩ : ∃ B, 10 ^ 23 * 113 = B := ⟨_, rfl⟩
  rw [eB] at lB hq hB0 ⊢
  obtain ⟨q, eq⟩ : ∃ q, A / B = q := ⟨_, rfl⟩
  rw [eq] at hq ⊢
  have W := fun (v1 v2 : Value) (w : World) (h1 : Num w v1 A) (h2 : Num w v2 B) => wwhole_calls v1 v2 A B w h1 h2 ⟨by omega, by omega⟩ hB0 (by omega)
  rw [eq] at W
  have HW := Lib.hid W
  have EB := Lib.hid eB
  clear W eq eB hB0 lB hlA hA
  clear hc1 eA hpull
  go_enter Tryd.func36, Tryd.ntmps36
  go_wp2_with fail
  refine P1.mono ?_
  clear P1
  rintro e w1 ⟨v1, rfl, h1, _, b1⟩
  replace b1 := below_trans b0 b1
  clear b0
  have hc2 := cellI_new w1 [113] #[.int .i64 113] 3 rfl
  have P2 := product_calls 23 23 w1.heap.size 1 1 _ _ rfl (by omega) rfl (by simp) (by intro x hx; simp at hx; omega) hc2
  rw [prod1, EB.out] at P2
  have b2 := below_alloc w1 (.cells #[.int .i64 113] 3)
  replace h1 := h1.mono b2
  clear hc2
  go_wp2_with fail
  refine P2.mono ?_
  clear P2
  rintro e w2 ⟨v2, rfl, h2, _, b3⟩
  replace h1 := h1.mono b3
  go_wp2_with fail
  refine (HW.out _ v2 w2 h1 h2).mono ?_
  rintro e w3 ⟨rfl, b4⟩
  go_wp2
  go_ret
  exact ⟨rfl, below_trans (below_trans b1 b2) (below_trans b3 b4)⟩

theorem product_nil (ten : Nat) (z : Int) (w : World) (hz : z = (ten : Int)) (ht : ten ≤ 30) :
    Calls Tryd.prog 46 #[.int .i64 z, .slice none 0 0] w (RetNum w (10 ^ ten)) := by
  subst hz
  have h10 : (limbs 10).length ≤ 1 := limbs_length_le (by omega)
  have hm10 : (limbs 10).length * ten ≤ 1 * 30 := Nat.mul_le_mul h10 ht
  go_enter Tryd.func46, Tryd.ntmps46
  go_wp2_with fail
  refine (of_calls 10 _ _ (by rfl) (by omega)).mono ?_
  rintro e w1 ⟨v1, rfl, h1, _, b1⟩
  go_wp2_with fail
  refine (pow_ok _ 10 ten _ _ h1 (by rfl) (by omega) (.inr (by omega)) (by omega)).mono ?_
  rintro e w2 ⟨v2, rfl, h2, f2, b2⟩
  have bb := below_trans b1 b2
  have ff := f2.mono b1.size
  go_wp2
  go_loopw [5, 17] (fun ov iv wr => ov = v2 ∧ iv = .int .i64 0 ∧ wr = w2) (fun _ _ _ => 0)
  case atStart => exact ⟨rfl, rfl, rfl⟩
  case round =>
    obtain ⟨rfl, rfl, rfl⟩ := hrel
    go_wp2
    go_ret
    exact ⟨_, rfl, h2, ff, bb⟩

/-- a number is 1 to a limit -/
def inR (z m : Int) : Bool := decide (1 ≤ z ∧ z ≤ m)

theorem within_calls (z m : Int) (w : World) : Calls Tryd.prog 30 #[.int .i64 z, .int .i64 m] w fun e w' => e = .returned (.bool (inR z m)) ∧ w = w' := by
  by_cases h1 : 1 ≤ z
  · by_cases h2 : z ≤ m
    · have h : inR z m = true := by simp [inR, h1, h2]
      rw [h]
      go_enter Tryd.func30, Tryd.ntmps30
      go_wp2
      go_ret
      exact ⟨rfl, rfl⟩
    · have h : inR z m = false := by simp [inR, h2]
      rw [h]
      go_enter Tryd.func30, Tryd.ntmps30
      go_wp2
      go_ret
      exact ⟨rfl, rfl⟩
  · have h : inR z m = false := by simp [inR, h1]
    rw [h]
    go_enter Tryd.func30, Tryd.ntmps30
    go_wp2
    go_ret
    exact ⟨rfl, rfl⟩

theorem inR_nat {n : Nat} {m : Int} (h1 : 1 ≤ n) (h2 : (n : Int) ≤ m) : inR n m = true := by simp [inR]; omega
theorem inR_some {z : Int} {m : Nat} (h : inR z m = true) : ∃ n : Nat, z = n ∧ 1 ≤ n ∧ n ≤ m := by
  simp [inR] at h
  exact ⟨z.toNat, by omega, by omega, by omega⟩

set_option maxRecDepth 100000 in
theorem tension_in (d dia l f : Nat) (w : World) (hd : 1 ≤ d ∧ d ≤ 30000) (hw : 1 ≤ dia ∧ dia ≤ 2000) (hl : 1 ≤ l ∧ l ≤ 100000) (hf : 1 ≤ f ∧ f ≤ 10000000) :
    Calls Tryd.prog 26 #[.int .i64 (d : Int), .int .i64 (dia : Int), .int .i64 (l : Int), .int .i64 (f : Int)] w fun e w' => e = .returned (.tuple #[.int .i64 ((pullN d dia l f : Nat) : Int), .int .i64 0]) ∧ Below w.heap.size w w' := by
  have h1 : inR d 30000 = true := inR_nat hd.1 (by omega)
  have h2 : inR dia 2000 = true := inR_nat hw.1 (by omega)
  have h3 : inR l 100000 = true := inR_nat hl.1 (by omega)
  have h4 : inR f 10000000 = true := inR_nat hf.1 (by omega)
  have P := fun w : World => pull_calls d dia l f w hd.2 hw.2 hl.2 hf.2
  have HP := Lib.hid P
  clear P hd hw hl hf
  go_enter Tryd.func26, Tryd.ntmps26
  go_wp2_with (go_at_call 30; refine (within_calls _ _ _).mono ?_; rintro e w' ⟨rfl, rfl⟩)
  refine (HP.out _).mono ?_
  rintro e w1 ⟨rfl, b1⟩
  go_wp2
  go_ret2
  exact ⟨rfl, b1⟩

set_option maxRecDepth 100000 in
theorem tension_out (z1 z2 z3 z4 : Int) (w : World) (h : ¬ (inR z1 30000 = true ∧ inR z2 2000 = true ∧ inR z3 100000 = true ∧ inR z4 10000000 = true)) :
    Calls Tryd.prog 26 #[.int .i64 z1, .int .i64 z2, .int .i64 z3, .int .i64 z4] w fun e w' => e = .returned (.tuple #[.int .i64 0, .int .i64 1]) ∧ Below w.heap.size w w' := by
  have ways : inR z1 30000 = false ∨ (inR z1 30000 = true ∧ inR z2 2000 = false) ∨ (inR z1 30000 = true ∧ inR z2 2000 = true ∧ inR z3 100000 = false) ∨ (inR z1 30000 = true ∧ inR z2 2000 = true ∧ inR z3 100000 = true ∧ inR z4 10000000 = false) := by
    revert h
    generalize inR z1 30000 = r1
    generalize inR z2 2000 = r2
    generalize inR z3 100000 = r3
    generalize inR z4 10000000 = r4
    intro h
    cases r1 <;> cases r2 <;> cases r3 <;> cases r4 <;> simp_all
  clear h
  rcases ways with h1 | ⟨h1, h2⟩ | ⟨h1, h2, h3⟩ | ⟨h1, h2, h3, h4⟩
  all_goals
    go_enter Tryd.func26, Tryd.ntmps26
    go_wp2_with (go_at_call 30; refine (within_calls _ _ _).mono ?_; rintro e w' ⟨rfl, rfl⟩)
    go_ret2
    exact ⟨rfl, Below.refl _ _⟩

set_option maxRecDepth 100000 in
theorem holds_calls (d s l f y : Nat) (w : World) (hd : d ≤ 30000) (hs : s ≤ 100000) (hl : l ≤ 100000) (hf : f ≤ 10000000) (hy : y ≤ 100) :
    Calls Tryd.prog 42 #[.int .i64 (d : Int), .int .i64 (s : Int), .int .i64 (l : Int), .int .i64 (f : Int), .int .i64 (y : Int)] w fun e w' => e = .returned (.bool (holdsB d s l f y)) ∧ Below w.heap.size w w' := by
  have hA := stress_bound 400 hd hl hf
  have hys : y * s ≤ 100 * 100000 := Nat.mul_le_mul hy hs
  have hc1 := cellI_new w [400, d, l, l, f, f] #[.int .i64 400, .int .i64 (d : Int), .int .i64 (l : Int), .int .i64 (l : Int), .int .i64 (f : Int), .int .i64 (f : Int)] 3 rfl
  have P1 := product_calls 0 0 w.heap.size 6 6 _ _ rfl (by omega) rfl (by simp) (by intro x hx; simp at hx; omega) hc1
  rw [prod6] at P1
  have b0 := below_alloc w (.cells #[.int .i64 400, .int .i64 (d : Int), .int .i64 (l : Int), .int .i64 (l : Int), .int .i64 (f : Int), .int .i64 (f : Int)] 3)
  obtain ⟨A, eA⟩ : ∃ A, 400 * d * l * l * f * f = A := ⟨_, rfl⟩
  rw [eA] at hA P1
  have hlA : (limbs A).length ≤ 60 := Nat.le_trans (limbs_small_pow (n := A) (k := 50) (by omega)) (by omega)
  have hlB : (limbs (10 ^ 20 * (y * s))).length ≤ 60 := Nat.le_trans (limbs_small_pow (n := 10 ^ 20 * (y * s)) (k := 50) (by generalize y * s = t at *; omega)) (by omega)
  have hP2 : ∀ w1 : World, Calls Tryd.prog 46 #[.int .i64 20, .slice (some ⟨w1.heap.size, 0, none⟩) 2 2] (w1.alloc (.cells #[.int .i64 (y : Int), .int .i64 (s : Int)] 3)) (RetNum (w1.alloc (.cells #[.int .i64 (y : Int), .int .i64 (s : Int)] 3)) (10 ^ 20 * (y * s))) := fun w1 => by
    have hc2 := cellI_new w1 [y, s] #[.int .i64 (y : Int), .int .i64 (s : Int)] 3 rfl
    have P2 := product_calls 20 20 w1.heap.size 2 2 _ _ rfl (by omega) rfl (by simp) (by intro x hx; simp at hx; omega) hc2
    rw [prod2] at P2
    exact P2
  have hres : holdsB d s l f y = decide (A ≤ 10 ^ 20 * (y * s)) := by rw [holdsB, eA]
  obtain ⟨B, eB⟩ : ∃ B, 10 ^ 20 * (y * s) = B := ⟨_, rfl⟩
  rw [eB] at hlB hres
  simp only [eB] at hP2
  have HP2 := Lib.hid hP2
  obtain ⟨c, ec⟩ : ∃ c, cmpInt A B = c := ⟨_, rfl⟩
  have hcr : decide (c ≤ 0) = decide (A ≤ B) := by
    rw [← ec, decide_eq_decide]
    unfold cmpInt
    split
    · omega
    · split <;> omega
  rw [hres, ← hcr]
  have C := fun (v1 v2 : Value) (w : World) (h1 : Num w v1 A) (h2 : Num w v2 B) => cmp_ok v1 v2 A B w h1 h2 ⟨by omega, by omega⟩
  rw [ec] at C
  have HC := Lib.hid C
  clear C ec eB eA hres hcr hP2 hc1 hlA hlB hA hys
  go_enter Tryd.func42, Tryd.ntmps42
  go_wp2_with fail
  refine P1.mono ?_
  clear P1
  rintro e w1 ⟨v1, rfl, h1, _, b1⟩
  replace b1 := below_trans b0 b1
  clear b0
  have b2 := below_alloc w1 (.cells #[.int .i64 (y : Int), .int .i64 (s : Int)] 3)
  replace h1 := h1.mono b2
  go_wp2_with fail
  refine (HP2.out w1).mono ?_
  rintro e w2 ⟨v2, rfl, h2, _, b3⟩
  replace h1 := h1.mono b3
  go_wp2_with fail
  refine (HC.out v1 v2 w2 h1 h2).mono ?_
  rintro e w3 ⟨rfl, b4⟩
  go_wp2
  go_ret
  exact ⟨rfl, below_trans (below_trans b1 b2) (below_trans b3 b4)⟩

/-- what fold makes of a number -/
def foldN (v : Int) (m : Nat) : Nat := ((v.tmod m + m).tmod m).toNat + 1
theorem foldN_range (v : Int) (m : Nat) (hm : 0 < m) : 1 ≤ foldN v m ∧ foldN v m ≤ m := by
  unfold foldN
  have h1 : -(m : Int) < v.tmod m := by have := Int.lt_tmod_of_pos v (show (0 : Int) < m by omega); omega
  have h2 : (v.tmod m + m).tmod m = (v.tmod m + m) % m := Int.tmod_eq_emod_of_nonneg (by omega)
  rw [h2]
  have h3 := Int.emod_lt_of_pos (v.tmod m + m) (show (0 : Int) < m by omega)
  have h4 := Int.emod_nonneg (v.tmod m + m) (show (m : Int) ≠ 0 by omega)
  omega

theorem wrap64_id {x : Int} (h0 : -9223372036854775808 ≤ x) (h1 : x < 9223372036854775808) : wrap64 x = x := by
  unfold wrap64; omega

theorem fold_wrap (v : Int) (m : Nat) (hm : 0 < m) (hm2 : m ≤ 100000000) : wrap64 ((wrap64 (v.tmod m + m)).tmod m + 1) = ((foldN v m : Nat) : Int) := by
  have h1 := Int.lt_tmod_of_pos v (show (0 : Int) < m by omega)
  have h5 := Int.tmod_lt_of_pos v (show (0 : Int) < m by omega)
  rw [wrap64_id (x := v.tmod m + m) (by omega) (by omega)]
  have h2 : (v.tmod m + m).tmod m = (v.tmod m + m) % m := Int.tmod_eq_emod_of_nonneg (by omega)
  have h3 := Int.emod_lt_of_pos (v.tmod m + m) (show (0 : Int) < m by omega)
  have h4 := Int.emod_nonneg (v.tmod m + m) (show (m : Int) ≠ 0 by omega)
  unfold foldN
  rw [h2]
  rw [wrap64_id (by omega) (by omega)]
  omega

theorem fold_calls (v : Int) (m : Nat) (z : Int) (w : World) (hz : z = (m : Int)) (hm : 0 < m) (hm2 : m ≤ 100000000) (h0 : -9223372036854775808 ≤ v) (h1 : v < 9223372036854775808) :
    Calls Tryd.prog 13 #[.int .i64 v, .int .i64 z] w fun e w' => e = .returned (.int .i64 ((foldN v m : Nat) : Int)) ∧ w = w' := by
  subst hz
  go_enter Tryd.func13, Tryd.ntmps13
  go_wp2
  go_ret
  exact ⟨by rw [fold_wrap v m hm hm2]; rfl, rfl⟩

end Go.Proofs
