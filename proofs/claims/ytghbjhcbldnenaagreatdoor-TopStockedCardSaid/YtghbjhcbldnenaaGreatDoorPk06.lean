/- wire: product, whole, pull, holds; Tension, Stress, Holds in range; the law's fold. wire.Coils at the one input of the law's 'lives': pieces 6, 4, 5, 5 and coils of 10. the reference of layer 4: its ranges. slices of ints: what comes in, the law's copy, the tests on pieces. Scalings and picks in memory: what can be read of them; plain tests. -/
import Derived.Test.YtghbjhcbldnenaaGreatDoorPk05
import Derived.Deep.OwnRows
import Derived.BigRegion

section
open Go.RowKit
namespace Go.Proofs
set_option linter.unusedVariables false
set_option linter.unusedSimpArgs false

def ints (ns : List Nat) : Array Value := (ns.map fun (n : Nat) => Value.int .i64 (n : Int)).toArray

/-- a row of ints -/
def CellI (w : World) (b : Nat) (ns : List Nat) : Prop := b < w.heap.size ∧ ∀ i, i < ns.length → w.cell? ⟨b, i, none⟩ = some (.int .i64 ((ns.getD i 0 : Nat) : Int)) ∧ w.frozen? ⟨b, i, none⟩ = false

theorem CellI.mono {w w' b ns} (h : CellI w b ns) (hb : Below w.heap.size w w') : CellI w' b ns :=
  ⟨Nat.lt_of_lt_of_le h.1 hb.size, fun i hi => ⟨(hb.cell (p := ⟨b, i, none⟩) h.1).trans (h.2 i hi).1, (hb.frozen (p := ⟨b, i, none⟩) h.1).trans (h.2 i hi).2⟩⟩

theorem cellI_new (w : World) (ns : List Nat) (vs : Array Value) (e : TypeId) (hv : vs = ints ns) : CellI (w.alloc (.cells vs e)) w.heap.size ns := by
  subst hv
  refine ⟨by rw [World.size_alloc]; omega, fun i hi => ⟨?_, ?_⟩⟩
  · have h1 : (ints ns)[i]? = some (.int .i64 ((ns.getD i 0 : Nat) : Int)) := by
      simp [ints, hi]
    unfold World.cell?
    rw [heap_alloc_new]
    simpa using h1
  · unfold World.frozen?
    rw [heap_alloc_new]
    simp

/-- the product of the first i numbers -/
def prodTo (ns : List Nat) : Nat → Nat
  | 0 => 1
  | i + 1 => prodTo ns i * ns.getD i 0

theorem ten_limbs (n : Nat) : (limbs (10 ^ n)).length ≤ n + 1 := by
  have h5 := limbs_length_pow 10 n
  have h6 : (limbs 10).length ≤ 1 := limbs_length_le (by omega)
  have h8 : (limbs 10).length * n ≤ 1 * n := Nat.mul_le_mul_right n h6
  omega

set_option maxRecDepth 100000 in
theorem product_calls (ten : Nat) (z : Int) (b n c : Nat) (ns : List Nat) (w : World) (hz : z = (ten : Int)) (ht : ten ≤ 30) (hn : n = ns.length) (h8 : ns.length ≤ 10) (hlt : ∀ x ∈ ns, x < 18446744073709551616) (hc : CellI w b ns) :
    Calls Tryz.prog 62 #[.int .i64 z, .slice (some ⟨b, 0, none⟩) n c] w (RetNum w (10 ^ ten * prodTo ns ns.length)) := by
  subst hz
  have HN := Lib.hid hn
  have hn10 : n ≤ 10 := by omega
  have hlt' : ∀ i, i < ns.length → ns.getD i 0 < 18446744073709551616 := by
    intro i hi
    have := hlt ns[i] (List.getElem_mem hi)
    simpa [List.getD, hi] using this
  have HLT := Lib.hid hlt'
  have h10 : (limbs 10).length ≤ 1 := limbs_length_le (by omega)
  have hm10 : (limbs 10).length * ten ≤ 1 * 30 := Nat.mul_le_mul h10 ht
  have hten := ten_limbs ten
  clear hn hlt hlt'
  go_enter Tryz.func62, Tryz.ntmps62
  go_wp2_with fail
  refine (of_calls 10 _ _ (by rfl) (by omega)).mono ?_
  rintro e w1 ⟨v1, rfl, h1, _, b1⟩
  replace hc := hc.mono b1
  go_wp2_with fail
  refine (pow_ok _ 10 ten _ _ h1 (by rfl) (by omega) (.inr (by omega)) (by omega)).mono ?_
  rintro e w2 ⟨v2, rfl, h2, f2, b2⟩
  replace hc := hc.mono b2
  have bb := below_trans b1 b2
  have ff := f2.mono b1.size
  clear b1 b2 f2 h1
  go_wp2
  go_loopw [5, 17] (fun ov iv wr => ∃ i : Nat, i ≤ n ∧ iv = .int .i64 i ∧ Num wr ov (10 ^ ten * prodTo ns i) ∧ Fresh w.heap.size ov ∧ (limbs (10 ^ ten * prodTo ns i)).length ≤ 31 + 2 * i ∧ CellI wr b ns ∧ Below w.heap.size w wr)
    (fun _ iv _ => n - (intOf iv).toNat)
  case atStart => exact ⟨0, by omega, rfl, by rw [prodTo, Nat.mul_one]; exact h2, ff, by rw [prodTo, Nat.mul_one]; omega, hc, bb⟩
  case round =>
    obtain ⟨i, hi, rfl, hv, hf, hl, hci, hbel⟩ := hrel
    by_cases hlt : i < n
    · have hcell := (hci.2 i (by have := HN.out; omega)).1
      have hxi := HLT.out i (by have := HN.out; omega)
      have hstep : 10 ^ ten * prodTo ns (i + 1) = 10 ^ ten * prodTo ns i * ns.getD i 0 := by rw [prodTo, Nat.mul_assoc]
      have Hstep := Lib.hid hstep
      obtain ⟨x, ex⟩ : ∃ x, ns.getD i 0 = x := ⟨_, rfl⟩
      rw [ex] at hcell hxi Hstep
      have hlm := limbs_length_mul (10 ^ ten * prodTo ns i) x
      generalize 10 ^ ten * prodTo ns i = p at *
      have hlx : (limbs x).length ≤ 2 := limbs_length_le (by omega)
      have t1 : (i : Int) < (n : Int) := by omega
      have kw : IntKind.u64.wrap (x : Int) = (x : Int) := by rw [IntKind.wrap_u64]; omega
      clear hstep ex
      go_wp2_with fail
      refine (of_calls x _ _ (by first | rfl | omega) hxi).mono ?_
      rintro e w3 ⟨v3, rfl, h3, _, b3⟩
      replace hv := hv.mono b3
      go_wp2_with fail
      refine (mul_ok _ _ p x _ hv h3 (by omega)).mono ?_
      rintro e w4 ⟨v4, rfl, h4, f4, b4⟩
      have b34 := below_trans b3 b4
      have hci4 := hci.mono b34
      have f4' := f4.mono (below_trans hbel b3).size
      go_wp2
      go_roundw
      case rel => exact ⟨i + 1, by omega, by go_num, by rw [Hstep.out]; exact h4, f4', by rw [Hstep.out]; omega, hci4, below_trans hbel b34⟩
      case measure => simp [intOf]; omega
    · obtain rfl : i = n := by omega
      have t1 : ¬ (i : Int) < (i : Int) := by omega
      clear hlt
      go_wp2
      go_ret
      exact ⟨_, rfl, by rw [← HN.out]; exact hv, hf, hbel⟩

set_option maxRecDepth 100000 in
theorem wwhole_calls (v1 v2 : Value) (a b : Nat) (w : World) (h1 : Num w v1 a) (h2 : Num w v2 b) (hl : (limbs a).length ≤ 262144 ∧ (limbs b).length ≤ 262144) (hb : b ≠ 0) (hq : a / b < 9223372036854775808) :
    Calls Tryz.prog 84 #[v1, v2] w fun e w' => e = .returned (.int .i64 ((a / b : Nat) : Int)) ∧ Below w.heap.size w w' := by
  have D := divmod_ok _ _ a b _ h1 h2 hl hb
  generalize a / b = x at D hq ⊢
  go_enter Tryz.func84, Tryz.ntmps84
  go_wp2_with fail
  refine D.mono ?_
  clear D
  rintro e w1 ⟨q, r, rfl, hq1, _, _, _, _, b1⟩
  have kw : IntKind.i64.wrap (x : Int) = (x : Int) := by rw [IntWalk.i64_in _ (by omega)]
  go_wp2_with fail
  refine (uint64_ok _ x _ hq1 (limbs_length_le (by omega))).mono ?_
  rintro e w2 ⟨rfl, b2⟩
  go_wp2
  go_ret
  exact ⟨rfl, below_trans b1 b2⟩

theorem limbs_small_pow {n k : Nat} (h : n < 10 ^ k) : (limbs n).length ≤ k + 1 := by
  have h1 := limbs_length_mono (Nat.le_of_lt h)
  have h2 := ten_limbs k
  omega

/-- what a string is pulled with -/
def pullN (d w l f : Nat) : Nat := 355 * d * w * w * l * l * f * f / (10 ^ 23 * 113)
def stressN (d l f : Nat) : Nat := 4 * d * l * l * f * f / 10 ^ 20
def holdsB (d s l f y : Nat) : Bool := decide (400 * d * l * l * f * f ≤ 10 ^ 20 * (y * s))

theorem prod8 (a b c d e f g h : Nat) : 10 ^ 0 * prodTo [a, b, c, d, e, f, g, h] [a, b, c, d, e, f, g, h].length = a * b * c * d * e * f * g * h := by
  simp [prodTo, List.getD]
theorem prod6 (a b c d e f : Nat) : 10 ^ 0 * prodTo [a, b, c, d, e, f] [a, b, c, d, e, f].length = a * b * c * d * e * f := by
  simp [prodTo, List.getD]
theorem prod1 (k a : Nat) : 10 ^ k * prodTo [a] [a].length = 10 ^ k * a := by
  simp [prodTo, List.getD]
theorem prod2 (k a b : Nat) : 10 ^ k * prodTo [a, b] [a, b].length = 10 ^ k * (a * b) := by
  simp [prodTo, List.getD]
theorem prod0 (k : Nat) : 10 ^ k * prodTo [] ([] : List Nat).length = 10 ^ k := by
  simp [prodTo]

/-- a bound of such a product -/
theorem mul_bound {a b A B : Nat} (h1 : a ≤ A) (h2 : b ≤ B) : a * b ≤ A * B := Nat.mul_le_mul h1 h2

theorem pull_bound {d w l f : Nat} (hd : d ≤ 30000) (hw : w ≤ 2000) (hl : l ≤ 100000) (hf : f ≤ 10000000) : 355 * d * w * w * l * l * f * f ≤ 355 * 30000 * 2000 * 2000 * 100000 * 100000 * 10000000 * 10000000 :=
  mul_bound (mul_bound (mul_bound (mul_bound (mul_bound (mul_bound (mul_bound (Nat.le_refl _) hd) hw) hw) hl) hl) hf) hf

theorem pullN_lt {d w l f : Nat} (hd : d ≤ 30000) (hw : w ≤ 2000) (hl : l ≤ 100000) (hf : f ≤ 10000000) : pullN d w l f ≤ 4000000000000 := by
  unfold pullN
  have h := pull_bound hd hw hl hf
  generalize 355 * d * w * w * l * l * f * f = x at *
  omega

theorem stress_bound {d l f : Nat} (k : Nat) (hd : d ≤ 30000) (hl : l ≤ 100000) (hf : f ≤ 10000000) : k * d * l * l * f * f ≤ k * 30000 * 100000 * 100000 * 10000000 * 10000000 :=
  mul_bound (mul_bound (mul_bound (mul_bound (mul_bound (Nat.le_refl _) hd) hl) hl) hf) hf

theorem stressN_lt {d l f : Nat} (hd : d ≤ 30000) (hl : l ≤ 100000) (hf : f ≤ 10000000) : stressN d l f ≤ 4000000000000 := by
  unfold stressN
  have h := stress_bound 4 hd hl hf
  generalize 4 * d * l * l * f * f = x at *
  omega

set_option maxRecDepth 100000 in
theorem pull_calls (d dia l f : Nat) (w : World) (hd : d ≤ 30000) (hw : dia ≤ 2000) (hl : l ≤ 100000) (hf : f ≤ 10000000) :
    Calls Tryz.prog 63 #[.int .i64 (d : Int), .int .i64 (dia : Int), .int .i64 (l : Int), .int .i64 (f : Int)] w fun e w' => e = .returned (.int .i64 ((pullN d dia l f : Nat) : Int)) ∧ Below w.heap.size w w' := by
  have hA := pull_bound hd hw hl hf
  have hq := pullN_lt hd hw hl hf
  have hc1 := cellI_new w [355, d, dia, dia, l, l, f, f] #[.int .i64 355, .int .i64 (d : Int), .int .i64 (dia : Int), .int .i64 (dia : Int), .int .i64 (l : Int), .int .i64 (l : Int), .int .i64 (f : Int), .int .i64 (f : Int)] 3 rfl
  have P1 := product_calls 0 0 w.heap.size 8 8 _ _ rfl (by omega) rfl (by simp) (by intro x hx; simp at hx; omega) hc1
  rw [prod8] at P1
  have b0 := below_alloc w (.cells #[.int .i64 355, .int .i64 (d : Int), .int .i64 (dia : Int), .int .i64 (dia : Int), .int .i64 (l : Int), .int .i64 (l : Int), .int .i64 (f : Int), .int .i64 (f : Int)] 3)
  obtain ⟨A, eA⟩ : ∃ A, 355 * d * dia * dia * l * l * f * f = A := ⟨_, rfl⟩
  have hpull : pullN d dia l f = A / (10 ^ 23 * 113) := by rw [pullN, eA]
  rw [hpull] at hq ⊢
  rw [eA] at hA P1
  have hlA : (limbs A).length ≤ 60 := Nat.le_trans (limbs_small_pow (n := A) (k := 50) (by omega)) (by omega)
  have lB : (limbs (10 ^ 23 * 113)).length ≤ 60 := Nat.le_trans (limbs_small_pow (n := 10 ^ 23 * 113) (k := 50) (by omega)) (by omega)
  have hB0 : 10 ^ 23 * 113 ≠ 0 := by omega
  obtain ⟨B, eB⟩ : ∃ B, 10 ^ 23 * 113 = B := ⟨_, rfl⟩
  rw [eB] at lB hq hB0 ⊢
  obtain ⟨q, eq⟩ : ∃ q, A / B = q := ⟨_, rfl⟩
  rw [eq] at hq ⊢
  have W := fun (v1 v2 : Value) (w : World) (h1 : Num w v1 A) (h2 : Num w v2 B) => wwhole_calls v1 v2 A B w h1 h2 ⟨by omega, by omega⟩ hB0 (by omega)
  rw [eq] at W
  have HW := Lib.hid W
  have EB := Lib.hid eB
  clear W eq eB hB0 lB hlA hA
  clear hc1 eA hpull
  go_enter Tryz.func63, Tryz.ntmps63
  go_wp2_with fail
  refine P1.mono ?_
  clear P1
  rintro e w1 ⟨v1, rfl, h1, _, b1⟩
  replace b1 := below_trans b0 b1
  clear b0
  have hc2 := cellI_new w1 [113] #[.int .i64 113] 3 rfl
  have P2 := product_calls 23 23 w1.heap.size 1 1 _ _ rfl (by omega) rfl (by simp) (by intro x hx; simp at hx; omega) hc2
  rw [prod1, EB.out] at P2
  have b2 := below_alloc w1 (.cells #[.int .i64 113] 3)
  replace h1 := h1.mono b2
  clear hc2
  go_wp2_with fail
  refine P2.mono ?_
  clear P2
  rintro e w2 ⟨v2, rfl, h2, _, b3⟩
  replace h1 := h1.mono b3
  go_wp2_with fail
  refine (HW.out _ v2 w2 h1 h2).mono ?_
  rintro e w3 ⟨rfl, b4⟩
  go_wp2
  go_ret
  exact ⟨rfl, below_trans (below_trans b1 b2) (below_trans b3 b4)⟩

theorem product_nil (ten : Nat) (z : Int) (w : World) (hz : z = (ten : Int)) (ht : ten ≤ 30) :
    Calls Tryz.prog 62 #[.int .i64 z, .slice none 0 0] w (RetNum w (10 ^ ten)) := by
  subst hz
  have h10 : (limbs 10).length ≤ 1 := limbs_length_le (by omega)
  have hm10 : (limbs 10).length * ten ≤ 1 * 30 := Nat.mul_le_mul h10 ht
  go_enter Tryz.func62, Tryz.ntmps62
  go_wp2_with fail
  refine (of_calls 10 _ _ (by rfl) (by omega)).mono ?_
  rintro e w1 ⟨v1, rfl, h1, _, b1⟩
  go_wp2_with fail
  refine (pow_ok _ 10 ten _ _ h1 (by rfl) (by omega) (.inr (by omega)) (by omega)).mono ?_
  rintro e w2 ⟨v2, rfl, h2, f2, b2⟩
  have bb := below_trans b1 b2
  have ff := f2.mono b1.size
  go_wp2
  go_loopw [5, 17] (fun ov iv wr => ov = v2 ∧ iv = .int .i64 0 ∧ wr = w2) (fun _ _ _ => 0)
  case atStart => exact ⟨rfl, rfl, rfl⟩
  case round =>
    obtain ⟨rfl, rfl, rfl⟩ := hrel
    go_wp2
    go_ret
    exact ⟨_, rfl, h2, ff, bb⟩

/-- a number is 1 to a limit -/
def inR (z m : Int) : Bool := decide (1 ≤ z ∧ z ≤ m)

theorem within_calls (z m : Int) (w : World) : Calls Tryz.prog 38 #[.int .i64 z, .int .i64 m] w fun e w' => e = .returned (.bool (inR z m)) ∧ w = w' := by
  by_cases h1 : 1 ≤ z
  · by_cases h2 : z ≤ m
    · have h : inR z m = true := by simp [inR, h1, h2]
      rw [h]
      go_enter Tryz.func38, Tryz.ntmps38
      go_wp2
      go_ret
      exact ⟨rfl, rfl⟩
    · have h : inR z m = false := by simp [inR, h2]
      rw [h]
      go_enter Tryz.func38, Tryz.ntmps38
      go_wp2
      go_ret
      exact ⟨rfl, rfl⟩
  · have h : inR z m = false := by simp [inR, h1]
    rw [h]
    go_enter Tryz.func38, Tryz.ntmps38
    go_wp2
    go_ret
    exact ⟨rfl, rfl⟩

theorem inR_nat {n : Nat} {m : Int} (h1 : 1 ≤ n) (h2 : (n : Int) ≤ m) : inR n m = true := by simp [inR]; omega
theorem inR_some {z : Int} {m : Nat} (h : inR z m = true) : ∃ n : Nat, z = n ∧ 1 ≤ n ∧ n ≤ m := by
  simp [inR] at h
  exact ⟨z.toNat, by omega, by omega, by omega⟩

set_option maxRecDepth 100000 in
theorem holds_calls (d s l f y : Nat) (w : World) (hd : d ≤ 30000) (hs : s ≤ 100000) (hl : l ≤ 100000) (hf : f ≤ 10000000) (hy : y ≤ 100) :
    Calls Tryz.prog 54 #[.int .i64 (d : Int), .int .i64 (s : Int), .int .i64 (l : Int), .int .i64 (f : Int), .int .i64 (y : Int)] w fun e w' => e = .returned (.bool (holdsB d s l f y)) ∧ Below w.heap.size w w' := by
  have hA := stress_bound 400 hd hl hf
  have hys : y * s ≤ 100 * 100000 := Nat.mul_le_mul hy hs
  have hc1 := cellI_new w [400, d, l, l, f, f] #[.int .i64 400, .int .i64 (d : Int), .int .i64 (l : Int), .int .i64 (l : Int), .int .i64 (f : Int), .int .i64 (f : Int)] 3 rfl
  have P1 := product_calls 0 0 w.heap.size 6 6 _ _ rfl (by omega) rfl (by simp) (by intro x hx; simp at hx; omega) hc1
  rw [prod6] at P1
  have b0 := below_alloc w (.cells #[.int .i64 400, .int .i64 (d : Int), .int .i64 (l : Int), .int .i64 (l : Int), .int .i64 (f : Int), .int .i64 (f : Int)] 3)
  obtain ⟨A, eA⟩ : ∃ A, 400 * d * l * l * f * f = A := ⟨_, rfl⟩
  rw [eA] at hA P1
  have hlA : (limbs A).length ≤ 60 := Nat.le_trans (limbs_small_pow (n := A) (k := 50) (by omega)) (by omega)
  have hlB : (limbs (10 ^ 20 * (y * s))).length ≤ 60 := Nat.le_trans (limbs_small_pow (n := 10 ^ 20 * (y * s)) (k := 50) (by generalize y * s = t at *; omega)) (by omega)
  have hP2 : ∀ w1 : World, Calls Tryz.prog 62 #[.int .i64 20, .slice (some ⟨w1.heap.size, 0, none⟩) 2 2] (w1.alloc (.cells #[.int .i64 (y : Int), .int .i64 (s : Int)] 3)) (RetNum (w1.alloc (.cells #[.int .i64 (y : Int), .int .i64 (s : Int)] 3)) (10 ^ 20 * (y * s))) := fun w1 => by
    have hc2 := cellI_new w1 [y, s] #[.int .i64 (y : Int), .int .i64 (s : Int)] 3 rfl
    have P2 := product_calls 20 20 w1.heap.size 2 2 _ _ rfl (by omega) rfl (by simp) (by intro x hx; simp at hx; omega) hc2
    rw [prod2] at P2
    exact P2
  have hres : holdsB d s l f y = decide (A ≤ 10 ^ 20 * (y * s)) := by rw [holdsB, eA]
  obtain ⟨B, eB⟩ : ∃ B, 10 ^ 20 * (y * s) = B := ⟨_, rfl⟩
  rw [eB] at hlB hres
  simp only [eB] at hP2
  have HP2 := Lib.hid hP2
  obtain ⟨c, ec⟩ : ∃ c, cmpInt A B = c := ⟨_, rfl⟩
  have hcr : decide (c ≤ 0) = decide (A ≤ B) := by
    rw [← ec, decide_eq_decide]
    unfold cmpInt
    split
    · omega
    · split <;> omega
  rw [hres, ← hcr]
  have C := fun (v1 v2 : Value) (w : World) (h1 : Num w v1 A) (h2 : Num w v2 B) => cmp_ok v1 v2 A B w h1 h2 ⟨by omega, by omega⟩
  rw [ec] at C
  have HC := Lib.hid C
  clear C ec eB eA hres hcr hP2 hc1 hlA hlB hA hys
  go_enter Tryz.func54, Tryz.ntmps54
  go_wp2_with fail
  refine P1.mono ?_
  clear P1
  rintro e w1 ⟨v1, rfl, h1, _, b1⟩
  replace b1 := below_trans b0 b1
  clear b0
  have b2 := below_alloc w1 (.cells #[.int .i64 (y : Int), .int .i64 (s : Int)] 3)
  replace h1 := h1.mono b2
  go_wp2_with fail
  refine (HP2.out w1).mono ?_
  rintro e w2 ⟨v2, rfl, h2, _, b3⟩
  replace h1 := h1.mono b3
  go_wp2_with fail
  refine (HC.out v1 v2 w2 h1 h2).mono ?_
  rintro e w3 ⟨rfl, b4⟩
  go_wp2
  go_ret
  exact ⟨rfl, below_trans (below_trans b1 b2) (below_trans b3 b4)⟩

/-- what fold makes of a number -/
def foldN (v : Int) (m : Nat) : Nat := ((v.tmod m + m).tmod m).toNat + 1
theorem foldN_range (v : Int) (m : Nat) (hm : 0 < m) : 1 ≤ foldN v m ∧ foldN v m ≤ m := by
  unfold foldN
  have h1 : -(m : Int) < v.tmod m := by have := Int.lt_tmod_of_pos v (show (0 : Int) < m by omega); omega
  have h2 : (v.tmod m + m).tmod m = (v.tmod m + m) % m := Int.tmod_eq_emod_of_nonneg (by omega)
  rw [h2]
  have h3 := Int.emod_lt_of_pos (v.tmod m + m) (show (0 : Int) < m by omega)
  have h4 := Int.emod_nonneg (v.tmod m + m) (show (m : Int) ≠ 0 by omega)
  omega

theorem wrap64_id {x : Int} (h0 : -9223372036854775808 ≤ x) (h1 : x < 9223372036854775808) : wrap64 x = x := by
  unfold wrap64; omega

theorem fold_wrap (v : Int) (m : Nat) (hm : 0 < m) (hm2 : m ≤ 100000000) : wrap64 ((wrap64 (v.tmod m + m)).tmod m + 1) = ((foldN v m : Nat) : Int) := by
  have h1 := Int.lt_tmod_of_pos v (show (0 : Int) < m by omega)
  have h5 := Int.tmod_lt_of_pos v (show (0 : Int) < m by omega)
  rw [wrap64_id (x := v.tmod m + m) (by omega) (by omega)]
  have h2 : (v.tmod m + m).tmod m = (v.tmod m + m) % m := Int.tmod_eq_emod_of_nonneg (by omega)
  have h3 := Int.emod_lt_of_pos (v.tmod m + m) (show (0 : Int) < m by omega)
  have h4 := Int.emod_nonneg (v.tmod m + m) (show (m : Int) ≠ 0 by omega)
  unfold foldN
  rw [h2]
  rw [wrap64_id (by omega) (by omega)]
  omega

end Go.Proofs
end

section
open Go.RowKit Go.Deep
namespace Go.Proofs
set_option linter.unusedVariables false
set_option linter.unusedSimpArgs false

def P4 : List Nat := [6, 4, 5, 5]
def sumK (k : Nat) : Nat → Nat
  | 0 => 0
  | i + 1 => sumK k i + if k / 2 ^ i % 2 = 1 then P4.getD i 0 else 0
def FT (k : Nat) : Bool := decide (sumK k 4 ≤ 10)
def CT (k : Nat) : Nat := [0, 1, 1, 1, 1, 2, 1, 2, 1, 2, 1, 2, 1, 2, 2, 2].getD k 0
def fstb (k : Nat) : Nat := [0, 1, 2, 1, 4, 1, 2, 1, 8, 1, 2, 1, 4, 1, 2, 1].getD k 0
def PT (k : Nat) : Nat → Nat
  | 0 => k ^^^ fstb k
  | j + 1 => (PT k j - 1) &&& (k ^^^ fstb k)
def CV (k : Nat) : Nat → Nat
  | 0 => 4
  | j + 1 => if FT (PT k j ||| fstb k) then min (CV k j) (1 + CT (k ^^^ PT k j ^^^ fstb k)) else CV k j

theorem tab1 : ∀ k : Nat, k < 16 → ∀ j : Nat, j < 8 → (PT k j ||| fstb k) ≤ k ∧ PT k j < 16 ∧ fstb k < 16 := by decide
theorem tab2 : ∀ k : Nat, k < 16 → ∀ j : Nat, j < 8 → 0 < k → (k ^^^ PT k j ^^^ fstb k) < k := by decide
theorem tab3 : ∀ k : Nat, k < 16 → ∀ j : Nat, j < 8 → (k = 0 ∨ PT k j ≠ 0 ∨ CV k (j + 1) = CT k) := by decide
theorem tab3b : ∀ k : Nat, k < 16 → ∀ j : Nat, j < 8 → (k = 0 ∨ PT k j = 0 ∨ (j + 1 < 8 ∧ PT k (j + 1) < PT k j)) := by decide
theorem tab4 : ∀ k : Nat, k < 16 → bits BinOp.and IntKind.i64 (k : Int) (-(k : Int)) = ((fstb k : Nat) : Int) := by decide
theorem tab5 : ∀ k : Nat, k < 16 → ∀ i : Nat, i < 4 → bits BinOp.and IntKind.i64 ((k : Int) / (2 : Int) ^ i) 1 = if k / 2 ^ i % 2 = 1 then 1 else 0 := by decide

theorem tab6 : ∀ i : Nat, i < 4 → P4.getD i 0 ≤ 6 := by decide
theorem tab7 : ∀ k : Nat, k < 16 → ∀ i : Nat, i < 4 → sumK k i ≤ 20 := by decide
theorem bits_i64 (a b : Nat) (ha : a < 9223372036854775808) (hb : b < 9223372036854775808) :
    bits .and .i64 a b = ((a &&& b : Nat) : Int) ∧ bits .or .i64 a b = ((a ||| b : Nat) : Int) ∧ bits .xor .i64 a b = ((a ^^^ b : Nat) : Int) := by
  have hk : ∀ n : Int, 0 ≤ n → n < 2 ^ 63 → IntKind.i64.wrap n = n := fun n h0 h1 => by rw [IntKind.wrap_i64]; omega
  have h := bits_nat .i64 63 (by simp [IntKind.bits]) hk a b ha hb
  refine ⟨h.1, h.2, ?_⟩
  have hp : (2 : Nat) ^ IntKind.i64.bits = 18446744073709551616 := by simp [IntKind.bits]
  simp only [bits, BitVec.ofInt_natCast, BitVec.toNat_xor, BitVec.toNat_ofNat, hp, Nat.mod_eq_of_lt (show a < 18446744073709551616 by omega), Nat.mod_eq_of_lt (show b < 18446744073709551616 by omega)]
  have := Nat.xor_lt_two_pow (n := 63) ha hb
  exact hk _ (Int.natCast_nonneg _) (by exact_mod_cast this)

theorem tab8 : ∀ k : Nat, k < 16 → ∀ j : Nat, j < 8 → CV k j ≤ 4 := by decide
theorem tab9 : ∀ q : Nat, q < 16 → CT q ≤ 2 := by decide
theorem info_bool : (Tryz.prog.info? 4).map (fun i => (i.zero, i.size, i.bytes)) = some (some (.bool false), 1, 1) := by kernel_rfl
theorem info_int : (Tryz.prog.info? 3).map (fun i => (i.zero, i.size, i.bytes)) = some (some (.int .i64 0), 1, 8) := by kernel_rfl

/-- a block of values -/
def Vals (w : World) (b : Nat) (vs : List Value) : Prop := ∃ e, w.heap[b]? = some (.cells vs.toArray e (0, 0))
theorem Vals.lt {w b vs} (h : Vals w b vs) : b < w.heap.size := by
  obtain ⟨e, h⟩ := h
  exact (Array.getElem?_eq_some_iff.1 h).1
theorem Vals.mono {w w' : World} {b vs} (h : Vals w b vs) (hb : Below w.heap.size w w') : Vals w' b vs := by
  have hl := h.lt
  obtain ⟨e, h⟩ := h
  exact ⟨e, (hb.block b hl).trans h⟩
theorem Vals.cell {w b vs} (h : Vals w b vs) {i : Nat} (hi : i < vs.length) : w.cell? ⟨b, i, none⟩ = some (vs.getD i undef) := by
  obtain ⟨e, h⟩ := h
  simp [World.cell?, h, hi]
theorem Vals.frozen {w b vs} (h : Vals w b vs) (i : Nat) : w.frozen? ⟨b, i, none⟩ = false := by
  obtain ⟨e, h⟩ := h
  simp [World.frozen?, h]
theorem Vals.drew {w b vs} (h : Vals w b vs) : Vals w.drew b vs := h
theorem Vals.alloc {w b vs} (h : Vals w b vs) (o : Obj) : Vals (w.alloc o) b vs := h.mono (below_alloc w o)
theorem Vals.new (w : World) (b : Nat) (vs : List Value) (c : Array Value) (e : TypeId) (hb : b = w.heap.size) (hc : c = vs.toArray) : Vals (w.alloc (.cells c e)) b vs := by
  subst hb; subst hc
  exact ⟨e, heap_alloc_new _ _⟩
theorem made_vals (v : Value) (n : Nat) : madeCells #[v] n = (List.replicate n v).toArray := by
  apply Array.ext
  · simp [madeCells]
  · intro i h1 h2
    simp [madeCells, Nat.mod_one]
theorem Vals.newL (w : World) (b : Nat) (vs : List Value) (e : TypeId) (hb : b = w.heap.size) : Vals (w.alloc (.cells vs.toArray e)) b vs := Vals.new w b vs _ e hb rfl
theorem Vals.newM (w : World) (b : Nat) (v : Value) (n : Nat) (e : TypeId) (hb : b = w.heap.size) : Vals (w.alloc (.cells (madeCells #[v] n) e)) b (List.replicate n v) := Vals.new w b _ _ e hb (made_vals v n)
theorem Vals.of_made {w : World} {b : Nat} {v : Value} {n : Nat} {e : TypeId} (h : w.heap[b]? = some (.cells (madeCells #[v] n) e (0, 0))) : Vals w b (List.replicate n v) := ⟨e, by rw [h, made_vals]⟩
theorem four_blocks (w : World) (o0 o1 o2 o3 : Obj) :
    ((((w.alloc o0).alloc o1).alloc o2).alloc o3).drew.heap[w.heap.size]? = some o0 ∧ ((((w.alloc o0).alloc o1).alloc o2).alloc o3).drew.heap[w.heap.size + 1]? = some o1 ∧
    ((((w.alloc o0).alloc o1).alloc o2).alloc o3).drew.heap[w.heap.size + 1 + 1]? = some o2 ∧ ((((w.alloc o0).alloc o1).alloc o2).alloc o3).drew.heap[w.heap.size + 1 + 1 + 1]? = some o3 ∧
    Below w.heap.size w ((((w.alloc o0).alloc o1).alloc o2).alloc o3).drew := by
  have s1 := World.size_alloc w o0
  have s2 := World.size_alloc (w.alloc o0) o1
  have s3 := World.size_alloc ((w.alloc o0).alloc o1) o2
  have a0 := heap_alloc_new w o0
  have a1 := heap_alloc_new (w.alloc o0) o1
  have a2 := heap_alloc_new ((w.alloc o0).alloc o1) o2
  have a3 := heap_alloc_new (((w.alloc o0).alloc o1).alloc o2) o3
  have b1 := fun k h => Below.heap_alloc (w.alloc o0) o1 k h
  have b2 := fun k h => Below.heap_alloc ((w.alloc o0).alloc o1) o2 k h
  have b3 := fun k h => Below.heap_alloc (((w.alloc o0).alloc o1).alloc o2) o3 k h
  rw [s3, s2, s1] at a3
  rw [s2, s1] at a2
  rw [s1] at a1
  refine ⟨?_, ?_, ?_, a3, ?_⟩
  · exact ((b3 _ (by omega)).trans (b2 _ (by omega))).trans ((b1 _ (by omega)).trans a0)
  · exact (b3 _ (by omega)).trans ((b2 _ (by omega)).trans a1)
  · exact (b3 _ (by omega)).trans a2
  · exact (((((Below.refl _ w).alloc (Nat.le_refl _) _).alloc (by omega) _).alloc (by omega) _).alloc (by omega) _).drew
theorem Vals.other {w b vs} (h : Vals w b vs) (p : Addr) (hp : p.block ≠ b) (u : Value) : Vals (w.setCell p u) b vs := by
  obtain ⟨e, h⟩ := h
  exact ⟨e, (Below.heap_setCell _ _ _ _ (Ne.symm hp)).trans h⟩
theorem Vals.set {w b vs} (h : Vals w b vs) (i : Nat) (u : Value) : Vals (w.setCell ⟨b, i, none⟩ u) b (vs.set i u) := by
  obtain ⟨e, h⟩ := h
  refine ⟨e, ?_⟩
  rw [heap_setCell_same w b i _ e u h]
  simp

theorem CellI.set_other {w : World} {b : Nat} {ns : List Nat} (h : CellI w b ns) (g i : Nat) (u : Value) (hg : g ≠ b) : CellI (w.setCell ⟨g, i, none⟩ u) b ns := by
  refine ⟨by simpa [World.setCell] using h.1, fun j hj => ⟨?_, ?_⟩⟩
  · rw [← (h.2 j hj).1]
    exact World.cell?_setCell_other w ⟨g, i, none⟩ ⟨b, j, none⟩ _ (by intro e; injection e with e1 e2; exact hg e1)
  · rw [World.frozen?_setCell]; exact (h.2 j hj).2

def fitsV (k : Nat) : List Value := (List.range k).map (fun i => Value.bool (FT i)) ++ List.replicate (16 - k) (.bool false)
def coilsV (k : Nat) : List Value := (List.range k).map (fun i => Value.int .i64 ((CT i : Nat) : Int)) ++ List.replicate (16 - k) (.int .i64 0)

theorem fitsV_len {k : Nat} (h : k ≤ 16) : (fitsV k).length = 16 := by simp [fitsV]; omega
theorem coilsV_len {k : Nat} (h : k ≤ 16) : (coilsV k).length = 16 := by simp [coilsV]; omega
theorem fitsV_get {k i : Nat} (h : i < k) : (fitsV k).getD i undef = .bool (FT i) := by
  simp [fitsV, List.getD, List.getElem?_append_left, h]
theorem coilsV_get {k i : Nat} (h : i < k) : (coilsV k).getD i undef = .int .i64 ((CT i : Nat) : Int) := by
  simp [coilsV, List.getD, List.getElem?_append_left, h]
theorem fitsV_at {k : Nat} (h : k < 16) : (fitsV k).getD k undef = .bool false := by
  obtain ⟨m, hm⟩ : ∃ m, 16 - k = m + 1 := ⟨16 - k - 1, by omega⟩
  simp [fitsV, List.getD, hm]
theorem coilsV_at {k : Nat} (h : k < 16) : (coilsV k).getD k undef = .int .i64 0 := by
  obtain ⟨m, hm⟩ : ∃ m, 16 - k = m + 1 := ⟨16 - k - 1, by omega⟩
  simp [coilsV, List.getD, hm]
theorem set_getD_same (l : List Value) (k : Nat) (u : Value) (h : k < l.length) : (l.set k u).getD k undef = u := by simp [List.getD, h]
theorem set_getD_other (l : List Value) (k i : Nat) {u : Value} (h : k ≠ i) : (l.set k u).getD i undef = l.getD i undef := by simp [List.getD, List.getElem?_set_ne h]
theorem snoc_set {A : List Value} {z u : Value} {k n : Nat} (hA : A.length = k) (hk : k < n) : (A ++ List.replicate (n - k) z).set k u = (A ++ [u]) ++ List.replicate (n - (k + 1)) z := by
  obtain ⟨m, hm⟩ : ∃ m, n - k = m + 1 := ⟨n - k - 1, by omega⟩
  rw [hm, List.replicate_succ, List.set_append_right _ _ (by omega), hA, Nat.sub_self, List.set_cons_zero, List.append_assoc]
  rw [show n - (k + 1) = m by omega]
  rfl
theorem fitsV_set {k : Nat} (h : k < 16) : (fitsV k).set k (.bool (FT k)) = fitsV (k + 1) := by
  unfold fitsV
  rw [snoc_set (by simp) h, List.range_succ, List.map_append]
  rfl
theorem coilsV_set {k : Nat} (h : k < 16) : (coilsV k).set k (.int .i64 ((CT k : Nat) : Int)) = coilsV (k + 1) := by
  unfold coilsV
  rw [snoc_set (by simp) h, List.range_succ, List.map_append]
  rfl
theorem coilsV_zero : coilsV 0 = coilsV 1 := rfl

end Go.Proofs
end

section
open Go.RowKit
namespace Go.Proofs
set_option linter.unusedVariables false
set_option linter.unusedSimpArgs false

end Go.Proofs
end

section
open Go.RowKit Go.Deep
namespace Go.Proofs
set_option linter.unusedVariables false
set_option linter.unusedSimpArgs false

def zints (zs : List Int) : List Value := zs.map (Value.int .i64)
theorem zints_length (zs : List Int) : (zints zs).length = zs.length := by simp [zints]
theorem zints_getD (zs : List Int) {i : Nat} (h : i < zs.length) : (zints zs).getD i undef = .int .i64 (zs.getD i 0) := by
  simp [zints, List.getD, h]

/-- a row of ints at the head of block b -/
def CellZ (w : World) (b : Nat) (zs : List Int) : Prop := ∃ vs, Vals w b vs ∧ vs.take zs.length = zints zs
theorem CellZ.lt {w b zs} (h : CellZ w b zs) : b < w.heap.size := by
  obtain ⟨vs, hv, ht⟩ := h
  exact hv.lt
theorem CellZ.mono {w w' : World} {b zs} (h : CellZ w b zs) (hb : Below w.heap.size w w') : CellZ w' b zs := by
  obtain ⟨vs, hv, ht⟩ := h
  exact ⟨vs, hv.mono hb, ht⟩
theorem CellZ.cell {w b zs} (h : CellZ w b zs) {i : Nat} (hi : i < zs.length) : w.cell? ⟨b, i, none⟩ = some (.int .i64 (zs.getD i 0)) := by
  obtain ⟨vs, hv, ht⟩ := h
  have hl : i < vs.length := by
    have := congrArg List.length ht
    rw [List.length_take, zints_length] at this
    omega
  rw [hv.cell hl]
  have : vs.getD i undef = (zints zs).getD i undef := by
    rw [← ht]
    simp [List.getD, List.getElem?_take, hi]
  rw [this, zints_getD zs hi]
theorem CellZ.frozen {w b zs} (h : CellZ w b zs) (i : Nat) : w.frozen? ⟨b, i, none⟩ = false := by
  obtain ⟨vs, hv, ht⟩ := h
  exact hv.frozen i
theorem CellZ.set {w b zs} (h : CellZ w b zs) (i : Nat) (z : Int) : CellZ (w.setCell ⟨b, i, none⟩ (.int .i64 z)) b (zs.set i z) := by
  obtain ⟨vs, hv, ht⟩ := h
  refine ⟨_, hv.set i _, ?_⟩
  rw [List.length_set, List.take_set, ht]
  simp [zints, List.map_set]
theorem CellZ.other {w b zs} (h : CellZ w b zs) (p : Addr) (hp : p.block ≠ b) (u : Value) : CellZ (w.setCell p u) b zs := by
  obtain ⟨vs, hv, ht⟩ := h
  exact ⟨vs, hv.other p hp u, ht⟩
theorem cellZ_new (w : World) (zs : List Int) (vs : Array Value) (e : TypeId) (hv : vs = (zints zs).toArray) : CellZ (w.alloc (.cells vs e)) w.heap.size zs :=
  ⟨zints zs, Vals.new w _ _ _ e rfl hv, by rw [← zints_length, List.take_length]⟩

/-- what can be read at a slice: ints, or nothing -/
def RdZ (w : World) (ad : Option Addr) (c : Nat) (zs : List Int) : Prop :=
  zs.length ≤ c ∧ c ≤ maxLen ∧ ((ad = none ∧ c = 0) ∨ ∃ x, ad = some x ∧ ∀ i, i < zs.length → w.cell? (x.add i) = some (.int .i64 (zs.getD i 0)))
def InZ (w : World) (v : Value) (zs : List Int) : Prop := ∃ ad c, v = .slice ad zs.length c ∧ RdZ w ad c zs

theorem cell_lt {w : World} {a : Addr} {v : Value} (h : w.cell? a = some v) : a.block < w.heap.size := by
  by_cases hb : a.block < w.heap.size
  · exact hb
  · have e : w.heap[a.block]? = none := by simp; omega
    simp [World.cell?, e] at h

theorem RdZ.mono {w w' : World} {ad c zs} (h : RdZ w ad c zs) (hb : Below w.heap.size w w') : RdZ w' ad c zs := by
  obtain ⟨h1, h2, h3⟩ := h
  refine ⟨h1, h2, ?_⟩
  rcases h3 with h3 | ⟨x, rfl, h3⟩
  · exact .inl h3
  · exact .inr ⟨x, rfl, fun i hi => (hb.cell (cell_lt (h3 i hi))).trans (h3 i hi)⟩
theorem InZ.mono {w w' : World} {v zs} (h : InZ w v zs) (hb : Below w.heap.size w w') : InZ w' v zs := by
  obtain ⟨ad, c, rfl, h⟩ := h
  exact ⟨ad, c, rfl, h.mono hb⟩
theorem CellZ.rd {w b zs} (h : CellZ w b zs) {c : Nat} (hc : zs.length ≤ c) (hm : c ≤ maxLen) : RdZ w (some ⟨b, 0, none⟩) c zs :=
  ⟨hc, hm, .inr ⟨_, rfl, fun i hi => by rw [add_off, Nat.zero_add]; exact h.cell hi⟩⟩

theorem inz_of_row {w : World} {a : Option Addr} {len cap : Nat} {zs : List Int}
    (h : (a = none ∧ len = 0 ∧ cap = 0 ∧ zs = []) ∨ ∃ x, a = some x ∧ len ≤ cap ∧ cap ≤ maxLen ∧ zs.length = cap ∧ (∀ i, i < zs.length → w.cell? (x.add i) = some (.int .i64 (zs.getD i 0))) ∧ ∀ n ∈ zs, (Lit.int .i64 n).wf = true) :
    ∃ xs : List Int, InZ w (.slice a len cap) xs ∧ ∀ z ∈ xs, -9223372036854775808 ≤ z ∧ z < 9223372036854775808 := by
  rcases h with ⟨rfl, rfl, rfl, rfl⟩ | ⟨x, rfl, h1, h2, h3, h4, h5⟩
  · exact ⟨[], ⟨none, 0, rfl, by simp, by simp, .inl ⟨rfl, rfl⟩⟩, by simp⟩
  · have hl : (zs.take len).length = len := by rw [List.length_take]; omega
    refine ⟨zs.take len, ⟨some x, cap, by rw [hl], by rw [hl]; exact h1, h2, .inr ⟨x, rfl, fun i hi => ?_⟩⟩, fun z hz => ?_⟩
    · rw [hl] at hi
      rw [h4 i (by omega)]
      simp [List.getD, hi]
    · have := h5 z (List.mem_of_mem_take hz)
      simp [Lit.wf, IntKind.min, IntKind.max, IntKind.signed, IntKind.bits] at this
      omega

theorem ownsRow_cellZ {B : Nat} {w : World} {v : Value} {zs : List Int} (h : w.ownsRow B 3 1 v zs.length (zints zs)) (h0 : v ≠ .slice none 0 0) :
    ∃ g c, v = .slice (some ⟨g, 0, none⟩) zs.length c ∧ B ≤ g ∧ zs.length ≤ c ∧ c ≤ maxLen ∧ CellZ w g zs := by
  obtain ⟨hl, h⟩ := h
  rcases h with ⟨rfl, h1⟩ | ⟨g, cap, cur, rfl, hg, hh, h1, h2, h3, h4⟩
  · exact absurd rfl h0
  · rw [Nat.mul_one] at h4
    exact ⟨g, cap, rfl, hg, h1, h2, cur.toList, ⟨_, by rw [hh]⟩, h4⟩

theorem owns_made (w : World) : (w.alloc (.cells #[] 3)).ownsRow w.heap.size 3 1 (.slice (some ⟨w.heap.size, 0, none⟩) 0 0) ([] : List Int).length (zints []) :=
  ⟨rfl, .inr ⟨w.heap.size, 0, #[], rfl, Nat.le_refl _, by rw [heap_alloc_new], Nat.le_refl _, Nat.zero_le _, rfl, rfl⟩⟩

theorem owns_one (w : World) (z : Int) : (w.alloc (.cells #[.int .i64 z] 3)).ownsRow w.heap.size 3 1 (.slice (some ⟨w.heap.size, 0, none⟩) 1 1) ([z] : List Int).length (zints [z]) :=
  ⟨rfl, .inr ⟨w.heap.size, 1, #[.int .i64 z], rfl, Nat.le_refl _, by rw [heap_alloc_new], Nat.le_refl _, by unfold maxLen; omega, rfl, rfl⟩⟩

/-- append of ints to what the call itself made -/
theorem wpList_append_ints {P : Program} {w : World} {ops : Array Oper} {rest : List Oper} {o : Oper} {a : Act} {Q : Exit → Act → World → Prop} (hgd : o.guard = none) (s x : Operand) (t : TypeId)
    (ho : o.op = .call { callee := .builtin .append, args := #[s, x], argTypes := #[t, t] })
    (ht : P.underlying t = some (.slice 3)) (h2 : (P.info? 3).map (fun i => (i.zero, i.size, i.bytes)) = some (some (.int .i64 0), 1, 8))
    (B : Nat) (v : Value) (xs : List Int) (hv : a.eval s = v) (h0 : v ≠ .slice none 0 0) (hown : w.ownsRow B 3 1 v xs.length (zints xs)) (hB : B ≤ w.heap.size)
    (ad : Option Addr) (m c : Nat) (ys : List Int) (hx : a.eval x = .slice ad m c) (hm : m = ys.length) (hs : RdZ w ad c ys) (hl : xs.length + ys.length ≤ 1099511627776) (k : Nat) (hk : k = xs.length + ys.length)
    (h : ∀ g c' w', B ≤ g → (xs ++ ys).length ≤ c' → c' ≤ maxLen → CellZ w' g (xs ++ ys) → Below B w w' → wpList P ops Q rest (a.put o.dst (.slice (some ⟨g, 0, none⟩) k c')) w') : wpList P ops Q (o :: rest) a w := by
  subst hm
  rw [← List.length_append] at hk
  subst hk
  obtain ⟨i, hi, z0, z1, z2⟩ := info_parts h2
  rcases hs.2.2 with ⟨rfl, rfl⟩ | ⟨x, rfl, hc⟩
  · have e0 : ys = [] := List.eq_nil_of_length_eq_zero (by have := hs.1; omega)
    subst e0
    refine wpList_append_own_none hgd s x t ho B 3 i 1 ht hi v xs.length (zints xs) hv hown hx ?_
    obtain ⟨g, c', rfl, hg, h3, h4, hz⟩ := ownsRow_cellZ hown h0
    rw [List.append_nil] at h
    exact h g c' w hg h3 h4 hz (Below.refl _ _)
  · refine wpList_append_own w hgd s _ t ho B 3 i (.int .i64 0) 1 8 ht hi z0 z1 z2 rfl (by decide) v xs.length (zints xs) hv hown
      x ys.length c (zints ys) hx (by rw [zints_length, Nat.mul_one]) (fun j u hj => ?_) (fun u hu => ?_) (by unfold maxLen; omega) (by omega) hB ?_
    · have hj' : j < ys.length := by
        have := (List.getElem?_eq_some_iff.1 hj).1
        rwa [zints_length] at this
      have hv : u = .int .i64 (ys.getD j 0) := by
        simp [zints, hj'] at hj
        simp [List.getD, hj', ← hj]
      rw [hv]
      exact hc j hj'
    · obtain ⟨y, _, rfl⟩ := List.mem_map.1 hu
      rfl
    · intro v' w' hown' hgrow hne
      have e : zints xs ++ zints ys = zints (xs ++ ys) := by simp [zints]
      rw [e, ← List.length_append] at hown'
      obtain ⟨g, c', rfl, hg, h3, h4, hz⟩ := ownsRow_cellZ hown' (fun e => h0 (hne.1 e).1)
      refine h g c' w' hg h3 h4 hz ((Below.refl _ _).grown hgrow hB ?_)
      intro k hk
      obtain ⟨g0, c0, rfl, hg0, _⟩ := ownsRow_cellZ hown h0
      cases hk
      exact hg0

/-- a fresh row of ints is returned -/
def RetZ (w : World) (zs : List Int) (e : Ending) (w' : World) : Prop :=
  ∃ g c, e = .returned (.slice (some ⟨g, 0, none⟩) zs.length c) ∧ w.heap.size ≤ g ∧ zs.length ≤ c ∧ c ≤ maxLen ∧ CellZ w' g zs ∧ Below w.heap.size w w'


def okTo (zs : List Int) : Nat → Bool
  | 0 => true
  | i + 1 => okTo zs i && inR (zs.getD i 0) 1000000000
def longTo (zs : List Int) (C : Int) : Nat → Bool
  | 0 => false
  | i + 1 => longTo zs C i || decide (C < zs.getD i 0)
/-- why pieces cannot be cut -/
def codeZ (zs : List Int) (C : Int) : Int :=
  if (decide (zs.length ≤ 14) && inR C 1000000000 && okTo zs zs.length) = true then (if longTo zs C zs.length = true then 3 else 0) else 1

theorem okTo_all {zs : List Int} : ∀ {n : Nat}, okTo zs n = true → ∀ i, i < n → inR (zs.getD i 0) 1000000000 = true
  | 0, _, i, hi => by omega
  | n + 1, h, i, hi => by
    simp only [okTo, Bool.and_eq_true] at h
    rcases Nat.lt_or_ge i n with h1 | h1
    · exact okTo_all h.1 i h1
    · obtain rfl : i = n := by omega
      exact h.2
theorem okTo_false {zs : List Int} {i : Nat} : ∀ {n : Nat}, i < n → inR (zs.getD i 0) 1000000000 = false → okTo zs n = false := by
  intro n h1 h2
  cases h : okTo zs n with
  | false => rfl
  | true => rw [okTo_all h i h1] at h2; cases h2
theorem longTo_none {zs : List Int} {C : Int} : ∀ {n : Nat}, longTo zs C n = false → ∀ i, i < n → zs.getD i 0 ≤ C
  | 0, _, i, hi => by omega
  | n + 1, h, i, hi => by
    simp only [longTo, Bool.or_eq_false_iff, decide_eq_false_iff_not] at h
    rcases Nat.lt_or_ge i n with h1 | h1
    · exact longTo_none h.1 i h1
    · obtain rfl : i = n := by omega
      omega
theorem longTo_true {zs : List Int} {C : Int} {i : Nat} : ∀ {n : Nat}, i < n → C < zs.getD i 0 → longTo zs C n = true := by
  intro n h1 h2
  cases h : longTo zs C n with
  | true => rfl
  | false => have := longTo_none h i h1; omega
theorem codeZ_zero {zs : List Int} {C : Int} (h : codeZ zs C = 0) : zs.length ≤ 14 ∧ (1 ≤ C ∧ C ≤ 1000000000) ∧ ∀ i, i < zs.length → 1 ≤ zs.getD i 0 ∧ zs.getD i 0 ≤ C := by
  unfold codeZ at h
  split at h
  · rename_i h1
    simp only [Bool.and_eq_true, decide_eq_true_eq] at h1
    split at h
    · simp at h
    · rename_i h2
      have h2 : longTo zs C zs.length = false := by simpa using h2
      refine ⟨h1.1.1, ?_, fun i hi => ?_⟩
      · have := h1.1.2
        simp [inR] at this
        exact this
      · have h3 := okTo_all h1.2 i hi
        have h4 := longTo_none h2 i hi
        simp only [inR, Bool.and_eq_true, decide_eq_true_eq] at h3
        omega
  · simp at h



end Go.Proofs
end

section
open Go.RowKit Go.Deep
namespace Go.Proofs
set_option linter.unusedVariables false
set_option linter.unusedSimpArgs false

/-- a course, a metal, a pick, a scaling -/
structure Crs where
  l : Int
  f : Int
  t : Int
  w : Int
deriving Inhabited
structure Met where
  d : Int
  st : List Int
deriving Inhabited
structure Pk where
  m : Int
  g : Int
deriving Inhabited
structure Scl where
  cs : List Crs
  ms : List Met
  gs : List Int
  sf : Int
  ch : Int

def c0 : Crs := ⟨0, 0, 0, 0⟩
def m0 : Met := ⟨0, []⟩
def p0 : Pk := ⟨0, 0⟩

theorem RdZ.at {w : World} {ad c} {zs : List Int} (h : RdZ w ad c zs) {i : Nat} (hi : i < zs.length) : ∃ b o, ad = some ⟨b, o, none⟩ ∧ ∀ j, j < zs.length → w.cell? ⟨b, o + j, none⟩ = some (.int .i64 (zs.getD j 0)) := by
  obtain ⟨h1, h2, ⟨_, h4⟩ | ⟨x, rfl, hcell⟩⟩ := h
  · omega
  · have h5 := hcell 0 (by omega)
    obtain ⟨b, o, spot⟩ := x
    have h6 : spot = none := by simpa [Addr.add] using World.cell?_spot h5
    subst h6
    exact ⟨b, o, rfl, fun j hj => by rw [← add_off]; exact hcell j hj⟩

/-- courses that can be read -/
def RdC (w : World) (ad : Option Addr) (c : Nat) (L : List Crs) : Prop :=
  L.length ≤ c ∧ c ≤ maxLen ∧ (c = 0 ∨ ∃ b o, ad = some ⟨b, o, none⟩ ∧ ∀ i, i < L.length →
    w.cell? ⟨b, o + i * 4, none⟩ = some (.int .i64 (L.getD i c0).l) ∧ w.cell? ⟨b, o + i * 4 + 1, none⟩ = some (.int .i64 (L.getD i c0).f) ∧
    w.cell? ⟨b, o + i * 4 + 2, none⟩ = some (.int .i64 (L.getD i c0).t) ∧ w.cell? ⟨b, o + i * 4 + 3, none⟩ = some (.int .i64 (L.getD i c0).w))
def InC (w : World) (v : Value) (L : List Crs) : Prop := ∃ ad c, v = .slice ad L.length c ∧ RdC w ad c L
theorem RdC.mono {w w' : World} {ad c L} (h : RdC w ad c L) (hb : Below w.heap.size w w') : RdC w' ad c L := by
  obtain ⟨h1, h2, h3⟩ := h
  refine ⟨h1, h2, ?_⟩
  rcases h3 with h3 | ⟨b, o, rfl, h3⟩
  · exact .inl h3
  · refine .inr ⟨b, o, rfl, fun i hi => ?_⟩
    obtain ⟨a0, a1, a2, a3⟩ := h3 i hi
    exact ⟨(hb.cell (cell_lt a0)).trans a0, (hb.cell (cell_lt a1)).trans a1, (hb.cell (cell_lt a2)).trans a2, (hb.cell (cell_lt a3)).trans a3⟩
theorem InC.mono {w w' : World} {v L} (h : InC w v L) (hb : Below w.heap.size w w') : InC w' v L := by
  obtain ⟨ad, c, rfl, h⟩ := h
  exact ⟨ad, c, rfl, h.mono hb⟩
theorem RdC.at {w : World} {ad c L} (h : RdC w ad c L) {i : Nat} (hi : i < L.length) : ∃ b o, ad = some ⟨b, o, none⟩ ∧
    w.cell? ⟨b, o + i * 4, none⟩ = some (.int .i64 (L.getD i c0).l) ∧ w.cell? ⟨b, o + i * 4 + 1, none⟩ = some (.int .i64 (L.getD i c0).f) ∧
    w.cell? ⟨b, o + i * 4 + 2, none⟩ = some (.int .i64 (L.getD i c0).t) ∧ w.cell? ⟨b, o + i * 4 + 3, none⟩ = some (.int .i64 (L.getD i c0).w) := by
  obtain ⟨h1, h2, h4 | ⟨b, o, rfl, h3⟩⟩ := h
  · omega
  · exact ⟨b, o, rfl, h3 i hi⟩

/-- metals that can be read -/
def RdM (w : World) (ad : Option Addr) (c : Nat) (L : List Met) : Prop :=
  L.length ≤ c ∧ c ≤ maxLen ∧ (c = 0 ∨ ∃ b o, ad = some ⟨b, o, none⟩ ∧ ∀ i, i < L.length →
    w.cell? ⟨b, o + i * 2, none⟩ = some (.int .i64 (L.getD i m0).d) ∧ ∃ v, w.cell? ⟨b, o + i * 2 + 1, none⟩ = some v ∧ InZ w v (L.getD i m0).st)
def InM (w : World) (v : Value) (L : List Met) : Prop := ∃ ad c, v = .slice ad L.length c ∧ RdM w ad c L
theorem RdM.mono {w w' : World} {ad c L} (h : RdM w ad c L) (hb : Below w.heap.size w w') : RdM w' ad c L := by
  obtain ⟨h1, h2, h3⟩ := h
  refine ⟨h1, h2, ?_⟩
  rcases h3 with h3 | ⟨b, o, rfl, h3⟩
  · exact .inl h3
  · refine .inr ⟨b, o, rfl, fun i hi => ?_⟩
    obtain ⟨a0, v, a1, a2⟩ := h3 i hi
    exact ⟨(hb.cell (cell_lt a0)).trans a0, v, (hb.cell (cell_lt a1)).trans a1, a2.mono hb⟩
theorem InM.mono {w w' : World} {v L} (h : InM w v L) (hb : Below w.heap.size w w') : InM w' v L := by
  obtain ⟨ad, c, rfl, h⟩ := h
  exact ⟨ad, c, rfl, h.mono hb⟩
theorem RdM.at {w : World} {ad c L} (h : RdM w ad c L) {i : Nat} (hi : i < L.length) : ∃ b o v, ad = some ⟨b, o, none⟩ ∧
    w.cell? ⟨b, o + i * 2, none⟩ = some (.int .i64 (L.getD i m0).d) ∧ w.cell? ⟨b, o + i * 2 + 1, none⟩ = some v ∧ InZ w v (L.getD i m0).st := by
  obtain ⟨h1, h2, h4 | ⟨b, o, rfl, h3⟩⟩ := h
  · omega
  · obtain ⟨a0, v, a1, a2⟩ := h3 i hi
    exact ⟨b, o, v, rfl, a0, a1, a2⟩

/-- picks that can be read -/
def RdP (w : World) (ad : Option Addr) (c : Nat) (L : List Pk) : Prop :=
  L.length ≤ c ∧ c ≤ maxLen ∧ (c = 0 ∨ ∃ b o, ad = some ⟨b, o, none⟩ ∧ ∀ i, i < L.length →
    w.cell? ⟨b, o + i * 2, none⟩ = some (.int .i64 (L.getD i p0).m) ∧ w.cell? ⟨b, o + i * 2 + 1, none⟩ = some (.int .i64 (L.getD i p0).g))
def InP (w : World) (v : Value) (L : List Pk) : Prop := ∃ ad c, v = .slice ad L.length c ∧ RdP w ad c L
theorem RdP.mono {w w' : World} {ad c L} (h : RdP w ad c L) (hb : Below w.heap.size w w') : RdP w' ad c L := by
  obtain ⟨h1, h2, h3⟩ := h
  refine ⟨h1, h2, ?_⟩
  rcases h3 with h3 | ⟨b, o, rfl, h3⟩
  · exact .inl h3
  · refine .inr ⟨b, o, rfl, fun i hi => ?_⟩
    obtain ⟨a0, a1⟩ := h3 i hi
    exact ⟨(hb.cell (cell_lt a0)).trans a0, (hb.cell (cell_lt a1)).trans a1⟩
theorem InP.mono {w w' : World} {v L} (h : InP w v L) (hb : Below w.heap.size w w') : InP w' v L := by
  obtain ⟨ad, c, rfl, h⟩ := h
  exact ⟨ad, c, rfl, h.mono hb⟩
theorem RdP.at {w : World} {ad c L} (h : RdP w ad c L) {i : Nat} (hi : i < L.length) : ∃ b o, ad = some ⟨b, o, none⟩ ∧
    w.cell? ⟨b, o + i * 2, none⟩ = some (.int .i64 (L.getD i p0).m) ∧ w.cell? ⟨b, o + i * 2 + 1, none⟩ = some (.int .i64 (L.getD i p0).g) := by
  obtain ⟨h1, h2, h4 | ⟨b, o, rfl, h3⟩⟩ := h
  · omega
  · exact ⟨b, o, rfl, h3 i hi⟩

/-- a scaling by value: its five cells -/
def InS (w : World) (cv mv gv : Value) (S : Scl) : Prop := InC w cv S.cs ∧ InM w mv S.ms ∧ InZ w gv S.gs
theorem InS.mono {w w' : World} {cv mv gv S} (h : InS w cv mv gv S) (hb : Below w.heap.size w w') : InS w' cv mv gv S := ⟨h.1.mono hb, h.2.1.mono hb, h.2.2.mono hb⟩

/-- the numbers are ints -/
def zI (z : Int) : Prop := -9223372036854775808 ≤ z ∧ z < 9223372036854775808
structure SclI (S : Scl) : Prop where
  cs : ∀ c ∈ S.cs, zI c.l ∧ zI c.f ∧ zI c.t ∧ zI c.w
  ms : ∀ m ∈ S.ms, zI m.d ∧ ∀ z ∈ m.st, zI z
  gs : ∀ z ∈ S.gs, zI z
  sf : zI S.sf
  ch : zI S.ch

/-- valid courses, metals, gauges -/
def crsOk (c : Crs) : Bool := inR c.l 100000 && inR c.f 10000000 && decide (0 ≤ c.t ∧ c.t ≤ 1000000000) && decide (0 ≤ c.w ∧ c.w ≤ 1000)
def metOk (n : Nat) (m : Met) : Bool := m.st.all (fun z => inR z 100000) && inR m.d 30000 && decide (m.st.length = n)
def gOk (gs : List Int) (i : Nat) : Bool := inR (gs.getD i 0) 2000 && (decide (i = 0) || decide (gs.getD i 0 < gs.getD (i - 1) 0))
def allTo (p : Nat → Bool) : Nat → Bool
  | 0 => true
  | n + 1 => allTo p n && p n
theorem allTo_iff {p : Nat → Bool} : ∀ {n : Nat}, allTo p n = true ↔ ∀ i, i < n → p i = true
  | 0 => by simp [allTo]
  | n + 1 => by
    unfold allTo
    rw [Bool.and_eq_true, allTo_iff]
    constructor
    · rintro ⟨h1, h2⟩ i hi
      by_cases h : i < n
      · exact h1 i h
      · obtain rfl : i = n := by omega
        exact h2
    · exact fun h => ⟨fun i hi => h i (by omega), h n (by omega)⟩
def headOk (S : Scl) : Bool := inR S.cs.length 96 && inR S.ms.length 4 && inR S.gs.length 16 && inR S.sf 100 && decide (0 ≤ S.ch ∧ S.ch ≤ 96)
def sclOk (S : Scl) : Bool :=
  headOk S && allTo (gOk S.gs) S.gs.length && allTo (fun i => metOk S.gs.length (S.ms.getD i m0)) S.ms.length && allTo (fun i => crsOk (S.cs.getD i c0)) S.cs.length

end Go.Proofs
end

