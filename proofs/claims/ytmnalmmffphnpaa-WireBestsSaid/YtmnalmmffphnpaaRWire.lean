/- the reference of layer 4: ranges, Tension, Stress, Holds, Longest. -/
import Derived.Test.YtmnalmmffphnpaaLongest
import Derived.Test.YtmnalmmffphnpaaRIn
import Derived.Test.YtmnalmmffphnpaaRefB
import Derived.Test.YtmnalmmffphnpaaRefA
open Go.RowKit
namespace Go.Proofs
set_option linter.unusedVariables false
set_option linter.unusedSimpArgs false

set_option maxRecDepth 100000 in
theorem rproduct_calls (b n c : Nat) (ns : List Nat) (w : World) (hn : n = ns.length) (h8 : ns.length ≤ 10) (hlt : ∀ x ∈ ns, x < 18446744073709551616) (hc : CellI w b ns) :
    Calls Try.prog 56 #[.slice (some ⟨b, 0, none⟩) n c] w (RetNum w (10 ^ 0 * prodTo ns ns.length)) := by
  have HN := Lib.hid hn
  have hn10 : n ≤ 10 := by omega
  have hlt' : ∀ i, i < ns.length → ns.getD i 0 < 18446744073709551616 := by
    intro i hi
    have := hlt ns[i] (List.getElem_mem hi)
    simpa [List.getD, hi] using this
  have HLT := Lib.hid hlt'
  have hl1 : (limbs 1).length ≤ 1 := limbs_length_le (by omega)
  have he : ∀ i, 10 ^ 0 * prodTo ns i = prodTo ns i := fun i => by simp
  rw [he]
  clear hn hlt hlt' he
  go_enter Try.func56, Try.ntmps56
  go_wp2_with fail
  refine (rof_calls 1 _ _ (by rfl) (by omega)).mono ?_
  rintro e w1 ⟨v1, rfl, h1, f1, b1⟩
  replace hc := hc.mono b1
  go_wp2
  go_loopw [3, 4] (fun ov iv wr => ∃ i : Nat, i ≤ n ∧ iv = .int .i64 i ∧ Num wr ov (prodTo ns i) ∧ Fresh w.heap.size ov ∧ (limbs (prodTo ns i)).length ≤ 1 + 2 * i ∧ CellI wr b ns ∧ Below w.heap.size w wr)
    (fun _ iv _ => n - (intOf iv).toNat)
  case atStart => exact ⟨0, by omega, rfl, h1, f1, by rw [prodTo]; omega, hc, b1⟩
  case round =>
    obtain ⟨i, hi, rfl, hv, hf, hl, hci, hbel⟩ := hrel
    by_cases hlt : i < n
    · have hcell := (hci.2 i (by have := HN.out; omega)).1
      have hxi := HLT.out i (by have := HN.out; omega)
      have hstep : prodTo ns (i + 1) = prodTo ns i * ns.getD i 0 := rfl
      have Hstep := Lib.hid hstep
      obtain ⟨x, ex⟩ : ∃ x, ns.getD i 0 = x := ⟨_, rfl⟩
      rw [ex] at hcell hxi Hstep
      have hlm := limbs_length_mul (prodTo ns i) x
      generalize prodTo ns i = p at *
      have hlx : (limbs x).length ≤ 2 := limbs_length_le (by omega)
      have t1 : (i : Int) < (n : Int) := by omega
      have kw : IntKind.u64.wrap (x : Int) = (x : Int) := by rw [IntKind.wrap_u64]; omega
      clear hstep ex
      go_wp2_with fail
      refine (rof_calls x _ _ (by first | rfl | omega) hxi).mono ?_
      rintro e w3 ⟨v3, rfl, h3, _, b3⟩
      replace hv := hv.mono b3
      go_wp2_with fail
      refine (rmul_calls _ _ p x _ hv h3 (by omega) (by omega)).mono ?_
      rintro e w4 ⟨v4, rfl, h4, f4, b4⟩
      have b34 := below_trans b3 b4
      have hci4 := hci.mono b34
      have f4' := f4.mono (below_trans hbel b3).size
      go_wp2
      go_roundw
      case rel => exact ⟨i + 1, by omega, by go_num, by rw [Hstep.out]; exact h4, f4', by rw [Hstep.out]; omega, hci4, below_trans hbel b34⟩
      case measure => simp [intOf]; omega
    · obtain rfl : i = n := by omega
      have t1 : ¬ (i : Int) < (i : Int) := by omega
      clear hlt
      go_wp2
      go_ret
      exact ⟨_, rfl, by rw [← HN.out]; exact hv, hf, hbel⟩

theorem rten_calls (k : Nat) (z : Int) (w : World) (hz : z = (k : Int)) (hk : k ≤ 30) :
    Calls Try.prog 58 #[.int .i64 z] w (RetNum w (10 ^ k)) := by
  subst hz
  have h10 : (limbs 10).length ≤ 1 := limbs_length_le (by omega)
  have hm10 : (limbs 10).length * k ≤ 1 * 30 := Nat.mul_le_mul h10 hk
  go_enter Try.func58, Try.ntmps58
  go_wp2_with fail
  refine (rof_calls 10 _ _ (by rfl) (by omega)).mono ?_
  rintro e w1 ⟨v1, rfl, h1, _, b1⟩
  go_wp2_with fail
  refine (rpow_calls _ 10 k _ _ h1 rfl (by omega) (by omega) (by omega)).mono ?_
  rintro e w2 ⟨v2, rfl, h2, f2, b2⟩
  go_wp2
  go_ret
  exact ⟨_, rfl, h2, f2.mono b1.size, below_trans b1 b2⟩

theorem rwhole_calls (v1 v2 : Value) (a b : Nat) (w : World) (h1 : Num w v1 a) (h2 : Num w v2 b) (la : (limbs a).length ≤ 10000) (lb : (limbs b).length ≤ 10000) (hb : b ≠ 0) (hq : a / b < 9223372036854775808) :
    Calls Try.prog 64 #[v1, v2] w fun e w' => e = .returned (.int .i64 ((a / b : Nat) : Int)) ∧ Below w.heap.size w w' := by
  have D := rdivmod_calls _ _ a b _ h1 h2 hb (by omega) (by omega)
  generalize a / b = x at D hq ⊢
  go_enter Try.func64, Try.ntmps64
  go_wp2_with fail
  refine D.mono ?_
  clear D
  rintro e w1 ⟨q, r, rfl, hq1, _, b1⟩
  have kw : IntKind.i64.wrap (x : Int) = (x : Int) := by rw [IntWalk.i64_in _ (by omega)]
  go_wp2_with fail
  refine (small_ok _ x _ hq1 (limbs_length_le (by omega))).mono ?_
  rintro e w2 ⟨rfl, rfl⟩
  go_wp2
  go_ret
  exact ⟨rfl, b1⟩

set_option maxRecDepth 100000 in
theorem rtension_calls (d dia l f : Nat) (w : World) (hd : d ≤ 30000) (hw : dia ≤ 2000) (hl : l ≤ 100000) (hf : f ≤ 10000000) :
    Calls Try.prog 54 #[.int .i64 (d : Int), .int .i64 (dia : Int), .int .i64 (l : Int), .int .i64 (f : Int)] w fun e w' => e = .returned (.int .i64 ((pullN d dia l f : Nat) : Int)) ∧ Below w.heap.size w w' := by
  have hA := pull_bound hd hw hl hf
  have hq := pullN_lt hd hw hl hf
  have hc1 := cellI_new w [355, d, dia, dia, l, l, f, f] #[.int .i64 355, .int .i64 (d : Int), .int .i64 (dia : Int), .int .i64 (dia : Int), .int .i64 (l : Int), .int .i64 (l : Int), .int .i64 (f : Int), .int .i64 (f : Int)] 3 rfl
  have P1 := rproduct_calls w.heap.size 8 8 _ _ rfl (by simp) (by intro x hx; simp at hx; omega) hc1
  rw [prod8] at P1
  have b0 := below_alloc w (.cells #[.int .i64 355, .int .i64 (d : Int), .int .i64 (dia : Int), .int .i64 (dia : Int), .int .i64 (l : Int), .int .i64 (l : Int), .int .i64 (f : Int), .int .i64 (f : Int)] 3)
  obtain ⟨A, eA⟩ : ∃ A, 355 * d * dia * dia * l * l * f * f = A := ⟨_, rfl⟩
  have hpull : pullN d dia l f = A / (113 * 10 ^ 23) := by rw [pullN, eA]
  rw [hpull] at hq ⊢
  rw [eA] at hA P1
  have hlA : (limbs A).length ≤ 60 := Nat.le_trans (limbs_small_pow (n := A) (k := 50) (by omega)) (by omega)
  have lB : (limbs (113 * 10 ^ 23)).length ≤ 60 := Nat.le_trans (limbs_small_pow (n := 113 * 10 ^ 23) (k := 50) (by omega)) (by omega)
  have lT : (limbs (10 ^ 23)).length ≤ 60 := Nat.le_trans (limbs_small_pow (n := 10 ^ 23) (k := 50) (by omega)) (by omega)
  have l113 : (limbs 113).length ≤ 60 := Nat.le_trans (limbs_small_pow (n := 113) (k := 50) (by omega)) (by omega)
  have hB0 : 113 * 10 ^ 23 ≠ 0 := by omega
  have HT := fun w : World => rten_calls 23 23 w rfl (by omega)
  have HM := fun (v1 v2 : Value) (w : World) (h1 : Num w v1 113) (h2 : Num w v2 (10 ^ 23)) => rmul_calls v1 v2 113 (10 ^ 23) w h1 h2 (by omega) (by omega)
  obtain ⟨B, eB⟩ : ∃ B, 113 * 10 ^ 23 = B := ⟨_, rfl⟩
  rw [eB] at lB hq hB0 ⊢
  simp only [eB] at HM
  obtain ⟨q, eq⟩ : ∃ q, A / B = q := ⟨_, rfl⟩
  rw [eq] at hq ⊢
  have W := fun (v1 v2 : Value) (w : World) (h1 : Num w v1 A) (h2 : Num w v2 B) => rwhole_calls v1 v2 A B w h1 h2 (by omega) (by omega) hB0 (by omega)
  rw [eq] at W
  have HW := Lib.hid W
  have HT := Lib.hid HT
  have HM := Lib.hid HM
  clear W eq eB eA hpull hc1 hB0 lB hlA hA lT l113
  go_enter Try.func54, Try.ntmps54
  go_wp2_with fail
  refine P1.mono ?_
  clear P1
  rintro e w1 ⟨v1, rfl, hv1, _, b1⟩
  replace b1 := below_trans b0 b1
  clear b0
  go_wp2_with fail
  refine (rof_calls 113 _ _ (by rfl) (by omega)).mono ?_
  rintro e w2 ⟨v2, rfl, hv2, _, b2⟩
  replace hv1 := hv1.mono b2
  go_wp2_with fail
  refine (HT.out _).mono ?_
  rintro e w3 ⟨v3, rfl, hv3, _, b3⟩
  replace hv1 := hv1.mono b3
  replace hv2 := hv2.mono b3
  go_wp2_with fail
  refine (HM.out _ _ _ hv2 hv3).mono ?_
  rintro e w4 ⟨v4, rfl, hv4, _, b4⟩
  replace hv1 := hv1.mono b4
  go_wp2_with fail
  refine (HW.out _ _ _ hv1 hv4).mono ?_
  rintro e w5 ⟨rfl, b5⟩
  go_wp2
  go_ret
  exact ⟨rfl, below_trans (below_trans b1 b2) (below_trans b3 (below_trans b4 b5))⟩

set_option maxRecDepth 100000 in
theorem rholds_calls (d s l f y : Nat) (w : World) (hd : d ≤ 30000) (hs : s ≤ 100000) (hl : l ≤ 100000) (hf : f ≤ 10000000) (hy : y ≤ 100) :
    Calls Try.prog 45 #[.int .i64 (d : Int), .int .i64 (s : Int), .int .i64 (l : Int), .int .i64 (f : Int), .int .i64 (y : Int)] w fun e w' => e = .returned (.bool (holdsB d s l f y)) ∧ Below w.heap.size w w' := by
  have hA := stress_bound 400 hd hl hf
  have hys : y * s ≤ 100 * 100000 := Nat.mul_le_mul hy hs
  have hc1 := cellI_new w [400, d, l, l, f, f] #[.int .i64 400, .int .i64 (d : Int), .int .i64 (l : Int), .int .i64 (l : Int), .int .i64 (f : Int), .int .i64 (f : Int)] 3 rfl
  have P1 := rproduct_calls w.heap.size 6 6 _ _ rfl (by simp) (by intro x hx; simp at hx; omega) hc1
  rw [prod6] at P1
  have b0 := below_alloc w (.cells #[.int .i64 400, .int .i64 (d : Int), .int .i64 (l : Int), .int .i64 (l : Int), .int .i64 (f : Int), .int .i64 (f : Int)] 3)
  obtain ⟨A, eA⟩ : ∃ A, 400 * d * l * l * f * f = A := ⟨_, rfl⟩
  rw [eA] at hA P1
  have hlA : (limbs A).length ≤ 60 := Nat.le_trans (limbs_small_pow (n := A) (k := 50) (by omega)) (by omega)
  have hlS : (limbs (y * s)).length ≤ 60 := Nat.le_trans (limbs_small_pow (n := y * s) (k := 50) (by omega)) (by omega)
  have lT : (limbs (10 ^ 20)).length ≤ 60 := Nat.le_trans (limbs_small_pow (n := 10 ^ 20) (k := 50) (by omega)) (by omega)
  have hlB : (limbs (y * s * 10 ^ 20)).length ≤ 60 := Nat.le_trans (limbs_small_pow (n := y * s * 10 ^ 20) (k := 50) (by generalize y * s = t at *; omega)) (by omega)
  have hP2 : ∀ w1 : World, Calls Try.prog 56 #[.slice (some ⟨w1.heap.size, 0, none⟩) 2 2] (w1.alloc (.cells #[.int .i64 (y : Int), .int .i64 (s : Int)] 3)) (RetNum (w1.alloc (.cells #[.int .i64 (y : Int), .int .i64 (s : Int)] 3)) (y * s)) := fun w1 => by
    have hc2 := cellI_new w1 [y, s] #[.int .i64 (y : Int), .int .i64 (s : Int)] 3 rfl
    have P2 := rproduct_calls w1.heap.size 2 2 _ _ rfl (by simp) (by intro x hx; simp at hx; omega) hc2
    rw [prod2, Nat.pow_zero, Nat.one_mul] at P2
    exact P2
  have HT := fun w : World => rten_calls 20 20 w rfl (by omega)
  have HM := fun (v1 v2 : Value) (w : World) (h1 : Num w v1 (y * s)) (h2 : Num w v2 (10 ^ 20)) => rmul_calls v1 v2 (y * s) (10 ^ 20) w h1 h2 (by omega) (by omega)
  have hres : holdsB d s l f y = decide (A ≤ y * s * 10 ^ 20) := by rw [holdsB, eA, Nat.mul_comm (10 ^ 20)]
  obtain ⟨B, eB⟩ : ∃ B, y * s * 10 ^ 20 = B := ⟨_, rfl⟩
  rw [eB] at hlB hres
  simp only [eB] at HM
  obtain ⟨c, ec⟩ : ∃ c, cmpInt A B = c := ⟨_, rfl⟩
  have hcr : decide (c ≤ 0) = decide (A ≤ B) := by
    rw [← ec, decide_eq_decide]
    unfold cmpInt
    split
    · omega
    · split <;> omega
  rw [hres, ← hcr]
  have C := fun (v1 v2 : Value) (w : World) (h1 : Num w v1 A) (h2 : Num w v2 B) => rcmp_calls v1 v2 A B w c h1 h2 ec (by omega) (by omega)
  have HC := Lib.hid C
  have HP2 := Lib.hid hP2
  have HT := Lib.hid HT
  have HM := Lib.hid HM
  clear C ec eB eA hres hcr hP2 hc1 hlA hlB hA hys lT hlS
  go_enter Try.func45, Try.ntmps45
  go_wp2_with fail
  refine P1.mono ?_
  clear P1
  rintro e w1 ⟨v1, rfl, h1, _, b1⟩
  replace b1 := below_trans b0 b1
  clear b0
  have b2 := below_alloc w1 (.cells #[.int .i64 (y : Int), .int .i64 (s : Int)] 3)
  replace h1 := h1.mono b2
  go_wp2_with fail
  refine (HP2.out w1).mono ?_
  rintro e w2 ⟨v2, rfl, h2, _, b3⟩
  replace h1 := h1.mono b3
  go_wp2_with fail
  refine (HT.out _).mono ?_
  rintro e w3 ⟨v3, rfl, h3, _, b4⟩
  replace h1 := h1.mono b4
  replace h2 := h2.mono b4
  go_wp2_with fail
  refine (HM.out _ _ _ h2 h3).mono ?_
  rintro e w4 ⟨v4, rfl, h4, _, b5⟩
  replace h1 := h1.mono b5
  go_wp2_with fail
  refine (HC.out _ _ _ h1 h4).mono ?_
  rintro e w5 ⟨rfl, b6⟩
  go_wp2
  go_ret
  exact ⟨rfl, below_trans (below_trans b1 b2) (below_trans b3 (below_trans b4 (below_trans b5 b6)))⟩

end Go.Proofs
