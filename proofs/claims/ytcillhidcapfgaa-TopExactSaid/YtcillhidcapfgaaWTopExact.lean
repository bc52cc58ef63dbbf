/- The walk of TopExact: whatever comes in, it returns true and changes nothing that was there. -/
import Derived.Test.YtcillhidcapfgaaTopE
import Derived.Test.YtcillhidcapfgaaPow
import Derived.Deep.RegionHeld3
open Go.RowKit Go.Deep
namespace Go.Proofs
set_option linter.unusedVariables false
set_option linter.unusedSimpArgs false

theorem Num.drewE {w : World} {v : Value} {n : Nat} (h : Num w v n) : Num w.drew v n := h
theorem vals4E {w : World} {b : Nat} {v0 v1 v2 v3 : Value} (h : Vals w b [v0, v1, v2, v3]) : w.cell? ⟨b, 0, none⟩ = some v0 ∧ w.cell? ⟨b, 1, none⟩ = some v1 ∧ w.cell? ⟨b, 2, none⟩ = some v2 ∧ w.cell? ⟨b, 3, none⟩ = some v3 := by
  have c0 := h.cell (i := 0) (by simp)
  have c1 := h.cell (i := 1) (by simp)
  have c2 := h.cell (i := 2) (by simp)
  have c3 := h.cell (i := 3) (by simp)
  exact ⟨c0, c1, c2, c3⟩
theorem nums4 {w : World} {v0 v1 v2 v3 : Value} {n0 n1 n2 n3 : Nat} (h0 : Num w v0 n0) (h1 : Num w v1 n1) (h2 : Num w v2 n2) (h3 : Num w v3 n3) : Nums w [v0, v1, v2, v3] [n0, n1, n2, n3] := by
  refine ⟨rfl, fun i hi => ?_⟩
  match i, hi with
  | 0, _ => exact h0
  | 1, _ => exact h1
  | 2, _ => exact h2
  | 3, _ => exact h3
theorem nums3 {w : World} {v0 v1 v2 : Value} {n0 n1 n2 : Nat} (h0 : Num w v0 n0) (h1 : Num w v1 n1) (h2 : Num w v2 n2) : Nums w [v0, v1, v2] [n0, n1, n2] := by
  refine ⟨rfl, fun i hi => ?_⟩
  match i, hi with
  | 0, _ => exact h0
  | 1, _ => exact h1
  | 2, _ => exact h2
theorem all4 {p : Nat → Prop} {n0 n1 n2 n3 : Nat} (h0 : p n0) (h1 : p n1) (h2 : p n2) (h3 : p n3) : ∀ i, i < ([n0, n1, n2, n3] : List Nat).length → p (([n0, n1, n2, n3] : List Nat).getD i 0) := by
  intro i hi
  match i, hi with
  | 0, _ => exact h0
  | 1, _ => exact h1
  | 2, _ => exact h2
  | 3, _ => exact h3
theorem all3 {p : Nat → Prop} {n0 n1 n2 : Nat} (h0 : p n0) (h1 : p n1) (h2 : p n2) : ∀ i, i < ([n0, n1, n2] : List Nat).length → p (([n0, n1, n2] : List Nat).getD i 0) := by
  intro i hi
  match i, hi with
  | 0, _ => exact h0
  | 1, _ => exact h1
  | 2, _ => exact h2
theorem small_lens (z : Int) (hz : z.natAbs ≤ 200) : (limbs (2 ^ z.toNat)).length ≤ 1000 ∧ (limbs (3 ^ z.toNat)).length ≤ 1000 ∧ (limbs (5 ^ z.toNat)).length ≤ 1000 := by
  have a := limbs_two z.toNat
  have b := limbs_three z.toNat
  have c := limbs_five z.toNat
  omega

set_option maxRecDepth 100000 in
set_option maxHeartbeats 2000000 in
theorem texact_out0 (base : Nat) (s : T4) (w : World) (hB : base < 18446744073709551616) (hS : i64 s.a ∧ i64 s.b ∧ i64 s.c ∧ i64 s.d)  (h0 : 200 < s.a) :
    Calls Try.prog 3 #[.int .u64 (base : Int), .agg #[.int .i64 s.a, .int .i64 s.b, .int .i64 s.c, .int .i64 s.d]] w (RetTrueE w) := by
  have vs := Vals.newL w (w.heap.size) [.int .i64 s.a, .int .i64 s.b, .int .i64 s.c, .int .i64 s.d] 24 rfl
  have bb := below_alloc w (.cells #[.int .i64 s.a, .int .i64 s.b, .int .i64 s.c, .int .i64 s.d] 24)
  have B := bb
  clear bb
  go_enter Try.func3, Try.ntmps3
  go_wp2_with fail
  generalize (w.alloc (.cells #[.int .i64 s.a, .int .i64 s.b, .int .i64 s.c, .int .i64 s.d] 24)) = w0 at *
  have cvs0 := vs.cell (i := 0) (by simp)
  have cvs1 := vs.cell (i := 1) (by simp)
  have cvs2 := vs.cell (i := 2) (by simp)
  have cvs3 := vs.cell (i := 3) (by simp)
  simp only [List.getD_cons_zero, List.getD_cons_succ] at cvs0 cvs1 cvs2 cvs3
  have ltvs := vs.lt
  go_wp2_with fail
  clear cvs0 cvs1 cvs2 cvs3 ltvs
  refine (sounds_calls _).mono ?_
  rintro e w1 ⟨rfl, b1⟩
  replace vs := vs.mono b1
  replace B := below_trans B b1
  clear b1
  go_wp2
  go_ret
  exact ⟨rfl, B⟩

set_option maxRecDepth 100000 in
set_option maxHeartbeats 2000000 in
theorem texact_out1 (base : Nat) (s : T4) (w : World) (hB : base < 18446744073709551616) (hS : i64 s.a ∧ i64 s.b ∧ i64 s.c ∧ i64 s.d) (h0 : ¬ 200 < s.a) (h1 : s.a < -200) :
    Calls Try.prog 3 #[.int .u64 (base : Int), .agg #[.int .i64 s.a, .int .i64 s.b, .int .i64 s.c, .int .i64 s.d]] w (RetTrueE w) := by
  have vs := Vals.newL w (w.heap.size) [.int .i64 s.a, .int .i64 s.b, .int .i64 s.c, .int .i64 s.d] 24 rfl
  have bb := below_alloc w (.cells #[.int .i64 s.a, .int .i64 s.b, .int .i64 s.c, .int .i64 s.d] 24)
  have B := bb
  clear bb
  go_enter Try.func3, Try.ntmps3
  go_wp2_with fail
  generalize (w.alloc (.cells #[.int .i64 s.a, .int .i64 s.b, .int .i64 s.c, .int .i64 s.d] 24)) = w0 at *
  have cvs0 := vs.cell (i := 0) (by simp)
  have cvs1 := vs.cell (i := 1) (by simp)
  have cvs2 := vs.cell (i := 2) (by simp)
  have cvs3 := vs.cell (i := 3) (by simp)
  simp only [List.getD_cons_zero, List.getD_cons_succ] at cvs0 cvs1 cvs2 cvs3
  have ltvs := vs.lt
  go_wp2_with fail
  clear cvs0 cvs1 cvs2 cvs3 ltvs
  refine (sounds_calls _).mono ?_
  rintro e w1 ⟨rfl, b1⟩
  replace vs := vs.mono b1
  replace B := below_trans B b1
  clear b1
  go_wp2
  go_ret
  exact ⟨rfl, B⟩

set_option maxRecDepth 100000 in
set_option maxHeartbeats 2000000 in
theorem texact_out2 (base : Nat) (s : T4) (w : World) (hB : base < 18446744073709551616) (hS : i64 s.a ∧ i64 s.b ∧ i64 s.c ∧ i64 s.d) (h0 : ¬ 200 < s.a) (h1 : ¬ s.a < -200) (h2 : 200 < s.b) :
    Calls Try.prog 3 #[.int .u64 (base : Int), .agg #[.int .i64 s.a, .int .i64 s.b, .int .i64 s.c, .int .i64 s.d]] w (RetTrueE w) := by
  have vs := Vals.newL w (w.heap.size) [.int .i64 s.a, .int .i64 s.b, .int .i64 s.c, .int .i64 s.d] 24 rfl
  have bb := below_alloc w (.cells #[.int .i64 s.a, .int .i64 s.b, .int .i64 s.c, .int .i64 s.d] 24)
  have B := bb
  clear bb
  go_enter Try.func3, Try.ntmps3
  go_wp2_with fail
  generalize (w.alloc (.cells #[.int .i64 s.a, .int .i64 s.b, .int .i64 s.c, .int .i64 s.d] 24)) = w0 at *
  have cvs0 := vs.cell (i := 0) (by simp)
  have cvs1 := vs.cell (i := 1) (by simp)
  have cvs2 := vs.cell (i := 2) (by simp)
  have cvs3 := vs.cell (i := 3) (by simp)
  simp only [List.getD_cons_zero, List.getD_cons_succ] at cvs0 cvs1 cvs2 cvs3
  have ltvs := vs.lt
  go_wp2_with fail
  clear cvs0 cvs1 cvs2 cvs3 ltvs
  refine (sounds_calls _).mono ?_
  rintro e w1 ⟨rfl, b1⟩
  replace vs := vs.mono b1
  replace B := below_trans B b1
  clear b1
  go_wp2
  go_ret
  exact ⟨rfl, B⟩

set_option maxRecDepth 100000 in
set_option maxHeartbeats 2000000 in
theorem texact_out3 (base : Nat) (s : T4) (w : World) (hB : base < 18446744073709551616) (hS : i64 s.a ∧ i64 s.b ∧ i64 s.c ∧ i64 s.d) (h0 : ¬ 200 < s.a) (h1 : ¬ s.a < -200) (h2 : ¬ 200 < s.b) (h3 : s.b < -200) :
    Calls Try.prog 3 #[.int .u64 (base : Int), .agg #[.int .i64 s.a, .int .i64 s.b, .int .i64 s.c, .int .i64 s.d]] w (RetTrueE w) := by
  have vs := Vals.newL w (w.heap.size) [.int .i64 s.a, .int .i64 s.b, .int .i64 s.c, .int .i64 s.d] 24 rfl
  have bb := below_alloc w (.cells #[.int .i64 s.a, .int .i64 s.b, .int .i64 s.c, .int .i64 s.d] 24)
  have B := bb
  clear bb
  go_enter Try.func3, Try.ntmps3
  go_wp2_with fail
  generalize (w.alloc (.cells #[.int .i64 s.a, .int .i64 s.b, .int .i64 s.c, .int .i64 s.d] 24)) = w0 at *
  have cvs0 := vs.cell (i := 0) (by simp)
  have cvs1 := vs.cell (i := 1) (by simp)
  have cvs2 := vs.cell (i := 2) (by simp)
  have cvs3 := vs.cell (i := 3) (by simp)
  simp only [List.getD_cons_zero, List.getD_cons_succ] at cvs0 cvs1 cvs2 cvs3
  have ltvs := vs.lt
  go_wp2_with fail
  clear cvs0 cvs1 cvs2 cvs3 ltvs
  refine (sounds_calls _).mono ?_
  rintro e w1 ⟨rfl, b1⟩
  replace vs := vs.mono b1
  replace B := below_trans B b1
  clear b1
  go_wp2
  go_ret
  exact ⟨rfl, B⟩

set_option maxRecDepth 100000 in
set_option maxHeartbeats 2000000 in
theorem texact_out4 (base : Nat) (s : T4) (w : World) (hB : base < 18446744073709551616) (hS : i64 s.a ∧ i64 s.b ∧ i64 s.c ∧ i64 s.d) (h0 : ¬ 200 < s.a) (h1 : ¬ s.a < -200) (h2 : ¬ 200 < s.b) (h3 : ¬ s.b < -200) (h4 : 200 < s.c) :
    Calls Try.prog 3 #[.int .u64 (base : Int), .agg #[.int .i64 s.a, .int .i64 s.b, .int .i64 s.c, .int .i64 s.d]] w (RetTrueE w) := by
  have vs := Vals.newL w (w.heap.size) [.int .i64 s.a, .int .i64 s.b, .int .i64 s.c, .int .i64 s.d] 24 rfl
  have bb := below_alloc w (.cells #[.int .i64 s.a, .int .i64 s.b, .int .i64 s.c, .int .i64 s.d] 24)
  have B := bb
  clear bb
  go_enter Try.func3, Try.ntmps3
  go_wp2_with fail
  generalize (w.alloc (.cells #[.int .i64 s.a, .int .i64 s.b, .int .i64 s.c, .int .i64 s.d] 24)) = w0 at *
  have cvs0 := vs.cell (i := 0) (by simp)
  have cvs1 := vs.cell (i := 1) (by simp)
  have cvs2 := vs.cell (i := 2) (by simp)
  have cvs3 := vs.cell (i := 3) (by simp)
  simp only [List.getD_cons_zero, List.getD_cons_succ] at cvs0 cvs1 cvs2 cvs3
  have ltvs := vs.lt
  go_wp2_with fail
  clear cvs0 cvs1 cvs2 cvs3 ltvs
  refine (sounds_calls _).mono ?_
  rintro e w1 ⟨rfl, b1⟩
  replace vs := vs.mono b1
  replace B := below_trans B b1
  clear b1
  go_wp2
  go_ret
  exact ⟨rfl, B⟩

set_option maxRecDepth 100000 in
set_option maxHeartbeats 2000000 in
theorem texact_out5 (base : Nat) (s : T4) (w : World) (hB : base < 18446744073709551616) (hS : i64 s.a ∧ i64 s.b ∧ i64 s.c ∧ i64 s.d) (h0 : ¬ 200 < s.a) (h1 : ¬ s.a < -200) (h2 : ¬ 200 < s.b) (h3 : ¬ s.b < -200) (h4 : ¬ 200 < s.c) (h5 : s.c < -200) :
    Calls Try.prog 3 #[.int .u64 (base : Int), .agg #[.int .i64 s.a, .int .i64 s.b, .int .i64 s.c, .int .i64 s.d]] w (RetTrueE w) := by
  have vs := Vals.newL w (w.heap.size) [.int .i64 s.a, .int .i64 s.b, .int .i64 s.c, .int .i64 s.d] 24 rfl
  have bb := below_alloc w (.cells #[.int .i64 s.a, .int .i64 s.b, .int .i64 s.c, .int .i64 s.d] 24)
  have B := bb
  clear bb
  go_enter Try.func3, Try.ntmps3
  go_wp2_with fail
  generalize (w.alloc (.cells #[.int .i64 s.a, .int .i64 s.b, .int .i64 s.c, .int .i64 s.d] 24)) = w0 at *
  have cvs0 := vs.cell (i := 0) (by simp)
  have cvs1 := vs.cell (i := 1) (by simp)
  have cvs2 := vs.cell (i := 2) (by simp)
  have cvs3 := vs.cell (i := 3) (by simp)
  simp only [List.getD_cons_zero, List.getD_cons_succ] at cvs0 cvs1 cvs2 cvs3
  have ltvs := vs.lt
  go_wp2_with fail
  clear cvs0 cvs1 cvs2 cvs3 ltvs
  refine (sounds_calls _).mono ?_
  rintro e w1 ⟨rfl, b1⟩
  replace vs := vs.mono b1
  replace B := below_trans B b1
  clear b1
  go_wp2
  go_ret
  exact ⟨rfl, B⟩

set_option maxRecDepth 100000 in
set_option maxHeartbeats 2000000 in
theorem texact_out6 (base : Nat) (s : T4) (w : World) (hB : base < 18446744073709551616) (hS : i64 s.a ∧ i64 s.b ∧ i64 s.c ∧ i64 s.d) (h0 : ¬ 200 < s.a) (h1 : ¬ s.a < -200) (h2 : ¬ 200 < s.b) (h3 : ¬ s.b < -200) (h4 : ¬ 200 < s.c) (h5 : ¬ s.c < -200) (h6 : s.d < 1) :
    Calls Try.prog 3 #[.int .u64 (base : Int), .agg #[.int .i64 s.a, .int .i64 s.b, .int .i64 s.c, .int .i64 s.d]] w (RetTrueE w) := by
  have vs := Vals.newL w (w.heap.size) [.int .i64 s.a, .int .i64 s.b, .int .i64 s.c, .int .i64 s.d] 24 rfl
  have bb := below_alloc w (.cells #[.int .i64 s.a, .int .i64 s.b, .int .i64 s.c, .int .i64 s.d] 24)
  have B := bb
  clear bb
  go_enter Try.func3, Try.ntmps3
  go_wp2_with fail
  generalize (w.alloc (.cells #[.int .i64 s.a, .int .i64 s.b, .int .i64 s.c, .int .i64 s.d] 24)) = w0 at *
  have cvs0 := vs.cell (i := 0) (by simp)
  have cvs1 := vs.cell (i := 1) (by simp)
  have cvs2 := vs.cell (i := 2) (by simp)
  have cvs3 := vs.cell (i := 3) (by simp)
  simp only [List.getD_cons_zero, List.getD_cons_succ] at cvs0 cvs1 cvs2 cvs3
  have ltvs := vs.lt
  go_wp2_with fail
  clear cvs0 cvs1 cvs2 cvs3 ltvs
  refine (sounds_calls _).mono ?_
  rintro e w1 ⟨rfl, b1⟩
  replace vs := vs.mono b1
  replace B := below_trans B b1
  clear b1
  go_wp2
  go_ret
  exact ⟨rfl, B⟩

set_option maxRecDepth 100000 in
set_option maxHeartbeats 2000000 in
theorem texact_out7 (base : Nat) (s : T4) (w : World) (hB : base < 18446744073709551616) (hS : i64 s.a ∧ i64 s.b ∧ i64 s.c ∧ i64 s.d) (h0 : ¬ 200 < s.a) (h1 : ¬ s.a < -200) (h2 : ¬ 200 < s.b) (h3 : ¬ s.b < -200) (h4 : ¬ 200 < s.c) (h5 : ¬ s.c < -200) (h6 : ¬ s.d < 1) (h7 : 24 < s.d) :
    Calls Try.prog 3 #[.int .u64 (base : Int), .agg #[.int .i64 s.a, .int .i64 s.b, .int .i64 s.c, .int .i64 s.d]] w (RetTrueE w) := by
  have vs := Vals.newL w (w.heap.size) [.int .i64 s.a, .int .i64 s.b, .int .i64 s.c, .int .i64 s.d] 24 rfl
  have bb := below_alloc w (.cells #[.int .i64 s.a, .int .i64 s.b, .int .i64 s.c, .int .i64 s.d] 24)
  have B := bb
  clear bb
  go_enter Try.func3, Try.ntmps3
  go_wp2_with fail
  generalize (w.alloc (.cells #[.int .i64 s.a, .int .i64 s.b, .int .i64 s.c, .int .i64 s.d] 24)) = w0 at *
  have cvs0 := vs.cell (i := 0) (by simp)
  have cvs1 := vs.cell (i := 1) (by simp)
  have cvs2 := vs.cell (i := 2) (by simp)
  have cvs3 := vs.cell (i := 3) (by simp)
  simp only [List.getD_cons_zero, List.getD_cons_succ] at cvs0 cvs1 cvs2 cvs3
  have ltvs := vs.lt
  go_wp2_with fail
  clear cvs0 cvs1 cvs2 cvs3 ltvs
  refine (sounds_calls _).mono ?_
  rintro e w1 ⟨rfl, b1⟩
  replace vs := vs.mono b1
  replace B := below_trans B b1
  clear b1
  go_wp2
  go_ret
  exact ⟨rfl, B⟩

set_option maxRecDepth 100000 in
set_option maxHeartbeats 2000000 in
theorem texact_bad (base : Nat) (s : T4) (w : World) (hB : base < 18446744073709551616) (hS : i64 s.a ∧ i64 s.b ∧ i64 s.c ∧ i64 s.d) (h0 : ¬ 200 < s.a) (h1 : ¬ s.a < -200) (h2 : ¬ 200 < s.b) (h3 : ¬ s.b < -200) (h4 : ¬ 200 < s.c) (h5 : ¬ s.c < -200) (h6 : ¬ s.d < 1) (h7 : ¬ 24 < s.d) (h9 : validB s.a s.b s.c s.d = false) :
    Calls Try.prog 3 #[.int .u64 (base : Int), .agg #[.int .i64 s.a, .int .i64 s.b, .int .i64 s.c, .int .i64 s.d]] w (RetTrueE w) := by
  have P := fun w : World => freq_bad base s w hS h9
  have C := fun w : World => check_false s w hS.1 hS.2.1 hS.2.2.1 hS.2.2.2 h9
  have HP := Lib.hid P
  have HC := Lib.hid C
  clear P C
  have vs := Vals.newL w (w.heap.size) [.int .i64 s.a, .int .i64 s.b, .int .i64 s.c, .int .i64 s.d] 24 rfl
  have bb := below_alloc w (.cells #[.int .i64 s.a, .int .i64 s.b, .int .i64 s.c, .int .i64 s.d] 24)
  have B := bb
  clear bb
  go_enter Try.func3, Try.ntmps3
  go_wp2_with fail
  generalize (w.alloc (.cells #[.int .i64 s.a, .int .i64 s.b, .int .i64 s.c, .int .i64 s.d] 24)) = w0 at *
  have cvs0 := vs.cell (i := 0) (by simp)
  have cvs1 := vs.cell (i := 1) (by simp)
  have cvs2 := vs.cell (i := 2) (by simp)
  have cvs3 := vs.cell (i := 3) (by simp)
  simp only [List.getD_cons_zero, List.getD_cons_succ] at cvs0 cvs1 cvs2 cvs3
  have ltvs := vs.lt
  go_wp2_with fail
  clear cvs0 cvs1 cvs2 cvs3 ltvs
  refine (HP.out _).mono ?_
  rintro e w1 ⟨rfl, b1⟩
  replace vs := vs.mono b1
  replace B := below_trans B b1
  clear b1
  go_wp2_with fail
  refine (sounds_calls _).mono ?_
  rintro e w2 ⟨rfl, b2⟩
  replace vs := vs.mono b2
  replace B := below_trans B b2
  clear b2
  have cvs0 := vs.cell (i := 0) (by simp)
  have cvs1 := vs.cell (i := 1) (by simp)
  have cvs2 := vs.cell (i := 2) (by simp)
  have cvs3 := vs.cell (i := 3) (by simp)
  simp only [List.getD_cons_zero, List.getD_cons_succ] at cvs0 cvs1 cvs2 cvs3
  have ltvs := vs.lt
  go_wp2_with fail
  clear cvs0 cvs1 cvs2 cvs3 ltvs
  refine (HC.out _).mono ?_
  rintro e w3 ⟨rfl, b3⟩
  replace vs := vs.mono b3
  replace B := below_trans B b3
  clear b3
  go_wp2
  go_ret
  exact ⟨rfl, B⟩

set_option maxRecDepth 100000 in
set_option maxHeartbeats 2000000 in
theorem texact_ok (base : Nat) (s : T4) (w : World) (hB : base < 18446744073709551616) (hS : i64 s.a ∧ i64 s.b ∧ i64 s.c ∧ i64 s.d) (h0 : ¬ 200 < s.a) (h1 : ¬ s.a < -200) (h2 : ¬ 200 < s.b) (h3 : ¬ s.b < -200) (h4 : ¬ 200 < s.c) (h5 : ¬ s.c < -200) (h6 : ¬ s.d < 1) (h7 : ¬ 24 < s.d) (h9 : validB s.a s.b s.c s.d = true) (r : Nat) (hr : IsRoot (freqQ base s) s.d.toNat r) (hk : r < 9223372036854775808) :
    Calls Try.prog 3 #[.int .u64 (base : Int), .agg #[.int .i64 s.a, .int .i64 s.b, .int .i64 s.c, .int .i64 s.d]] w (RetTrueE w) := by
  have P := fun w : World => freq_ok base r s w hB h9 hr hk
  obtain ⟨l1, l2, l3, l4, l5, l6, l7⟩ := freqP_len hB h9
  have OF := fun w : World => of_calls base (base : Int) w rfl hB
  have hd : s.d = (s.d.toNat : Int) := by omega
  have PW := fun (v : Value) (w : World) (h : Num w v base) => pow_ok v base s.d.toNat s.d w h hd (by omega) (.inr l2) (by omega)
  have A2 := fun w : World => powerE_calls 2 2 s.a w rfl (by omega) (by omega) (by omega)
  have A3 := fun w : World => powerE_calls 3 3 s.b w rfl (by omega) (by omega) (by omega)
  have A5 := fun w : World => powerE_calls 5 5 s.c w rfl (by omega) (by omega) (by omega)
  have B2 := fun w : World => powerE_calls 2 2 (-s.a) w rfl (by omega) (by omega) (by omega)
  have B3 := fun w : World => powerE_calls 3 3 (-s.b) w rfl (by omega) (by omega) (by omega)
  have B5 := fun w : World => powerE_calls 5 5 (-s.c) w rfl (by omega) (by omega) (by omega)
  obtain ⟨s2, _, _⟩ := small_lens s.a (by omega)
  obtain ⟨_, s3, _⟩ := small_lens s.b (by omega)
  obtain ⟨_, _, s5⟩ := small_lens s.c (by omega)
  obtain ⟨t2, _, _⟩ := small_lens (-s.a) (by omega)
  obtain ⟨_, t3, _⟩ := small_lens (-s.b) (by omega)
  obtain ⟨_, _, t5⟩ := small_lens (-s.c) (by omega)
  have P4 := fun (v0 v1 v2 v3 : Value) (b c : Nat) (w : World) (hv : Vals w b [v0, v1, v2, v3]) (hn : Nums w [v0, v1, v2, v3] [base ^ s.d.toNat, 2 ^ s.a.toNat, 3 ^ s.b.toNat, 5 ^ s.c.toNat]) => productE_calls [v0, v1, v2, v3] _ b c 4 w rfl (by omega) hv hn (all4 (p := fun n => (limbs n).length ≤ 1000) (by omega) s2 s3 s5)
  have P3 := fun (v0 v1 v2 : Value) (b c : Nat) (w : World) (hv : Vals w b [v0, v1, v2]) (hn : Nums w [v0, v1, v2] [2 ^ (-s.a).toNat, 3 ^ (-s.b).toNat, 5 ^ (-s.c).toNat]) => productE_calls [v0, v1, v2] _ b c 3 w rfl (by omega) hv hn (all3 (p := fun n => (limbs n).length ≤ 1000) t2 t3 t5)
  have e4 : prodN [base ^ s.d.toNat, 2 ^ s.a.toNat, 3 ^ s.b.toNat, 5 ^ s.c.toNat] 4 = base ^ s.d.toNat * overN s.a s.b s.c := by
    unfold overN
    simp [prodN, Nat.mul_assoc]
  have e3 : prodN [2 ^ (-s.a).toNat, 3 ^ (-s.b).toNat, 5 ^ (-s.c).toNat] 3 = underN s.a s.b s.c := by
    unfold underN
    simp [prodN, Nat.mul_assoc]
  rw [e4] at P4
  rw [e3] at P3
  have n2 := under_ne s.a s.b s.c
  have DV := fun (v1 v2 : Value) (w : World) (h1 : Num w v1 (base ^ s.d.toNat * overN s.a s.b s.c)) (h2 : Num w v2 (underN s.a s.b s.c)) => divmod_ok v1 v2 _ _ w h1 h2 ⟨by omega, by omega⟩ n2
  have eq : base ^ s.d.toNat * overN s.a s.b s.c / underN s.a s.b s.c = freqQ base s := rfl
  rw [eq] at DV
  have RT := fun (v : Value) (w : World) (h : Num w v (freqQ base s)) => root_ok v _ s.d.toNat r s.d w h hd (by omega) (by omega) (by omega) hr
  have lr : (limbs r).length ≤ 262144 := by
    have h1 := hr.1
    have h2 : r ≤ r ^ s.d.toNat := Nat.le_self_pow (by omega) r
    have := limbs_length_mono (show r ≤ freqQ base s by omega)
    omega
  have l2r : (limbs r).length ≤ 2 := limbs_length_le (k := 2) (by omega)
  have UI := fun (v : Value) (w : World) (h : Num w v r) => uint64_ok v r w h l2r
  have q1 : IntKind.i64.wrap (-s.a) = -s.a := IntWalk.i64_in _ (by omega)
  have q2 : IntKind.i64.wrap (-s.b) = -s.b := IntWalk.i64_in _ (by omega)
  have q3 : IntKind.i64.wrap (-s.c) = -s.c := IntWalk.i64_in _ (by omega)
  clear e4 e3 eq s2 s3 s5 t2 t3 t5 l1 l2 l3 l4 l5 l6 l7 n2 lr hd l2r
  have HP := Lib.hid P
  have HOF := Lib.hid OF
  have HPW := Lib.hid PW
  have HA2 := Lib.hid A2
  have HA3 := Lib.hid A3
  have HA5 := Lib.hid A5
  have HB2 := Lib.hid B2
  have HB3 := Lib.hid B3
  have HB5 := Lib.hid B5
  have HP4 := Lib.hid P4
  have HP3 := Lib.hid P3
  have HDV := Lib.hid DV
  have HRT := Lib.hid RT
  have HUI := Lib.hid UI
  clear P OF PW A2 A3 A5 B2 B3 B5 P4 P3 DV RT UI
  clear hS h9 hr

  have vs := Vals.newL w (w.heap.size) [.int .i64 s.a, .int .i64 s.b, .int .i64 s.c, .int .i64 s.d] 24 rfl
  have bb := below_alloc w (.cells #[.int .i64 s.a, .int .i64 s.b, .int .i64 s.c, .int .i64 s.d] 24)
  have B := bb
  clear bb
  go_enter Try.func3, Try.ntmps3
  go_wp2_with fail
  generalize (w.alloc (.cells #[.int .i64 s.a, .int .i64 s.b, .int .i64 s.c, .int .i64 s.d] 24)) = w0 at *
  have cvs0 := vs.cell (i := 0) (by simp)
  have cvs1 := vs.cell (i := 1) (by simp)
  have cvs2 := vs.cell (i := 2) (by simp)
  have cvs3 := vs.cell (i := 3) (by simp)
  simp only [List.getD_cons_zero, List.getD_cons_succ] at cvs0 cvs1 cvs2 cvs3
  have ltvs := vs.lt
  go_wp2_with fail
  clear cvs0 cvs1 cvs2 cvs3 ltvs
  refine (HP.out _).mono ?_
  rintro e w1 ⟨rfl, b1⟩
  replace vs := vs.mono b1
  replace B := below_trans B b1
  clear b1
  go_wp2_with fail
  refine (sounds_calls _).mono ?_
  rintro e w2 ⟨rfl, b2⟩
  replace vs := vs.mono b2
  replace B := below_trans B b2
  clear b2
  go_upto_region 8 with (fail)
  go_region_held3 (fun w' => w'.cell? ⟨w.heap.size, 0, none⟩ = some (.int .i64 s.a) ∧ w'.cell? ⟨w.heap.size, 1, none⟩ = some (.int .i64 s.b) ∧ w'.cell? ⟨w.heap.size, 2, none⟩ = some (.int .i64 s.c) ∧ w'.cell? ⟨w.heap.size, 3, none⟩ = some (.int .i64 s.d))
    (first | exact vals4E vs | exact vals4E vs.drew | exact vals4E (vs.alloc _))
    (first | (go_at_call 8; (with_reducible refine (HOF.out _).mono ?_); rintro e y1 ⟨v1, rfl, n1, _, b5⟩; replace vs := vs.drew.mono b5; replace B := below_trans B.drew b5; clear b5)
           | (go_at_call 7; (with_reducible refine (HPW.out _ _ n1).mono ?_); rintro e y2 ⟨v2, rfl, n2, _, b5⟩; replace vs := vs.mono b5; replace n1 := n1.mono b5; replace B := below_trans B b5; clear b5; obtain ⟨ad2, cp2, rfl, sl⟩ := n2; have n2 : Num _ (.slice ad2 _ cp2) _ := ⟨_, _, rfl, sl⟩; clear sl))
  clear n1 HPW HOF
  go_upto_region 9 with (fail)
  go_region_held3 (fun w' => w'.cell? ⟨w.heap.size, 0, none⟩ = some (.int .i64 s.a) ∧ w'.cell? ⟨w.heap.size, 1, none⟩ = some (.int .i64 s.b) ∧ w'.cell? ⟨w.heap.size, 2, none⟩ = some (.int .i64 s.c) ∧ w'.cell? ⟨w.heap.size, 3, none⟩ = some (.int .i64 s.d))
    (first | exact vals4E vs | exact vals4E vs.drew | exact vals4E (vs.alloc _))
    (first | (go_at_call 10; (with_reducible refine (HA2.out _).mono ?_); rintro e y3 ⟨v3, rfl, n3, _, b5⟩; replace vs := vs.drew.mono b5; replace n2 := n2.drewE.mono b5; replace B := below_trans B.drew b5; clear b5; obtain ⟨ad3, cp3, rfl, sl⟩ := n3; have n3 : Num _ (.slice ad3 _ cp3) _ := ⟨_, _, rfl, sl⟩; clear sl)
           | (go_at_call 10; (with_reducible refine (HA3.out _).mono ?_); rintro e y4 ⟨v4, rfl, n4, _, b5⟩; replace vs := vs.mono b5; replace n2 := n2.mono b5; replace n3 := n3.mono b5; replace B := below_trans B b5; clear b5; obtain ⟨ad4, cp4, rfl, sl⟩ := n4; have n4 : Num _ (.slice ad4 _ cp4) _ := ⟨_, _, rfl, sl⟩; clear sl)
           | (go_at_call 10; (with_reducible refine (HA5.out _).mono ?_); rintro e y5 ⟨v5, rfl, n5, _, b5⟩; replace vs := vs.mono b5; replace n2 := n2.mono b5; replace n3 := n3.mono b5; replace n4 := n4.mono b5; replace B := below_trans B b5; clear b5; obtain ⟨ad5, cp5, rfl, sl⟩ := n5; have n5 : Num _ (.slice ad5 _ cp5) _ := ⟨_, _, rfl, sl⟩; clear sl)
           | (go_at_call 9; have vl := Vals.newL y5 y5.heap.size [.slice ad2 (limbs (base ^ s.d.toNat)).length cp2, .slice ad3 (limbs (2 ^ s.a.toNat)).length cp3, .slice ad4 (limbs (3 ^ s.b.toNat)).length cp4, .slice ad5 (limbs (5 ^ s.c.toNat)).length cp5] 31 rfl; have bb := below_alloc y5 (.cells #[.slice ad2 (limbs (base ^ s.d.toNat)).length cp2, .slice ad3 (limbs (2 ^ s.a.toNat)).length cp3, .slice ad4 (limbs (3 ^ s.b.toNat)).length cp4, .slice ad5 (limbs (5 ^ s.c.toNat)).length cp5] 31); replace vs := vs.mono bb; replace n2 := n2.mono bb; replace n3 := n3.mono bb; replace n4 := n4.mono bb; replace n5 := n5.mono bb; replace B := below_trans B bb; clear bb; (with_reducible refine (HP4.out _ _ _ _ _ _ _ vl (nums4 n2 n3 n4 n5)).mono ?_); rintro e y6 ⟨v6, rfl, n6, _, b5⟩; clear vl n2 n3 n4 n5; replace vs := vs.mono b5; replace B := below_trans B b5; clear b5))
  clear HA2 HA3 HA5 HP4
  go_upto_region 10 with (fail)
  go_region_held3 (fun w' => w'.cell? ⟨w.heap.size, 0, none⟩ = some (.int .i64 s.a) ∧ w'.cell? ⟨w.heap.size, 1, none⟩ = some (.int .i64 s.b) ∧ w'.cell? ⟨w.heap.size, 2, none⟩ = some (.int .i64 s.c) ∧ w'.cell? ⟨w.heap.size, 3, none⟩ = some (.int .i64 s.d))
    (first | exact vals4E vs | exact vals4E vs.drew | exact vals4E (vs.alloc _))
    (first | (go_at_call 10; (with_reducible refine (HB2.out _).mono ?_); rintro e y7 ⟨v7, rfl, n7, _, b5⟩; replace vs := vs.drew.mono b5; replace n6 := n6.drewE.mono b5; replace B := below_trans B.drew b5; clear b5; obtain ⟨ad7, cp7, rfl, sl⟩ := n7; have n7 : Num _ (.slice ad7 _ cp7) _ := ⟨_, _, rfl, sl⟩; clear sl)
           | (go_at_call 10; (with_reducible refine (HB3.out _).mono ?_); rintro e y8 ⟨v8, rfl, n8, _, b5⟩; replace vs := vs.mono b5; replace n6 := n6.mono b5; replace n7 := n7.mono b5; replace B := below_trans B b5; clear b5; obtain ⟨ad8, cp8, rfl, sl⟩ := n8; have n8 : Num _ (.slice ad8 _ cp8) _ := ⟨_, _, rfl, sl⟩; clear sl)
           | (go_at_call 10; (with_reducible refine (HB5.out _).mono ?_); rintro e y9 ⟨v9, rfl, n9, _, b5⟩; replace vs := vs.mono b5; replace n6 := n6.mono b5; replace n7 := n7.mono b5; replace n8 := n8.mono b5; replace B := below_trans B b5; clear b5; obtain ⟨ad9, cp9, rfl, sl⟩ := n9; have n9 : Num _ (.slice ad9 _ cp9) _ := ⟨_, _, rfl, sl⟩; clear sl)
           | (go_at_call 9; have vl := Vals.newL y9 y9.heap.size [.slice ad7 (limbs (2 ^ (-s.a).toNat)).length cp7, .slice ad8 (limbs (3 ^ (-s.b).toNat)).length cp8, .slice ad9 (limbs (5 ^ (-s.c).toNat)).length cp9] 31 rfl; have bb := below_alloc y9 (.cells #[.slice ad7 (limbs (2 ^ (-s.a).toNat)).length cp7, .slice ad8 (limbs (3 ^ (-s.b).toNat)).length cp8, .slice ad9 (limbs (5 ^ (-s.c).toNat)).length cp9] 31); replace vs := vs.mono bb; replace n6 := n6.mono bb; replace n7 := n7.mono bb; replace n8 := n8.mono bb; replace n9 := n9.mono bb; replace B := below_trans B bb; clear bb; (with_reducible refine (HP3.out _ _ _ _ _ _ vl (nums3 n7 n8 n9)).mono ?_); rintro e y10 ⟨v10, rfl, n10, _, b5⟩; clear vl n7 n8 n9; replace vs := vs.mono b5; replace n6 := n6.mono b5; replace B := below_trans B b5; clear b5))
  clear HB2 HB3 HB5 HP3 q1 q2 q3
  go_wp2_with fail
  refine (HDV.out _ _ _ n6 n10).mono ?_
  rintro e z1 ⟨vq, vr, rfl, nq, nr, _, _, _, b5⟩
  replace vs := vs.mono b5
  replace B := below_trans B b5
  clear b5 n6 n10 nr HDV
  have cvs0 := vs.cell (i := 0) (by simp)
  have cvs1 := vs.cell (i := 1) (by simp)
  have cvs2 := vs.cell (i := 2) (by simp)
  have cvs3 := vs.cell (i := 3) (by simp)
  simp only [List.getD_cons_zero, List.getD_cons_succ] at cvs0 cvs1 cvs2 cvs3
  have ltvs := vs.lt
  go_wp2_with fail
  clear cvs0 cvs1 cvs2 cvs3 ltvs
  refine (HRT.out _ _ nq).mono ?_
  rintro e z2 ⟨vt, rfl, nt, _, b5⟩
  replace B := below_trans B b5
  clear b5 nq vs HRT
  go_wp2_with fail
  refine (HUI.out _ _ nt).mono ?_
  rintro e z3 ⟨rfl, b5⟩
  replace B := below_trans B b5
  clear b5 nt HUI
  have t1 : ¬ ((9223372036854775808 : Int) ≤ (r : Int)) := by omega
  have t2 : decide ((9223372036854775808 : Int) ≤ (r : Int)) = false := decide_eq_false t1
  obtain ⟨R, hR⟩ : ∃ R : Int, (r : Int) = R := ⟨_, rfl⟩
  rw [hR] at t2 ⊢
  clear t1 hR hk
  go_wp2
  go_ret
  exact ⟨rfl, B⟩

set_option maxRecDepth 100000 in
set_option maxHeartbeats 2000000 in
theorem texact_far (base : Nat) (s : T4) (w : World) (hB : base < 18446744073709551616) (hS : i64 s.a ∧ i64 s.b ∧ i64 s.c ∧ i64 s.d) (h0 : ¬ 200 < s.a) (h1 : ¬ s.a < -200) (h2 : ¬ 200 < s.b) (h3 : ¬ s.b < -200) (h4 : ¬ 200 < s.c) (h5 : ¬ s.c < -200) (h6 : ¬ s.d < 1) (h7 : ¬ 24 < s.d) (h9 : validB s.a s.b s.c s.d = true) (r : Nat) (hr : IsRoot (freqQ base s) s.d.toNat r) (hk : 9223372036854775808 ≤ r) (hj : r < 18446744073709551616) :
    Calls Try.prog 3 #[.int .u64 (base : Int), .agg #[.int .i64 s.a, .int .i64 s.b, .int .i64 s.c, .int .i64 s.d]] w (RetTrueE w) := by
  have P := fun w : World => freq_far base r s w hB h9 hr hk hj
  obtain ⟨l1, l2, l3, l4, l5, l6, l7⟩ := freqP_len hB h9
  have OF := fun w : World => of_calls base (base : Int) w rfl hB
  have hd : s.d = (s.d.toNat : Int) := by omega
  have PW := fun (v : Value) (w : World) (h : Num w v base) => pow_ok v base s.d.toNat s.d w h hd (by omega) (.inr l2) (by omega)
  have A2 := fun w : World => powerE_calls 2 2 s.a w rfl (by omega) (by omega) (by omega)
  have A3 := fun w : World => powerE_calls 3 3 s.b w rfl (by omega) (by omega) (by omega)
  have A5 := fun w : World => powerE_calls 5 5 s.c w rfl (by omega) (by omega) (by omega)
  have B2 := fun w : World => powerE_calls 2 2 (-s.a) w rfl (by omega) (by omega) (by omega)
  have B3 := fun w : World => powerE_calls 3 3 (-s.b) w rfl (by omega) (by omega) (by omega)
  have B5 := fun w : World => powerE_calls 5 5 (-s.c) w rfl (by omega) (by omega) (by omega)
  obtain ⟨s2, _, _⟩ := small_lens s.a (by omega)
  obtain ⟨_, s3, _⟩ := small_lens s.b (by omega)
  obtain ⟨_, _, s5⟩ := small_lens s.c (by omega)
  obtain ⟨t2, _, _⟩ := small_lens (-s.a) (by omega)
  obtain ⟨_, t3, _⟩ := small_lens (-s.b) (by omega)
  obtain ⟨_, _, t5⟩ := small_lens (-s.c) (by omega)
  have P4 := fun (v0 v1 v2 v3 : Value) (b c : Nat) (w : World) (hv : Vals w b [v0, v1, v2, v3]) (hn : Nums w [v0, v1, v2, v3] [base ^ s.d.toNat, 2 ^ s.a.toNat, 3 ^ s.b.toNat, 5 ^ s.c.toNat]) => productE_calls [v0, v1, v2, v3] _ b c 4 w rfl (by omega) hv hn (all4 (p := fun n => (limbs n).length ≤ 1000) (by omega) s2 s3 s5)
  have P3 := fun (v0 v1 v2 : Value) (b c : Nat) (w : World) (hv : Vals w b [v0, v1, v2]) (hn : Nums w [v0, v1, v2] [2 ^ (-s.a).toNat, 3 ^ (-s.b).toNat, 5 ^ (-s.c).toNat]) => productE_calls [v0, v1, v2] _ b c 3 w rfl (by omega) hv hn (all3 (p := fun n => (limbs n).length ≤ 1000) t2 t3 t5)
  have e4 : prodN [base ^ s.d.toNat, 2 ^ s.a.toNat, 3 ^ s.b.toNat, 5 ^ s.c.toNat] 4 = base ^ s.d.toNat * overN s.a s.b s.c := by
    unfold overN
    simp [prodN, Nat.mul_assoc]
  have e3 : prodN [2 ^ (-s.a).toNat, 3 ^ (-s.b).toNat, 5 ^ (-s.c).toNat] 3 = underN s.a s.b s.c := by
    unfold underN
    simp [prodN, Nat.mul_assoc]
  rw [e4] at P4
  rw [e3] at P3
  have n2 := under_ne s.a s.b s.c
  have DV := fun (v1 v2 : Value) (w : World) (h1 : Num w v1 (base ^ s.d.toNat * overN s.a s.b s.c)) (h2 : Num w v2 (underN s.a s.b s.c)) => divmod_ok v1 v2 _ _ w h1 h2 ⟨by omega, by omega⟩ n2
  have eq : base ^ s.d.toNat * overN s.a s.b s.c / underN s.a s.b s.c = freqQ base s := rfl
  rw [eq] at DV
  have RT := fun (v : Value) (w : World) (h : Num w v (freqQ base s)) => root_ok v _ s.d.toNat r s.d w h hd (by omega) (by omega) (by omega) hr
  have lr : (limbs r).length ≤ 262144 := by
    have h1 := hr.1
    have h2 : r ≤ r ^ s.d.toNat := Nat.le_self_pow (by omega) r
    have := limbs_length_mono (show r ≤ freqQ base s by omega)
    omega
  have l2r : (limbs r).length ≤ 2 := limbs_length_le (k := 2) (by omega)
  have UI := fun (v : Value) (w : World) (h : Num w v r) => uint64_ok v r w h l2r
  have q1 : IntKind.i64.wrap (-s.a) = -s.a := IntWalk.i64_in _ (by omega)
  have q2 : IntKind.i64.wrap (-s.b) = -s.b := IntWalk.i64_in _ (by omega)
  have q3 : IntKind.i64.wrap (-s.c) = -s.c := IntWalk.i64_in _ (by omega)
  clear e4 e3 eq s2 s3 s5 t2 t3 t5 l1 l2 l3 l4 l5 l6 l7 n2 lr hd l2r
  have HP := Lib.hid P
  have HOF := Lib.hid OF
  have HPW := Lib.hid PW
  have HA2 := Lib.hid A2
  have HA3 := Lib.hid A3
  have HA5 := Lib.hid A5
  have HB2 := Lib.hid B2
  have HB3 := Lib.hid B3
  have HB5 := Lib.hid B5
  have HP4 := Lib.hid P4
  have HP3 := Lib.hid P3
  have HDV := Lib.hid DV
  have HRT := Lib.hid RT
  have HUI := Lib.hid UI
  clear P OF PW A2 A3 A5 B2 B3 B5 P4 P3 DV RT UI
  clear hS h9 hr

  have vs := Vals.newL w (w.heap.size) [.int .i64 s.a, .int .i64 s.b, .int .i64 s.c, .int .i64 s.d] 24 rfl
  have bb := below_alloc w (.cells #[.int .i64 s.a, .int .i64 s.b, .int .i64 s.c, .int .i64 s.d] 24)
  have B := bb
  clear bb
  go_enter Try.func3, Try.ntmps3
  go_wp2_with fail
  generalize (w.alloc (.cells #[.int .i64 s.a, .int .i64 s.b, .int .i64 s.c, .int .i64 s.d] 24)) = w0 at *
  have cvs0 := vs.cell (i := 0) (by simp)
  have cvs1 := vs.cell (i := 1) (by simp)
  have cvs2 := vs.cell (i := 2) (by simp)
  have cvs3 := vs.cell (i := 3) (by simp)
  simp only [List.getD_cons_zero, List.getD_cons_succ] at cvs0 cvs1 cvs2 cvs3
  have ltvs := vs.lt
  go_wp2_with fail
  clear cvs0 cvs1 cvs2 cvs3 ltvs
  refine (HP.out _).mono ?_
  rintro e w1 ⟨rfl, b1⟩
  replace vs := vs.mono b1
  replace B := below_trans B b1
  clear b1
  go_wp2_with fail
  refine (sounds_calls _).mono ?_
  rintro e w2 ⟨rfl, b2⟩
  replace vs := vs.mono b2
  replace B := below_trans B b2
  clear b2
  go_upto_region 8 with (fail)
  go_region_held3 (fun w' => w'.cell? ⟨w.heap.size, 0, none⟩ = some (.int .i64 s.a) ∧ w'.cell? ⟨w.heap.size, 1, none⟩ = some (.int .i64 s.b) ∧ w'.cell? ⟨w.heap.size, 2, none⟩ = some (.int .i64 s.c) ∧ w'.cell? ⟨w.heap.size, 3, none⟩ = some (.int .i64 s.d))
    (first | exact vals4E vs | exact vals4E vs.drew | exact vals4E (vs.alloc _))
    (first | (go_at_call 8; (with_reducible refine (HOF.out _).mono ?_); rintro e y1 ⟨v1, rfl, n1, _, b5⟩; replace vs := vs.drew.mono b5; replace B := below_trans B.drew b5; clear b5)
           | (go_at_call 7; (with_reducible refine (HPW.out _ _ n1).mono ?_); rintro e y2 ⟨v2, rfl, n2, _, b5⟩; replace vs := vs.mono b5; replace n1 := n1.mono b5; replace B := below_trans B b5; clear b5; obtain ⟨ad2, cp2, rfl, sl⟩ := n2; have n2 : Num _ (.slice ad2 _ cp2) _ := ⟨_, _, rfl, sl⟩; clear sl))
  clear n1 HPW HOF
  go_upto_region 9 with (fail)
  go_region_held3 (fun w' => w'.cell? ⟨w.heap.size, 0, none⟩ = some (.int .i64 s.a) ∧ w'.cell? ⟨w.heap.size, 1, none⟩ = some (.int .i64 s.b) ∧ w'.cell? ⟨w.heap.size, 2, none⟩ = some (.int .i64 s.c) ∧ w'.cell? ⟨w.heap.size, 3, none⟩ = some (.int .i64 s.d))
    (first | exact vals4E vs | exact vals4E vs.drew | exact vals4E (vs.alloc _))
    (first | (go_at_call 10; (with_reducible refine (HA2.out _).mono ?_); rintro e y3 ⟨v3, rfl, n3, _, b5⟩; replace vs := vs.drew.mono b5; replace n2 := n2.drewE.mono b5; replace B := below_trans B.drew b5; clear b5; obtain ⟨ad3, cp3, rfl, sl⟩ := n3; have n3 : Num _ (.slice ad3 _ cp3) _ := ⟨_, _, rfl, sl⟩; clear sl)
           | (go_at_call 10; (with_reducible refine (HA3.out _).mono ?_); rintro e y4 ⟨v4, rfl, n4, _, b5⟩; replace vs := vs.mono b5; replace n2 := n2.mono b5; replace n3 := n3.mono b5; replace B := below_trans B b5; clear b5; obtain ⟨ad4, cp4, rfl, sl⟩ := n4; have n4 : Num _ (.slice ad4 _ cp4) _ := ⟨_, _, rfl, sl⟩; clear sl)
           | (go_at_call 10; (with_reducible refine (HA5.out _).mono ?_); rintro e y5 ⟨v5, rfl, n5, _, b5⟩; replace vs := vs.mono b5; replace n2 := n2.mono b5; replace n3 := n3.mono b5; replace n4 := n4.mono b5; replace B := below_trans B b5; clear b5; obtain ⟨ad5, cp5, rfl, sl⟩ := n5; have n5 : Num _ (.slice ad5 _ cp5) _ := ⟨_, _, rfl, sl⟩; clear sl)
           | (go_at_call 9; have vl := Vals.newL y5 y5.heap.size [.slice ad2 (limbs (base ^ s.d.toNat)).length cp2, .slice ad3 (limbs (2 ^ s.a.toNat)).length cp3, .slice ad4 (limbs (3 ^ s.b.toNat)).length cp4, .slice ad5 (limbs (5 ^ s.c.toNat)).length cp5] 31 rfl; have bb := below_alloc y5 (.cells #[.slice ad2 (limbs (base ^ s.d.toNat)).length cp2, .slice ad3 (limbs (2 ^ s.a.toNat)).length cp3, .slice ad4 (limbs (3 ^ s.b.toNat)).length cp4, .slice ad5 (limbs (5 ^ s.c.toNat)).length cp5] 31); replace vs := vs.mono bb; replace n2 := n2.mono bb; replace n3 := n3.mono bb; replace n4 := n4.mono bb; replace n5 := n5.mono bb; replace B := below_trans B bb; clear bb; (with_reducible refine (HP4.out _ _ _ _ _ _ _ vl (nums4 n2 n3 n4 n5)).mono ?_); rintro e y6 ⟨v6, rfl, n6, _, b5⟩; clear vl n2 n3 n4 n5; replace vs := vs.mono b5; replace B := below_trans B b5; clear b5))
  clear HA2 HA3 HA5 HP4
  go_upto_region 10 with (fail)
  go_region_held3 (fun w' => w'.cell? ⟨w.heap.size, 0, none⟩ = some (.int .i64 s.a) ∧ w'.cell? ⟨w.heap.size, 1, none⟩ = some (.int .i64 s.b) ∧ w'.cell? ⟨w.heap.size, 2, none⟩ = some (.int .i64 s.c) ∧ w'.cell? ⟨w.heap.size, 3, none⟩ = some (.int .i64 s.d))
    (first | exact vals4E vs | exact vals4E vs.drew | exact vals4E (vs.alloc _))
    (first | (go_at_call 10; (with_reducible refine (HB2.out _).mono ?_); rintro e y7 ⟨v7, rfl, n7, _, b5⟩; replace vs := vs.drew.mono b5; replace n6 := n6.drewE.mono b5; replace B := below_trans B.drew b5; clear b5; obtain ⟨ad7, cp7, rfl, sl⟩ := n7; have n7 : Num _ (.slice ad7 _ cp7) _ := ⟨_, _, rfl, sl⟩; clear sl)
           | (go_at_call 10; (with_reducible refine (HB3.out _).mono ?_); rintro e y8 ⟨v8, rfl, n8, _, b5⟩; replace vs := vs.mono b5; replace n6 := n6.mono b5; replace n7 := n7.mono b5; replace B := below_trans B b5; clear b5; obtain ⟨ad8, cp8, rfl, sl⟩ := n8; have n8 : Num _ (.slice ad8 _ cp8) _ := ⟨_, _, rfl, sl⟩; clear sl)
           | (go_at_call 10; (with_reducible refine (HB5.out _).mono ?_); rintro e y9 ⟨v9, rfl, n9, _, b5⟩; replace vs := vs.mono b5; replace n6 := n6.mono b5; replace n7 := n7.mono b5; replace n8 := n8.mono b5; replace B := below_trans B b5; clear b5; obtain ⟨ad9, cp9, rfl, sl⟩ := n9; have n9 : Num _ (.slice ad9 _ cp9) _ := ⟨_, _, rfl, sl⟩; clear sl)
           | (go_at_call 9; have vl := Vals.newL y9 y9.heap.size [.slice ad7 (limbs (2 ^ (-s.a).toNat)).length cp7, .slice ad8 (limbs (3 ^ (-s.b).toNat)).length cp8, .slice ad9 (limbs (5 ^ (-s.c).toNat)).length cp9] 31 rfl; have bb := below_alloc y9 (.cells #[.slice ad7 (limbs (2 ^ (-s.a).toNat)).length cp7, .slice ad8 (limbs (3 ^ (-s.b).toNat)).length cp8, .slice ad9 (limbs (5 ^ (-s.c).toNat)).length cp9] 31); replace vs := vs.mono bb; replace n6 := n6.mono bb; replace n7 := n7.mono bb; replace n8 := n8.mono bb; replace n9 := n9.mono bb; replace B := below_trans B bb; clear bb; (with_reducible refine (HP3.out _ _ _ _ _ _ vl (nums3 n7 n8 n9)).mono ?_); rintro e y10 ⟨v10, rfl, n10, _, b5⟩; clear vl n7 n8 n9; replace vs := vs.mono b5; replace n6 := n6.mono b5; replace B := below_trans B b5; clear b5))
  clear HB2 HB3 HB5 HP3 q1 q2 q3
  go_wp2_with fail
  refine (HDV.out _ _ _ n6 n10).mono ?_
  rintro e z1 ⟨vq, vr, rfl, nq, nr, _, _, _, b5⟩
  replace vs := vs.mono b5
  replace B := below_trans B b5
  clear b5 n6 n10 nr HDV
  have cvs0 := vs.cell (i := 0) (by simp)
  have cvs1 := vs.cell (i := 1) (by simp)
  have cvs2 := vs.cell (i := 2) (by simp)
  have cvs3 := vs.cell (i := 3) (by simp)
  simp only [List.getD_cons_zero, List.getD_cons_succ] at cvs0 cvs1 cvs2 cvs3
  have ltvs := vs.lt
  go_wp2_with fail
  clear cvs0 cvs1 cvs2 cvs3 ltvs
  refine (HRT.out _ _ nq).mono ?_
  rintro e z2 ⟨vt, rfl, nt, _, b5⟩
  replace B := below_trans B b5
  clear b5 nq vs HRT
  go_wp2_with fail
  refine (HUI.out _ _ nt).mono ?_
  rintro e z3 ⟨rfl, b5⟩
  replace B := below_trans B b5
  clear b5 nt HUI
  have t1 : (9223372036854775808 : Int) ≤ (r : Int) := by omega
  have t2 : decide ((9223372036854775808 : Int) ≤ (r : Int)) = true := decide_eq_true t1
  obtain ⟨R, hR⟩ : ∃ R : Int, (r : Int) = R := ⟨_, rfl⟩
  rw [hR] at t2 ⊢
  clear t1 hR hk hj
  go_wp2
  go_ret
  exact ⟨rfl, B⟩

set_option maxRecDepth 100000 in
set_option maxHeartbeats 2000000 in
theorem texact_long (base : Nat) (s : T4) (w : World) (hB : base < 18446744073709551616) (hS : i64 s.a ∧ i64 s.b ∧ i64 s.c ∧ i64 s.d) (h0 : ¬ 200 < s.a) (h1 : ¬ s.a < -200) (h2 : ¬ 200 < s.b) (h3 : ¬ s.b < -200) (h4 : ¬ 200 < s.c) (h5 : ¬ s.c < -200) (h6 : ¬ s.d < 1) (h7 : ¬ 24 < s.d) (h9 : validB s.a s.b s.c s.d = true) (r : Nat) (hr : IsRoot (freqQ base s) s.d.toNat r) (hk : 18446744073709551616 ≤ r) :
    Calls Try.prog 3 #[.int .u64 (base : Int), .agg #[.int .i64 s.a, .int .i64 s.b, .int .i64 s.c, .int .i64 s.d]] w (RetTrueE w) := by
  have P := fun w : World => freq_long base r s w hB h9 hr hk
  obtain ⟨l1, l2, l3, l4, l5, l6, l7⟩ := freqP_len hB h9
  have OF := fun w : World => of_calls base (base : Int) w rfl hB
  have hd : s.d = (s.d.toNat : Int) := by omega
  have PW := fun (v : Value) (w : World) (h : Num w v base) => pow_ok v base s.d.toNat s.d w h hd (by omega) (.inr l2) (by omega)
  have A2 := fun w : World => powerE_calls 2 2 s.a w rfl (by omega) (by omega) (by omega)
  have A3 := fun w : World => powerE_calls 3 3 s.b w rfl (by omega) (by omega) (by omega)
  have A5 := fun w : World => powerE_calls 5 5 s.c w rfl (by omega) (by omega) (by omega)
  have B2 := fun w : World => powerE_calls 2 2 (-s.a) w rfl (by omega) (by omega) (by omega)
  have B3 := fun w : World => powerE_calls 3 3 (-s.b) w rfl (by omega) (by omega) (by omega)
  have B5 := fun w : World => powerE_calls 5 5 (-s.c) w rfl (by omega) (by omega) (by omega)
  obtain ⟨s2, _, _⟩ := small_lens s.a (by omega)
  obtain ⟨_, s3, _⟩ := small_lens s.b (by omega)
  obtain ⟨_, _, s5⟩ := small_lens s.c (by omega)
  obtain ⟨t2, _, _⟩ := small_lens (-s.a) (by omega)
  obtain ⟨_, t3, _⟩ := small_lens (-s.b) (by omega)
  obtain ⟨_, _, t5⟩ := small_lens (-s.c) (by omega)
  have P4 := fun (v0 v1 v2 v3 : Value) (b c : Nat) (w : World) (hv : Vals w b [v0, v1, v2, v3]) (hn : Nums w [v0, v1, v2, v3] [base ^ s.d.toNat, 2 ^ s.a.toNat, 3 ^ s.b.toNat, 5 ^ s.c.toNat]) => productE_calls [v0, v1, v2, v3] _ b c 4 w rfl (by omega) hv hn (all4 (p := fun n => (limbs n).length ≤ 1000) (by omega) s2 s3 s5)
  have P3 := fun (v0 v1 v2 : Value) (b c : Nat) (w : World) (hv : Vals w b [v0, v1, v2]) (hn : Nums w [v0, v1, v2] [2 ^ (-s.a).toNat, 3 ^ (-s.b).toNat, 5 ^ (-s.c).toNat]) => productE_calls [v0, v1, v2] _ b c 3 w rfl (by omega) hv hn (all3 (p := fun n => (limbs n).length ≤ 1000) t2 t3 t5)
  have e4 : prodN [base ^ s.d.toNat, 2 ^ s.a.toNat, 3 ^ s.b.toNat, 5 ^ s.c.toNat] 4 = base ^ s.d.toNat * overN s.a s.b s.c := by
    unfold overN
    simp [prodN, Nat.mul_assoc]
  have e3 : prodN [2 ^ (-s.a).toNat, 3 ^ (-s.b).toNat, 5 ^ (-s.c).toNat] 3 = underN s.a s.b s.c := by
    unfold underN
    simp [prodN, Nat.mul_assoc]
  rw [e4] at P4
  rw [e3] at P3
  have n2 := under_ne s.a s.b s.c
  have DV := fun (v1 v2 : Value) (w : World) (h1 : Num w v1 (base ^ s.d.toNat * overN s.a s.b s.c)) (h2 : Num w v2 (underN s.a s.b s.c)) => divmod_ok v1 v2 _ _ w h1 h2 ⟨by omega, by omega⟩ n2
  have eq : base ^ s.d.toNat * overN s.a s.b s.c / underN s.a s.b s.c = freqQ base s := rfl
  rw [eq] at DV
  have RT := fun (v : Value) (w : World) (h : Num w v (freqQ base s)) => root_ok v _ s.d.toNat r s.d w h hd (by omega) (by omega) (by omega) hr
  have lr : (limbs r).length ≤ 262144 := by
    have h1 := hr.1
    have h2 : r ≤ r ^ s.d.toNat := Nat.le_self_pow (by omega) r
    have := limbs_length_mono (show r ≤ freqQ base s by omega)
    omega
  have l3r : 2 < (limbs r).length := by
    by_cases hx : (limbs r).length ≤ 2
    · have := limbs_length_le_iff.1 hx
      omega
    · omega
  have UI := fun (v : Value) (w : World) (h : Num w v r) => uint64_long v r w h lr l3r
  have q1 : IntKind.i64.wrap (-s.a) = -s.a := IntWalk.i64_in _ (by omega)
  have q2 : IntKind.i64.wrap (-s.b) = -s.b := IntWalk.i64_in _ (by omega)
  have q3 : IntKind.i64.wrap (-s.c) = -s.c := IntWalk.i64_in _ (by omega)
  clear e4 e3 eq s2 s3 s5 t2 t3 t5 l1 l2 l3 l4 l5 l6 l7 n2 lr hd l3r
  have HP := Lib.hid P
  have HOF := Lib.hid OF
  have HPW := Lib.hid PW
  have HA2 := Lib.hid A2
  have HA3 := Lib.hid A3
  have HA5 := Lib.hid A5
  have HB2 := Lib.hid B2
  have HB3 := Lib.hid B3
  have HB5 := Lib.hid B5
  have HP4 := Lib.hid P4
  have HP3 := Lib.hid P3
  have HDV := Lib.hid DV
  have HRT := Lib.hid RT
  have HUI := Lib.hid UI
  clear P OF PW A2 A3 A5 B2 B3 B5 P4 P3 DV RT UI
  clear hS h9 hr

  have vs := Vals.newL w (w.heap.size) [.int .i64 s.a, .int .i64 s.b, .int .i64 s.c, .int .i64 s.d] 24 rfl
  have bb := below_alloc w (.cells #[.int .i64 s.a, .int .i64 s.b, .int .i64 s.c, .int .i64 s.d] 24)
  have B := bb
  clear bb
  go_enter Try.func3, Try.ntmps3
  go_wp2_with fail
  generalize (w.alloc (.cells #[.int .i64 s.a, .int .i64 s.b, .int .i64 s.c, .int .i64 s.d] 24)) = w0 at *
  have cvs0 := vs.cell (i := 0) (by simp)
  have cvs1 := vs.cell (i := 1) (by simp)
  have cvs2 := vs.cell (i := 2) (by simp)
  have cvs3 := vs.cell (i := 3) (by simp)
  simp only [List.getD_cons_zero, List.getD_cons_succ] at cvs0 cvs1 cvs2 cvs3
  have ltvs := vs.lt
  go_wp2_with fail
  clear cvs0 cvs1 cvs2 cvs3 ltvs
  refine (HP.out _).mono ?_
  rintro e w1 ⟨rfl, b1⟩
  replace vs := vs.mono b1
  replace B := below_trans B b1
  clear b1
  go_wp2_with fail
  refine (sounds_calls _).mono ?_
  rintro e w2 ⟨rfl, b2⟩
  replace vs := vs.mono b2
  replace B := below_trans B b2
  clear b2
  go_upto_region 8 with (fail)
  go_region_held3 (fun w' => w'.cell? ⟨w.heap.size, 0, none⟩ = some (.int .i64 s.a) ∧ w'.cell? ⟨w.heap.size, 1, none⟩ = some (.int .i64 s.b) ∧ w'.cell? ⟨w.heap.size, 2, none⟩ = some (.int .i64 s.c) ∧ w'.cell? ⟨w.heap.size, 3, none⟩ = some (.int .i64 s.d))
    (first | exact vals4E vs | exact vals4E vs.drew | exact vals4E (vs.alloc _))
    (first | (go_at_call 8; (with_reducible refine (HOF.out _).mono ?_); rintro e y1 ⟨v1, rfl, n1, _, b5⟩; replace vs := vs.drew.mono b5; replace B := below_trans B.drew b5; clear b5)
           | (go_at_call 7; (with_reducible refine (HPW.out _ _ n1).mono ?_); rintro e y2 ⟨v2, rfl, n2, _, b5⟩; replace vs := vs.mono b5; replace n1 := n1.mono b5; replace B := below_trans B b5; clear b5; obtain ⟨ad2, cp2, rfl, sl⟩ := n2; have n2 : Num _ (.slice ad2 _ cp2) _ := ⟨_, _, rfl, sl⟩; clear sl))
  clear n1 HPW HOF
  go_upto_region 9 with (fail)
  go_region_held3 (fun w' => w'.cell? ⟨w.heap.size, 0, none⟩ = some (.int .i64 s.a) ∧ w'.cell? ⟨w.heap.size, 1, none⟩ = some (.int .i64 s.b) ∧ w'.cell? ⟨w.heap.size, 2, none⟩ = some (.int .i64 s.c) ∧ w'.cell? ⟨w.heap.size, 3, none⟩ = some (.int .i64 s.d))
    (first | exact vals4E vs | exact vals4E vs.drew | exact vals4E (vs.alloc _))
    (first | (go_at_call 10; (with_reducible refine (HA2.out _).mono ?_); rintro e y3 ⟨v3, rfl, n3, _, b5⟩; replace vs := vs.drew.mono b5; replace n2 := n2.drewE.mono b5; replace B := below_trans B.drew b5; clear b5; obtain ⟨ad3, cp3, rfl, sl⟩ := n3; have n3 : Num _ (.slice ad3 _ cp3) _ := ⟨_, _, rfl, sl⟩; clear sl)
           | (go_at_call 10; (with_reducible refine (HA3.out _).mono ?_); rintro e y4 ⟨v4, rfl, n4, _, b5⟩; replace vs := vs.mono b5; replace n2 := n2.mono b5; replace n3 := n3.mono b5; replace B := below_trans B b5; clear b5; obtain ⟨ad4, cp4, rfl, sl⟩ := n4; have n4 : Num _ (.slice ad4 _ cp4) _ := ⟨_, _, rfl, sl⟩; clear sl)
           | (go_at_call 10; (with_reducible refine (HA5.out _).mono ?_); rintro e y5 ⟨v5, rfl, n5, _, b5⟩; replace vs := vs.mono b5; replace n2 := n2.mono b5; replace n3 := n3.mono b5; replace n4 := n4.mono b5; replace B := below_trans B b5; clear b5; obtain ⟨ad5, cp5, rfl, sl⟩ := n5; have n5 : Num _ (.slice ad5 _ cp5) _ := ⟨_, _, rfl, sl⟩; clear sl)
           | (go_at_call 9; have vl := Vals.newL y5 y5.heap.size [.slice ad2 (limbs (base ^ s.d.toNat)).length cp2, .slice ad3 (limbs (2 ^ s.a.toNat)).length cp3, .slice ad4 (limbs (3 ^ s.b.toNat)).length cp4, .slice ad5 (limbs (5 ^ s.c.toNat)).length cp5] 31 rfl; have bb := below_alloc y5 (.cells #[.slice ad2 (limbs (base ^ s.d.toNat)).length cp2, .slice ad3 (limbs (2 ^ s.a.toNat)).length cp3, .slice ad4 (limbs (3 ^ s.b.toNat)).length cp4, .slice ad5 (limbs (5 ^ s.c.toNat)).length cp5] 31); replace vs := vs.mono bb; replace n2 := n2.mono bb; replace n3 := n3.mono bb; replace n4 := n4.mono bb; replace n5 := n5.mono bb; replace B := below_trans B bb; clear bb; (with_reducible refine (HP4.out _ _ _ _ _ _ _ vl (nums4 n2 n3 n4 n5)).mono ?_); rintro e y6 ⟨v6, rfl, n6, _, b5⟩; clear vl n2 n3 n4 n5; replace vs := vs.mono b5; replace B := below_trans B b5; clear b5))
  clear HA2 HA3 HA5 HP4
  go_upto_region 10 with (fail)
  go_region_held3 (fun w' => w'.cell? ⟨w.heap.size, 0, none⟩ = some (.int .i64 s.a) ∧ w'.cell? ⟨w.heap.size, 1, none⟩ = some (.int .i64 s.b) ∧ w'.cell? ⟨w.heap.size, 2, none⟩ = some (.int .i64 s.c) ∧ w'.cell? ⟨w.heap.size, 3, none⟩ = some (.int .i64 s.d))
    (first | exact vals4E vs | exact vals4E vs.drew | exact vals4E (vs.alloc _))
    (first | (go_at_call 10; (with_reducible refine (HB2.out _).mono ?_); rintro e y7 ⟨v7, rfl, n7, _, b5⟩; replace vs := vs.drew.mono b5; replace n6 := n6.drewE.mono b5; replace B := below_trans B.drew b5; clear b5; obtain ⟨ad7, cp7, rfl, sl⟩ := n7; have n7 : Num _ (.slice ad7 _ cp7) _ := ⟨_, _, rfl, sl⟩; clear sl)
           | (go_at_call 10; (with_reducible refine (HB3.out _).mono ?_); rintro e y8 ⟨v8, rfl, n8, _, b5⟩; replace vs := vs.mono b5; replace n6 := n6.mono b5; replace n7 := n7.mono b5; replace B := below_trans B b5; clear b5; obtain ⟨ad8, cp8, rfl, sl⟩ := n8; have n8 : Num _ (.slice ad8 _ cp8) _ := ⟨_, _, rfl, sl⟩; clear sl)
           | (go_at_call 10; (with_reducible refine (HB5.out _).mono ?_); rintro e y9 ⟨v9, rfl, n9, _, b5⟩; replace vs := vs.mono b5; replace n6 := n6.mono b5; replace n7 := n7.mono b5; replace n8 := n8.mono b5; replace B := below_trans B b5; clear b5; obtain ⟨ad9, cp9, rfl, sl⟩ := n9; have n9 : Num _ (.slice ad9 _ cp9) _ := ⟨_, _, rfl, sl⟩; clear sl)
           | (go_at_call 9; have vl := Vals.newL y9 y9.heap.size [.slice ad7 (limbs (2 ^ (-s.a).toNat)).length cp7, .slice ad8 (limbs (3 ^ (-s.b).toNat)).length cp8, .slice ad9 (limbs (5 ^ (-s.c).toNat)).length cp9] 31 rfl; have bb := below_alloc y9 (.cells #[.slice ad7 (limbs (2 ^ (-s.a).toNat)).length cp7, .slice ad8 (limbs (3 ^ (-s.b).toNat)).length cp8, .slice ad9 (limbs (5 ^ (-s.c).toNat)).length cp9] 31); replace vs := vs.mono bb; replace n6 := n6.mono bb; replace n7 := n7.mono bb; replace n8 := n8.mono bb; replace n9 := n9.mono bb; replace B := below_trans B bb; clear bb; (with_reducible refine (HP3.out _ _ _ _ _ _ vl (nums3 n7 n8 n9)).mono ?_); rintro e y10 ⟨v10, rfl, n10, _, b5⟩; clear vl n7 n8 n9; replace vs := vs.mono b5; replace n6 := n6.mono b5; replace B := below_trans B b5; clear b5))
  clear HB2 HB3 HB5 HP3 q1 q2 q3
  go_wp2_with fail
  refine (HDV.out _ _ _ n6 n10).mono ?_
  rintro e z1 ⟨vq, vr, rfl, nq, nr, _, _, _, b5⟩
  replace vs := vs.mono b5
  replace B := below_trans B b5
  clear b5 n6 n10 nr HDV
  have cvs0 := vs.cell (i := 0) (by simp)
  have cvs1 := vs.cell (i := 1) (by simp)
  have cvs2 := vs.cell (i := 2) (by simp)
  have cvs3 := vs.cell (i := 3) (by simp)
  simp only [List.getD_cons_zero, List.getD_cons_succ] at cvs0 cvs1 cvs2 cvs3
  have ltvs := vs.lt
  go_wp2_with fail
  clear cvs0 cvs1 cvs2 cvs3 ltvs
  refine (HRT.out _ _ nq).mono ?_
  rintro e z2 ⟨vt, rfl, nt, _, b5⟩
  replace B := below_trans B b5
  clear b5 nq vs HRT
  go_wp2_with fail
  refine (HUI.out _ _ nt).mono ?_
  rintro e z3 ⟨rfl, b5⟩
  replace B := below_trans B b5
  clear b5 nt HUI
  go_wp2
  go_ret
  exact ⟨rfl, B⟩

set_option maxRecDepth 100000 in
set_option maxHeartbeats 2000000 in
theorem walk_texact (base : Nat) (s : T4) (w : World) (hB : base < 18446744073709551616) (hS : i64 s.a ∧ i64 s.b ∧ i64 s.c ∧ i64 s.d)  :
    Calls Try.prog 3 #[.int .u64 (base : Int), .agg #[.int .i64 s.a, .int .i64 s.b, .int .i64 s.c, .int .i64 s.d]] w (RetTrueE w) := by
  by_cases h0 : 200 < s.a
  · exact texact_out0 base s w hB hS h0
  by_cases h1 : s.a < -200
  · exact texact_out1 base s w hB hS h0 h1
  by_cases h2 : 200 < s.b
  · exact texact_out2 base s w hB hS h0 h1 h2
  by_cases h3 : s.b < -200
  · exact texact_out3 base s w hB hS h0 h1 h2 h3
  by_cases h4 : 200 < s.c
  · exact texact_out4 base s w hB hS h0 h1 h2 h3 h4
  by_cases h5 : s.c < -200
  · exact texact_out5 base s w hB hS h0 h1 h2 h3 h4 h5
  by_cases h6 : s.d < 1
  · exact texact_out6 base s w hB hS h0 h1 h2 h3 h4 h5 h6
  by_cases h7 : 24 < s.d
  · exact texact_out7 base s w hB hS h0 h1 h2 h3 h4 h5 h6 h7
  cases h9 : validB s.a s.b s.c s.d
  · exact texact_bad base s w hB hS h0 h1 h2 h3 h4 h5 h6 h7 h9
  obtain ⟨r, hr⟩ := freq_exists base s h9
  by_cases hk : r < 9223372036854775808
  · exact texact_ok base s w hB hS h0 h1 h2 h3 h4 h5 h6 h7 h9 r hr hk
  by_cases hj : r < 18446744073709551616
  · exact texact_far base s w hB hS h0 h1 h2 h3 h4 h5 h6 h7 h9 r hr (by omega) hj
  · exact texact_long base s w hB hS h0 h1 h2 h3 h4 h5 h6 h7 h9 r hr (by omega)

end Go.Proofs
