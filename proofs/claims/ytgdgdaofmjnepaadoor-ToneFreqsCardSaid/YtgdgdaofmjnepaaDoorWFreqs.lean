/- The walk of ToneFreqs: whatever comes in, it returns true and changes nothing that was there. -/
import Derived.Test.YtgdgdaofmjnepaaDoorTRef
import Derived.Test.YtgdgdaofmjnepaaDoorTone8
import Derived.Test.YtgdgdaofmjnepaaDoorToneB
import Derived.Test.YtgdgdaofmjnepaaDoorTRef11
import Derived.Deep.RegionHeld3
open Go.RowKit Go.Deep
namespace Go.Proofs
set_option linter.unusedVariables false

set_option maxRecDepth 100000 in
set_option maxHeartbeats 1000000 in
theorem freqs_bad (base r : Nat) (s : T4) (w : World) (hS : i64 s.a ∧ i64 s.b ∧ i64 s.c ∧ i64 s.d) (ht : Tab w) (hb : base < 18446744073709551616) (h1 : validB s.a s.b s.c s.d = false) :
    Calls Tryd.prog 19 #[.int .u64 (base : Int), .agg #[.int .i64 s.a, .int .i64 s.b, .int .i64 s.c, .int .i64 s.d]] w (RetTrue w) := by
  have P := fun w : World => freq_bad base s w hS h1
  have F := fun w : World => form_0 s s w hS hS h1
  have HP := Lib.hid P
  have HF := Lib.hid F
  clear P F
  clear hS h1 hb
  have vs := Vals.newL w (w.heap.size) [.int .i64 s.a, .int .i64 s.b, .int .i64 s.c, .int .i64 s.d] 23 rfl
  have bb := below_alloc w (.cells #[.int .i64 s.a, .int .i64 s.b, .int .i64 s.c, .int .i64 s.d] 23)
  have B := bb
  have bb0 := B
  clear bb
  go_enter Tryd.func19, Tryd.ntmps19
  go_wp2_with fail
  generalize (w.alloc (.cells #[.int .i64 s.a, .int .i64 s.b, .int .i64 s.c, .int .i64 s.d] 23)) = w0 at *
  replace ht := ht.mono bb0
  clear bb0
  refine (HP.out _).mono ?_
  rintro e w1 ⟨rfl, b1⟩
  replace vs := vs.mono b1
  replace ht := ht.mono b1
  replace B := below_trans B b1
  clear b1
  have cvs0 := vs.cell (i := 0) (by simp)
  have cvs1 := vs.cell (i := 1) (by simp)
  have cvs2 := vs.cell (i := 2) (by simp)
  have cvs3 := vs.cell (i := 3) (by simp)
  simp only [List.getD_cons_zero, List.getD_cons_succ] at cvs0 cvs1 cvs2 cvs3
  have ltvs := vs.lt
  go_wp2_with fail
  clear cvs0 cvs1 cvs2 cvs3 ltvs
  refine (HF.out _).mono ?_
  rintro e w2 ⟨rfl, b2⟩
  replace vs := vs.mono b2
  replace ht := ht.mono b2
  replace B := below_trans B b2
  clear b2
  go_wp2_with fail
  refine (lives_calls _ ht).mono ?_
  rintro e w3 ⟨rfl, b3⟩
  replace vs := vs.mono b3
  replace ht := ht.mono b3
  replace B := below_trans B b3
  clear b3
  go_wp2
  go_ret
  exact ⟨rfl, B⟩

set_option maxRecDepth 100000 in
set_option maxHeartbeats 1000000 in
theorem freqs_ok (base r : Nat) (s : T4) (w : World) (hS : i64 s.a ∧ i64 s.b ∧ i64 s.c ∧ i64 s.d) (ht : Tab w) (hb : base < 18446744073709551616) (h1 : validB s.a s.b s.c s.d = true) (hr : IsRoot (freqQ base s) s.d.toNat r) (hk : r < 9223372036854775808) :
    Calls Tryd.prog 19 #[.int .u64 (base : Int), .agg #[.int .i64 s.a, .int .i64 s.b, .int .i64 s.c, .int .i64 s.d]] w (RetTrue w) := by
  have P := fun w : World => freq_ok base r s w hb h1 hr hk
  have Q := fun w : World => rfreq_ok base r s w hb h1 hr hk
  have F := fun w : World => form_2 s s w hS hS h1 h1
  have HP := Lib.hid P
  have HF := Lib.hid F
  have HQ := Lib.hid Q
  clear P F Q
  clear hS h1 hb hr hk
  have vs := Vals.newL w (w.heap.size) [.int .i64 s.a, .int .i64 s.b, .int .i64 s.c, .int .i64 s.d] 23 rfl
  have bb := below_alloc w (.cells #[.int .i64 s.a, .int .i64 s.b, .int .i64 s.c, .int .i64 s.d] 23)
  have B := bb
  have bb0 := B
  clear bb
  go_enter Tryd.func19, Tryd.ntmps19
  go_wp2_with fail
  generalize (w.alloc (.cells #[.int .i64 s.a, .int .i64 s.b, .int .i64 s.c, .int .i64 s.d] 23)) = w0 at *
  replace ht := ht.mono bb0
  clear bb0
  refine (HP.out _).mono ?_
  rintro e w1 ⟨rfl, b1⟩
  replace vs := vs.mono b1
  replace ht := ht.mono b1
  replace B := below_trans B b1
  clear b1
  have cvs0 := vs.cell (i := 0) (by simp)
  have cvs1 := vs.cell (i := 1) (by simp)
  have cvs2 := vs.cell (i := 2) (by simp)
  have cvs3 := vs.cell (i := 3) (by simp)
  simp only [List.getD_cons_zero, List.getD_cons_succ] at cvs0 cvs1 cvs2 cvs3
  have ltvs := vs.lt
  go_wp2_with fail
  clear cvs0 cvs1 cvs2 cvs3 ltvs
  refine (HF.out _).mono ?_
  rintro e w2 ⟨rfl, b2⟩
  replace vs := vs.mono b2
  replace ht := ht.mono b2
  replace B := below_trans B b2
  clear b2
  have cvs0 := vs.cell (i := 0) (by simp)
  have cvs1 := vs.cell (i := 1) (by simp)
  have cvs2 := vs.cell (i := 2) (by simp)
  have cvs3 := vs.cell (i := 3) (by simp)
  simp only [List.getD_cons_zero, List.getD_cons_succ] at cvs0 cvs1 cvs2 cvs3
  have ltvs := vs.lt
  go_wp2_with fail
  clear cvs0 cvs1 cvs2 cvs3 ltvs
  refine (HQ.out _).mono ?_
  rintro e w3 ⟨rfl, b3⟩
  replace vs := vs.mono b3
  replace ht := ht.mono b3
  replace B := below_trans B b3
  clear b3
  go_wp2_with fail
  refine (lives_calls _ ht).mono ?_
  rintro e w4 ⟨rfl, b4⟩
  replace vs := vs.mono b4
  replace ht := ht.mono b4
  replace B := below_trans B b4
  clear b4
  go_wp2
  go_ret
  exact ⟨rfl, B⟩

set_option maxRecDepth 100000 in
set_option maxHeartbeats 1000000 in
theorem freqs_far (base r : Nat) (s : T4) (w : World) (hS : i64 s.a ∧ i64 s.b ∧ i64 s.c ∧ i64 s.d) (ht : Tab w) (hb : base < 18446744073709551616) (h1 : validB s.a s.b s.c s.d = true) (hr : IsRoot (freqQ base s) s.d.toNat r) (hk : 9223372036854775808 ≤ r) (hj : r < 18446744073709551616) :
    Calls Tryd.prog 19 #[.int .u64 (base : Int), .agg #[.int .i64 s.a, .int .i64 s.b, .int .i64 s.c, .int .i64 s.d]] w (RetTrue w) := by
  have P := fun w : World => freq_far base r s w hb h1 hr hk hj
  have Q := fun w : World => rfreq_far base r s w hb h1 hr hk hj
  have F := fun w : World => form_2 s s w hS hS h1 h1
  have HP := Lib.hid P
  have HF := Lib.hid F
  have HQ := Lib.hid Q
  clear P F Q
  clear hS h1 hb hr hk hj
  have vs := Vals.newL w (w.heap.size) [.int .i64 s.a, .int .i64 s.b, .int .i64 s.c, .int .i64 s.d] 23 rfl
  have bb := below_alloc w (.cells #[.int .i64 s.a, .int .i64 s.b, .int .i64 s.c, .int .i64 s.d] 23)
  have B := bb
  have bb0 := B
  clear bb
  go_enter Tryd.func19, Tryd.ntmps19
  go_wp2_with fail
  generalize (w.alloc (.cells #[.int .i64 s.a, .int .i64 s.b, .int .i64 s.c, .int .i64 s.d] 23)) = w0 at *
  replace ht := ht.mono bb0
  clear bb0
  refine (HP.out _).mono ?_
  rintro e w1 ⟨rfl, b1⟩
  replace vs := vs.mono b1
  replace ht := ht.mono b1
  replace B := below_trans B b1
  clear b1
  have cvs0 := vs.cell (i := 0) (by simp)
  have cvs1 := vs.cell (i := 1) (by simp)
  have cvs2 := vs.cell (i := 2) (by simp)
  have cvs3 := vs.cell (i := 3) (by simp)
  simp only [List.getD_cons_zero, List.getD_cons_succ] at cvs0 cvs1 cvs2 cvs3
  have ltvs := vs.lt
  go_wp2_with fail
  clear cvs0 cvs1 cvs2 cvs3 ltvs
  refine (HF.out _).mono ?_
  rintro e w2 ⟨rfl, b2⟩
  replace vs := vs.mono b2
  replace ht := ht.mono b2
  replace B := below_trans B b2
  clear b2
  have cvs0 := vs.cell (i := 0) (by simp)
  have cvs1 := vs.cell (i := 1) (by simp)
  have cvs2 := vs.cell (i := 2) (by simp)
  have cvs3 := vs.cell (i := 3) (by simp)
  simp only [List.getD_cons_zero, List.getD_cons_succ] at cvs0 cvs1 cvs2 cvs3
  have ltvs := vs.lt
  go_wp2_with fail
  clear cvs0 cvs1 cvs2 cvs3 ltvs
  refine (HQ.out _).mono ?_
  rintro e w3 ⟨rfl, b3⟩
  replace vs := vs.mono b3
  replace ht := ht.mono b3
  replace B := below_trans B b3
  clear b3
  go_wp2_with fail
  refine (lives_calls _ ht).mono ?_
  rintro e w4 ⟨rfl, b4⟩
  replace vs := vs.mono b4
  replace ht := ht.mono b4
  replace B := below_trans B b4
  clear b4
  go_wp2
  go_ret
  exact ⟨rfl, B⟩

set_option maxRecDepth 100000 in
set_option maxHeartbeats 1000000 in
theorem freqs_long (base r : Nat) (s : T4) (w : World) (hS : i64 s.a ∧ i64 s.b ∧ i64 s.c ∧ i64 s.d) (ht : Tab w) (hb : base < 18446744073709551616) (h1 : validB s.a s.b s.c s.d = true) (hr : IsRoot (freqQ base s) s.d.toNat r) (hk : 18446744073709551616 ≤ r) :
    Calls Tryd.prog 19 #[.int .u64 (base : Int), .agg #[.int .i64 s.a, .int .i64 s.b, .int .i64 s.c, .int .i64 s.d]] w (RetTrue w) := by
  have P := fun w : World => freq_long base r s w hb h1 hr hk
  have Q := fun w : World => rfreq_long base r s w hb h1 hr hk
  have F := fun w : World => form_2 s s w hS hS h1 h1
  have HP := Lib.hid P
  have HF := Lib.hid F
  have HQ := Lib.hid Q
  clear P F Q
  clear hS h1 hb hr hk
  have vs := Vals.newL w (w.heap.size) [.int .i64 s.a, .int .i64 s.b, .int .i64 s.c, .int .i64 s.d] 23 rfl
  have bb := below_alloc w (.cells #[.int .i64 s.a, .int .i64 s.b, .int .i64 s.c, .int .i64 s.d] 23)
  have B := bb
  have bb0 := B
  clear bb
  go_enter Tryd.func19, Tryd.ntmps19
  go_wp2_with fail
  generalize (w.alloc (.cells #[.int .i64 s.a, .int .i64 s.b, .int .i64 s.c, .int .i64 s.d] 23)) = w0 at *
  replace ht := ht.mono bb0
  clear bb0
  refine (HP.out _).mono ?_
  rintro e w1 ⟨rfl, b1⟩
  replace vs := vs.mono b1
  replace ht := ht.mono b1
  replace B := below_trans B b1
  clear b1
  have cvs0 := vs.cell (i := 0) (by simp)
  have cvs1 := vs.cell (i := 1) (by simp)
  have cvs2 := vs.cell (i := 2) (by simp)
  have cvs3 := vs.cell (i := 3) (by simp)
  simp only [List.getD_cons_zero, List.getD_cons_succ] at cvs0 cvs1 cvs2 cvs3
  have ltvs := vs.lt
  go_wp2_with fail
  clear cvs0 cvs1 cvs2 cvs3 ltvs
  refine (HF.out _).mono ?_
  rintro e w2 ⟨rfl, b2⟩
  replace vs := vs.mono b2
  replace ht := ht.mono b2
  replace B := below_trans B b2
  clear b2
  have cvs0 := vs.cell (i := 0) (by simp)
  have cvs1 := vs.cell (i := 1) (by simp)
  have cvs2 := vs.cell (i := 2) (by simp)
  have cvs3 := vs.cell (i := 3) (by simp)
  simp only [List.getD_cons_zero, List.getD_cons_succ] at cvs0 cvs1 cvs2 cvs3
  have ltvs := vs.lt
  go_wp2_with fail
  clear cvs0 cvs1 cvs2 cvs3 ltvs
  refine (HQ.out _).mono ?_
  rintro e w3 ⟨rfl, b3⟩
  replace vs := vs.mono b3
  replace ht := ht.mono b3
  replace B := below_trans B b3
  clear b3
  go_wp2_with fail
  refine (lives_calls _ ht).mono ?_
  rintro e w4 ⟨rfl, b4⟩
  replace vs := vs.mono b4
  replace ht := ht.mono b4
  replace B := below_trans B b4
  clear b4
  go_wp2
  go_ret
  exact ⟨rfl, B⟩

theorem walk_freqs (z : Int) (s : T4) (w : World) (hS : i64 s.a ∧ i64 s.b ∧ i64 s.c ∧ i64 s.d) (ht : Tab w) (hz : 0 ≤ z ∧ z < 18446744073709551616) :
    Calls Tryd.prog 19 #[.int .u64 z, .agg #[.int .i64 s.a, .int .i64 s.b, .int .i64 s.c, .int .i64 s.d]] w (RetTrue w) := by
  obtain ⟨base, rfl⟩ : ∃ n : Nat, z = n := ⟨z.toNat, by omega⟩
  have hb : base < 18446744073709551616 := by omega
  cases h1 : validB s.a s.b s.c s.d
  · exact freqs_bad base 0 s w hS ht hb h1
  obtain ⟨r, hr⟩ := freq_exists base s h1
  by_cases hk : r < 9223372036854775808
  · exact freqs_ok base r s w hS ht hb h1 hr hk
  by_cases hj : r < 18446744073709551616
  · exact freqs_far base r s w hS ht hb h1 hr (by omega) hj
  · exact freqs_long base r s w hS ht hb h1 hr (by omega)

end Go.Proofs
