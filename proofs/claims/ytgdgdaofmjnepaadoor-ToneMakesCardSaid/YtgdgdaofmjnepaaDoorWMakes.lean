/- The walk of ToneMakes: whatever comes in, it returns true and changes nothing that was there. -/
import Derived.Test.YtgdgdaofmjnepaaDoorTRef
import Derived.Test.YtgdgdaofmjnepaaDoorTone8
import Derived.Test.YtgdgdaofmjnepaaDoorToneB
import Derived.Test.YtgdgdaofmjnepaaDoorTRef9
import Derived.Deep.RegionHeld3
open Go.RowKit Go.Deep
namespace Go.Proofs
set_option linter.unusedVariables false

theorem vals444 {w : World} {a b c : Nat} {v0 v1 v2 v3 u0 u1 u2 u3 t0 t1 t2 t3 : Value} (h : Vals w a [v0, v1, v2, v3]) (k : Vals w b [u0, u1, u2, u3]) (l : Vals w c [t0, t1, t2, t3]) :
    w.cell? ⟨a, 0, none⟩ = some v0 ∧ w.cell? ⟨a, 1, none⟩ = some v1 ∧ w.cell? ⟨a, 2, none⟩ = some v2 ∧ w.cell? ⟨a, 3, none⟩ = some v3 ∧ w.cell? ⟨b, 0, none⟩ = some u0 ∧ w.cell? ⟨b, 1, none⟩ = some u1 ∧ w.cell? ⟨b, 2, none⟩ = some u2 ∧ w.cell? ⟨b, 3, none⟩ = some u3 ∧
    w.cell? ⟨c, 0, none⟩ = some t0 ∧ w.cell? ⟨c, 1, none⟩ = some t1 ∧ w.cell? ⟨c, 2, none⟩ = some t2 ∧ w.cell? ⟨c, 3, none⟩ = some t3 := by
  obtain ⟨h0, h1, h2, h3⟩ := vals4 h
  obtain ⟨k0, k1, k2, k3⟩ := vals4 k
  obtain ⟨l0, l1, l2, l3⟩ := vals4 l
  exact ⟨h0, h1, h2, h3, k0, k1, k2, k3, l0, l1, l2, l3⟩

set_option maxRecDepth 100000 in
set_option maxHeartbeats 1000000 in
theorem makes_low (s : T4) (w : World) (hS : i64 s.a ∧ i64 s.b ∧ i64 s.c ∧ i64 s.d) (ht : Tab w) (h1 : s.d < 1) :
    Calls Tryd.prog 11 #[.agg #[.int .i64 s.a, .int .i64 s.b, .int .i64 s.c, .int .i64 s.d]] w (RetTrue w) := by
  have h2 : validB s.a s.b s.c s.d = false := by
    unfold validB
    rw [decide_eq_false (show ¬ 1 ≤ s.d by omega)]
    simp
  have P := fun w : World => make_bad s.a s.b s.c s.d w h1
  have Q := fun w : World => rmake_bad s.a s.b s.c s.d w h1
  have C := fun w : World => check_false s w hS.1 hS.2.1 hS.2.2.1 hS.2.2.2 h2
  have F := fun w : World => form_0 s s w hS hS h2
  have HP := Lib.hid P
  have HQ := Lib.hid Q
  have HC := Lib.hid C
  have HF := Lib.hid F
  clear P Q C F
  clear hS h1 h2
  have vs := Vals.newL w (w.heap.size) [.int .i64 s.a, .int .i64 s.b, .int .i64 s.c, .int .i64 s.d] 23 rfl
  have bb := below_alloc w (.cells #[.int .i64 s.a, .int .i64 s.b, .int .i64 s.c, .int .i64 s.d] 23)
  have B := bb
  have bb0 := B
  clear bb
  go_enter Tryd.func11, Tryd.ntmps11
  go_wp2_with fail
  generalize (w.alloc (.cells #[.int .i64 s.a, .int .i64 s.b, .int .i64 s.c, .int .i64 s.d] 23)) = w0 at *
  replace ht := ht.mono bb0
  clear bb0
  refine (HP.out _).mono ?_
  rintro e w1 ⟨rfl, b1⟩
  replace vs := vs.mono b1
  replace ht := ht.mono b1
  replace B := below_trans B b1
  clear b1
  have cvs0 := vs.cell (i := 0) (by simp)
  have cvs1 := vs.cell (i := 1) (by simp)
  have cvs2 := vs.cell (i := 2) (by simp)
  have cvs3 := vs.cell (i := 3) (by simp)
  simp only [List.getD_cons_zero, List.getD_cons_succ] at cvs0 cvs1 cvs2 cvs3
  have ltvs := vs.lt
  go_wp2_with fail
  clear cvs0 cvs1 cvs2 cvs3 ltvs
  have v1 := Vals.newL w1 w1.heap.size [.int .i64 0, .int .i64 0, .int .i64 0, .int .i64 0] 23 rfl
  have bb := below_alloc w1 (.cells #[.int .i64 0, .int .i64 0, .int .i64 0, .int .i64 0] 23)
  replace vs := vs.mono bb
  replace ht := ht.mono bb
  replace B := below_trans B bb
  clear bb
  generalize w1.alloc (.cells #[.int .i64 0, .int .i64 0, .int .i64 0, .int .i64 0] 23) = w2 at *
  refine (HQ.out _).mono ?_
  rintro e w3 ⟨rfl, b3⟩
  replace vs := vs.mono b3
  replace ht := ht.mono b3
  replace v1 := v1.mono b3
  replace B := below_trans B b3
  clear b3
  go_upto_region 3 with (fail)
  have v2 := Vals.newL w3 w3.heap.size [.int .i64 0, .int .i64 0, .int .i64 0, .int .i64 0] 23 rfl
  have bb := below_alloc w3 (.cells #[.int .i64 0, .int .i64 0, .int .i64 0, .int .i64 0] 23)
  replace vs := vs.mono bb
  replace ht := ht.mono bb
  replace v1 := v1.mono bb
  replace B := below_trans B bb
  clear bb
  generalize w3.alloc (.cells #[.int .i64 0, .int .i64 0, .int .i64 0, .int .i64 0] 23) = w4 at *
  go_region_held3 (fun w' => w'.cell? ⟨w.heap.size, 0, none⟩ = some (.int .i64 s.a) ∧ w'.cell? ⟨w.heap.size, 1, none⟩ = some (.int .i64 s.b) ∧ w'.cell? ⟨w.heap.size, 2, none⟩ = some (.int .i64 s.c) ∧ w'.cell? ⟨w.heap.size, 3, none⟩ = some (.int .i64 s.d) ∧ w'.cell? ⟨w1.heap.size, 0, none⟩ = some (.int .i64 0) ∧ w'.cell? ⟨w1.heap.size, 1, none⟩ = some (.int .i64 0) ∧ w'.cell? ⟨w1.heap.size, 2, none⟩ = some (.int .i64 0) ∧ w'.cell? ⟨w1.heap.size, 3, none⟩ = some (.int .i64 0) ∧ w'.cell? ⟨w3.heap.size, 0, none⟩ = some (.int .i64 0) ∧ w'.cell? ⟨w3.heap.size, 1, none⟩ = some (.int .i64 0) ∧ w'.cell? ⟨w3.heap.size, 2, none⟩ = some (.int .i64 0) ∧ w'.cell? ⟨w3.heap.size, 3, none⟩ = some (.int .i64 0))
    (first | exact vals444 vs v1 v2 | exact vals444 vs.drew v1.drew v2.drew)
    (first | (go_at_call 41; (with_reducible refine (HC.out _).mono ?_); rintro e x5 ⟨rfl, b5⟩; replace vs := vs.drew.mono b5; replace v1 := v1.drew.mono b5; replace v2 := v2.drew.mono b5; replace ht := ht.drew.mono b5; replace B := below_trans B.drew b5; clear b5)
           | (go_at_call 23; (with_reducible refine (HF.out _).mono ?_); rintro e x6 ⟨rfl, b5⟩; replace vs := vs.mono b5; replace v1 := v1.mono b5; replace v2 := v2.mono b5; replace ht := ht.mono b5; replace B := below_trans B b5; clear b5)
           | (go_at_call 24; (with_reducible refine (lives_calls _ ht).mono ?_); rintro e x7 ⟨rfl, b5⟩; replace vs := vs.mono b5; replace v1 := v1.mono b5; replace v2 := v2.mono b5; replace ht := ht.mono b5; replace B := below_trans B b5; clear b5))
  go_wp2
  go_ret
  exact ⟨rfl, B⟩

set_option maxRecDepth 100000 in
set_option maxHeartbeats 1000000 in
theorem makes_bad (s : T4) (w : World) (hS : i64 s.a ∧ i64 s.b ∧ i64 s.c ∧ i64 s.d) (ht : Tab w) (h1 : 1 ≤ s.d) (h2 : validB s.a s.b s.c s.d = false) :
    Calls Tryd.prog 11 #[.agg #[.int .i64 s.a, .int .i64 s.b, .int .i64 s.c, .int .i64 s.d]] w (RetTrue w) := by
  have P := fun w : World => make_ok s.a s.b s.c s.d w hS.1 hS.2.1 hS.2.2.1 hS.2.2.2 h1
  have Q := fun w : World => rmake_ok s.a s.b s.c s.d w hS.1 hS.2.1 hS.2.2.1 hS.2.2.2 h1
  have C := fun w : World => check_false s w hS.1 hS.2.1 hS.2.2.1 hS.2.2.2 h2
  have F := fun w : World => form_0 s s w hS hS h2
  generalize redT s.a s.b s.c s.d = r at *
  obtain ⟨⟨p1, p2, p3, p4⟩, kp⟩ := r
  try dsimp only at *
  have he : ∀ w : World, (binOp .eql 23 (.agg #[.int .i64 p1, .int .i64 p2, .int .i64 p3, .int .i64 p4]) (.agg #[.int .i64 p1, .int .i64 p2, .int .i64 p3, .int .i64 p4])).run Tryd.prog w = .ok (.bool true) w := fun w => by
    rw [run_eql_tone ⟨p1, p2, p3, p4⟩ ⟨p1, p2, p3, p4⟩]
    have : eqB ⟨p1, p2, p3, p4⟩ ⟨p1, p2, p3, p4⟩ = true := (eqB_iff _ _).2 rfl
    rw [this]
  have HP := Lib.hid P
  have HQ := Lib.hid Q
  have HC := Lib.hid C
  have HF := Lib.hid F
  clear P Q C F
  clear hS h1 h2
  have vs := Vals.newL w (w.heap.size) [.int .i64 s.a, .int .i64 s.b, .int .i64 s.c, .int .i64 s.d] 23 rfl
  have bb := below_alloc w (.cells #[.int .i64 s.a, .int .i64 s.b, .int .i64 s.c, .int .i64 s.d] 23)
  have B := bb
  have bb0 := B
  clear bb
  go_enter Tryd.func11, Tryd.ntmps11
  go_wp2_with fail
  generalize (w.alloc (.cells #[.int .i64 s.a, .int .i64 s.b, .int .i64 s.c, .int .i64 s.d] 23)) = w0 at *
  replace ht := ht.mono bb0
  clear bb0
  refine (HP.out _).mono ?_
  rintro e w1 ⟨rfl, b1⟩
  replace vs := vs.mono b1
  replace ht := ht.mono b1
  replace B := below_trans B b1
  clear b1
  have cvs0 := vs.cell (i := 0) (by simp)
  have cvs1 := vs.cell (i := 1) (by simp)
  have cvs2 := vs.cell (i := 2) (by simp)
  have cvs3 := vs.cell (i := 3) (by simp)
  simp only [List.getD_cons_zero, List.getD_cons_succ] at cvs0 cvs1 cvs2 cvs3
  have ltvs := vs.lt
  go_wp2_with fail
  clear cvs0 cvs1 cvs2 cvs3 ltvs
  have v1 := Vals.newL w1 w1.heap.size [.int .i64 p1, .int .i64 p2, .int .i64 p3, .int .i64 p4] 23 rfl
  have bb := below_alloc w1 (.cells #[.int .i64 p1, .int .i64 p2, .int .i64 p3, .int .i64 p4] 23)
  replace vs := vs.mono bb
  replace ht := ht.mono bb
  replace B := below_trans B bb
  clear bb
  generalize w1.alloc (.cells #[.int .i64 p1, .int .i64 p2, .int .i64 p3, .int .i64 p4] 23) = w2 at *
  refine (HQ.out _).mono ?_
  rintro e w3 ⟨rfl, b3⟩
  replace vs := vs.mono b3
  replace ht := ht.mono b3
  replace v1 := v1.mono b3
  replace B := below_trans B b3
  clear b3
  go_upto_region 3 with (fail)
  have v2 := Vals.newL w3 w3.heap.size [.int .i64 p1, .int .i64 p2, .int .i64 p3, .int .i64 p4] 23 rfl
  have bb := below_alloc w3 (.cells #[.int .i64 p1, .int .i64 p2, .int .i64 p3, .int .i64 p4] 23)
  replace vs := vs.mono bb
  replace ht := ht.mono bb
  replace v1 := v1.mono bb
  replace B := below_trans B bb
  clear bb
  generalize w3.alloc (.cells #[.int .i64 p1, .int .i64 p2, .int .i64 p3, .int .i64 p4] 23) = w4 at *
  go_region_held3 (fun w' => w'.cell? ⟨w.heap.size, 0, none⟩ = some (.int .i64 s.a) ∧ w'.cell? ⟨w.heap.size, 1, none⟩ = some (.int .i64 s.b) ∧ w'.cell? ⟨w.heap.size, 2, none⟩ = some (.int .i64 s.c) ∧ w'.cell? ⟨w.heap.size, 3, none⟩ = some (.int .i64 s.d) ∧ w'.cell? ⟨w1.heap.size, 0, none⟩ = some (.int .i64 p1) ∧ w'.cell? ⟨w1.heap.size, 1, none⟩ = some (.int .i64 p2) ∧ w'.cell? ⟨w1.heap.size, 2, none⟩ = some (.int .i64 p3) ∧ w'.cell? ⟨w1.heap.size, 3, none⟩ = some (.int .i64 p4) ∧ w'.cell? ⟨w3.heap.size, 0, none⟩ = some (.int .i64 p1) ∧ w'.cell? ⟨w3.heap.size, 1, none⟩ = some (.int .i64 p2) ∧ w'.cell? ⟨w3.heap.size, 2, none⟩ = some (.int .i64 p3) ∧ w'.cell? ⟨w3.heap.size, 3, none⟩ = some (.int .i64 p4))
    (first | exact vals444 vs v1 v2 | exact vals444 vs.drew v1.drew v2.drew)
    (first | (go_at_call 41; (with_reducible refine (HC.out _).mono ?_); rintro e x5 ⟨rfl, b5⟩; replace vs := vs.drew.mono b5; replace v1 := v1.drew.mono b5; replace v2 := v2.drew.mono b5; replace ht := ht.drew.mono b5; replace B := below_trans B.drew b5; clear b5)
           | (go_at_call 23; (with_reducible refine (HF.out _).mono ?_); rintro e x6 ⟨rfl, b5⟩; replace vs := vs.mono b5; replace v1 := v1.mono b5; replace v2 := v2.mono b5; replace ht := ht.mono b5; replace B := below_trans B b5; clear b5)
           | (go_at_call 24; (with_reducible refine (lives_calls _ ht).mono ?_); rintro e x7 ⟨rfl, b5⟩; replace vs := vs.mono b5; replace v1 := v1.mono b5; replace v2 := v2.mono b5; replace ht := ht.mono b5; replace B := below_trans B b5; clear b5))
  go_wp2
  go_ret
  exact ⟨rfl, B⟩

set_option maxRecDepth 100000 in
set_option maxHeartbeats 1000000 in
theorem makes_ok (s : T4) (w : World) (hS : i64 s.a ∧ i64 s.b ∧ i64 s.c ∧ i64 s.d) (ht : Tab w) (h1 : 1 ≤ s.d) (h2 : validB s.a s.b s.c s.d = true) :
    Calls Tryd.prog 11 #[.agg #[.int .i64 s.a, .int .i64 s.b, .int .i64 s.c, .int .i64 s.d]] w (RetTrue w) := by
  have P := fun w : World => make_ok s.a s.b s.c s.d w hS.1 hS.2.1 hS.2.2.1 hS.2.2.2 h1
  have Q := fun w : World => rmake_ok s.a s.b s.c s.d w hS.1 hS.2.1 hS.2.2.1 hS.2.2.2 h1
  have C := fun w : World => check_true s w hS.1 hS.2.1 hS.2.2.1 hS.2.2.2 h2
  have F := fun w : World => form_2 s s w hS hS h2 h2
  generalize redT s.a s.b s.c s.d = r at *
  obtain ⟨⟨p1, p2, p3, p4⟩, kp⟩ := r
  try dsimp only at *
  have he : ∀ w : World, (binOp .eql 23 (.agg #[.int .i64 p1, .int .i64 p2, .int .i64 p3, .int .i64 p4]) (.agg #[.int .i64 p1, .int .i64 p2, .int .i64 p3, .int .i64 p4])).run Tryd.prog w = .ok (.bool true) w := fun w => by
    rw [run_eql_tone ⟨p1, p2, p3, p4⟩ ⟨p1, p2, p3, p4⟩]
    have : eqB ⟨p1, p2, p3, p4⟩ ⟨p1, p2, p3, p4⟩ = true := (eqB_iff _ _).2 rfl
    rw [this]
  have HP := Lib.hid P
  have HQ := Lib.hid Q
  have HC := Lib.hid C
  have HF := Lib.hid F
  clear P Q C F
  clear hS h1 h2
  have vs := Vals.newL w (w.heap.size) [.int .i64 s.a, .int .i64 s.b, .int .i64 s.c, .int .i64 s.d] 23 rfl
  have bb := below_alloc w (.cells #[.int .i64 s.a, .int .i64 s.b, .int .i64 s.c, .int .i64 s.d] 23)
  have B := bb
  have bb0 := B
  clear bb
  go_enter Tryd.func11, Tryd.ntmps11
  go_wp2_with fail
  generalize (w.alloc (.cells #[.int .i64 s.a, .int .i64 s.b, .int .i64 s.c, .int .i64 s.d] 23)) = w0 at *
  replace ht := ht.mono bb0
  clear bb0
  refine (HP.out _).mono ?_
  rintro e w1 ⟨rfl, b1⟩
  replace vs := vs.mono b1
  replace ht := ht.mono b1
  replace B := below_trans B b1
  clear b1
  have cvs0 := vs.cell (i := 0) (by simp)
  have cvs1 := vs.cell (i := 1) (by simp)
  have cvs2 := vs.cell (i := 2) (by simp)
  have cvs3 := vs.cell (i := 3) (by simp)
  simp only [List.getD_cons_zero, List.getD_cons_succ] at cvs0 cvs1 cvs2 cvs3
  have ltvs := vs.lt
  go_wp2_with fail
  clear cvs0 cvs1 cvs2 cvs3 ltvs
  have v1 := Vals.newL w1 w1.heap.size [.int .i64 p1, .int .i64 p2, .int .i64 p3, .int .i64 p4] 23 rfl
  have bb := below_alloc w1 (.cells #[.int .i64 p1, .int .i64 p2, .int .i64 p3, .int .i64 p4] 23)
  replace vs := vs.mono bb
  replace ht := ht.mono bb
  replace B := below_trans B bb
  clear bb
  generalize w1.alloc (.cells #[.int .i64 p1, .int .i64 p2, .int .i64 p3, .int .i64 p4] 23) = w2 at *
  refine (HQ.out _).mono ?_
  rintro e w3 ⟨rfl, b3⟩
  replace vs := vs.mono b3
  replace ht := ht.mono b3
  replace v1 := v1.mono b3
  replace B := below_trans B b3
  clear b3
  go_upto_region 3 with (fail)
  have v2 := Vals.newL w3 w3.heap.size [.int .i64 p1, .int .i64 p2, .int .i64 p3, .int .i64 p4] 23 rfl
  have bb := below_alloc w3 (.cells #[.int .i64 p1, .int .i64 p2, .int .i64 p3, .int .i64 p4] 23)
  replace vs := vs.mono bb
  replace ht := ht.mono bb
  replace v1 := v1.mono bb
  replace B := below_trans B bb
  clear bb
  generalize w3.alloc (.cells #[.int .i64 p1, .int .i64 p2, .int .i64 p3, .int .i64 p4] 23) = w4 at *
  go_region_held3 (fun w' => w'.cell? ⟨w.heap.size, 0, none⟩ = some (.int .i64 s.a) ∧ w'.cell? ⟨w.heap.size, 1, none⟩ = some (.int .i64 s.b) ∧ w'.cell? ⟨w.heap.size, 2, none⟩ = some (.int .i64 s.c) ∧ w'.cell? ⟨w.heap.size, 3, none⟩ = some (.int .i64 s.d) ∧ w'.cell? ⟨w1.heap.size, 0, none⟩ = some (.int .i64 p1) ∧ w'.cell? ⟨w1.heap.size, 1, none⟩ = some (.int .i64 p2) ∧ w'.cell? ⟨w1.heap.size, 2, none⟩ = some (.int .i64 p3) ∧ w'.cell? ⟨w1.heap.size, 3, none⟩ = some (.int .i64 p4) ∧ w'.cell? ⟨w3.heap.size, 0, none⟩ = some (.int .i64 p1) ∧ w'.cell? ⟨w3.heap.size, 1, none⟩ = some (.int .i64 p2) ∧ w'.cell? ⟨w3.heap.size, 2, none⟩ = some (.int .i64 p3) ∧ w'.cell? ⟨w3.heap.size, 3, none⟩ = some (.int .i64 p4))
    (first | exact vals444 vs v1 v2 | exact vals444 vs.drew v1.drew v2.drew)
    (first | (go_at_call 41; (with_reducible refine (HC.out _).mono ?_); rintro e x5 ⟨rfl, b5⟩; replace vs := vs.drew.mono b5; replace v1 := v1.drew.mono b5; replace v2 := v2.drew.mono b5; replace ht := ht.drew.mono b5; replace B := below_trans B.drew b5; clear b5)
           | (go_at_call 23; (with_reducible refine (HF.out _).mono ?_); rintro e x6 ⟨rfl, b5⟩; replace vs := vs.mono b5; replace v1 := v1.mono b5; replace v2 := v2.mono b5; replace ht := ht.mono b5; replace B := below_trans B b5; clear b5)
           | (go_at_call 24; (with_reducible refine (lives_calls _ ht).mono ?_); rintro e x7 ⟨rfl, b5⟩; replace vs := vs.mono b5; replace v1 := v1.mono b5; replace v2 := v2.mono b5; replace ht := ht.mono b5; replace B := below_trans B b5; clear b5))
  go_wp2
  go_ret
  exact ⟨rfl, B⟩

set_option maxRecDepth 100000 in
set_option maxHeartbeats 1000000 in
theorem walk_makes (s : T4) (w : World) (hS : i64 s.a ∧ i64 s.b ∧ i64 s.c ∧ i64 s.d) (ht : Tab w)  :
    Calls Tryd.prog 11 #[.agg #[.int .i64 s.a, .int .i64 s.b, .int .i64 s.c, .int .i64 s.d]] w (RetTrue w) := by
  by_cases h1 : 1 ≤ s.d
  · cases h2 : validB s.a s.b s.c s.d
    · exact makes_bad s w hS ht h1 h2
    · exact makes_ok s w hS ht h1 h2
  · exact makes_low s w hS ht (by omega)

end Go.Proofs
