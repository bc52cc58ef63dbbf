/- The reference's Cmp and Cents. -/
import Derived.Test.YtgdgdaofmjnepaaDoorTRef4
import Derived.Test.YtgdgdaofmjnepaaDoorTRef5
import Derived.Deep.RegionHeld3
open Go.RowKit Go.Deep
namespace Go.Proofs
set_option linter.unusedVariables false

set_option maxRecDepth 100000 in
theorem rcmpT_ok (s t : T4) (w : World) (hs : validB s.a s.b s.c s.d = true) (ht : validB t.a t.b t.c t.d = true) :
    Calls Tryd.prog 36 #[.agg #[.int .i64 s.a, .int .i64 s.b, .int .i64 s.c, .int .i64 s.d], .agg #[.int .i64 t.a, .int .i64 t.b, .int .i64 t.c, .int .i64 t.d]] w fun e w' => e = .returned (.int .i64 (cmpT s t)) ∧ Below w.heap.size w w' := by
  obtain ⟨p1, p2, p3, p4, p5, p6⟩ := validB_parts hs
  obtain ⟨q1, q2, q3, q4, q5, q6⟩ := validB_parts ht
  obtain ⟨g1, k1⟩ := dif_parts (a := s.a) (x := t.a) (d := s.d) (u := t.d) (by omega) (by omega) (by omega) (by omega)
  obtain ⟨g2, k2⟩ := dif_parts (a := s.b) (x := t.b) (d := s.d) (u := t.d) (by omega) (by omega) (by omega) (by omega)
  obtain ⟨g3, k3⟩ := dif_parts (a := s.c) (x := t.c) (d := s.d) (u := t.d) (by omega) (by omega) (by omega) (by omega)
  have R := fun w : World => rsides_calls (s.a * t.d - t.a * s.d) (s.b * t.d - t.b * s.d) (s.c * t.d - t.c * s.d) w (by omega) (by omega) (by omega)
  have l1 := over_len (a := s.a * t.d - t.a * s.d) (b := s.b * t.d - t.b * s.d) (c := s.c * t.d - t.c * s.d) (by omega) (by omega) (by omega)
  have l2 := under_len (a := s.a * t.d - t.a * s.d) (b := s.b * t.d - t.b * s.d) (c := s.c * t.d - t.c * s.d) (by omega) (by omega) (by omega)
  have e0 : cmpT s t = cmpInt (overN (s.a * t.d - t.a * s.d) (s.b * t.d - t.b * s.d) (s.c * t.d - t.c * s.d)) (underN (s.a * t.d - t.a * s.d) (s.b * t.d - t.b * s.d) (s.c * t.d - t.c * s.d)) := rfl
  rw [e0]
  have C := fun (v1 v2 : Value) (w : World) (h1 : Num w v1 _) (h2 : Num w v2 _) => rcmp_calls v1 v2 (overN (s.a * t.d - t.a * s.d) (s.b * t.d - t.b * s.d) (s.c * t.d - t.c * s.d)) (underN (s.a * t.d - t.a * s.d) (s.b * t.d - t.b * s.d) (s.c * t.d - t.c * s.d)) w _ h1 h2 rfl (by omega) (by omega)
  generalize overN (s.a * t.d - t.a * s.d) (s.b * t.d - t.b * s.d) (s.c * t.d - t.c * s.d) = O at *
  generalize underN (s.a * t.d - t.a * s.d) (s.b * t.d - t.b * s.d) (s.c * t.d - t.c * s.d) = U at *
  generalize cmpInt O U = r at *
  have HR := Lib.hid R
  have HC := Lib.hid C
  have K1 := Lib.hid k1
  have K2 := Lib.hid k2
  have K3 := Lib.hid k3
  clear R C hs ht p1 p2 p3 p4 p5 p6 q1 q2 q3 q4 q5 q6 g1 g2 g3 k1 k2 k3 l1 l2 e0
  have vs := Vals.newL w (w.heap.size) [.int .i64 s.a, .int .i64 s.b, .int .i64 s.c, .int .i64 s.d] 23 rfl
  have bb := below_alloc w (.cells #[.int .i64 s.a, .int .i64 s.b, .int .i64 s.c, .int .i64 s.d] 23)
  have B := bb
  have sz0 := World.size_alloc w (.cells #[.int .i64 s.a, .int .i64 s.b, .int .i64 s.c, .int .i64 s.d] 23)
  have sz := sz0
  clear sz0
  clear bb
  have vt := Vals.newL (w.alloc (.cells #[.int .i64 s.a, .int .i64 s.b, .int .i64 s.c, .int .i64 s.d] 23)) (w.heap.size + 1) [.int .i64 t.a, .int .i64 t.b, .int .i64 t.c, .int .i64 t.d] 23 sz.symm
  have bb := below_alloc (w.alloc (.cells #[.int .i64 s.a, .int .i64 s.b, .int .i64 s.c, .int .i64 s.d] 23)) (.cells #[.int .i64 t.a, .int .i64 t.b, .int .i64 t.c, .int .i64 t.d] 23)
  replace vs := vs.mono bb
  replace B := below_trans B bb
  clear sz
  clear bb
  go_enter Tryd.func36, Tryd.ntmps36
  go_wp2_with fail
  generalize ((w.alloc (.cells #[.int .i64 s.a, .int .i64 s.b, .int .i64 s.c, .int .i64 s.d] 23)).alloc (.cells #[.int .i64 t.a, .int .i64 t.b, .int .i64 t.c, .int .i64 t.d] 23)) = w0 at *
  have cvs0 := vs.cell (i := 0) (by simp)
  have cvs1 := vs.cell (i := 1) (by simp)
  have cvs2 := vs.cell (i := 2) (by simp)
  have cvs3 := vs.cell (i := 3) (by simp)
  simp only [List.getD_cons_zero, List.getD_cons_succ] at cvs0 cvs1 cvs2 cvs3
  have ltvs := vs.lt
  have cvt0 := vt.cell (i := 0) (by simp)
  have cvt1 := vt.cell (i := 1) (by simp)
  have cvt2 := vt.cell (i := 2) (by simp)
  have cvt3 := vt.cell (i := 3) (by simp)
  simp only [List.getD_cons_zero, List.getD_cons_succ] at cvt0 cvt1 cvt2 cvt3
  have ltvt := vt.lt
  try go_wp2_with fail
  clear cvs0 cvs1 cvs2 cvs3 ltvs cvt0 cvt1 cvt2 cvt3 ltvt
  rw [K1.out, K2.out, K3.out]
  refine (HR.out _).mono ?_
  rintro e w1 ⟨v1, v2, rfl, h5, h6, b1⟩
  replace vs := vs.mono b1
  replace vt := vt.mono b1
  replace B := below_trans B b1
  clear b1
  go_wp2_with fail
  refine (HC.out _ _ _ h5 h6).mono ?_
  rintro e w2 ⟨rfl, b2⟩
  replace vs := vs.mono b2
  replace vt := vt.mono b2
  replace h5 := h5.mono b2
  replace h6 := h6.mono b2
  replace B := below_trans B b2
  clear b2
  go_wp2
  go_ret
  exact ⟨rfl, B⟩

set_option maxRecDepth 100000 in
theorem rcents_ok (s : T4) (w : World) (hs : validB s.a s.b s.c s.d = true) :
    Calls Tryd.prog 28 #[.agg #[.int .i64 s.a, .int .i64 s.b, .int .i64 s.c, .int .i64 s.d]] w fun e w' => e = .returned (.int .i64 (centsT s)) ∧ Below w.heap.size w w' := by
  obtain ⟨p1, p2, p3, p4, p5, p6⟩ := validB_parts hs
  have hu1 : (1200 * s.a).natAbs ≤ 1200000 := by omega
  have hu2 : (1200 * s.b).natAbs ≤ 1200000 := by omega
  have hu3 : (1200 * s.c).natAbs ≤ 1200000 := by omega
  have R := fun w : World => rsides_calls (1200 * s.a) (1200 * s.b) (1200 * s.c) w hu1 hu2 hu3
  have l1 := over_len hu1 hu2 hu3
  have l2 := under_len hu1 hu2 hu3
  have n1 := over_ne (1200 * s.a) (1200 * s.b) (1200 * s.c)
  have n2 := under_ne (1200 * s.a) (1200 * s.b) (1200 * s.c)
  have e0 : centsT s = flr (overN (1200 * s.a) (1200 * s.b) (1200 * s.c)) (underN (1200 * s.a) (1200 * s.b) (1200 * s.c)) / s.d := rfl
  rw [e0]
  have C := fun (v1 v2 : Value) (w : World) (h1 : Num w v1 _) (h2 : Num w v2 _) => rbinary_calls v1 v2 (overN (1200 * s.a) (1200 * s.b) (1200 * s.c)) (underN (1200 * s.a) (1200 * s.b) (1200 * s.c)) s.d w h1 h2 n1 n2 (by omega) (by omega) (by omega)
  generalize overN (1200 * s.a) (1200 * s.b) (1200 * s.c) = O at *
  generalize underN (1200 * s.a) (1200 * s.b) (1200 * s.c) = U at *
  generalize flr O U / s.d = r at *
  have HR := Lib.hid R
  have HC := Lib.hid C
  have a1 : -960 ≤ s.a := by omega
  have a2 : s.a ≤ 960 := by omega
  have a3 : -960 ≤ s.b := by omega
  have a4 : s.b ≤ 960 := by omega
  have a5 : -960 ≤ s.c := by omega
  have a6 : s.c ≤ 960 := by omega
  have k1 : IntKind.i64.wrap (1200 * s.a) = 1200 * s.a := IntWalk.i64_in _ (by omega)
  have k2 : IntKind.i64.wrap (1200 * s.b) = 1200 * s.b := IntWalk.i64_in _ (by omega)
  have k3 : IntKind.i64.wrap (1200 * s.c) = 1200 * s.c := IntWalk.i64_in _ (by omega)
  clear R C hs p1 p2 p3 p4 p5 p6 hu1 hu2 hu3 l1 l2 n1 n2 e0
  have vs := Vals.newL w (w.heap.size) [.int .i64 s.a, .int .i64 s.b, .int .i64 s.c, .int .i64 s.d] 23 rfl
  have bb := below_alloc w (.cells #[.int .i64 s.a, .int .i64 s.b, .int .i64 s.c, .int .i64 s.d] 23)
  have B := bb
  clear bb
  go_enter Tryd.func28, Tryd.ntmps28
  go_wp2_with fail
  generalize (w.alloc (.cells #[.int .i64 s.a, .int .i64 s.b, .int .i64 s.c, .int .i64 s.d] 23)) = w0 at *
  have cvs0 := vs.cell (i := 0) (by simp)
  have cvs1 := vs.cell (i := 1) (by simp)
  have cvs2 := vs.cell (i := 2) (by simp)
  have cvs3 := vs.cell (i := 3) (by simp)
  simp only [List.getD_cons_zero, List.getD_cons_succ] at cvs0 cvs1 cvs2 cvs3
  have ltvs := vs.lt
  try go_wp2_with fail
  clear cvs0 cvs1 cvs2 cvs3 ltvs
  refine (HR.out _).mono ?_
  rintro e w1 ⟨v1, v2, rfl, h5, h6, b1⟩
  replace vs := vs.mono b1
  replace B := below_trans B b1
  clear b1
  have cvs0 := vs.cell (i := 0) (by simp)
  have cvs1 := vs.cell (i := 1) (by simp)
  have cvs2 := vs.cell (i := 2) (by simp)
  have cvs3 := vs.cell (i := 3) (by simp)
  simp only [List.getD_cons_zero, List.getD_cons_succ] at cvs0 cvs1 cvs2 cvs3
  have ltvs := vs.lt
  try go_wp2_with fail
  clear cvs0 cvs1 cvs2 cvs3 ltvs
  refine (HC.out _ _ _ h5 h6).mono ?_
  rintro e w2 ⟨rfl, b2⟩
  replace vs := vs.mono b2
  replace h5 := h5.mono b2
  replace h6 := h6.mono b2
  replace B := below_trans B b2
  clear b2
  go_wp2
  go_ret
  exact ⟨rfl, B⟩

end Go.Proofs
