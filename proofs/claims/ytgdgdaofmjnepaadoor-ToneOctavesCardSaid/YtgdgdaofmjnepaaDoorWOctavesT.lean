/- The walk of ToneOctaves: whatever comes in, it returns true and changes nothing that was there. (First the contract of the reference Octave.) -/
import Derived.Test.YtgdgdaofmjnepaaDoorTRef
import Derived.Test.YtgdgdaofmjnepaaDoorTone8
import Derived.Test.YtgdgdaofmjnepaaDoorToneB
import Derived.Test.YtgdgdaofmjnepaaDoorTRef9
import Derived.Test.YtgdgdaofmjnepaaDoorTRef4
import Derived.Test.YtgdgdaofmjnepaaDoorTRef5
import Derived.Test.YtgdgdaofmjnepaaDoorTone9
import Derived.Deep.RegionHeld3
open Go.RowKit Go.Deep
namespace Go.Proofs
set_option linter.unusedVariables false

set_option maxRecDepth 100000 in
set_option maxHeartbeats 1000000 in
theorem roctave_ok (s : T4) (w : World) (hs : validB s.a s.b s.c s.d = true) (hk : (foldT s).2 = 0) :
    Calls Tryd.prog 38 #[.agg #[.int .i64 s.a, .int .i64 s.b, .int .i64 s.c, .int .i64 s.d]] w (RetO w (octT s) (foldT s).1 0) := by
  obtain ⟨p1, p2, p3, p4, p5, p6⟩ := validB_parts hs
  have R := fun w : World => rsides_calls s.a s.b s.c w (by omega) (by omega) (by omega)
  have l1 := over_len (a := s.a) (b := s.b) (c := s.c) (by omega) (by omega) (by omega)
  have l2 := under_len (a := s.a) (b := s.b) (c := s.c) (by omega) (by omega) (by omega)
  have n1 := over_ne s.a s.b s.c
  have n2 := under_ne s.a s.b s.c
  have C := fun (v1 v2 : Value) (w : World) (h1 : Num w v1 _) (h2 : Num w v2 _) => rbinary_calls v1 v2 (overN s.a s.b s.c) (underN s.a s.b s.c) s.d w h1 h2 n1 n2 (by omega) (by omega) (by omega)
  change ∀ (v1 v2 : Value) (w : World) (h1 : Num w v1 _) (h2 : Num w v2 _), Calls _ _ _ w fun e w' => e = .returned (.int .i64 (octT s)) ∧ _ at C
  obtain ⟨o1, o2⟩ := octT_abs (s := s) (m := 960) hs p4 p5 p6
  have e1 : wrap64 (s.a - wrap64 (octT s * s.d)) = s.a - octT s * s.d := by
    rw [wrap64_small (x := octT s * s.d) (by omega)]
    exact wrap64_small (by omega)
  have RD := fun w : World => rmake_ok (s.a - octT s * s.d) s.b s.c s.d w (by unfold i64; omega) (validB_i64 hs).2.1 (validB_i64 hs).2.2.1 (validB_i64 hs).2.2.2 p2
  change ∀ w : World, Calls _ _ _ w (RetT w (foldT s)) at RD
  have E1 := Lib.hid e1
  generalize overN s.a s.b s.c = O at *
  generalize underN s.a s.b s.c = U at *
  generalize octT s = k at *
  generalize foldT s = r at *
  obtain ⟨⟨x, y, z, u⟩, m⟩ := r
  try dsimp only at *
  subst hk
  have HR := Lib.hid R
  have HC := Lib.hid C
  have HRD := Lib.hid RD
  clear R C RD p1 p4 p5 p6 p2 p3 o1 o2 hs e1 l1 l2 n1 n2
  have vs := Vals.newL w (w.heap.size) [.int .i64 s.a, .int .i64 s.b, .int .i64 s.c, .int .i64 s.d] 23 rfl
  have bb := below_alloc w (.cells #[.int .i64 s.a, .int .i64 s.b, .int .i64 s.c, .int .i64 s.d] 23)
  have B := bb
  have sz0 := World.size_alloc w (.cells #[.int .i64 s.a, .int .i64 s.b, .int .i64 s.c, .int .i64 s.d] 23)
  have sz := sz0
  clear sz0
  clear bb
  have vr := Vals.newL (w.alloc (.cells #[.int .i64 s.a, .int .i64 s.b, .int .i64 s.c, .int .i64 s.d] 23)) (w.heap.size + 1) [.int .i64 0, .int .i64 0, .int .i64 0, .int .i64 0] 23 sz.symm
  have bb := below_alloc (w.alloc (.cells #[.int .i64 s.a, .int .i64 s.b, .int .i64 s.c, .int .i64 s.d] 23)) (.cells #[.int .i64 0, .int .i64 0, .int .i64 0, .int .i64 0] 23)
  replace vs := vs.mono bb
  replace B := below_trans B bb
  clear sz
  clear bb
  go_enter Tryd.func38, Tryd.ntmps38
  go_wp2_with fail
  generalize ((w.alloc (.cells #[.int .i64 s.a, .int .i64 s.b, .int .i64 s.c, .int .i64 s.d] 23)).alloc (.cells #[.int .i64 0, .int .i64 0, .int .i64 0, .int .i64 0] 23)) = w0 at *
  have cvs0 := vs.cell (i := 0) (by simp)
  have cvs1 := vs.cell (i := 1) (by simp)
  have cvs2 := vs.cell (i := 2) (by simp)
  have cvs3 := vs.cell (i := 3) (by simp)
  simp only [List.getD_cons_zero, List.getD_cons_succ] at cvs0 cvs1 cvs2 cvs3
  have ltvs := vs.lt
  try go_wp2_with fail
  clear cvs0 cvs1 cvs2 cvs3 ltvs
  refine (HR.out _).mono ?_
  rintro e w1 ⟨v1, v2, rfl, h5, h6, b1⟩
  replace vs := vs.mono b1
  replace vr := vr.mono b1
  replace B := below_trans B b1
  clear b1
  have cvs0 := vs.cell (i := 0) (by simp)
  have cvs1 := vs.cell (i := 1) (by simp)
  have cvs2 := vs.cell (i := 2) (by simp)
  have cvs3 := vs.cell (i := 3) (by simp)
  simp only [List.getD_cons_zero, List.getD_cons_succ] at cvs0 cvs1 cvs2 cvs3
  have ltvs := vs.lt
  go_wp2_with fail
  clear cvs0 cvs1 cvs2 cvs3 ltvs
  refine (HC.out _ _ _ h5 h6).mono ?_
  rintro e w2 ⟨rfl, b2⟩
  replace vs := vs.mono b2
  replace vr := vr.mono b2
  replace h5 := h5.mono b2
  replace h6 := h6.mono b2
  replace B := below_trans B b2
  clear b2
  clear h5 h6
  have cvs0 := vs.cell (i := 0) (by simp)
  have cvs1 := vs.cell (i := 1) (by simp)
  have cvs2 := vs.cell (i := 2) (by simp)
  have cvs3 := vs.cell (i := 3) (by simp)
  simp only [List.getD_cons_zero, List.getD_cons_succ] at cvs0 cvs1 cvs2 cvs3
  have ltvs := vs.lt
  go_wp2_with fail
  clear cvs0 cvs1 cvs2 cvs3 ltvs
  rw [E1.out]
  refine (HRD.out _).mono ?_
  rintro e w3 ⟨rfl, b3⟩
  replace vs := vs.mono b3
  replace vr := vr.mono b3
  replace B := below_trans B b3
  clear b3
  have cvr0 := vr.cell (i := 0) (by simp)
  have cvr1 := vr.cell (i := 1) (by simp)
  have cvr2 := vr.cell (i := 2) (by simp)
  have cvr3 := vr.cell (i := 3) (by simp)
  simp only [List.getD_cons_zero, List.getD_cons_succ] at cvr0 cvr1 cvr2 cvr3
  have ltvr := vr.lt
  have fvr0 := vr.frozen 0
  have fvr1 := vr.frozen 1
  have fvr2 := vr.frozen 2
  have fvr3 := vr.frozen 3
  go_upto_region 6 with (fail)
  clear cvr0 cvr1 cvr2 cvr3 ltvr fvr0 fvr1 fvr2 fvr3
  have vx := Vals.newL w3 w3.heap.size [.int .i64 x, .int .i64 y, .int .i64 z, .int .i64 u] 23 rfl
  have bb := below_alloc w3 (.cells #[.int .i64 x, .int .i64 y, .int .i64 z, .int .i64 u] 23)
  replace vs := vs.mono bb
  replace vr := vr.mono bb
  replace B := below_trans B bb
  clear bb
  generalize w3.alloc (.cells #[.int .i64 x, .int .i64 y, .int .i64 z, .int .i64 u] 23) = w4 at *
  have cvr0 := vr.cell (i := 0) (by simp)
  have cvr1 := vr.cell (i := 1) (by simp)
  have cvr2 := vr.cell (i := 2) (by simp)
  have cvr3 := vr.cell (i := 3) (by simp)
  simp only [List.getD_cons_zero, List.getD_cons_succ] at cvr0 cvr1 cvr2 cvr3
  have ltvr := vr.lt
  have fvr0 := vr.frozen 0
  have fvr1 := vr.frozen 1
  have fvr2 := vr.frozen 2
  have fvr3 := vr.frozen 3
  have cvx0 := vx.cell (i := 0) (by simp)
  have cvx1 := vx.cell (i := 1) (by simp)
  have cvx2 := vx.cell (i := 2) (by simp)
  have cvx3 := vx.cell (i := 3) (by simp)
  simp only [List.getD_cons_zero, List.getD_cons_succ] at cvx0 cvx1 cvx2 cvx3
  have ltvx := vx.lt
  go_region
  go_wp2
  obtain ⟨te, hg⟩ := (vr.set4 (.int .i64 x) (.int .i64 y) (.int .i64 z) (.int .i64 u)).drew
  refine bodyPost_ret_by (results_tmp_cell_tmp rfl _ _ (w.heap.size + 1) te _ (0, 0) _ rfl hg Tryd.underlying23 rfl (by kernel_rfl) (.int .i64 k) (.int .i64 0) rfl rfl) rfl ?_
  exact ⟨rfl, (below_set4 B (by omega) _ _ _ _).drew⟩

set_option maxRecDepth 100000 in
set_option maxHeartbeats 1000000 in
theorem roctave_far (s : T4) (w : World) (hs : validB s.a s.b s.c s.d = true) (hk : (foldT s).2 ≠ 0) :
    Calls Tryd.prog 38 #[.agg #[.int .i64 s.a, .int .i64 s.b, .int .i64 s.c, .int .i64 s.d]] w (RetO w 0 ⟨0, 0, 0, 0⟩ 5) := by
  obtain ⟨p1, p2, p3, p4, p5, p6⟩ := validB_parts hs
  have R := fun w : World => rsides_calls s.a s.b s.c w (by omega) (by omega) (by omega)
  have l1 := over_len (a := s.a) (b := s.b) (c := s.c) (by omega) (by omega) (by omega)
  have l2 := under_len (a := s.a) (b := s.b) (c := s.c) (by omega) (by omega) (by omega)
  have n1 := over_ne s.a s.b s.c
  have n2 := under_ne s.a s.b s.c
  have C := fun (v1 v2 : Value) (w : World) (h1 : Num w v1 _) (h2 : Num w v2 _) => rbinary_calls v1 v2 (overN s.a s.b s.c) (underN s.a s.b s.c) s.d w h1 h2 n1 n2 (by omega) (by omega) (by omega)
  change ∀ (v1 v2 : Value) (w : World) (h1 : Num w v1 _) (h2 : Num w v2 _), Calls _ _ _ w fun e w' => e = .returned (.int .i64 (octT s)) ∧ _ at C
  obtain ⟨o1, o2⟩ := octT_abs (s := s) (m := 960) hs p4 p5 p6
  have e1 : wrap64 (s.a - wrap64 (octT s * s.d)) = s.a - octT s * s.d := by
    rw [wrap64_small (x := octT s * s.d) (by omega)]
    exact wrap64_small (by omega)
  have RD := fun w : World => rmake_ok (s.a - octT s * s.d) s.b s.c s.d w (by unfold i64; omega) (validB_i64 hs).2.1 (validB_i64 hs).2.2.1 (validB_i64 hs).2.2.2 p2
  change ∀ w : World, Calls _ _ _ w (RetT w (foldT s)) at RD
  have kz := redT_err (a := s.a - octT s * s.d) (b := s.b) (c := s.c) (d := s.d) hk
  change foldT s = _ at kz
  rw [kz] at RD
  have E1 := Lib.hid e1
  generalize overN s.a s.b s.c = O at *
  generalize underN s.a s.b s.c = U at *
  generalize octT s = k at *
  generalize foldT s = r at *
  obtain ⟨⟨x, y, z, u⟩, m⟩ := r
  try dsimp only at *
  have HR := Lib.hid R
  have HC := Lib.hid C
  have HRD := Lib.hid RD
  clear R C RD p1 p4 p5 p6 p2 p3 o1 o2 hs e1 l1 l2 n1 n2
  clear hk kz
  have vs := Vals.newL w (w.heap.size) [.int .i64 s.a, .int .i64 s.b, .int .i64 s.c, .int .i64 s.d] 23 rfl
  have bb := below_alloc w (.cells #[.int .i64 s.a, .int .i64 s.b, .int .i64 s.c, .int .i64 s.d] 23)
  have B := bb
  have sz0 := World.size_alloc w (.cells #[.int .i64 s.a, .int .i64 s.b, .int .i64 s.c, .int .i64 s.d] 23)
  have sz := sz0
  clear sz0
  clear bb
  have vr := Vals.newL (w.alloc (.cells #[.int .i64 s.a, .int .i64 s.b, .int .i64 s.c, .int .i64 s.d] 23)) (w.heap.size + 1) [.int .i64 0, .int .i64 0, .int .i64 0, .int .i64 0] 23 sz.symm
  have bb := below_alloc (w.alloc (.cells #[.int .i64 s.a, .int .i64 s.b, .int .i64 s.c, .int .i64 s.d] 23)) (.cells #[.int .i64 0, .int .i64 0, .int .i64 0, .int .i64 0] 23)
  replace vs := vs.mono bb
  replace B := below_trans B bb
  clear sz
  clear bb
  go_enter Tryd.func38, Tryd.ntmps38
  go_wp2_with fail
  generalize ((w.alloc (.cells #[.int .i64 s.a, .int .i64 s.b, .int .i64 s.c, .int .i64 s.d] 23)).alloc (.cells #[.int .i64 0, .int .i64 0, .int .i64 0, .int .i64 0] 23)) = w0 at *
  have cvs0 := vs.cell (i := 0) (by simp)
  have cvs1 := vs.cell (i := 1) (by simp)
  have cvs2 := vs.cell (i := 2) (by simp)
  have cvs3 := vs.cell (i := 3) (by simp)
  simp only [List.getD_cons_zero, List.getD_cons_succ] at cvs0 cvs1 cvs2 cvs3
  have ltvs := vs.lt
  try go_wp2_with fail
  clear cvs0 cvs1 cvs2 cvs3 ltvs
  refine (HR.out _).mono ?_
  rintro e w1 ⟨v1, v2, rfl, h5, h6, b1⟩
  replace vs := vs.mono b1
  replace vr := vr.mono b1
  replace B := below_trans B b1
  clear b1
  have cvs0 := vs.cell (i := 0) (by simp)
  have cvs1 := vs.cell (i := 1) (by simp)
  have cvs2 := vs.cell (i := 2) (by simp)
  have cvs3 := vs.cell (i := 3) (by simp)
  simp only [List.getD_cons_zero, List.getD_cons_succ] at cvs0 cvs1 cvs2 cvs3
  have ltvs := vs.lt
  go_wp2_with fail
  clear cvs0 cvs1 cvs2 cvs3 ltvs
  refine (HC.out _ _ _ h5 h6).mono ?_
  rintro e w2 ⟨rfl, b2⟩
  replace vs := vs.mono b2
  replace vr := vr.mono b2
  replace h5 := h5.mono b2
  replace h6 := h6.mono b2
  replace B := below_trans B b2
  clear b2
  clear h5 h6
  have cvs0 := vs.cell (i := 0) (by simp)
  have cvs1 := vs.cell (i := 1) (by simp)
  have cvs2 := vs.cell (i := 2) (by simp)
  have cvs3 := vs.cell (i := 3) (by simp)
  simp only [List.getD_cons_zero, List.getD_cons_succ] at cvs0 cvs1 cvs2 cvs3
  have ltvs := vs.lt
  go_wp2_with fail
  clear cvs0 cvs1 cvs2 cvs3 ltvs
  rw [E1.out]
  refine (HRD.out _).mono ?_
  rintro e w3 ⟨rfl, b3⟩
  replace vs := vs.mono b3
  replace vr := vr.mono b3
  replace B := below_trans B b3
  clear b3
  have cvr0 := vr.cell (i := 0) (by simp)
  have cvr1 := vr.cell (i := 1) (by simp)
  have cvr2 := vr.cell (i := 2) (by simp)
  have cvr3 := vr.cell (i := 3) (by simp)
  simp only [List.getD_cons_zero, List.getD_cons_succ] at cvr0 cvr1 cvr2 cvr3
  have ltvr := vr.lt
  have fvr0 := vr.frozen 0
  have fvr1 := vr.frozen 1
  have fvr2 := vr.frozen 2
  have fvr3 := vr.frozen 3
  go_wp2
  clear cvr0 cvr1 cvr2 cvr3 ltvr fvr0 fvr1 fvr2 fvr3
  obtain ⟨te, hg⟩ := (vr.set4 (.int .i64 0) (.int .i64 0) (.int .i64 0) (.int .i64 0)).alloc (.cells #[.int .i64 0, .int .i64 0, .int .i64 0, .int .i64 0] 23)
  refine bodyPost_ret_by (results_tmp_cell_tmp rfl _ _ (w.heap.size + 1) te _ (0, 0) _ rfl hg Tryd.underlying23 rfl (by kernel_rfl) (.int .i64 0) (.int .i64 5) rfl rfl) rfl ?_
  exact ⟨rfl, below_trans (below_set4 B (by omega) _ _ _ _) (below_alloc _ _)⟩

set_option maxRecDepth 100000 in
set_option maxHeartbeats 1000000 in
theorem toctaves_bad (s : T4) (w : World) (hS : i64 s.a ∧ i64 s.b ∧ i64 s.c ∧ i64 s.d) (ht : Tab w) (h1 : validB s.a s.b s.c s.d = false) :
    Calls Tryd.prog 10 #[.agg #[.int .i64 s.a, .int .i64 s.b, .int .i64 s.c, .int .i64 s.d]] w (RetTrue w) := by
  have F := fun w : World => form_0 s s w hS hS h1
  have P := fun w : World => octave_bad s w hS h1
  have HF := Lib.hid F
  have HP := Lib.hid P
  clear F P
  clear hS h1
  have vs := Vals.newL w (w.heap.size) [.int .i64 s.a, .int .i64 s.b, .int .i64 s.c, .int .i64 s.d] 23 rfl
  have bb := below_alloc w (.cells #[.int .i64 s.a, .int .i64 s.b, .int .i64 s.c, .int .i64 s.d] 23)
  have B := bb
  have bb0 := B
  clear bb
  go_enter Tryd.func10, Tryd.ntmps10
  go_wp2_with fail
  generalize (w.alloc (.cells #[.int .i64 s.a, .int .i64 s.b, .int .i64 s.c, .int .i64 s.d] 23)) = w0 at *
  replace ht := ht.mono bb0
  clear bb0
  refine (HP.out _).mono ?_
  rintro e w1 ⟨rfl, b1⟩
  replace vs := vs.mono b1
  replace ht := ht.mono b1
  replace B := below_trans B b1
  clear b1
  have cvs0 := vs.cell (i := 0) (by simp)
  have cvs1 := vs.cell (i := 1) (by simp)
  have cvs2 := vs.cell (i := 2) (by simp)
  have cvs3 := vs.cell (i := 3) (by simp)
  simp only [List.getD_cons_zero, List.getD_cons_succ] at cvs0 cvs1 cvs2 cvs3
  have ltvs := vs.lt
  try go_wp2_with fail
  clear cvs0 cvs1 cvs2 cvs3 ltvs
  have v1 := Vals.newL w1 w1.heap.size [.int .i64 0, .int .i64 0, .int .i64 0, .int .i64 0] 23 rfl
  have bb := below_alloc w1 (.cells #[.int .i64 0, .int .i64 0, .int .i64 0, .int .i64 0] 23)
  replace vs := vs.mono bb
  replace ht := ht.mono bb
  replace B := below_trans B bb
  clear bb
  generalize w1.alloc (.cells #[.int .i64 0, .int .i64 0, .int .i64 0, .int .i64 0] 23) = w2 at *
  refine (HF.out _).mono ?_
  rintro e w3 ⟨rfl, b3⟩
  replace vs := vs.mono b3
  replace ht := ht.mono b3
  replace v1 := v1.mono b3
  replace B := below_trans B b3
  clear b3
  have cv10 := v1.cell (i := 0) (by simp)
  have cv11 := v1.cell (i := 1) (by simp)
  have cv12 := v1.cell (i := 2) (by simp)
  have cv13 := v1.cell (i := 3) (by simp)
  simp only [List.getD_cons_zero, List.getD_cons_succ] at cv10 cv11 cv12 cv13
  have ltv1 := v1.lt
  go_wp2_with fail
  clear cv10 cv11 cv12 cv13 ltv1
  refine (lives_calls _ ht).mono ?_
  rintro e w4 ⟨rfl, b4⟩
  replace vs := vs.mono b4
  replace ht := ht.mono b4
  replace v1 := v1.mono b4
  replace B := below_trans B b4
  clear b4
  go_wp2
  go_ret
  exact ⟨rfl, B⟩

set_option maxRecDepth 100000 in
set_option maxHeartbeats 1000000 in
theorem toctaves_far (s : T4) (w : World) (hS : i64 s.a ∧ i64 s.b ∧ i64 s.c ∧ i64 s.d) (ht : Tab w) (h1 : validB s.a s.b s.c s.d = true) (h2 : (foldT s).2 ≠ 0) :
    Calls Tryd.prog 10 #[.agg #[.int .i64 s.a, .int .i64 s.b, .int .i64 s.c, .int .i64 s.d]] w (RetTrue w) := by
  have F := fun w : World => form_2 s s w hS hS h1 h1
  have P := fun w : World => octave_far s w h1 h2
  have Q := fun w : World => roctave_far s w h1 h2
  have HF := Lib.hid F
  have HP := Lib.hid P
  have HQ := Lib.hid Q
  clear F P Q
  clear hS h1 h2
  have vs := Vals.newL w (w.heap.size) [.int .i64 s.a, .int .i64 s.b, .int .i64 s.c, .int .i64 s.d] 23 rfl
  have bb := below_alloc w (.cells #[.int .i64 s.a, .int .i64 s.b, .int .i64 s.c, .int .i64 s.d] 23)
  have B := bb
  have bb0 := B
  clear bb
  go_enter Tryd.func10, Tryd.ntmps10
  go_wp2_with fail
  generalize (w.alloc (.cells #[.int .i64 s.a, .int .i64 s.b, .int .i64 s.c, .int .i64 s.d] 23)) = w0 at *
  replace ht := ht.mono bb0
  clear bb0
  refine (HP.out _).mono ?_
  rintro e w1 ⟨rfl, b1⟩
  replace vs := vs.mono b1
  replace ht := ht.mono b1
  replace B := below_trans B b1
  clear b1
  have cvs0 := vs.cell (i := 0) (by simp)
  have cvs1 := vs.cell (i := 1) (by simp)
  have cvs2 := vs.cell (i := 2) (by simp)
  have cvs3 := vs.cell (i := 3) (by simp)
  simp only [List.getD_cons_zero, List.getD_cons_succ] at cvs0 cvs1 cvs2 cvs3
  have ltvs := vs.lt
  try go_wp2_with fail
  clear cvs0 cvs1 cvs2 cvs3 ltvs
  have v1 := Vals.newL w1 w1.heap.size [.int .i64 0, .int .i64 0, .int .i64 0, .int .i64 0] 23 rfl
  have bb := below_alloc w1 (.cells #[.int .i64 0, .int .i64 0, .int .i64 0, .int .i64 0] 23)
  replace vs := vs.mono bb
  replace ht := ht.mono bb
  replace B := below_trans B bb
  clear bb
  generalize w1.alloc (.cells #[.int .i64 0, .int .i64 0, .int .i64 0, .int .i64 0] 23) = w2 at *
  refine (HF.out _).mono ?_
  rintro e w3 ⟨rfl, b3⟩
  replace vs := vs.mono b3
  replace ht := ht.mono b3
  replace v1 := v1.mono b3
  replace B := below_trans B b3
  clear b3
  have cvs0 := vs.cell (i := 0) (by simp)
  have cvs1 := vs.cell (i := 1) (by simp)
  have cvs2 := vs.cell (i := 2) (by simp)
  have cvs3 := vs.cell (i := 3) (by simp)
  simp only [List.getD_cons_zero, List.getD_cons_succ] at cvs0 cvs1 cvs2 cvs3
  have ltvs := vs.lt
  try go_wp2_with fail
  clear cvs0 cvs1 cvs2 cvs3 ltvs
  refine (HQ.out _).mono ?_
  rintro e w4 ⟨rfl, b4⟩
  replace vs := vs.mono b4
  replace ht := ht.mono b4
  replace v1 := v1.mono b4
  replace B := below_trans B b4
  clear b4
  go_upto_region 5 with (fail)
  have v2 := Vals.newL w4 w4.heap.size [.int .i64 0, .int .i64 0, .int .i64 0, .int .i64 0] 23 rfl
  have bb := below_alloc w4 (.cells #[.int .i64 0, .int .i64 0, .int .i64 0, .int .i64 0] 23)
  replace vs := vs.mono bb
  replace ht := ht.mono bb
  replace v1 := v1.mono bb
  replace B := below_trans B bb
  clear bb
  generalize w4.alloc (.cells #[.int .i64 0, .int .i64 0, .int .i64 0, .int .i64 0] 23) = w5 at *
  have cv10 := v1.cell (i := 0) (by simp)
  have cv11 := v1.cell (i := 1) (by simp)
  have cv12 := v1.cell (i := 2) (by simp)
  have cv13 := v1.cell (i := 3) (by simp)
  simp only [List.getD_cons_zero, List.getD_cons_succ] at cv10 cv11 cv12 cv13
  have ltv1 := v1.lt
  have cv20 := v2.cell (i := 0) (by simp)
  have cv21 := v2.cell (i := 1) (by simp)
  have cv22 := v2.cell (i := 2) (by simp)
  have cv23 := v2.cell (i := 3) (by simp)
  simp only [List.getD_cons_zero, List.getD_cons_succ] at cv20 cv21 cv22 cv23
  have ltv2 := v2.lt
  go_wp2_with fail
  clear cv10 cv11 cv12 cv13 ltv1 cv20 cv21 cv22 cv23 ltv2
  refine (lives_calls _ ht).mono ?_
  rintro e w6 ⟨rfl, b6⟩
  replace vs := vs.mono b6
  replace ht := ht.mono b6
  replace v1 := v1.mono b6
  replace v2 := v2.mono b6
  replace B := below_trans B b6
  clear b6
  go_wp2
  go_ret
  exact ⟨rfl, B⟩

set_option maxRecDepth 100000 in
set_option maxHeartbeats 1000000 in
theorem toctaves_ok (s : T4) (w : World) (hS : i64 s.a ∧ i64 s.b ∧ i64 s.c ∧ i64 s.d) (ht : Tab w) (h1 : validB s.a s.b s.c s.d = true) (h2 : (foldT s).2 = 0) :
    Calls Tryd.prog 10 #[.agg #[.int .i64 s.a, .int .i64 s.b, .int .i64 s.c, .int .i64 s.d]] w (RetTrue w) := by
  have F := fun w : World => form_2 s s w hS hS h1 h1
  have P := fun w : World => octave_ok s w h1 h2
  have Q := fun w : World => roctave_ok s w h1 h2
  generalize octT s = k at *
  generalize foldT s = r at *
  obtain ⟨⟨p1, p2, p3, p4⟩, kp⟩ := r
  try dsimp only at *
  have he : ∀ w : World, (binOp .eql 23 (.agg #[.int .i64 p1, .int .i64 p2, .int .i64 p3, .int .i64 p4]) (.agg #[.int .i64 p1, .int .i64 p2, .int .i64 p3, .int .i64 p4])).run Tryd.prog w = .ok (.bool true) w := fun w => by
    rw [run_eql_tone ⟨p1, p2, p3, p4⟩ ⟨p1, p2, p3, p4⟩]
    have : eqB ⟨p1, p2, p3, p4⟩ ⟨p1, p2, p3, p4⟩ = true := (eqB_iff _ _).2 rfl
    rw [this]
  have HF := Lib.hid F
  have HP := Lib.hid P
  have HQ := Lib.hid Q
  clear F P Q
  clear hS h1 h2
  have vs := Vals.newL w (w.heap.size) [.int .i64 s.a, .int .i64 s.b, .int .i64 s.c, .int .i64 s.d] 23 rfl
  have bb := below_alloc w (.cells #[.int .i64 s.a, .int .i64 s.b, .int .i64 s.c, .int .i64 s.d] 23)
  have B := bb
  have bb0 := B
  clear bb
  go_enter Tryd.func10, Tryd.ntmps10
  go_wp2_with fail
  generalize (w.alloc (.cells #[.int .i64 s.a, .int .i64 s.b, .int .i64 s.c, .int .i64 s.d] 23)) = w0 at *
  replace ht := ht.mono bb0
  clear bb0
  refine (HP.out _).mono ?_
  rintro e w1 ⟨rfl, b1⟩
  replace vs := vs.mono b1
  replace ht := ht.mono b1
  replace B := below_trans B b1
  clear b1
  have cvs0 := vs.cell (i := 0) (by simp)
  have cvs1 := vs.cell (i := 1) (by simp)
  have cvs2 := vs.cell (i := 2) (by simp)
  have cvs3 := vs.cell (i := 3) (by simp)
  simp only [List.getD_cons_zero, List.getD_cons_succ] at cvs0 cvs1 cvs2 cvs3
  have ltvs := vs.lt
  try go_wp2_with fail
  clear cvs0 cvs1 cvs2 cvs3 ltvs
  have v1 := Vals.newL w1 w1.heap.size [.int .i64 p1, .int .i64 p2, .int .i64 p3, .int .i64 p4] 23 rfl
  have bb := below_alloc w1 (.cells #[.int .i64 p1, .int .i64 p2, .int .i64 p3, .int .i64 p4] 23)
  replace vs := vs.mono bb
  replace ht := ht.mono bb
  replace B := below_trans B bb
  clear bb
  generalize w1.alloc (.cells #[.int .i64 p1, .int .i64 p2, .int .i64 p3, .int .i64 p4] 23) = w2 at *
  refine (HF.out _).mono ?_
  rintro e w3 ⟨rfl, b3⟩
  replace vs := vs.mono b3
  replace ht := ht.mono b3
  replace v1 := v1.mono b3
  replace B := below_trans B b3
  clear b3
  have cvs0 := vs.cell (i := 0) (by simp)
  have cvs1 := vs.cell (i := 1) (by simp)
  have cvs2 := vs.cell (i := 2) (by simp)
  have cvs3 := vs.cell (i := 3) (by simp)
  simp only [List.getD_cons_zero, List.getD_cons_succ] at cvs0 cvs1 cvs2 cvs3
  have ltvs := vs.lt
  try go_wp2_with fail
  clear cvs0 cvs1 cvs2 cvs3 ltvs
  refine (HQ.out _).mono ?_
  rintro e w4 ⟨rfl, b4⟩
  replace vs := vs.mono b4
  replace ht := ht.mono b4
  replace v1 := v1.mono b4
  replace B := below_trans B b4
  clear b4
  go_upto_region 5 with (fail)
  have v2 := Vals.newL w4 w4.heap.size [.int .i64 p1, .int .i64 p2, .int .i64 p3, .int .i64 p4] 23 rfl
  have bb := below_alloc w4 (.cells #[.int .i64 p1, .int .i64 p2, .int .i64 p3, .int .i64 p4] 23)
  replace vs := vs.mono bb
  replace ht := ht.mono bb
  replace v1 := v1.mono bb
  replace B := below_trans B bb
  clear bb
  generalize w4.alloc (.cells #[.int .i64 p1, .int .i64 p2, .int .i64 p3, .int .i64 p4] 23) = w5 at *
  have cv10 := v1.cell (i := 0) (by simp)
  have cv11 := v1.cell (i := 1) (by simp)
  have cv12 := v1.cell (i := 2) (by simp)
  have cv13 := v1.cell (i := 3) (by simp)
  simp only [List.getD_cons_zero, List.getD_cons_succ] at cv10 cv11 cv12 cv13
  have ltv1 := v1.lt
  have cv20 := v2.cell (i := 0) (by simp)
  have cv21 := v2.cell (i := 1) (by simp)
  have cv22 := v2.cell (i := 2) (by simp)
  have cv23 := v2.cell (i := 3) (by simp)
  simp only [List.getD_cons_zero, List.getD_cons_succ] at cv20 cv21 cv22 cv23
  have ltv2 := v2.lt
  go_wp2_with fail
  clear cv10 cv11 cv12 cv13 ltv1 cv20 cv21 cv22 cv23 ltv2
  refine (lives_calls _ ht).mono ?_
  rintro e w6 ⟨rfl, b6⟩
  replace vs := vs.mono b6
  replace ht := ht.mono b6
  replace v1 := v1.mono b6
  replace v2 := v2.mono b6
  replace B := below_trans B b6
  clear b6
  go_wp2
  go_ret
  exact ⟨rfl, B⟩

set_option maxRecDepth 100000 in
set_option maxHeartbeats 1000000 in
theorem walk_toctaves (s : T4) (w : World) (hS : i64 s.a ∧ i64 s.b ∧ i64 s.c ∧ i64 s.d) (ht : Tab w)  :
    Calls Tryd.prog 10 #[.agg #[.int .i64 s.a, .int .i64 s.b, .int .i64 s.c, .int .i64 s.d]] w (RetTrue w) := by
  cases h1 : validB s.a s.b s.c s.d
  · exact toctaves_bad s w hS ht h1
  by_cases h2 : (foldT s).2 = 0
  · exact toctaves_ok s w hS ht h1 h2
  · exact toctaves_far s w hS ht h1 h2

end Go.Proofs
