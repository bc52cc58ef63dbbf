/- tone: Octave. -/
import Derived.Test.YthkeekoljediiaaToneB
import Derived.Test.YthkeekoljediiaaToneA
import Derived.Deep.RegionHeld3
open Go.RowKit Go.Deep
namespace Go.Proofs
set_option linter.unusedVariables false
set_option linter.unusedSimpArgs false

/-- a number, a struct and a number are returned -/
theorem results_tmp_cell_tmp {P : Program} {fn : Func} {p q r : Tmp} {ty : TypeId} (h : fn.results = #[.tmp r, .cell p ty, .tmp q]) (tmps : Array Value) (w : World) (g : Nat) (t : TypeId) (cs : Array Value) (fr : Nat × Nat) (d : TypeDesc)
    (hp : tmps.getD p undef = .pointer (some ⟨g, 0, none⟩)) (hg : w.heap[g]? = some (.cells cs t fr))
    (hu : P.underlying ty = some d) (hd : (match d with | .struct _ | .array _ _ => true | _ => false) = true) (hi : (P.info? ty).map (·.size) = some cs.size) (u v : Value) (hr : tmps.getD r undef = u) (hv : tmps.getD q undef = v) :
    (results fn tmps).run P w = .ok (.tuple #[u, .agg cs, v]) w := by
  have hp' : tmps[p]?.getD undef = .pointer (some ⟨g, 0, none⟩) := by simpa using hp
  have hv' : tmps[q]?.getD undef = v := by simpa using hv
  have hr' : tmps[r]?.getD undef = u := by simpa using hr
  simp [results, h, hp', hv', hr', asAddr, run_loadVar_row w g t ty cs fr d hg hu hd hi]

/-- the octaves, what is left, an error -/
def RetO (w : World) (k : Int) (x : T4) (er : Int) (e : Ending) (w' : World) : Prop :=
  e = .returned (.tuple #[.int .i64 k, .agg #[.int .i64 x.a, .int .i64 x.b, .int .i64 x.c, .int .i64 x.d], .int .i64 er]) ∧ Below w.heap.size w w'

set_option maxRecDepth 100000 in
theorem octave_bad (s : T4) (w : World) (hA : i64 s.a ∧ i64 s.b ∧ i64 s.c ∧ i64 s.d) (hs : validB s.a s.b s.c s.d = false) :
    Calls Try.prog 12 #[.agg #[.int .i64 s.a, .int .i64 s.b, .int .i64 s.c, .int .i64 s.d]] w (RetO w 0 ⟨0, 0, 0, 0⟩ 2) := by
  have VA := fun w : World => tvalid_calls s.a s.b s.c s.d w hA.1 hA.2.1 hA.2.2.1 hA.2.2.2
  rw [hs] at VA
  have HA := Lib.hid VA
  clear VA hs hA
  have vs := Vals.newL w (w.heap.size) [.int .i64 s.a, .int .i64 s.b, .int .i64 s.c, .int .i64 s.d] 37 rfl
  have bb := below_alloc w (.cells #[.int .i64 s.a, .int .i64 s.b, .int .i64 s.c, .int .i64 s.d] 37)
  have B := bb
  have sz0 := World.size_alloc w (.cells #[.int .i64 s.a, .int .i64 s.b, .int .i64 s.c, .int .i64 s.d] 37)
  have sz := sz0
  clear sz0
  clear bb
  have vr := Vals.newL (w.alloc (.cells #[.int .i64 s.a, .int .i64 s.b, .int .i64 s.c, .int .i64 s.d] 37)) (w.heap.size + 1) [.int .i64 0, .int .i64 0, .int .i64 0, .int .i64 0] 37 sz.symm
  have bb := below_alloc (w.alloc (.cells #[.int .i64 s.a, .int .i64 s.b, .int .i64 s.c, .int .i64 s.d] 37)) (.cells #[.int .i64 0, .int .i64 0, .int .i64 0, .int .i64 0] 37)
  replace vs := vs.mono bb
  replace B := below_trans B bb
  clear sz
  clear bb
  go_enter Try.func12, Try.ntmps12
  go_wp2_with fail
  generalize ((w.alloc (.cells #[.int .i64 s.a, .int .i64 s.b, .int .i64 s.c, .int .i64 s.d] 37)).alloc (.cells #[.int .i64 0, .int .i64 0, .int .i64 0, .int .i64 0] 37)) = w0 at *
  refine (HA.out _).mono ?_
  rintro e w1 ⟨rfl, b1⟩
  replace vs := vs.mono b1
  replace vr := vr.mono b1
  replace B := below_trans B b1
  clear b1
  have cvr0 := vr.cell (i := 0) (by simp)
  have cvr1 := vr.cell (i := 1) (by simp)
  have cvr2 := vr.cell (i := 2) (by simp)
  have cvr3 := vr.cell (i := 3) (by simp)
  simp only [List.getD_cons_zero, List.getD_cons_succ] at cvr0 cvr1 cvr2 cvr3
  have ltvr := vr.lt
  have fvr0 := vr.frozen 0
  have fvr1 := vr.frozen 1
  have fvr2 := vr.frozen 2
  have fvr3 := vr.frozen 3
  go_wp2
  clear cvr0 cvr1 cvr2 cvr3 ltvr fvr0 fvr1 fvr2 fvr3
  replace vr := vr.set4 (.int .i64 0) (.int .i64 0) (.int .i64 0) (.int .i64 0)
  replace B := below_set4 (b := w.heap.size + 1) B (by omega) (.int .i64 0) (.int .i64 0) (.int .i64 0) (.int .i64 0)
  obtain ⟨te, hg⟩ := vr
  refine bodyPost_ret_by (results_tmp_cell_tmp rfl _ _ (w.heap.size + 1) te _ (0, 0) _ rfl hg Try.underlying37 rfl (by kernel_rfl) (.int .i64 0) (.int .i64 2) rfl rfl) rfl ?_
  exact ⟨rfl, B⟩

set_option maxRecDepth 100000 in
set_option maxHeartbeats 1000000 in
theorem octave_ok (s : T4) (w : World) (hs : validB s.a s.b s.c s.d = true) (hk : (foldT s).2 = 0) :
    Calls Try.prog 12 #[.agg #[.int .i64 s.a, .int .i64 s.b, .int .i64 s.c, .int .i64 s.d]] w (RetO w (octT s) (foldT s).1 0) := by
  obtain ⟨p1, p2, p3, p4, p5, p6⟩ := validB_parts hs
  have VA := fun w : World => tvalid_calls s.a s.b s.c s.d w (validB_i64 hs).1 (validB_i64 hs).2.1 (validB_i64 hs).2.2.1 (validB_i64 hs).2.2.2
  rw [hs] at VA
  have HA := Lib.hid VA
  have R := fun w : World => ratio_calls s.a s.b s.c w (by omega) (by omega) (by omega)
  have F := fun (v1 v2 : Value) (w : World) (h1 : Num w v1 (overN s.a s.b s.c)) (h2 : Num w v2 (underN s.a s.b s.c)) => floor_of s.h v1 v2 w (show s.a.natAbs ≤ _ by omega) (show s.b.natAbs ≤ _ by omega) (show s.c.natAbs ≤ _ by omega) h1 h2
  obtain ⟨o1, o2⟩ := octT_abs (s := s) (m := 960) hs p4 p5 p6
  have hf := fl_abs (u := s.h) (m := 960) p4 p5 p6
  have P := fun w : World => parted_calls (fl s.h) s.d w (by omega) (by omega)
  change ∀ w : World, Calls _ _ _ w fun e w' => e = .returned (.int .i64 (octT s)) ∧ _ at P
  have e1 : wrap64 (s.a - wrap64 (octT s * s.d)) = s.a - octT s * s.d := by
    rw [wrap64_small (x := octT s * s.d) (by omega)]
    exact wrap64_small (by omega)
  have RD := fun w : World => reduce_calls (s.a - octT s * s.d) s.b s.c s.d w (by unfold i64; omega) (validB_i64 hs).2.1 (validB_i64 hs).2.2.1 (validB_i64 hs).2.2.2 p2
  change ∀ w : World, Calls _ _ _ w (RetT w (foldT s)) at RD
  have E1 := Lib.hid e1
  generalize octT s = k at *
  generalize fl s.h = f at *
  generalize foldT s = r at *
  obtain ⟨⟨x, y, z, u⟩, m⟩ := r
  dsimp only at *
  subst hk
  have HR := Lib.hid R
  have HF := Lib.hid F
  have HP := Lib.hid P
  have HRD := Lib.hid RD
  clear VA R F P RD p1 p4 p5 p6 p2 p3 o1 o2 hf hs e1
  have vs := Vals.newL w (w.heap.size) [.int .i64 s.a, .int .i64 s.b, .int .i64 s.c, .int .i64 s.d] 37 rfl
  have bb := below_alloc w (.cells #[.int .i64 s.a, .int .i64 s.b, .int .i64 s.c, .int .i64 s.d] 37)
  have B := bb
  have sz0 := World.size_alloc w (.cells #[.int .i64 s.a, .int .i64 s.b, .int .i64 s.c, .int .i64 s.d] 37)
  have sz := sz0
  clear sz0
  clear bb
  have vr := Vals.newL (w.alloc (.cells #[.int .i64 s.a, .int .i64 s.b, .int .i64 s.c, .int .i64 s.d] 37)) (w.heap.size + 1) [.int .i64 0, .int .i64 0, .int .i64 0, .int .i64 0] 37 sz.symm
  have bb := below_alloc (w.alloc (.cells #[.int .i64 s.a, .int .i64 s.b, .int .i64 s.c, .int .i64 s.d] 37)) (.cells #[.int .i64 0, .int .i64 0, .int .i64 0, .int .i64 0] 37)
  replace vs := vs.mono bb
  replace B := below_trans B bb
  clear sz
  clear bb
  go_enter Try.func12, Try.ntmps12
  go_wp2_with fail
  generalize ((w.alloc (.cells #[.int .i64 s.a, .int .i64 s.b, .int .i64 s.c, .int .i64 s.d] 37)).alloc (.cells #[.int .i64 0, .int .i64 0, .int .i64 0, .int .i64 0] 37)) = w0 at *
  refine (HA.out _).mono ?_
  rintro e w1 ⟨rfl, b1⟩
  replace vs := vs.mono b1
  replace vr := vr.mono b1
  replace B := below_trans B b1
  clear b1
  go_upto_region 3 with (fail)
  go_region_held3 (fun w' => w'.cell? ⟨w.heap.size, 0, none⟩ = some (.int .i64 s.a) ∧ w'.cell? ⟨w.heap.size, 1, none⟩ = some (.int .i64 s.b) ∧ w'.cell? ⟨w.heap.size, 2, none⟩ = some (.int .i64 s.c) ∧ w'.cell? ⟨w.heap.size, 3, none⟩ = some (.int .i64 s.d))
    (first | exact vals4 vs | exact vals4 vs.drew)
    (first | (go_at_call 29; refine (HR.out _).mono ?_; rintro e w5 ⟨v1, v2, rfl, h5, h6, b5⟩; replace vs := vs.drew.mono b5; replace vr := vr.drew.mono b5; replace B := below_trans B.drew b5; clear b5)
           | (go_at_call 28; refine (HF.out _ _ _ h5 h6).mono ?_; rintro e w6 ⟨rfl, b6⟩; replace vs := vs.mono b6; replace vr := vr.mono b6; replace B := below_trans B b6; clear b6)
           | (go_at_call 27; refine (HP.out _).mono ?_; rintro e w7 ⟨rfl, rfl⟩))
  clear h5 h6
  have cvs0 := vs.cell (i := 0) (by simp)
  have cvs1 := vs.cell (i := 1) (by simp)
  have cvs2 := vs.cell (i := 2) (by simp)
  have cvs3 := vs.cell (i := 3) (by simp)
  simp only [List.getD_cons_zero, List.getD_cons_succ] at cvs0 cvs1 cvs2 cvs3
  have ltvs := vs.lt
  go_wp2_with fail
  clear cvs0 cvs1 cvs2 cvs3 ltvs
  rw [E1.out]
  refine (HRD.out _).mono ?_
  rintro e w8 ⟨rfl, b8⟩
  replace vs := vs.mono b8
  replace vr := vr.mono b8
  replace B := below_trans B b8
  clear b8
  have cvr0 := vr.cell (i := 0) (by simp)
  have cvr1 := vr.cell (i := 1) (by simp)
  have cvr2 := vr.cell (i := 2) (by simp)
  have cvr3 := vr.cell (i := 3) (by simp)
  simp only [List.getD_cons_zero, List.getD_cons_succ] at cvr0 cvr1 cvr2 cvr3
  have ltvr := vr.lt
  have fvr0 := vr.frozen 0
  have fvr1 := vr.frozen 1
  have fvr2 := vr.frozen 2
  have fvr3 := vr.frozen 3
  go_upto_region 7 with (fail)
  clear cvr0 cvr1 cvr2 cvr3 ltvr fvr0 fvr1 fvr2 fvr3
  have vx := Vals.newL w8 w8.heap.size [.int .i64 x, .int .i64 y, .int .i64 z, .int .i64 u] 37 rfl
  have bb := below_alloc w8 (.cells #[.int .i64 x, .int .i64 y, .int .i64 z, .int .i64 u] 37)
  replace vs := vs.mono bb
  replace vr := vr.mono bb
  replace B := below_trans B bb
  clear bb
  generalize w8.alloc (.cells #[.int .i64 x, .int .i64 y, .int .i64 z, .int .i64 u] 37) = w9 at *
  have cvr0 := vr.cell (i := 0) (by simp)
  have cvr1 := vr.cell (i := 1) (by simp)
  have cvr2 := vr.cell (i := 2) (by simp)
  have cvr3 := vr.cell (i := 3) (by simp)
  simp only [List.getD_cons_zero, List.getD_cons_succ] at cvr0 cvr1 cvr2 cvr3
  have ltvr := vr.lt
  have fvr0 := vr.frozen 0
  have fvr1 := vr.frozen 1
  have fvr2 := vr.frozen 2
  have fvr3 := vr.frozen 3
  have cvx0 := vx.cell (i := 0) (by simp)
  have cvx1 := vx.cell (i := 1) (by simp)
  have cvx2 := vx.cell (i := 2) (by simp)
  have cvx3 := vx.cell (i := 3) (by simp)
  simp only [List.getD_cons_zero, List.getD_cons_succ] at cvx0 cvx1 cvx2 cvx3
  have ltvx := vx.lt
  go_region
  go_wp2
  obtain ⟨te, hg⟩ := (vr.set4 (.int .i64 x) (.int .i64 y) (.int .i64 z) (.int .i64 u)).drew
  refine bodyPost_ret_by (results_tmp_cell_tmp rfl _ _ (w.heap.size + 1) te _ (0, 0) _ rfl hg Try.underlying37 rfl (by kernel_rfl) (.int .i64 k) (.int .i64 0) rfl rfl) rfl ?_
  exact ⟨rfl, (below_set4 B (by omega) _ _ _ _).drew⟩

set_option maxRecDepth 100000 in
set_option maxHeartbeats 1000000 in
theorem octave_far (s : T4) (w : World) (hs : validB s.a s.b s.c s.d = true) (hk : (foldT s).2 ≠ 0) :
    Calls Try.prog 12 #[.agg #[.int .i64 s.a, .int .i64 s.b, .int .i64 s.c, .int .i64 s.d]] w (RetO w 0 ⟨0, 0, 0, 0⟩ 5) := by
  obtain ⟨p1, p2, p3, p4, p5, p6⟩ := validB_parts hs
  have VA := fun w : World => tvalid_calls s.a s.b s.c s.d w (validB_i64 hs).1 (validB_i64 hs).2.1 (validB_i64 hs).2.2.1 (validB_i64 hs).2.2.2
  rw [hs] at VA
  have HA := Lib.hid VA
  have R := fun w : World => ratio_calls s.a s.b s.c w (by omega) (by omega) (by omega)
  have F := fun (v1 v2 : Value) (w : World) (h1 : Num w v1 (overN s.a s.b s.c)) (h2 : Num w v2 (underN s.a s.b s.c)) => floor_of s.h v1 v2 w (show s.a.natAbs ≤ _ by omega) (show s.b.natAbs ≤ _ by omega) (show s.c.natAbs ≤ _ by omega) h1 h2
  obtain ⟨o1, o2⟩ := octT_abs (s := s) (m := 960) hs p4 p5 p6
  have hf := fl_abs (u := s.h) (m := 960) p4 p5 p6
  have P := fun w : World => parted_calls (fl s.h) s.d w (by omega) (by omega)
  change ∀ w : World, Calls _ _ _ w fun e w' => e = .returned (.int .i64 (octT s)) ∧ _ at P
  have e1 : wrap64 (s.a - wrap64 (octT s * s.d)) = s.a - octT s * s.d := by
    rw [wrap64_small (x := octT s * s.d) (by omega)]
    exact wrap64_small (by omega)
  have RD := fun w : World => reduce_calls (s.a - octT s * s.d) s.b s.c s.d w (by unfold i64; omega) (validB_i64 hs).2.1 (validB_i64 hs).2.2.1 (validB_i64 hs).2.2.2 p2
  change ∀ w : World, Calls _ _ _ w (RetT w (foldT s)) at RD
  have kz := redT_err (a := s.a - octT s * s.d) (b := s.b) (c := s.c) (d := s.d) hk
  change foldT s = _ at kz
  rw [kz] at RD
  have E1 := Lib.hid e1
  generalize octT s = k at *
  generalize fl s.h = f at *
  generalize foldT s = r at *
  obtain ⟨⟨x, y, z, u⟩, m⟩ := r
  dsimp only at *
  have HR := Lib.hid R
  have HF := Lib.hid F
  have HP := Lib.hid P
  have HRD := Lib.hid RD
  clear VA R F P RD p1 p4 p5 p6 p2 p3 o1 o2 hf hs e1
  clear hk kz
  have vs := Vals.newL w (w.heap.size) [.int .i64 s.a, .int .i64 s.b, .int .i64 s.c, .int .i64 s.d] 37 rfl
  have bb := below_alloc w (.cells #[.int .i64 s.a, .int .i64 s.b, .int .i64 s.c, .int .i64 s.d] 37)
  have B := bb
  have sz0 := World.size_alloc w (.cells #[.int .i64 s.a, .int .i64 s.b, .int .i64 s.c, .int .i64 s.d] 37)
  have sz := sz0
  clear sz0
  clear bb
  have vr := Vals.newL (w.alloc (.cells #[.int .i64 s.a, .int .i64 s.b, .int .i64 s.c, .int .i64 s.d] 37)) (w.heap.size + 1) [.int .i64 0, .int .i64 0, .int .i64 0, .int .i64 0] 37 sz.symm
  have bb := below_alloc (w.alloc (.cells #[.int .i64 s.a, .int .i64 s.b, .int .i64 s.c, .int .i64 s.d] 37)) (.cells #[.int .i64 0, .int .i64 0, .int .i64 0, .int .i64 0] 37)
  replace vs := vs.mono bb
  replace B := below_trans B bb
  clear sz
  clear bb
  go_enter Try.func12, Try.ntmps12
  go_wp2_with fail
  generalize ((w.alloc (.cells #[.int .i64 s.a, .int .i64 s.b, .int .i64 s.c, .int .i64 s.d] 37)).alloc (.cells #[.int .i64 0, .int .i64 0, .int .i64 0, .int .i64 0] 37)) = w0 at *
  refine (HA.out _).mono ?_
  rintro e w1 ⟨rfl, b1⟩
  replace vs := vs.mono b1
  replace vr := vr.mono b1
  replace B := below_trans B b1
  clear b1
  go_upto_region 3 with (fail)
  go_region_held3 (fun w' => w'.cell? ⟨w.heap.size, 0, none⟩ = some (.int .i64 s.a) ∧ w'.cell? ⟨w.heap.size, 1, none⟩ = some (.int .i64 s.b) ∧ w'.cell? ⟨w.heap.size, 2, none⟩ = some (.int .i64 s.c) ∧ w'.cell? ⟨w.heap.size, 3, none⟩ = some (.int .i64 s.d))
    (first | exact vals4 vs | exact vals4 vs.drew)
    (first | (go_at_call 29; refine (HR.out _).mono ?_; rintro e w5 ⟨v1, v2, rfl, h5, h6, b5⟩; replace vs := vs.drew.mono b5; replace vr := vr.drew.mono b5; replace B := below_trans B.drew b5; clear b5)
           | (go_at_call 28; refine (HF.out _ _ _ h5 h6).mono ?_; rintro e w6 ⟨rfl, b6⟩; replace vs := vs.mono b6; replace vr := vr.mono b6; replace B := below_trans B b6; clear b6)
           | (go_at_call 27; refine (HP.out _).mono ?_; rintro e w7 ⟨rfl, rfl⟩))
  clear h5 h6
  have cvs0 := vs.cell (i := 0) (by simp)
  have cvs1 := vs.cell (i := 1) (by simp)
  have cvs2 := vs.cell (i := 2) (by simp)
  have cvs3 := vs.cell (i := 3) (by simp)
  simp only [List.getD_cons_zero, List.getD_cons_succ] at cvs0 cvs1 cvs2 cvs3
  have ltvs := vs.lt
  go_wp2_with fail
  clear cvs0 cvs1 cvs2 cvs3 ltvs
  rw [E1.out]
  refine (HRD.out _).mono ?_
  rintro e w8 ⟨rfl, b8⟩
  replace vs := vs.mono b8
  replace vr := vr.mono b8
  replace B := below_trans B b8
  clear b8
  have cvr0 := vr.cell (i := 0) (by simp)
  have cvr1 := vr.cell (i := 1) (by simp)
  have cvr2 := vr.cell (i := 2) (by simp)
  have cvr3 := vr.cell (i := 3) (by simp)
  simp only [List.getD_cons_zero, List.getD_cons_succ] at cvr0 cvr1 cvr2 cvr3
  have ltvr := vr.lt
  have fvr0 := vr.frozen 0
  have fvr1 := vr.frozen 1
  have fvr2 := vr.frozen 2
  have fvr3 := vr.frozen 3
  go_wp2
  clear cvr0 cvr1 cvr2 cvr3 ltvr fvr0 fvr1 fvr2 fvr3
  obtain ⟨te, hg⟩ := (vr.set4 (.int .i64 0) (.int .i64 0) (.int .i64 0) (.int .i64 0)).alloc (.cells #[.int .i64 0, .int .i64 0, .int .i64 0, .int .i64 0] 37)
  refine bodyPost_ret_by (results_tmp_cell_tmp rfl _ _ (w.heap.size + 1) te _ (0, 0) _ rfl hg Try.underlying37 rfl (by kernel_rfl) (.int .i64 0) (.int .i64 5) rfl rfl) rfl ?_
  exact ⟨rfl, below_trans (below_set4 B (by omega) _ _ _ _) (below_alloc _ _)⟩

end Go.Proofs
