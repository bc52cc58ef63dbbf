/- tone: Cents, Cmp, Octave. -/
import Derived.Test.YtgdgdaofmjnepaaDoorTone6
import Derived.Test.YtgdgdaofmjnepaaDoorTone3
import Derived.Deep.RegionHeld3
open Go.RowKit Go.Deep
namespace Go.Proofs
set_option linter.unusedVariables false

theorem over_len {a b c : Int} (ha : a.natAbs ≤ 1200000) (hb : b.natAbs ≤ 1200000) (hc : c.natAbs ≤ 1200000) : (limbs (overN a b c)).length ≤ 230000 := by
  obtain ⟨_, _, l2⟩ := ovTo_len b c hb hc
  rw [(ovTo_fin a b c).1]
  have h1 := limbs_length_mul (ovTo b c 2) (2 ^ a.toNat)
  have h2 := limbs_two a.toNat
  omega
theorem under_len {a b c : Int} (ha : a.natAbs ≤ 1200000) (hb : b.natAbs ≤ 1200000) (hc : c.natAbs ≤ 1200000) : (limbs (underN a b c)).length ≤ 230000 := by
  have h := over_len (a := -a) (b := -b) (c := -c) (by omega) (by omega) (by omega)
  exact h
theorem over_ne (a b c : Int) : overN a b c ≠ 0 := by
  have := ov_pos ⟨a, b, c⟩
  unfold ov at this
  dsimp only at this
  omega
theorem under_ne (a b c : Int) : underN a b c ≠ 0 := by
  have := un_pos ⟨a, b, c⟩
  unfold un at this
  dsimp only at this
  omega

theorem flr_bound {A B : Nat} (lA : (limbs A).length ≤ 230000) (lB : (limbs B).length ≤ 230000) : -8000000 ≤ flr A B ∧ flr A B ≤ 8000000 := by
  have bA := bitlen_le_limbs A
  have bB := bitlen_le_limbs B
  unfold flr
  split <;> omega

theorem fl_bound {u : H3} (ha : u.x.natAbs ≤ 1200000) (hb : u.y.natAbs ≤ 1200000) (hc : u.z.natAbs ≤ 1200000) : -8000000 ≤ fl u ∧ fl u ≤ 8000000 :=
  flr_bound (over_len ha hb hc) (under_len ha hb hc)

theorem vals4 {w : World} {b : Nat} {v0 v1 v2 v3 : Value} (h : Vals w b [v0, v1, v2, v3]) :
    w.cell? ⟨b, 0, none⟩ = some v0 ∧ w.cell? ⟨b, 1, none⟩ = some v1 ∧ w.cell? ⟨b, 2, none⟩ = some v2 ∧ w.cell? ⟨b, 3, none⟩ = some v3 :=
  ⟨h.cell (i := 0) (by simp), h.cell (i := 1) (by simp), h.cell (i := 2) (by simp), h.cell (i := 3) (by simp)⟩

/-- ratio, then floor -/
theorem floor_of (u : H3) (v1 v2 : Value) (w : World) (ha : u.x.natAbs ≤ 1200000) (hb : u.y.natAbs ≤ 1200000) (hc : u.z.natAbs ≤ 1200000) (h1 : Num w v1 (overN u.x u.y u.z)) (h2 : Num w v2 (underN u.x u.y u.z)) :
    Calls Tryd.prog 70 #[v1, v2] w fun e w' => e = .returned (.int .i64 (fl u)) ∧ Below w.heap.size w w' :=
  floor_calls v1 v2 _ _ w h1 h2 (over_ne _ _ _) (under_ne _ _ _) (Nat.le_trans (over_len ha hb hc) (by omega)) (Nat.le_trans (under_len ha hb hc) (by omega))

/-- a tone's size in cents -/
def centsT (s : T4) : Int := fl ⟨1200 * s.a, 1200 * s.b, 1200 * s.c⟩ / s.d
def octT (s : T4) : Int := fl s.h / s.d

set_option maxRecDepth 100000 in
theorem cents_ok (s : T4) (w : World) (hs : validB s.a s.b s.c s.d = true) :
    Calls Tryd.prog 27 #[.agg #[.int .i64 s.a, .int .i64 s.b, .int .i64 s.c, .int .i64 s.d]] w fun e w' => e = .returned (.tuple #[.int .i64 (centsT s), .int .i64 0]) ∧ Below w.heap.size w w' := by
  obtain ⟨p1, p2, p3, p4, p5, p6⟩ := validB_parts hs
  have VA := fun w : World => tvalid_calls s.a s.b s.c s.d w (validB_i64 hs).1 (validB_i64 hs).2.1 (validB_i64 hs).2.2.1 (validB_i64 hs).2.2.2
  rw [hs] at VA
  have HA := Lib.hid VA
  have hu1 : (1200 * s.a).natAbs ≤ 1200000 := by omega
  have hu2 : (1200 * s.b).natAbs ≤ 1200000 := by omega
  have hu3 : (1200 * s.c).natAbs ≤ 1200000 := by omega
  have R := fun w : World => ratio_calls (1200 * s.a) (1200 * s.b) (1200 * s.c) w hu1 hu2 hu3
  have F := fun (v1 v2 : Value) (w : World) (h1 : Num w v1 (overN (1200 * s.a) (1200 * s.b) (1200 * s.c))) (h2 : Num w v2 (underN (1200 * s.a) (1200 * s.b) (1200 * s.c))) => floor_of ⟨1200 * s.a, 1200 * s.b, 1200 * s.c⟩ v1 v2 w hu1 hu2 hu3 h1 h2
  obtain ⟨f1, f2⟩ := fl_bound (u := ⟨1200 * s.a, 1200 * s.b, 1200 * s.c⟩) hu1 hu2 hu3
  unfold centsT
  generalize fl ⟨1200 * s.a, 1200 * s.b, 1200 * s.c⟩ = f at *
  have P := fun w : World => parted_calls f s.d w (by omega) (by omega)
  generalize f / s.d = q at *
  have HR := Lib.hid R
  have HF := Lib.hid F
  have HP := Lib.hid P
  have a1 : -960 ≤ s.a := by omega
  have a2 : s.a ≤ 960 := by omega
  have a3 : -960 ≤ s.b := by omega
  have a4 : s.b ≤ 960 := by omega
  have a5 : -960 ≤ s.c := by omega
  have a6 : s.c ≤ 960 := by omega
  have k1 : IntKind.i64.wrap (1200 * s.a) = 1200 * s.a := IntWalk.i64_in _ (by omega)
  have k2 : IntKind.i64.wrap (1200 * s.b) = 1200 * s.b := IntWalk.i64_in _ (by omega)
  have k3 : IntKind.i64.wrap (1200 * s.c) = 1200 * s.c := IntWalk.i64_in _ (by omega)
  clear VA R F P p1 p4 p5 p6 hu1 hu2 hu3 f1 f2 p2 p3 hs
  have vs := Vals.newL w (w.heap.size) [.int .i64 s.a, .int .i64 s.b, .int .i64 s.c, .int .i64 s.d] 23 rfl
  have bb := below_alloc w (.cells #[.int .i64 s.a, .int .i64 s.b, .int .i64 s.c, .int .i64 s.d] 23)
  have B := bb
  clear bb
  go_enter Tryd.func27, Tryd.ntmps27
  go_wp2_with fail
  generalize (w.alloc (.cells #[.int .i64 s.a, .int .i64 s.b, .int .i64 s.c, .int .i64 s.d] 23)) = w0 at *
  refine (HA.out _).mono ?_
  rintro e w1 ⟨rfl, b1⟩
  replace vs := vs.mono b1
  replace B := below_trans B b1
  clear b1
  go_upto_region 3 with (fail)
  go_region_held3 (fun w' => w'.cell? ⟨w.heap.size, 0, none⟩ = some (.int .i64 s.a) ∧ w'.cell? ⟨w.heap.size, 1, none⟩ = some (.int .i64 s.b) ∧ w'.cell? ⟨w.heap.size, 2, none⟩ = some (.int .i64 s.c) ∧ w'.cell? ⟨w.heap.size, 3, none⟩ = some (.int .i64 s.d))
    (first | exact vals4 vs | exact vals4 vs.drew)
    (first | (go_at_call 71; refine (HR.out _).mono ?_; rintro e w5 ⟨v1, v2, rfl, h5, h6, b5⟩; replace vs := vs.drew.mono b5; replace B := below_trans B.drew b5; clear b5)
           | (go_at_call 70; refine (HF.out _ _ _ h5 h6).mono ?_; rintro e w6 ⟨rfl, b6⟩; replace vs := vs.mono b6; replace B := below_trans B b6; clear b6)
           | (go_at_call 69; refine (HP.out _).mono ?_; rintro e w7 ⟨rfl, rfl⟩))
  go_wp2
  go_ret2
  exact ⟨rfl, B⟩

set_option maxRecDepth 100000 in
theorem cents_bad (s : T4) (w : World) (hA : i64 s.a ∧ i64 s.b ∧ i64 s.c ∧ i64 s.d) (hs : validB s.a s.b s.c s.d = false) :
    Calls Tryd.prog 27 #[.agg #[.int .i64 s.a, .int .i64 s.b, .int .i64 s.c, .int .i64 s.d]] w fun e w' => e = .returned (.tuple #[.int .i64 0, .int .i64 2]) ∧ Below w.heap.size w w' := by
  have VA := fun w : World => tvalid_calls s.a s.b s.c s.d w hA.1 hA.2.1 hA.2.2.1 hA.2.2.2
  rw [hs] at VA
  have HA := Lib.hid VA
  clear VA hs hA
  have vs := Vals.newL w (w.heap.size) [.int .i64 s.a, .int .i64 s.b, .int .i64 s.c, .int .i64 s.d] 23 rfl
  have bb := below_alloc w (.cells #[.int .i64 s.a, .int .i64 s.b, .int .i64 s.c, .int .i64 s.d] 23)
  have B := bb
  clear bb
  go_enter Tryd.func27, Tryd.ntmps27
  go_wp2_with fail
  generalize (w.alloc (.cells #[.int .i64 s.a, .int .i64 s.b, .int .i64 s.c, .int .i64 s.d] 23)) = w0 at *
  refine (HA.out _).mono ?_
  rintro e w1 ⟨rfl, b1⟩
  replace vs := vs.mono b1
  replace B := below_trans B b1
  clear b1
  go_wp2
  go_ret2
  exact ⟨rfl, B⟩

set_option maxRecDepth 100000 in
theorem cmpT_bad0 (s t : T4) (w : World) (hA : i64 s.a ∧ i64 s.b ∧ i64 s.c ∧ i64 s.d) (hB : i64 t.a ∧ i64 t.b ∧ i64 t.c ∧ i64 t.d) (hs : validB s.a s.b s.c s.d = false) :
    Calls Tryd.prog 35 #[.agg #[.int .i64 s.a, .int .i64 s.b, .int .i64 s.c, .int .i64 s.d], .agg #[.int .i64 t.a, .int .i64 t.b, .int .i64 t.c, .int .i64 t.d]] w fun e w' => e = .returned (.tuple #[.int .i64 0, .int .i64 2]) ∧ Below w.heap.size w w' := by
  have VA := fun w : World => tvalid_calls s.a s.b s.c s.d w hA.1 hA.2.1 hA.2.2.1 hA.2.2.2
  rw [hs] at VA
  have HA := Lib.hid VA
  clear VA hs hA hB
  have vs := Vals.newL w (w.heap.size) [.int .i64 s.a, .int .i64 s.b, .int .i64 s.c, .int .i64 s.d] 23 rfl
  have bb := below_alloc w (.cells #[.int .i64 s.a, .int .i64 s.b, .int .i64 s.c, .int .i64 s.d] 23)
  have B := bb
  have sz0 := World.size_alloc w (.cells #[.int .i64 s.a, .int .i64 s.b, .int .i64 s.c, .int .i64 s.d] 23)
  have sz := sz0
  clear sz0
  clear bb
  have vt := Vals.newL (w.alloc (.cells #[.int .i64 s.a, .int .i64 s.b, .int .i64 s.c, .int .i64 s.d] 23)) (w.heap.size + 1) [.int .i64 t.a, .int .i64 t.b, .int .i64 t.c, .int .i64 t.d] 23 sz.symm
  have bb := below_alloc (w.alloc (.cells #[.int .i64 s.a, .int .i64 s.b, .int .i64 s.c, .int .i64 s.d] 23)) (.cells #[.int .i64 t.a, .int .i64 t.b, .int .i64 t.c, .int .i64 t.d] 23)
  replace vs := vs.mono bb
  replace B := below_trans B bb
  clear sz
  clear bb
  go_enter Tryd.func35, Tryd.ntmps35
  go_wp2_with fail
  generalize ((w.alloc (.cells #[.int .i64 s.a, .int .i64 s.b, .int .i64 s.c, .int .i64 s.d] 23)).alloc (.cells #[.int .i64 t.a, .int .i64 t.b, .int .i64 t.c, .int .i64 t.d] 23)) = w0 at *
  refine (HA.out _).mono ?_
  rintro e w1 ⟨rfl, b1⟩
  replace vs := vs.mono b1
  replace vt := vt.mono b1
  replace B := below_trans B b1
  clear b1
  go_wp2
  go_ret2
  exact ⟨rfl, B⟩

set_option maxRecDepth 100000 in
theorem cmpT_bad1 (s t : T4) (w : World) (hA : i64 s.a ∧ i64 s.b ∧ i64 s.c ∧ i64 s.d) (hB : i64 t.a ∧ i64 t.b ∧ i64 t.c ∧ i64 t.d) (hs : validB s.a s.b s.c s.d = true) (ht : validB t.a t.b t.c t.d = false) :
    Calls Tryd.prog 35 #[.agg #[.int .i64 s.a, .int .i64 s.b, .int .i64 s.c, .int .i64 s.d], .agg #[.int .i64 t.a, .int .i64 t.b, .int .i64 t.c, .int .i64 t.d]] w fun e w' => e = .returned (.tuple #[.int .i64 0, .int .i64 2]) ∧ Below w.heap.size w w' := by
  have VA := fun w : World => tvalid_calls s.a s.b s.c s.d w hA.1 hA.2.1 hA.2.2.1 hA.2.2.2
  rw [hs] at VA
  have HA := Lib.hid VA
  have VB := fun w : World => tvalid_calls t.a t.b t.c t.d w hB.1 hB.2.1 hB.2.2.1 hB.2.2.2
  rw [ht] at VB
  have HB := Lib.hid VB
  clear VB ht
  clear VA hs hA hB
  have vs := Vals.newL w (w.heap.size) [.int .i64 s.a, .int .i64 s.b, .int .i64 s.c, .int .i64 s.d] 23 rfl
  have bb := below_alloc w (.cells #[.int .i64 s.a, .int .i64 s.b, .int .i64 s.c, .int .i64 s.d] 23)
  have B := bb
  have sz0 := World.size_alloc w (.cells #[.int .i64 s.a, .int .i64 s.b, .int .i64 s.c, .int .i64 s.d] 23)
  have sz := sz0
  clear sz0
  clear bb
  have vt := Vals.newL (w.alloc (.cells #[.int .i64 s.a, .int .i64 s.b, .int .i64 s.c, .int .i64 s.d] 23)) (w.heap.size + 1) [.int .i64 t.a, .int .i64 t.b, .int .i64 t.c, .int .i64 t.d] 23 sz.symm
  have bb := below_alloc (w.alloc (.cells #[.int .i64 s.a, .int .i64 s.b, .int .i64 s.c, .int .i64 s.d] 23)) (.cells #[.int .i64 t.a, .int .i64 t.b, .int .i64 t.c, .int .i64 t.d] 23)
  replace vs := vs.mono bb
  replace B := below_trans B bb
  clear sz
  clear bb
  go_enter Tryd.func35, Tryd.ntmps35
  go_wp2_with fail
  generalize ((w.alloc (.cells #[.int .i64 s.a, .int .i64 s.b, .int .i64 s.c, .int .i64 s.d] 23)).alloc (.cells #[.int .i64 t.a, .int .i64 t.b, .int .i64 t.c, .int .i64 t.d] 23)) = w0 at *
  refine (HA.out _).mono ?_
  rintro e w1 ⟨rfl, b1⟩
  replace vs := vs.mono b1
  replace vt := vt.mono b1
  replace B := below_trans B b1
  clear b1
  have cvt0 := vt.cell (i := 0) (by simp)
  have cvt1 := vt.cell (i := 1) (by simp)
  have cvt2 := vt.cell (i := 2) (by simp)
  have cvt3 := vt.cell (i := 3) (by simp)
  simp only [List.getD_cons_zero, List.getD_cons_succ] at cvt0 cvt1 cvt2 cvt3
  go_wp2_with fail
  clear cvt0 cvt1 cvt2 cvt3
  refine (HB.out _).mono ?_
  rintro e w2 ⟨rfl, b2⟩
  replace vs := vs.mono b2
  replace vt := vt.mono b2
  replace B := below_trans B b2
  clear b2
  go_wp2
  go_ret2
  exact ⟨rfl, B⟩

set_option maxRecDepth 100000 in
theorem cmpT_same (s : T4) (w : World) (hs : validB s.a s.b s.c s.d = true) :
    Calls Tryd.prog 35 #[.agg #[.int .i64 s.a, .int .i64 s.b, .int .i64 s.c, .int .i64 s.d], .agg #[.int .i64 s.a, .int .i64 s.b, .int .i64 s.c, .int .i64 s.d]] w fun e w' => e = .returned (.tuple #[.int .i64 0, .int .i64 0]) ∧ Below w.heap.size w w' := by
  have VA := fun w : World => tvalid_calls s.a s.b s.c s.d w (validB_i64 hs).1 (validB_i64 hs).2.1 (validB_i64 hs).2.2.1 (validB_i64 hs).2.2.2
  rw [hs] at VA
  have HA := Lib.hid VA
  clear VA hs
  have vs := Vals.newL w (w.heap.size) [.int .i64 s.a, .int .i64 s.b, .int .i64 s.c, .int .i64 s.d] 23 rfl
  have bb := below_alloc w (.cells #[.int .i64 s.a, .int .i64 s.b, .int .i64 s.c, .int .i64 s.d] 23)
  have B := bb
  have sz0 := World.size_alloc w (.cells #[.int .i64 s.a, .int .i64 s.b, .int .i64 s.c, .int .i64 s.d] 23)
  have sz := sz0
  clear sz0
  clear bb
  have vt := Vals.newL (w.alloc (.cells #[.int .i64 s.a, .int .i64 s.b, .int .i64 s.c, .int .i64 s.d] 23)) (w.heap.size + 1) [.int .i64 s.a, .int .i64 s.b, .int .i64 s.c, .int .i64 s.d] 23 sz.symm
  have bb := below_alloc (w.alloc (.cells #[.int .i64 s.a, .int .i64 s.b, .int .i64 s.c, .int .i64 s.d] 23)) (.cells #[.int .i64 s.a, .int .i64 s.b, .int .i64 s.c, .int .i64 s.d] 23)
  replace vs := vs.mono bb
  replace B := below_trans B bb
  clear sz
  clear bb
  go_enter Tryd.func35, Tryd.ntmps35
  go_wp2_with fail
  generalize ((w.alloc (.cells #[.int .i64 s.a, .int .i64 s.b, .int .i64 s.c, .int .i64 s.d] 23)).alloc (.cells #[.int .i64 s.a, .int .i64 s.b, .int .i64 s.c, .int .i64 s.d] 23)) = w0 at *
  refine (HA.out _).mono ?_
  rintro e w1 ⟨rfl, b1⟩
  replace vs := vs.mono b1
  replace vt := vt.mono b1
  replace B := below_trans B b1
  clear b1
  have cvt0 := vt.cell (i := 0) (by simp)
  have cvt1 := vt.cell (i := 1) (by simp)
  have cvt2 := vt.cell (i := 2) (by simp)
  have cvt3 := vt.cell (i := 3) (by simp)
  simp only [List.getD_cons_zero, List.getD_cons_succ] at cvt0 cvt1 cvt2 cvt3
  go_wp2_with fail
  clear cvt0 cvt1 cvt2 cvt3
  refine (HA.out _).mono ?_
  rintro e w2 ⟨rfl, b2⟩
  replace vs := vs.mono b2
  replace vt := vt.mono b2
  replace B := below_trans B b2
  clear b2
  have cvs0 := vs.cell (i := 0) (by simp)
  have cvs1 := vs.cell (i := 1) (by simp)
  have cvs2 := vs.cell (i := 2) (by simp)
  have cvs3 := vs.cell (i := 3) (by simp)
  simp only [List.getD_cons_zero, List.getD_cons_succ] at cvs0 cvs1 cvs2 cvs3
  have cvt0 := vt.cell (i := 0) (by simp)
  have cvt1 := vt.cell (i := 1) (by simp)
  have cvt2 := vt.cell (i := 2) (by simp)
  have cvt3 := vt.cell (i := 3) (by simp)
  simp only [List.getD_cons_zero, List.getD_cons_succ] at cvt0 cvt1 cvt2 cvt3
  go_wp2
  go_ret2
  exact ⟨rfl, B⟩

theorem dif_parts {a x d u : Int} (h1 : a.natAbs ≤ 960) (h2 : x.natAbs ≤ 960) (h3 : d.natAbs ≤ 24) (h4 : u.natAbs ≤ 24) :
    (a * u - x * d).natAbs ≤ 46080 ∧ wrap64 (wrap64 (a * u) - wrap64 (x * d)) = a * u - x * d := by
  have p1 := abs_mul_le h1 h4
  have p2 := abs_mul_le h2 h3
  rw [wrap64_small (x := a * u) (by omega), wrap64_small (x := x * d) (by omega)]
  generalize a * u = p at *
  generalize x * d = q at *
  exact ⟨by omega, wrap64_small (by omega)⟩

set_option maxRecDepth 100000 in
theorem cmpT_ne0 (a b c d x y z u : Int) (w : World) (hs : validB a b c d = true) (ht : validB x y z u = true) (hne : ¬ a = x) :
    Calls Tryd.prog 35 #[.agg #[.int .i64 a, .int .i64 b, .int .i64 c, .int .i64 d], .agg #[.int .i64 x, .int .i64 y, .int .i64 z, .int .i64 u]] w fun e w' => e = .returned (.tuple #[.int .i64 (cmpT ⟨a, b, c, d⟩ ⟨x, y, z, u⟩), .int .i64 0]) ∧ Below w.heap.size w w' := by
  obtain ⟨p1, p2, p3, p4, p5, p6⟩ := validB_parts hs
  obtain ⟨q1, q2, q3, q4, q5, q6⟩ := validB_parts ht
  have VA := fun w : World => tvalid_calls a b c d w (by omega) (by omega) (by omega) (by omega)
  have VB := fun w : World => tvalid_calls x y z u w (by omega) (by omega) (by omega) (by omega)
  rw [hs] at VA
  rw [ht] at VB
  have HA := Lib.hid VA
  have HB := Lib.hid VB
  obtain ⟨g1, k1⟩ := dif_parts (a := a) (x := x) (d := d) (u := u) (by omega) (by omega) (by omega) (by omega)
  obtain ⟨g2, k2⟩ := dif_parts (a := b) (x := y) (d := d) (u := u) (by omega) (by omega) (by omega) (by omega)
  obtain ⟨g3, k3⟩ := dif_parts (a := c) (x := z) (d := d) (u := u) (by omega) (by omega) (by omega) (by omega)
  have R := fun w : World => ratio_calls (a * u - x * d) (b * u - y * d) (c * u - z * d) w (by omega) (by omega) (by omega)
  have l1 := over_len (a := a * u - x * d) (b := b * u - y * d) (c := c * u - z * d) (by omega) (by omega) (by omega)
  have l2 := under_len (a := a * u - x * d) (b := b * u - y * d) (c := c * u - z * d) (by omega) (by omega) (by omega)
  have e0 : cmpT ⟨a, b, c, d⟩ ⟨x, y, z, u⟩ = cmpInt (overN (a * u - x * d) (b * u - y * d) (c * u - z * d)) (underN (a * u - x * d) (b * u - y * d) (c * u - z * d)) := rfl
  rw [e0]
  have C := fun (v1 v2 : Value) (w : World) (h1 : Num w v1 _) (h2 : Num w v2 _) => cmp_ok v1 v2 (overN (a * u - x * d) (b * u - y * d) (c * u - z * d)) (underN (a * u - x * d) (b * u - y * d) (c * u - z * d)) w h1 h2 ⟨by omega, by omega⟩
  generalize overN (a * u - x * d) (b * u - y * d) (c * u - z * d) = O at *
  generalize underN (a * u - x * d) (b * u - y * d) (c * u - z * d) = U at *
  generalize cmpInt O U = r at *
  have HR := Lib.hid R
  have HC := Lib.hid C
  have K1 := Lib.hid k1
  have K2 := Lib.hid k2
  have K3 := Lib.hid k3
  clear VA VB R C hs ht p1 p2 p3 p4 p5 p6 q1 q2 q3 q4 q5 q6 g1 g2 g3 k1 k2 k3 l1 l2 e0
  have vs := Vals.newL w (w.heap.size) [.int .i64 a, .int .i64 b, .int .i64 c, .int .i64 d] 23 rfl
  have bb := below_alloc w (.cells #[.int .i64 a, .int .i64 b, .int .i64 c, .int .i64 d] 23)
  have B := bb
  have sz0 := World.size_alloc w (.cells #[.int .i64 a, .int .i64 b, .int .i64 c, .int .i64 d] 23)
  have sz := sz0
  clear sz0
  clear bb
  have vt := Vals.newL (w.alloc (.cells #[.int .i64 a, .int .i64 b, .int .i64 c, .int .i64 d] 23)) (w.heap.size + 1) [.int .i64 x, .int .i64 y, .int .i64 z, .int .i64 u] 23 sz.symm
  have bb := below_alloc (w.alloc (.cells #[.int .i64 a, .int .i64 b, .int .i64 c, .int .i64 d] 23)) (.cells #[.int .i64 x, .int .i64 y, .int .i64 z, .int .i64 u] 23)
  replace vs := vs.mono bb
  replace B := below_trans B bb
  clear sz
  clear bb
  go_enter Tryd.func35, Tryd.ntmps35
  go_wp2_with fail
  generalize ((w.alloc (.cells #[.int .i64 a, .int .i64 b, .int .i64 c, .int .i64 d] 23)).alloc (.cells #[.int .i64 x, .int .i64 y, .int .i64 z, .int .i64 u] 23)) = w0 at *
  refine (HA.out _).mono ?_
  rintro e w1 ⟨rfl, b1⟩
  replace vs := vs.mono b1
  replace vt := vt.mono b1
  replace B := below_trans B b1
  clear b1
  have cvt0 := vt.cell (i := 0) (by simp)
  have cvt1 := vt.cell (i := 1) (by simp)
  have cvt2 := vt.cell (i := 2) (by simp)
  have cvt3 := vt.cell (i := 3) (by simp)
  simp only [List.getD_cons_zero, List.getD_cons_succ] at cvt0 cvt1 cvt2 cvt3
  go_wp2_with fail
  clear cvt0 cvt1 cvt2 cvt3
  refine (HB.out _).mono ?_
  rintro e w2 ⟨rfl, b2⟩
  replace vs := vs.mono b2
  replace vt := vt.mono b2
  replace B := below_trans B b2
  clear b2
  have cvs0 := vs.cell (i := 0) (by simp)
  have cvs1 := vs.cell (i := 1) (by simp)
  have cvs2 := vs.cell (i := 2) (by simp)
  have cvs3 := vs.cell (i := 3) (by simp)
  simp only [List.getD_cons_zero, List.getD_cons_succ] at cvs0 cvs1 cvs2 cvs3
  have cvt0 := vt.cell (i := 0) (by simp)
  have cvt1 := vt.cell (i := 1) (by simp)
  have cvt2 := vt.cell (i := 2) (by simp)
  have cvt3 := vt.cell (i := 3) (by simp)
  simp only [List.getD_cons_zero, List.getD_cons_succ] at cvt0 cvt1 cvt2 cvt3
  go_wp2_with fail
  clear cvs0 cvs1 cvs2 cvs3 cvt0 cvt1 cvt2 cvt3
  rw [K1.out, K2.out, K3.out]
  refine (HR.out _).mono ?_
  rintro e w3 ⟨v1, v2, rfl, h5, h6, b3⟩
  replace vs := vs.mono b3
  replace vt := vt.mono b3
  replace B := below_trans B b3
  clear b3
  go_wp2_with fail
  refine (HC.out _ _ _ h5 h6).mono ?_
  rintro e w4 ⟨rfl, b4⟩
  replace vs := vs.mono b4
  replace vt := vt.mono b4
  replace h5 := h5.mono b4
  replace h6 := h6.mono b4
  replace B := below_trans B b4
  clear b4
  go_wp2
  go_ret2
  exact ⟨rfl, B⟩

set_option maxRecDepth 100000 in
theorem cmpT_ne1 (a b c d y z u : Int) (w : World) (hs : validB a b c d = true) (ht : validB a y z u = true) (hne : ¬ b = y) :
    Calls Tryd.prog 35 #[.agg #[.int .i64 a, .int .i64 b, .int .i64 c, .int .i64 d], .agg #[.int .i64 a, .int .i64 y, .int .i64 z, .int .i64 u]] w fun e w' => e = .returned (.tuple #[.int .i64 (cmpT ⟨a, b, c, d⟩ ⟨a, y, z, u⟩), .int .i64 0]) ∧ Below w.heap.size w w' := by
  obtain ⟨p1, p2, p3, p4, p5, p6⟩ := validB_parts hs
  obtain ⟨q1, q2, q3, q4, q5, q6⟩ := validB_parts ht
  have VA := fun w : World => tvalid_calls a b c d w (by omega) (by omega) (by omega) (by omega)
  have VB := fun w : World => tvalid_calls a y z u w (by omega) (by omega) (by omega) (by omega)
  rw [hs] at VA
  rw [ht] at VB
  have HA := Lib.hid VA
  have HB := Lib.hid VB
  obtain ⟨g1, k1⟩ := dif_parts (a := a) (x := a) (d := d) (u := u) (by omega) (by omega) (by omega) (by omega)
  obtain ⟨g2, k2⟩ := dif_parts (a := b) (x := y) (d := d) (u := u) (by omega) (by omega) (by omega) (by omega)
  obtain ⟨g3, k3⟩ := dif_parts (a := c) (x := z) (d := d) (u := u) (by omega) (by omega) (by omega) (by omega)
  have R := fun w : World => ratio_calls (a * u - a * d) (b * u - y * d) (c * u - z * d) w (by omega) (by omega) (by omega)
  have l1 := over_len (a := a * u - a * d) (b := b * u - y * d) (c := c * u - z * d) (by omega) (by omega) (by omega)
  have l2 := under_len (a := a * u - a * d) (b := b * u - y * d) (c := c * u - z * d) (by omega) (by omega) (by omega)
  have e0 : cmpT ⟨a, b, c, d⟩ ⟨a, y, z, u⟩ = cmpInt (overN (a * u - a * d) (b * u - y * d) (c * u - z * d)) (underN (a * u - a * d) (b * u - y * d) (c * u - z * d)) := rfl
  rw [e0]
  have C := fun (v1 v2 : Value) (w : World) (h1 : Num w v1 _) (h2 : Num w v2 _) => cmp_ok v1 v2 (overN (a * u - a * d) (b * u - y * d) (c * u - z * d)) (underN (a * u - a * d) (b * u - y * d) (c * u - z * d)) w h1 h2 ⟨by omega, by omega⟩
  generalize overN (a * u - a * d) (b * u - y * d) (c * u - z * d) = O at *
  generalize underN (a * u - a * d) (b * u - y * d) (c * u - z * d) = U at *
  generalize cmpInt O U = r at *
  have HR := Lib.hid R
  have HC := Lib.hid C
  have K1 := Lib.hid k1
  have K2 := Lib.hid k2
  have K3 := Lib.hid k3
  clear VA VB R C hs ht p1 p2 p3 p4 p5 p6 q1 q2 q3 q4 q5 q6 g1 g2 g3 k1 k2 k3 l1 l2 e0
  have vs := Vals.newL w (w.heap.size) [.int .i64 a, .int .i64 b, .int .i64 c, .int .i64 d] 23 rfl
  have bb := below_alloc w (.cells #[.int .i64 a, .int .i64 b, .int .i64 c, .int .i64 d] 23)
  have B := bb
  have sz0 := World.size_alloc w (.cells #[.int .i64 a, .int .i64 b, .int .i64 c, .int .i64 d] 23)
  have sz := sz0
  clear sz0
  clear bb
  have vt := Vals.newL (w.alloc (.cells #[.int .i64 a, .int .i64 b, .int .i64 c, .int .i64 d] 23)) (w.heap.size + 1) [.int .i64 a, .int .i64 y, .int .i64 z, .int .i64 u] 23 sz.symm
  have bb := below_alloc (w.alloc (.cells #[.int .i64 a, .int .i64 b, .int .i64 c, .int .i64 d] 23)) (.cells #[.int .i64 a, .int .i64 y, .int .i64 z, .int .i64 u] 23)
  replace vs := vs.mono bb
  replace B := below_trans B bb
  clear sz
  clear bb
  go_enter Tryd.func35, Tryd.ntmps35
  go_wp2_with fail
  generalize ((w.alloc (.cells #[.int .i64 a, .int .i64 b, .int .i64 c, .int .i64 d] 23)).alloc (.cells #[.int .i64 a, .int .i64 y, .int .i64 z, .int .i64 u] 23)) = w0 at *
  refine (HA.out _).mono ?_
  rintro e w1 ⟨rfl, b1⟩
  replace vs := vs.mono b1
  replace vt := vt.mono b1
  replace B := below_trans B b1
  clear b1
  have cvt0 := vt.cell (i := 0) (by simp)
  have cvt1 := vt.cell (i := 1) (by simp)
  have cvt2 := vt.cell (i := 2) (by simp)
  have cvt3 := vt.cell (i := 3) (by simp)
  simp only [List.getD_cons_zero, List.getD_cons_succ] at cvt0 cvt1 cvt2 cvt3
  go_wp2_with fail
  clear cvt0 cvt1 cvt2 cvt3
  refine (HB.out _).mono ?_
  rintro e w2 ⟨rfl, b2⟩
  replace vs := vs.mono b2
  replace vt := vt.mono b2
  replace B := below_trans B b2
  clear b2
  have cvs0 := vs.cell (i := 0) (by simp)
  have cvs1 := vs.cell (i := 1) (by simp)
  have cvs2 := vs.cell (i := 2) (by simp)
  have cvs3 := vs.cell (i := 3) (by simp)
  simp only [List.getD_cons_zero, List.getD_cons_succ] at cvs0 cvs1 cvs2 cvs3
  have cvt0 := vt.cell (i := 0) (by simp)
  have cvt1 := vt.cell (i := 1) (by simp)
  have cvt2 := vt.cell (i := 2) (by simp)
  have cvt3 := vt.cell (i := 3) (by simp)
  simp only [List.getD_cons_zero, List.getD_cons_succ] at cvt0 cvt1 cvt2 cvt3
  go_wp2_with fail
  clear cvs0 cvs1 cvs2 cvs3 cvt0 cvt1 cvt2 cvt3
  rw [K1.out, K2.out, K3.out]
  refine (HR.out _).mono ?_
  rintro e w3 ⟨v1, v2, rfl, h5, h6, b3⟩
  replace vs := vs.mono b3
  replace vt := vt.mono b3
  replace B := below_trans B b3
  clear b3
  go_wp2_with fail
  refine (HC.out _ _ _ h5 h6).mono ?_
  rintro e w4 ⟨rfl, b4⟩
  replace vs := vs.mono b4
  replace vt := vt.mono b4
  replace h5 := h5.mono b4
  replace h6 := h6.mono b4
  replace B := below_trans B b4
  clear b4
  go_wp2
  go_ret2
  exact ⟨rfl, B⟩

set_option maxRecDepth 100000 in
theorem cmpT_ne2 (a b c d z u : Int) (w : World) (hs : validB a b c d = true) (ht : validB a b z u = true) (hne : ¬ c = z) :
    Calls Tryd.prog 35 #[.agg #[.int .i64 a, .int .i64 b, .int .i64 c, .int .i64 d], .agg #[.int .i64 a, .int .i64 b, .int .i64 z, .int .i64 u]] w fun e w' => e = .returned (.tuple #[.int .i64 (cmpT ⟨a, b, c, d⟩ ⟨a, b, z, u⟩), .int .i64 0]) ∧ Below w.heap.size w w' := by
  obtain ⟨p1, p2, p3, p4, p5, p6⟩ := validB_parts hs
  obtain ⟨q1, q2, q3, q4, q5, q6⟩ := validB_parts ht
  have VA := fun w : World => tvalid_calls a b c d w (by omega) (by omega) (by omega) (by omega)
  have VB := fun w : World => tvalid_calls a b z u w (by omega) (by omega) (by omega) (by omega)
  rw [hs] at VA
  rw [ht] at VB
  have HA := Lib.hid VA
  have HB := Lib.hid VB
  obtain ⟨g1, k1⟩ := dif_parts (a := a) (x := a) (d := d) (u := u) (by omega) (by omega) (by omega) (by omega)
  obtain ⟨g2, k2⟩ := dif_parts (a := b) (x := b) (d := d) (u := u) (by omega) (by omega) (by omega) (by omega)
  obtain ⟨g3, k3⟩ := dif_parts (a := c) (x := z) (d := d) (u := u) (by omega) (by omega) (by omega) (by omega)
  have R := fun w : World => ratio_calls (a * u - a * d) (b * u - b * d) (c * u - z * d) w (by omega) (by omega) (by omega)
  have l1 := over_len (a := a * u - a * d) (b := b * u - b * d) (c := c * u - z * d) (by omega) (by omega) (by omega)
  have l2 := under_len (a := a * u - a * d) (b := b * u - b * d) (c := c * u - z * d) (by omega) (by omega) (by omega)
  have e0 : cmpT ⟨a, b, c, d⟩ ⟨a, b, z, u⟩ = cmpInt (overN (a * u - a * d) (b * u - b * d) (c * u - z * d)) (underN (a * u - a * d) (b * u - b * d) (c * u - z * d)) := rfl
  rw [e0]
  have C := fun (v1 v2 : Value) (w : World) (h1 : Num w v1 _) (h2 : Num w v2 _) => cmp_ok v1 v2 (overN (a * u - a * d) (b * u - b * d) (c * u - z * d)) (underN (a * u - a * d) (b * u - b * d) (c * u - z * d)) w h1 h2 ⟨by omega, by omega⟩
  generalize overN (a * u - a * d) (b * u - b * d) (c * u - z * d) = O at *
  generalize underN (a * u - a * d) (b * u - b * d) (c * u - z * d) = U at *
  generalize cmpInt O U = r at *
  have HR := Lib.hid R
  have HC := Lib.hid C
  have K1 := Lib.hid k1
  have K2 := Lib.hid k2
  have K3 := Lib.hid k3
  clear VA VB R C hs ht p1 p2 p3 p4 p5 p6 q1 q2 q3 q4 q5 q6 g1 g2 g3 k1 k2 k3 l1 l2 e0
  have vs := Vals.newL w (w.heap.size) [.int .i64 a, .int .i64 b, .int .i64 c, .int .i64 d] 23 rfl
  have bb := below_alloc w (.cells #[.int .i64 a, .int .i64 b, .int .i64 c, .int .i64 d] 23)
  have B := bb
  have sz0 := World.size_alloc w (.cells #[.int .i64 a, .int .i64 b, .int .i64 c, .int .i64 d] 23)
  have sz := sz0
  clear sz0
  clear bb
  have vt := Vals.newL (w.alloc (.cells #[.int .i64 a, .int .i64 b, .int .i64 c, .int .i64 d] 23)) (w.heap.size + 1) [.int .i64 a, .int .i64 b, .int .i64 z, .int .i64 u] 23 sz.symm
  have bb := below_alloc (w.alloc (.cells #[.int .i64 a, .int .i64 b, .int .i64 c, .int .i64 d] 23)) (.cells #[.int .i64 a, .int .i64 b, .int .i64 z, .int .i64 u] 23)
  replace vs := vs.mono bb
  replace B := below_trans B bb
  clear sz
  clear bb
  go_enter Tryd.func35, Tryd.ntmps35
  go_wp2_with fail
  generalize ((w.alloc (.cells #[.int .i64 a, .int .i64 b, .int .i64 c, .int .i64 d] 23)).alloc (.cells #[.int .i64 a, .int .i64 b, .int .i64 z, .int .i64 u] 23)) = w0 at *
  refine (HA.out _).mono ?_
  rintro e w1 ⟨rfl, b1⟩
  replace vs := vs.mono b1
  replace vt := vt.mono b1
  replace B := below_trans B b1
  clear b1
  have cvt0 := vt.cell (i := 0) (by simp)
  have cvt1 := vt.cell (i := 1) (by simp)
  have cvt2 := vt.cell (i := 2) (by simp)
  have cvt3 := vt.cell (i := 3) (by simp)
  simp only [List.getD_cons_zero, List.getD_cons_succ] at cvt0 cvt1 cvt2 cvt3
  go_wp2_with fail
  clear cvt0 cvt1 cvt2 cvt3
  refine (HB.out _).mono ?_
  rintro e w2 ⟨rfl, b2⟩
  replace vs := vs.mono b2
  replace vt := vt.mono b2
  replace B := below_trans B b2
  clear b2
  have cvs0 := vs.cell (i := 0) (by simp)
  have cvs1 := vs.cell (i := 1) (by simp)
  have cvs2 := vs.cell (i := 2) (by simp)
  have cvs3 := vs.cell (i := 3) (by simp)
  simp only [List.getD_cons_zero, List.getD_cons_succ] at cvs0 cvs1 cvs2 cvs3
  have cvt0 := vt.cell (i := 0) (by simp)
  have cvt1 := vt.cell (i := 1) (by simp)
  have cvt2 := vt.cell (i := 2) (by simp)
  have cvt3 := vt.cell (i := 3) (by simp)
  simp only [List.getD_cons_zero, List.getD_cons_succ] at cvt0 cvt1 cvt2 cvt3
  go_wp2_with fail
  clear cvs0 cvs1 cvs2 cvs3 cvt0 cvt1 cvt2 cvt3
  rw [K1.out, K2.out, K3.out]
  refine (HR.out _).mono ?_
  rintro e w3 ⟨v1, v2, rfl, h5, h6, b3⟩
  replace vs := vs.mono b3
  replace vt := vt.mono b3
  replace B := below_trans B b3
  clear b3
  go_wp2_with fail
  refine (HC.out _ _ _ h5 h6).mono ?_
  rintro e w4 ⟨rfl, b4⟩
  replace vs := vs.mono b4
  replace vt := vt.mono b4
  replace h5 := h5.mono b4
  replace h6 := h6.mono b4
  replace B := below_trans B b4
  clear b4
  go_wp2
  go_ret2
  exact ⟨rfl, B⟩

set_option maxRecDepth 100000 in
theorem cmpT_ne3 (a b c d u : Int) (w : World) (hs : validB a b c d = true) (ht : validB a b c u = true) (hne : ¬ d = u) :
    Calls Tryd.prog 35 #[.agg #[.int .i64 a, .int .i64 b, .int .i64 c, .int .i64 d], .agg #[.int .i64 a, .int .i64 b, .int .i64 c, .int .i64 u]] w fun e w' => e = .returned (.tuple #[.int .i64 (cmpT ⟨a, b, c, d⟩ ⟨a, b, c, u⟩), .int .i64 0]) ∧ Below w.heap.size w w' := by
  obtain ⟨p1, p2, p3, p4, p5, p6⟩ := validB_parts hs
  obtain ⟨q1, q2, q3, q4, q5, q6⟩ := validB_parts ht
  have VA := fun w : World => tvalid_calls a b c d w (by omega) (by omega) (by omega) (by omega)
  have VB := fun w : World => tvalid_calls a b c u w (by omega) (by omega) (by omega) (by omega)
  rw [hs] at VA
  rw [ht] at VB
  have HA := Lib.hid VA
  have HB := Lib.hid VB
  obtain ⟨g1, k1⟩ := dif_parts (a := a) (x := a) (d := d) (u := u) (by omega) (by omega) (by omega) (by omega)
  obtain ⟨g2, k2⟩ := dif_parts (a := b) (x := b) (d := d) (u := u) (by omega) (by omega) (by omega) (by omega)
  obtain ⟨g3, k3⟩ := dif_parts (a := c) (x := c) (d := d) (u := u) (by omega) (by omega) (by omega) (by omega)
  have R := fun w : World => ratio_calls (a * u - a * d) (b * u - b * d) (c * u - c * d) w (by omega) (by omega) (by omega)
  have l1 := over_len (a := a * u - a * d) (b := b * u - b * d) (c := c * u - c * d) (by omega) (by omega) (by omega)
  have l2 := under_len (a := a * u - a * d) (b := b * u - b * d) (c := c * u - c * d) (by omega) (by omega) (by omega)
  have e0 : cmpT ⟨a, b, c, d⟩ ⟨a, b, c, u⟩ = cmpInt (overN (a * u - a * d) (b * u - b * d) (c * u - c * d)) (underN (a * u - a * d) (b * u - b * d) (c * u - c * d)) := rfl
  rw [e0]
  have C := fun (v1 v2 : Value) (w : World) (h1 : Num w v1 _) (h2 : Num w v2 _) => cmp_ok v1 v2 (overN (a * u - a * d) (b * u - b * d) (c * u - c * d)) (underN (a * u - a * d) (b * u - b * d) (c * u - c * d)) w h1 h2 ⟨by omega, by omega⟩
  generalize overN (a * u - a * d) (b * u - b * d) (c * u - c * d) = O at *
  generalize underN (a * u - a * d) (b * u - b * d) (c * u - c * d) = U at *
  generalize cmpInt O U = r at *
  have HR := Lib.hid R
  have HC := Lib.hid C
  have K1 := Lib.hid k1
  have K2 := Lib.hid k2
  have K3 := Lib.hid k3
  clear VA VB R C hs ht p1 p2 p3 p4 p5 p6 q1 q2 q3 q4 q5 q6 g1 g2 g3 k1 k2 k3 l1 l2 e0
  have vs := Vals.newL w (w.heap.size) [.int .i64 a, .int .i64 b, .int .i64 c, .int .i64 d] 23 rfl
  have bb := below_alloc w (.cells #[.int .i64 a, .int .i64 b, .int .i64 c, .int .i64 d] 23)
  have B := bb
  have sz0 := World.size_alloc w (.cells #[.int .i64 a, .int .i64 b, .int .i64 c, .int .i64 d] 23)
  have sz := sz0
  clear sz0
  clear bb
  have vt := Vals.newL (w.alloc (.cells #[.int .i64 a, .int .i64 b, .int .i64 c, .int .i64 d] 23)) (w.heap.size + 1) [.int .i64 a, .int .i64 b, .int .i64 c, .int .i64 u] 23 sz.symm
  have bb := below_alloc (w.alloc (.cells #[.int .i64 a, .int .i64 b, .int .i64 c, .int .i64 d] 23)) (.cells #[.int .i64 a, .int .i64 b, .int .i64 c, .int .i64 u] 23)
  replace vs := vs.mono bb
  replace B := below_trans B bb
  clear sz
  clear bb
  go_enter Tryd.func35, Tryd.ntmps35
  go_wp2_with fail
  generalize ((w.alloc (.cells #[.int .i64 a, .int .i64 b, .int .i64 c, .int .i64 d] 23)).alloc (.cells #[.int .i64 a, .int .i64 b, .int .i64 c, .int .i64 u] 23)) = w0 at *
  refine (HA.out _).mono ?_
  rintro e w1 ⟨rfl, b1⟩
  replace vs := vs.mono b1
  replace vt := vt.mono b1
  replace B := below_trans B b1
  clear b1
  have cvt0 := vt.cell (i := 0) (by simp)
  have cvt1 := vt.cell (i := 1) (by simp)
  have cvt2 := vt.cell (i := 2) (by simp)
  have cvt3 := vt.cell (i := 3) (by simp)
  simp only [List.getD_cons_zero, List.getD_cons_succ] at cvt0 cvt1 cvt2 cvt3
  go_wp2_with fail
  clear cvt0 cvt1 cvt2 cvt3
  refine (HB.out _).mono ?_
  rintro e w2 ⟨rfl, b2⟩
  replace vs := vs.mono b2
  replace vt := vt.mono b2
  replace B := below_trans B b2
  clear b2
  have cvs0 := vs.cell (i := 0) (by simp)
  have cvs1 := vs.cell (i := 1) (by simp)
  have cvs2 := vs.cell (i := 2) (by simp)
  have cvs3 := vs.cell (i := 3) (by simp)
  simp only [List.getD_cons_zero, List.getD_cons_succ] at cvs0 cvs1 cvs2 cvs3
  have cvt0 := vt.cell (i := 0) (by simp)
  have cvt1 := vt.cell (i := 1) (by simp)
  have cvt2 := vt.cell (i := 2) (by simp)
  have cvt3 := vt.cell (i := 3) (by simp)
  simp only [List.getD_cons_zero, List.getD_cons_succ] at cvt0 cvt1 cvt2 cvt3
  go_wp2_with fail
  clear cvs0 cvs1 cvs2 cvs3 cvt0 cvt1 cvt2 cvt3
  rw [K1.out, K2.out, K3.out]
  refine (HR.out _).mono ?_
  rintro e w3 ⟨v1, v2, rfl, h5, h6, b3⟩
  replace vs := vs.mono b3
  replace vt := vt.mono b3
  replace B := below_trans B b3
  clear b3
  go_wp2_with fail
  refine (HC.out _ _ _ h5 h6).mono ?_
  rintro e w4 ⟨rfl, b4⟩
  replace vs := vs.mono b4
  replace vt := vt.mono b4
  replace h5 := h5.mono b4
  replace h6 := h6.mono b4
  replace B := below_trans B b4
  clear b4
  go_wp2
  go_ret2
  exact ⟨rfl, B⟩

theorem cmpT_ok (s t : T4) (w : World) (hs : validB s.a s.b s.c s.d = true) (ht : validB t.a t.b t.c t.d = true) :
    Calls Tryd.prog 35 #[.agg #[.int .i64 s.a, .int .i64 s.b, .int .i64 s.c, .int .i64 s.d], .agg #[.int .i64 t.a, .int .i64 t.b, .int .i64 t.c, .int .i64 t.d]] w fun e w' => e = .returned (.tuple #[.int .i64 (cmpT s t), .int .i64 0]) ∧ Below w.heap.size w w' := by
  obtain ⟨a, b, c, d⟩ := s
  obtain ⟨x, y, z, u⟩ := t
  by_cases h1 : a = x
  · subst h1
    by_cases h2 : b = y
    · subst h2
      by_cases h3 : c = z
      · subst h3
        by_cases h4 : d = u
        · subst h4
          rw [cmpT_self]
          exact cmpT_same ⟨a, b, c, d⟩ w hs
        · exact cmpT_ne3 a b c d u w hs ht h4
      · exact cmpT_ne2 a b c d z u w hs ht h3
    · exact cmpT_ne1 a b c d y z u w hs ht h2
  · exact cmpT_ne0 a b c d x y z u w hs ht h1

theorem cmpT_bad (s t : T4) (w : World) (hA : i64 s.a ∧ i64 s.b ∧ i64 s.c ∧ i64 s.d) (hB : i64 t.a ∧ i64 t.b ∧ i64 t.c ∧ i64 t.d) (hn : ¬ (validB s.a s.b s.c s.d = true ∧ validB t.a t.b t.c t.d = true)) :
    Calls Tryd.prog 35 #[.agg #[.int .i64 s.a, .int .i64 s.b, .int .i64 s.c, .int .i64 s.d], .agg #[.int .i64 t.a, .int .i64 t.b, .int .i64 t.c, .int .i64 t.d]] w fun e w' => e = .returned (.tuple #[.int .i64 0, .int .i64 2]) ∧ Below w.heap.size w w' := by
  cases hs : validB s.a s.b s.c s.d
  · exact cmpT_bad0 s t w hA hB hs
  · cases ht : validB t.a t.b t.c t.d
    · exact cmpT_bad1 s t w hA hB hs ht
    · exact absurd ⟨hs, ht⟩ hn

end Go.Proofs
