/- The reference's Times and Freq. -/
import Derived.Test.YtnogieknjcbchaaDoorTRef4
import Derived.Test.YtnogieknjcbchaaDoorTone10
import Derived.Test.YtnogieknjcbchaaDoorRefB
import Derived.Test.YtnogieknjcbchaaDoorRefA
import Derived.Deep.RegionHeld3
open Go.RowKit Go.Deep
namespace Go.Proofs
set_option linter.unusedVariables false
set_option linter.unusedSimpArgs false

theorem pow_one_le (r n : Nat) (hn : 1 ≤ n) : r ^ 1 ≤ r ^ n := by
  by_cases h : r = 0
  · subst h; rw [Nat.pow_one]; exact Nat.zero_le _
  · exact Nat.pow_le_pow_right (by omega) hn

/-- a number and whether it is exact -/
def RetTimes (w : World) (r : Nat) (b : Bool) (e : Ending) (w' : World) : Prop := ∃ v, e = .returned (.tuple #[v, .bool b]) ∧ Num w' v r ∧ Below w.heap.size w w'

set_option maxRecDepth 100000 in
set_option maxHeartbeats 400000 in
theorem rtimesT_rest (base r : Nat) (s : T4) (w : World) (hb : base < 18446744073709551616) (hs : validB s.a s.b s.c s.d = true) (hr : IsRoot (freqQ base s) s.d.toNat r) (hk : (base ^ s.d.toNat * overN s.a s.b s.c) % underN s.a s.b s.c ≠ 0) :
    Calls Tryd.prog 15 #[.int .u64 (base : Int), .agg #[.int .i64 s.a, .int .i64 s.b, .int .i64 s.c, .int .i64 s.d]] w (RetTimes w r false) := by
  obtain ⟨l1, l2, l3, l4, l5, l6, l7⟩ := freqP_len hb hs
  obtain ⟨p1, p2, p3, p4, p5, p6⟩ := validB_parts hs
  have n2 := under_ne s.a s.b s.c
  have R := fun w : World => rsides_calls s.a s.b s.c w (by omega) (by omega) (by omega)
  have OF := fun w : World => rof_calls base (base : Int) w rfl hb
  have hd : s.d = (s.d.toNat : Int) := by omega
  have PW := fun (v : Value) (w : World) (h : Num w v base) => rpow_calls v base s.d.toNat s.d w h hd (by omega) (by omega) (by omega)
  have ML := fun (v1 v2 : Value) (w : World) (h1 : Num w v1 (base ^ s.d.toNat)) (h2 : Num w v2 (overN s.a s.b s.c)) => rmul_calls v1 v2 _ _ w h1 h2 (by omega) (by omega)
  have DV := fun (v1 v2 : Value) (w : World) (h1 : Num w v1 (base ^ s.d.toNat * overN s.a s.b s.c)) (h2 : Num w v2 (underN s.a s.b s.c)) => rdivmod_calls v1 v2 _ _ w h1 h2 n2 (by omega) (by omega)
  have RT := fun (v : Value) (w : World) (h : Num w v (freqQ base s)) => rroot_calls v _ s.d.toNat r s.d w h hd (by omega) (by omega) (by omega) hr
  change ∀ (v1 v2 : Value) (w : World) (h1 : Num w v1 (base ^ s.d.toNat * overN s.a s.b s.c)) (h2 : Num w v2 (underN s.a s.b s.c)), Calls _ _ _ w (RetTwo w (freqQ base s) _) at DV
  have lr := limbs_length_mono (show r ≤ freqQ base s by
    have q1 := hr.1
    have q2 : r ^ 1 ≤ r ^ s.d.toNat := pow_one_le r _ (by omega)
    rw [Nat.pow_one] at q2
    omega)
  have lrp := limbs_length_mono hr.1
  have lrn : (limbs r).length * s.d.toNat ≤ 600 * 24 := Nat.mul_le_mul (by omega) (by omega)
  have PW2 := fun (v : Value) (w : World) (h : Num w v r) => rpow_calls v r s.d.toNat s.d w h hd (by omega) (by omega) (by omega)
  have CM := fun (v1 v2 : Value) (w : World) (h1 : Num w v1 (r ^ s.d.toNat)) (h2 : Num w v2 (freqQ base s)) => rcmp_calls v1 v2 _ _ w _ h1 h2 rfl (by omega) (by omega)
  have hr1 : r ^ s.d.toNat ≤ freqQ base s := hr.1
  generalize hq : freqQ base s = Q at *
  generalize base ^ s.d.toNat * overN s.a s.b s.c = M at *
  generalize base ^ s.d.toNat = P at *
  generalize overN s.a s.b s.c = O at *
  generalize underN s.a s.b s.c = U at *
  generalize r ^ s.d.toNat = rp at *
  generalize M % U = L at *
  have HR := Lib.hid R
  have HOF := Lib.hid OF
  have HPW := Lib.hid PW
  have HML := Lib.hid ML
  have HDV := Lib.hid DV
  have HRT := Lib.hid RT
  have t1 : (((limbs L).length : Int) == 0) = false := by
    rw [beq_eq_false_iff_ne]
    intro h
    exact hk (limbs_eq_nil.1 (List.eq_nil_of_length_eq_zero (by omega)))
  clear hk
  clear R OF PW ML DV RT PW2 CM hd l1 l2 l3 l4 l5 l6 l7 p1 p2 p3 p4 p5 p6 n2 hs hb hr hq lr lrp lrn hr1
  have vs := Vals.newL w (w.heap.size) [.int .i64 s.a, .int .i64 s.b, .int .i64 s.c, .int .i64 s.d] 23 rfl
  have bb := below_alloc w (.cells #[.int .i64 s.a, .int .i64 s.b, .int .i64 s.c, .int .i64 s.d] 23)
  have B := bb
  clear bb
  go_enter Tryd.func15, Tryd.ntmps15
  go_wp2_with fail
  generalize (w.alloc (.cells #[.int .i64 s.a, .int .i64 s.b, .int .i64 s.c, .int .i64 s.d] 23)) = w0 at *
  refine (HR.out _).mono ?_
  rintro e w1 ⟨v1, v2, rfl, h5, h6, b1⟩
  replace vs := vs.mono b1
  replace B := below_trans B b1
  clear b1
  go_upto_region 2 with (fail)
  replace h5 := Num.drew' h5
  replace h6 := Num.drew' h6
  go_region_held3 (fun w' => w'.cell? ⟨w.heap.size, 0, none⟩ = some (.int .i64 s.a) ∧ w'.cell? ⟨w.heap.size, 1, none⟩ = some (.int .i64 s.b) ∧ w'.cell? ⟨w.heap.size, 2, none⟩ = some (.int .i64 s.c) ∧ w'.cell? ⟨w.heap.size, 3, none⟩ = some (.int .i64 s.d))
    (first | exact vals4 vs | exact vals4 vs.drew)
    (first | (go_at_call 36; (with_reducible refine (HOF.out _).mono ?_); rintro e w5 ⟨v3, rfl, h7, _, b5⟩; replace vs := vs.drew.mono b5; replace h5 := h5.mono b5; replace h6 := h6.mono b5; replace B := below_trans B.drew b5; clear b5)
           | (go_at_call 35; (with_reducible refine (HPW.out _ _ h7).mono ?_); rintro e w6 ⟨v4, rfl, h8, _, b6⟩; replace vs := vs.mono b6; replace h5 := h5.mono b6; replace h6 := h6.mono b6; replace B := below_trans B b6; clear b6)
           | (go_at_call 34; (with_reducible refine (HML.out _ _ _ h8 h5).mono ?_); rintro e w7 ⟨v5, rfl, h9, _, b7⟩; replace vs := vs.mono b7; replace h6 := h6.mono b7; replace B := below_trans B b7; clear b7))
  clear h7 h8 h5
  go_wp2_with fail
  refine (HDV.out _ _ _ h9 h6).mono ?_
  rintro e w8 ⟨v6, v7, rfl, h10, h11, b8⟩
  replace vs := vs.mono b8
  replace h6 := h6.mono b8
  replace h9 := h9.mono b8
  replace B := below_trans B b8
  clear b8
  clear h9 h6
  have cvs0 := vs.cell (i := 0) (by simp)
  have cvs1 := vs.cell (i := 1) (by simp)
  have cvs2 := vs.cell (i := 2) (by simp)
  have cvs3 := vs.cell (i := 3) (by simp)
  simp only [List.getD_cons_zero, List.getD_cons_succ] at cvs0 cvs1 cvs2 cvs3
  have ltvs := vs.lt
  go_wp2_with fail
  clear cvs0 cvs1 cvs2 cvs3 ltvs
  refine (HRT.out _ _ h10).mono ?_
  rintro e w9 ⟨v8, rfl, h12, b9⟩
  replace vs := vs.mono b9
  replace h10 := h10.mono b9
  replace h11 := h11.mono b9
  replace B := below_trans B b9
  clear b9
  obtain ⟨ad7, c7, rfl, s7⟩ := h11
  clear s7
  go_wp2
  go_ret2
  exact ⟨_, rfl, h12, B⟩

set_option maxRecDepth 100000 in
set_option maxHeartbeats 400000 in
theorem rtimesT_yes (base r : Nat) (s : T4) (w : World) (hb : base < 18446744073709551616) (hs : validB s.a s.b s.c s.d = true) (hr : IsRoot (freqQ base s) s.d.toNat r) (hk : (base ^ s.d.toNat * overN s.a s.b s.c) % underN s.a s.b s.c = 0) (hj : r ^ s.d.toNat = freqQ base s) :
    Calls Tryd.prog 15 #[.int .u64 (base : Int), .agg #[.int .i64 s.a, .int .i64 s.b, .int .i64 s.c, .int .i64 s.d]] w (RetTimes w r true) := by
  obtain ⟨l1, l2, l3, l4, l5, l6, l7⟩ := freqP_len hb hs
  obtain ⟨p1, p2, p3, p4, p5, p6⟩ := validB_parts hs
  have n2 := under_ne s.a s.b s.c
  have R := fun w : World => rsides_calls s.a s.b s.c w (by omega) (by omega) (by omega)
  have OF := fun w : World => rof_calls base (base : Int) w rfl hb
  have hd : s.d = (s.d.toNat : Int) := by omega
  have PW := fun (v : Value) (w : World) (h : Num w v base) => rpow_calls v base s.d.toNat s.d w h hd (by omega) (by omega) (by omega)
  have ML := fun (v1 v2 : Value) (w : World) (h1 : Num w v1 (base ^ s.d.toNat)) (h2 : Num w v2 (overN s.a s.b s.c)) => rmul_calls v1 v2 _ _ w h1 h2 (by omega) (by omega)
  have DV := fun (v1 v2 : Value) (w : World) (h1 : Num w v1 (base ^ s.d.toNat * overN s.a s.b s.c)) (h2 : Num w v2 (underN s.a s.b s.c)) => rdivmod_calls v1 v2 _ _ w h1 h2 n2 (by omega) (by omega)
  have RT := fun (v : Value) (w : World) (h : Num w v (freqQ base s)) => rroot_calls v _ s.d.toNat r s.d w h hd (by omega) (by omega) (by omega) hr
  change ∀ (v1 v2 : Value) (w : World) (h1 : Num w v1 (base ^ s.d.toNat * overN s.a s.b s.c)) (h2 : Num w v2 (underN s.a s.b s.c)), Calls _ _ _ w (RetTwo w (freqQ base s) _) at DV
  have lr := limbs_length_mono (show r ≤ freqQ base s by
    have q1 := hr.1
    have q2 : r ^ 1 ≤ r ^ s.d.toNat := pow_one_le r _ (by omega)
    rw [Nat.pow_one] at q2
    omega)
  have lrp := limbs_length_mono hr.1
  have lrn : (limbs r).length * s.d.toNat ≤ 600 * 24 := Nat.mul_le_mul (by omega) (by omega)
  have PW2 := fun (v : Value) (w : World) (h : Num w v r) => rpow_calls v r s.d.toNat s.d w h hd (by omega) (by omega) (by omega)
  have CM := fun (v1 v2 : Value) (w : World) (h1 : Num w v1 (r ^ s.d.toNat)) (h2 : Num w v2 (freqQ base s)) => rcmp_calls v1 v2 _ _ w _ h1 h2 rfl (by omega) (by omega)
  have hr1 : r ^ s.d.toNat ≤ freqQ base s := hr.1
  generalize hq : freqQ base s = Q at *
  generalize base ^ s.d.toNat * overN s.a s.b s.c = M at *
  generalize base ^ s.d.toNat = P at *
  generalize overN s.a s.b s.c = O at *
  generalize underN s.a s.b s.c = U at *
  generalize r ^ s.d.toNat = rp at *
  generalize M % U = L at *
  have HR := Lib.hid R
  have HOF := Lib.hid OF
  have HPW := Lib.hid PW
  have HML := Lib.hid ML
  have HDV := Lib.hid DV
  have HRT := Lib.hid RT
  have t1 : (((limbs L).length : Int) == 0) = true := by rw [hk, limbs_zero]; rfl
  have HPW2 := Lib.hid PW2
  rw [show cmpInt rp Q = 0 from (cmpInt_zero _ _).2 hj] at CM
  have HCM := Lib.hid CM
  clear hj
  clear hk
  clear R OF PW ML DV RT PW2 CM hd l1 l2 l3 l4 l5 l6 l7 p1 p2 p3 p4 p5 p6 n2 hs hb hr hq lr lrp lrn hr1
  have vs := Vals.newL w (w.heap.size) [.int .i64 s.a, .int .i64 s.b, .int .i64 s.c, .int .i64 s.d] 23 rfl
  have bb := below_alloc w (.cells #[.int .i64 s.a, .int .i64 s.b, .int .i64 s.c, .int .i64 s.d] 23)
  have B := bb
  clear bb
  go_enter Tryd.func15, Tryd.ntmps15
  go_wp2_with fail
  generalize (w.alloc (.cells #[.int .i64 s.a, .int .i64 s.b, .int .i64 s.c, .int .i64 s.d] 23)) = w0 at *
  refine (HR.out _).mono ?_
  rintro e w1 ⟨v1, v2, rfl, h5, h6, b1⟩
  replace vs := vs.mono b1
  replace B := below_trans B b1
  clear b1
  go_upto_region 2 with (fail)
  replace h5 := Num.drew' h5
  replace h6 := Num.drew' h6
  go_region_held3 (fun w' => w'.cell? ⟨w.heap.size, 0, none⟩ = some (.int .i64 s.a) ∧ w'.cell? ⟨w.heap.size, 1, none⟩ = some (.int .i64 s.b) ∧ w'.cell? ⟨w.heap.size, 2, none⟩ = some (.int .i64 s.c) ∧ w'.cell? ⟨w.heap.size, 3, none⟩ = some (.int .i64 s.d))
    (first | exact vals4 vs | exact vals4 vs.drew)
    (first | (go_at_call 36; (with_reducible refine (HOF.out _).mono ?_); rintro e w5 ⟨v3, rfl, h7, _, b5⟩; replace vs := vs.drew.mono b5; replace h5 := h5.mono b5; replace h6 := h6.mono b5; replace B := below_trans B.drew b5; clear b5)
           | (go_at_call 35; (with_reducible refine (HPW.out _ _ h7).mono ?_); rintro e w6 ⟨v4, rfl, h8, _, b6⟩; replace vs := vs.mono b6; replace h5 := h5.mono b6; replace h6 := h6.mono b6; replace B := below_trans B b6; clear b6)
           | (go_at_call 34; (with_reducible refine (HML.out _ _ _ h8 h5).mono ?_); rintro e w7 ⟨v5, rfl, h9, _, b7⟩; replace vs := vs.mono b7; replace h6 := h6.mono b7; replace B := below_trans B b7; clear b7))
  clear h7 h8 h5
  go_wp2_with fail
  refine (HDV.out _ _ _ h9 h6).mono ?_
  rintro e w8 ⟨v6, v7, rfl, h10, h11, b8⟩
  replace vs := vs.mono b8
  replace h6 := h6.mono b8
  replace h9 := h9.mono b8
  replace B := below_trans B b8
  clear b8
  clear h9 h6
  have cvs0 := vs.cell (i := 0) (by simp)
  have cvs1 := vs.cell (i := 1) (by simp)
  have cvs2 := vs.cell (i := 2) (by simp)
  have cvs3 := vs.cell (i := 3) (by simp)
  simp only [List.getD_cons_zero, List.getD_cons_succ] at cvs0 cvs1 cvs2 cvs3
  have ltvs := vs.lt
  go_wp2_with fail
  clear cvs0 cvs1 cvs2 cvs3 ltvs
  refine (HRT.out _ _ h10).mono ?_
  rintro e w9 ⟨v8, rfl, h12, b9⟩
  replace vs := vs.mono b9
  replace h10 := h10.mono b9
  replace h11 := h11.mono b9
  replace B := below_trans B b9
  clear b9
  obtain ⟨ad7, c7, rfl, s7⟩ := h11
  clear s7
  have cvs0 := vs.cell (i := 0) (by simp)
  have cvs1 := vs.cell (i := 1) (by simp)
  have cvs2 := vs.cell (i := 2) (by simp)
  have cvs3 := vs.cell (i := 3) (by simp)
  simp only [List.getD_cons_zero, List.getD_cons_succ] at cvs0 cvs1 cvs2 cvs3
  have ltvs := vs.lt
  go_wp2_with fail
  clear cvs0 cvs1 cvs2 cvs3 ltvs
  refine (HPW2.out _ _ h12).mono ?_
  rintro e w10 ⟨v9, rfl, h13, _, b10⟩
  replace vs := vs.mono b10
  replace h10 := h10.mono b10
  replace h12 := h12.mono b10
  replace B := below_trans B b10
  clear b10
  go_wp2_with fail
  refine (HCM.out _ _ _ h13 h10).mono ?_
  rintro e w11 ⟨rfl, b11⟩
  replace vs := vs.mono b11
  replace h10 := h10.mono b11
  replace h12 := h12.mono b11
  replace h13 := h13.mono b11
  replace B := below_trans B b11
  clear b11
  go_wp2
  go_ret2
  exact ⟨_, rfl, h12, B⟩

set_option maxRecDepth 100000 in
set_option maxHeartbeats 400000 in
theorem rtimesT_no (base r : Nat) (s : T4) (w : World) (hb : base < 18446744073709551616) (hs : validB s.a s.b s.c s.d = true) (hr : IsRoot (freqQ base s) s.d.toNat r) (hk : (base ^ s.d.toNat * overN s.a s.b s.c) % underN s.a s.b s.c = 0) (hj : r ^ s.d.toNat ≠ freqQ base s) :
    Calls Tryd.prog 15 #[.int .u64 (base : Int), .agg #[.int .i64 s.a, .int .i64 s.b, .int .i64 s.c, .int .i64 s.d]] w (RetTimes w r false) := by
  obtain ⟨l1, l2, l3, l4, l5, l6, l7⟩ := freqP_len hb hs
  obtain ⟨p1, p2, p3, p4, p5, p6⟩ := validB_parts hs
  have n2 := under_ne s.a s.b s.c
  have R := fun w : World => rsides_calls s.a s.b s.c w (by omega) (by omega) (by omega)
  have OF := fun w : World => rof_calls base (base : Int) w rfl hb
  have hd : s.d = (s.d.toNat : Int) := by omega
  have PW := fun (v : Value) (w : World) (h : Num w v base) => rpow_calls v base s.d.toNat s.d w h hd (by omega) (by omega) (by omega)
  have ML := fun (v1 v2 : Value) (w : World) (h1 : Num w v1 (base ^ s.d.toNat)) (h2 : Num w v2 (overN s.a s.b s.c)) => rmul_calls v1 v2 _ _ w h1 h2 (by omega) (by omega)
  have DV := fun (v1 v2 : Value) (w : World) (h1 : Num w v1 (base ^ s.d.toNat * overN s.a s.b s.c)) (h2 : Num w v2 (underN s.a s.b s.c)) => rdivmod_calls v1 v2 _ _ w h1 h2 n2 (by omega) (by omega)
  have RT := fun (v : Value) (w : World) (h : Num w v (freqQ base s)) => rroot_calls v _ s.d.toNat r s.d w h hd (by omega) (by omega) (by omega) hr
  change ∀ (v1 v2 : Value) (w : World) (h1 : Num w v1 (base ^ s.d.toNat * overN s.a s.b s.c)) (h2 : Num w v2 (underN s.a s.b s.c)), Calls _ _ _ w (RetTwo w (freqQ base s) _) at DV
  have lr := limbs_length_mono (show r ≤ freqQ base s by
    have q1 := hr.1
    have q2 : r ^ 1 ≤ r ^ s.d.toNat := pow_one_le r _ (by omega)
    rw [Nat.pow_one] at q2
    omega)
  have lrp := limbs_length_mono hr.1
  have lrn : (limbs r).length * s.d.toNat ≤ 600 * 24 := Nat.mul_le_mul (by omega) (by omega)
  have PW2 := fun (v : Value) (w : World) (h : Num w v r) => rpow_calls v r s.d.toNat s.d w h hd (by omega) (by omega) (by omega)
  have CM := fun (v1 v2 : Value) (w : World) (h1 : Num w v1 (r ^ s.d.toNat)) (h2 : Num w v2 (freqQ base s)) => rcmp_calls v1 v2 _ _ w _ h1 h2 rfl (by omega) (by omega)
  have hr1 : r ^ s.d.toNat ≤ freqQ base s := hr.1
  generalize hq : freqQ base s = Q at *
  generalize base ^ s.d.toNat * overN s.a s.b s.c = M at *
  generalize base ^ s.d.toNat = P at *
  generalize overN s.a s.b s.c = O at *
  generalize underN s.a s.b s.c = U at *
  generalize r ^ s.d.toNat = rp at *
  generalize M % U = L at *
  have HR := Lib.hid R
  have HOF := Lib.hid OF
  have HPW := Lib.hid PW
  have HML := Lib.hid ML
  have HDV := Lib.hid DV
  have HRT := Lib.hid RT
  have t1 : (((limbs L).length : Int) == 0) = true := by rw [hk, limbs_zero]; rfl
  have HPW2 := Lib.hid PW2
  have hc : cmpInt rp Q = -1 := by
    rw [cmpInt_lt]
    omega
  rw [hc] at CM
  have HCM := Lib.hid CM
  clear hj hc
  clear hk
  clear R OF PW ML DV RT PW2 CM hd l1 l2 l3 l4 l5 l6 l7 p1 p2 p3 p4 p5 p6 n2 hs hb hr hq lr lrp lrn hr1
  have vs := Vals.newL w (w.heap.size) [.int .i64 s.a, .int .i64 s.b, .int .i64 s.c, .int .i64 s.d] 23 rfl
  have bb := below_alloc w (.cells #[.int .i64 s.a, .int .i64 s.b, .int .i64 s.c, .int .i64 s.d] 23)
  have B := bb
  clear bb
  go_enter Tryd.func15, Tryd.ntmps15
  go_wp2_with fail
  generalize (w.alloc (.cells #[.int .i64 s.a, .int .i64 s.b, .int .i64 s.c, .int .i64 s.d] 23)) = w0 at *
  refine (HR.out _).mono ?_
  rintro e w1 ⟨v1, v2, rfl, h5, h6, b1⟩
  replace vs := vs.mono b1
  replace B := below_trans B b1
  clear b1
  go_upto_region 2 with (fail)
  replace h5 := Num.drew' h5
  replace h6 := Num.drew' h6
  go_region_held3 (fun w' => w'.cell? ⟨w.heap.size, 0, none⟩ = some (.int .i64 s.a) ∧ w'.cell? ⟨w.heap.size, 1, none⟩ = some (.int .i64 s.b) ∧ w'.cell? ⟨w.heap.size, 2, none⟩ = some (.int .i64 s.c) ∧ w'.cell? ⟨w.heap.size, 3, none⟩ = some (.int .i64 s.d))
    (first | exact vals4 vs | exact vals4 vs.drew)
    (first | (go_at_call 36; (with_reducible refine (HOF.out _).mono ?_); rintro e w5 ⟨v3, rfl, h7, _, b5⟩; replace vs := vs.drew.mono b5; replace h5 := h5.mono b5; replace h6 := h6.mono b5; replace B := below_trans B.drew b5; clear b5)
           | (go_at_call 35; (with_reducible refine (HPW.out _ _ h7).mono ?_); rintro e w6 ⟨v4, rfl, h8, _, b6⟩; replace vs := vs.mono b6; replace h5 := h5.mono b6; replace h6 := h6.mono b6; replace B := below_trans B b6; clear b6)
           | (go_at_call 34; (with_reducible refine (HML.out _ _ _ h8 h5).mono ?_); rintro e w7 ⟨v5, rfl, h9, _, b7⟩; replace vs := vs.mono b7; replace h6 := h6.mono b7; replace B := below_trans B b7; clear b7))
  clear h7 h8 h5
  go_wp2_with fail
  refine (HDV.out _ _ _ h9 h6).mono ?_
  rintro e w8 ⟨v6, v7, rfl, h10, h11, b8⟩
  replace vs := vs.mono b8
  replace h6 := h6.mono b8
  replace h9 := h9.mono b8
  replace B := below_trans B b8
  clear b8
  clear h9 h6
  have cvs0 := vs.cell (i := 0) (by simp)
  have cvs1 := vs.cell (i := 1) (by simp)
  have cvs2 := vs.cell (i := 2) (by simp)
  have cvs3 := vs.cell (i := 3) (by simp)
  simp only [List.getD_cons_zero, List.getD_cons_succ] at cvs0 cvs1 cvs2 cvs3
  have ltvs := vs.lt
  go_wp2_with fail
  clear cvs0 cvs1 cvs2 cvs3 ltvs
  refine (HRT.out _ _ h10).mono ?_
  rintro e w9 ⟨v8, rfl, h12, b9⟩
  replace vs := vs.mono b9
  replace h10 := h10.mono b9
  replace h11 := h11.mono b9
  replace B := below_trans B b9
  clear b9
  obtain ⟨ad7, c7, rfl, s7⟩ := h11
  clear s7
  have cvs0 := vs.cell (i := 0) (by simp)
  have cvs1 := vs.cell (i := 1) (by simp)
  have cvs2 := vs.cell (i := 2) (by simp)
  have cvs3 := vs.cell (i := 3) (by simp)
  simp only [List.getD_cons_zero, List.getD_cons_succ] at cvs0 cvs1 cvs2 cvs3
  have ltvs := vs.lt
  go_wp2_with fail
  clear cvs0 cvs1 cvs2 cvs3 ltvs
  refine (HPW2.out _ _ h12).mono ?_
  rintro e w10 ⟨v9, rfl, h13, _, b10⟩
  replace vs := vs.mono b10
  replace h10 := h10.mono b10
  replace h12 := h12.mono b10
  replace B := below_trans B b10
  clear b10
  go_wp2_with fail
  refine (HCM.out _ _ _ h13 h10).mono ?_
  rintro e w11 ⟨rfl, b11⟩
  replace vs := vs.mono b11
  replace h10 := h10.mono b11
  replace h12 := h12.mono b11
  replace h13 := h13.mono b11
  replace B := below_trans B b11
  clear b11
  go_wp2
  go_ret2
  exact ⟨_, rfl, h12, B⟩

/-- is the frequency exact -/
def exactT (base : Nat) (s : T4) (r : Nat) : Bool := decide ((base ^ s.d.toNat * overN s.a s.b s.c) % underN s.a s.b s.c = 0 ∧ r ^ s.d.toNat = freqQ base s)
theorem rtimesT_calls (base r : Nat) (s : T4) (w : World) (hb : base < 18446744073709551616) (hs : validB s.a s.b s.c s.d = true) (hr : IsRoot (freqQ base s) s.d.toNat r) :
    Calls Tryd.prog 15 #[.int .u64 (base : Int), .agg #[.int .i64 s.a, .int .i64 s.b, .int .i64 s.c, .int .i64 s.d]] w (RetTimes w r (exactT base s r)) := by
  unfold exactT
  by_cases hk : (base ^ s.d.toNat * overN s.a s.b s.c) % underN s.a s.b s.c = 0
  · by_cases hj : r ^ s.d.toNat = freqQ base s
    · rw [decide_eq_true ⟨hk, hj⟩]; exact rtimesT_yes base r s w hb hs hr hk hj
    · rw [decide_eq_false fun h => hj h.2]; exact rtimesT_no base r s w hb hs hr hk hj
  · rw [decide_eq_false fun h => hk h.1]; exact rtimesT_rest base r s w hb hs hr hk

end Go.Proofs
