/- tone: Freq. -/
import Derived.Test.YthkeekoljediiaaToneB
import Derived.Test.YthkeekoljediiaaToneA
import Derived.Test.YthkeekoljediiaaNatD
import Derived.Deep.RegionHeld3
open Go.RowKit Go.Deep
namespace Go.Proofs
set_option linter.unusedVariables false
set_option linter.unusedSimpArgs false
theorem Num.drew' {w : World} {v : Value} {n : Nat} (h : Num w v n) : Num w.drew v n := h

/-- the quotient whose root is the frequency -/
def freqQ (base : Nat) (s : T4) : Nat := base ^ s.d.toNat * overN s.a s.b s.c / underN s.a s.b s.c

theorem freqP_len {base : Nat} {s : T4} (hb : base < 18446744073709551616) (hs : validB s.a s.b s.c s.d = true) :
    (limbs base).length ≤ 2 ∧ (limbs base).length * s.d.toNat ≤ 262143 ∧ (limbs (base ^ s.d.toNat)).length ≤ 200 ∧ (limbs (overN s.a s.b s.c)).length ≤ 300 ∧ (limbs (underN s.a s.b s.c)).length ≤ 300 ∧ (limbs (base ^ s.d.toNat * overN s.a s.b s.c)).length ≤ 600 ∧ (limbs (freqQ base s)).length ≤ 600 := by
  obtain ⟨p1, p2, p3, p4, p5, p6⟩ := validB_parts hs
  have h2 : (limbs base).length ≤ 2 := limbs_bits (x := base) (k := 2) (by simpa using hb)
  have hd : s.d.toNat ≤ 24 := by omega
  have hp : (limbs (base ^ s.d.toNat)).length ≤ 200 := by
    have q1 := limbs_length_pow base s.d.toNat
    have q2 := Nat.mul_le_mul h2 hd
    omega
  have o1 : ∀ a b c : Int, a.natAbs ≤ 960 → b.natAbs ≤ 960 → c.natAbs ≤ 960 → (limbs (overN a b c)).length ≤ 300 := by
    intro a b c ha hb hc
    unfold overN
    have t2 := limbs_two a.toNat
    have t3 := limbs_three b.toNat
    have t5 := limbs_five c.toNat
    have m1 := limbs_length_mul (3 ^ b.toNat) (5 ^ c.toNat)
    have m2 := limbs_length_mul (2 ^ a.toNat) (3 ^ b.toNat * 5 ^ c.toNat)
    omega
  have h3 := o1 s.a s.b s.c p4 p5 p6
  have h4 := o1 (-s.a) (-s.b) (-s.c) (by omega) (by omega) (by omega)
  have m3 := limbs_length_mul (base ^ s.d.toNat) (overN s.a s.b s.c)
  have h5 : (limbs (base ^ s.d.toNat * overN s.a s.b s.c)).length ≤ 600 := by omega
  refine ⟨h2, ?_, hp, h3, h4, h5, ?_⟩
  · have := Nat.mul_le_mul h2 hd
    omega
  · have := limbs_length_mono (show freqQ base s ≤ base ^ s.d.toNat * overN s.a s.b s.c from Nat.div_le_self _ _)
    omega

/-- the frequency, of any size -/
theorem freq_exists (base : Nat) (s : T4) (hs : validB s.a s.b s.c s.d = true) : ∃ r, IsRoot (freqQ base s) s.d.toNat r := by
  obtain ⟨p1, p2, p3, p4, p5, p6⟩ := validB_parts hs
  exact root_exists _ (by omega) _

set_option maxRecDepth 100000 in
theorem freq_ok (base r : Nat) (s : T4) (w : World) (hb : base < 18446744073709551616) (hs : validB s.a s.b s.c s.d = true) (hr : IsRoot (freqQ base s) s.d.toNat r) (hk : r < 9223372036854775808) :
    Calls Try.prog 14 #[.int .u64 (base : Int), .agg #[.int .i64 s.a, .int .i64 s.b, .int .i64 s.c, .int .i64 s.d]] w fun e w' => e = .returned (.tuple #[.int .u64 (r : Int), .int .i64 0]) ∧ Below w.heap.size w w' := by
  obtain ⟨l1, l2, l3, l4, l5, l6, l7⟩ := freqP_len hb hs
  obtain ⟨p1, p2, p3, p4, p5, p6⟩ := validB_parts hs
  have VA := fun w : World => tvalid_calls s.a s.b s.c s.d w (validB_i64 hs).1 (validB_i64 hs).2.1 (validB_i64 hs).2.2.1 (validB_i64 hs).2.2.2
  rw [hs] at VA
  have n2 := under_ne s.a s.b s.c
  have R := fun w : World => ratio_calls s.a s.b s.c w (by omega) (by omega) (by omega)
  have OF := fun w : World => of_calls base (base : Int) w rfl hb
  have hd : s.d = (s.d.toNat : Int) := by omega
  have PW := fun (v : Value) (w : World) (h : Num w v base) => pow_ok v base s.d.toNat s.d w h hd (by omega) (.inr l2) (by omega)
  have ML := fun (v1 v2 : Value) (w : World) (h1 : Num w v1 (base ^ s.d.toNat)) (h2 : Num w v2 (overN s.a s.b s.c)) => mul_ok v1 v2 _ _ w h1 h2 (by omega)
  have DV := fun (v1 v2 : Value) (w : World) (h1 : Num w v1 (base ^ s.d.toNat * overN s.a s.b s.c)) (h2 : Num w v2 (underN s.a s.b s.c)) => divmod_ok v1 v2 _ _ w h1 h2 ⟨by omega, by omega⟩ n2
  have RT := fun (v : Value) (w : World) (h : Num w v (freqQ base s)) => root_ok v _ s.d.toNat r s.d w h hd (by omega) (by omega) (by omega) hr
  change ∀ (v1 v2 : Value) (w : World) (h1 : Num w v1 (base ^ s.d.toNat * overN s.a s.b s.c)) (h2 : Num w v2 (underN s.a s.b s.c)), Calls _ _ _ w (fun e w' => ∃ q r, e = _ ∧ Num w' q (freqQ base s) ∧ _) at DV
  generalize freqQ base s = Q at *
  generalize base ^ s.d.toNat * overN s.a s.b s.c = M at *
  generalize base ^ s.d.toNat = P at *
  generalize overN s.a s.b s.c = O at *
  generalize underN s.a s.b s.c = U at *
  have HA := Lib.hid VA
  have HR := Lib.hid R
  have HOF := Lib.hid OF
  have HPW := Lib.hid PW
  have HML := Lib.hid ML
  have HDV := Lib.hid DV
  have HRT := Lib.hid RT
  have hrl : (limbs r).length ≤ 2 := limbs_bits (x := r) (k := 2) (by omega)
  have UI := fun (v : Value) (w : World) (h : Num w v r) => uint64_ok v r w h hrl
  have t1 : decide (9223372036854775808 ≤ (r : Int)) = false := by rw [decide_eq_false_iff_not]; omega
  have HUI := Lib.hid UI
  clear UI hrl hk
  clear VA R OF PW ML DV RT hd l1 l2 l3 l4 l5 l6 l7 p1 p2 p3 p4 p5 p6 n2 hs hb hr
  have vs := Vals.newL w (w.heap.size) [.int .i64 s.a, .int .i64 s.b, .int .i64 s.c, .int .i64 s.d] 37 rfl
  have bb := below_alloc w (.cells #[.int .i64 s.a, .int .i64 s.b, .int .i64 s.c, .int .i64 s.d] 37)
  have B := bb
  clear bb
  go_enter Try.func14, Try.ntmps14
  go_wp2_with fail
  generalize (w.alloc (.cells #[.int .i64 s.a, .int .i64 s.b, .int .i64 s.c, .int .i64 s.d] 37)) = w0 at *
  refine (HA.out _).mono ?_
  rintro e w1 ⟨rfl, b1⟩
  replace vs := vs.mono b1
  replace B := below_trans B b1
  clear b1
  have cvs0 := vs.cell (i := 0) (by simp)
  have cvs1 := vs.cell (i := 1) (by simp)
  have cvs2 := vs.cell (i := 2) (by simp)
  have cvs3 := vs.cell (i := 3) (by simp)
  simp only [List.getD_cons_zero, List.getD_cons_succ] at cvs0 cvs1 cvs2 cvs3
  have ltvs := vs.lt
  go_wp2_with fail
  clear cvs0 cvs1 cvs2 cvs3 ltvs
  refine (HR.out _).mono ?_
  rintro e w2 ⟨v1, v2, rfl, h5, h6, b2⟩
  replace vs := vs.mono b2
  replace B := below_trans B b2
  clear b2
  go_upto_region 4 with (fail)
  go_region_held3 (fun w' => w'.cell? ⟨w.heap.size, 0, none⟩ = some (.int .i64 s.a) ∧ w'.cell? ⟨w.heap.size, 1, none⟩ = some (.int .i64 s.b) ∧ w'.cell? ⟨w.heap.size, 2, none⟩ = some (.int .i64 s.c) ∧ w'.cell? ⟨w.heap.size, 3, none⟩ = some (.int .i64 s.d))
    (first | exact vals4 vs | exact vals4 vs.drew)
    (first | (go_at_call 33; refine (HOF.out _).mono ?_; rintro e w5 ⟨v3, rfl, h7, _, b5⟩; replace vs := vs.drew.mono b5; replace h5 := (Num.drew' h5).mono b5; replace h6 := (Num.drew' h6).mono b5; replace B := below_trans B.drew b5; clear b5)
           | (go_at_call 32; refine (HPW.out _ _ h7).mono ?_; rintro e w6 ⟨v4, rfl, h8, _, b6⟩; replace vs := vs.mono b6; replace h5 := h5.mono b6; replace h6 := h6.mono b6; replace B := below_trans B b6; clear b6))
  clear h7
  go_wp2_with fail
  refine (HML.out _ _ _ h8 h5).mono ?_
  rintro e w7 ⟨v5, rfl, h9, _, b7⟩
  replace vs := vs.mono b7
  replace h5 := h5.mono b7
  replace h6 := h6.mono b7
  replace h8 := h8.mono b7
  replace B := below_trans B b7
  clear b7
  clear h8 h5
  go_wp2_with fail
  refine (HDV.out _ _ _ h9 h6).mono ?_
  rintro e w8 ⟨v6, v7, rfl, h10, _, _, _, _, b8⟩
  replace vs := vs.mono b8
  replace h6 := h6.mono b8
  replace h9 := h9.mono b8
  replace B := below_trans B b8
  clear b8
  clear h9 h6
  have cvs0 := vs.cell (i := 0) (by simp)
  have cvs1 := vs.cell (i := 1) (by simp)
  have cvs2 := vs.cell (i := 2) (by simp)
  have cvs3 := vs.cell (i := 3) (by simp)
  simp only [List.getD_cons_zero, List.getD_cons_succ] at cvs0 cvs1 cvs2 cvs3
  have ltvs := vs.lt
  go_wp2_with fail
  clear cvs0 cvs1 cvs2 cvs3 ltvs
  refine (HRT.out _ _ h10).mono ?_
  rintro e w9 ⟨v8, rfl, h11, _, b9⟩
  replace vs := vs.mono b9
  replace h10 := h10.mono b9
  replace B := below_trans B b9
  clear b9
  clear h10
  go_wp2_with fail
  refine (HUI.out _ _ h11).mono ?_
  rintro e w10 ⟨rfl, b10⟩
  replace vs := vs.mono b10
  replace h11 := h11.mono b10
  replace B := below_trans B b10
  clear b10
  go_wp2
  go_ret2
  exact ⟨rfl, B⟩

set_option maxRecDepth 100000 in
theorem freq_far (base r : Nat) (s : T4) (w : World) (hb : base < 18446744073709551616) (hs : validB s.a s.b s.c s.d = true) (hr : IsRoot (freqQ base s) s.d.toNat r) (hk : 9223372036854775808 ≤ r) (hj : r < 18446744073709551616) :
    Calls Try.prog 14 #[.int .u64 (base : Int), .agg #[.int .i64 s.a, .int .i64 s.b, .int .i64 s.c, .int .i64 s.d]] w fun e w' => e = .returned (.tuple #[.int .u64 0, .int .i64 5]) ∧ Below w.heap.size w w' := by
  obtain ⟨l1, l2, l3, l4, l5, l6, l7⟩ := freqP_len hb hs
  obtain ⟨p1, p2, p3, p4, p5, p6⟩ := validB_parts hs
  have VA := fun w : World => tvalid_calls s.a s.b s.c s.d w (validB_i64 hs).1 (validB_i64 hs).2.1 (validB_i64 hs).2.2.1 (validB_i64 hs).2.2.2
  rw [hs] at VA
  have n2 := under_ne s.a s.b s.c
  have R := fun w : World => ratio_calls s.a s.b s.c w (by omega) (by omega) (by omega)
  have OF := fun w : World => of_calls base (base : Int) w rfl hb
  have hd : s.d = (s.d.toNat : Int) := by omega
  have PW := fun (v : Value) (w : World) (h : Num w v base) => pow_ok v base s.d.toNat s.d w h hd (by omega) (.inr l2) (by omega)
  have ML := fun (v1 v2 : Value) (w : World) (h1 : Num w v1 (base ^ s.d.toNat)) (h2 : Num w v2 (overN s.a s.b s.c)) => mul_ok v1 v2 _ _ w h1 h2 (by omega)
  have DV := fun (v1 v2 : Value) (w : World) (h1 : Num w v1 (base ^ s.d.toNat * overN s.a s.b s.c)) (h2 : Num w v2 (underN s.a s.b s.c)) => divmod_ok v1 v2 _ _ w h1 h2 ⟨by omega, by omega⟩ n2
  have RT := fun (v : Value) (w : World) (h : Num w v (freqQ base s)) => root_ok v _ s.d.toNat r s.d w h hd (by omega) (by omega) (by omega) hr
  change ∀ (v1 v2 : Value) (w : World) (h1 : Num w v1 (base ^ s.d.toNat * overN s.a s.b s.c)) (h2 : Num w v2 (underN s.a s.b s.c)), Calls _ _ _ w (fun e w' => ∃ q r, e = _ ∧ Num w' q (freqQ base s) ∧ _) at DV
  generalize freqQ base s = Q at *
  generalize base ^ s.d.toNat * overN s.a s.b s.c = M at *
  generalize base ^ s.d.toNat = P at *
  generalize overN s.a s.b s.c = O at *
  generalize underN s.a s.b s.c = U at *
  have HA := Lib.hid VA
  have HR := Lib.hid R
  have HOF := Lib.hid OF
  have HPW := Lib.hid PW
  have HML := Lib.hid ML
  have HDV := Lib.hid DV
  have HRT := Lib.hid RT
  have hrl : (limbs r).length ≤ 2 := limbs_bits (x := r) (k := 2) (by simpa using hj)
  have UI := fun (v : Value) (w : World) (h : Num w v r) => uint64_ok v r w h hrl
  have t1 : decide (9223372036854775808 ≤ (r : Int)) = true := by rw [decide_eq_true_eq]; omega
  have HUI := Lib.hid UI
  clear UI hrl hk hj
  clear VA R OF PW ML DV RT hd l1 l2 l3 l4 l5 l6 l7 p1 p2 p3 p4 p5 p6 n2 hs hb hr
  have vs := Vals.newL w (w.heap.size) [.int .i64 s.a, .int .i64 s.b, .int .i64 s.c, .int .i64 s.d] 37 rfl
  have bb := below_alloc w (.cells #[.int .i64 s.a, .int .i64 s.b, .int .i64 s.c, .int .i64 s.d] 37)
  have B := bb
  clear bb
  go_enter Try.func14, Try.ntmps14
  go_wp2_with fail
  generalize (w.alloc (.cells #[.int .i64 s.a, .int .i64 s.b, .int .i64 s.c, .int .i64 s.d] 37)) = w0 at *
  refine (HA.out _).mono ?_
  rintro e w1 ⟨rfl, b1⟩
  replace vs := vs.mono b1
  replace B := below_trans B b1
  clear b1
  have cvs0 := vs.cell (i := 0) (by simp)
  have cvs1 := vs.cell (i := 1) (by simp)
  have cvs2 := vs.cell (i := 2) (by simp)
  have cvs3 := vs.cell (i := 3) (by simp)
  simp only [List.getD_cons_zero, List.getD_cons_succ] at cvs0 cvs1 cvs2 cvs3
  have ltvs := vs.lt
  go_wp2_with fail
  clear cvs0 cvs1 cvs2 cvs3 ltvs
  refine (HR.out _).mono ?_
  rintro e w2 ⟨v1, v2, rfl, h5, h6, b2⟩
  replace vs := vs.mono b2
  replace B := below_trans B b2
  clear b2
  go_upto_region 4 with (fail)
  go_region_held3 (fun w' => w'.cell? ⟨w.heap.size, 0, none⟩ = some (.int .i64 s.a) ∧ w'.cell? ⟨w.heap.size, 1, none⟩ = some (.int .i64 s.b) ∧ w'.cell? ⟨w.heap.size, 2, none⟩ = some (.int .i64 s.c) ∧ w'.cell? ⟨w.heap.size, 3, none⟩ = some (.int .i64 s.d))
    (first | exact vals4 vs | exact vals4 vs.drew)
    (first | (go_at_call 33; refine (HOF.out _).mono ?_; rintro e w5 ⟨v3, rfl, h7, _, b5⟩; replace vs := vs.drew.mono b5; replace h5 := (Num.drew' h5).mono b5; replace h6 := (Num.drew' h6).mono b5; replace B := below_trans B.drew b5; clear b5)
           | (go_at_call 32; refine (HPW.out _ _ h7).mono ?_; rintro e w6 ⟨v4, rfl, h8, _, b6⟩; replace vs := vs.mono b6; replace h5 := h5.mono b6; replace h6 := h6.mono b6; replace B := below_trans B b6; clear b6))
  clear h7
  go_wp2_with fail
  refine (HML.out _ _ _ h8 h5).mono ?_
  rintro e w7 ⟨v5, rfl, h9, _, b7⟩
  replace vs := vs.mono b7
  replace h5 := h5.mono b7
  replace h6 := h6.mono b7
  replace h8 := h8.mono b7
  replace B := below_trans B b7
  clear b7
  clear h8 h5
  go_wp2_with fail
  refine (HDV.out _ _ _ h9 h6).mono ?_
  rintro e w8 ⟨v6, v7, rfl, h10, _, _, _, _, b8⟩
  replace vs := vs.mono b8
  replace h6 := h6.mono b8
  replace h9 := h9.mono b8
  replace B := below_trans B b8
  clear b8
  clear h9 h6
  have cvs0 := vs.cell (i := 0) (by simp)
  have cvs1 := vs.cell (i := 1) (by simp)
  have cvs2 := vs.cell (i := 2) (by simp)
  have cvs3 := vs.cell (i := 3) (by simp)
  simp only [List.getD_cons_zero, List.getD_cons_succ] at cvs0 cvs1 cvs2 cvs3
  have ltvs := vs.lt
  go_wp2_with fail
  clear cvs0 cvs1 cvs2 cvs3 ltvs
  refine (HRT.out _ _ h10).mono ?_
  rintro e w9 ⟨v8, rfl, h11, _, b9⟩
  replace vs := vs.mono b9
  replace h10 := h10.mono b9
  replace B := below_trans B b9
  clear b9
  clear h10
  go_wp2_with fail
  refine (HUI.out _ _ h11).mono ?_
  rintro e w10 ⟨rfl, b10⟩
  replace vs := vs.mono b10
  replace h11 := h11.mono b10
  replace B := below_trans B b10
  clear b10
  go_wp2
  go_ret2
  exact ⟨rfl, B⟩

set_option maxRecDepth 100000 in
theorem freq_long (base r : Nat) (s : T4) (w : World) (hb : base < 18446744073709551616) (hs : validB s.a s.b s.c s.d = true) (hr : IsRoot (freqQ base s) s.d.toNat r) (hk : 18446744073709551616 ≤ r) :
    Calls Try.prog 14 #[.int .u64 (base : Int), .agg #[.int .i64 s.a, .int .i64 s.b, .int .i64 s.c, .int .i64 s.d]] w fun e w' => e = .returned (.tuple #[.int .u64 0, .int .i64 5]) ∧ Below w.heap.size w w' := by
  obtain ⟨l1, l2, l3, l4, l5, l6, l7⟩ := freqP_len hb hs
  obtain ⟨p1, p2, p3, p4, p5, p6⟩ := validB_parts hs
  have VA := fun w : World => tvalid_calls s.a s.b s.c s.d w (validB_i64 hs).1 (validB_i64 hs).2.1 (validB_i64 hs).2.2.1 (validB_i64 hs).2.2.2
  rw [hs] at VA
  have n2 := under_ne s.a s.b s.c
  have R := fun w : World => ratio_calls s.a s.b s.c w (by omega) (by omega) (by omega)
  have OF := fun w : World => of_calls base (base : Int) w rfl hb
  have hd : s.d = (s.d.toNat : Int) := by omega
  have PW := fun (v : Value) (w : World) (h : Num w v base) => pow_ok v base s.d.toNat s.d w h hd (by omega) (.inr l2) (by omega)
  have ML := fun (v1 v2 : Value) (w : World) (h1 : Num w v1 (base ^ s.d.toNat)) (h2 : Num w v2 (overN s.a s.b s.c)) => mul_ok v1 v2 _ _ w h1 h2 (by omega)
  have DV := fun (v1 v2 : Value) (w : World) (h1 : Num w v1 (base ^ s.d.toNat * overN s.a s.b s.c)) (h2 : Num w v2 (underN s.a s.b s.c)) => divmod_ok v1 v2 _ _ w h1 h2 ⟨by omega, by omega⟩ n2
  have RT := fun (v : Value) (w : World) (h : Num w v (freqQ base s)) => root_ok v _ s.d.toNat r s.d w h hd (by omega) (by omega) (by omega) hr
  change ∀ (v1 v2 : Value) (w : World) (h1 : Num w v1 (base ^ s.d.toNat * overN s.a s.b s.c)) (h2 : Num w v2 (underN s.a s.b s.c)), Calls _ _ _ w (fun e w' => ∃ q r, e = _ ∧ Num w' q (freqQ base s) ∧ _) at DV
  generalize freqQ base s = Q at *
  generalize base ^ s.d.toNat * overN s.a s.b s.c = M at *
  generalize base ^ s.d.toNat = P at *
  generalize overN s.a s.b s.c = O at *
  generalize underN s.a s.b s.c = U at *
  have HA := Lib.hid VA
  have HR := Lib.hid R
  have HOF := Lib.hid OF
  have HPW := Lib.hid PW
  have HML := Lib.hid ML
  have HDV := Lib.hid DV
  have HRT := Lib.hid RT
  have hrl : 2 < (limbs r).length := by
    by_cases h : 2 < (limbs r).length
    · exact h
    · exfalso
      have := val_lt (limbs r) (limbs_lt r)
      rw [val_limbs] at this
      have h3 : (4294967296 : Nat) ^ (limbs r).length ≤ 4294967296 ^ 2 := Nat.pow_le_pow_right (by omega) (by omega)
      omega
  have hrm : (limbs r).length ≤ 262144 := by
    have : r ≤ Q := by
      have q1 := hr.1
      have q2 : r ^ 1 ≤ r ^ s.d.toNat := Nat.pow_le_pow_right (by omega) (by omega)
      rw [Nat.pow_one] at q2
      omega
    have := limbs_length_mono this
    omega
  have UI := fun (v : Value) (w : World) (h : Num w v r) => uint64_long v r w h hrm hrl
  have HUI := Lib.hid UI
  clear UI hrl hrm hk
  clear VA R OF PW ML DV RT hd l1 l2 l3 l4 l5 l6 l7 p1 p2 p3 p4 p5 p6 n2 hs hb hr
  have vs := Vals.newL w (w.heap.size) [.int .i64 s.a, .int .i64 s.b, .int .i64 s.c, .int .i64 s.d] 37 rfl
  have bb := below_alloc w (.cells #[.int .i64 s.a, .int .i64 s.b, .int .i64 s.c, .int .i64 s.d] 37)
  have B := bb
  clear bb
  go_enter Try.func14, Try.ntmps14
  go_wp2_with fail
  generalize (w.alloc (.cells #[.int .i64 s.a, .int .i64 s.b, .int .i64 s.c, .int .i64 s.d] 37)) = w0 at *
  refine (HA.out _).mono ?_
  rintro e w1 ⟨rfl, b1⟩
  replace vs := vs.mono b1
  replace B := below_trans B b1
  clear b1
  have cvs0 := vs.cell (i := 0) (by simp)
  have cvs1 := vs.cell (i := 1) (by simp)
  have cvs2 := vs.cell (i := 2) (by simp)
  have cvs3 := vs.cell (i := 3) (by simp)
  simp only [List.getD_cons_zero, List.getD_cons_succ] at cvs0 cvs1 cvs2 cvs3
  have ltvs := vs.lt
  go_wp2_with fail
  clear cvs0 cvs1 cvs2 cvs3 ltvs
  refine (HR.out _).mono ?_
  rintro e w2 ⟨v1, v2, rfl, h5, h6, b2⟩
  replace vs := vs.mono b2
  replace B := below_trans B b2
  clear b2
  go_upto_region 4 with (fail)
  go_region_held3 (fun w' => w'.cell? ⟨w.heap.size, 0, none⟩ = some (.int .i64 s.a) ∧ w'.cell? ⟨w.heap.size, 1, none⟩ = some (.int .i64 s.b) ∧ w'.cell? ⟨w.heap.size, 2, none⟩ = some (.int .i64 s.c) ∧ w'.cell? ⟨w.heap.size, 3, none⟩ = some (.int .i64 s.d))
    (first | exact vals4 vs | exact vals4 vs.drew)
    (first | (go_at_call 33; refine (HOF.out _).mono ?_; rintro e w5 ⟨v3, rfl, h7, _, b5⟩; replace vs := vs.drew.mono b5; replace h5 := (Num.drew' h5).mono b5; replace h6 := (Num.drew' h6).mono b5; replace B := below_trans B.drew b5; clear b5)
           | (go_at_call 32; refine (HPW.out _ _ h7).mono ?_; rintro e w6 ⟨v4, rfl, h8, _, b6⟩; replace vs := vs.mono b6; replace h5 := h5.mono b6; replace h6 := h6.mono b6; replace B := below_trans B b6; clear b6))
  clear h7
  go_wp2_with fail
  refine (HML.out _ _ _ h8 h5).mono ?_
  rintro e w7 ⟨v5, rfl, h9, _, b7⟩
  replace vs := vs.mono b7
  replace h5 := h5.mono b7
  replace h6 := h6.mono b7
  replace h8 := h8.mono b7
  replace B := below_trans B b7
  clear b7
  clear h8 h5
  go_wp2_with fail
  refine (HDV.out _ _ _ h9 h6).mono ?_
  rintro e w8 ⟨v6, v7, rfl, h10, _, _, _, _, b8⟩
  replace vs := vs.mono b8
  replace h6 := h6.mono b8
  replace h9 := h9.mono b8
  replace B := below_trans B b8
  clear b8
  clear h9 h6
  have cvs0 := vs.cell (i := 0) (by simp)
  have cvs1 := vs.cell (i := 1) (by simp)
  have cvs2 := vs.cell (i := 2) (by simp)
  have cvs3 := vs.cell (i := 3) (by simp)
  simp only [List.getD_cons_zero, List.getD_cons_succ] at cvs0 cvs1 cvs2 cvs3
  have ltvs := vs.lt
  go_wp2_with fail
  clear cvs0 cvs1 cvs2 cvs3 ltvs
  refine (HRT.out _ _ h10).mono ?_
  rintro e w9 ⟨v8, rfl, h11, _, b9⟩
  replace vs := vs.mono b9
  replace h10 := h10.mono b9
  replace B := below_trans B b9
  clear b9
  clear h10
  go_wp2_with fail
  refine (HUI.out _ _ h11).mono ?_
  rintro e w10 ⟨rfl, b10⟩
  replace vs := vs.mono b10
  replace h11 := h11.mono b10
  replace B := below_trans B b10
  clear b10
  go_wp2
  go_ret2
  exact ⟨rfl, B⟩

set_option maxRecDepth 100000 in
theorem freq_bad (base : Nat) (s : T4) (w : World) (hA : i64 s.a ∧ i64 s.b ∧ i64 s.c ∧ i64 s.d) (hs : validB s.a s.b s.c s.d = false) :
    Calls Try.prog 14 #[.int .u64 (base : Int), .agg #[.int .i64 s.a, .int .i64 s.b, .int .i64 s.c, .int .i64 s.d]] w fun e w' => e = .returned (.tuple #[.int .u64 0, .int .i64 2]) ∧ Below w.heap.size w w' := by
  have VA := fun w : World => tvalid_calls s.a s.b s.c s.d w hA.1 hA.2.1 hA.2.2.1 hA.2.2.2
  rw [hs] at VA
  have HA := Lib.hid VA
  clear VA hs hA
  have vs := Vals.newL w (w.heap.size) [.int .i64 s.a, .int .i64 s.b, .int .i64 s.c, .int .i64 s.d] 37 rfl
  have bb := below_alloc w (.cells #[.int .i64 s.a, .int .i64 s.b, .int .i64 s.c, .int .i64 s.d] 37)
  have B := bb
  clear bb
  go_enter Try.func14, Try.ntmps14
  go_wp2_with fail
  generalize (w.alloc (.cells #[.int .i64 s.a, .int .i64 s.b, .int .i64 s.c, .int .i64 s.d] 37)) = w0 at *
  refine (HA.out _).mono ?_
  rintro e w1 ⟨rfl, b1⟩
  replace vs := vs.mono b1
  replace B := below_trans B b1
  clear b1
  go_wp2
  go_ret2
  exact ⟨rfl, B⟩

end Go.Proofs
