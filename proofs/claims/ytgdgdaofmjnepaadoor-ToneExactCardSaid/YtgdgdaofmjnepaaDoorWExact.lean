/- The walk of ToneExact: whatever comes in, it returns true and changes nothing that was there. -/
import Derived.Test.YtgdgdaofmjnepaaDoorTRef
import Derived.Test.YtgdgdaofmjnepaaDoorTone8
import Derived.Test.YtgdgdaofmjnepaaDoorToneB
import Derived.Test.YtgdgdaofmjnepaaDoorTRef11
import Derived.Deep.RegionHeld3
open Go.RowKit Go.Deep
namespace Go.Proofs
set_option linter.unusedVariables false

set_option maxRecDepth 100000 in
set_option maxHeartbeats 1000000 in
theorem exact_bad (base r : Nat) (s : T4) (w : World) (hS : i64 s.a ∧ i64 s.b ∧ i64 s.c ∧ i64 s.d) (ht : Tab w) (hb : base < 18446744073709551616) (h1 : validB s.a s.b s.c s.d = false) :
    Calls Tryd.prog 20 #[.int .u64 (base : Int), .agg #[.int .i64 s.a, .int .i64 s.b, .int .i64 s.c, .int .i64 s.d]] w (RetTrue w) := by
  have P := fun w : World => freq_bad base s w hS h1
  have HP := Lib.hid P
  clear P
  clear hS h1 hb
  have vs := Vals.newL w (w.heap.size) [.int .i64 s.a, .int .i64 s.b, .int .i64 s.c, .int .i64 s.d] 23 rfl
  have bb := below_alloc w (.cells #[.int .i64 s.a, .int .i64 s.b, .int .i64 s.c, .int .i64 s.d] 23)
  have B := bb
  have bb0 := B
  clear bb
  go_enter Tryd.func20, Tryd.ntmps20
  go_wp2_with fail
  generalize (w.alloc (.cells #[.int .i64 s.a, .int .i64 s.b, .int .i64 s.c, .int .i64 s.d] 23)) = w0 at *
  replace ht := ht.mono bb0
  clear bb0
  refine (HP.out _).mono ?_
  rintro e w1 ⟨rfl, b1⟩
  replace vs := vs.mono b1
  replace ht := ht.mono b1
  replace B := below_trans B b1
  clear b1
  go_wp2_with fail
  refine (lives_calls _ ht).mono ?_
  rintro e w2 ⟨rfl, b2⟩
  replace vs := vs.mono b2
  replace ht := ht.mono b2
  replace B := below_trans B b2
  clear b2
  go_wp2
  go_ret
  exact ⟨rfl, B⟩

set_option maxRecDepth 100000 in
set_option maxHeartbeats 1000000 in
theorem exact_ok (base r : Nat) (s : T4) (w : World) (hS : i64 s.a ∧ i64 s.b ∧ i64 s.c ∧ i64 s.d) (ht : Tab w) (hb : base < 18446744073709551616) (h1 : validB s.a s.b s.c s.d = true) (hr : IsRoot (freqQ base s) s.d.toNat r) (hk : r < 9223372036854775808) :
    Calls Tryd.prog 20 #[.int .u64 (base : Int), .agg #[.int .i64 s.a, .int .i64 s.b, .int .i64 s.c, .int .i64 s.d]] w (RetTrue w) := by
  have P := fun w : World => freq_ok base r s w hb h1 hr hk
  obtain ⟨l1, l2, l3, l4, l5, l6, l7⟩ := freqP_len hb h1
  obtain ⟨p1, p2, p3, p4, p5, p6⟩ := validB_parts h1
  have n2 := under_ne s.a s.b s.c
  have Vs := fun w : World => rvalid_calls s w hS
  rw [h1] at Vs
  have R := fun w : World => rsides_calls s.a s.b s.c w (by omega) (by omega) (by omega)
  have hd : s.d = (s.d.toNat : Int) := by omega
  have q1 : r ^ s.d.toNat * underN s.a s.b s.c ≤ base ^ s.d.toNat * overN s.a s.b s.c := (Nat.le_div_iff_mul_le (by omega)).1 hr.1
  have q2 : base ^ s.d.toNat * overN s.a s.b s.c < (r + 1) ^ s.d.toNat * underN s.a s.b s.c := (Nat.div_lt_iff_lt_mul (by omega)).1 hr.2
  have lim : ∀ x : Nat, x < 18446744073709551616 → (limbs x).length * s.d.toNat ≤ 2 * 24 ∧ (limbs (x ^ s.d.toNat)).length ≤ 49 ∧ (limbs x).length ≤ 2 := by
    intro x hx
    have h2 : (limbs x).length ≤ 2 := limbs_bits (x := x) (k := 2) (by simpa using hx)
    have h3 : (limbs x).length * s.d.toNat ≤ 2 * 24 := Nat.mul_le_mul h2 (by omega)
    exact ⟨h3, by have := limbs_length_pow x s.d.toNat; omega, h2⟩
  obtain ⟨m1, m2, m1'⟩ := lim base hb
  obtain ⟨m3, m4, m3'⟩ := lim r (by omega)
  obtain ⟨m5, m6, m5'⟩ := lim (r + 1) (by omega)
  have m7 := limbs_length_mul (r ^ s.d.toNat) (underN s.a s.b s.c)
  have m8 := limbs_length_mul ((r + 1) ^ s.d.toNat) (underN s.a s.b s.c)
  have wr : IntKind.u64.wrap ((r : Int) + 1) = (r : Int) + 1 := by rw [IntKind.wrap_u64]; omega
  have wr2 : (0 : Int) ≤ (r : Int) + 1 := by omega
  have OB := fun w : World => rof_calls base (base : Int) w (by omega) (by omega)
  have PB := fun (v : Value) (w : World) (h : Num w v base) => rpow_calls v base s.d.toNat s.d w h hd (by omega) (by omega) (by omega)
  have OF := fun w : World => rof_calls r (r : Int) w (by omega) (by omega)
  have PF := fun (v : Value) (w : World) (h : Num w v r) => rpow_calls v r s.d.toNat s.d w h hd (by omega) (by omega) (by omega)
  have OG := fun w : World => rof_calls (r + 1) ((r : Int) + 1) w (by omega) (by omega)
  have PG := fun (v : Value) (w : World) (h : Num w v (r + 1)) => rpow_calls v (r + 1) s.d.toNat s.d w h hd (by omega) (by omega) (by omega)
  have MB := fun (v1 v2 : Value) (w : World) (h1 : Num w v1 (base ^ s.d.toNat)) (h2 : Num w v2 (overN s.a s.b s.c)) => rmul_calls v1 v2 _ _ w h1 h2 (by omega) (by omega)
  have MF := fun (v1 v2 : Value) (w : World) (h1 : Num w v1 (r ^ s.d.toNat)) (h2 : Num w v2 (underN s.a s.b s.c)) => rmul_calls v1 v2 _ _ w h1 h2 (by omega) (by omega)
  have MG := fun (v1 v2 : Value) (w : World) (h1 : Num w v1 ((r + 1) ^ s.d.toNat)) (h2 : Num w v2 (underN s.a s.b s.c)) => rmul_calls v1 v2 _ _ w h1 h2 (by omega) (by omega)
  obtain ⟨x, hx⟩ : ∃ x, cmpInt (r ^ s.d.toNat * underN s.a s.b s.c) (base ^ s.d.toNat * overN s.a s.b s.c) = x := ⟨_, rfl⟩
  have hx2 : x ≤ 0 := by
    rw [← hx]
    have := (cmpInt_pos (r ^ s.d.toNat * underN s.a s.b s.c) (base ^ s.d.toNat * overN s.a s.b s.c))
    omega
  have C1 := fun (v1 v2 : Value) (w : World) (h1 : Num w v1 (r ^ s.d.toNat * underN s.a s.b s.c)) (h2 : Num w v2 (base ^ s.d.toNat * overN s.a s.b s.c)) => rcmp_calls v1 v2 _ _ w x h1 h2 hx (by omega) (by omega)
  have C2 := fun (v1 v2 : Value) (w : World) (h1 : Num w v1 (base ^ s.d.toNat * overN s.a s.b s.c)) (h2 : Num w v2 ((r + 1) ^ s.d.toNat * underN s.a s.b s.c)) => rcmp_calls v1 v2 _ _ w (-1) h1 h2 (cmpInt_lt q2) (by omega) (by omega)
  clear hx q1 q2 lim m1 m2 m3 m4 m5 m6 m7 m8 m1' m3' m5' l1 l2 l3 l4 l5 l6 l7 p1 p2 p3 p4 p5 p6 n2 hd
  generalize base ^ s.d.toNat * overN s.a s.b s.c = Mb at *
  generalize r ^ s.d.toNat * underN s.a s.b s.c = Mf at *
  generalize (r + 1) ^ s.d.toNat * underN s.a s.b s.c = Mg at *
  generalize base ^ s.d.toNat = Pb at *
  generalize r ^ s.d.toNat = Pf at *
  generalize (r + 1) ^ s.d.toNat = Pg at *
  generalize overN s.a s.b s.c = O at *
  generalize underN s.a s.b s.c = U at *
  have HP := Lib.hid P
  have HVs := Lib.hid Vs
  have HR := Lib.hid R
  have HOB := Lib.hid OB
  have HOF := Lib.hid OF
  have HOG := Lib.hid OG
  have HPB := Lib.hid PB
  have HPF := Lib.hid PF
  have HPG := Lib.hid PG
  have HMB := Lib.hid MB
  have HMF := Lib.hid MF
  have HMG := Lib.hid MG
  have HC1 := Lib.hid C1
  have HC2 := Lib.hid C2
  clear P Vs R OB OF OG PB PF PG MB MF MG C1 C2
  clear hr
  clear hS h1 hb hk
  have vs := Vals.newL w (w.heap.size) [.int .i64 s.a, .int .i64 s.b, .int .i64 s.c, .int .i64 s.d] 23 rfl
  have bb := below_alloc w (.cells #[.int .i64 s.a, .int .i64 s.b, .int .i64 s.c, .int .i64 s.d] 23)
  have B := bb
  have bb0 := B
  clear bb
  go_enter Tryd.func20, Tryd.ntmps20
  go_wp2_with fail
  generalize (w.alloc (.cells #[.int .i64 s.a, .int .i64 s.b, .int .i64 s.c, .int .i64 s.d] 23)) = w0 at *
  replace ht := ht.mono bb0
  clear bb0
  refine (HP.out _).mono ?_
  rintro e w1 ⟨rfl, b1⟩
  replace vs := vs.mono b1
  replace ht := ht.mono b1
  replace B := below_trans B b1
  clear b1
  have cvs0 := vs.cell (i := 0) (by simp)
  have cvs1 := vs.cell (i := 1) (by simp)
  have cvs2 := vs.cell (i := 2) (by simp)
  have cvs3 := vs.cell (i := 3) (by simp)
  simp only [List.getD_cons_zero, List.getD_cons_succ] at cvs0 cvs1 cvs2 cvs3
  have ltvs := vs.lt
  go_wp2_with fail
  clear cvs0 cvs1 cvs2 cvs3 ltvs
  refine (HVs.out _).mono ?_
  rintro e w2 ⟨rfl, b2⟩
  replace vs := vs.mono b2
  replace ht := ht.mono b2
  replace B := below_trans B b2
  clear b2
  have cvs0 := vs.cell (i := 0) (by simp)
  have cvs1 := vs.cell (i := 1) (by simp)
  have cvs2 := vs.cell (i := 2) (by simp)
  have cvs3 := vs.cell (i := 3) (by simp)
  simp only [List.getD_cons_zero, List.getD_cons_succ] at cvs0 cvs1 cvs2 cvs3
  have ltvs := vs.lt
  go_wp2_with fail
  clear cvs0 cvs1 cvs2 cvs3 ltvs
  refine (HR.out _).mono ?_
  rintro e w3 ⟨v1, v2, rfl, h5, h6, b3⟩
  replace vs := vs.mono b3
  replace ht := ht.mono b3
  replace B := below_trans B b3
  clear b3
  go_upto_region 5 with (fail)
  replace h5 := Num.drew' h5
  replace h6 := Num.drew' h6
  go_region_held3 (fun w' => w'.cell? ⟨w.heap.size, 0, none⟩ = some (.int .i64 s.a) ∧ w'.cell? ⟨w.heap.size, 1, none⟩ = some (.int .i64 s.b) ∧ w'.cell? ⟨w.heap.size, 2, none⟩ = some (.int .i64 s.c) ∧ w'.cell? ⟨w.heap.size, 3, none⟩ = some (.int .i64 s.d))
    (first | exact vals4 vs | exact vals4 vs.drew)
    (first | (go_at_call 58; (with_reducible refine (HOB.out _).mono ?_); rintro e x05 ⟨y03, rfl, h7, _, b5⟩; replace vs := vs.drew.mono b5; replace ht := ht.drew.mono b5; replace h5 := h5.mono b5; replace h6 := h6.mono b5; replace B := below_trans B.drew b5; clear b5)
           | (go_at_call 57; (with_reducible refine (HPB.out _ _ h7).mono ?_); rintro e x06 ⟨y04, rfl, h8, _, b6⟩; replace vs := vs.mono b6; replace ht := ht.mono b6; replace h5 := h5.mono b6; replace h6 := h6.mono b6; replace B := below_trans B b6; clear b6)
           | (go_at_call 56; (with_reducible refine (HMB.out _ _ _ h8 h5).mono ?_); rintro e x07 ⟨y05, rfl, k1, _, b7⟩; replace vs := vs.mono b7; replace ht := ht.mono b7; replace h6 := h6.mono b7; replace B := below_trans B b7; clear b7))
  clear h7 h8 h5
  go_upto_region 6 with (fail)
  replace h6 := Num.drew' h6
  replace k1 := Num.drew' k1
  go_region_held3 (fun w' => w'.cell? ⟨w.heap.size, 0, none⟩ = some (.int .i64 s.a) ∧ w'.cell? ⟨w.heap.size, 1, none⟩ = some (.int .i64 s.b) ∧ w'.cell? ⟨w.heap.size, 2, none⟩ = some (.int .i64 s.c) ∧ w'.cell? ⟨w.heap.size, 3, none⟩ = some (.int .i64 s.d))
    (first | exact vals4 vs | exact vals4 vs.drew)
    (first | (go_at_call 58; (with_reducible refine (HOF.out _).mono ?_); rintro e x15 ⟨y13, rfl, h7, _, b5⟩; replace vs := vs.drew.mono b5; replace ht := ht.drew.mono b5; replace h6 := h6.mono b5; replace k1 := k1.mono b5; replace B := below_trans B.drew b5; clear b5)
           | (go_at_call 57; (with_reducible refine (HPF.out _ _ h7).mono ?_); rintro e x16 ⟨y14, rfl, h8, _, b6⟩; replace vs := vs.mono b6; replace ht := ht.mono b6; replace h6 := h6.mono b6; replace k1 := k1.mono b6; replace B := below_trans B b6; clear b6)
           | (go_at_call 56; (with_reducible refine (HMF.out _ _ _ h8 h6).mono ?_); rintro e x17 ⟨y15, rfl, k2, _, b7⟩; replace vs := vs.mono b7; replace ht := ht.mono b7; replace h6 := h6.mono b7; replace k1 := k1.mono b7; replace B := below_trans B b7; clear b7))
  clear h7 h8 
  go_upto_region 7 with (fail)
  replace h6 := Num.drew' h6
  replace k1 := Num.drew' k1
  replace k2 := Num.drew' k2
  go_region_held3 (fun w' => w'.cell? ⟨w.heap.size, 0, none⟩ = some (.int .i64 s.a) ∧ w'.cell? ⟨w.heap.size, 1, none⟩ = some (.int .i64 s.b) ∧ w'.cell? ⟨w.heap.size, 2, none⟩ = some (.int .i64 s.c) ∧ w'.cell? ⟨w.heap.size, 3, none⟩ = some (.int .i64 s.d))
    (first | exact vals4 vs | exact vals4 vs.drew)
    (first | (go_at_call 58; (with_reducible refine (HOG.out _).mono ?_); rintro e x25 ⟨y23, rfl, h7, _, b5⟩; replace vs := vs.drew.mono b5; replace ht := ht.drew.mono b5; replace h6 := h6.mono b5; replace k1 := k1.mono b5; replace k2 := k2.mono b5; replace B := below_trans B.drew b5; clear b5)
           | (go_at_call 57; (with_reducible refine (HPG.out _ _ h7).mono ?_); rintro e x26 ⟨y24, rfl, h8, _, b6⟩; replace vs := vs.mono b6; replace ht := ht.mono b6; replace h6 := h6.mono b6; replace k1 := k1.mono b6; replace k2 := k2.mono b6; replace B := below_trans B b6; clear b6)
           | (go_at_call 56; (with_reducible refine (HMG.out _ _ _ h8 h6).mono ?_); rintro e x27 ⟨y25, rfl, k3, _, b7⟩; replace vs := vs.mono b7; replace ht := ht.mono b7; replace k1 := k1.mono b7; replace k2 := k2.mono b7; replace B := below_trans B b7; clear b7))
  clear h7 h8 h6
  go_wp2_with fail
  refine (HC1.out _ _ _ k2 k1).mono ?_
  rintro e w21 ⟨rfl, b21⟩
  replace vs := vs.mono b21
  replace ht := ht.mono b21
  replace k1 := k1.mono b21
  replace k2 := k2.mono b21
  replace k3 := k3.mono b21
  replace B := below_trans B b21
  clear b21
  go_wp2_with fail
  refine (HC2.out _ _ _ k1 k3).mono ?_
  rintro e w22 ⟨rfl, b22⟩
  replace vs := vs.mono b22
  replace ht := ht.mono b22
  replace k1 := k1.mono b22
  replace k2 := k2.mono b22
  replace k3 := k3.mono b22
  replace B := below_trans B b22
  clear b22
  go_wp2_with fail
  refine (lives_calls _ ht).mono ?_
  rintro e w23 ⟨rfl, b23⟩
  replace vs := vs.mono b23
  replace ht := ht.mono b23
  replace k1 := k1.mono b23
  replace k2 := k2.mono b23
  replace k3 := k3.mono b23
  replace B := below_trans B b23
  clear b23
  go_wp2
  go_ret
  exact ⟨rfl, B⟩

set_option maxRecDepth 100000 in
set_option maxHeartbeats 1000000 in
theorem exact_far (base r : Nat) (s : T4) (w : World) (hS : i64 s.a ∧ i64 s.b ∧ i64 s.c ∧ i64 s.d) (ht : Tab w) (hb : base < 18446744073709551616) (h1 : validB s.a s.b s.c s.d = true) (hr : IsRoot (freqQ base s) s.d.toNat r) (hk : 9223372036854775808 ≤ r) (hj : r < 18446744073709551616) :
    Calls Tryd.prog 20 #[.int .u64 (base : Int), .agg #[.int .i64 s.a, .int .i64 s.b, .int .i64 s.c, .int .i64 s.d]] w (RetTrue w) := by
  have P := fun w : World => freq_far base r s w hb h1 hr hk hj
  have HP := Lib.hid P
  clear P
  clear hr
  clear hS h1 hb hk hj
  have vs := Vals.newL w (w.heap.size) [.int .i64 s.a, .int .i64 s.b, .int .i64 s.c, .int .i64 s.d] 23 rfl
  have bb := below_alloc w (.cells #[.int .i64 s.a, .int .i64 s.b, .int .i64 s.c, .int .i64 s.d] 23)
  have B := bb
  have bb0 := B
  clear bb
  go_enter Tryd.func20, Tryd.ntmps20
  go_wp2_with fail
  generalize (w.alloc (.cells #[.int .i64 s.a, .int .i64 s.b, .int .i64 s.c, .int .i64 s.d] 23)) = w0 at *
  replace ht := ht.mono bb0
  clear bb0
  refine (HP.out _).mono ?_
  rintro e w1 ⟨rfl, b1⟩
  replace vs := vs.mono b1
  replace ht := ht.mono b1
  replace B := below_trans B b1
  clear b1
  go_wp2_with fail
  refine (lives_calls _ ht).mono ?_
  rintro e w2 ⟨rfl, b2⟩
  replace vs := vs.mono b2
  replace ht := ht.mono b2
  replace B := below_trans B b2
  clear b2
  go_wp2
  go_ret
  exact ⟨rfl, B⟩

set_option maxRecDepth 100000 in
set_option maxHeartbeats 1000000 in
theorem exact_long (base r : Nat) (s : T4) (w : World) (hS : i64 s.a ∧ i64 s.b ∧ i64 s.c ∧ i64 s.d) (ht : Tab w) (hb : base < 18446744073709551616) (h1 : validB s.a s.b s.c s.d = true) (hr : IsRoot (freqQ base s) s.d.toNat r) (hk : 18446744073709551616 ≤ r) :
    Calls Tryd.prog 20 #[.int .u64 (base : Int), .agg #[.int .i64 s.a, .int .i64 s.b, .int .i64 s.c, .int .i64 s.d]] w (RetTrue w) := by
  have P := fun w : World => freq_long base r s w hb h1 hr hk
  have HP := Lib.hid P
  clear P
  clear hr
  clear hS h1 hb hk
  have vs := Vals.newL w (w.heap.size) [.int .i64 s.a, .int .i64 s.b, .int .i64 s.c, .int .i64 s.d] 23 rfl
  have bb := below_alloc w (.cells #[.int .i64 s.a, .int .i64 s.b, .int .i64 s.c, .int .i64 s.d] 23)
  have B := bb
  have bb0 := B
  clear bb
  go_enter Tryd.func20, Tryd.ntmps20
  go_wp2_with fail
  generalize (w.alloc (.cells #[.int .i64 s.a, .int .i64 s.b, .int .i64 s.c, .int .i64 s.d] 23)) = w0 at *
  replace ht := ht.mono bb0
  clear bb0
  refine (HP.out _).mono ?_
  rintro e w1 ⟨rfl, b1⟩
  replace vs := vs.mono b1
  replace ht := ht.mono b1
  replace B := below_trans B b1
  clear b1
  go_wp2_with fail
  refine (lives_calls _ ht).mono ?_
  rintro e w2 ⟨rfl, b2⟩
  replace vs := vs.mono b2
  replace ht := ht.mono b2
  replace B := below_trans B b2
  clear b2
  go_wp2
  go_ret
  exact ⟨rfl, B⟩

theorem walk_exact (z : Int) (s : T4) (w : World) (hS : i64 s.a ∧ i64 s.b ∧ i64 s.c ∧ i64 s.d) (ht : Tab w) (hz : 0 ≤ z ∧ z < 18446744073709551616) :
    Calls Tryd.prog 20 #[.int .u64 z, .agg #[.int .i64 s.a, .int .i64 s.b, .int .i64 s.c, .int .i64 s.d]] w (RetTrue w) := by
  obtain ⟨base, rfl⟩ : ∃ n : Nat, z = n := ⟨z.toNat, by omega⟩
  have hb : base < 18446744073709551616 := by omega
  cases h1 : validB s.a s.b s.c s.d
  · exact exact_bad base 0 s w hS ht hb h1
  obtain ⟨r, hr⟩ := freq_exists base s h1
  by_cases hk : r < 9223372036854775808
  · exact exact_ok base r s w hS ht hb h1 hr hk
  by_cases hj : r < 18446744073709551616
  · exact exact_far base r s w hS ht hb h1 hr (by omega) hj
  · exact exact_long base r s w hS ht hb h1 hr (by omega)

end Go.Proofs
