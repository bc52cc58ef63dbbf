/- The walk of TonePowersOf: whatever comes in, it returns true and changes nothing that was there. -/
import Derived.Test.YtgdgdaofmjnepaaDoorTRef2
import Derived.Test.YtgdgdaofmjnepaaDoorTone8
open Go.RowKit Go.Deep
namespace Go.Proofs
set_option linter.unusedVariables false

/-- v & 7 of any integer -/
theorem and_seven (z : Int) (h : i64 z) : ∃ n : Nat, n ≤ 7 ∧ bits BinOp.and IntKind.i64 z 7 = (n : Int) := by
  refine ⟨(BitVec.ofInt 64 z).toNat &&& 7, Nat.and_le_right, ?_⟩
  have h7 : (BitVec.ofInt 64 (7 : Int)).toNat = 7 := by decide
  have e : bits BinOp.and IntKind.i64 z 7 = IntKind.i64.wrap (((BitVec.ofInt 64 z).toNat &&& (BitVec.ofInt 64 (7 : Int)).toNat : Nat) : Int) := by
    show IntKind.i64.wrap (((BitVec.ofInt 64 z &&& BitVec.ofInt 64 (7 : Int)).toNat : Nat) : Int) = _
    rw [BitVec.toNat_and]
  rw [e, h7]
  have : (BitVec.ofInt 64 z).toNat &&& 7 ≤ 7 := Nat.and_le_right
  rw [IntKind.wrap_i64]; omega

theorem rem13 (z : Int) : (z.tmod 13).natAbs ≤ 12 := by
  have h1 := Int.tmod_lt_of_pos z (show (0 : Int) < 13 by omega)
  have h2 := Int.lt_tmod_of_pos z (show (0 : Int) < 13 by omega)
  omega

set_option maxRecDepth 100000 in
set_option maxHeartbeats 1000000 in
theorem powersOf_bad (s : T4) (n1 d1 n2 d2 : Int) (w : World) (hS : i64 s.a ∧ i64 s.b ∧ i64 s.c ∧ i64 s.d) (hn1 : i64 n1) (hd1 : i64 d1) (hn2 : i64 n2) (hd2 : i64 d2) (ht : Tab w) (h1 : validB s.a s.b s.c s.d = false) :
    Calls Tryd.prog 5 #[.agg #[.int .i64 s.a, .int .i64 s.b, .int .i64 s.c, .int .i64 s.d], .agg #[.int .i64 n1, .int .i64 d1], .agg #[.int .i64 n2, .int .i64 d2]] w (RetTrue w) := by
  have V := fun w : World => rvalid_calls s w hS
  have q1 := rem13 n1
  have q2 := rem13 n2
  obtain ⟨k1, j1, e1⟩ := and_seven d1 hd1
  obtain ⟨k2, j2, e2⟩ := and_seven d2 hd2
  obtain ⟨r1, f1⟩ : ∃ r, n1.tmod 13 = r := ⟨_, rfl⟩
  obtain ⟨r2, f2⟩ : ∃ r, n2.tmod 13 = r := ⟨_, rfl⟩
  rw [f1] at q1
  rw [f2] at q2
  have x1 : -12 ≤ r1 ∧ r1 ≤ 12 := by omega
  have x2 : -12 ≤ r2 ∧ r2 ≤ 12 := by omega
  obtain ⟨y1, y2⟩ := x1
  obtain ⟨y3, y4⟩ := x2
  clear q1 q2
  have R := fun w : World => power_form s r1 ((k1 : Int) + 1) w hS h1
  have HR := Lib.hid R
  clear R hS V h1 hn1 hd1 hn2 hd2
  have vs := Vals.newL w (w.heap.size) [.int .i64 s.a, .int .i64 s.b, .int .i64 s.c, .int .i64 s.d] 23 rfl
  have bb := below_alloc w (.cells #[.int .i64 s.a, .int .i64 s.b, .int .i64 s.c, .int .i64 s.d] 23)
  have B := bb
  have sz0 := World.size_alloc w (.cells #[.int .i64 s.a, .int .i64 s.b, .int .i64 s.c, .int .i64 s.d] 23)
  have sz := sz0
  clear sz0
  clear bb
  have v1 := Vals.newL (w.alloc (.cells #[.int .i64 s.a, .int .i64 s.b, .int .i64 s.c, .int .i64 s.d] 23)) (w.heap.size + 1) [.int .i64 n1, .int .i64 d1] 36 sz.symm
  have bb := below_alloc (w.alloc (.cells #[.int .i64 s.a, .int .i64 s.b, .int .i64 s.c, .int .i64 s.d] 23)) (.cells #[.int .i64 n1, .int .i64 d1] 36)
  replace vs := vs.mono bb
  replace B := below_trans B bb
  clear bb
  have sz1 := World.size_alloc (w.alloc (.cells #[.int .i64 s.a, .int .i64 s.b, .int .i64 s.c, .int .i64 s.d] 23)) (.cells #[.int .i64 n1, .int .i64 d1] 36)
  rw [sz] at sz1
  clear sz
  have sz := sz1
  clear sz1
  have v2 := Vals.newL ((w.alloc (.cells #[.int .i64 s.a, .int .i64 s.b, .int .i64 s.c, .int .i64 s.d] 23)).alloc (.cells #[.int .i64 n1, .int .i64 d1] 36)) (w.heap.size + 1 + 1) [.int .i64 n2, .int .i64 d2] 36 sz.symm
  have bb := below_alloc ((w.alloc (.cells #[.int .i64 s.a, .int .i64 s.b, .int .i64 s.c, .int .i64 s.d] 23)).alloc (.cells #[.int .i64 n1, .int .i64 d1] 36)) (.cells #[.int .i64 n2, .int .i64 d2] 36)
  replace vs := vs.mono bb
  replace v1 := v1.mono bb
  replace B := below_trans B bb
  clear sz
  have bb0 := B
  clear bb
  go_enter Tryd.func5, Tryd.ntmps5
  go_wp2_with fail
  generalize (((w.alloc (.cells #[.int .i64 s.a, .int .i64 s.b, .int .i64 s.c, .int .i64 s.d] 23)).alloc (.cells #[.int .i64 n1, .int .i64 d1] 36)).alloc (.cells #[.int .i64 n2, .int .i64 d2] 36)) = w0 at *
  replace ht := ht.mono bb0
  clear bb0
  have cv10 := v1.cell (i := 0) (by simp)
  have cv11 := v1.cell (i := 1) (by simp)
  simp only [List.getD_cons_zero, List.getD_cons_succ] at cv10 cv11
  have ltv1 := v1.lt
  go_quiet (fail)
  clear cv10 cv11 ltv1
  replace vs := vs.drewN nq
  replace v1 := v1.drewN nq
  replace v2 := v2.drewN nq
  replace ht := ht.drewN nq
  replace B := below_drewN B nq
  go_upto_region 2 with (fail)
  generalize World.drewN _ nq = wa at *
  have cv20 := v2.cell (i := 0) (by simp)
  have cv21 := v2.cell (i := 1) (by simp)
  simp only [List.getD_cons_zero, List.getD_cons_succ] at cv20 cv21
  have ltv2 := v2.lt
  go_quiet (fail)
  clear cv20 cv21 ltv2
  replace vs := vs.drewN nq
  replace v1 := v1.drewN nq
  replace v2 := v2.drewN nq
  replace ht := ht.drewN nq
  replace B := below_drewN B nq
  go_upto_region 3 with (fail)
  generalize World.drewN _ nq = wb at *
  have cvs0 := vs.cell (i := 0) (by simp)
  have cvs1 := vs.cell (i := 1) (by simp)
  have cvs2 := vs.cell (i := 2) (by simp)
  have cvs3 := vs.cell (i := 3) (by simp)
  simp only [List.getD_cons_zero, List.getD_cons_succ] at cvs0 cvs1 cvs2 cvs3
  have ltvs := vs.lt
  go_wp2_with fail
  clear cvs0 cvs1 cvs2 cvs3 ltvs
  clear e1 e2 f1 f2
  refine (HR.out _).mono ?_
  rintro e w1 ⟨rfl, b1⟩
  replace vs := vs.mono b1
  replace v1 := v1.mono b1
  replace v2 := v2.mono b1
  replace ht := ht.mono b1
  replace B := below_trans B b1
  clear b1
  have cvs0 := vs.cell (i := 0) (by simp)
  have cvs1 := vs.cell (i := 1) (by simp)
  have cvs2 := vs.cell (i := 2) (by simp)
  have cvs3 := vs.cell (i := 3) (by simp)
  simp only [List.getD_cons_zero, List.getD_cons_succ] at cvs0 cvs1 cvs2 cvs3
  have ltvs := vs.lt
  go_wp2_with fail
  clear cvs0 cvs1 cvs2 cvs3 ltvs
  have v4 := Vals.newL w1 w1.heap.size [.int .i64 0, .int .i64 0, .int .i64 0, .int .i64 0] 23 rfl
  have bb := below_alloc w1 (.cells #[.int .i64 0, .int .i64 0, .int .i64 0, .int .i64 0] 23)
  replace vs := vs.mono bb
  replace v1 := v1.mono bb
  replace v2 := v2.mono bb
  replace ht := ht.mono bb
  replace B := below_trans B bb
  clear bb
  generalize w1.alloc (.cells #[.int .i64 0, .int .i64 0, .int .i64 0, .int .i64 0] 23) = w2 at *
  refine (lives_calls _ ht).mono ?_
  rintro e w3 ⟨rfl, b3⟩
  replace vs := vs.mono b3
  replace v1 := v1.mono b3
  replace v2 := v2.mono b3
  replace ht := ht.mono b3
  replace v4 := v4.mono b3
  replace B := below_trans B b3
  clear b3
  go_wp2
  go_ret
  exact ⟨rfl, B⟩

set_option maxRecDepth 100000 in
set_option maxHeartbeats 1000000 in
theorem powersOf_ok (s : T4) (n1 d1 n2 d2 : Int) (w : World) (hS : i64 s.a ∧ i64 s.b ∧ i64 s.c ∧ i64 s.d) (hn1 : i64 n1) (hd1 : i64 d1) (hn2 : i64 n2) (hd2 : i64 d2) (ht : Tab w) (h1 : validB s.a s.b s.c s.d = true) :
    Calls Tryd.prog 5 #[.agg #[.int .i64 s.a, .int .i64 s.b, .int .i64 s.c, .int .i64 s.d], .agg #[.int .i64 n1, .int .i64 d1], .agg #[.int .i64 n2, .int .i64 d2]] w (RetTrue w) := by
  have V := fun w : World => rvalid_calls s w hS
  have q1 := rem13 n1
  have q2 := rem13 n2
  obtain ⟨k1, j1, e1⟩ := and_seven d1 hd1
  obtain ⟨k2, j2, e2⟩ := and_seven d2 hd2
  obtain ⟨r1, f1⟩ : ∃ r, n1.tmod 13 = r := ⟨_, rfl⟩
  obtain ⟨r2, f2⟩ : ∃ r, n2.tmod 13 = r := ⟨_, rfl⟩
  rw [f1] at q1
  rw [f2] at q2
  have x1 : -12 ≤ r1 ∧ r1 ≤ 12 := by omega
  have x2 : -12 ≤ r2 ∧ r2 ≤ 12 := by omega
  obtain ⟨y1, y2⟩ := x1
  obtain ⟨y3, y4⟩ := x2
  clear q1 q2
  rw [h1] at V
  have HV := Lib.hid V
  have R1 := fun w : World => powerT_ok s r1 ((k1 : Int) + 1) w h1 (by unfold i64; omega) (by unfold i64; omega) (by omega)
  have p1 : (r1 * r2).natAbs ≤ 12 * 12 := abs_mul_le (by omega) (by omega)
  have p2 : (((k1 : Int) + 1) * ((k2 : Int) + 1)).natAbs ≤ 8 * 8 := abs_mul_le (by omega) (by omega)
  have p3 : 1 ≤ ((k1 : Int) + 1) * ((k2 : Int) + 1) := prod_pos (by omega) (by omega)
  have R3 := fun w : World => powerT_ok s (r1 * r2) (((k1 : Int) + 1) * ((k2 : Int) + 1)) w h1 (by unfold i64; omega) (by unfold i64; omega) p3
  have z1 : wrap64 (r1 * r2) = r1 * r2 := wrap64_small (by omega)
  have z2 : wrap64 (((k1 : Int) + 1) * ((k2 : Int) + 1)) = ((k1 : Int) + 1) * ((k2 : Int) + 1) := wrap64_small (by omega)
  have Z1 := Lib.hid z1
  have Z2 := Lib.hid z2
  have code1 := redT_code (s.a * r1) (s.b * r1) (s.c * r1) (s.d * ((k1 : Int) + 1))
  change (powT s r1 ((k1 : Int) + 1)).2 = 0 ∨ (powT s r1 ((k1 : Int) + 1)).2 = 5 at code1
  clear z1 z2 p1 p2 p3
  by_cases hk : (powT s r1 ((k1 : Int) + 1)).2 = 0
  · have okP : okT (powT s r1 ((k1 : Int) + 1)).1 := redT_okT hk
    have R2 := fun w : World => powerT_ok (powT s r1 ((k1 : Int) + 1)).1 r2 ((k2 : Int) + 1) w okP (by unfold i64; omega) (by unfold i64; omega) (by omega)
    rw [powT_pow h1 (by omega) hk] at R2
    generalize powT s (r1 * r2) (((k1 : Int) + 1) * ((k2 : Int) + 1)) = L at *
    clear okP code1
    generalize powT s r1 ((k1 : Int) + 1) = M at *
    obtain ⟨⟨p1, p2, p3, p4⟩, k⟩ := M
    obtain ⟨⟨l1, l2, l3, l4⟩, n⟩ := L
    dsimp only at *
    subst hk
    have H1 := Lib.hid R1
    have H2 := Lib.hid R2
    have H3 := Lib.hid R3
    clear R1 R2 R3 V h1 hS hn1 hd1 hn2 hd2
    have vs := Vals.newL w (w.heap.size) [.int .i64 s.a, .int .i64 s.b, .int .i64 s.c, .int .i64 s.d] 23 rfl
    have bb := below_alloc w (.cells #[.int .i64 s.a, .int .i64 s.b, .int .i64 s.c, .int .i64 s.d] 23)
    have B := bb
    have sz0 := World.size_alloc w (.cells #[.int .i64 s.a, .int .i64 s.b, .int .i64 s.c, .int .i64 s.d] 23)
    have sz := sz0
    clear sz0
    clear bb
    have v1 := Vals.newL (w.alloc (.cells #[.int .i64 s.a, .int .i64 s.b, .int .i64 s.c, .int .i64 s.d] 23)) (w.heap.size + 1) [.int .i64 n1, .int .i64 d1] 36 sz.symm
    have bb := below_alloc (w.alloc (.cells #[.int .i64 s.a, .int .i64 s.b, .int .i64 s.c, .int .i64 s.d] 23)) (.cells #[.int .i64 n1, .int .i64 d1] 36)
    replace vs := vs.mono bb
    replace B := below_trans B bb
    clear bb
    have sz1 := World.size_alloc (w.alloc (.cells #[.int .i64 s.a, .int .i64 s.b, .int .i64 s.c, .int .i64 s.d] 23)) (.cells #[.int .i64 n1, .int .i64 d1] 36)
    rw [sz] at sz1
    clear sz
    have sz := sz1
    clear sz1
    have v2 := Vals.newL ((w.alloc (.cells #[.int .i64 s.a, .int .i64 s.b, .int .i64 s.c, .int .i64 s.d] 23)).alloc (.cells #[.int .i64 n1, .int .i64 d1] 36)) (w.heap.size + 1 + 1) [.int .i64 n2, .int .i64 d2] 36 sz.symm
    have bb := below_alloc ((w.alloc (.cells #[.int .i64 s.a, .int .i64 s.b, .int .i64 s.c, .int .i64 s.d] 23)).alloc (.cells #[.int .i64 n1, .int .i64 d1] 36)) (.cells #[.int .i64 n2, .int .i64 d2] 36)
    replace vs := vs.mono bb
    replace v1 := v1.mono bb
    replace B := below_trans B bb
    clear sz
    have bb0 := B
    clear bb
    go_enter Tryd.func5, Tryd.ntmps5
    go_wp2_with fail
    generalize (((w.alloc (.cells #[.int .i64 s.a, .int .i64 s.b, .int .i64 s.c, .int .i64 s.d] 23)).alloc (.cells #[.int .i64 n1, .int .i64 d1] 36)).alloc (.cells #[.int .i64 n2, .int .i64 d2] 36)) = w0 at *
    replace ht := ht.mono bb0
    clear bb0
    have cv10 := v1.cell (i := 0) (by simp)
    have cv11 := v1.cell (i := 1) (by simp)
    simp only [List.getD_cons_zero, List.getD_cons_succ] at cv10 cv11
    have ltv1 := v1.lt
    go_quiet (fail)
    clear cv10 cv11 ltv1
    replace vs := vs.drewN nq
    replace v1 := v1.drewN nq
    replace v2 := v2.drewN nq
    replace ht := ht.drewN nq
    replace B := below_drewN B nq
    go_upto_region 2 with (fail)
    generalize World.drewN _ nq = wa at *
    have cv20 := v2.cell (i := 0) (by simp)
    have cv21 := v2.cell (i := 1) (by simp)
    simp only [List.getD_cons_zero, List.getD_cons_succ] at cv20 cv21
    have ltv2 := v2.lt
    go_quiet (fail)
    clear cv20 cv21 ltv2
    replace vs := vs.drewN nq
    replace v1 := v1.drewN nq
    replace v2 := v2.drewN nq
    replace ht := ht.drewN nq
    replace B := below_drewN B nq
    go_upto_region 3 with (fail)
    generalize World.drewN _ nq = wb at *
    have cvs0 := vs.cell (i := 0) (by simp)
    have cvs1 := vs.cell (i := 1) (by simp)
    have cvs2 := vs.cell (i := 2) (by simp)
    have cvs3 := vs.cell (i := 3) (by simp)
    simp only [List.getD_cons_zero, List.getD_cons_succ] at cvs0 cvs1 cvs2 cvs3
    have ltvs := vs.lt
    go_wp2_with fail
    clear cvs0 cvs1 cvs2 cvs3 ltvs
    clear e1 e2 f1 f2
    refine (H1.out _).mono ?_
    rintro e w1 ⟨rfl, b1⟩
    replace vs := vs.mono b1
    replace v1 := v1.mono b1
    replace v2 := v2.mono b1
    replace ht := ht.mono b1
    replace B := below_trans B b1
    clear b1
    have cvs0 := vs.cell (i := 0) (by simp)
    have cvs1 := vs.cell (i := 1) (by simp)
    have cvs2 := vs.cell (i := 2) (by simp)
    have cvs3 := vs.cell (i := 3) (by simp)
    simp only [List.getD_cons_zero, List.getD_cons_succ] at cvs0 cvs1 cvs2 cvs3
    have ltvs := vs.lt
    go_wp2_with fail
    clear cvs0 cvs1 cvs2 cvs3 ltvs
    have v4 := Vals.newL w1 w1.heap.size [.int .i64 p1, .int .i64 p2, .int .i64 p3, .int .i64 p4] 23 rfl
    have bb := below_alloc w1 (.cells #[.int .i64 p1, .int .i64 p2, .int .i64 p3, .int .i64 p4] 23)
    replace vs := vs.mono bb
    replace v1 := v1.mono bb
    replace v2 := v2.mono bb
    replace ht := ht.mono bb
    replace B := below_trans B bb
    clear bb
    generalize w1.alloc (.cells #[.int .i64 p1, .int .i64 p2, .int .i64 p3, .int .i64 p4] 23) = w2 at *
    refine (HV.out _).mono ?_
    rintro e w3 ⟨rfl, b3⟩
    replace vs := vs.mono b3
    replace v1 := v1.mono b3
    replace v2 := v2.mono b3
    replace ht := ht.mono b3
    replace v4 := v4.mono b3
    replace B := below_trans B b3
    clear b3
    have cv40 := v4.cell (i := 0) (by simp)
    have cv41 := v4.cell (i := 1) (by simp)
    have cv42 := v4.cell (i := 2) (by simp)
    have cv43 := v4.cell (i := 3) (by simp)
    simp only [List.getD_cons_zero, List.getD_cons_succ] at cv40 cv41 cv42 cv43
    have ltv4 := v4.lt
    go_wp2_with fail
    clear cv40 cv41 cv42 cv43 ltv4
    refine (H2.out _).mono ?_
    rintro e w4 ⟨rfl, b4⟩
    replace vs := vs.mono b4
    replace v1 := v1.mono b4
    replace v2 := v2.mono b4
    replace ht := ht.mono b4
    replace v4 := v4.mono b4
    replace B := below_trans B b4
    clear b4
    have cvs0 := vs.cell (i := 0) (by simp)
    have cvs1 := vs.cell (i := 1) (by simp)
    have cvs2 := vs.cell (i := 2) (by simp)
    have cvs3 := vs.cell (i := 3) (by simp)
    simp only [List.getD_cons_zero, List.getD_cons_succ] at cvs0 cvs1 cvs2 cvs3
    have ltvs := vs.lt
    go_wp2_with fail
    clear cvs0 cvs1 cvs2 cvs3 ltvs
    rw [Z1.out, Z2.out]
    have v5 := Vals.newL w4 w4.heap.size [.int .i64 l1, .int .i64 l2, .int .i64 l3, .int .i64 l4] 23 rfl
    have bb := below_alloc w4 (.cells #[.int .i64 l1, .int .i64 l2, .int .i64 l3, .int .i64 l4] 23)
    replace vs := vs.mono bb
    replace v1 := v1.mono bb
    replace v2 := v2.mono bb
    replace ht := ht.mono bb
    replace v4 := v4.mono bb
    replace B := below_trans B bb
    clear bb
    generalize w4.alloc (.cells #[.int .i64 l1, .int .i64 l2, .int .i64 l3, .int .i64 l4] 23) = w5 at *
    refine (H3.out _).mono ?_
    rintro e w6 ⟨rfl, b6⟩
    replace vs := vs.mono b6
    replace v1 := v1.mono b6
    replace v2 := v2.mono b6
    replace ht := ht.mono b6
    replace v4 := v4.mono b6
    replace v5 := v5.mono b6
    replace B := below_trans B b6
    clear b6
    have cv50 := v5.cell (i := 0) (by simp)
    have cv51 := v5.cell (i := 1) (by simp)
    have cv52 := v5.cell (i := 2) (by simp)
    have cv53 := v5.cell (i := 3) (by simp)
    simp only [List.getD_cons_zero, List.getD_cons_succ] at cv50 cv51 cv52 cv53
    have ltv5 := v5.lt
    go_wp2_with fail
    clear cv50 cv51 cv52 cv53 ltv5
    have v6 := Vals.newL w6 w6.heap.size [.int .i64 l1, .int .i64 l2, .int .i64 l3, .int .i64 l4] 23 rfl
    have bb := below_alloc w6 (.cells #[.int .i64 l1, .int .i64 l2, .int .i64 l3, .int .i64 l4] 23)
    replace vs := vs.mono bb
    replace v1 := v1.mono bb
    replace v2 := v2.mono bb
    replace ht := ht.mono bb
    replace v4 := v4.mono bb
    replace v5 := v5.mono bb
    replace B := below_trans B bb
    clear bb
    generalize w6.alloc (.cells #[.int .i64 l1, .int .i64 l2, .int .i64 l3, .int .i64 l4] 23) = w7 at *
    refine (lives_calls _ ht).mono ?_
    rintro e w8 ⟨rfl, b8⟩
    replace vs := vs.mono b8
    replace v1 := v1.mono b8
    replace v2 := v2.mono b8
    replace ht := ht.mono b8
    replace v4 := v4.mono b8
    replace v5 := v5.mono b8
    replace v6 := v6.mono b8
    replace B := below_trans B b8
    clear b8
    go_wp2
    go_ret
    exact ⟨rfl, B⟩
  · have k5 : (powT s r1 ((k1 : Int) + 1)).2 = 5 := by omega
    have kz := redT_err (a := s.a * r1) (b := s.b * r1) (c := s.c * r1) (d := s.d * ((k1 : Int) + 1)) hk
    change powT s r1 ((k1 : Int) + 1) = _ at kz
    rw [kz] at R1
    have H1 := Lib.hid R1
    clear R1 R3 V h1 hS hn1 hd1 hn2 hd2 code1 hk k5 kz Z1 Z2 HV
    have vs := Vals.newL w (w.heap.size) [.int .i64 s.a, .int .i64 s.b, .int .i64 s.c, .int .i64 s.d] 23 rfl
    have bb := below_alloc w (.cells #[.int .i64 s.a, .int .i64 s.b, .int .i64 s.c, .int .i64 s.d] 23)
    have B := bb
    have sz0 := World.size_alloc w (.cells #[.int .i64 s.a, .int .i64 s.b, .int .i64 s.c, .int .i64 s.d] 23)
    have sz := sz0
    clear sz0
    clear bb
    have v1 := Vals.newL (w.alloc (.cells #[.int .i64 s.a, .int .i64 s.b, .int .i64 s.c, .int .i64 s.d] 23)) (w.heap.size + 1) [.int .i64 n1, .int .i64 d1] 36 sz.symm
    have bb := below_alloc (w.alloc (.cells #[.int .i64 s.a, .int .i64 s.b, .int .i64 s.c, .int .i64 s.d] 23)) (.cells #[.int .i64 n1, .int .i64 d1] 36)
    replace vs := vs.mono bb
    replace B := below_trans B bb
    clear bb
    have sz1 := World.size_alloc (w.alloc (.cells #[.int .i64 s.a, .int .i64 s.b, .int .i64 s.c, .int .i64 s.d] 23)) (.cells #[.int .i64 n1, .int .i64 d1] 36)
    rw [sz] at sz1
    clear sz
    have sz := sz1
    clear sz1
    have v2 := Vals.newL ((w.alloc (.cells #[.int .i64 s.a, .int .i64 s.b, .int .i64 s.c, .int .i64 s.d] 23)).alloc (.cells #[.int .i64 n1, .int .i64 d1] 36)) (w.heap.size + 1 + 1) [.int .i64 n2, .int .i64 d2] 36 sz.symm
    have bb := below_alloc ((w.alloc (.cells #[.int .i64 s.a, .int .i64 s.b, .int .i64 s.c, .int .i64 s.d] 23)).alloc (.cells #[.int .i64 n1, .int .i64 d1] 36)) (.cells #[.int .i64 n2, .int .i64 d2] 36)
    replace vs := vs.mono bb
    replace v1 := v1.mono bb
    replace B := below_trans B bb
    clear sz
    have bb0 := B
    clear bb
    go_enter Tryd.func5, Tryd.ntmps5
    go_wp2_with fail
    generalize (((w.alloc (.cells #[.int .i64 s.a, .int .i64 s.b, .int .i64 s.c, .int .i64 s.d] 23)).alloc (.cells #[.int .i64 n1, .int .i64 d1] 36)).alloc (.cells #[.int .i64 n2, .int .i64 d2] 36)) = w0 at *
    replace ht := ht.mono bb0
    clear bb0
    have cv10 := v1.cell (i := 0) (by simp)
    have cv11 := v1.cell (i := 1) (by simp)
    simp only [List.getD_cons_zero, List.getD_cons_succ] at cv10 cv11
    have ltv1 := v1.lt
    go_quiet (fail)
    clear cv10 cv11 ltv1
    replace vs := vs.drewN nq
    replace v1 := v1.drewN nq
    replace v2 := v2.drewN nq
    replace ht := ht.drewN nq
    replace B := below_drewN B nq
    go_upto_region 2 with (fail)
    generalize World.drewN _ nq = wa at *
    have cv20 := v2.cell (i := 0) (by simp)
    have cv21 := v2.cell (i := 1) (by simp)
    simp only [List.getD_cons_zero, List.getD_cons_succ] at cv20 cv21
    have ltv2 := v2.lt
    go_quiet (fail)
    clear cv20 cv21 ltv2
    replace vs := vs.drewN nq
    replace v1 := v1.drewN nq
    replace v2 := v2.drewN nq
    replace ht := ht.drewN nq
    replace B := below_drewN B nq
    go_upto_region 3 with (fail)
    generalize World.drewN _ nq = wb at *
    have cvs0 := vs.cell (i := 0) (by simp)
    have cvs1 := vs.cell (i := 1) (by simp)
    have cvs2 := vs.cell (i := 2) (by simp)
    have cvs3 := vs.cell (i := 3) (by simp)
    simp only [List.getD_cons_zero, List.getD_cons_succ] at cvs0 cvs1 cvs2 cvs3
    have ltvs := vs.lt
    go_wp2_with fail
    clear cvs0 cvs1 cvs2 cvs3 ltvs
    clear e1 e2 f1 f2
    refine (H1.out _).mono ?_
    rintro e w1 ⟨rfl, b1⟩
    replace vs := vs.mono b1
    replace v1 := v1.mono b1
    replace v2 := v2.mono b1
    replace ht := ht.mono b1
    replace B := below_trans B b1
    clear b1
    go_wp2_with fail
    have v4 := Vals.newL w1 w1.heap.size [.int .i64 0, .int .i64 0, .int .i64 0, .int .i64 0] 23 rfl
    have bb := below_alloc w1 (.cells #[.int .i64 0, .int .i64 0, .int .i64 0, .int .i64 0] 23)
    replace vs := vs.mono bb
    replace v1 := v1.mono bb
    replace v2 := v2.mono bb
    replace ht := ht.mono bb
    replace B := below_trans B bb
    clear bb
    generalize w1.alloc (.cells #[.int .i64 0, .int .i64 0, .int .i64 0, .int .i64 0] 23) = w2 at *
    refine (lives_calls _ ht).mono ?_
    rintro e w3 ⟨rfl, b3⟩
    replace vs := vs.mono b3
    replace v1 := v1.mono b3
    replace v2 := v2.mono b3
    replace ht := ht.mono b3
    replace v4 := v4.mono b3
    replace B := below_trans B b3
    clear b3
    go_wp2
    go_ret
    exact ⟨rfl, B⟩

set_option maxRecDepth 100000 in
set_option maxHeartbeats 1000000 in
theorem walk_powersOf (s : T4) (n1 d1 n2 d2 : Int) (w : World) (hS : i64 s.a ∧ i64 s.b ∧ i64 s.c ∧ i64 s.d) (hn1 : i64 n1) (hd1 : i64 d1) (hn2 : i64 n2) (hd2 : i64 d2) (ht : Tab w)  :
    Calls Tryd.prog 5 #[.agg #[.int .i64 s.a, .int .i64 s.b, .int .i64 s.c, .int .i64 s.d], .agg #[.int .i64 n1, .int .i64 d1], .agg #[.int .i64 n2, .int .i64 d2]] w (RetTrue w) := by
  cases h1 : validB s.a s.b s.c s.d
  · exact powersOf_bad s n1 d1 n2 d2 w hS hn1 hd1 hn2 hd2 ht h1
  · exact powersOf_ok s n1 d1 n2 d2 w hS hn1 hd1 hn2 hd2 ht h1

end Go.Proofs
