/- The walk of ToneNext: whatever comes in, it returns true and changes nothing that was there. -/
import Derived.Test.YtnogieknjcbchaaDoorTRef
import Derived.Test.YtnogieknjcbchaaDoorTone8
import Derived.Test.YtnogieknjcbchaaDoorTFareyC
import Derived.Test.YtnogieknjcbchaaDoorTRefL
import Derived.Test.YtnogieknjcbchaaDoorTRef12
import Derived.Test.YtnogieknjcbchaaDoorTNextP
import Derived.Deep.RegionHeld3
open Go.RowKit Go.Deep
namespace Go.Proofs
set_option linter.unusedVariables false
set_option linter.unusedSimpArgs false

set_option maxRecDepth 100000 in
set_option maxHeartbeats 1000000 in
theorem next_bad (s : T4) (m : Int) (w : World) (hS : i64 s.a ∧ i64 s.b ∧ i64 s.c ∧ i64 s.d) (hM : i64 m) (ht : Tab w) (h1 : validB s.a s.b s.c s.d = false) :
    Calls Tryd.prog 4 #[.agg #[.int .i64 s.a, .int .i64 s.b, .int .i64 s.c, .int .i64 s.d], .int .i64 m] w (RetTrue w) := by
  obtain ⟨k, hk, hand⟩ := and_127 m hM.1 (by have := hM.2; omega)
  have V := fun w : World => rvalid_calls s w hS
  rw [h1] at V
  have HV := Lib.hid V
  clear V
  clear hS hM h1
  have vs := Vals.newL w (w.heap.size) [.int .i64 s.a, .int .i64 s.b, .int .i64 s.c, .int .i64 s.d] 23 rfl
  have bb := below_alloc w (.cells #[.int .i64 s.a, .int .i64 s.b, .int .i64 s.c, .int .i64 s.d] 23)
  have B := bb
  have bb0 := B
  clear bb
  go_enter Tryd.func4, Tryd.ntmps4
  go_wp2_with fail
  generalize (w.alloc (.cells #[.int .i64 s.a, .int .i64 s.b, .int .i64 s.c, .int .i64 s.d] 23)) = w0 at *
  replace ht := ht.mono bb0
  clear bb0
  refine (HV.out _).mono ?_
  rintro e w1 ⟨rfl, b1⟩
  replace vs := vs.mono b1
  replace ht := ht.mono b1
  replace B := below_trans B b1
  clear b1
  go_wp2_with fail
  refine (lives_calls _ ht).mono ?_
  rintro e w2 ⟨rfl, b2⟩
  replace vs := vs.mono b2
  replace ht := ht.mono b2
  replace B := below_trans B b2
  clear b2
  go_wp2
  go_ret
  exact ⟨rfl, B⟩

set_option maxRecDepth 100000 in
set_option maxHeartbeats 1000000 in
theorem next_large (s : T4) (m : Int) (w : World) (hS : i64 s.a ∧ i64 s.b ∧ i64 s.c ∧ i64 s.d) (hM : i64 m) (ht : Tab w) (h1 : validB s.a s.b s.c s.d = true) (g : ¬ (-48 ≤ s.a ∧ s.a ≤ 48 ∧ -48 ≤ s.b ∧ s.b ≤ 48 ∧ -48 ≤ s.c ∧ s.c ≤ 48)) :
    Calls Tryd.prog 4 #[.agg #[.int .i64 s.a, .int .i64 s.b, .int .i64 s.c, .int .i64 s.d], .int .i64 m] w (RetTrue w) := by
  obtain ⟨k, hk, hand⟩ := and_127 m hM.1 (by have := hM.2; omega)
  have V := fun w : World => rvalid_calls s w hS
  rw [h1] at V
  have L := fun w : World => large_yes s 48 w (by omega) (by omega) g
  have HV := Lib.hid V
  have HL := Lib.hid L
  clear V L
  clear hS hM h1 g
  have vs := Vals.newL w (w.heap.size) [.int .i64 s.a, .int .i64 s.b, .int .i64 s.c, .int .i64 s.d] 23 rfl
  have bb := below_alloc w (.cells #[.int .i64 s.a, .int .i64 s.b, .int .i64 s.c, .int .i64 s.d] 23)
  have B := bb
  have bb0 := B
  clear bb
  go_enter Tryd.func4, Tryd.ntmps4
  go_wp2_with fail
  generalize (w.alloc (.cells #[.int .i64 s.a, .int .i64 s.b, .int .i64 s.c, .int .i64 s.d] 23)) = w0 at *
  replace ht := ht.mono bb0
  clear bb0
  refine (HV.out _).mono ?_
  rintro e w1 ⟨rfl, b1⟩
  replace vs := vs.mono b1
  replace ht := ht.mono b1
  replace B := below_trans B b1
  clear b1
  have cvs0 := vs.cell (i := 0) (by simp)
  have cvs1 := vs.cell (i := 1) (by simp)
  have cvs2 := vs.cell (i := 2) (by simp)
  have cvs3 := vs.cell (i := 3) (by simp)
  simp only [List.getD_cons_zero, List.getD_cons_succ] at cvs0 cvs1 cvs2 cvs3
  have ltvs := vs.lt
  go_wp2_with fail
  clear cvs0 cvs1 cvs2 cvs3 ltvs
  refine (HL.out _).mono ?_
  rintro e w2 ⟨rfl, b2⟩
  replace vs := vs.mono b2
  replace ht := ht.mono b2
  replace B := below_trans B b2
  clear b2
  go_wp2_with fail
  refine (lives_calls _ ht).mono ?_
  rintro e w3 ⟨rfl, b3⟩
  replace vs := vs.mono b3
  replace ht := ht.mono b3
  replace B := below_trans B b3
  clear b3
  go_wp2
  go_ret
  exact ⟨rfl, B⟩

set_option maxRecDepth 100000 in
set_option maxHeartbeats 1000000 in
theorem next_out (s : T4) (m : Int) (w : World) (hS : i64 s.a ∧ i64 s.b ∧ i64 s.c ∧ i64 s.d) (hM : i64 m) (ht : Tab w) (h1 : validB s.a s.b s.c s.d = true) (g : -48 ≤ s.a ∧ s.a ≤ 48 ∧ -48 ≤ s.b ∧ s.b ≤ 48 ∧ -48 ≤ s.c ∧ s.c ≤ 48) (h : aboveI s 1 1 < 0 ∨ 0 ≤ aboveI s 2 1) :
    Calls Tryd.prog 4 #[.agg #[.int .i64 s.a, .int .i64 s.b, .int .i64 s.c, .int .i64 s.d], .int .i64 m] w (RetTrue w) := by
  obtain ⟨k, hk, hand⟩ := and_127 m hM.1 (by have := hM.2; omega)
  have V := fun w : World => rvalid_calls s w hS
  rw [h1] at V
  have L := fun w : World => large_no s 48 w (by omega) (by omega) g
  have P := fun w : World => farey_range s ((k : Int) + 1) w h1 (by omega) (by omega) h
  have HV := Lib.hid V
  have HL := Lib.hid L
  have HP := Lib.hid P
  clear V L P
  clear hS hM h1 g h
  have vs := Vals.newL w (w.heap.size) [.int .i64 s.a, .int .i64 s.b, .int .i64 s.c, .int .i64 s.d] 23 rfl
  have bb := below_alloc w (.cells #[.int .i64 s.a, .int .i64 s.b, .int .i64 s.c, .int .i64 s.d] 23)
  have B := bb
  have bb0 := B
  clear bb
  go_enter Tryd.func4, Tryd.ntmps4
  go_wp2_with fail
  generalize (w.alloc (.cells #[.int .i64 s.a, .int .i64 s.b, .int .i64 s.c, .int .i64 s.d] 23)) = w0 at *
  replace ht := ht.mono bb0
  clear bb0
  refine (HV.out _).mono ?_
  rintro e w1 ⟨rfl, b1⟩
  replace vs := vs.mono b1
  replace ht := ht.mono b1
  replace B := below_trans B b1
  clear b1
  have cvs0 := vs.cell (i := 0) (by simp)
  have cvs1 := vs.cell (i := 1) (by simp)
  have cvs2 := vs.cell (i := 2) (by simp)
  have cvs3 := vs.cell (i := 3) (by simp)
  simp only [List.getD_cons_zero, List.getD_cons_succ] at cvs0 cvs1 cvs2 cvs3
  have ltvs := vs.lt
  go_wp2_with fail
  clear cvs0 cvs1 cvs2 cvs3 ltvs
  refine (HL.out _).mono ?_
  rintro e w2 ⟨rfl, b2⟩
  replace vs := vs.mono b2
  replace ht := ht.mono b2
  replace B := below_trans B b2
  clear b2
  have cvs0 := vs.cell (i := 0) (by simp)
  have cvs1 := vs.cell (i := 1) (by simp)
  have cvs2 := vs.cell (i := 2) (by simp)
  have cvs3 := vs.cell (i := 3) (by simp)
  simp only [List.getD_cons_zero, List.getD_cons_succ] at cvs0 cvs1 cvs2 cvs3
  have ltvs := vs.lt
  go_wp2_with fail
  clear cvs0 cvs1 cvs2 cvs3 ltvs
  refine (HP.out _).mono ?_
  rintro e w3 ⟨rfl, b3⟩
  replace vs := vs.mono b3
  replace ht := ht.mono b3
  replace B := below_trans B b3
  clear b3
  go_upto_region 5 with (fail)
  have sz0 := World.size_alloc w3 (.cells #[.int .i64 0, .int .i64 0] 29)
  have va := Vals.newL w3 w3.heap.size [.int .i64 0, .int .i64 0] 29 rfl
  have bb := below_alloc w3 (.cells #[.int .i64 0, .int .i64 0] 29)
  have vb := Vals.newL (w3.alloc (.cells #[.int .i64 0, .int .i64 0] 29)) (w3.heap.size + 1) [.int .i64 0, .int .i64 0] 29 sz0.symm
  have bc := below_alloc (w3.alloc (.cells #[.int .i64 0, .int .i64 0] 29)) (.cells #[.int .i64 0, .int .i64 0] 29)
  have bd := below_trans bb bc
  replace va := va.mono bc
  replace vs := vs.mono bd
  replace ht := ht.mono bd
  replace B := below_trans B bd
  clear bb bc bd sz0
  generalize (w3.alloc (.cells #[.int .i64 0, .int .i64 0] 29)).alloc (.cells #[.int .i64 0, .int .i64 0] 29) = w4 at *
  generalize w3.heap.size = b7 at *
  have cva0 := va.cell (i := 0) (by simp)
  have cva1 := va.cell (i := 1) (by simp)
  simp only [List.getD_cons_zero, List.getD_cons_succ] at cva0 cva1
  have ltva := va.lt
  have cvb0 := vb.cell (i := 0) (by simp)
  have cvb1 := vb.cell (i := 1) (by simp)
  simp only [List.getD_cons_zero, List.getD_cons_succ] at cvb0 cvb1
  have ltvb := vb.lt
  go_wp2_with fail
  clear cva0 cva1 ltva cvb0 cvb1 ltvb
  go_wp2_with fail
  refine (lives_calls _ ht).mono ?_
  rintro e w5 ⟨rfl, b5⟩
  replace vs := vs.mono b5
  replace ht := ht.mono b5
  replace va := va.mono b5
  replace vb := vb.mono b5
  replace B := below_trans B b5
  clear b5
  go_wp2
  go_ret
  exact ⟨rfl, B⟩

set_option maxRecDepth 100000 in
set_option maxHeartbeats 1000000 in
theorem next_in (s : T4) (m : Int) (w : World) (hS : i64 s.a ∧ i64 s.b ∧ i64 s.c ∧ i64 s.d) (hM : i64 m) (ht : Tab w) (h1 : validB s.a s.b s.c s.d = true) (g : -48 ≤ s.a ∧ s.a ≤ 48 ∧ -48 ≤ s.b ∧ s.b ≤ 48 ∧ -48 ≤ s.c ∧ s.c ≤ 48) (h1a : ¬ aboveI s 1 1 < 0) (h2a : ¬ 0 ≤ aboveI s 2 1) :
    Calls Tryd.prog 4 #[.agg #[.int .i64 s.a, .int .i64 s.b, .int .i64 s.c, .int .i64 s.d], .int .i64 m] w (RetTrue w) := by
  obtain ⟨k, hk, hand⟩ := and_127 m hM.1 (by have := hM.2; omega)
  have V := fun w : World => rvalid_calls s w hS
  rw [h1] at V
  have L := fun w : World => large_no s 48 w (by omega) (by omega) g
  have P := fun w : World => farey_ok s (k + 1) w h1 (by omega) (by omega) h1a h2a
  rw [Int.natCast_add, show ((1 : Nat) : Int) = 1 from rfl] at P
  have k2 : aboveI s 2 1 = -1 := by rcases aboveI_cases s 2 1 with b | b | b <;> omega
  have hD : 1 ≤ s.d.toNat := by have := (validB_parts h1).2.1; omega
  have HH1 := Lib.hid h1
  have HK2 := Lib.hid k2
  have HHD := Lib.hid hD
  clear k2 h1a h2a hD
  have HV := Lib.hid V
  have HL := Lib.hid L
  have HP := Lib.hid P
  clear V L P
  clear hS hM h1 g
  have vs := Vals.newL w (w.heap.size) [.int .i64 s.a, .int .i64 s.b, .int .i64 s.c, .int .i64 s.d] 23 rfl
  have bb := below_alloc w (.cells #[.int .i64 s.a, .int .i64 s.b, .int .i64 s.c, .int .i64 s.d] 23)
  have B := bb
  have bb0 := B
  clear bb
  go_enter Tryd.func4, Tryd.ntmps4
  go_wp2_with fail
  generalize (w.alloc (.cells #[.int .i64 s.a, .int .i64 s.b, .int .i64 s.c, .int .i64 s.d] 23)) = w0 at *
  replace ht := ht.mono bb0
  clear bb0
  refine (HV.out _).mono ?_
  rintro e w1 ⟨rfl, b1⟩
  replace vs := vs.mono b1
  replace ht := ht.mono b1
  replace B := below_trans B b1
  clear b1
  have cvs0 := vs.cell (i := 0) (by simp)
  have cvs1 := vs.cell (i := 1) (by simp)
  have cvs2 := vs.cell (i := 2) (by simp)
  have cvs3 := vs.cell (i := 3) (by simp)
  simp only [List.getD_cons_zero, List.getD_cons_succ] at cvs0 cvs1 cvs2 cvs3
  have ltvs := vs.lt
  go_wp2_with fail
  clear cvs0 cvs1 cvs2 cvs3 ltvs
  refine (HL.out _).mono ?_
  rintro e w2 ⟨rfl, b2⟩
  replace vs := vs.mono b2
  replace ht := ht.mono b2
  replace B := below_trans B b2
  clear b2
  have cvs0 := vs.cell (i := 0) (by simp)
  have cvs1 := vs.cell (i := 1) (by simp)
  have cvs2 := vs.cell (i := 2) (by simp)
  have cvs3 := vs.cell (i := 3) (by simp)
  simp only [List.getD_cons_zero, List.getD_cons_succ] at cvs0 cvs1 cvs2 cvs3
  have ltvs := vs.lt
  go_wp2_with fail
  clear cvs0 cvs1 cvs2 cvs3 ltvs
  refine (HP.out _).mono ?_
  rintro e w3 ⟨pl, ql, ph, qh, res, rfl, bb⟩
  have HRES := Lib.hid res
  have hq := res.1
  clear res
  replace vs := vs.mono bb
  replace ht := ht.mono bb
  replace B := below_trans B bb
  clear bb
  go_upto_region 5 with (fail)
  have sz0 := World.size_alloc w3 (.cells #[.int .i64 (pl : Int), .int .i64 (ql : Int)] 29)
  have va := Vals.newL w3 w3.heap.size [.int .i64 (pl : Int), .int .i64 (ql : Int)] 29 rfl
  have bb := below_alloc w3 (.cells #[.int .i64 (pl : Int), .int .i64 (ql : Int)] 29)
  have vb := Vals.newL (w3.alloc (.cells #[.int .i64 (pl : Int), .int .i64 (ql : Int)] 29)) (w3.heap.size + 1) [.int .i64 (ph : Int), .int .i64 (qh : Int)] 29 sz0.symm
  have bc := below_alloc (w3.alloc (.cells #[.int .i64 (pl : Int), .int .i64 (ql : Int)] 29)) (.cells #[.int .i64 (ph : Int), .int .i64 (qh : Int)] 29)
  have bd := below_trans bb bc
  replace va := va.mono bc
  replace vs := vs.mono bd
  replace ht := ht.mono bd
  replace B := below_trans B bd
  clear bb bc bd sz0
  generalize (w3.alloc (.cells #[.int .i64 (pl : Int), .int .i64 (ql : Int)] 29)).alloc (.cells #[.int .i64 (ph : Int), .int .i64 (qh : Int)] 29) = w4 at *
  generalize w3.heap.size = b7 at *
  obtain ⟨hq1, hq2, hq3, hq4⟩ := hq
  have t1 : decide ((ql : Int) < 1) = false := by rw [decide_eq_false_iff_not]; omega
  have t2 : decide ((k : Int) + 1 < (ql : Int)) = false := by rw [decide_eq_false_iff_not]; omega
  have t3 : decide ((qh : Int) < 1) = false := by rw [decide_eq_false_iff_not]; omega
  have t4 : decide ((k : Int) + 1 < (qh : Int)) = false := by rw [decide_eq_false_iff_not]; omega
  have cva0 := va.cell (i := 0) (by simp)
  have cva1 := va.cell (i := 1) (by simp)
  simp only [List.getD_cons_zero, List.getD_cons_succ] at cva0 cva1
  have ltva := va.lt
  have cvb0 := vb.cell (i := 0) (by simp)
  have cvb1 := vb.cell (i := 1) (by simp)
  simp only [List.getD_cons_zero, List.getD_cons_succ] at cvb0 cvb1
  have ltvb := vb.lt
  go_wp2_with fail
  clear cva0 cva1 ltva cvb0 cvb1 ltvb
  refine (lives_calls _ ht).mono ?_
  rintro e w5 ⟨rfl, b5⟩
  replace vs := vs.mono b5
  replace ht := ht.mono b5
  replace va := va.mono b5
  replace vb := vb.mono b5
  replace B := below_trans B b5
  clear b5
  obtain ⟨r, hr⟩ := freq_exists ql s HH1.out
  obtain ⟨t, hrt⟩ := freq_exists qh s HH1.out
  have nf := next_facts HHD.out HRES.out hr hrt
  have r256 := next_small (most := k + 1) hr hq1 HK2.out (by omega) (by omega)
  have t256 := next_small (most := k + 1) hrt hq3 HK2.out (by omega) (by omega)
  have T1 := fun w : World => rtimesT_calls ql r s w (by omega) HH1.out hr
  have T2 := fun w : World => rtimesT_calls qh t s w (by omega) HH1.out hrt
  have lr : (limbs r).length ≤ 2 := limbs_length_le (k := 2) (by omega)
  have lt : (limbs t).length ≤ 2 := limbs_length_le (k := 2) (by omega)
  have S1 := fun (v : Value) (w : World) (h : Num w v r) => small_ok v r w h lr
  have S2 := fun (v : Value) (w : World) (h : Num w v t) => small_ok v t w h lt
  have HS1 := Lib.hid S1
  have HS2 := Lib.hid S2
  clear S1 S2 hr hrt lr lt t1 t2 t3 t4
  generalize exactT qh s t = ex2 at *
  generalize exactT ql s r = ex1 at *
  have HT1 := Lib.hid T1
  have HT2 := Lib.hid T2
  clear T1 T2
  have u1 : IntKind.u64.wrap (ql : Int) = (ql : Int) := by rw [IntKind.wrap_u64]; omega
  have u2 : IntKind.u64.wrap (qh : Int) = (qh : Int) := by rw [IntKind.wrap_u64]; omega
  have cva0 := va.cell (i := 0) (by simp)
  have cva1 := va.cell (i := 1) (by simp)
  simp only [List.getD_cons_zero, List.getD_cons_succ] at cva0 cva1
  have ltva := va.lt
  have cvs0 := vs.cell (i := 0) (by simp)
  have cvs1 := vs.cell (i := 1) (by simp)
  have cvs2 := vs.cell (i := 2) (by simp)
  have cvs3 := vs.cell (i := 3) (by simp)
  simp only [List.getD_cons_zero, List.getD_cons_succ] at cvs0 cvs1 cvs2 cvs3
  have ltvs := vs.lt
  go_wp2_with fail
  clear cva0 cva1 ltva cvs0 cvs1 cvs2 cvs3 ltvs
  refine (HT1.out _).mono ?_
  rintro e w6 ⟨v1, rfl, n1, b6⟩
  replace vs := vs.mono b6
  replace ht := ht.mono b6
  replace va := va.mono b6
  replace vb := vb.mono b6
  replace B := below_trans B b6
  clear b6
  have cvb0 := vb.cell (i := 0) (by simp)
  have cvb1 := vb.cell (i := 1) (by simp)
  simp only [List.getD_cons_zero, List.getD_cons_succ] at cvb0 cvb1
  have ltvb := vb.lt
  have cvs0 := vs.cell (i := 0) (by simp)
  have cvs1 := vs.cell (i := 1) (by simp)
  have cvs2 := vs.cell (i := 2) (by simp)
  have cvs3 := vs.cell (i := 3) (by simp)
  simp only [List.getD_cons_zero, List.getD_cons_succ] at cvs0 cvs1 cvs2 cvs3
  have ltvs := vs.lt
  go_wp2_with fail
  clear cvb0 cvb1 ltvb cvs0 cvs1 cvs2 cvs3 ltvs
  refine (HT2.out _).mono ?_
  rintro e w7 ⟨v2, rfl, n2, b7⟩
  replace vs := vs.mono b7
  replace ht := ht.mono b7
  replace va := va.mono b7
  replace vb := vb.mono b7
  replace n1 := n1.mono b7
  replace B := below_trans B b7
  clear b7
  go_wp2_with fail
  refine (HS1.out _ _ n1).mono ?_
  rintro e xq ⟨rfl, rfl⟩
  go_wp2_with fail
  refine (HS2.out _ _ n2).mono ?_
  rintro e xq ⟨rfl, rfl⟩
  clear n1 n2 HS1 HS2 HT1 HT2 u1 u2
  have hB2 := Lib.hid B
  clear B
  rcases nf with ⟨e1, e2, e3, e4⟩ | ⟨e1, e2, e3, e4, e5⟩
  · subst e1 e2 e3 e4
    have q1 : ∀ w : World, (binOp .eql 29 (.agg #[.int .i64 (r : Int), .int .i64 (qh : Int)]) (.agg #[.int .i64 (r : Int), .int .i64 (qh : Int)])).run Tryd.prog w = .ok (.bool true) w := fun w => by rw [run_eql_frac]; simp
    have u3 : IntKind.u64.wrap (r : Int) = (r : Int) := by rw [IntKind.wrap_u64]; omega
    have cva0 := va.cell (i := 0) (by simp)
    have cva1 := va.cell (i := 1) (by simp)
    simp only [List.getD_cons_zero, List.getD_cons_succ] at cva0 cva1
    have ltva := va.lt
    have cvb0 := vb.cell (i := 0) (by simp)
    have cvb1 := vb.cell (i := 1) (by simp)
    simp only [List.getD_cons_zero, List.getD_cons_succ] at cvb0 cvb1
    have ltvb := vb.lt
    go_wp2
    clear cva0 cva1 ltva cvb0 cvb1 ltvb
    go_ret
    exact ⟨rfl, hB2.out⟩
  · subst e2 e3 e4
    have q1 : ∀ w : World, (binOp .eql 29 (.agg #[.int .i64 (r : Int), .int .i64 (ql : Int)]) (.agg #[.int .i64 (ph : Int), .int .i64 (qh : Int)])).run Tryd.prog w = .ok (.bool false) w := fun w => by
      rw [run_eql_frac]
      have : (decide ((r : Int) = (ph : Int)) && decide ((ql : Int) = (qh : Int))) = false := by
        rw [Bool.and_eq_false_iff, decide_eq_false_iff_not, decide_eq_false_iff_not]
        by_cases h1 : (r : Int) = (ph : Int)
        · right
          intro h2
          obtain rfl : r = ph := by omega
          obtain rfl : ql = qh := by omega
          omega
        · exact .inl h1
      rw [this]
    have u3 : IntKind.u64.wrap (r : Int) = (r : Int) := by rw [IntKind.wrap_u64]; omega
    have u4 : IntKind.u64.wrap (ph : Int) = (ph : Int) := by rw [IntKind.wrap_u64]; omega
    have u5 : IntKind.u64.wrap ((t : Int) + 1) = (ph : Int) := by rw [IntKind.wrap_u64]; omega
    have HE1 := Lib.hid e1
    have HE5 := Lib.hid e5
    clear e1 e5
    have cva0 := va.cell (i := 0) (by simp)
    have cva1 := va.cell (i := 1) (by simp)
    simp only [List.getD_cons_zero, List.getD_cons_succ] at cva0 cva1
    have ltva := va.lt
    have cvb0 := vb.cell (i := 0) (by simp)
    have cvb1 := vb.cell (i := 1) (by simp)
    simp only [List.getD_cons_zero, List.getD_cons_succ] at cvb0 cvb1
    have ltvb := vb.lt
    go_wp2
    clear cva0 cva1 ltva cvb0 cvb1 ltvb
    go_ret
    refine ⟨ret_bool ?_, hB2.out⟩
    have hm : r * qh ≤ 256 * 128 := Nat.mul_le_mul (by omega) (by omega)
    rw [← Int.natCast_mul, ← Int.natCast_mul, HE1.out]
    generalize r * qh = X at *
    rw [wrap64_small (x := ((X + 1 : Nat) : Int)) (by omega), wrap64_small (x := (X : Int)) (by omega), show ((X + 1 : Nat) : Int) - (X : Int) = 1 by omega, wrap64_small (x := 1) (by omega)]
    rfl

set_option maxRecDepth 100000 in
set_option maxHeartbeats 1000000 in
theorem walk_next (s : T4) (m : Int) (w : World) (hS : i64 s.a ∧ i64 s.b ∧ i64 s.c ∧ i64 s.d) (hM : i64 m) (ht : Tab w)  :
    Calls Tryd.prog 4 #[.agg #[.int .i64 s.a, .int .i64 s.b, .int .i64 s.c, .int .i64 s.d], .int .i64 m] w (RetTrue w) := by
  cases h1 : validB s.a s.b s.c s.d
  · exact next_bad s m w hS hM ht h1
  by_cases g : -48 ≤ s.a ∧ s.a ≤ 48 ∧ -48 ≤ s.b ∧ s.b ≤ 48 ∧ -48 ≤ s.c ∧ s.c ≤ 48
  case neg => exact next_large s m w hS hM ht h1 g
  by_cases h1a : aboveI s 1 1 < 0
  · exact next_out s m w hS hM ht h1 g (.inl h1a)
  by_cases h2a : 0 ≤ aboveI s 2 1
  · exact next_out s m w hS hM ht h1 g (.inr h2a)
  exact next_in s m w hS hM ht h1 g h1a h2a

end Go.Proofs
