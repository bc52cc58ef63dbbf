/- The walk of ToneFareys: whatever comes in, it returns true and changes nothing that was there. -/
import Derived.Test.YtnogieknjcbchaaDoorTRef
import Derived.Test.YtnogieknjcbchaaDoorTone8
import Derived.Test.YtnogieknjcbchaaDoorTFareyC
import Derived.Test.YtnogieknjcbchaaDoorTRefL
import Derived.Test.YtnogieknjcbchaaDoorTRef12
import Derived.Deep.RegionHeld3
open Go.RowKit Go.Deep
namespace Go.Proofs
set_option linter.unusedVariables false
set_option linter.unusedSimpArgs false

set_option maxRecDepth 100000 in
set_option maxHeartbeats 1000000 in
theorem fareys_bad (s : T4) (m : Int) (w : World) (hS : i64 s.a ∧ i64 s.b ∧ i64 s.c ∧ i64 s.d) (hM : i64 m) (ht : Tab w) (h1 : validB s.a s.b s.c s.d = false) :
    Calls Tryd.prog 3 #[.agg #[.int .i64 s.a, .int .i64 s.b, .int .i64 s.c, .int .i64 s.d], .int .i64 m] w (RetTrue w) := by
  have F := fun w : World => form_0 s s w hS hS h1
  have P := fun w : World => farey_bad s m w hS h1
  have HF := Lib.hid F
  have HP := Lib.hid P
  clear F P
  clear hS h1
  have vs := Vals.newL w (w.heap.size) [.int .i64 s.a, .int .i64 s.b, .int .i64 s.c, .int .i64 s.d] 23 rfl
  have bb := below_alloc w (.cells #[.int .i64 s.a, .int .i64 s.b, .int .i64 s.c, .int .i64 s.d] 23)
  have B := bb
  have bb0 := B
  clear bb
  go_enter Tryd.func3, Tryd.ntmps3
  go_wp2_with fail
  generalize (w.alloc (.cells #[.int .i64 s.a, .int .i64 s.b, .int .i64 s.c, .int .i64 s.d] 23)) = w0 at *
  replace ht := ht.mono bb0
  clear bb0
  refine (HF.out _).mono ?_
  rintro e w1 ⟨rfl, b1⟩
  replace vs := vs.mono b1
  replace ht := ht.mono b1
  replace B := below_trans B b1
  clear b1
  have cvs0 := vs.cell (i := 0) (by simp)
  have cvs1 := vs.cell (i := 1) (by simp)
  have cvs2 := vs.cell (i := 2) (by simp)
  have cvs3 := vs.cell (i := 3) (by simp)
  simp only [List.getD_cons_zero, List.getD_cons_succ] at cvs0 cvs1 cvs2 cvs3
  have ltvs := vs.lt
  go_wp2_with fail
  clear cvs0 cvs1 cvs2 cvs3 ltvs
  refine (HP.out _).mono ?_
  rintro e w2 ⟨rfl, b2⟩
  replace vs := vs.mono b2
  replace ht := ht.mono b2
  replace B := below_trans B b2
  clear b2
  go_upto_region 9 with (fail)
  have sz0 := World.size_alloc w2 (.cells #[.int .i64 0, .int .i64 0] 29)
  have va := Vals.newL w2 w2.heap.size [.int .i64 0, .int .i64 0] 29 rfl
  have bb := below_alloc w2 (.cells #[.int .i64 0, .int .i64 0] 29)
  have vb := Vals.newL (w2.alloc (.cells #[.int .i64 0, .int .i64 0] 29)) (w2.heap.size + 1) [.int .i64 0, .int .i64 0] 29 sz0.symm
  have bc := below_alloc (w2.alloc (.cells #[.int .i64 0, .int .i64 0] 29)) (.cells #[.int .i64 0, .int .i64 0] 29)
  have bd := below_trans bb bc
  replace va := va.mono bc
  replace vs := vs.mono bd
  replace ht := ht.mono bd
  replace B := below_trans B bd
  clear bb bc bd sz0
  generalize (w2.alloc (.cells #[.int .i64 0, .int .i64 0] 29)).alloc (.cells #[.int .i64 0, .int .i64 0] 29) = w3 at *
  generalize w2.heap.size = b7 at *
  go_region
  replace vs := vs.drew
  replace ht := ht.drew
  replace va := va.drew
  replace vb := vb.drew
  replace B := B.drew
  generalize w3.drew = w4 at *
  have cva0 := va.cell (i := 0) (by simp)
  have cva1 := va.cell (i := 1) (by simp)
  simp only [List.getD_cons_zero, List.getD_cons_succ] at cva0 cva1
  have ltva := va.lt
  have cvb0 := vb.cell (i := 0) (by simp)
  have cvb1 := vb.cell (i := 1) (by simp)
  simp only [List.getD_cons_zero, List.getD_cons_succ] at cvb0 cvb1
  have ltvb := vb.lt
  go_wp2_with fail
  clear cva0 cva1 ltva cvb0 cvb1 ltvb
  refine (lives_calls _ ht).mono ?_
  rintro e w5 ⟨rfl, b5⟩
  replace vs := vs.mono b5
  replace ht := ht.mono b5
  replace va := va.mono b5
  replace vb := vb.mono b5
  replace B := below_trans B b5
  clear b5
  go_wp2
  go_ret
  exact ⟨rfl, B⟩

set_option maxRecDepth 100000 in
set_option maxHeartbeats 1000000 in
theorem fareys_lo (s : T4) (m : Int) (w : World) (hS : i64 s.a ∧ i64 s.b ∧ i64 s.c ∧ i64 s.d) (hM : i64 m) (ht : Tab w) (h1 : validB s.a s.b s.c s.d = true) (h2 : m < 1) :
    Calls Tryd.prog 3 #[.agg #[.int .i64 s.a, .int .i64 s.b, .int .i64 s.c, .int .i64 s.d], .int .i64 m] w (RetTrue w) := by
  have F := fun w : World => form_2 s s w hS hS h1 h1
  have P := fun w : World => farey_low s m w h1 h2
  have HF := Lib.hid F
  have HP := Lib.hid P
  clear F P
  clear hS h1
  have vs := Vals.newL w (w.heap.size) [.int .i64 s.a, .int .i64 s.b, .int .i64 s.c, .int .i64 s.d] 23 rfl
  have bb := below_alloc w (.cells #[.int .i64 s.a, .int .i64 s.b, .int .i64 s.c, .int .i64 s.d] 23)
  have B := bb
  have bb0 := B
  clear bb
  go_enter Tryd.func3, Tryd.ntmps3
  go_wp2_with fail
  generalize (w.alloc (.cells #[.int .i64 s.a, .int .i64 s.b, .int .i64 s.c, .int .i64 s.d] 23)) = w0 at *
  replace ht := ht.mono bb0
  clear bb0
  refine (HF.out _).mono ?_
  rintro e w1 ⟨rfl, b1⟩
  replace vs := vs.mono b1
  replace ht := ht.mono b1
  replace B := below_trans B b1
  clear b1
  have cvs0 := vs.cell (i := 0) (by simp)
  have cvs1 := vs.cell (i := 1) (by simp)
  have cvs2 := vs.cell (i := 2) (by simp)
  have cvs3 := vs.cell (i := 3) (by simp)
  simp only [List.getD_cons_zero, List.getD_cons_succ] at cvs0 cvs1 cvs2 cvs3
  have ltvs := vs.lt
  go_wp2_with fail
  clear cvs0 cvs1 cvs2 cvs3 ltvs
  refine (HP.out _).mono ?_
  rintro e w2 ⟨rfl, b2⟩
  replace vs := vs.mono b2
  replace ht := ht.mono b2
  replace B := below_trans B b2
  clear b2
  go_upto_region 9 with (fail)
  have sz0 := World.size_alloc w2 (.cells #[.int .i64 0, .int .i64 0] 29)
  have va := Vals.newL w2 w2.heap.size [.int .i64 0, .int .i64 0] 29 rfl
  have bb := below_alloc w2 (.cells #[.int .i64 0, .int .i64 0] 29)
  have vb := Vals.newL (w2.alloc (.cells #[.int .i64 0, .int .i64 0] 29)) (w2.heap.size + 1) [.int .i64 0, .int .i64 0] 29 sz0.symm
  have bc := below_alloc (w2.alloc (.cells #[.int .i64 0, .int .i64 0] 29)) (.cells #[.int .i64 0, .int .i64 0] 29)
  have bd := below_trans bb bc
  replace va := va.mono bc
  replace vs := vs.mono bd
  replace ht := ht.mono bd
  replace B := below_trans B bd
  clear bb bc bd sz0
  generalize (w2.alloc (.cells #[.int .i64 0, .int .i64 0] 29)).alloc (.cells #[.int .i64 0, .int .i64 0] 29) = w3 at *
  generalize w2.heap.size = b7 at *
  go_region
  replace vs := vs.drew
  replace ht := ht.drew
  replace va := va.drew
  replace vb := vb.drew
  replace B := B.drew
  generalize w3.drew = w4 at *
  have cva0 := va.cell (i := 0) (by simp)
  have cva1 := va.cell (i := 1) (by simp)
  simp only [List.getD_cons_zero, List.getD_cons_succ] at cva0 cva1
  have ltva := va.lt
  have cvb0 := vb.cell (i := 0) (by simp)
  have cvb1 := vb.cell (i := 1) (by simp)
  simp only [List.getD_cons_zero, List.getD_cons_succ] at cvb0 cvb1
  have ltvb := vb.lt
  go_wp2_with fail
  clear cva0 cva1 ltva cvb0 cvb1 ltvb
  refine (lives_calls _ ht).mono ?_
  rintro e w5 ⟨rfl, b5⟩
  replace vs := vs.mono b5
  replace ht := ht.mono b5
  replace va := va.mono b5
  replace vb := vb.mono b5
  replace B := below_trans B b5
  clear b5
  go_wp2
  go_ret
  exact ⟨rfl, B⟩

set_option maxRecDepth 100000 in
set_option maxHeartbeats 1000000 in
theorem fareys_hi (s : T4) (m : Int) (w : World) (hS : i64 s.a ∧ i64 s.b ∧ i64 s.c ∧ i64 s.d) (hM : i64 m) (ht : Tab w) (h1 : validB s.a s.b s.c s.d = true) (h2 : 4096 < m) :
    Calls Tryd.prog 3 #[.agg #[.int .i64 s.a, .int .i64 s.b, .int .i64 s.c, .int .i64 s.d], .int .i64 m] w (RetTrue w) := by
  have F := fun w : World => form_2 s s w hS hS h1 h1
  have P := fun w : World => farey_high s m w h1 h2
  have HF := Lib.hid F
  have HP := Lib.hid P
  clear F P
  clear hS h1
  have vs := Vals.newL w (w.heap.size) [.int .i64 s.a, .int .i64 s.b, .int .i64 s.c, .int .i64 s.d] 23 rfl
  have bb := below_alloc w (.cells #[.int .i64 s.a, .int .i64 s.b, .int .i64 s.c, .int .i64 s.d] 23)
  have B := bb
  have bb0 := B
  clear bb
  go_enter Tryd.func3, Tryd.ntmps3
  go_wp2_with fail
  generalize (w.alloc (.cells #[.int .i64 s.a, .int .i64 s.b, .int .i64 s.c, .int .i64 s.d] 23)) = w0 at *
  replace ht := ht.mono bb0
  clear bb0
  refine (HF.out _).mono ?_
  rintro e w1 ⟨rfl, b1⟩
  replace vs := vs.mono b1
  replace ht := ht.mono b1
  replace B := below_trans B b1
  clear b1
  have cvs0 := vs.cell (i := 0) (by simp)
  have cvs1 := vs.cell (i := 1) (by simp)
  have cvs2 := vs.cell (i := 2) (by simp)
  have cvs3 := vs.cell (i := 3) (by simp)
  simp only [List.getD_cons_zero, List.getD_cons_succ] at cvs0 cvs1 cvs2 cvs3
  have ltvs := vs.lt
  go_wp2_with fail
  clear cvs0 cvs1 cvs2 cvs3 ltvs
  refine (HP.out _).mono ?_
  rintro e w2 ⟨rfl, b2⟩
  replace vs := vs.mono b2
  replace ht := ht.mono b2
  replace B := below_trans B b2
  clear b2
  go_upto_region 9 with (fail)
  have sz0 := World.size_alloc w2 (.cells #[.int .i64 0, .int .i64 0] 29)
  have va := Vals.newL w2 w2.heap.size [.int .i64 0, .int .i64 0] 29 rfl
  have bb := below_alloc w2 (.cells #[.int .i64 0, .int .i64 0] 29)
  have vb := Vals.newL (w2.alloc (.cells #[.int .i64 0, .int .i64 0] 29)) (w2.heap.size + 1) [.int .i64 0, .int .i64 0] 29 sz0.symm
  have bc := below_alloc (w2.alloc (.cells #[.int .i64 0, .int .i64 0] 29)) (.cells #[.int .i64 0, .int .i64 0] 29)
  have bd := below_trans bb bc
  replace va := va.mono bc
  replace vs := vs.mono bd
  replace ht := ht.mono bd
  replace B := below_trans B bd
  clear bb bc bd sz0
  generalize (w2.alloc (.cells #[.int .i64 0, .int .i64 0] 29)).alloc (.cells #[.int .i64 0, .int .i64 0] 29) = w3 at *
  generalize w2.heap.size = b7 at *
  go_region
  replace vs := vs.drew
  replace ht := ht.drew
  replace va := va.drew
  replace vb := vb.drew
  replace B := B.drew
  generalize w3.drew = w4 at *
  have cva0 := va.cell (i := 0) (by simp)
  have cva1 := va.cell (i := 1) (by simp)
  simp only [List.getD_cons_zero, List.getD_cons_succ] at cva0 cva1
  have ltva := va.lt
  have cvb0 := vb.cell (i := 0) (by simp)
  have cvb1 := vb.cell (i := 1) (by simp)
  simp only [List.getD_cons_zero, List.getD_cons_succ] at cvb0 cvb1
  have ltvb := vb.lt
  go_wp2_with fail
  clear cva0 cva1 ltva cvb0 cvb1 ltvb
  refine (lives_calls _ ht).mono ?_
  rintro e w5 ⟨rfl, b5⟩
  replace vs := vs.mono b5
  replace ht := ht.mono b5
  replace va := va.mono b5
  replace vb := vb.mono b5
  replace B := below_trans B b5
  clear b5
  go_wp2
  go_ret
  exact ⟨rfl, B⟩

set_option maxRecDepth 100000 in
set_option maxHeartbeats 1000000 in
theorem fareys_large (s : T4) (m : Int) (w : World) (hS : i64 s.a ∧ i64 s.b ∧ i64 s.c ∧ i64 s.d) (hM : i64 m) (ht : Tab w) (h1 : validB s.a s.b s.c s.d = true) (h2 : 1 ≤ m) (h3 : m ≤ 4096) (g : ¬ (-48 ≤ s.a ∧ s.a ≤ 48 ∧ -48 ≤ s.b ∧ s.b ≤ 48 ∧ -48 ≤ s.c ∧ s.c ≤ 48)) :
    Calls Tryd.prog 3 #[.agg #[.int .i64 s.a, .int .i64 s.b, .int .i64 s.c, .int .i64 s.d], .int .i64 m] w (RetTrue w) := by
  have F := fun w : World => form_2 s s w hS hS h1 h1
  have L := fun w : World => large_yes s 48 w (by omega) (by omega) g
  have HF := Lib.hid F
  have HL := Lib.hid L
  clear F L
  clear hS h1 g
  have vs := Vals.newL w (w.heap.size) [.int .i64 s.a, .int .i64 s.b, .int .i64 s.c, .int .i64 s.d] 23 rfl
  have bb := below_alloc w (.cells #[.int .i64 s.a, .int .i64 s.b, .int .i64 s.c, .int .i64 s.d] 23)
  have B := bb
  have bb0 := B
  clear bb
  go_enter Tryd.func3, Tryd.ntmps3
  go_wp2_with fail
  generalize (w.alloc (.cells #[.int .i64 s.a, .int .i64 s.b, .int .i64 s.c, .int .i64 s.d] 23)) = w0 at *
  replace ht := ht.mono bb0
  clear bb0
  refine (HF.out _).mono ?_
  rintro e w1 ⟨rfl, b1⟩
  replace vs := vs.mono b1
  replace ht := ht.mono b1
  replace B := below_trans B b1
  clear b1
  have cvs0 := vs.cell (i := 0) (by simp)
  have cvs1 := vs.cell (i := 1) (by simp)
  have cvs2 := vs.cell (i := 2) (by simp)
  have cvs3 := vs.cell (i := 3) (by simp)
  simp only [List.getD_cons_zero, List.getD_cons_succ] at cvs0 cvs1 cvs2 cvs3
  have ltvs := vs.lt
  go_wp2_with fail
  clear cvs0 cvs1 cvs2 cvs3 ltvs
  refine (HL.out _).mono ?_
  rintro e w2 ⟨rfl, b2⟩
  replace vs := vs.mono b2
  replace ht := ht.mono b2
  replace B := below_trans B b2
  clear b2
  go_wp2_with fail
  refine (lives_calls _ ht).mono ?_
  rintro e w3 ⟨rfl, b3⟩
  replace vs := vs.mono b3
  replace ht := ht.mono b3
  replace B := below_trans B b3
  clear b3
  go_wp2
  go_ret
  exact ⟨rfl, B⟩

set_option maxRecDepth 100000 in
set_option maxHeartbeats 1000000 in
theorem fareys_below (s : T4) (m : Int) (w : World) (hS : i64 s.a ∧ i64 s.b ∧ i64 s.c ∧ i64 s.d) (hM : i64 m) (ht : Tab w) (h1 : validB s.a s.b s.c s.d = true) (h2 : 1 ≤ m) (h3 : m ≤ 4096) (g : -48 ≤ s.a ∧ s.a ≤ 48 ∧ -48 ≤ s.b ∧ s.b ≤ 48 ∧ -48 ≤ s.c ∧ s.c ≤ 48) (k1 : aboveI s 1 1 = -1) :
    Calls Tryd.prog 3 #[.agg #[.int .i64 s.a, .int .i64 s.b, .int .i64 s.c, .int .i64 s.d], .int .i64 m] w (RetTrue w) := by
  have F := fun w : World => form_2 s s w hS hS h1 h1
  have L := fun w : World => large_no s 48 w (by omega) (by omega) g
  obtain ⟨most, hmost⟩ : ∃ n : Nat, (m - 1) % 50 + 1 = (n : Int) := ⟨((m - 1) % 50 + 1).toNat, by omega⟩
  have hm1 : 1 ≤ most := by omega
  have hm2 : most ≤ 50 := by omega
  have P := fun w : World => farey_range s (most : Int) w h1 (by omega) (by omega) (.inl (by omega))
  have C1 := fun w : World => rcmpT_ok s ⟨0, 0, 0, 1⟩ w h1 unit_ok
  have C2 := fun w : World => rcmpT_ok s ⟨1, 0, 0, 1⟩ w h1 (by unfold validB gcd4 gcdN; decide)
  rw [cmp_one] at C1
  rw [cmp_two s (validB_parts h1).2.1] at C2
  dsimp only at C1 C2
  rw [k1] at C1
  clear k1
  have HE1 := Lib.hid hmost
  clear hmost
  have HF := Lib.hid F
  have HL := Lib.hid L
  have HP := Lib.hid P
  have HC1 := Lib.hid C1
  have HC2 := Lib.hid C2
  clear F L P C1 C2
  clear hS h1 g
  have vs := Vals.newL w (w.heap.size) [.int .i64 s.a, .int .i64 s.b, .int .i64 s.c, .int .i64 s.d] 23 rfl
  have bb := below_alloc w (.cells #[.int .i64 s.a, .int .i64 s.b, .int .i64 s.c, .int .i64 s.d] 23)
  have B := bb
  have bb0 := B
  clear bb
  go_enter Tryd.func3, Tryd.ntmps3
  go_wp2_with fail
  generalize (w.alloc (.cells #[.int .i64 s.a, .int .i64 s.b, .int .i64 s.c, .int .i64 s.d] 23)) = w0 at *
  replace ht := ht.mono bb0
  clear bb0
  refine (HF.out _).mono ?_
  rintro e w1 ⟨rfl, b1⟩
  replace vs := vs.mono b1
  replace ht := ht.mono b1
  replace B := below_trans B b1
  clear b1
  have cvs0 := vs.cell (i := 0) (by simp)
  have cvs1 := vs.cell (i := 1) (by simp)
  have cvs2 := vs.cell (i := 2) (by simp)
  have cvs3 := vs.cell (i := 3) (by simp)
  simp only [List.getD_cons_zero, List.getD_cons_succ] at cvs0 cvs1 cvs2 cvs3
  have ltvs := vs.lt
  go_wp2_with fail
  clear cvs0 cvs1 cvs2 cvs3 ltvs
  refine (HL.out _).mono ?_
  rintro e w2 ⟨rfl, b2⟩
  replace vs := vs.mono b2
  replace ht := ht.mono b2
  replace B := below_trans B b2
  clear b2
  have cvs0 := vs.cell (i := 0) (by simp)
  have cvs1 := vs.cell (i := 1) (by simp)
  have cvs2 := vs.cell (i := 2) (by simp)
  have cvs3 := vs.cell (i := 3) (by simp)
  simp only [List.getD_cons_zero, List.getD_cons_succ] at cvs0 cvs1 cvs2 cvs3
  have ltvs := vs.lt
  go_wp2_with fail
  clear cvs0 cvs1 cvs2 cvs3 ltvs
  rw [HE1.out]
  refine (HP.out _).mono ?_
  rintro e w3 ⟨rfl, b3⟩
  replace vs := vs.mono b3
  replace ht := ht.mono b3
  replace B := below_trans B b3
  clear b3
  go_upto_region 9 with (fail)
  have sz0 := World.size_alloc w3 (.cells #[.int .i64 0, .int .i64 0] 29)
  have va := Vals.newL w3 w3.heap.size [.int .i64 0, .int .i64 0] 29 rfl
  have bb := below_alloc w3 (.cells #[.int .i64 0, .int .i64 0] 29)
  have vb := Vals.newL (w3.alloc (.cells #[.int .i64 0, .int .i64 0] 29)) (w3.heap.size + 1) [.int .i64 0, .int .i64 0] 29 sz0.symm
  have bc := below_alloc (w3.alloc (.cells #[.int .i64 0, .int .i64 0] 29)) (.cells #[.int .i64 0, .int .i64 0] 29)
  have bd := below_trans bb bc
  replace va := va.mono bc
  replace vs := vs.mono bd
  replace ht := ht.mono bd
  replace B := below_trans B bd
  clear bb bc bd sz0
  generalize (w3.alloc (.cells #[.int .i64 0, .int .i64 0] 29)).alloc (.cells #[.int .i64 0, .int .i64 0] 29) = w4 at *
  generalize w3.heap.size = b7 at *
  have cvs0 := vs.cell (i := 0) (by simp)
  have cvs1 := vs.cell (i := 1) (by simp)
  have cvs2 := vs.cell (i := 2) (by simp)
  have cvs3 := vs.cell (i := 3) (by simp)
  simp only [List.getD_cons_zero, List.getD_cons_succ] at cvs0 cvs1 cvs2 cvs3
  have ltvs := vs.lt
  first
  | (go_region_with (first
      | (go_at_call 12; (with_reducible refine (one_calls _).mono ?_); rintro e y1 ⟨rfl, b5⟩; clear cvs0 cvs1 cvs2 cvs3 ltvs; replace vs := vs.drew.mono b5; replace ht := ht.drew.mono b5; replace va := va.drew.mono b5; replace vb := vb.drew.mono b5; replace B := below_trans B.drew b5; clear b5; have cvs0 := vs.cell (i := 0) (by simp); have cvs1 := vs.cell (i := 1) (by simp); have cvs2 := vs.cell (i := 2) (by simp); have cvs3 := vs.cell (i := 3) (by simp); simp only [List.getD_cons_zero, List.getD_cons_succ] at cvs0 cvs1 cvs2 cvs3; have ltvs := vs.lt)
      | (go_at_call 11; (with_reducible refine (HC1.out _).mono ?_); rintro e y2 ⟨rfl, b5⟩; clear cvs0 cvs1 cvs2 cvs3 ltvs; replace vs := vs.mono b5; replace ht := ht.mono b5; replace va := va.mono b5; replace vb := vb.mono b5; replace B := below_trans B b5; clear b5; have cvs0 := vs.cell (i := 0) (by simp); have cvs1 := vs.cell (i := 1) (by simp); have cvs2 := vs.cell (i := 2) (by simp); have cvs3 := vs.cell (i := 3) (by simp); simp only [List.getD_cons_zero, List.getD_cons_succ] at cvs0 cvs1 cvs2 cvs3; have ltvs := vs.lt)))
  | fail
  trace_state
  all_goals (
    have cva0 := va.cell (i := 0) (by simp)
    have cva1 := va.cell (i := 1) (by simp)
    simp only [List.getD_cons_zero, List.getD_cons_succ] at cva0 cva1
    have ltva := va.lt
    have cvb0 := vb.cell (i := 0) (by simp)
    have cvb1 := vb.cell (i := 1) (by simp)
    simp only [List.getD_cons_zero, List.getD_cons_succ] at cvb0 cvb1
    have ltvb := vb.lt
    go_wp2_with fail
    clear cva0 cva1 ltva cvb0 cvb1 ltvb
    refine (lives_calls _ ht).mono ?_
    rintro e w5 ⟨rfl, b5⟩
    replace vs := vs.mono b5
    replace ht := ht.mono b5
    replace va := va.mono b5
    replace vb := vb.mono b5
    replace B := below_trans B b5
    clear b5
    go_wp2
    go_ret
    exact ⟨rfl, B⟩)

set_option maxRecDepth 100000 in
set_option maxHeartbeats 1000000 in
theorem fareys_over00 (s : T4) (m : Int) (w : World) (hS : i64 s.a ∧ i64 s.b ∧ i64 s.c ∧ i64 s.d) (hM : i64 m) (ht : Tab w) (h1 : validB s.a s.b s.c s.d = true) (h2 : 1 ≤ m) (h3 : m ≤ 4096) (g : -48 ≤ s.a ∧ s.a ≤ 48 ∧ -48 ≤ s.b ∧ s.b ≤ 48 ∧ -48 ≤ s.c ∧ s.c ≤ 48) (k1 : aboveI s 1 1 = 0) (k2 : aboveI s 2 1 = 0) :
    Calls Tryd.prog 3 #[.agg #[.int .i64 s.a, .int .i64 s.b, .int .i64 s.c, .int .i64 s.d], .int .i64 m] w (RetTrue w) := by
  have F := fun w : World => form_2 s s w hS hS h1 h1
  have L := fun w : World => large_no s 48 w (by omega) (by omega) g
  obtain ⟨most, hmost⟩ : ∃ n : Nat, (m - 1) % 50 + 1 = (n : Int) := ⟨((m - 1) % 50 + 1).toNat, by omega⟩
  have hm1 : 1 ≤ most := by omega
  have hm2 : most ≤ 50 := by omega
  have P := fun w : World => farey_range s (most : Int) w h1 (by omega) (by omega) (.inr (by omega))
  have C1 := fun w : World => rcmpT_ok s ⟨0, 0, 0, 1⟩ w h1 unit_ok
  have C2 := fun w : World => rcmpT_ok s ⟨1, 0, 0, 1⟩ w h1 (by unfold validB gcd4 gcdN; decide)
  rw [cmp_one] at C1
  rw [cmp_two s (validB_parts h1).2.1] at C2
  dsimp only at C1 C2
  rw [k1] at C1
  rw [k2] at C2
  clear k1 k2
  have HE1 := Lib.hid hmost
  clear hmost
  have HF := Lib.hid F
  have HL := Lib.hid L
  have HP := Lib.hid P
  have HC1 := Lib.hid C1
  have HC2 := Lib.hid C2
  clear F L P C1 C2
  clear hS h1 g
  have vs := Vals.newL w (w.heap.size) [.int .i64 s.a, .int .i64 s.b, .int .i64 s.c, .int .i64 s.d] 23 rfl
  have bb := below_alloc w (.cells #[.int .i64 s.a, .int .i64 s.b, .int .i64 s.c, .int .i64 s.d] 23)
  have B := bb
  have bb0 := B
  clear bb
  go_enter Tryd.func3, Tryd.ntmps3
  go_wp2_with fail
  generalize (w.alloc (.cells #[.int .i64 s.a, .int .i64 s.b, .int .i64 s.c, .int .i64 s.d] 23)) = w0 at *
  replace ht := ht.mono bb0
  clear bb0
  refine (HF.out _).mono ?_
  rintro e w1 ⟨rfl, b1⟩
  replace vs := vs.mono b1
  replace ht := ht.mono b1
  replace B := below_trans B b1
  clear b1
  have cvs0 := vs.cell (i := 0) (by simp)
  have cvs1 := vs.cell (i := 1) (by simp)
  have cvs2 := vs.cell (i := 2) (by simp)
  have cvs3 := vs.cell (i := 3) (by simp)
  simp only [List.getD_cons_zero, List.getD_cons_succ] at cvs0 cvs1 cvs2 cvs3
  have ltvs := vs.lt
  go_wp2_with fail
  clear cvs0 cvs1 cvs2 cvs3 ltvs
  refine (HL.out _).mono ?_
  rintro e w2 ⟨rfl, b2⟩
  replace vs := vs.mono b2
  replace ht := ht.mono b2
  replace B := below_trans B b2
  clear b2
  have cvs0 := vs.cell (i := 0) (by simp)
  have cvs1 := vs.cell (i := 1) (by simp)
  have cvs2 := vs.cell (i := 2) (by simp)
  have cvs3 := vs.cell (i := 3) (by simp)
  simp only [List.getD_cons_zero, List.getD_cons_succ] at cvs0 cvs1 cvs2 cvs3
  have ltvs := vs.lt
  go_wp2_with fail
  clear cvs0 cvs1 cvs2 cvs3 ltvs
  rw [HE1.out]
  refine (HP.out _).mono ?_
  rintro e w3 ⟨rfl, b3⟩
  replace vs := vs.mono b3
  replace ht := ht.mono b3
  replace B := below_trans B b3
  clear b3
  go_upto_region 9 with (fail)
  have sz0 := World.size_alloc w3 (.cells #[.int .i64 0, .int .i64 0] 29)
  have va := Vals.newL w3 w3.heap.size [.int .i64 0, .int .i64 0] 29 rfl
  have bb := below_alloc w3 (.cells #[.int .i64 0, .int .i64 0] 29)
  have vb := Vals.newL (w3.alloc (.cells #[.int .i64 0, .int .i64 0] 29)) (w3.heap.size + 1) [.int .i64 0, .int .i64 0] 29 sz0.symm
  have bc := below_alloc (w3.alloc (.cells #[.int .i64 0, .int .i64 0] 29)) (.cells #[.int .i64 0, .int .i64 0] 29)
  have bd := below_trans bb bc
  replace va := va.mono bc
  replace vs := vs.mono bd
  replace ht := ht.mono bd
  replace B := below_trans B bd
  clear bb bc bd sz0
  generalize (w3.alloc (.cells #[.int .i64 0, .int .i64 0] 29)).alloc (.cells #[.int .i64 0, .int .i64 0] 29) = w4 at *
  generalize w3.heap.size = b7 at *
  go_region_held3 (fun w' => w'.cell? ⟨w.heap.size, 0, none⟩ = some (.int .i64 s.a) ∧ w'.cell? ⟨w.heap.size, 1, none⟩ = some (.int .i64 s.b) ∧ w'.cell? ⟨w.heap.size, 2, none⟩ = some (.int .i64 s.c) ∧ w'.cell? ⟨w.heap.size, 3, none⟩ = some (.int .i64 s.d))
    (first | exact vals4 vs | exact vals4 vs.drew)
    (first | (go_at_call 12; (with_reducible refine (one_calls _).mono ?_); rintro e y1 ⟨rfl, b5⟩; replace vs := vs.drew.mono b5; replace ht := ht.drew.mono b5; replace va := va.drew.mono b5; replace vb := vb.drew.mono b5; replace B := below_trans B.drew b5; clear b5)
           | (go_at_call 11; (with_reducible refine (HC1.out _).mono ?_); rintro e y2 ⟨rfl, b5⟩; replace vs := vs.mono b5; replace ht := ht.mono b5; replace va := va.mono b5; replace vb := vb.mono b5; replace B := below_trans B b5; clear b5)
           | (go_at_call 11; (with_reducible refine (HC2.out _).mono ?_); rintro e y3 ⟨rfl, b5⟩; replace vs := vs.mono b5; replace ht := ht.mono b5; replace va := va.mono b5; replace vb := vb.mono b5; replace B := below_trans B b5; clear b5))
  have cva0 := va.cell (i := 0) (by simp)
  have cva1 := va.cell (i := 1) (by simp)
  simp only [List.getD_cons_zero, List.getD_cons_succ] at cva0 cva1
  have ltva := va.lt
  have cvb0 := vb.cell (i := 0) (by simp)
  have cvb1 := vb.cell (i := 1) (by simp)
  simp only [List.getD_cons_zero, List.getD_cons_succ] at cvb0 cvb1
  have ltvb := vb.lt
  go_wp2_with fail
  clear cva0 cva1 ltva cvb0 cvb1 ltvb
  refine (lives_calls _ ht).mono ?_
  rintro e w5 ⟨rfl, b5⟩
  replace vs := vs.mono b5
  replace ht := ht.mono b5
  replace va := va.mono b5
  replace vb := vb.mono b5
  replace B := below_trans B b5
  clear b5
  go_wp2
  go_ret
  exact ⟨rfl, B⟩

set_option maxRecDepth 100000 in
set_option maxHeartbeats 1000000 in
theorem fareys_over01 (s : T4) (m : Int) (w : World) (hS : i64 s.a ∧ i64 s.b ∧ i64 s.c ∧ i64 s.d) (hM : i64 m) (ht : Tab w) (h1 : validB s.a s.b s.c s.d = true) (h2 : 1 ≤ m) (h3 : m ≤ 4096) (g : -48 ≤ s.a ∧ s.a ≤ 48 ∧ -48 ≤ s.b ∧ s.b ≤ 48 ∧ -48 ≤ s.c ∧ s.c ≤ 48) (k1 : aboveI s 1 1 = 0) (k2 : aboveI s 2 1 = 1) :
    Calls Tryd.prog 3 #[.agg #[.int .i64 s.a, .int .i64 s.b, .int .i64 s.c, .int .i64 s.d], .int .i64 m] w (RetTrue w) := by
  have F := fun w : World => form_2 s s w hS hS h1 h1
  have L := fun w : World => large_no s 48 w (by omega) (by omega) g
  obtain ⟨most, hmost⟩ : ∃ n : Nat, (m - 1) % 50 + 1 = (n : Int) := ⟨((m - 1) % 50 + 1).toNat, by omega⟩
  have hm1 : 1 ≤ most := by omega
  have hm2 : most ≤ 50 := by omega
  have P := fun w : World => farey_range s (most : Int) w h1 (by omega) (by omega) (.inr (by omega))
  have C1 := fun w : World => rcmpT_ok s ⟨0, 0, 0, 1⟩ w h1 unit_ok
  have C2 := fun w : World => rcmpT_ok s ⟨1, 0, 0, 1⟩ w h1 (by unfold validB gcd4 gcdN; decide)
  rw [cmp_one] at C1
  rw [cmp_two s (validB_parts h1).2.1] at C2
  dsimp only at C1 C2
  rw [k1] at C1
  rw [k2] at C2
  clear k1 k2
  have HE1 := Lib.hid hmost
  clear hmost
  have HF := Lib.hid F
  have HL := Lib.hid L
  have HP := Lib.hid P
  have HC1 := Lib.hid C1
  have HC2 := Lib.hid C2
  clear F L P C1 C2
  clear hS h1 g
  have vs := Vals.newL w (w.heap.size) [.int .i64 s.a, .int .i64 s.b, .int .i64 s.c, .int .i64 s.d] 23 rfl
  have bb := below_alloc w (.cells #[.int .i64 s.a, .int .i64 s.b, .int .i64 s.c, .int .i64 s.d] 23)
  have B := bb
  have bb0 := B
  clear bb
  go_enter Tryd.func3, Tryd.ntmps3
  go_wp2_with fail
  generalize (w.alloc (.cells #[.int .i64 s.a, .int .i64 s.b, .int .i64 s.c, .int .i64 s.d] 23)) = w0 at *
  replace ht := ht.mono bb0
  clear bb0
  refine (HF.out _).mono ?_
  rintro e w1 ⟨rfl, b1⟩
  replace vs := vs.mono b1
  replace ht := ht.mono b1
  replace B := below_trans B b1
  clear b1
  have cvs0 := vs.cell (i := 0) (by simp)
  have cvs1 := vs.cell (i := 1) (by simp)
  have cvs2 := vs.cell (i := 2) (by simp)
  have cvs3 := vs.cell (i := 3) (by simp)
  simp only [List.getD_cons_zero, List.getD_cons_succ] at cvs0 cvs1 cvs2 cvs3
  have ltvs := vs.lt
  go_wp2_with fail
  clear cvs0 cvs1 cvs2 cvs3 ltvs
  refine (HL.out _).mono ?_
  rintro e w2 ⟨rfl, b2⟩
  replace vs := vs.mono b2
  replace ht := ht.mono b2
  replace B := below_trans B b2
  clear b2
  have cvs0 := vs.cell (i := 0) (by simp)
  have cvs1 := vs.cell (i := 1) (by simp)
  have cvs2 := vs.cell (i := 2) (by simp)
  have cvs3 := vs.cell (i := 3) (by simp)
  simp only [List.getD_cons_zero, List.getD_cons_succ] at cvs0 cvs1 cvs2 cvs3
  have ltvs := vs.lt
  go_wp2_with fail
  clear cvs0 cvs1 cvs2 cvs3 ltvs
  rw [HE1.out]
  refine (HP.out _).mono ?_
  rintro e w3 ⟨rfl, b3⟩
  replace vs := vs.mono b3
  replace ht := ht.mono b3
  replace B := below_trans B b3
  clear b3
  go_upto_region 9 with (fail)
  have sz0 := World.size_alloc w3 (.cells #[.int .i64 0, .int .i64 0] 29)
  have va := Vals.newL w3 w3.heap.size [.int .i64 0, .int .i64 0] 29 rfl
  have bb := below_alloc w3 (.cells #[.int .i64 0, .int .i64 0] 29)
  have vb := Vals.newL (w3.alloc (.cells #[.int .i64 0, .int .i64 0] 29)) (w3.heap.size + 1) [.int .i64 0, .int .i64 0] 29 sz0.symm
  have bc := below_alloc (w3.alloc (.cells #[.int .i64 0, .int .i64 0] 29)) (.cells #[.int .i64 0, .int .i64 0] 29)
  have bd := below_trans bb bc
  replace va := va.mono bc
  replace vs := vs.mono bd
  replace ht := ht.mono bd
  replace B := below_trans B bd
  clear bb bc bd sz0
  generalize (w3.alloc (.cells #[.int .i64 0, .int .i64 0] 29)).alloc (.cells #[.int .i64 0, .int .i64 0] 29) = w4 at *
  generalize w3.heap.size = b7 at *
  go_region_held3 (fun w' => w'.cell? ⟨w.heap.size, 0, none⟩ = some (.int .i64 s.a) ∧ w'.cell? ⟨w.heap.size, 1, none⟩ = some (.int .i64 s.b) ∧ w'.cell? ⟨w.heap.size, 2, none⟩ = some (.int .i64 s.c) ∧ w'.cell? ⟨w.heap.size, 3, none⟩ = some (.int .i64 s.d))
    (first | exact vals4 vs | exact vals4 vs.drew)
    (first | (go_at_call 12; (with_reducible refine (one_calls _).mono ?_); rintro e y1 ⟨rfl, b5⟩; replace vs := vs.drew.mono b5; replace ht := ht.drew.mono b5; replace va := va.drew.mono b5; replace vb := vb.drew.mono b5; replace B := below_trans B.drew b5; clear b5)
           | (go_at_call 11; (with_reducible refine (HC1.out _).mono ?_); rintro e y2 ⟨rfl, b5⟩; replace vs := vs.mono b5; replace ht := ht.mono b5; replace va := va.mono b5; replace vb := vb.mono b5; replace B := below_trans B b5; clear b5)
           | (go_at_call 11; (with_reducible refine (HC2.out _).mono ?_); rintro e y3 ⟨rfl, b5⟩; replace vs := vs.mono b5; replace ht := ht.mono b5; replace va := va.mono b5; replace vb := vb.mono b5; replace B := below_trans B b5; clear b5))
  have cva0 := va.cell (i := 0) (by simp)
  have cva1 := va.cell (i := 1) (by simp)
  simp only [List.getD_cons_zero, List.getD_cons_succ] at cva0 cva1
  have ltva := va.lt
  have cvb0 := vb.cell (i := 0) (by simp)
  have cvb1 := vb.cell (i := 1) (by simp)
  simp only [List.getD_cons_zero, List.getD_cons_succ] at cvb0 cvb1
  have ltvb := vb.lt
  go_wp2_with fail
  clear cva0 cva1 ltva cvb0 cvb1 ltvb
  refine (lives_calls _ ht).mono ?_
  rintro e w5 ⟨rfl, b5⟩
  replace vs := vs.mono b5
  replace ht := ht.mono b5
  replace va := va.mono b5
  replace vb := vb.mono b5
  replace B := below_trans B b5
  clear b5
  go_wp2
  go_ret
  exact ⟨rfl, B⟩

set_option maxRecDepth 100000 in
set_option maxHeartbeats 1000000 in
theorem fareys_over10 (s : T4) (m : Int) (w : World) (hS : i64 s.a ∧ i64 s.b ∧ i64 s.c ∧ i64 s.d) (hM : i64 m) (ht : Tab w) (h1 : validB s.a s.b s.c s.d = true) (h2 : 1 ≤ m) (h3 : m ≤ 4096) (g : -48 ≤ s.a ∧ s.a ≤ 48 ∧ -48 ≤ s.b ∧ s.b ≤ 48 ∧ -48 ≤ s.c ∧ s.c ≤ 48) (k1 : aboveI s 1 1 = 1) (k2 : aboveI s 2 1 = 0) :
    Calls Tryd.prog 3 #[.agg #[.int .i64 s.a, .int .i64 s.b, .int .i64 s.c, .int .i64 s.d], .int .i64 m] w (RetTrue w) := by
  have F := fun w : World => form_2 s s w hS hS h1 h1
  have L := fun w : World => large_no s 48 w (by omega) (by omega) g
  obtain ⟨most, hmost⟩ : ∃ n : Nat, (m - 1) % 50 + 1 = (n : Int) := ⟨((m - 1) % 50 + 1).toNat, by omega⟩
  have hm1 : 1 ≤ most := by omega
  have hm2 : most ≤ 50 := by omega
  have P := fun w : World => farey_range s (most : Int) w h1 (by omega) (by omega) (.inr (by omega))
  have C1 := fun w : World => rcmpT_ok s ⟨0, 0, 0, 1⟩ w h1 unit_ok
  have C2 := fun w : World => rcmpT_ok s ⟨1, 0, 0, 1⟩ w h1 (by unfold validB gcd4 gcdN; decide)
  rw [cmp_one] at C1
  rw [cmp_two s (validB_parts h1).2.1] at C2
  dsimp only at C1 C2
  rw [k1] at C1
  rw [k2] at C2
  clear k1 k2
  have HE1 := Lib.hid hmost
  clear hmost
  have HF := Lib.hid F
  have HL := Lib.hid L
  have HP := Lib.hid P
  have HC1 := Lib.hid C1
  have HC2 := Lib.hid C2
  clear F L P C1 C2
  clear hS h1 g
  have vs := Vals.newL w (w.heap.size) [.int .i64 s.a, .int .i64 s.b, .int .i64 s.c, .int .i64 s.d] 23 rfl
  have bb := below_alloc w (.cells #[.int .i64 s.a, .int .i64 s.b, .int .i64 s.c, .int .i64 s.d] 23)
  have B := bb
  have bb0 := B
  clear bb
  go_enter Tryd.func3, Tryd.ntmps3
  go_wp2_with fail
  generalize (w.alloc (.cells #[.int .i64 s.a, .int .i64 s.b, .int .i64 s.c, .int .i64 s.d] 23)) = w0 at *
  replace ht := ht.mono bb0
  clear bb0
  refine (HF.out _).mono ?_
  rintro e w1 ⟨rfl, b1⟩
  replace vs := vs.mono b1
  replace ht := ht.mono b1
  replace B := below_trans B b1
  clear b1
  have cvs0 := vs.cell (i := 0) (by simp)
  have cvs1 := vs.cell (i := 1) (by simp)
  have cvs2 := vs.cell (i := 2) (by simp)
  have cvs3 := vs.cell (i := 3) (by simp)
  simp only [List.getD_cons_zero, List.getD_cons_succ] at cvs0 cvs1 cvs2 cvs3
  have ltvs := vs.lt
  go_wp2_with fail
  clear cvs0 cvs1 cvs2 cvs3 ltvs
  refine (HL.out _).mono ?_
  rintro e w2 ⟨rfl, b2⟩
  replace vs := vs.mono b2
  replace ht := ht.mono b2
  replace B := below_trans B b2
  clear b2
  have cvs0 := vs.cell (i := 0) (by simp)
  have cvs1 := vs.cell (i := 1) (by simp)
  have cvs2 := vs.cell (i := 2) (by simp)
  have cvs3 := vs.cell (i := 3) (by simp)
  simp only [List.getD_cons_zero, List.getD_cons_succ] at cvs0 cvs1 cvs2 cvs3
  have ltvs := vs.lt
  go_wp2_with fail
  clear cvs0 cvs1 cvs2 cvs3 ltvs
  rw [HE1.out]
  refine (HP.out _).mono ?_
  rintro e w3 ⟨rfl, b3⟩
  replace vs := vs.mono b3
  replace ht := ht.mono b3
  replace B := below_trans B b3
  clear b3
  go_upto_region 9 with (fail)
  have sz0 := World.size_alloc w3 (.cells #[.int .i64 0, .int .i64 0] 29)
  have va := Vals.newL w3 w3.heap.size [.int .i64 0, .int .i64 0] 29 rfl
  have bb := below_alloc w3 (.cells #[.int .i64 0, .int .i64 0] 29)
  have vb := Vals.newL (w3.alloc (.cells #[.int .i64 0, .int .i64 0] 29)) (w3.heap.size + 1) [.int .i64 0, .int .i64 0] 29 sz0.symm
  have bc := below_alloc (w3.alloc (.cells #[.int .i64 0, .int .i64 0] 29)) (.cells #[.int .i64 0, .int .i64 0] 29)
  have bd := below_trans bb bc
  replace va := va.mono bc
  replace vs := vs.mono bd
  replace ht := ht.mono bd
  replace B := below_trans B bd
  clear bb bc bd sz0
  generalize (w3.alloc (.cells #[.int .i64 0, .int .i64 0] 29)).alloc (.cells #[.int .i64 0, .int .i64 0] 29) = w4 at *
  generalize w3.heap.size = b7 at *
  go_region_held3 (fun w' => w'.cell? ⟨w.heap.size, 0, none⟩ = some (.int .i64 s.a) ∧ w'.cell? ⟨w.heap.size, 1, none⟩ = some (.int .i64 s.b) ∧ w'.cell? ⟨w.heap.size, 2, none⟩ = some (.int .i64 s.c) ∧ w'.cell? ⟨w.heap.size, 3, none⟩ = some (.int .i64 s.d))
    (first | exact vals4 vs | exact vals4 vs.drew)
    (first | (go_at_call 12; (with_reducible refine (one_calls _).mono ?_); rintro e y1 ⟨rfl, b5⟩; replace vs := vs.drew.mono b5; replace ht := ht.drew.mono b5; replace va := va.drew.mono b5; replace vb := vb.drew.mono b5; replace B := below_trans B.drew b5; clear b5)
           | (go_at_call 11; (with_reducible refine (HC1.out _).mono ?_); rintro e y2 ⟨rfl, b5⟩; replace vs := vs.mono b5; replace ht := ht.mono b5; replace va := va.mono b5; replace vb := vb.mono b5; replace B := below_trans B b5; clear b5)
           | (go_at_call 11; (with_reducible refine (HC2.out _).mono ?_); rintro e y3 ⟨rfl, b5⟩; replace vs := vs.mono b5; replace ht := ht.mono b5; replace va := va.mono b5; replace vb := vb.mono b5; replace B := below_trans B b5; clear b5))
  have cva0 := va.cell (i := 0) (by simp)
  have cva1 := va.cell (i := 1) (by simp)
  simp only [List.getD_cons_zero, List.getD_cons_succ] at cva0 cva1
  have ltva := va.lt
  have cvb0 := vb.cell (i := 0) (by simp)
  have cvb1 := vb.cell (i := 1) (by simp)
  simp only [List.getD_cons_zero, List.getD_cons_succ] at cvb0 cvb1
  have ltvb := vb.lt
  go_wp2_with fail
  clear cva0 cva1 ltva cvb0 cvb1 ltvb
  refine (lives_calls _ ht).mono ?_
  rintro e w5 ⟨rfl, b5⟩
  replace vs := vs.mono b5
  replace ht := ht.mono b5
  replace va := va.mono b5
  replace vb := vb.mono b5
  replace B := below_trans B b5
  clear b5
  go_wp2
  go_ret
  exact ⟨rfl, B⟩

set_option maxRecDepth 100000 in
set_option maxHeartbeats 1000000 in
theorem fareys_over11 (s : T4) (m : Int) (w : World) (hS : i64 s.a ∧ i64 s.b ∧ i64 s.c ∧ i64 s.d) (hM : i64 m) (ht : Tab w) (h1 : validB s.a s.b s.c s.d = true) (h2 : 1 ≤ m) (h3 : m ≤ 4096) (g : -48 ≤ s.a ∧ s.a ≤ 48 ∧ -48 ≤ s.b ∧ s.b ≤ 48 ∧ -48 ≤ s.c ∧ s.c ≤ 48) (k1 : aboveI s 1 1 = 1) (k2 : aboveI s 2 1 = 1) :
    Calls Tryd.prog 3 #[.agg #[.int .i64 s.a, .int .i64 s.b, .int .i64 s.c, .int .i64 s.d], .int .i64 m] w (RetTrue w) := by
  have F := fun w : World => form_2 s s w hS hS h1 h1
  have L := fun w : World => large_no s 48 w (by omega) (by omega) g
  obtain ⟨most, hmost⟩ : ∃ n : Nat, (m - 1) % 50 + 1 = (n : Int) := ⟨((m - 1) % 50 + 1).toNat, by omega⟩
  have hm1 : 1 ≤ most := by omega
  have hm2 : most ≤ 50 := by omega
  have P := fun w : World => farey_range s (most : Int) w h1 (by omega) (by omega) (.inr (by omega))
  have C1 := fun w : World => rcmpT_ok s ⟨0, 0, 0, 1⟩ w h1 unit_ok
  have C2 := fun w : World => rcmpT_ok s ⟨1, 0, 0, 1⟩ w h1 (by unfold validB gcd4 gcdN; decide)
  rw [cmp_one] at C1
  rw [cmp_two s (validB_parts h1).2.1] at C2
  dsimp only at C1 C2
  rw [k1] at C1
  rw [k2] at C2
  clear k1 k2
  have HE1 := Lib.hid hmost
  clear hmost
  have HF := Lib.hid F
  have HL := Lib.hid L
  have HP := Lib.hid P
  have HC1 := Lib.hid C1
  have HC2 := Lib.hid C2
  clear F L P C1 C2
  clear hS h1 g
  have vs := Vals.newL w (w.heap.size) [.int .i64 s.a, .int .i64 s.b, .int .i64 s.c, .int .i64 s.d] 23 rfl
  have bb := below_alloc w (.cells #[.int .i64 s.a, .int .i64 s.b, .int .i64 s.c, .int .i64 s.d] 23)
  have B := bb
  have bb0 := B
  clear bb
  go_enter Tryd.func3, Tryd.ntmps3
  go_wp2_with fail
  generalize (w.alloc (.cells #[.int .i64 s.a, .int .i64 s.b, .int .i64 s.c, .int .i64 s.d] 23)) = w0 at *
  replace ht := ht.mono bb0
  clear bb0
  refine (HF.out _).mono ?_
  rintro e w1 ⟨rfl, b1⟩
  replace vs := vs.mono b1
  replace ht := ht.mono b1
  replace B := below_trans B b1
  clear b1
  have cvs0 := vs.cell (i := 0) (by simp)
  have cvs1 := vs.cell (i := 1) (by simp)
  have cvs2 := vs.cell (i := 2) (by simp)
  have cvs3 := vs.cell (i := 3) (by simp)
  simp only [List.getD_cons_zero, List.getD_cons_succ] at cvs0 cvs1 cvs2 cvs3
  have ltvs := vs.lt
  go_wp2_with fail
  clear cvs0 cvs1 cvs2 cvs3 ltvs
  refine (HL.out _).mono ?_
  rintro e w2 ⟨rfl, b2⟩
  replace vs := vs.mono b2
  replace ht := ht.mono b2
  replace B := below_trans B b2
  clear b2
  have cvs0 := vs.cell (i := 0) (by simp)
  have cvs1 := vs.cell (i := 1) (by simp)
  have cvs2 := vs.cell (i := 2) (by simp)
  have cvs3 := vs.cell (i := 3) (by simp)
  simp only [List.getD_cons_zero, List.getD_cons_succ] at cvs0 cvs1 cvs2 cvs3
  have ltvs := vs.lt
  go_wp2_with fail
  clear cvs0 cvs1 cvs2 cvs3 ltvs
  rw [HE1.out]
  refine (HP.out _).mono ?_
  rintro e w3 ⟨rfl, b3⟩
  replace vs := vs.mono b3
  replace ht := ht.mono b3
  replace B := below_trans B b3
  clear b3
  go_upto_region 9 with (fail)
  have sz0 := World.size_alloc w3 (.cells #[.int .i64 0, .int .i64 0] 29)
  have va := Vals.newL w3 w3.heap.size [.int .i64 0, .int .i64 0] 29 rfl
  have bb := below_alloc w3 (.cells #[.int .i64 0, .int .i64 0] 29)
  have vb := Vals.newL (w3.alloc (.cells #[.int .i64 0, .int .i64 0] 29)) (w3.heap.size + 1) [.int .i64 0, .int .i64 0] 29 sz0.symm
  have bc := below_alloc (w3.alloc (.cells #[.int .i64 0, .int .i64 0] 29)) (.cells #[.int .i64 0, .int .i64 0] 29)
  have bd := below_trans bb bc
  replace va := va.mono bc
  replace vs := vs.mono bd
  replace ht := ht.mono bd
  replace B := below_trans B bd
  clear bb bc bd sz0
  generalize (w3.alloc (.cells #[.int .i64 0, .int .i64 0] 29)).alloc (.cells #[.int .i64 0, .int .i64 0] 29) = w4 at *
  generalize w3.heap.size = b7 at *
  go_region_held3 (fun w' => w'.cell? ⟨w.heap.size, 0, none⟩ = some (.int .i64 s.a) ∧ w'.cell? ⟨w.heap.size, 1, none⟩ = some (.int .i64 s.b) ∧ w'.cell? ⟨w.heap.size, 2, none⟩ = some (.int .i64 s.c) ∧ w'.cell? ⟨w.heap.size, 3, none⟩ = some (.int .i64 s.d))
    (first | exact vals4 vs | exact vals4 vs.drew)
    (first | (go_at_call 12; (with_reducible refine (one_calls _).mono ?_); rintro e y1 ⟨rfl, b5⟩; replace vs := vs.drew.mono b5; replace ht := ht.drew.mono b5; replace va := va.drew.mono b5; replace vb := vb.drew.mono b5; replace B := below_trans B.drew b5; clear b5)
           | (go_at_call 11; (with_reducible refine (HC1.out _).mono ?_); rintro e y2 ⟨rfl, b5⟩; replace vs := vs.mono b5; replace ht := ht.mono b5; replace va := va.mono b5; replace vb := vb.mono b5; replace B := below_trans B b5; clear b5)
           | (go_at_call 11; (with_reducible refine (HC2.out _).mono ?_); rintro e y3 ⟨rfl, b5⟩; replace vs := vs.mono b5; replace ht := ht.mono b5; replace va := va.mono b5; replace vb := vb.mono b5; replace B := below_trans B b5; clear b5))
  have cva0 := va.cell (i := 0) (by simp)
  have cva1 := va.cell (i := 1) (by simp)
  simp only [List.getD_cons_zero, List.getD_cons_succ] at cva0 cva1
  have ltva := va.lt
  have cvb0 := vb.cell (i := 0) (by simp)
  have cvb1 := vb.cell (i := 1) (by simp)
  simp only [List.getD_cons_zero, List.getD_cons_succ] at cvb0 cvb1
  have ltvb := vb.lt
  go_wp2_with fail
  clear cva0 cva1 ltva cvb0 cvb1 ltvb
  refine (lives_calls _ ht).mono ?_
  rintro e w5 ⟨rfl, b5⟩
  replace vs := vs.mono b5
  replace ht := ht.mono b5
  replace va := va.mono b5
  replace vb := vb.mono b5
  replace B := below_trans B b5
  clear b5
  go_wp2
  go_ret
  exact ⟨rfl, B⟩

set_option maxRecDepth 100000 in
set_option maxHeartbeats 1000000 in
theorem fareys_ok0 (s : T4) (m : Int) (w : World) (hS : i64 s.a ∧ i64 s.b ∧ i64 s.c ∧ i64 s.d) (hM : i64 m) (ht : Tab w) (h1 : validB s.a s.b s.c s.d = true) (h2 : 1 ≤ m) (h3 : m ≤ 4096) (g : -48 ≤ s.a ∧ s.a ≤ 48 ∧ -48 ≤ s.b ∧ s.b ≤ 48 ∧ -48 ≤ s.c ∧ s.c ≤ 48) (k1 : aboveI s 1 1 = 0) (k2 : aboveI s 2 1 = -1) :
    Calls Tryd.prog 3 #[.agg #[.int .i64 s.a, .int .i64 s.b, .int .i64 s.c, .int .i64 s.d], .int .i64 m] w (RetTrue w) := by
  have F := fun w : World => form_2 s s w hS hS h1 h1
  have L := fun w : World => large_no s 48 w (by omega) (by omega) g
  obtain ⟨most, hmost⟩ : ∃ n : Nat, (m - 1) % 50 + 1 = (n : Int) := ⟨((m - 1) % 50 + 1).toNat, by omega⟩
  have hm1 : 1 ≤ most := by omega
  have hm2 : most ≤ 50 := by omega
  have P := fun w : World => farey_ok s most w h1 hm1 (by omega) (by omega) (by omega)
  have Q := fun w : World => rfarey_calls s most w h1 hm1 (by omega) (by omega) k2
  have C1 := fun w : World => rcmpT_ok s ⟨0, 0, 0, 1⟩ w h1 unit_ok
  have C2 := fun w : World => rcmpT_ok s ⟨1, 0, 0, 1⟩ w h1 (by unfold validB gcd4 gcdN; decide)
  rw [cmp_one] at C1
  rw [cmp_two s (validB_parts h1).2.1] at C2
  dsimp only at C1 C2
  rw [k1] at C1
  rw [k2] at C2
  have hU : 1 ≤ underN s.a s.b s.c := by have := under_ne s.a s.b s.c; omega
  have hD : 1 ≤ s.d.toNat := by have := (validB_parts h1).2.1; omega
  clear k1 k2
  have HE1 := Lib.hid hmost
  clear hmost
  have HF := Lib.hid F
  have HL := Lib.hid L
  have HP := Lib.hid P
  have HC1 := Lib.hid C1
  have HC2 := Lib.hid C2
  have HQ := Lib.hid Q
  clear F L P C1 C2 Q
  clear hS h1 g
  have vs := Vals.newL w (w.heap.size) [.int .i64 s.a, .int .i64 s.b, .int .i64 s.c, .int .i64 s.d] 23 rfl
  have bb := below_alloc w (.cells #[.int .i64 s.a, .int .i64 s.b, .int .i64 s.c, .int .i64 s.d] 23)
  have B := bb
  have bb0 := B
  clear bb
  go_enter Tryd.func3, Tryd.ntmps3
  go_wp2_with fail
  generalize (w.alloc (.cells #[.int .i64 s.a, .int .i64 s.b, .int .i64 s.c, .int .i64 s.d] 23)) = w0 at *
  replace ht := ht.mono bb0
  clear bb0
  refine (HF.out _).mono ?_
  rintro e w1 ⟨rfl, b1⟩
  replace vs := vs.mono b1
  replace ht := ht.mono b1
  replace B := below_trans B b1
  clear b1
  have cvs0 := vs.cell (i := 0) (by simp)
  have cvs1 := vs.cell (i := 1) (by simp)
  have cvs2 := vs.cell (i := 2) (by simp)
  have cvs3 := vs.cell (i := 3) (by simp)
  simp only [List.getD_cons_zero, List.getD_cons_succ] at cvs0 cvs1 cvs2 cvs3
  have ltvs := vs.lt
  go_wp2_with fail
  clear cvs0 cvs1 cvs2 cvs3 ltvs
  refine (HL.out _).mono ?_
  rintro e w2 ⟨rfl, b2⟩
  replace vs := vs.mono b2
  replace ht := ht.mono b2
  replace B := below_trans B b2
  clear b2
  have cvs0 := vs.cell (i := 0) (by simp)
  have cvs1 := vs.cell (i := 1) (by simp)
  have cvs2 := vs.cell (i := 2) (by simp)
  have cvs3 := vs.cell (i := 3) (by simp)
  simp only [List.getD_cons_zero, List.getD_cons_succ] at cvs0 cvs1 cvs2 cvs3
  have ltvs := vs.lt
  go_wp2_with fail
  clear cvs0 cvs1 cvs2 cvs3 ltvs
  rw [HE1.out]
  refine (HP.out _).mono ?_
  rintro e w3 ⟨pl, ql, ph, qh, res, rfl, bb⟩
  replace vs := vs.mono bb
  replace ht := ht.mono bb
  replace B := below_trans B bb
  clear bb
  go_upto_region 9 with (fail)
  have sz0 := World.size_alloc w3 (.cells #[.int .i64 (pl : Int), .int .i64 (ql : Int)] 29)
  have va := Vals.newL w3 w3.heap.size [.int .i64 (pl : Int), .int .i64 (ql : Int)] 29 rfl
  have bb := below_alloc w3 (.cells #[.int .i64 (pl : Int), .int .i64 (ql : Int)] 29)
  have vb := Vals.newL (w3.alloc (.cells #[.int .i64 (pl : Int), .int .i64 (ql : Int)] 29)) (w3.heap.size + 1) [.int .i64 (ph : Int), .int .i64 (qh : Int)] 29 sz0.symm
  have bc := below_alloc (w3.alloc (.cells #[.int .i64 (pl : Int), .int .i64 (ql : Int)] 29)) (.cells #[.int .i64 (ph : Int), .int .i64 (qh : Int)] 29)
  have bd := below_trans bb bc
  replace va := va.mono bc
  replace vs := vs.mono bd
  replace ht := ht.mono bd
  replace B := below_trans B bd
  clear bb bc bd sz0
  generalize (w3.alloc (.cells #[.int .i64 (pl : Int), .int .i64 (ql : Int)] 29)).alloc (.cells #[.int .i64 (ph : Int), .int .i64 (qh : Int)] 29) = w4 at *
  generalize w3.heap.size = b7 at *
  go_region_held3 (fun w' => w'.cell? ⟨w.heap.size, 0, none⟩ = some (.int .i64 s.a) ∧ w'.cell? ⟨w.heap.size, 1, none⟩ = some (.int .i64 s.b) ∧ w'.cell? ⟨w.heap.size, 2, none⟩ = some (.int .i64 s.c) ∧ w'.cell? ⟨w.heap.size, 3, none⟩ = some (.int .i64 s.d))
    (first | exact vals4 vs | exact vals4 vs.drew)
    (first | (go_at_call 12; (with_reducible refine (one_calls _).mono ?_); rintro e y1 ⟨rfl, b5⟩; replace vs := vs.drew.mono b5; replace ht := ht.drew.mono b5; replace va := va.drew.mono b5; replace vb := vb.drew.mono b5; replace B := below_trans B.drew b5; clear b5)
           | (go_at_call 11; (with_reducible refine (HC1.out _).mono ?_); rintro e y2 ⟨rfl, b5⟩; replace vs := vs.mono b5; replace ht := ht.mono b5; replace va := va.mono b5; replace vb := vb.mono b5; replace B := below_trans B b5; clear b5)
           | (go_at_call 11; (with_reducible refine (HC2.out _).mono ?_); rintro e y3 ⟨rfl, b5⟩; replace vs := vs.mono b5; replace ht := ht.mono b5; replace va := va.mono b5; replace vb := vb.mono b5; replace B := below_trans B b5; clear b5))
  have resb := farey_best hU hD res
  have HRES := Lib.hid res
  have HRB := Lib.hid resb
  clear res resb
  have cvs0 := vs.cell (i := 0) (by simp)
  have cvs1 := vs.cell (i := 1) (by simp)
  have cvs2 := vs.cell (i := 2) (by simp)
  have cvs3 := vs.cell (i := 3) (by simp)
  simp only [List.getD_cons_zero, List.getD_cons_succ] at cvs0 cvs1 cvs2 cvs3
  have ltvs := vs.lt
  go_wp2_with fail
  clear cvs0 cvs1 cvs2 cvs3 ltvs
  refine (HQ.out _).mono ?_
  rintro e z1 ⟨pb, qb, pa, qa, sof, rfl, bb⟩
  replace vs := vs.mono bb
  replace ht := ht.mono bb
  replace va := va.mono bb
  replace vb := vb.mono bb
  replace B := below_trans B bb
  clear bb
  have eqs : pl = pb ∧ ql = qb ∧ ph = pa ∧ qh = qa := best_unique HRB.out sof.best HRES.out.1.2.1 HRES.out.1.2.2.2 (by have := sof.b; omega) (by have := sof.a; omega)
  clear sof HRES HRB
  obtain ⟨rfl, rfl, rfl, rfl⟩ := eqs
  have q1 : ∀ w : World, (binOp .eql 29 (.agg #[.int .i64 (pl : Int), .int .i64 (ql : Int)]) (.agg #[.int .i64 (pl : Int), .int .i64 (ql : Int)])).run Tryd.prog w = .ok (.bool true) w := fun w => by rw [run_eql_frac]; simp
  have q2 : ∀ w : World, (binOp .eql 29 (.agg #[.int .i64 (ph : Int), .int .i64 (qh : Int)]) (.agg #[.int .i64 (ph : Int), .int .i64 (qh : Int)])).run Tryd.prog w = .ok (.bool true) w := fun w => by rw [run_eql_frac]; simp
  go_upto_region 14 with (fail)
  have sz0 := World.size_alloc z1 (.cells #[.int .i64 (pl : Int), .int .i64 (ql : Int)] 29)
  have vc := Vals.newL z1 z1.heap.size [.int .i64 (pl : Int), .int .i64 (ql : Int)] 29 rfl
  have bb := below_alloc z1 (.cells #[.int .i64 (pl : Int), .int .i64 (ql : Int)] 29)
  have vd := Vals.newL (z1.alloc (.cells #[.int .i64 (pl : Int), .int .i64 (ql : Int)] 29)) (z1.heap.size + 1) [.int .i64 (ph : Int), .int .i64 (qh : Int)] 29 sz0.symm
  have bc := below_alloc (z1.alloc (.cells #[.int .i64 (pl : Int), .int .i64 (ql : Int)] 29)) (.cells #[.int .i64 (ph : Int), .int .i64 (qh : Int)] 29)
  have bd := below_trans bb bc
  replace vc := vc.mono bc
  replace vs := vs.mono bd
  replace ht := ht.mono bd
  replace va := va.mono bd
  replace vb := vb.mono bd
  replace B := below_trans B bd
  clear bb bc bd sz0
  generalize (z1.alloc (.cells #[.int .i64 (pl : Int), .int .i64 (ql : Int)] 29)).alloc (.cells #[.int .i64 (ph : Int), .int .i64 (qh : Int)] 29) = z2 at *
  generalize z1.heap.size = b9 at *
  have cva0 := va.cell (i := 0) (by simp)
  have cva1 := va.cell (i := 1) (by simp)
  simp only [List.getD_cons_zero, List.getD_cons_succ] at cva0 cva1
  have ltva := va.lt
  have cvb0 := vb.cell (i := 0) (by simp)
  have cvb1 := vb.cell (i := 1) (by simp)
  simp only [List.getD_cons_zero, List.getD_cons_succ] at cvb0 cvb1
  have ltvb := vb.lt
  have cvc0 := vc.cell (i := 0) (by simp)
  have cvc1 := vc.cell (i := 1) (by simp)
  simp only [List.getD_cons_zero, List.getD_cons_succ] at cvc0 cvc1
  have ltvc := vc.lt
  have cvd0 := vd.cell (i := 0) (by simp)
  have cvd1 := vd.cell (i := 1) (by simp)
  simp only [List.getD_cons_zero, List.getD_cons_succ] at cvd0 cvd1
  have ltvd := vd.lt
  go_wp2_with fail
  clear cva0 cva1 ltva cvb0 cvb1 ltvb cvc0 cvc1 ltvc cvd0 cvd1 ltvd
  refine (lives_calls _ ht).mono ?_
  rintro e w5 ⟨rfl, b5⟩
  replace vs := vs.mono b5
  replace ht := ht.mono b5
  replace va := va.mono b5
  replace vb := vb.mono b5
  replace B := below_trans B b5
  clear b5
  go_wp2
  go_ret
  exact ⟨rfl, B⟩

set_option maxRecDepth 100000 in
set_option maxHeartbeats 1000000 in
theorem fareys_ok1 (s : T4) (m : Int) (w : World) (hS : i64 s.a ∧ i64 s.b ∧ i64 s.c ∧ i64 s.d) (hM : i64 m) (ht : Tab w) (h1 : validB s.a s.b s.c s.d = true) (h2 : 1 ≤ m) (h3 : m ≤ 4096) (g : -48 ≤ s.a ∧ s.a ≤ 48 ∧ -48 ≤ s.b ∧ s.b ≤ 48 ∧ -48 ≤ s.c ∧ s.c ≤ 48) (k1 : aboveI s 1 1 = 1) (k2 : aboveI s 2 1 = -1) :
    Calls Tryd.prog 3 #[.agg #[.int .i64 s.a, .int .i64 s.b, .int .i64 s.c, .int .i64 s.d], .int .i64 m] w (RetTrue w) := by
  have F := fun w : World => form_2 s s w hS hS h1 h1
  have L := fun w : World => large_no s 48 w (by omega) (by omega) g
  obtain ⟨most, hmost⟩ : ∃ n : Nat, (m - 1) % 50 + 1 = (n : Int) := ⟨((m - 1) % 50 + 1).toNat, by omega⟩
  have hm1 : 1 ≤ most := by omega
  have hm2 : most ≤ 50 := by omega
  have P := fun w : World => farey_ok s most w h1 hm1 (by omega) (by omega) (by omega)
  have Q := fun w : World => rfarey_calls s most w h1 hm1 (by omega) (by omega) k2
  have C1 := fun w : World => rcmpT_ok s ⟨0, 0, 0, 1⟩ w h1 unit_ok
  have C2 := fun w : World => rcmpT_ok s ⟨1, 0, 0, 1⟩ w h1 (by unfold validB gcd4 gcdN; decide)
  rw [cmp_one] at C1
  rw [cmp_two s (validB_parts h1).2.1] at C2
  dsimp only at C1 C2
  rw [k1] at C1
  rw [k2] at C2
  have hU : 1 ≤ underN s.a s.b s.c := by have := under_ne s.a s.b s.c; omega
  have hD : 1 ≤ s.d.toNat := by have := (validB_parts h1).2.1; omega
  clear k1 k2
  have HE1 := Lib.hid hmost
  clear hmost
  have HF := Lib.hid F
  have HL := Lib.hid L
  have HP := Lib.hid P
  have HC1 := Lib.hid C1
  have HC2 := Lib.hid C2
  have HQ := Lib.hid Q
  clear F L P C1 C2 Q
  clear hS h1 g
  have vs := Vals.newL w (w.heap.size) [.int .i64 s.a, .int .i64 s.b, .int .i64 s.c, .int .i64 s.d] 23 rfl
  have bb := below_alloc w (.cells #[.int .i64 s.a, .int .i64 s.b, .int .i64 s.c, .int .i64 s.d] 23)
  have B := bb
  have bb0 := B
  clear bb
  go_enter Tryd.func3, Tryd.ntmps3
  go_wp2_with fail
  generalize (w.alloc (.cells #[.int .i64 s.a, .int .i64 s.b, .int .i64 s.c, .int .i64 s.d] 23)) = w0 at *
  replace ht := ht.mono bb0
  clear bb0
  refine (HF.out _).mono ?_
  rintro e w1 ⟨rfl, b1⟩
  replace vs := vs.mono b1
  replace ht := ht.mono b1
  replace B := below_trans B b1
  clear b1
  have cvs0 := vs.cell (i := 0) (by simp)
  have cvs1 := vs.cell (i := 1) (by simp)
  have cvs2 := vs.cell (i := 2) (by simp)
  have cvs3 := vs.cell (i := 3) (by simp)
  simp only [List.getD_cons_zero, List.getD_cons_succ] at cvs0 cvs1 cvs2 cvs3
  have ltvs := vs.lt
  go_wp2_with fail
  clear cvs0 cvs1 cvs2 cvs3 ltvs
  refine (HL.out _).mono ?_
  rintro e w2 ⟨rfl, b2⟩
  replace vs := vs.mono b2
  replace ht := ht.mono b2
  replace B := below_trans B b2
  clear b2
  have cvs0 := vs.cell (i := 0) (by simp)
  have cvs1 := vs.cell (i := 1) (by simp)
  have cvs2 := vs.cell (i := 2) (by simp)
  have cvs3 := vs.cell (i := 3) (by simp)
  simp only [List.getD_cons_zero, List.getD_cons_succ] at cvs0 cvs1 cvs2 cvs3
  have ltvs := vs.lt
  go_wp2_with fail
  clear cvs0 cvs1 cvs2 cvs3 ltvs
  rw [HE1.out]
  refine (HP.out _).mono ?_
  rintro e w3 ⟨pl, ql, ph, qh, res, rfl, bb⟩
  replace vs := vs.mono bb
  replace ht := ht.mono bb
  replace B := below_trans B bb
  clear bb
  go_upto_region 9 with (fail)
  have sz0 := World.size_alloc w3 (.cells #[.int .i64 (pl : Int), .int .i64 (ql : Int)] 29)
  have va := Vals.newL w3 w3.heap.size [.int .i64 (pl : Int), .int .i64 (ql : Int)] 29 rfl
  have bb := below_alloc w3 (.cells #[.int .i64 (pl : Int), .int .i64 (ql : Int)] 29)
  have vb := Vals.newL (w3.alloc (.cells #[.int .i64 (pl : Int), .int .i64 (ql : Int)] 29)) (w3.heap.size + 1) [.int .i64 (ph : Int), .int .i64 (qh : Int)] 29 sz0.symm
  have bc := below_alloc (w3.alloc (.cells #[.int .i64 (pl : Int), .int .i64 (ql : Int)] 29)) (.cells #[.int .i64 (ph : Int), .int .i64 (qh : Int)] 29)
  have bd := below_trans bb bc
  replace va := va.mono bc
  replace vs := vs.mono bd
  replace ht := ht.mono bd
  replace B := below_trans B bd
  clear bb bc bd sz0
  generalize (w3.alloc (.cells #[.int .i64 (pl : Int), .int .i64 (ql : Int)] 29)).alloc (.cells #[.int .i64 (ph : Int), .int .i64 (qh : Int)] 29) = w4 at *
  generalize w3.heap.size = b7 at *
  go_region_held3 (fun w' => w'.cell? ⟨w.heap.size, 0, none⟩ = some (.int .i64 s.a) ∧ w'.cell? ⟨w.heap.size, 1, none⟩ = some (.int .i64 s.b) ∧ w'.cell? ⟨w.heap.size, 2, none⟩ = some (.int .i64 s.c) ∧ w'.cell? ⟨w.heap.size, 3, none⟩ = some (.int .i64 s.d))
    (first | exact vals4 vs | exact vals4 vs.drew)
    (first | (go_at_call 12; (with_reducible refine (one_calls _).mono ?_); rintro e y1 ⟨rfl, b5⟩; replace vs := vs.drew.mono b5; replace ht := ht.drew.mono b5; replace va := va.drew.mono b5; replace vb := vb.drew.mono b5; replace B := below_trans B.drew b5; clear b5)
           | (go_at_call 11; (with_reducible refine (HC1.out _).mono ?_); rintro e y2 ⟨rfl, b5⟩; replace vs := vs.mono b5; replace ht := ht.mono b5; replace va := va.mono b5; replace vb := vb.mono b5; replace B := below_trans B b5; clear b5)
           | (go_at_call 11; (with_reducible refine (HC2.out _).mono ?_); rintro e y3 ⟨rfl, b5⟩; replace vs := vs.mono b5; replace ht := ht.mono b5; replace va := va.mono b5; replace vb := vb.mono b5; replace B := below_trans B b5; clear b5))
  have resb := farey_best hU hD res
  have HRES := Lib.hid res
  have HRB := Lib.hid resb
  clear res resb
  have cvs0 := vs.cell (i := 0) (by simp)
  have cvs1 := vs.cell (i := 1) (by simp)
  have cvs2 := vs.cell (i := 2) (by simp)
  have cvs3 := vs.cell (i := 3) (by simp)
  simp only [List.getD_cons_zero, List.getD_cons_succ] at cvs0 cvs1 cvs2 cvs3
  have ltvs := vs.lt
  go_wp2_with fail
  clear cvs0 cvs1 cvs2 cvs3 ltvs
  refine (HQ.out _).mono ?_
  rintro e z1 ⟨pb, qb, pa, qa, sof, rfl, bb⟩
  replace vs := vs.mono bb
  replace ht := ht.mono bb
  replace va := va.mono bb
  replace vb := vb.mono bb
  replace B := below_trans B bb
  clear bb
  have eqs : pl = pb ∧ ql = qb ∧ ph = pa ∧ qh = qa := best_unique HRB.out sof.best HRES.out.1.2.1 HRES.out.1.2.2.2 (by have := sof.b; omega) (by have := sof.a; omega)
  clear sof HRES HRB
  obtain ⟨rfl, rfl, rfl, rfl⟩ := eqs
  have q1 : ∀ w : World, (binOp .eql 29 (.agg #[.int .i64 (pl : Int), .int .i64 (ql : Int)]) (.agg #[.int .i64 (pl : Int), .int .i64 (ql : Int)])).run Tryd.prog w = .ok (.bool true) w := fun w => by rw [run_eql_frac]; simp
  have q2 : ∀ w : World, (binOp .eql 29 (.agg #[.int .i64 (ph : Int), .int .i64 (qh : Int)]) (.agg #[.int .i64 (ph : Int), .int .i64 (qh : Int)])).run Tryd.prog w = .ok (.bool true) w := fun w => by rw [run_eql_frac]; simp
  go_upto_region 14 with (fail)
  have sz0 := World.size_alloc z1 (.cells #[.int .i64 (pl : Int), .int .i64 (ql : Int)] 29)
  have vc := Vals.newL z1 z1.heap.size [.int .i64 (pl : Int), .int .i64 (ql : Int)] 29 rfl
  have bb := below_alloc z1 (.cells #[.int .i64 (pl : Int), .int .i64 (ql : Int)] 29)
  have vd := Vals.newL (z1.alloc (.cells #[.int .i64 (pl : Int), .int .i64 (ql : Int)] 29)) (z1.heap.size + 1) [.int .i64 (ph : Int), .int .i64 (qh : Int)] 29 sz0.symm
  have bc := below_alloc (z1.alloc (.cells #[.int .i64 (pl : Int), .int .i64 (ql : Int)] 29)) (.cells #[.int .i64 (ph : Int), .int .i64 (qh : Int)] 29)
  have bd := below_trans bb bc
  replace vc := vc.mono bc
  replace vs := vs.mono bd
  replace ht := ht.mono bd
  replace va := va.mono bd
  replace vb := vb.mono bd
  replace B := below_trans B bd
  clear bb bc bd sz0
  generalize (z1.alloc (.cells #[.int .i64 (pl : Int), .int .i64 (ql : Int)] 29)).alloc (.cells #[.int .i64 (ph : Int), .int .i64 (qh : Int)] 29) = z2 at *
  generalize z1.heap.size = b9 at *
  have cva0 := va.cell (i := 0) (by simp)
  have cva1 := va.cell (i := 1) (by simp)
  simp only [List.getD_cons_zero, List.getD_cons_succ] at cva0 cva1
  have ltva := va.lt
  have cvb0 := vb.cell (i := 0) (by simp)
  have cvb1 := vb.cell (i := 1) (by simp)
  simp only [List.getD_cons_zero, List.getD_cons_succ] at cvb0 cvb1
  have ltvb := vb.lt
  have cvc0 := vc.cell (i := 0) (by simp)
  have cvc1 := vc.cell (i := 1) (by simp)
  simp only [List.getD_cons_zero, List.getD_cons_succ] at cvc0 cvc1
  have ltvc := vc.lt
  have cvd0 := vd.cell (i := 0) (by simp)
  have cvd1 := vd.cell (i := 1) (by simp)
  simp only [List.getD_cons_zero, List.getD_cons_succ] at cvd0 cvd1
  have ltvd := vd.lt
  go_wp2_with fail
  clear cva0 cva1 ltva cvb0 cvb1 ltvb cvc0 cvc1 ltvc cvd0 cvd1 ltvd
  refine (lives_calls _ ht).mono ?_
  rintro e w5 ⟨rfl, b5⟩
  replace vs := vs.mono b5
  replace ht := ht.mono b5
  replace va := va.mono b5
  replace vb := vb.mono b5
  replace B := below_trans B b5
  clear b5
  go_wp2
  go_ret
  exact ⟨rfl, B⟩

set_option maxRecDepth 100000 in
set_option maxHeartbeats 1000000 in
theorem walk_fareys (s : T4) (m : Int) (w : World) (hS : i64 s.a ∧ i64 s.b ∧ i64 s.c ∧ i64 s.d) (hM : i64 m) (ht : Tab w)  :
    Calls Tryd.prog 3 #[.agg #[.int .i64 s.a, .int .i64 s.b, .int .i64 s.c, .int .i64 s.d], .int .i64 m] w (RetTrue w) := by
  cases h1 : validB s.a s.b s.c s.d
  · exact fareys_bad s m w hS hM ht h1
  by_cases h2 : 1 ≤ m
  case neg => exact fareys_lo s m w hS hM ht h1 (by omega)
  by_cases h3 : m ≤ 4096
  case neg => exact fareys_hi s m w hS hM ht h1 (by omega)
  by_cases g : -48 ≤ s.a ∧ s.a ≤ 48 ∧ -48 ≤ s.b ∧ s.b ≤ 48 ∧ -48 ≤ s.c ∧ s.c ≤ 48
  case neg => exact fareys_large s m w hS hM ht h1 h2 h3 g
  rcases aboveI_cases s 1 1 with a | a | a
  · exact fareys_below s m w hS hM ht h1 h2 h3 g a
  · rcases aboveI_cases s 2 1 with b | b | b
    · exact fareys_ok0 s m w hS hM ht h1 h2 h3 g a b
    · exact fareys_over00 s m w hS hM ht h1 h2 h3 g a b
    · exact fareys_over01 s m w hS hM ht h1 h2 h3 g a b
  · rcases aboveI_cases s 2 1 with b | b | b
    · exact fareys_ok1 s m w hS hM ht h1 h2 h3 g a b
    · exact fareys_over10 s m w hS hM ht h1 h2 h3 g a b
    · exact fareys_over11 s m w hS hM ht h1 h2 h3 g a b

end Go.Proofs
