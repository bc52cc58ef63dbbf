/- The walk of ToneDivides: whatever comes in, it returns true and changes nothing that was there. -/
import Derived.Test.YtnogieknjcbchaaDoorTRef
import Derived.Test.YtnogieknjcbchaaDoorTone8
import Derived.Test.YtnogieknjcbchaaDoorTDivR
import Derived.Test.YtnogieknjcbchaaDoorTFracs
import Derived.Test.YtnogieknjcbchaaDoorTRefL
import Derived.Deep.RegionHeld3
open Go.RowKit Go.Deep
namespace Go.Proofs
set_option linter.unusedVariables false
set_option linter.unusedSimpArgs false

theorem RdF.drewmono {w w' : World} {ad : Option Addr} {L : List (Int × Int)} (h : RdF w ad L) (hb : Below w.drew.heap.size w.drew w') : RdF w' ad L := RdF.mono (w := w.drew) h hb

set_option maxRecDepth 100000 in
set_option maxHeartbeats 1000000 in
theorem tdivides_bad (s : T4) (m : Int) (w : World) (hS : i64 s.a ∧ i64 s.b ∧ i64 s.c ∧ i64 s.d) (hM : i64 m) (ht : Tab w) (h1 : validB s.a s.b s.c s.d = false) :
    Calls Tryd.prog 5 #[.agg #[.int .i64 s.a, .int .i64 s.b, .int .i64 s.c, .int .i64 s.d], .int .i64 m] w (RetTrue w) := by
  have F := fun w : World => form_0 s s w hS hS h1
  have P := fun w : World => divisions_bad s m w hS h1
  have HF := Lib.hid F
  have HP := Lib.hid P
  clear F P
  clear hS h1
  have vs := Vals.newL w (w.heap.size) [.int .i64 s.a, .int .i64 s.b, .int .i64 s.c, .int .i64 s.d] 23 rfl
  have bb := below_alloc w (.cells #[.int .i64 s.a, .int .i64 s.b, .int .i64 s.c, .int .i64 s.d] 23)
  have B := bb
  have bb0 := B
  clear bb
  go_enter Tryd.func5, Tryd.ntmps5
  go_wp2_with fail
  generalize (w.alloc (.cells #[.int .i64 s.a, .int .i64 s.b, .int .i64 s.c, .int .i64 s.d] 23)) = w0 at *
  replace ht := ht.mono bb0
  clear bb0
  refine (HF.out _).mono ?_
  rintro e w1 ⟨rfl, b1⟩
  replace vs := vs.mono b1
  replace ht := ht.mono b1
  replace B := below_trans B b1
  clear b1
  have cvs0 := vs.cell (i := 0) (by simp)
  have cvs1 := vs.cell (i := 1) (by simp)
  have cvs2 := vs.cell (i := 2) (by simp)
  have cvs3 := vs.cell (i := 3) (by simp)
  simp only [List.getD_cons_zero, List.getD_cons_succ] at cvs0 cvs1 cvs2 cvs3
  have ltvs := vs.lt
  go_wp2_with fail
  clear cvs0 cvs1 cvs2 cvs3 ltvs
  refine (HP.out _).mono ?_
  rintro e w2 ⟨v, rfl, hin, b2⟩
  replace vs := vs.mono b2
  replace ht := ht.mono b2
  replace B := below_trans B b2
  clear b2
  obtain ⟨ad, cap, rfl, hrd⟩ := hin
  clear hrd
  rw [List.length_nil]
  go_upto_region 9 with (fail)
  go_region
  replace vs := vs.drew
  replace ht := ht.drew
  replace B := B.drew
  generalize w2.drew = w3 at *
  go_wp2_with fail
  refine (lives_calls _ ht).mono ?_
  rintro e w4 ⟨rfl, b4⟩
  replace vs := vs.mono b4
  replace ht := ht.mono b4
  replace B := below_trans B b4
  clear b4
  go_wp2
  go_ret
  exact ⟨rfl, B⟩

set_option maxRecDepth 100000 in
set_option maxHeartbeats 1000000 in
theorem tdivides_lo (s : T4) (m : Int) (w : World) (hS : i64 s.a ∧ i64 s.b ∧ i64 s.c ∧ i64 s.d) (hM : i64 m) (ht : Tab w) (h1 : validB s.a s.b s.c s.d = true) (h2 : m < 1) :
    Calls Tryd.prog 5 #[.agg #[.int .i64 s.a, .int .i64 s.b, .int .i64 s.c, .int .i64 s.d], .int .i64 m] w (RetTrue w) := by
  have F := fun w : World => form_2 s s w hS hS h1 h1
  have P := fun w : World => divisions_low s m w h1 h2
  have HF := Lib.hid F
  have HP := Lib.hid P
  clear F P
  clear hS h1
  have vs := Vals.newL w (w.heap.size) [.int .i64 s.a, .int .i64 s.b, .int .i64 s.c, .int .i64 s.d] 23 rfl
  have bb := below_alloc w (.cells #[.int .i64 s.a, .int .i64 s.b, .int .i64 s.c, .int .i64 s.d] 23)
  have B := bb
  have bb0 := B
  clear bb
  go_enter Tryd.func5, Tryd.ntmps5
  go_wp2_with fail
  generalize (w.alloc (.cells #[.int .i64 s.a, .int .i64 s.b, .int .i64 s.c, .int .i64 s.d] 23)) = w0 at *
  replace ht := ht.mono bb0
  clear bb0
  refine (HF.out _).mono ?_
  rintro e w1 ⟨rfl, b1⟩
  replace vs := vs.mono b1
  replace ht := ht.mono b1
  replace B := below_trans B b1
  clear b1
  have cvs0 := vs.cell (i := 0) (by simp)
  have cvs1 := vs.cell (i := 1) (by simp)
  have cvs2 := vs.cell (i := 2) (by simp)
  have cvs3 := vs.cell (i := 3) (by simp)
  simp only [List.getD_cons_zero, List.getD_cons_succ] at cvs0 cvs1 cvs2 cvs3
  have ltvs := vs.lt
  go_wp2_with fail
  clear cvs0 cvs1 cvs2 cvs3 ltvs
  refine (HP.out _).mono ?_
  rintro e w2 ⟨v, rfl, hin, b2⟩
  replace vs := vs.mono b2
  replace ht := ht.mono b2
  replace B := below_trans B b2
  clear b2
  obtain ⟨ad, cap, rfl, hrd⟩ := hin
  clear hrd
  rw [List.length_nil]
  go_upto_region 9 with (fail)
  go_region
  replace vs := vs.drew
  replace ht := ht.drew
  replace B := B.drew
  generalize w2.drew = w3 at *
  go_wp2_with fail
  refine (lives_calls _ ht).mono ?_
  rintro e w4 ⟨rfl, b4⟩
  replace vs := vs.mono b4
  replace ht := ht.mono b4
  replace B := below_trans B b4
  clear b4
  go_wp2
  go_ret
  exact ⟨rfl, B⟩

set_option maxRecDepth 100000 in
set_option maxHeartbeats 1000000 in
theorem tdivides_hi (s : T4) (m : Int) (w : World) (hS : i64 s.a ∧ i64 s.b ∧ i64 s.c ∧ i64 s.d) (hM : i64 m) (ht : Tab w) (h1 : validB s.a s.b s.c s.d = true) (h2 : 1024 < m) :
    Calls Tryd.prog 5 #[.agg #[.int .i64 s.a, .int .i64 s.b, .int .i64 s.c, .int .i64 s.d], .int .i64 m] w (RetTrue w) := by
  have F := fun w : World => form_2 s s w hS hS h1 h1
  have P := fun w : World => divisions_high s m w h1 h2
  have HF := Lib.hid F
  have HP := Lib.hid P
  clear F P
  clear hS h1
  have vs := Vals.newL w (w.heap.size) [.int .i64 s.a, .int .i64 s.b, .int .i64 s.c, .int .i64 s.d] 23 rfl
  have bb := below_alloc w (.cells #[.int .i64 s.a, .int .i64 s.b, .int .i64 s.c, .int .i64 s.d] 23)
  have B := bb
  have bb0 := B
  clear bb
  go_enter Tryd.func5, Tryd.ntmps5
  go_wp2_with fail
  generalize (w.alloc (.cells #[.int .i64 s.a, .int .i64 s.b, .int .i64 s.c, .int .i64 s.d] 23)) = w0 at *
  replace ht := ht.mono bb0
  clear bb0
  refine (HF.out _).mono ?_
  rintro e w1 ⟨rfl, b1⟩
  replace vs := vs.mono b1
  replace ht := ht.mono b1
  replace B := below_trans B b1
  clear b1
  have cvs0 := vs.cell (i := 0) (by simp)
  have cvs1 := vs.cell (i := 1) (by simp)
  have cvs2 := vs.cell (i := 2) (by simp)
  have cvs3 := vs.cell (i := 3) (by simp)
  simp only [List.getD_cons_zero, List.getD_cons_succ] at cvs0 cvs1 cvs2 cvs3
  have ltvs := vs.lt
  go_wp2_with fail
  clear cvs0 cvs1 cvs2 cvs3 ltvs
  refine (HP.out _).mono ?_
  rintro e w2 ⟨v, rfl, hin, b2⟩
  replace vs := vs.mono b2
  replace ht := ht.mono b2
  replace B := below_trans B b2
  clear b2
  obtain ⟨ad, cap, rfl, hrd⟩ := hin
  clear hrd
  rw [List.length_nil]
  go_upto_region 9 with (fail)
  go_region
  replace vs := vs.drew
  replace ht := ht.drew
  replace B := B.drew
  generalize w2.drew = w3 at *
  go_wp2_with fail
  refine (lives_calls _ ht).mono ?_
  rintro e w4 ⟨rfl, b4⟩
  replace vs := vs.mono b4
  replace ht := ht.mono b4
  replace B := below_trans B b4
  clear b4
  go_wp2
  go_ret
  exact ⟨rfl, B⟩

set_option maxRecDepth 100000 in
set_option maxHeartbeats 1000000 in
theorem tdivides_large (s : T4) (m : Int) (w : World) (hS : i64 s.a ∧ i64 s.b ∧ i64 s.c ∧ i64 s.d) (hM : i64 m) (ht : Tab w) (h1 : validB s.a s.b s.c s.d = true) (h2 : 1 ≤ m) (h3 : m ≤ 1024) (g : ¬ (-24 ≤ s.a ∧ s.a ≤ 24 ∧ -24 ≤ s.b ∧ s.b ≤ 24 ∧ -24 ≤ s.c ∧ s.c ≤ 24)) :
    Calls Tryd.prog 5 #[.agg #[.int .i64 s.a, .int .i64 s.b, .int .i64 s.c, .int .i64 s.d], .int .i64 m] w (RetTrue w) := by
  have F := fun w : World => form_2 s s w hS hS h1 h1
  have L := fun w : World => large_yes s 24 w (by omega) (by omega) g
  have HF := Lib.hid F
  have HL := Lib.hid L
  clear F L
  clear hS h1 g
  have vs := Vals.newL w (w.heap.size) [.int .i64 s.a, .int .i64 s.b, .int .i64 s.c, .int .i64 s.d] 23 rfl
  have bb := below_alloc w (.cells #[.int .i64 s.a, .int .i64 s.b, .int .i64 s.c, .int .i64 s.d] 23)
  have B := bb
  have bb0 := B
  clear bb
  go_enter Tryd.func5, Tryd.ntmps5
  go_wp2_with fail
  generalize (w.alloc (.cells #[.int .i64 s.a, .int .i64 s.b, .int .i64 s.c, .int .i64 s.d] 23)) = w0 at *
  replace ht := ht.mono bb0
  clear bb0
  refine (HF.out _).mono ?_
  rintro e w1 ⟨rfl, b1⟩
  replace vs := vs.mono b1
  replace ht := ht.mono b1
  replace B := below_trans B b1
  clear b1
  have cvs0 := vs.cell (i := 0) (by simp)
  have cvs1 := vs.cell (i := 1) (by simp)
  have cvs2 := vs.cell (i := 2) (by simp)
  have cvs3 := vs.cell (i := 3) (by simp)
  simp only [List.getD_cons_zero, List.getD_cons_succ] at cvs0 cvs1 cvs2 cvs3
  have ltvs := vs.lt
  go_wp2_with fail
  clear cvs0 cvs1 cvs2 cvs3 ltvs
  refine (HL.out _).mono ?_
  rintro e w2 ⟨rfl, b2⟩
  replace vs := vs.mono b2
  replace ht := ht.mono b2
  replace B := below_trans B b2
  clear b2
  go_wp2_with fail
  refine (lives_calls _ ht).mono ?_
  rintro e w3 ⟨rfl, b3⟩
  replace vs := vs.mono b3
  replace ht := ht.mono b3
  replace B := below_trans B b3
  clear b3
  go_wp2
  go_ret
  exact ⟨rfl, B⟩

set_option maxRecDepth 100000 in
set_option maxHeartbeats 1000000 in
theorem tdivides_r0 (s : T4) (m : Int) (w : World) (hS : i64 s.a ∧ i64 s.b ∧ i64 s.c ∧ i64 s.d) (hM : i64 m) (ht : Tab w) (h1 : validB s.a s.b s.c s.d = true) (h2 : 1 ≤ m) (h3 : m ≤ 1024) (g : -24 ≤ s.a ∧ s.a ≤ 24 ∧ -24 ≤ s.b ∧ s.b ≤ 24 ∧ -24 ≤ s.c ∧ s.c ≤ 24) (k1 : lg s 0 1 = 0) :
    Calls Tryd.prog 5 #[.agg #[.int .i64 s.a, .int .i64 s.b, .int .i64 s.c, .int .i64 s.d], .int .i64 m] w (RetTrue w) := by
  have F := fun w : World => form_2 s s w hS hS h1 h1
  have L := fun w : World => large_no s 24 w (by omega) (by omega) g
  obtain ⟨most, hmost⟩ : ∃ n : Int, (m - 1) % 64 + 1 = n := ⟨_, rfl⟩
  have hm1 : 1 ≤ most := by omega
  have hm2 : most ≤ 64 := by omega
  have C1 := fun w : World => rcmpT_ok s ⟨0, 0, 0, 1⟩ w h1 unit_ok
  rw [cmp_one] at C1
  dsimp only at C1
  rw [k1] at C1
  have P := fun w : World => divisions_r0 s most w h1 hm1 (by omega) k1
  clear k1
  have HE1 := Lib.hid hmost
  clear hmost
  have HF := Lib.hid F
  have HL := Lib.hid L
  have HP := Lib.hid P
  have HC1 := Lib.hid C1
  clear F L P C1
  clear hS h1 g
  have vs := Vals.newL w (w.heap.size) [.int .i64 s.a, .int .i64 s.b, .int .i64 s.c, .int .i64 s.d] 23 rfl
  have bb := below_alloc w (.cells #[.int .i64 s.a, .int .i64 s.b, .int .i64 s.c, .int .i64 s.d] 23)
  have B := bb
  have bb0 := B
  clear bb
  go_enter Tryd.func5, Tryd.ntmps5
  go_wp2_with fail
  generalize (w.alloc (.cells #[.int .i64 s.a, .int .i64 s.b, .int .i64 s.c, .int .i64 s.d] 23)) = w0 at *
  replace ht := ht.mono bb0
  clear bb0
  refine (HF.out _).mono ?_
  rintro e w1 ⟨rfl, b1⟩
  replace vs := vs.mono b1
  replace ht := ht.mono b1
  replace B := below_trans B b1
  clear b1
  have cvs0 := vs.cell (i := 0) (by simp)
  have cvs1 := vs.cell (i := 1) (by simp)
  have cvs2 := vs.cell (i := 2) (by simp)
  have cvs3 := vs.cell (i := 3) (by simp)
  simp only [List.getD_cons_zero, List.getD_cons_succ] at cvs0 cvs1 cvs2 cvs3
  have ltvs := vs.lt
  go_wp2_with fail
  clear cvs0 cvs1 cvs2 cvs3 ltvs
  refine (HL.out _).mono ?_
  rintro e w2 ⟨rfl, b2⟩
  replace vs := vs.mono b2
  replace ht := ht.mono b2
  replace B := below_trans B b2
  clear b2
  have cvs0 := vs.cell (i := 0) (by simp)
  have cvs1 := vs.cell (i := 1) (by simp)
  have cvs2 := vs.cell (i := 2) (by simp)
  have cvs3 := vs.cell (i := 3) (by simp)
  simp only [List.getD_cons_zero, List.getD_cons_succ] at cvs0 cvs1 cvs2 cvs3
  have ltvs := vs.lt
  go_wp2_with fail
  clear cvs0 cvs1 cvs2 cvs3 ltvs
  rw [HE1.out]
  refine (HP.out _).mono ?_
  rintro e w3 ⟨v, rfl, hin, b3⟩
  replace vs := vs.mono b3
  replace ht := ht.mono b3
  replace B := below_trans B b3
  clear b3
  obtain ⟨ad, cap, rfl, hrd⟩ := hin
  clear hrd
  rw [List.length_nil]
  go_upto_region 9 with (fail)
  go_region_held3 (fun w' => w'.cell? ⟨w.heap.size, 0, none⟩ = some (.int .i64 s.a) ∧ w'.cell? ⟨w.heap.size, 1, none⟩ = some (.int .i64 s.b) ∧ w'.cell? ⟨w.heap.size, 2, none⟩ = some (.int .i64 s.c) ∧ w'.cell? ⟨w.heap.size, 3, none⟩ = some (.int .i64 s.d))
    (first | exact vals4 vs | exact vals4 vs.drew)
    (first | (go_at_call 12; (with_reducible refine (one_calls _).mono ?_); rintro e y1 ⟨rfl, b5⟩; replace vs := vs.drew.mono b5; replace ht := ht.drew.mono b5; replace B := below_trans B.drew b5; clear b5)
           | (go_at_call 11; (with_reducible refine (HC1.out _).mono ?_); rintro e y2 ⟨rfl, b5⟩; replace vs := vs.mono b5; replace ht := ht.mono b5; replace B := below_trans B b5; clear b5))
  go_wp2_with fail
  refine (lives_calls _ ht).mono ?_
  rintro e w4 ⟨rfl, b4⟩
  replace vs := vs.mono b4
  replace ht := ht.mono b4
  replace B := below_trans B b4
  clear b4
  go_wp2
  go_ret
  exact ⟨rfl, B⟩

set_option maxRecDepth 100000 in
set_option maxHeartbeats 1000000 in
theorem tdivides_r1 (s : T4) (m : Int) (w : World) (hS : i64 s.a ∧ i64 s.b ∧ i64 s.c ∧ i64 s.d) (hM : i64 m) (ht : Tab w) (h1 : validB s.a s.b s.c s.d = true) (h2 : 1 ≤ m) (h3 : m ≤ 1024) (g : -24 ≤ s.a ∧ s.a ≤ 24 ∧ -24 ≤ s.b ∧ s.b ≤ 24 ∧ -24 ≤ s.c ∧ s.c ≤ 24) (k1 : lg s 0 1 = -1) :
    Calls Tryd.prog 5 #[.agg #[.int .i64 s.a, .int .i64 s.b, .int .i64 s.c, .int .i64 s.d], .int .i64 m] w (RetTrue w) := by
  have F := fun w : World => form_2 s s w hS hS h1 h1
  have L := fun w : World => large_no s 24 w (by omega) (by omega) g
  obtain ⟨most, hmost⟩ : ∃ n : Int, (m - 1) % 64 + 1 = n := ⟨_, rfl⟩
  have hm1 : 1 ≤ most := by omega
  have hm2 : most ≤ 64 := by omega
  have C1 := fun w : World => rcmpT_ok s ⟨0, 0, 0, 1⟩ w h1 unit_ok
  rw [cmp_one] at C1
  dsimp only at C1
  rw [k1] at C1
  have P := fun w : World => divisions_r1 s most w h1 hm1 (by omega) k1
  clear k1
  have HE1 := Lib.hid hmost
  clear hmost
  have HF := Lib.hid F
  have HL := Lib.hid L
  have HP := Lib.hid P
  have HC1 := Lib.hid C1
  clear F L P C1
  clear hS h1 g
  have vs := Vals.newL w (w.heap.size) [.int .i64 s.a, .int .i64 s.b, .int .i64 s.c, .int .i64 s.d] 23 rfl
  have bb := below_alloc w (.cells #[.int .i64 s.a, .int .i64 s.b, .int .i64 s.c, .int .i64 s.d] 23)
  have B := bb
  have bb0 := B
  clear bb
  go_enter Tryd.func5, Tryd.ntmps5
  go_wp2_with fail
  generalize (w.alloc (.cells #[.int .i64 s.a, .int .i64 s.b, .int .i64 s.c, .int .i64 s.d] 23)) = w0 at *
  replace ht := ht.mono bb0
  clear bb0
  refine (HF.out _).mono ?_
  rintro e w1 ⟨rfl, b1⟩
  replace vs := vs.mono b1
  replace ht := ht.mono b1
  replace B := below_trans B b1
  clear b1
  have cvs0 := vs.cell (i := 0) (by simp)
  have cvs1 := vs.cell (i := 1) (by simp)
  have cvs2 := vs.cell (i := 2) (by simp)
  have cvs3 := vs.cell (i := 3) (by simp)
  simp only [List.getD_cons_zero, List.getD_cons_succ] at cvs0 cvs1 cvs2 cvs3
  have ltvs := vs.lt
  go_wp2_with fail
  clear cvs0 cvs1 cvs2 cvs3 ltvs
  refine (HL.out _).mono ?_
  rintro e w2 ⟨rfl, b2⟩
  replace vs := vs.mono b2
  replace ht := ht.mono b2
  replace B := below_trans B b2
  clear b2
  have cvs0 := vs.cell (i := 0) (by simp)
  have cvs1 := vs.cell (i := 1) (by simp)
  have cvs2 := vs.cell (i := 2) (by simp)
  have cvs3 := vs.cell (i := 3) (by simp)
  simp only [List.getD_cons_zero, List.getD_cons_succ] at cvs0 cvs1 cvs2 cvs3
  have ltvs := vs.lt
  go_wp2_with fail
  clear cvs0 cvs1 cvs2 cvs3 ltvs
  rw [HE1.out]
  refine (HP.out _).mono ?_
  rintro e w3 ⟨v, rfl, hin, b3⟩
  replace vs := vs.mono b3
  replace ht := ht.mono b3
  replace B := below_trans B b3
  clear b3
  obtain ⟨ad, cap, rfl, hrd⟩ := hin
  clear hrd
  rw [List.length_nil]
  go_upto_region 9 with (fail)
  go_region_held3 (fun w' => w'.cell? ⟨w.heap.size, 0, none⟩ = some (.int .i64 s.a) ∧ w'.cell? ⟨w.heap.size, 1, none⟩ = some (.int .i64 s.b) ∧ w'.cell? ⟨w.heap.size, 2, none⟩ = some (.int .i64 s.c) ∧ w'.cell? ⟨w.heap.size, 3, none⟩ = some (.int .i64 s.d))
    (first | exact vals4 vs | exact vals4 vs.drew)
    (first | (go_at_call 12; (with_reducible refine (one_calls _).mono ?_); rintro e y1 ⟨rfl, b5⟩; replace vs := vs.drew.mono b5; replace ht := ht.drew.mono b5; replace B := below_trans B.drew b5; clear b5)
           | (go_at_call 11; (with_reducible refine (HC1.out _).mono ?_); rintro e y2 ⟨rfl, b5⟩; replace vs := vs.mono b5; replace ht := ht.mono b5; replace B := below_trans B b5; clear b5))
  go_wp2_with fail
  refine (lives_calls _ ht).mono ?_
  rintro e w4 ⟨rfl, b4⟩
  replace vs := vs.mono b4
  replace ht := ht.mono b4
  replace B := below_trans B b4
  clear b4
  go_wp2
  go_ret
  exact ⟨rfl, B⟩

set_option maxRecDepth 100000 in
set_option maxHeartbeats 1000000 in
theorem tdivides_ok (s : T4) (m : Int) (w : World) (hS : i64 s.a ∧ i64 s.b ∧ i64 s.c ∧ i64 s.d) (hM : i64 m) (ht : Tab w) (h1 : validB s.a s.b s.c s.d = true) (h2 : 1 ≤ m) (h3 : m ≤ 1024) (g : -24 ≤ s.a ∧ s.a ≤ 24 ∧ -24 ≤ s.b ∧ s.b ≤ 24 ∧ -24 ≤ s.c ∧ s.c ≤ 24) (k1 : lg s 0 1 = 1) :
    Calls Tryd.prog 5 #[.agg #[.int .i64 s.a, .int .i64 s.b, .int .i64 s.c, .int .i64 s.d], .int .i64 m] w (RetTrue w) := by
  have F := fun w : World => form_2 s s w hS hS h1 h1
  have L := fun w : World => large_no s 24 w (by omega) (by omega) g
  obtain ⟨most, hmost⟩ : ∃ n : Int, (m - 1) % 64 + 1 = n := ⟨_, rfl⟩
  have hm1 : 1 ≤ most := by omega
  have hm2 : most ≤ 64 := by omega
  have C1 := fun w : World => rcmpT_ok s ⟨0, 0, 0, 1⟩ w h1 unit_ok
  rw [cmp_one] at C1
  dsimp only at C1
  rw [k1] at C1
  have hE : s.a.natAbs ≤ 24 ∧ s.b.natAbs ≤ 24 ∧ s.c.natAbs ≤ 24 := by omega
  have hd := (validB_parts h1).2.1
  have h01 : 0 < lg s 0 1 := by omega
  obtain ⟨L0, hL⟩ := fracs_exist hd hm1 h01
  obtain ⟨full, hf⟩ : ∃ full, full = (octT s, 1) :: L0 := ⟨_, rfl⟩
  have hlen := full_length hd h01 ⟨hm1, hm2⟩ hf hL
  have P := fun w : World => divisions_main s most w full L0 h1 hE hm1 hm2 k1 hf hL
  have Q := fun w : World => rdivisions_calls s most w full L0 h1 hE hm1 hm2 h01 hf hL
  have FC := fun (v1 v2 : Value) (w : World) (a : InF w v1 full) (b : InF w v2 full) => fracs_calls v1 v2 full w a b (by omega)
  clear hE hd h01 hf hL hlen k1
  have HE1 := Lib.hid hmost
  clear hmost
  have HF := Lib.hid F
  have HL := Lib.hid L
  have HP := Lib.hid P
  have HC1 := Lib.hid C1
  have HQ := Lib.hid Q
  have HFC := Lib.hid FC
  clear F L P C1 Q FC
  clear hS h1 g
  have vs := Vals.newL w (w.heap.size) [.int .i64 s.a, .int .i64 s.b, .int .i64 s.c, .int .i64 s.d] 23 rfl
  have bb := below_alloc w (.cells #[.int .i64 s.a, .int .i64 s.b, .int .i64 s.c, .int .i64 s.d] 23)
  have B := bb
  have bb0 := B
  clear bb
  go_enter Tryd.func5, Tryd.ntmps5
  go_wp2_with fail
  generalize (w.alloc (.cells #[.int .i64 s.a, .int .i64 s.b, .int .i64 s.c, .int .i64 s.d] 23)) = w0 at *
  replace ht := ht.mono bb0
  clear bb0
  refine (HF.out _).mono ?_
  rintro e w1 ⟨rfl, b1⟩
  replace vs := vs.mono b1
  replace ht := ht.mono b1
  replace B := below_trans B b1
  clear b1
  have cvs0 := vs.cell (i := 0) (by simp)
  have cvs1 := vs.cell (i := 1) (by simp)
  have cvs2 := vs.cell (i := 2) (by simp)
  have cvs3 := vs.cell (i := 3) (by simp)
  simp only [List.getD_cons_zero, List.getD_cons_succ] at cvs0 cvs1 cvs2 cvs3
  have ltvs := vs.lt
  go_wp2_with fail
  clear cvs0 cvs1 cvs2 cvs3 ltvs
  refine (HL.out _).mono ?_
  rintro e w2 ⟨rfl, b2⟩
  replace vs := vs.mono b2
  replace ht := ht.mono b2
  replace B := below_trans B b2
  clear b2
  have cvs0 := vs.cell (i := 0) (by simp)
  have cvs1 := vs.cell (i := 1) (by simp)
  have cvs2 := vs.cell (i := 2) (by simp)
  have cvs3 := vs.cell (i := 3) (by simp)
  simp only [List.getD_cons_zero, List.getD_cons_succ] at cvs0 cvs1 cvs2 cvs3
  have ltvs := vs.lt
  go_wp2_with fail
  clear cvs0 cvs1 cvs2 cvs3 ltvs
  rw [HE1.out]
  refine (HP.out _).mono ?_
  rintro e w3 ⟨v, rfl, hin, b3⟩
  replace vs := vs.mono b3
  replace ht := ht.mono b3
  replace B := below_trans B b3
  clear b3
  obtain ⟨ad, cap, rfl, hrd⟩ := hin
  obtain ⟨nf, hnf⟩ : ∃ n, full.length = n := ⟨_, rfl⟩
  have HNF := Lib.hid hnf
  rw [hnf]
  clear hnf
  go_upto_region 9 with (fail)
  go_region_held3 (fun w' => w'.cell? ⟨w.heap.size, 0, none⟩ = some (.int .i64 s.a) ∧ w'.cell? ⟨w.heap.size, 1, none⟩ = some (.int .i64 s.b) ∧ w'.cell? ⟨w.heap.size, 2, none⟩ = some (.int .i64 s.c) ∧ w'.cell? ⟨w.heap.size, 3, none⟩ = some (.int .i64 s.d))
    (first | exact vals4 vs | exact vals4 vs.drew)
    (first | (go_at_call 12; (with_reducible refine (one_calls _).mono ?_); rintro e y1 ⟨rfl, b5⟩; replace vs := vs.drew.mono b5; replace ht := ht.drew.mono b5; replace hrd := hrd.drewmono b5; replace B := below_trans B.drew b5; clear b5)
           | (go_at_call 11; (with_reducible refine (HC1.out _).mono ?_); rintro e y2 ⟨rfl, b5⟩; replace vs := vs.mono b5; replace ht := ht.mono b5; replace hrd := hrd.mono b5; replace B := below_trans B b5; clear b5))
  have cvs0 := vs.cell (i := 0) (by simp)
  have cvs1 := vs.cell (i := 1) (by simp)
  have cvs2 := vs.cell (i := 2) (by simp)
  have cvs3 := vs.cell (i := 3) (by simp)
  simp only [List.getD_cons_zero, List.getD_cons_succ] at cvs0 cvs1 cvs2 cvs3
  have ltvs := vs.lt
  go_wp2_with fail
  clear cvs0 cvs1 cvs2 cvs3 ltvs
  refine (HQ.out _).mono ?_
  rintro e z1 ⟨v2, rfl, hin2, bb⟩
  replace vs := vs.mono bb
  replace ht := ht.mono bb
  replace hrd := hrd.mono bb
  replace B := below_trans B bb
  clear bb
  obtain ⟨ad2, cap2, rfl, hrd2⟩ := hin2
  have hi1 : InF z1 (.slice ad full.length cap) full := ⟨_, _, rfl, hrd⟩
  have hi2 : InF z1 (.slice ad2 full.length cap2) full := ⟨_, _, rfl, hrd2⟩
  have FC2 := HFC.out _ _ _ hi1 hi2
  rw [HNF.out] at FC2 ⊢
  have HFC2 := Lib.hid FC2
  clear FC2 hi1 hi2 hrd hrd2
  go_wp2_with fail
  refine (HFC2.out).mono ?_
  rintro e z2 ⟨rfl, bb⟩
  replace vs := vs.mono bb
  replace ht := ht.mono bb
  replace B := below_trans B bb
  clear bb
  go_wp2_with fail
  refine (lives_calls _ ht).mono ?_
  rintro e w4 ⟨rfl, b4⟩
  replace vs := vs.mono b4
  replace ht := ht.mono b4
  replace B := below_trans B b4
  clear b4
  go_wp2
  go_ret
  exact ⟨rfl, B⟩

set_option maxRecDepth 100000 in
set_option maxHeartbeats 1000000 in
theorem walk_tdivides (s : T4) (m : Int) (w : World) (hS : i64 s.a ∧ i64 s.b ∧ i64 s.c ∧ i64 s.d) (hM : i64 m) (ht : Tab w)  :
    Calls Tryd.prog 5 #[.agg #[.int .i64 s.a, .int .i64 s.b, .int .i64 s.c, .int .i64 s.d], .int .i64 m] w (RetTrue w) := by
  cases h1 : validB s.a s.b s.c s.d
  · exact tdivides_bad s m w hS hM ht h1
  by_cases h2 : 1 ≤ m
  case neg => exact tdivides_lo s m w hS hM ht h1 (by omega)
  by_cases h3 : m ≤ 1024
  case neg => exact tdivides_hi s m w hS hM ht h1 (by omega)
  by_cases g : -24 ≤ s.a ∧ s.a ≤ 24 ∧ -24 ≤ s.b ∧ s.b ≤ 24 ∧ -24 ≤ s.c ∧ s.c ≤ 24
  case neg => exact tdivides_large s m w hS hM ht h1 h2 h3 g
  rcases lg_cases s 0 1 with a | a | a
  · exact tdivides_r1 s m w hS hM ht h1 h2 h3 g a
  · exact tdivides_r0 s m w hS hM ht h1 h2 h3 g a
  · exact tdivides_ok s m w hS hM ht h1 h2 h3 g a

end Go.Proofs
