/- The walk of ToneNear: whatever comes in, it returns true and changes nothing that was there. -/
import Derived.Test.YtnogieknjcbchaaDoorTRef
import Derived.Test.YtnogieknjcbchaaDoorTone8
import Derived.Test.YtnogieknjcbchaaDoorTNear
import Derived.Deep.RegionHeld3
import Derived.Deep.QuietTactic
import Derived.BigQuiet
import Derived.Deep.Cut
open Go.RowKit Go.Deep
namespace Go.Proofs
set_option linter.unusedVariables false
set_option linter.unusedSimpArgs false

set_option maxRecDepth 100000 in
set_option maxHeartbeats 2000000 in
theorem near_bad (s : T4) (m on od : Int) (w : World) (hS : i64 s.a ∧ i64 s.b ∧ i64 s.c ∧ i64 s.d) (hM : i64 m) (hN : i64 on) (hD : i64 od) (ht : Tab w) (h1 : validB s.a s.b s.c s.d = false) :
    Calls Tryd.prog 6 #[.agg #[.int .i64 s.a, .int .i64 s.b, .int .i64 s.c, .int .i64 s.d], .int .i64 m, .agg #[.int .i64 on, .int .i64 od]] w (RetTrue w) := by
  have V := fun w : World => rvalid_calls s w hS
  rw [h1] at V
  have HV := Lib.hid V
  clear V
  clear hS hM h1
  have vs := Vals.newL w (w.heap.size) [.int .i64 s.a, .int .i64 s.b, .int .i64 s.c, .int .i64 s.d] 23 rfl
  have bb := below_alloc w (.cells #[.int .i64 s.a, .int .i64 s.b, .int .i64 s.c, .int .i64 s.d] 23)
  have B := bb
  have sz0 := World.size_alloc w (.cells #[.int .i64 s.a, .int .i64 s.b, .int .i64 s.c, .int .i64 s.d] 23)
  have sz := sz0
  clear sz0
  clear bb
  have vo := Vals.newL (w.alloc (.cells #[.int .i64 s.a, .int .i64 s.b, .int .i64 s.c, .int .i64 s.d] 23)) (w.heap.size + 1) [.int .i64 on, .int .i64 od] 29 sz.symm
  have bb := below_alloc (w.alloc (.cells #[.int .i64 s.a, .int .i64 s.b, .int .i64 s.c, .int .i64 s.d] 23)) (.cells #[.int .i64 on, .int .i64 od] 29)
  replace vs := vs.mono bb
  replace B := below_trans B bb
  clear sz
  have bb0 := B
  clear bb
  go_enter Tryd.func6, Tryd.ntmps6
  go_wp2_with fail
  generalize ((w.alloc (.cells #[.int .i64 s.a, .int .i64 s.b, .int .i64 s.c, .int .i64 s.d] 23)).alloc (.cells #[.int .i64 on, .int .i64 od] 29)) = w0 at *
  replace ht := ht.mono bb0
  clear bb0
  refine (HV.out _).mono ?_
  rintro e w1 ⟨rfl, b1⟩
  replace vs := vs.mono b1
  replace vo := vo.mono b1
  replace ht := ht.mono b1
  replace B := below_trans B b1
  clear b1
  go_wp2_with fail
  refine (lives_calls _ ht).mono ?_
  rintro e w2 ⟨rfl, b2⟩
  replace vs := vs.mono b2
  replace vo := vo.mono b2
  replace ht := ht.mono b2
  replace B := below_trans B b2
  clear b2
  go_wp2
  go_ret
  exact ⟨rfl, B⟩

set_option maxRecDepth 100000 in
set_option maxHeartbeats 2000000 in
theorem near_large (s : T4) (m on od : Int) (w : World) (hS : i64 s.a ∧ i64 s.b ∧ i64 s.c ∧ i64 s.d) (hM : i64 m) (hN : i64 on) (hD : i64 od) (ht : Tab w) (h1 : validB s.a s.b s.c s.d = true) (g : ¬ (-16 ≤ s.a ∧ s.a ≤ 16 ∧ -16 ≤ s.b ∧ s.b ≤ 16 ∧ -16 ≤ s.c ∧ s.c ≤ 16)) :
    Calls Tryd.prog 6 #[.agg #[.int .i64 s.a, .int .i64 s.b, .int .i64 s.c, .int .i64 s.d], .int .i64 m, .agg #[.int .i64 on, .int .i64 od]] w (RetTrue w) := by
  have V := fun w : World => rvalid_calls s w hS
  rw [h1] at V
  have L := fun w : World => large_yes s 16 w (by omega) (by omega) g
  have HV := Lib.hid V
  have HL := Lib.hid L
  clear V L
  clear hS hM h1 g
  have vs := Vals.newL w (w.heap.size) [.int .i64 s.a, .int .i64 s.b, .int .i64 s.c, .int .i64 s.d] 23 rfl
  have bb := below_alloc w (.cells #[.int .i64 s.a, .int .i64 s.b, .int .i64 s.c, .int .i64 s.d] 23)
  have B := bb
  have sz0 := World.size_alloc w (.cells #[.int .i64 s.a, .int .i64 s.b, .int .i64 s.c, .int .i64 s.d] 23)
  have sz := sz0
  clear sz0
  clear bb
  have vo := Vals.newL (w.alloc (.cells #[.int .i64 s.a, .int .i64 s.b, .int .i64 s.c, .int .i64 s.d] 23)) (w.heap.size + 1) [.int .i64 on, .int .i64 od] 29 sz.symm
  have bb := below_alloc (w.alloc (.cells #[.int .i64 s.a, .int .i64 s.b, .int .i64 s.c, .int .i64 s.d] 23)) (.cells #[.int .i64 on, .int .i64 od] 29)
  replace vs := vs.mono bb
  replace B := below_trans B bb
  clear sz
  have bb0 := B
  clear bb
  go_enter Tryd.func6, Tryd.ntmps6
  go_wp2_with fail
  generalize ((w.alloc (.cells #[.int .i64 s.a, .int .i64 s.b, .int .i64 s.c, .int .i64 s.d] 23)).alloc (.cells #[.int .i64 on, .int .i64 od] 29)) = w0 at *
  replace ht := ht.mono bb0
  clear bb0
  refine (HV.out _).mono ?_
  rintro e w1 ⟨rfl, b1⟩
  replace vs := vs.mono b1
  replace vo := vo.mono b1
  replace ht := ht.mono b1
  replace B := below_trans B b1
  clear b1
  have cvs0 := vs.cell (i := 0) (by simp)
  have cvs1 := vs.cell (i := 1) (by simp)
  have cvs2 := vs.cell (i := 2) (by simp)
  have cvs3 := vs.cell (i := 3) (by simp)
  simp only [List.getD_cons_zero, List.getD_cons_succ] at cvs0 cvs1 cvs2 cvs3
  have ltvs := vs.lt
  go_wp2_with fail
  clear cvs0 cvs1 cvs2 cvs3 ltvs
  refine (HL.out _).mono ?_
  rintro e w2 ⟨rfl, b2⟩
  replace vs := vs.mono b2
  replace vo := vo.mono b2
  replace ht := ht.mono b2
  replace B := below_trans B b2
  clear b2
  go_wp2_with fail
  refine (lives_calls _ ht).mono ?_
  rintro e w3 ⟨rfl, b3⟩
  replace vs := vs.mono b3
  replace vo := vo.mono b3
  replace ht := ht.mono b3
  replace B := below_trans B b3
  clear b3
  go_wp2
  go_ret
  exact ⟨rfl, B⟩

set_option maxRecDepth 100000 in
set_option maxHeartbeats 2000000 in
theorem near_r0 (s : T4) (m on od : Int) (w : World) (hS : i64 s.a ∧ i64 s.b ∧ i64 s.c ∧ i64 s.d) (hM : i64 m) (hN : i64 on) (hD : i64 od) (ht : Tab w) (h1 : validB s.a s.b s.c s.d = true) (g : -16 ≤ s.a ∧ s.a ≤ 16 ∧ -16 ≤ s.b ∧ s.b ≤ 16 ∧ -16 ≤ s.c ∧ s.c ≤ 16) (k1 : lg s 0 1 = 0) :
    Calls Tryd.prog 6 #[.agg #[.int .i64 s.a, .int .i64 s.b, .int .i64 s.c, .int .i64 s.d], .int .i64 m, .agg #[.int .i64 on, .int .i64 od]] w (RetTrue w) := by
  have V := fun w : World => rvalid_calls s w hS
  rw [h1] at V
  have L := fun w : World => large_no s 16 w (by omega) (by omega) g
  obtain ⟨k, hk, hand⟩ := and_31 m hM.1 (by have := hM.2; omega)
  have P := fun w : World => divisions_r0 s ((k : Int) + 1) w h1 (by omega) (by omega) k1
  clear k1
  have HV := Lib.hid V
  have HL := Lib.hid L
  have HP := Lib.hid P
  clear V L P
  clear hS hM h1 g
  have vs := Vals.newL w (w.heap.size) [.int .i64 s.a, .int .i64 s.b, .int .i64 s.c, .int .i64 s.d] 23 rfl
  have bb := below_alloc w (.cells #[.int .i64 s.a, .int .i64 s.b, .int .i64 s.c, .int .i64 s.d] 23)
  have B := bb
  have sz0 := World.size_alloc w (.cells #[.int .i64 s.a, .int .i64 s.b, .int .i64 s.c, .int .i64 s.d] 23)
  have sz := sz0
  clear sz0
  clear bb
  have vo := Vals.newL (w.alloc (.cells #[.int .i64 s.a, .int .i64 s.b, .int .i64 s.c, .int .i64 s.d] 23)) (w.heap.size + 1) [.int .i64 on, .int .i64 od] 29 sz.symm
  have bb := below_alloc (w.alloc (.cells #[.int .i64 s.a, .int .i64 s.b, .int .i64 s.c, .int .i64 s.d] 23)) (.cells #[.int .i64 on, .int .i64 od] 29)
  replace vs := vs.mono bb
  replace B := below_trans B bb
  clear sz
  have bb0 := B
  clear bb
  go_enter Tryd.func6, Tryd.ntmps6
  go_wp2_with fail
  generalize ((w.alloc (.cells #[.int .i64 s.a, .int .i64 s.b, .int .i64 s.c, .int .i64 s.d] 23)).alloc (.cells #[.int .i64 on, .int .i64 od] 29)) = w0 at *
  replace ht := ht.mono bb0
  clear bb0
  refine (HV.out _).mono ?_
  rintro e w1 ⟨rfl, b1⟩
  replace vs := vs.mono b1
  replace vo := vo.mono b1
  replace ht := ht.mono b1
  replace B := below_trans B b1
  clear b1
  have cvs0 := vs.cell (i := 0) (by simp)
  have cvs1 := vs.cell (i := 1) (by simp)
  have cvs2 := vs.cell (i := 2) (by simp)
  have cvs3 := vs.cell (i := 3) (by simp)
  simp only [List.getD_cons_zero, List.getD_cons_succ] at cvs0 cvs1 cvs2 cvs3
  have ltvs := vs.lt
  go_wp2_with fail
  clear cvs0 cvs1 cvs2 cvs3 ltvs
  refine (HL.out _).mono ?_
  rintro e w2 ⟨rfl, b2⟩
  replace vs := vs.mono b2
  replace vo := vo.mono b2
  replace ht := ht.mono b2
  replace B := below_trans B b2
  clear b2
  have cvs0 := vs.cell (i := 0) (by simp)
  have cvs1 := vs.cell (i := 1) (by simp)
  have cvs2 := vs.cell (i := 2) (by simp)
  have cvs3 := vs.cell (i := 3) (by simp)
  simp only [List.getD_cons_zero, List.getD_cons_succ] at cvs0 cvs1 cvs2 cvs3
  have ltvs := vs.lt
  go_wp2_with fail
  clear cvs0 cvs1 cvs2 cvs3 ltvs
  refine (HP.out _).mono ?_
  rintro e w3 ⟨v, rfl, hin, b3⟩
  replace vs := vs.mono b3
  replace vo := vo.mono b3
  replace ht := ht.mono b3
  replace B := below_trans B b3
  clear b3
  obtain ⟨ad, cap, rfl, hrd⟩ := hin
  clear hrd
  rw [List.length_nil]
  go_wp2_with fail
  refine (lives_calls _ ht).mono ?_
  rintro e w4 ⟨rfl, b4⟩
  replace vs := vs.mono b4
  replace vo := vo.mono b4
  replace ht := ht.mono b4
  replace B := below_trans B b4
  clear b4
  go_wp2
  go_ret
  exact ⟨rfl, B⟩

set_option maxRecDepth 100000 in
set_option maxHeartbeats 2000000 in
theorem near_r1 (s : T4) (m on od : Int) (w : World) (hS : i64 s.a ∧ i64 s.b ∧ i64 s.c ∧ i64 s.d) (hM : i64 m) (hN : i64 on) (hD : i64 od) (ht : Tab w) (h1 : validB s.a s.b s.c s.d = true) (g : -16 ≤ s.a ∧ s.a ≤ 16 ∧ -16 ≤ s.b ∧ s.b ≤ 16 ∧ -16 ≤ s.c ∧ s.c ≤ 16) (k1 : lg s 0 1 = -1) :
    Calls Tryd.prog 6 #[.agg #[.int .i64 s.a, .int .i64 s.b, .int .i64 s.c, .int .i64 s.d], .int .i64 m, .agg #[.int .i64 on, .int .i64 od]] w (RetTrue w) := by
  have V := fun w : World => rvalid_calls s w hS
  rw [h1] at V
  have L := fun w : World => large_no s 16 w (by omega) (by omega) g
  obtain ⟨k, hk, hand⟩ := and_31 m hM.1 (by have := hM.2; omega)
  have P := fun w : World => divisions_r1 s ((k : Int) + 1) w h1 (by omega) (by omega) k1
  clear k1
  have HV := Lib.hid V
  have HL := Lib.hid L
  have HP := Lib.hid P
  clear V L P
  clear hS hM h1 g
  have vs := Vals.newL w (w.heap.size) [.int .i64 s.a, .int .i64 s.b, .int .i64 s.c, .int .i64 s.d] 23 rfl
  have bb := below_alloc w (.cells #[.int .i64 s.a, .int .i64 s.b, .int .i64 s.c, .int .i64 s.d] 23)
  have B := bb
  have sz0 := World.size_alloc w (.cells #[.int .i64 s.a, .int .i64 s.b, .int .i64 s.c, .int .i64 s.d] 23)
  have sz := sz0
  clear sz0
  clear bb
  have vo := Vals.newL (w.alloc (.cells #[.int .i64 s.a, .int .i64 s.b, .int .i64 s.c, .int .i64 s.d] 23)) (w.heap.size + 1) [.int .i64 on, .int .i64 od] 29 sz.symm
  have bb := below_alloc (w.alloc (.cells #[.int .i64 s.a, .int .i64 s.b, .int .i64 s.c, .int .i64 s.d] 23)) (.cells #[.int .i64 on, .int .i64 od] 29)
  replace vs := vs.mono bb
  replace B := below_trans B bb
  clear sz
  have bb0 := B
  clear bb
  go_enter Tryd.func6, Tryd.ntmps6
  go_wp2_with fail
  generalize ((w.alloc (.cells #[.int .i64 s.a, .int .i64 s.b, .int .i64 s.c, .int .i64 s.d] 23)).alloc (.cells #[.int .i64 on, .int .i64 od] 29)) = w0 at *
  replace ht := ht.mono bb0
  clear bb0
  refine (HV.out _).mono ?_
  rintro e w1 ⟨rfl, b1⟩
  replace vs := vs.mono b1
  replace vo := vo.mono b1
  replace ht := ht.mono b1
  replace B := below_trans B b1
  clear b1
  have cvs0 := vs.cell (i := 0) (by simp)
  have cvs1 := vs.cell (i := 1) (by simp)
  have cvs2 := vs.cell (i := 2) (by simp)
  have cvs3 := vs.cell (i := 3) (by simp)
  simp only [List.getD_cons_zero, List.getD_cons_succ] at cvs0 cvs1 cvs2 cvs3
  have ltvs := vs.lt
  go_wp2_with fail
  clear cvs0 cvs1 cvs2 cvs3 ltvs
  refine (HL.out _).mono ?_
  rintro e w2 ⟨rfl, b2⟩
  replace vs := vs.mono b2
  replace vo := vo.mono b2
  replace ht := ht.mono b2
  replace B := below_trans B b2
  clear b2
  have cvs0 := vs.cell (i := 0) (by simp)
  have cvs1 := vs.cell (i := 1) (by simp)
  have cvs2 := vs.cell (i := 2) (by simp)
  have cvs3 := vs.cell (i := 3) (by simp)
  simp only [List.getD_cons_zero, List.getD_cons_succ] at cvs0 cvs1 cvs2 cvs3
  have ltvs := vs.lt
  go_wp2_with fail
  clear cvs0 cvs1 cvs2 cvs3 ltvs
  refine (HP.out _).mono ?_
  rintro e w3 ⟨v, rfl, hin, b3⟩
  replace vs := vs.mono b3
  replace vo := vo.mono b3
  replace ht := ht.mono b3
  replace B := below_trans B b3
  clear b3
  obtain ⟨ad, cap, rfl, hrd⟩ := hin
  clear hrd
  rw [List.length_nil]
  go_wp2_with fail
  refine (lives_calls _ ht).mono ?_
  rintro e w4 ⟨rfl, b4⟩
  replace vs := vs.mono b4
  replace vo := vo.mono b4
  replace ht := ht.mono b4
  replace B := below_trans B b4
  clear b4
  go_wp2
  go_ret
  exact ⟨rfl, B⟩

set_option maxRecDepth 100000 in
set_option maxHeartbeats 2000000 in
theorem near_ok (s : T4) (m on od : Int) (w : World) (hS : i64 s.a ∧ i64 s.b ∧ i64 s.c ∧ i64 s.d) (hM : i64 m) (hN : i64 on) (hD : i64 od) (ht : Tab w) (h1 : validB s.a s.b s.c s.d = true) (g : -16 ≤ s.a ∧ s.a ≤ 16 ∧ -16 ≤ s.b ∧ s.b ≤ 16 ∧ -16 ≤ s.c ∧ s.c ≤ 16) (k1 : lg s 0 1 = 1) :
    Calls Tryd.prog 6 #[.agg #[.int .i64 s.a, .int .i64 s.b, .int .i64 s.c, .int .i64 s.d], .int .i64 m, .agg #[.int .i64 on, .int .i64 od]] w (RetTrue w) := by
  have V := fun w : World => rvalid_calls s w hS
  rw [h1] at V
  have L := fun w : World => large_no s 16 w (by omega) (by omega) g
  obtain ⟨k, hk, hand⟩ := and_31 m hM.1 (by have := hM.2; omega)
  have hE : s.a.natAbs ≤ 16 ∧ s.b.natAbs ≤ 16 ∧ s.c.natAbs ≤ 16 := by omega
  have hE2 : s.a.natAbs ≤ 24 ∧ s.b.natAbs ≤ 24 ∧ s.c.natAbs ≤ 24 := by omega
  have hd := (validB_parts h1).2.1
  have hd2 := (validB_parts h1).2.2.1
  have hO : octT s ≤ 80 := octT_le hd 16 hE.1 hE.2.1 hE.2.2
  have h01 : 0 < lg s 0 1 := by omega
  have ho0 : 0 ≤ octT s := (oct_lg hd 0).2 (by omega)
  obtain ⟨most, hmost⟩ : ∃ most, (k : Int) + 1 = most := ⟨_, rfl⟩
  have hm1 : 1 ≤ most := by omega
  have hm2 : most ≤ 32 := by omega
  obtain ⟨L0, hL⟩ := fracs_exist (s := s) hd hm1 h01
  obtain ⟨full, hf⟩ : ∃ full, full = (octT s, 1) :: L0 := ⟨_, rfl⟩
  have P := fun w : World => divisions_main s most w full L0 h1 hE2 hm1 (by omega) k1 hf hL
  have NF := near_facts hd hO ⟨hm1, hm2⟩ h01 hf hL
  have LG := fun (n d : Int) (w : World) (hd : 1 ≤ d ∧ d ≤ 1200) (hn : n.natAbs ≤ 2000000) => rlog_calls s n d (lg s n d) w h1 hd hn (logI_lg s n d)
  have FA := fun (p q x y : Int) (w : World) (hp : p.natAbs ≤ 3000) (hq : 1 ≤ q ∧ q ≤ 32) (hx : 0 ≤ x ∧ x ≤ 81 * y) (hy : 1 ≤ y ∧ y ≤ 32) (hne : p * y ≠ x * q) (g1 : x * q < p * y → lg s (p * y + x * q) (2 * q * y) < 0) (g2 : p * y < x * q → 0 < lg s (p * y + x * q) (2 * q * y)) => farther_calls s p q x y w h1 hp hq hx hy hE hne g1 g2
  have hlen := full_length hd h01 ⟨hm1, by omega⟩ hf hL
  have hl1 : 0 < full.length := by rw [hf]; simp
  have hfst : full.getD 0 (0, 0) = (octT s, 1) := by rw [hf]; rfl
  obtain ⟨E, hEq⟩ : ∃ E, octT s = E := ⟨_, rfl⟩
  rw [hEq] at hO ho0 hfst
  obtain ⟨q, hq, hqand⟩ := and_31 od hD.1 (by have := hD.2; omega)
  have HMO := Lib.hid hmost
  have HFST := Lib.hid hfst
  clear hE hE2 hd hd2 h01 hf hL hEq k1 hmost hfst
  have HV := Lib.hid V
  have HL := Lib.hid L
  have HP := Lib.hid P
  have HNF := Lib.hid NF
  have HLG := Lib.hid LG
  have HFA := Lib.hid FA
  clear V L P NF LG FA
  clear hS hM h1 g
  have vs := Vals.newL w (w.heap.size) [.int .i64 s.a, .int .i64 s.b, .int .i64 s.c, .int .i64 s.d] 23 rfl
  have bb := below_alloc w (.cells #[.int .i64 s.a, .int .i64 s.b, .int .i64 s.c, .int .i64 s.d] 23)
  have B := bb
  have sz0 := World.size_alloc w (.cells #[.int .i64 s.a, .int .i64 s.b, .int .i64 s.c, .int .i64 s.d] 23)
  have sz := sz0
  clear sz0
  clear bb
  have vo := Vals.newL (w.alloc (.cells #[.int .i64 s.a, .int .i64 s.b, .int .i64 s.c, .int .i64 s.d] 23)) (w.heap.size + 1) [.int .i64 on, .int .i64 od] 29 sz.symm
  have bb := below_alloc (w.alloc (.cells #[.int .i64 s.a, .int .i64 s.b, .int .i64 s.c, .int .i64 s.d] 23)) (.cells #[.int .i64 on, .int .i64 od] 29)
  replace vs := vs.mono bb
  replace B := below_trans B bb
  clear sz
  have bb0 := B
  clear bb
  go_enter Tryd.func6, Tryd.ntmps6
  go_wp2_with fail
  generalize ((w.alloc (.cells #[.int .i64 s.a, .int .i64 s.b, .int .i64 s.c, .int .i64 s.d] 23)).alloc (.cells #[.int .i64 on, .int .i64 od] 29)) = w0 at *
  replace ht := ht.mono bb0
  clear bb0
  refine (HV.out _).mono ?_
  rintro e w1 ⟨rfl, b1⟩
  replace vs := vs.mono b1
  replace vo := vo.mono b1
  replace ht := ht.mono b1
  replace B := below_trans B b1
  clear b1
  have cvs0 := vs.cell (i := 0) (by simp)
  have cvs1 := vs.cell (i := 1) (by simp)
  have cvs2 := vs.cell (i := 2) (by simp)
  have cvs3 := vs.cell (i := 3) (by simp)
  simp only [List.getD_cons_zero, List.getD_cons_succ] at cvs0 cvs1 cvs2 cvs3
  have ltvs := vs.lt
  go_wp2_with fail
  clear cvs0 cvs1 cvs2 cvs3 ltvs
  refine (HL.out _).mono ?_
  rintro e w2 ⟨rfl, b2⟩
  replace vs := vs.mono b2
  replace vo := vo.mono b2
  replace ht := ht.mono b2
  replace B := below_trans B b2
  clear b2
  have cvs0 := vs.cell (i := 0) (by simp)
  have cvs1 := vs.cell (i := 1) (by simp)
  have cvs2 := vs.cell (i := 2) (by simp)
  have cvs3 := vs.cell (i := 3) (by simp)
  simp only [List.getD_cons_zero, List.getD_cons_succ] at cvs0 cvs1 cvs2 cvs3
  have ltvs := vs.lt
  go_wp2_with fail
  clear cvs0 cvs1 cvs2 cvs3 ltvs
  rw [HMO.out]
  refine (HP.out _).mono ?_
  rintro e w3 ⟨v, rfl, hin, b3⟩
  replace vs := vs.mono b3
  replace vo := vo.mono b3
  replace ht := ht.mono b3
  replace B := below_trans B b3
  clear b3
  obtain ⟨ad, cap, rfl, hrd⟩ := hin
  obtain ⟨g, rfl⟩ := hrd.some hl1
  obtain ⟨nf, hnf⟩ : ∃ n, full.length = n := ⟨_, rfl⟩
  have hrd0 := hrd.at 0 hl1
  rw [HFST.out] at hrd0
  obtain ⟨ce0, ce1⟩ := hrd0
  rw [hnf] at hl1 hlen ⊢
  have HNF2 := Lib.hid hnf
  clear hnf
  dsimp only at ce0 ce1
  rw [Nat.zero_mul] at ce0 ce1
  clear ce0
  have tz : ((nf : Int) == 0) = false := by rw [beq_eq_false_iff_ne]; omega
  go_wp2_with fail
  clear ce1
  refine (lives_calls _ ht).mono ?_
  rintro e w4 ⟨rfl, b4⟩
  replace vs := vs.mono b4
  replace vo := vo.mono b4
  replace ht := ht.mono b4
  replace hrd := hrd.mono b4
  replace B := below_trans B b4
  clear b4
  go_wp2
  clear ht HP HL HV
  go_loopw [9] (fun iv wr => ∃ i : Nat, iv = .int .i64 (i : Int) ∧ i ≤ nf ∧ Below w.heap.size w wr ∧ Vals wr w.heap.size [.int .i64 s.a, .int .i64 s.b, .int .i64 s.c, .int .i64 s.d] ∧ Vals wr (w.heap.size + 1) [.int .i64 on, .int .i64 od] ∧ RdF wr (some ⟨g, 0, none⟩) full)
    (fun iv _ => nf - (intOf iv).toNat)
  case atStart => exact ⟨0, rfl, Nat.zero_le _, B, vs, vo, hrd⟩
  case round =>
    clear B vs vo hrd
    obtain ⟨i, rfl, hi, B, vs, vo, hrd⟩ := hrel
    by_cases hlt : i < nf
    case neg =>
      obtain rfl : i = nf := by omega
      go_wp2
      go_ret
      exact ⟨rfl, B⟩
    obtain ⟨x, hx⟩ : ∃ x, (full.getD i (0, 0)).1 = x := ⟨_, rfl⟩
    obtain ⟨y, hy⟩ : ∃ y, (full.getD i (0, 0)).2 = y := ⟨_, rfl⟩
    have hif : i < full.length := by rw [HNF2.out]; exact hlt
    obtain ⟨y1, y2, x0, x1, y0, prev⟩ := HNF.out i hif x y hx hy
    obtain ⟨ci0, ci1⟩ := hrd.at i hif
    rw [hx] at ci0
    rw [hy] at ci1
    clear hx hy
    have HPREV := Lib.hid prev
    have HY0 := Lib.hid y0
    clear prev y0
    go_upto_region 13 with (fail)
    clear ci0 ci1
    have vc := Vals.newL wr wr.heap.size [.int .i64 x, .int .i64 y] 29 rfl
    have bb := below_alloc wr (.cells #[.int .i64 x, .int .i64 y] 29)
    have hg1 : w.heap.size + 1 < wr.heap.size := vo.lt
    replace vs := vs.mono bb
    replace vo := vo.mono bb
    replace hrd := hrd.mono bb
    replace B := below_trans B bb
    clear bb
    generalize wr.alloc (.cells #[.int .i64 x, .int .i64 y] 29) = W0 at *
    generalize wr.heap.size = b10 at *
    have d1 : ¬ y < 1 := by omega
    have d2 : ¬ most < y := by omega
    have d3 : ¬ x < 0 := by omega
    have k100 : wrap64 (100 * y) = 100 * y := wrap64_small (by omega)
    have d4 : ¬ 100 * y < x := by omega
    have cvc0 := vc.cell (i := 0) (by simp)
    have cvc1 := vc.cell (i := 1) (by simp)
    simp only [List.getD_cons_zero, List.getD_cons_succ] at cvc0 cvc1
    have ltvc := vc.lt
    go_upto_if 86 with (fail)
    clear cvc0 cvc1 ltvc
    clear d1 d2 d3 d4 k100
    go_cut [11] from 85 to 135 (fun _ wx => Below W0.heap.size W0 wx)
    case first =>
      by_cases h0 : i = 0
      · have hi0 : ¬ 0 < i := by omega
        clear h0
        go_wp2
        go_meet
        exact Below.refl _ _
      obtain ⟨j, hj⟩ : ∃ j, i = j + 1 := ⟨i - 1, by omega⟩
      obtain ⟨x', y', hx', hy', b1, b2, b3, b4, det, sgs, _⟩ := HPREV.out j hj
      have jf : j < full.length := by rw [HNF2.out]; omega
      obtain ⟨cj0, cj1⟩ := hrd.at j jf
      rw [hx'] at cj0
      rw [hy'] at cj1
      have HX := Lib.hid hx'
      have HY := Lib.hid hy'
      clear hx' hy' HPREV HY0
      have LG1 := HLG.out x' y'
      have LG2 := HLG.out x y
      have c1 := lg_cases s x' y'
      have c2 := lg_cases s x y
      generalize lg s x' y' = z1 at *
      generalize lg s x y = z2 at *
      have HLG1 := Lib.hid (fun w : World => LG1 w ⟨b1, by omega⟩ (by omega))
      have HLG2 := Lib.hid (fun w : World => LG2 w ⟨y1, by omega⟩ (by omega))
      clear LG1 LG2
      have m1 : (x * y').natAbs ≤ 2592 * 32 := near_mul (by omega) (by omega)
      have m2 : (x' * y).natAbs ≤ 2592 * 32 := near_mul (by omega) (by omega)
      have hzz : (z1 * z2).natAbs ≤ 1 * 1 := near_mul (by omega) (by omega)
      have w1 : wrap64 (x * y') = x * y' := wrap64_small (by omega)
      have w2 : wrap64 (x' * y) = x' * y := wrap64_small (by omega)
      have w3 : wrap64 (x * y' - x' * y) = x * y' - x' * y := wrap64_small (by omega)
      have w4 : IntKind.i64.wrap ((i : Int) - 1) = (j : Int) := by rw [show (i : Int) - 1 = (j : Int) by omega]; exact IntWalk.i64_in _ (by omega)
      have w5 : IntKind.i64.wrap (z1 * z2) = z1 * z2 := IntWalk.i64_in _ (by omega)
      have d5 : decide (0 < z1 * z2) = false := decide_eq_false (by omega)
      have hi0 : 0 < i := by omega
      obtain ⟨dd, hdd⟩ : ∃ dd, x * y' - x' * y = dd := ⟨_, rfl⟩
      rw [hdd] at w3 det
      have HDD := Lib.hid hdd
      have W1 := Lib.hid w1
      have W2 := Lib.hid w2
      have W3 := Lib.hid w3
      clear m1 m2 hzz hdd sgs c1 c2 w1 w2 w3
      have jl : j < nf := by omega
      have jl1 : (0 : Int) ≤ (j : Int) := by omega
      have jl2 : (j : Int) < (nf : Int) := by omega
      have jl3 : (0 : Int) ≤ (i : Int) - 1 := by omega
      have jl4 : (i : Int) - 1 < (nf : Int) := by omega
      have jl5 : ((i : Int) - 1).toNat = j := by omega
      have w4' : wrap64 ((i : Int) - 1) = (j : Int) := by rw [show (i : Int) - 1 = (j : Int) by omega]; exact wrap64_small (by omega)
      have HJ := Lib.hid hj
      clear hj
      have cvc0 := vc.cell (i := 0) (by simp)
      have cvc1 := vc.cell (i := 1) (by simp)
      simp only [List.getD_cons_zero, List.getD_cons_succ] at cvc0 cvc1
      have ltvc := vc.lt
      go_upto_region 16 with (fail)
      go_quiet (fail)
      clear cvc0 cvc1 ltvc
      clear cj0 cj1
      try rw [W1.out]
      try rw [W2.out]
      rw [HDD.out, W3.out]
      clear W1 W2 W3 HDD
      replace vs := vs.drewN nq
      replace vo := vo.drewN nq
      replace hrd := hrd.drewN nq
      replace vc := vc.drewN nq
      have BC := below_drewN (Below.refl W0.heap.size W0) nq
      replace B := below_drewN B nq
      generalize hW1 : W0.drewN nq = W1 at *
      clear hW1
      rcases det with rfl | rfl
      · skip
        go_wp2
        refine wp_region_held_drew (S := fun w' => w'.cell? ⟨w.heap.size, 0, none⟩ = some (.int .i64 s.a) ∧ w'.cell? ⟨w.heap.size, 1, none⟩ = some (.int .i64 s.b) ∧ w'.cell? ⟨w.heap.size, 2, none⟩ = some (.int .i64 s.c) ∧ w'.cell? ⟨w.heap.size, 3, none⟩ = some (.int .i64 s.d) ∧ w'.cell? ⟨g, j * 2, none⟩ = some (.int .i64 x') ∧ w'.cell? ⟨g, j * 2 + 1, none⟩ = some (.int .i64 y') ∧ w'.cell? ⟨b10, 0, none⟩ = some (.int .i64 x) ∧ w'.cell? ⟨b10, 1, none⟩ = some (.int .i64 y)) (by kernel_rfl) ?_ (fun hHeld => ?_)
        · exact near_cells vs.drew (RdF.at2 (w := W1.drew) hrd jf HX.out HY.out) vc.drew
        refine wpAnyH_take (i := 0) (v := ?v0) rfl (by kernel_rfl) (by kernel_rfl) (by kernel_rfl) (fun _ _ _ h => h) (Or.inl ⟨by rfl, ?hy0⟩) (by assumption) ?_
        case hy0 => (intro w hSw; (try dsimp only at hSw); (go_simp) <;> (with_reducible rfl))
        try simp only [Act.put, List.getElem_toArray, List.getElem_cons_zero, List.getElem_cons_succ, List.setIfInBounds_toArray, List.set_cons_zero, List.set_cons_succ]
        refine wpAnyH_take (i := 1) (v := ?v1) rfl (by kernel_rfl) (by kernel_rfl) (by kernel_rfl) (fun _ _ _ h => h) (Or.inl ⟨by rfl, ?hy1⟩) (by assumption) ?_
        case hy1 => (intro w hSw; (try dsimp only at hSw); (go_simp) <;> (with_reducible rfl))
        try simp only [Act.put, List.getElem_toArray, List.getElem_cons_zero, List.getElem_cons_succ, List.setIfInBounds_toArray, List.set_cons_zero, List.set_cons_succ]
        refine wpAnyH_take (i := 2) (v := ?v2) rfl (by kernel_rfl) (by kernel_rfl) (by kernel_rfl) (fun _ _ _ h => h) (Or.inl ⟨by rfl, ?hy2⟩) (by assumption) ?_
        case hy2 => (intro w hSw; (try dsimp only at hSw); (go_simp) <;> (with_reducible rfl))
        try simp only [Act.put, List.getElem_toArray, List.getElem_cons_zero, List.getElem_cons_succ, List.setIfInBounds_toArray, List.set_cons_zero, List.set_cons_succ]
        refine wpAnyH_take (i := 3) (v := undef) rfl (by kernel_rfl) (by kernel_rfl) (by kernel_rfl) (fun _ _ _ h => h) (Or.inr ⟨by rfl, rfl⟩) (by assumption) ?_
        try simp only [Act.put, List.getElem_toArray, List.getElem_cons_zero, List.getElem_cons_succ, List.setIfInBounds_toArray, List.set_cons_zero, List.set_cons_succ]
        refine wpAnyH_take (i := 4) (v := undef) rfl (by kernel_rfl) (by kernel_rfl) (by kernel_rfl) (fun _ _ _ h => h) (Or.inr ⟨by rfl, rfl⟩) (by assumption) ?_
        try simp only [Act.put, List.getElem_toArray, List.getElem_cons_zero, List.getElem_cons_succ, List.setIfInBounds_toArray, List.set_cons_zero, List.set_cons_succ]
        refine wpAnyH_take (i := 5) (v := ?v5) rfl (by kernel_rfl) (by kernel_rfl) (by kernel_rfl) (fun _ _ _ h => h) (Or.inl ⟨by rfl, ?hy5⟩) (by assumption) ?_
        case hy5 => (intro w hSw; (try dsimp only at hSw); (go_simp) <;> (with_reducible rfl))
        try simp only [Act.put, List.getElem_toArray, List.getElem_cons_zero, List.getElem_cons_succ, List.setIfInBounds_toArray, List.set_cons_zero, List.set_cons_succ]
        refine wpAnyH_take (i := 6) (v := ?v6) rfl (by kernel_rfl) (by kernel_rfl) (by kernel_rfl) (fun _ _ _ h => h) (Or.inl ⟨by rfl, ?hy6⟩) (by assumption) ?_
        case hy6 => (intro w hSw; (try dsimp only at hSw); (go_simp) <;> (with_reducible rfl))
        try simp only [Act.put, List.getElem_toArray, List.getElem_cons_zero, List.getElem_cons_succ, List.setIfInBounds_toArray, List.set_cons_zero, List.set_cons_succ]
        refine wpAnyH_take (i := 7) (v := ?v7) rfl (by kernel_rfl) (by kernel_rfl) (by kernel_rfl) (fun _ _ _ h => h) (Or.inl ⟨by rfl, ?hy7⟩) (by assumption) ?_
        case hy7 => (intro w hSw; (try dsimp only at hSw); (go_simp) <;> (with_reducible rfl))
        try simp only [Act.put, List.getElem_toArray, List.getElem_cons_zero, List.getElem_cons_succ, List.setIfInBounds_toArray, List.set_cons_zero, List.set_cons_succ]
        refine wpAnyH_take (i := 8) (v := ?v8) rfl (by kernel_rfl) (by kernel_rfl) (by kernel_rfl) (fun _ _ _ h => h) (Or.inl ⟨by rfl, ?hy8⟩) (by assumption) ?_
        case hy8 => (intro w hSw; (try dsimp only at hSw); (go_simp) <;> (with_reducible rfl))
        try simp only [Act.put, List.getElem_toArray, List.getElem_cons_zero, List.getElem_cons_succ, List.setIfInBounds_toArray, List.set_cons_zero, List.set_cons_succ]
        refine wpAnyH_take (i := 9) (v := ?v9) rfl (by kernel_rfl) (by kernel_rfl) (by kernel_rfl) (fun _ _ _ h => h) (Or.inl ⟨by rfl, ?hy9⟩) (by assumption) ?_
        case hy9 => (intro w hSw; (try dsimp only at hSw); (go_simp) <;> (with_reducible rfl))
        try simp only [Act.put, List.getElem_toArray, List.getElem_cons_zero, List.getElem_cons_succ, List.setIfInBounds_toArray, List.set_cons_zero, List.set_cons_succ]
        refine wpAnyH_take (i := 10) (v := ?v10) rfl (by kernel_rfl) (by kernel_rfl) (by kernel_rfl) (fun _ _ _ h => h) (Or.inl ⟨by rfl, ?hy10⟩) (by assumption) ?_
        case hy10 => (intro w hSw; (try dsimp only at hSw); (go_simp) <;> (with_reducible rfl))
        try simp only [Act.put, List.getElem_toArray, List.getElem_cons_zero, List.getElem_cons_succ, List.setIfInBounds_toArray, List.set_cons_zero, List.set_cons_succ]
        refine wpAnyH_take (i := 11) (v := ?v11) rfl (by kernel_rfl) (by kernel_rfl) (by kernel_rfl) (fun _ _ _ h => h) (Or.inl ⟨by rfl, ?hy11⟩) (by assumption) ?_
        case hy11 => (intro w hSw; (try dsimp only at hSw); (go_simp) <;> (with_reducible rfl))
        try simp only [Act.put, List.getElem_toArray, List.getElem_cons_zero, List.getElem_cons_succ, List.setIfInBounds_toArray, List.set_cons_zero, List.set_cons_succ]
        refine wpAnyH_take (i := 12) (v := ?v12) rfl (by kernel_rfl) (by kernel_rfl) (by kernel_rfl) (fun _ _ _ h => h) (Or.inl ⟨by rfl, ?hy12⟩) (by assumption) ?_
        case hy12 => (intro w hSw; (try dsimp only at hSw); (go_simp) <;> (with_reducible rfl))
        try simp only [Act.put, List.getElem_toArray, List.getElem_cons_zero, List.getElem_cons_succ, List.setIfInBounds_toArray, List.set_cons_zero, List.set_cons_succ]
        refine wpAnyH_take (i := 13) (v := ?v13) rfl (by kernel_rfl) (by kernel_rfl) (by kernel_rfl) (fun _ _ _ h => h) (Or.inl ⟨by rfl, ?hy13⟩) (by assumption) ?_
        case hy13 => (intro w hSw; (try dsimp only at hSw); (go_simp) <;> (with_reducible rfl))
        try simp only [Act.put, List.getElem_toArray, List.getElem_cons_zero, List.getElem_cons_succ, List.setIfInBounds_toArray, List.set_cons_zero, List.set_cons_succ]
        refine wpAnyH_take (i := 14) (v := ?v14) rfl (by kernel_rfl) (by kernel_rfl) (by kernel_rfl) (fun _ _ _ h => h) (Or.inl ⟨by rfl, ?hy14⟩) (by assumption) ?_
        case hy14 => (intro w hSw; (try dsimp only at hSw); (go_simp) <;> (with_reducible rfl))
        try simp only [Act.put, List.getElem_toArray, List.getElem_cons_zero, List.getElem_cons_succ, List.setIfInBounds_toArray, List.set_cons_zero, List.set_cons_succ]
        refine wpAnyH_take (i := 15) (v := ?v15) rfl (by kernel_rfl) (by kernel_rfl) (by kernel_rfl) (fun _ _ _ h => h) (Or.inl ⟨by rfl, ?hy15⟩) (by assumption) ?_
        case hy15 => (intro w hSw; (try dsimp only at hSw); (go_simp) <;> (with_reducible rfl))
        try simp only [Act.put, List.getElem_toArray, List.getElem_cons_zero, List.getElem_cons_succ, List.setIfInBounds_toArray, List.set_cons_zero, List.set_cons_succ]
        refine wpAnyH_take (i := 16) (v := ?v16) rfl (by kernel_rfl) (by kernel_rfl) (by kernel_rfl) (fun _ _ _ h => h) (Or.inl ⟨by rfl, ?hy16⟩) (by assumption) ?_
        case hy16 => (intro w hSw; (try dsimp only at hSw); (go_simp) <;> (with_reducible rfl))
        try simp only [Act.put, List.getElem_toArray, List.getElem_cons_zero, List.getElem_cons_succ, List.setIfInBounds_toArray, List.set_cons_zero, List.set_cons_succ]
        refine wpAnyH_take (i := 17) (v := ?v17) rfl (by kernel_rfl) (by kernel_rfl) (by kernel_rfl) (fun _ _ _ h => h) (Or.inl ⟨by rfl, ?hy17⟩) (by assumption) ?_
        case hy17 => (intro w hSw; (try dsimp only at hSw); (go_simp) <;> (with_reducible rfl))
        try simp only [Act.put, List.getElem_toArray, List.getElem_cons_zero, List.getElem_cons_succ, List.setIfInBounds_toArray, List.set_cons_zero, List.set_cons_succ]
        refine wpAnyH_take (i := 18) (v := ?v18) rfl (by kernel_rfl) (by kernel_rfl) (by kernel_rfl) (fun _ _ _ h => h) (Or.inl ⟨by rfl, ?hy18⟩) (by assumption) ?_
        case hy18 => (intro w hSw; (try dsimp only at hSw); (go_simp) <;> (with_reducible rfl))
        try simp only [Act.put, List.getElem_toArray, List.getElem_cons_zero, List.getElem_cons_succ, List.setIfInBounds_toArray, List.set_cons_zero, List.set_cons_succ]
        refine wpAnyH_take (i := 19) (v := ?v19) rfl (by kernel_rfl) (by kernel_rfl) (by kernel_rfl) (fun _ _ _ h => h) (Or.inl ⟨by rfl, ?hy19⟩) (by assumption) ?_
        case hy19 => (intro w hSw; (try dsimp only at hSw); (go_simp) <;> (with_reducible rfl))
        try simp only [Act.put, List.getElem_toArray, List.getElem_cons_zero, List.getElem_cons_succ, List.setIfInBounds_toArray, List.set_cons_zero, List.set_cons_succ]
        refine wpAnyH_take (i := 21) (v := ?v21) rfl (by kernel_rfl) (by kernel_rfl) (by kernel_rfl) (fun _ _ _ h => h) (Or.inl ⟨by rfl, ?hy21⟩) (by assumption) ?_
        case hy21 => (intro w hSw; (try dsimp only at hSw); (go_simp) <;> (with_reducible rfl))
        try simp only [Act.put, List.getElem_toArray, List.getElem_cons_zero, List.getElem_cons_succ, List.setIfInBounds_toArray, List.set_cons_zero, List.set_cons_succ]
        refine wpAnyH_take (i := 22) (v := ?v22) rfl (by kernel_rfl) (by kernel_rfl) (by kernel_rfl) (fun _ _ _ h => h) (Or.inl ⟨by rfl, ?hy22⟩) (by assumption) ?_
        case hy22 => (intro w hSw; (try dsimp only at hSw); (go_simp) <;> (with_reducible rfl))
        try simp only [Act.put, List.getElem_toArray, List.getElem_cons_zero, List.getElem_cons_succ, List.setIfInBounds_toArray, List.set_cons_zero, List.set_cons_succ]
        refine wpAnyH_take (i := 23) (v := ?v23) rfl (by kernel_rfl) (by kernel_rfl) (by kernel_rfl) (fun _ _ _ h => h) (Or.inl ⟨by rfl, ?hy23⟩) (by assumption) ?_
        case hy23 => (intro w hSw; (try dsimp only at hSw); (go_simp) <;> (with_reducible rfl))
        try simp only [Act.put, List.getElem_toArray, List.getElem_cons_zero, List.getElem_cons_succ, List.setIfInBounds_toArray, List.set_cons_zero, List.set_cons_succ]
        refine wpAnyH_take (i := 24) (v := ?v24) rfl (by kernel_rfl) (by kernel_rfl) (by kernel_rfl) (fun _ _ _ h => h) (Or.inl ⟨by rfl, ?hy24⟩) (by assumption) ?_
        case hy24 => (intro w hSw; (try dsimp only at hSw); (go_simp) <;> (with_reducible rfl))
        try simp only [Act.put, List.getElem_toArray, List.getElem_cons_zero, List.getElem_cons_succ, List.setIfInBounds_toArray, List.set_cons_zero, List.set_cons_succ]
        refine wpAnyH_take (i := 25) (v := ?v25) rfl (by kernel_rfl) (by kernel_rfl) (by kernel_rfl) (fun _ _ _ h => h) (Or.inl ⟨by rfl, ?hy25⟩) (by assumption) ?_
        case hy25 => (intro w hSw; (try dsimp only at hSw); (go_simp) <;> (with_reducible rfl))
        try simp only [Act.put, List.getElem_toArray, List.getElem_cons_zero, List.getElem_cons_succ, List.setIfInBounds_toArray, List.set_cons_zero, List.set_cons_succ]
        refine wpAnyH_ready (rs := [20]) (by kernel_rfl) (by simp) ?_
        refine AllReadyH.cons rfl (fun K hK => ?_) AllReadyH.nil
        go_simp
        go_at_call 20; (with_reducible refine (HLG1.out _).mono ?_); rintro e z1 ⟨rfl, b5⟩; replace vs := vs.drew.mono b5; replace vo := vo.drew.mono b5; replace vc := vc.drew.mono b5; replace hrd := RdF.drewmono hrd b5; replace BC := below_trans BC.drew b5; replace B := below_trans B.drew b5; clear b5
        go_wp2_with fail
        refine hK.out _ _ (near_cells vs (hrd.at2 jf HX.out HY.out) vc) (fun hHeld => ?_)
        clear hK K
        try simp only [Act.put, List.getElem_toArray, List.getElem_cons_zero, List.getElem_cons_succ, List.setIfInBounds_toArray, List.set_cons_zero, List.set_cons_succ]
        refine wpAnyH_ready (rs := [26]) (by kernel_rfl) (by simp) ?_
        refine AllReadyH.cons rfl (fun K hK => ?_) AllReadyH.nil
        go_simp
        go_at_call 20; (with_reducible refine (HLG2.out _).mono ?_); rintro e z2 ⟨rfl, b5⟩; replace vs := vs.mono b5; replace vo := vo.mono b5; replace vc := vc.mono b5; replace hrd := hrd.mono b5; replace BC := below_trans BC b5; replace B := below_trans B b5; clear b5
        go_wp2_with fail
        refine hK.out _ _ (near_cells vs (hrd.at2 jf HX.out HY.out) vc) (fun hHeld => ?_)
        clear hK K
        try simp only [Act.put, List.getElem_toArray, List.getElem_cons_zero, List.getElem_cons_succ, List.setIfInBounds_toArray, List.set_cons_zero, List.set_cons_succ]
        refine wpAnyH_take (i := 27) (v := ?v27) rfl (by kernel_rfl) (by kernel_rfl) (by kernel_rfl) (fun _ _ _ h => h) (Or.inl ⟨by rfl, ?hy27⟩) (by assumption) ?_
        case hy27 => (intro w hSw; (try dsimp only at hSw); (go_simp) <;> (with_reducible rfl))
        try simp only [Act.put, List.getElem_toArray, List.getElem_cons_zero, List.getElem_cons_succ, List.setIfInBounds_toArray, List.set_cons_zero, List.set_cons_succ]
        refine wpAnyH_take (i := 28) (v := ?v28) rfl (by kernel_rfl) (by kernel_rfl) (by kernel_rfl) (fun _ _ _ h => h) (Or.inl ⟨by rfl, ?hy28⟩) (by assumption) ?_
        case hy28 => (intro w hSw; (try dsimp only at hSw); (go_simp) <;> (with_reducible rfl))
        try simp only [Act.put, List.getElem_toArray, List.getElem_cons_zero, List.getElem_cons_succ, List.setIfInBounds_toArray, List.set_cons_zero, List.set_cons_succ]
        refine wpAnyH_take (i := 29) (v := ?v29) rfl (by kernel_rfl) (by kernel_rfl) (by kernel_rfl) (fun _ _ _ h => h) (Or.inl ⟨by rfl, ?hy29⟩) (by assumption) ?_
        case hy29 => (intro w hSw; (try dsimp only at hSw); (go_simp) <;> (with_reducible rfl))
        try simp only [Act.put, List.getElem_toArray, List.getElem_cons_zero, List.getElem_cons_succ, List.setIfInBounds_toArray, List.set_cons_zero, List.set_cons_succ]
        refine wpAnyH_done (by kernel_rfl) ?_ _
        go_wp2
        go_meet
        exact BC
      · skip
        go_wp2
        first
        | (go_region_held3 (fun w' => w'.cell? ⟨w.heap.size, 0, none⟩ = some (.int .i64 s.a) ∧ w'.cell? ⟨w.heap.size, 1, none⟩ = some (.int .i64 s.b) ∧ w'.cell? ⟨w.heap.size, 2, none⟩ = some (.int .i64 s.c) ∧ w'.cell? ⟨w.heap.size, 3, none⟩ = some (.int .i64 s.d) ∧ w'.cell? ⟨g, j * 2, none⟩ = some (.int .i64 x') ∧ w'.cell? ⟨g, j * 2 + 1, none⟩ = some (.int .i64 y') ∧ w'.cell? ⟨b10, 0, none⟩ = some (.int .i64 x) ∧ w'.cell? ⟨b10, 1, none⟩ = some (.int .i64 y))
          (first | exact near_cells vs (hrd.at2 jf HX.out HY.out) vc | exact near_cells vs.drew (RdF.at2 (w := W1.drew) hrd jf HX.out HY.out) vc.drew)
          (first | (go_at_call 20; (with_reducible refine (HLG1.out _).mono ?_); rintro e z1 ⟨rfl, b5⟩; replace vs := vs.drew.mono b5; replace vo := vo.drew.mono b5; replace vc := vc.drew.mono b5; replace hrd := RdF.drewmono hrd b5; replace BC := below_trans BC.drew b5; replace B := below_trans B.drew b5; clear b5)
                 | (go_at_call 20; (with_reducible refine (HLG2.out _).mono ?_); rintro e z2 ⟨rfl, b5⟩; replace vs := vs.mono b5; replace vo := vo.mono b5; replace vc := vc.mono b5; replace hrd := hrd.mono b5; replace BC := below_trans BC b5; replace B := below_trans B b5; clear b5)))
        | fail
        go_wp2
        go_meet
        exact BC
    case rest =>
      have bc := hcut
      replace vs := vs.mono bc
      replace vo := vo.mono bc
      replace hrd := hrd.mono bc
      replace vc := vc.mono bc
      replace B := below_trans B bc
      clear bc hcut HLG
      obtain ⟨Q, hQ⟩ : ∃ Q, (q : Int) + 1 = Q := ⟨_, rfl⟩
      have Q1 : 1 ≤ Q ∧ Q ≤ 32 := by omega
      have cvo0 := vo.cell (i := 0) (by simp)
      have cvo1 := vo.cell (i := 1) (by simp)
      simp only [List.getD_cons_zero, List.getD_cons_succ] at cvo0 cvo1
      have ltvo := vo.lt
      go_upto_region 20 with (fail)
      clear cvo0 cvo1 ltvo
      try rw [hQ]
      clear hqand hQ
      obtain ⟨r, hr⟩ : ∃ r, on.tmod (2 * Q) = r := ⟨_, rfl⟩
      have r1 : r.natAbs ≤ 64 := by
        have a1 := Int.tmod_lt_of_pos on (show 0 < 2 * Q by omega)
        have a2 := Int.lt_tmod_of_pos on (show 0 < 2 * Q by omega)
        omega
      have e1 : (E * Q).natAbs ≤ 80 * 32 := near_mul (by omega) (by omega)
      have w1 : IntKind.i64.wrap (E * Q) = E * Q := IntWalk.i64_in _ (by omega)
      have w2 : IntKind.i64.wrap (2 * Q) = 2 * Q := IntWalk.i64_in _ (by omega)
      have w3 : IntKind.i64.wrap r = r := IntWalk.i64_in _ (by omega)
      have w4 : IntKind.i64.wrap (E * Q + r) = E * Q + r := IntWalk.i64_in _ (by omega)
      have nz : (2 * Q == 0) = false := by rw [beq_eq_false_iff_ne]; omega
      obtain ⟨P, hP⟩ : ∃ P, E * Q + r = P := ⟨_, rfl⟩
      have hPb : P.natAbs ≤ 3000 := by omega
      have v1 : wrap64 (E * Q) = E * Q := wrap64_small (by omega)
      have v4 : wrap64 (E * Q + r) = P := by rw [hP]; exact wrap64_small (by omega)
      have V1 := Lib.hid v1
      have V4 := Lib.hid v4
      clear e1 r1 v1 v4 w1 w4 hP
      have hc0 := hrd.at 0 (by rw [HNF2.out]; exact hl1)
      rw [HFST.out] at hc0
      obtain ⟨cg0, cg1⟩ := hc0
      dsimp only at cg0 cg1
      rw [Nat.zero_mul] at cg0 cg1
      have cvo0 := vo.cell (i := 0) (by simp)
      have cvo1 := vo.cell (i := 1) (by simp)
      simp only [List.getD_cons_zero, List.getD_cons_succ] at cvo0 cvo1
      have ltvo := vo.lt
      go_quiet (fail)
      clear cvo0 cvo1 ltvo
      try rw [V1.out]
      rw [V4.out]
      clear V1 V4 cg0 cg1 w2 w3 nz hr
      replace vs := vs.drewN nq
      replace vo := vo.drewN nq
      replace hrd := hrd.drewN nq
      replace vc := vc.drewN nq
      replace B := below_drewN B nq
      generalize hW2 : wc.drewN nq = W2 at *
      clear hW2
      by_cases hy1 : 1 < y
      case neg =>
        have cvc0 := vc.cell (i := 0) (by simp)
        have cvc1 := vc.cell (i := 1) (by simp)
        simp only [List.getD_cons_zero, List.getD_cons_succ] at cvc0 cvc1
        go_wp2
        go_roundw
        case rel => first | exact ⟨i + 1, by go_num, by omega, B, vs, vo, hrd⟩ | exact ⟨i + 1, by omega, by omega⟩
        case measure => simp [intOf]; omega
      by_cases hqy : Q ≤ y
      case neg =>
        have cvc0 := vc.cell (i := 0) (by simp)
        have cvc1 := vc.cell (i := 1) (by simp)
        simp only [List.getD_cons_zero, List.getD_cons_succ] at cvc0 cvc1
        go_wp2
        go_roundw
        case rel => first | exact ⟨i + 1, by go_num, by omega, B, vs, vo, hrd⟩ | exact ⟨i + 1, by omega, by omega⟩
        case measure => simp [intOf]; omega
      obtain ⟨j, hj⟩ : ∃ j, i = j + 1 := ⟨i - 1, by
        by_cases h0 : i = 0
        · have := HY0.out h0; omega
        · omega⟩
      obtain ⟨x', y', hx', hy', b1, b2, b3, b4, det, sgs, far⟩ := HPREV.out j hj
      obtain ⟨f1, f2⟩ := far P Q Q1.1 hqy
      clear hx' hy' b1 b2 b3 b4 det sgs far hj HPREV HY0
      have e1 : (P * y).natAbs ≤ 3000 * 32 := near_mul hPb (by omega)
      have e2 : (x * Q).natAbs ≤ 2592 * 32 := near_mul (by omega) (by omega)
      have k1 : wrap64 (P * y) = P * y := wrap64_small (by omega)
      have k2 : wrap64 (x * Q) = x * Q := wrap64_small (by omega)
      by_cases hne : P * y = x * Q
      · clear f1 f2 e1 e2
        have cvc0 := vc.cell (i := 0) (by simp)
        have cvc1 := vc.cell (i := 1) (by simp)
        simp only [List.getD_cons_zero, List.getD_cons_succ] at cvc0 cvc1
        go_wp2
        go_roundw
        case rel => first | exact ⟨i + 1, by go_num, by omega, B, vs, vo, hrd⟩ | exact ⟨i + 1, by omega, by omega⟩
        case measure => simp [intOf]; omega
      have FA := fun w : World => HFA.out P Q x y w hPb ⟨Q1.1, Q1.2⟩ ⟨x0, x1⟩ ⟨y1, by omega⟩ hne f1 f2
      have HFA2 := Lib.hid FA
      clear FA HFA f1 f2 e1 e2
      have cvc0 := vc.cell (i := 0) (by simp)
      have cvc1 := vc.cell (i := 1) (by simp)
      simp only [List.getD_cons_zero, List.getD_cons_succ] at cvc0 cvc1
      have ltvc := vc.lt
      have cvs0 := vs.cell (i := 0) (by simp)
      have cvs1 := vs.cell (i := 1) (by simp)
      have cvs2 := vs.cell (i := 2) (by simp)
      have cvs3 := vs.cell (i := 3) (by simp)
      simp only [List.getD_cons_zero, List.getD_cons_succ] at cvs0 cvs1 cvs2 cvs3
      have ltvs := vs.lt
      go_wp2_with fail
      clear cvc0 cvc1 ltvc cvs0 cvs1 cvs2 cvs3 ltvs
      refine (HFA2.out _).mono ?_
      rintro e z3 ⟨rfl, b5⟩
      replace vs := vs.mono b5
      replace vo := vo.mono b5
      replace hrd := hrd.mono b5
      replace B := below_trans B b5
      clear b5
      go_wp2
      go_roundw
      case rel => first | exact ⟨i + 1, by go_num, by omega, B, vs, vo, hrd⟩ | exact ⟨i + 1, by omega, by omega⟩
      case measure => simp [intOf]; omega

set_option maxRecDepth 100000 in
set_option maxHeartbeats 2000000 in
theorem walk_near (s : T4) (m on od : Int) (w : World) (hS : i64 s.a ∧ i64 s.b ∧ i64 s.c ∧ i64 s.d) (hM : i64 m) (hN : i64 on) (hD : i64 od) (ht : Tab w)  :
    Calls Tryd.prog 6 #[.agg #[.int .i64 s.a, .int .i64 s.b, .int .i64 s.c, .int .i64 s.d], .int .i64 m, .agg #[.int .i64 on, .int .i64 od]] w (RetTrue w) := by
  cases h1 : validB s.a s.b s.c s.d
  · exact near_bad s m on od w hS hM hN hD ht h1
  by_cases g : -16 ≤ s.a ∧ s.a ≤ 16 ∧ -16 ≤ s.b ∧ s.b ≤ 16 ∧ -16 ≤ s.c ∧ s.c ≤ 16
  case neg => exact near_large s m on od w hS hM hN hD ht h1 g
  rcases lg_cases s 0 1 with a | a | a
  · exact near_r1 s m on od w hS hM hN hD ht h1 g a
  · exact near_r0 s m on od w hS hM hN hD ht h1 g a
  · exact near_ok s m on od w hS hM hN hD ht h1 g a

end Go.Proofs
