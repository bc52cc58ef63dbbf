/- The walk of ToneTexts: whatever comes in, it returns true and changes nothing that was there. -/
import Derived.Test.YtpflnpekcdjheaaGreatDoorTAlias
import Derived.Test.YtpflnpekcdjheaaGreatDoorRParseT
open Go.RowKit Go.Deep
namespace Go.Proofs
set_option linter.unusedVariables false
set_option linter.unusedSimpArgs false

set_option maxRecDepth 100000 in
set_option maxHeartbeats 1000000 in
theorem ttexts_bad (s : ByteArray) (x : T4) (w : World) (hs : s.size ≤ maxLen) (hS : i64 x.a ∧ i64 x.b ∧ i64 x.c ∧ i64 x.d) (ht : Tab w) (hg : Glob w) (hv : validB x.a x.b x.c x.d = false) :
    Calls Tryz.prog 3 #[.string s, .agg #[.int .i64 x.a, .int .i64 x.b, .int .i64 x.c, .int .i64 x.d]] w (RetTrue w) := by
  have TX := fun w : World => text_bad x w hS hv
  have FX := fun w : World => form_0 x x w hS hS hv
  have HT := Lib.hid TX
  have HF := Lib.hid FX
  clear TX FX hS hv
  replace ht := ht.mono (below_alloc w (.cells #[.int .i64 x.a, .int .i64 x.b, .int .i64 x.c, .int .i64 x.d] 23))
  replace hg := hg.mono (below_alloc w (.cells #[.int .i64 x.a, .int .i64 x.b, .int .i64 x.c, .int .i64 x.d] 23))
  have hsz0 := hs
  have v3 := Vals.newL w (w.heap.size) [.int .i64 x.a, .int .i64 x.b, .int .i64 x.c, .int .i64 x.d] 23 rfl
  have bb := below_alloc w (.cells #[.int .i64 x.a, .int .i64 x.b, .int .i64 x.c, .int .i64 x.d] 23)
  have B := bb
  clear bb
  go_enter Tryz.func3, Tryz.ntmps3
  go_upto_if 13 with (fail)
  generalize (w.alloc (.cells #[.int .i64 x.a, .int .i64 x.b, .int .i64 x.c, .int .i64 x.d] 23)) = w0 at *
  go_cut [0] from 14 to 16 (fun sv wc => ∃ t : ByteArray, sv = .string t ∧ t.size ≤ 1000 ∧ w0 = wc)
  case first =>
    by_cases h100 : 100 < s.size
    · have q1 : (100 : Int) < (s.size : Int) := by omega
      have q2 : (100 : Int) ≤ (s.size : Int) := by omega
      go_wp2
      go_meet
      exact ⟨_, rfl, by rw [ByteArray.size_extract]; omega, rfl⟩
    · have q1 : ¬ (100 : Int) < (s.size : Int) := by omega
      go_wp2
      go_meet
      exact ⟨_, rfl, by omega, rfl⟩
  case rest =>
    obtain ⟨t, rfl, htz, rfl⟩ := hcut
    rename World => w0
    obtain ⟨⟨⟨pa, pb, pc, pd⟩, er⟩, hP⟩ : ∃ p, parT t = p := ⟨_, rfl⟩
    have PP := fun w : World => parse_calls t w htz
    have PR := fun w : World => rparseT_calls t w htz
    rw [hP] at PP PR
    have HPP := Lib.hid PP
    have HPR := Lib.hid PR
    clear PP PR hP
    go_wp2_with fail
    refine (HPP.out _ ht hg).mono ?_
    rintro e w1 ⟨rfl, b1⟩
    replace ht := ht.mono b1
    replace hg := hg.mono b1
    replace v3 := v3.mono b1
    replace B := below_trans B b1
    clear b1
    dsimp only
    go_wp2_with fail
    have v5 := Vals.newL w1 w1.heap.size [.int .i64 pa, .int .i64 pb, .int .i64 pc, .int .i64 pd] 23 rfl
    have bb := below_alloc w1 (.cells #[.int .i64 pa, .int .i64 pb, .int .i64 pc, .int .i64 pd] 23)
    replace ht := ht.mono bb
    replace hg := hg.mono bb
    replace v3 := v3.mono bb
    replace B := below_trans B bb
    clear bb
    generalize w1.alloc (.cells #[.int .i64 pa, .int .i64 pb, .int .i64 pc, .int .i64 pd] 23) = w2 at *
    refine (HPR.out _).mono ?_
    rintro e w3 ⟨rfl, b3⟩
    replace ht := ht.mono b3
    replace hg := hg.mono b3
    replace v3 := v3.mono b3
    replace v5 := v5.mono b3
    replace B := below_trans B b3
    clear b3
    dsimp only
    have cv30 := v3.cell (i := 0) (by simp)
    have cv31 := v3.cell (i := 1) (by simp)
    have cv32 := v3.cell (i := 2) (by simp)
    have cv33 := v3.cell (i := 3) (by simp)
    simp only [List.getD_cons_zero, List.getD_cons_succ] at cv30 cv31 cv32 cv33
    have ltv3 := v3.lt
    go_wp2_with fail
    clear cv30 cv31 cv32 cv33 ltv3
    have v7 := Vals.newL w3 w3.heap.size [.int .i64 pa, .int .i64 pb, .int .i64 pc, .int .i64 pd] 23 rfl
    have bb := below_alloc w3 (.cells #[.int .i64 pa, .int .i64 pb, .int .i64 pc, .int .i64 pd] 23)
    replace ht := ht.mono bb
    replace hg := hg.mono bb
    replace v3 := v3.mono bb
    replace v5 := v5.mono bb
    replace B := below_trans B bb
    clear bb
    generalize w3.alloc (.cells #[.int .i64 pa, .int .i64 pb, .int .i64 pc, .int .i64 pd] 23) = w4 at *
    refine (HT.out _).mono ?_
    rintro e w5 ⟨rfl, b5⟩
    replace ht := ht.mono b5
    replace hg := hg.mono b5
    replace v3 := v3.mono b5
    replace v5 := v5.mono b5
    replace v7 := v7.mono b5
    replace B := below_trans B b5
    clear b5
    have cv30 := v3.cell (i := 0) (by simp)
    have cv31 := v3.cell (i := 1) (by simp)
    have cv32 := v3.cell (i := 2) (by simp)
    have cv33 := v3.cell (i := 3) (by simp)
    simp only [List.getD_cons_zero, List.getD_cons_succ] at cv30 cv31 cv32 cv33
    have ltv3 := v3.lt
    go_wp2_with fail
    clear cv30 cv31 cv32 cv33 ltv3
    refine (HF.out _).mono ?_
    rintro e w6 ⟨rfl, b6⟩
    replace ht := ht.mono b6
    replace hg := hg.mono b6
    replace v3 := v3.mono b6
    replace v5 := v5.mono b6
    replace v7 := v7.mono b6
    replace B := below_trans B b6
    clear b6
    have cv50 := v5.cell (i := 0) (by simp)
    have cv51 := v5.cell (i := 1) (by simp)
    have cv52 := v5.cell (i := 2) (by simp)
    have cv53 := v5.cell (i := 3) (by simp)
    simp only [List.getD_cons_zero, List.getD_cons_succ] at cv50 cv51 cv52 cv53
    have ltv5 := v5.lt
    have cv70 := v7.cell (i := 0) (by simp)
    have cv71 := v7.cell (i := 1) (by simp)
    have cv72 := v7.cell (i := 2) (by simp)
    have cv73 := v7.cell (i := 3) (by simp)
    simp only [List.getD_cons_zero, List.getD_cons_succ] at cv70 cv71 cv72 cv73
    have ltv7 := v7.lt
    go_wp2_with fail
    clear cv50 cv51 cv52 cv53 ltv5 cv70 cv71 cv72 cv73 ltv7
    refine (lives_calls _ ht).mono ?_
    rintro e w7 ⟨rfl, b7⟩
    replace ht := ht.mono b7
    replace hg := hg.mono b7
    replace v3 := v3.mono b7
    replace v5 := v5.mono b7
    replace v7 := v7.mono b7
    replace B := below_trans B b7
    clear b7
    go_wp2
    go_ret
    exact ⟨rfl, B⟩

set_option maxRecDepth 100000 in
set_option maxHeartbeats 1000000 in
theorem ttexts_ok (s : ByteArray) (x : T4) (w : World) (hs : s.size ≤ maxLen) (hS : i64 x.a ∧ i64 x.b ∧ i64 x.c ∧ i64 x.d) (ht : Tab w) (hg : Glob w) (hv : validB x.a x.b x.c x.d = true) :
    Calls Tryz.prog 3 #[.string s, .agg #[.int .i64 x.a, .int .i64 x.b, .int .i64 x.c, .int .i64 x.d]] w (RetTrue w) := by
  have TX := fun w : World => toneText_good x w hv
  have FX := fun w : World => form_2 x x w hS hS hv hv
  have RX := fun w : World => rtextT_calls x w hS
  obtain ⟨TT, hTT⟩ : ∃ T : ByteArray, ⟨(textT x).toArray⟩ = T := ⟨_, rfl⟩
  rw [hTT] at TX RX
  have HR := Lib.hid RX
  clear RX hTT
  have HT := Lib.hid TX
  have HF := Lib.hid FX
  clear TX FX hS hv
  replace ht := ht.mono (below_alloc w (.cells #[.int .i64 x.a, .int .i64 x.b, .int .i64 x.c, .int .i64 x.d] 23))
  replace hg := hg.mono (below_alloc w (.cells #[.int .i64 x.a, .int .i64 x.b, .int .i64 x.c, .int .i64 x.d] 23))
  have hsz0 := hs
  have v3 := Vals.newL w (w.heap.size) [.int .i64 x.a, .int .i64 x.b, .int .i64 x.c, .int .i64 x.d] 23 rfl
  have bb := below_alloc w (.cells #[.int .i64 x.a, .int .i64 x.b, .int .i64 x.c, .int .i64 x.d] 23)
  have B := bb
  clear bb
  go_enter Tryz.func3, Tryz.ntmps3
  go_upto_if 13 with (fail)
  generalize (w.alloc (.cells #[.int .i64 x.a, .int .i64 x.b, .int .i64 x.c, .int .i64 x.d] 23)) = w0 at *
  go_cut [0] from 14 to 16 (fun sv wc => ∃ t : ByteArray, sv = .string t ∧ t.size ≤ 1000 ∧ w0 = wc)
  case first =>
    by_cases h100 : 100 < s.size
    · have q1 : (100 : Int) < (s.size : Int) := by omega
      have q2 : (100 : Int) ≤ (s.size : Int) := by omega
      go_wp2
      go_meet
      exact ⟨_, rfl, by rw [ByteArray.size_extract]; omega, rfl⟩
    · have q1 : ¬ (100 : Int) < (s.size : Int) := by omega
      go_wp2
      go_meet
      exact ⟨_, rfl, by omega, rfl⟩
  case rest =>
    obtain ⟨t, rfl, htz, rfl⟩ := hcut
    rename World => w0
    obtain ⟨⟨⟨pa, pb, pc, pd⟩, er⟩, hP⟩ : ∃ p, parT t = p := ⟨_, rfl⟩
    have PP := fun w : World => parse_calls t w htz
    have PR := fun w : World => rparseT_calls t w htz
    rw [hP] at PP PR
    have HPP := Lib.hid PP
    have HPR := Lib.hid PR
    clear PP PR hP
    go_wp2_with fail
    refine (HPP.out _ ht hg).mono ?_
    rintro e w1 ⟨rfl, b1⟩
    replace ht := ht.mono b1
    replace hg := hg.mono b1
    replace v3 := v3.mono b1
    replace B := below_trans B b1
    clear b1
    dsimp only
    go_wp2_with fail
    have v5 := Vals.newL w1 w1.heap.size [.int .i64 pa, .int .i64 pb, .int .i64 pc, .int .i64 pd] 23 rfl
    have bb := below_alloc w1 (.cells #[.int .i64 pa, .int .i64 pb, .int .i64 pc, .int .i64 pd] 23)
    replace ht := ht.mono bb
    replace hg := hg.mono bb
    replace v3 := v3.mono bb
    replace B := below_trans B bb
    clear bb
    generalize w1.alloc (.cells #[.int .i64 pa, .int .i64 pb, .int .i64 pc, .int .i64 pd] 23) = w2 at *
    refine (HPR.out _).mono ?_
    rintro e w3 ⟨rfl, b3⟩
    replace ht := ht.mono b3
    replace hg := hg.mono b3
    replace v3 := v3.mono b3
    replace v5 := v5.mono b3
    replace B := below_trans B b3
    clear b3
    dsimp only
    have cv30 := v3.cell (i := 0) (by simp)
    have cv31 := v3.cell (i := 1) (by simp)
    have cv32 := v3.cell (i := 2) (by simp)
    have cv33 := v3.cell (i := 3) (by simp)
    simp only [List.getD_cons_zero, List.getD_cons_succ] at cv30 cv31 cv32 cv33
    have ltv3 := v3.lt
    go_wp2_with fail
    clear cv30 cv31 cv32 cv33 ltv3
    have v7 := Vals.newL w3 w3.heap.size [.int .i64 pa, .int .i64 pb, .int .i64 pc, .int .i64 pd] 23 rfl
    have bb := below_alloc w3 (.cells #[.int .i64 pa, .int .i64 pb, .int .i64 pc, .int .i64 pd] 23)
    replace ht := ht.mono bb
    replace hg := hg.mono bb
    replace v3 := v3.mono bb
    replace v5 := v5.mono bb
    replace B := below_trans B bb
    clear bb
    generalize w3.alloc (.cells #[.int .i64 pa, .int .i64 pb, .int .i64 pc, .int .i64 pd] 23) = w4 at *
    refine (HT.out _ ht).mono ?_
    rintro e w5 ⟨rfl, b5⟩
    replace ht := ht.mono b5
    replace hg := hg.mono b5
    replace v3 := v3.mono b5
    replace v5 := v5.mono b5
    replace v7 := v7.mono b5
    replace B := below_trans B b5
    clear b5
    have cv30 := v3.cell (i := 0) (by simp)
    have cv31 := v3.cell (i := 1) (by simp)
    have cv32 := v3.cell (i := 2) (by simp)
    have cv33 := v3.cell (i := 3) (by simp)
    simp only [List.getD_cons_zero, List.getD_cons_succ] at cv30 cv31 cv32 cv33
    have ltv3 := v3.lt
    go_wp2_with fail
    clear cv30 cv31 cv32 cv33 ltv3
    refine (HF.out _).mono ?_
    rintro e w6 ⟨rfl, b6⟩
    replace ht := ht.mono b6
    replace hg := hg.mono b6
    replace v3 := v3.mono b6
    replace v5 := v5.mono b6
    replace v7 := v7.mono b6
    replace B := below_trans B b6
    clear b6
    have cv50 := v5.cell (i := 0) (by simp)
    have cv51 := v5.cell (i := 1) (by simp)
    have cv52 := v5.cell (i := 2) (by simp)
    have cv53 := v5.cell (i := 3) (by simp)
    simp only [List.getD_cons_zero, List.getD_cons_succ] at cv50 cv51 cv52 cv53
    have ltv5 := v5.lt
    have cv70 := v7.cell (i := 0) (by simp)
    have cv71 := v7.cell (i := 1) (by simp)
    have cv72 := v7.cell (i := 2) (by simp)
    have cv73 := v7.cell (i := 3) (by simp)
    simp only [List.getD_cons_zero, List.getD_cons_succ] at cv70 cv71 cv72 cv73
    have ltv7 := v7.lt
    have cv30 := v3.cell (i := 0) (by simp)
    have cv31 := v3.cell (i := 1) (by simp)
    have cv32 := v3.cell (i := 2) (by simp)
    have cv33 := v3.cell (i := 3) (by simp)
    simp only [List.getD_cons_zero, List.getD_cons_succ] at cv30 cv31 cv32 cv33
    have ltv3 := v3.lt
    go_wp2_with fail
    clear cv50 cv51 cv52 cv53 ltv5 cv70 cv71 cv72 cv73 ltv7 cv30 cv31 cv32 cv33 ltv3
    refine (HR.out _).mono ?_
    rintro e w7 ⟨rfl, b7⟩
    replace ht := ht.mono b7
    replace hg := hg.mono b7
    replace v3 := v3.mono b7
    replace v5 := v5.mono b7
    replace v7 := v7.mono b7
    replace B := below_trans B b7
    clear b7
    go_wp2_with fail
    refine (lives_calls _ ht).mono ?_
    rintro e w8 ⟨rfl, b8⟩
    replace ht := ht.mono b8
    replace hg := hg.mono b8
    replace v3 := v3.mono b8
    replace v5 := v5.mono b8
    replace v7 := v7.mono b8
    replace B := below_trans B b8
    clear b8
    go_wp2
    go_ret
    exact ⟨rfl, B⟩

theorem walk_ttexts (s : ByteArray) (x : T4) (w : World) (hs : s.size ≤ maxLen) (hS : i64 x.a ∧ i64 x.b ∧ i64 x.c ∧ i64 x.d) (ht : Tab w) (hg : Glob w) :
    Calls Tryz.prog 3 #[.string s, .agg #[.int .i64 x.a, .int .i64 x.b, .int .i64 x.c, .int .i64 x.d]] w (RetTrue w) := by
  by_cases hv : validB x.a x.b x.c x.d = true
  · exact ttexts_ok s x w hs hS ht hg hv
  · exact ttexts_bad s x w hs hS ht hg (by simpa using hv)

end Go.Proofs
