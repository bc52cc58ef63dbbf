/- The walk of ToneBack: whatever comes in, it returns true and changes nothing that was there. -/
import Derived.Test.YtpflnpekcdjheaaDoorTParse
open Go.RowKit Go.Deep
namespace Go.Proofs
set_option linter.unusedVariables false
set_option linter.unusedSimpArgs false

theorem textT_eq (x : T4) : textT x = (Lib.itoa x.a ++ 46 :: (Lib.itoa x.b ++ 46 :: Lib.itoa x.c)) ++ 47 :: Lib.itoa x.d := by
  unfold textT Lib.join
  simp [List.intercalate, List.intersperse]
theorem par_text (x : T4) (hv : validB x.a x.b x.c x.d = true) : parT ⟨(textT x).toArray⟩ = (x, 0) ∧ (⟨(textT x).toArray⟩ : ByteArray).size ≤ 32 := by
  have hp := validB_parts hv
  have hi := validB_i64 hv
  obtain ⟨⟨a0, a1⟩, ⟨b0, b1⟩, ⟨c0, c1⟩, ⟨d0, d1⟩⟩ := hi
  have la := itoa_len x.a (by omega)
  have lb := itoa_len x.b (by omega)
  have lc := itoa_len x.c (by omega)
  have ld := itoa_len x.d (by omega)
  have hsz : (⟨(textT x).toArray⟩ : ByteArray).size ≤ 32 := by
    rw [size_mk (textT x), textT_eq]
    simp only [List.length_append, List.length_cons]
    omega
  refine ⟨?_, hsz⟩
  have no47 : ∀ b ∈ Lib.itoa x.a ++ 46 :: (Lib.itoa x.b ++ 46 :: Lib.itoa x.c), b ≠ 47 := by
    intro b hb
    simp only [List.mem_append, List.mem_cons] at hb
    rcases hb with h | rfl | h | rfl | h
    · exact itoa_no _ 47 (.inr rfl) b h
    · decide
    · exact itoa_no _ 47 (.inr rfl) b h
    · decide
    · exact itoa_no _ 47 (.inr rfl) b h
  have hc := cut_at (Lib.itoa x.a ++ 46 :: (Lib.itoa x.b ++ 46 :: Lib.itoa x.c)) (Lib.itoa x.d) 47 no47
  rw [← textT_eq] at hc
  have h1 : headS ⟨(textT x).toArray⟩ = Lib.itoa x.a ++ 46 :: (Lib.itoa x.b ++ 46 :: Lib.itoa x.c) := by
    show (Lib.cut (textT x) [47]).1 = _
    rw [hc]
  have h2 : tailS ⟨(textT x).toArray⟩ = Lib.itoa x.d := by
    show (Lib.cut (textT x) [47]).2.1 = _
    rw [hc]
  have h3 : piecesS ⟨(textT x).toArray⟩ = [Lib.itoa x.a, Lib.itoa x.b, Lib.itoa x.c] := by
    unfold piecesS
    rw [h1]
    exact split_three _ _ _ 46 (itoa_no _ 46 (.inl rfl)) (itoa_no _ 46 (.inl rfl)) (itoa_no _ 46 (.inl rfl))
  have h4 : progT ⟨(textT x).toArray⟩ = x := by
    unfold progT
    rw [h3, h2]
    simp only [List.getD_cons_zero, List.getD_cons_succ]
    rw [av_itoa x.a a0 (by omega), av_itoa x.b b0 (by omega), av_itoa x.c c0 (by omega), av_itoa x.d d0 (by omega)]
  unfold parT progOk
  rw [h3, h4, hv, decide_eq_true (show [Lib.itoa x.a, Lib.itoa x.b, Lib.itoa x.c].length = 3 ∧ (⟨(textT x).toArray⟩ : ByteArray).size ≤ 32 from ⟨rfl, hsz⟩)]
  simp

set_option maxRecDepth 100000 in
theorem back_bad (s : T4) (w : World) (hS : i64 s.a ∧ i64 s.b ∧ i64 s.c ∧ i64 s.d) (ht : Tab w) (hg : Glob w) (hv : validB s.a s.b s.c s.d = false) :
    Calls Tryd.prog 3 #[.agg #[.int .i64 s.a, .int .i64 s.b, .int .i64 s.c, .int .i64 s.d]] w (RetTrue w) := by
  have TX := fun w : World => text_bad s w hS hv
  have HT := Lib.hid TX
  clear TX hS hv
  replace ht := ht.mono (below_alloc w (.cells #[.int .i64 s.a, .int .i64 s.b, .int .i64 s.c, .int .i64 s.d] 23))
  replace hg := hg.mono (below_alloc w (.cells #[.int .i64 s.a, .int .i64 s.b, .int .i64 s.c, .int .i64 s.d] 23))
  have v1 := Vals.newL w (w.heap.size) [.int .i64 s.a, .int .i64 s.b, .int .i64 s.c, .int .i64 s.d] 23 rfl
  have bb := below_alloc w (.cells #[.int .i64 s.a, .int .i64 s.b, .int .i64 s.c, .int .i64 s.d] 23)
  have B := bb
  clear bb
  go_enter Tryd.func3, Tryd.ntmps3
  go_wp2_with fail
  generalize (w.alloc (.cells #[.int .i64 s.a, .int .i64 s.b, .int .i64 s.c, .int .i64 s.d] 23)) = w0 at *
  skip
  refine (HT.out w0).mono ?_
  rintro e w1 ⟨rfl, b1⟩
  replace ht := ht.mono b1
  replace hg := hg.mono b1
  replace v1 := v1.mono b1
  replace B := below_trans B b1
  clear b1
  go_wp2_with fail
  refine (lives_calls _ ht).mono ?_
  rintro e w2 ⟨rfl, b2⟩
  replace ht := ht.mono b2
  replace hg := hg.mono b2
  replace v1 := v1.mono b2
  replace B := below_trans B b2
  clear b2
  go_wp2
  go_ret
  exact ⟨rfl, B⟩

set_option maxRecDepth 100000 in
theorem back_ok (s : T4) (w : World) (hS : i64 s.a ∧ i64 s.b ∧ i64 s.c ∧ i64 s.d) (ht : Tab w) (hg : Glob w) (hv : validB s.a s.b s.c s.d = true) :
    Calls Tryd.prog 3 #[.agg #[.int .i64 s.a, .int .i64 s.b, .int .i64 s.c, .int .i64 s.d]] w (RetTrue w) := by
  have TX := fun w : World => text_ok s w hv
  have HT := Lib.hid TX
  have hpt := par_text s hv
  obtain ⟨S, hS2⟩ : ∃ S : ByteArray, ⟨(textT s).toArray⟩ = S := ⟨_, rfl⟩
  rw [hS2] at hpt HT
  have hsz : S.size ≤ 1000 := by omega
  have HP := Lib.hid hpt.1
  clear TX hS hv hpt hS2
  replace ht := ht.mono (below_alloc w (.cells #[.int .i64 s.a, .int .i64 s.b, .int .i64 s.c, .int .i64 s.d] 23))
  replace hg := hg.mono (below_alloc w (.cells #[.int .i64 s.a, .int .i64 s.b, .int .i64 s.c, .int .i64 s.d] 23))
  have v1 := Vals.newL w (w.heap.size) [.int .i64 s.a, .int .i64 s.b, .int .i64 s.c, .int .i64 s.d] 23 rfl
  have bb := below_alloc w (.cells #[.int .i64 s.a, .int .i64 s.b, .int .i64 s.c, .int .i64 s.d] 23)
  have B := bb
  clear bb
  go_enter Tryd.func3, Tryd.ntmps3
  go_wp2_with fail
  generalize (w.alloc (.cells #[.int .i64 s.a, .int .i64 s.b, .int .i64 s.c, .int .i64 s.d] 23)) = w0 at *
  skip
  refine (HT.out w0 ht).mono ?_
  rintro e w1 ⟨rfl, b1⟩
  replace ht := ht.mono b1
  replace hg := hg.mono b1
  replace v1 := v1.mono b1
  replace B := below_trans B b1
  clear b1
  go_wp2_with fail
  refine (parse_calls S _ hsz ht hg).mono ?_
  rintro e w2 ⟨rfl, b2⟩
  replace ht := ht.mono b2
  replace hg := hg.mono b2
  replace v1 := v1.mono b2
  replace B := below_trans B b2
  clear b2
  rw [HP.out]
  have cv10 := v1.cell (i := 0) (by simp)
  have cv11 := v1.cell (i := 1) (by simp)
  have cv12 := v1.cell (i := 2) (by simp)
  have cv13 := v1.cell (i := 3) (by simp)
  simp only [List.getD_cons_zero, List.getD_cons_succ] at cv10 cv11 cv12 cv13
  have ltv1 := v1.lt
  dsimp only
  go_wp2_with fail
  clear cv10 cv11 cv12 cv13 ltv1
  have v5 := Vals.newL w2 w2.heap.size [.int .i64 s.a, .int .i64 s.b, .int .i64 s.c, .int .i64 s.d] 23 rfl
  have bb := below_alloc w2 (.cells #[.int .i64 s.a, .int .i64 s.b, .int .i64 s.c, .int .i64 s.d] 23)
  replace ht := ht.mono bb
  replace hg := hg.mono bb
  replace v1 := v1.mono bb
  replace B := below_trans B bb
  clear bb
  generalize w2.alloc (.cells #[.int .i64 s.a, .int .i64 s.b, .int .i64 s.c, .int .i64 s.d] 23) = w3 at *
  refine (lives_calls _ ht).mono ?_
  rintro e w4 ⟨rfl, b4⟩
  replace ht := ht.mono b4
  replace hg := hg.mono b4
  replace v1 := v1.mono b4
  replace v5 := v5.mono b4
  replace B := below_trans B b4
  clear b4
  go_wp2
  go_ret
  exact ⟨rfl, B⟩

theorem walk_back (s : T4) (w : World) (hS : i64 s.a ∧ i64 s.b ∧ i64 s.c ∧ i64 s.d) (ht : Tab w) (hg : Glob w) :
    Calls Tryd.prog 3 #[.agg #[.int .i64 s.a, .int .i64 s.b, .int .i64 s.c, .int .i64 s.d]] w (RetTrue w) := by
  by_cases hv : validB s.a s.b s.c s.d = true
  · exact back_ok s w hS ht hg hv
  · exact back_bad s w hS ht hg (by simpa using hv)

end Go.Proofs
