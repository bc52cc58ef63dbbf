/- The walk of ToneBack: whatever comes in, it returns true and changes nothing that was there. -/
import Derived.Test.YtpflnpekcdjheaaGreatDoorTParse
open Go.RowKit Go.Deep
namespace Go.Proofs
set_option linter.unusedVariables false
set_option linter.unusedSimpArgs false

theorem textT_eq (x : T4) : textT x = (Lib.itoa x.a ++ 46 :: (Lib.itoa x.b ++ 46 :: Lib.itoa x.c)) ++ 47 :: Lib.itoa x.d := by
  unfold textT Lib.join
  simp [List.intercalate, List.intersperse]
theorem par_text (x : T4) (hv : validB x.a x.b x.c x.d = true) : parT ⟨(textT x).toArray⟩ = (x, 0) ∧ (⟨(textT x).toArray⟩ : ByteArray).size ≤ 32 := by
  have hp := validB_parts hv
  have hi := validB_i64 hv
  obtain ⟨⟨a0, a1⟩, ⟨b0, b1⟩, ⟨c0, c1⟩, ⟨d0, d1⟩⟩ := hi
  have la := itoa_len x.a (by omega)
  have lb := itoa_len x.b (by omega)
  have lc := itoa_len x.c (by omega)
  have ld := itoa_len x.d (by omega)
  have hsz : (⟨(textT x).toArray⟩ : ByteArray).size ≤ 32 := by
    rw [size_mk (textT x), textT_eq]
    simp only [List.length_append, List.length_cons]
    omega
  refine ⟨?_, hsz⟩
  have no47 : ∀ b ∈ Lib.itoa x.a ++ 46 :: (Lib.itoa x.b ++ 46 :: Lib.itoa x.c), b ≠ 47 := by
    intro b hb
    simp only [List.mem_append, List.mem_cons] at hb
    rcases hb with h | rfl | h | rfl | h
    · exact itoa_no _ 47 (.inr rfl) b h
    · decide
    · exact itoa_no _ 47 (.inr rfl) b h
    · decide
    · exact itoa_no _ 47 (.inr rfl) b h
  have hc := cut_at (Lib.itoa x.a ++ 46 :: (Lib.itoa x.b ++ 46 :: Lib.itoa x.c)) (Lib.itoa x.d) 47 no47
  rw [← textT_eq] at hc
  have h1 : headS ⟨(textT x).toArray⟩ = Lib.itoa x.a ++ 46 :: (Lib.itoa x.b ++ 46 :: Lib.itoa x.c) := by
    show (Lib.cut (textT x) [47]).1 = _
    rw [hc]
  have h2 : tailS ⟨(textT x).toArray⟩ = Lib.itoa x.d := by
    show (Lib.cut (textT x) [47]).2.1 = _
    rw [hc]
  have h3 : piecesS ⟨(textT x).toArray⟩ = [Lib.itoa x.a, Lib.itoa x.b, Lib.itoa x.c] := by
    unfold piecesS
    rw [h1]
    exact split_three _ _ _ 46 (itoa_no _ 46 (.inl rfl)) (itoa_no _ 46 (.inl rfl)) (itoa_no _ 46 (.inl rfl))
  have h4 : progT ⟨(textT x).toArray⟩ = x := by
    unfold progT
    rw [h3, h2]
    simp only [List.getD_cons_zero, List.getD_cons_succ]
    rw [av_itoa x.a a0 (by omega), av_itoa x.b b0 (by omega), av_itoa x.c c0 (by omega), av_itoa x.d d0 (by omega)]
  unfold parT progOk
  rw [h3, h4, hv, decide_eq_true (show [Lib.itoa x.a, Lib.itoa x.b, Lib.itoa x.c].length = 3 ∧ (⟨(textT x).toArray⟩ : ByteArray).size ≤ 32 from ⟨rfl, hsz⟩)]
  simp

end Go.Proofs
