/- tone: Text; the law's lives. -/
import Derived.Test.YtpflnpekcdjheaaGreatDoorToneB
import Derived.Test.YtpflnpekcdjheaaGreatDoorTone4
import Derived.Test.YtpflnpekcdjheaaGreatDoorShelf
import Derived.Lib.LaidTab
import Derived.Lib.AppendIntMem
import Derived.Lib.ItoaLen
open Go.RowKit Go.Deep
namespace Go.Proofs
set_option linter.unusedVariables false
set_option linter.unusedSimpArgs false

/-- the library's table of powers lies where it lies at the start -/
def Tab (w : World) : Prop := Lib.TabIs Tryz.prog w "internal/strconv.uint64pow10" .u64 Lib.pow10Tab

theorem Tab.mono {w w' : World} (h : Tab w) (hb : Below w.heap.size w w') : Tab w' := by
  unfold Tab Lib.TabIs World.var? at *
  cases hg : Tryz.prog.globalNamed "internal/strconv.uint64pow10" with
  | none => rw [hg] at h; simp at h
  | some g =>
    rw [hg] at h
    simp only [Option.bind_some] at h ⊢
    by_cases hl : g < w.heap.size
    · rw [hb.block g hl]; exact h
    · rw [Array.getElem?_eq_none (by omega)] at h
      simp at h

theorem Tab.drew {w : World} (h : Tab w) : Tab w.drew := h
theorem Tab.drewN {w : World} (h : Tab w) (n : Nat) : Tab (w.drewN n) := h

/-- a number's text -/
theorem itoa_calls (n : Int) (w : World) (hn : i64 n) (ht : Tab w) :
    Calls Tryz.prog 17 #[.int .i64 n] w fun e w' => e = .returned (.string ⟨(Lib.itoa n).toArray⟩) ∧ Below w.heap.size w w' :=
  (Tryz.strconv_Itoa n hn.1 hn.2 w ht).mono fun e w' ⟨he, k, os, hw⟩ => ⟨he, by rw [hw]; exact Lib.below_grow _ w (Nat.le_refl _) k os⟩

/-- three texts joined -/
theorem join3 (s : T4) (b : Nat) (w : World) (hA : i64 s.a ∧ i64 s.b ∧ i64 s.c ∧ i64 s.d) (h : Vals w b [.string ⟨(Lib.itoa s.a).toArray⟩, .string ⟨(Lib.itoa s.b).toArray⟩, .string ⟨(Lib.itoa s.c).toArray⟩]) :
    Calls Tryz.prog 18 #[.slice (some ⟨b, 0, none⟩) 3 3, .string ⟨#[46]⟩] w fun e w' => e = .returned (.string ⟨(Lib.join [Lib.itoa s.a, Lib.itoa s.b, Lib.itoa s.c] [46]).toArray⟩) ∧ Below w.heap.size w w' := by
  have l1 := Lib.itoa_length_le s.a hA.1.1 hA.1.2
  have l2 := Lib.itoa_length_le s.b hA.2.1.1 hA.2.1.2
  have l3 := Lib.itoa_length_le s.c hA.2.2.1.1 hA.2.2.1.2
  have hj := Tryz.strings_Join b 0 3 [⟨(Lib.itoa s.a).toArray⟩, ⟨(Lib.itoa s.b).toArray⟩, ⟨(Lib.itoa s.c).toArray⟩] ⟨#[46]⟩ w
    (by intro j x hx
        match j, hx with
        | 0, hx => simp at hx; subst hx; exact h.cell (i := 0) (by simp)
        | 1, hx => simp at hx; subst hx; exact h.cell (i := 1) (by simp)
        | 2, hx => simp at hx; subst hx; exact h.cell (i := 2) (by simp)
        | j + 3, hx => simp at hx)
    h.lt (by simp) (by simp) (by simp [Lib.join, List.intercalate, List.intersperse]; omega)
  exact hj

/-- a tone's text -/
def textT (s : T4) : List UInt8 := Lib.join [Lib.itoa s.a, Lib.itoa s.b, Lib.itoa s.c] [46] ++ [47] ++ Lib.itoa s.d

set_option maxRecDepth 100000 in
theorem text_ok (s : T4) (w : World) (hs : validB s.a s.b s.c s.d = true) (ht : Tab w) :
    Calls Tryz.prog 6 #[.agg #[.int .i64 s.a, .int .i64 s.b, .int .i64 s.c, .int .i64 s.d]] w fun e w' => e = .returned (.tuple #[.string ⟨(textT s).toArray⟩, .int .i64 0]) ∧ Below w.heap.size w w' := by
  have VA := fun w : World => tvalid_calls s.a s.b s.c s.d w (validB_i64 hs).1 (validB_i64 hs).2.1 (validB_i64 hs).2.2.1 (validB_i64 hs).2.2.2
  rw [hs] at VA
  have HA := Lib.hid VA
  have I1 := fun w : World => itoa_calls s.a w (validB_i64 hs).1
  have I2 := fun w : World => itoa_calls s.b w (validB_i64 hs).2.1
  have I3 := fun w : World => itoa_calls s.c w (validB_i64 hs).2.2.1
  have I4 := fun w : World => itoa_calls s.d w (validB_i64 hs).2.2.2
  have HI1 := Lib.hid I1
  have HI2 := Lib.hid I2
  have HI3 := Lib.hid I3
  have J := fun (w : World) (b : Nat) (h : Vals w b _) => join3 s b w (validB_i64 hs) h
  have l1 := Lib.itoa_length_le s.a (validB_i64 hs).1.1 (validB_i64 hs).1.2
  have l2 := Lib.itoa_length_le s.b (validB_i64 hs).2.1.1 (validB_i64 hs).2.1.2
  have l3 := Lib.itoa_length_le s.c (validB_i64 hs).2.2.1.1 (validB_i64 hs).2.2.1.2
  have l4 := Lib.itoa_length_le s.d (validB_i64 hs).2.2.2.1 (validB_i64 hs).2.2.2.2
  obtain ⟨j, ej⟩ : ∃ j : ByteArray, (⟨(Lib.join [Lib.itoa s.a, Lib.itoa s.b, Lib.itoa s.c] [46]).toArray⟩ : ByteArray) = j := ⟨_, rfl⟩
  obtain ⟨t4, e4⟩ : ∃ j : ByteArray, (⟨(Lib.itoa s.d).toArray⟩ : ByteArray) = j := ⟨_, rfl⟩
  have z1 : j.size ≤ 100 := by
    rw [← ej]
    simp [ByteArray.size, Lib.join, List.intercalate, List.intersperse]; omega
  have z2 : t4.size ≤ 100 := by
    rw [← e4]
    simp [ByteArray.size]; omega
  have hfin : (⟨(textT s).toArray⟩ : ByteArray) = j ++ ⟨#[47]⟩ ++ t4 := by
    rw [← ej, ← e4]
    apply ByteArray.ext
    simp [textT]
  have HFIN := Lib.hid hfin
  simp only [ej] at J
  simp only [e4] at I4
  have HJ := Lib.hid J
  have HI4 := Lib.hid I4
  have c1 : ¬ (j.size + 1 > 9223372036854775807) := by omega
  have c2 : ¬ (j.size + 1 + t4.size > 9223372036854775807) := by omega
  clear VA I1 I2 I3 I4 J hs l1 l2 l3 l4 ej e4 hfin
  have vs := Vals.newL w (w.heap.size) [.int .i64 s.a, .int .i64 s.b, .int .i64 s.c, .int .i64 s.d] 23 rfl
  have bb := below_alloc w (.cells #[.int .i64 s.a, .int .i64 s.b, .int .i64 s.c, .int .i64 s.d] 23)
  have B := bb
  have bb0 := B
  clear bb
  go_enter Tryz.func6, Tryz.ntmps6
  go_wp2_with fail
  generalize (w.alloc (.cells #[.int .i64 s.a, .int .i64 s.b, .int .i64 s.c, .int .i64 s.d] 23)) = w0 at *
  replace ht := ht.mono bb0
  clear bb0
  refine (HA.out _).mono ?_
  rintro e w1 ⟨rfl, b1⟩
  replace vs := vs.mono b1
  replace ht := ht.mono b1
  replace B := below_trans B b1
  clear b1
  go_upto_region 3 with (fail)
  go_region_held3 (fun w' => w'.cell? ⟨w.heap.size, 0, none⟩ = some (.int .i64 s.a) ∧ w'.cell? ⟨w.heap.size, 1, none⟩ = some (.int .i64 s.b) ∧ w'.cell? ⟨w.heap.size, 2, none⟩ = some (.int .i64 s.c) ∧ w'.cell? ⟨w.heap.size, 3, none⟩ = some (.int .i64 s.d))
    (first | exact vals4 vs | exact vals4 vs.drew | exact vals4 (vs.alloc _))
    (first | (go_at_call_of 17 (Value.int .i64 s.a); refine (HI1.out _ ht.drew).mono ?_; rintro e w5 ⟨rfl, b5⟩; replace vs := vs.drew.mono b5; replace ht := ht.drew.mono b5; replace B := below_trans B.drew b5; clear b5)
           | (go_at_call_of 17 (Value.int .i64 s.b); refine (HI2.out _ ht).mono ?_; rintro e w6 ⟨rfl, b6⟩; replace vs := vs.mono b6; replace ht := ht.mono b6; replace B := below_trans B b6; clear b6)
           | (go_at_call_of 17 (Value.int .i64 s.c); refine (HI3.out _ ht).mono ?_; rintro e w7 ⟨rfl, b7⟩; replace vs := vs.mono b7; replace ht := ht.mono b7; replace B := below_trans B b7; clear b7))
  have vt := Vals.newL w7 w7.heap.size [.string ⟨(Lib.itoa s.a).toArray⟩, .string ⟨(Lib.itoa s.b).toArray⟩, .string ⟨(Lib.itoa s.c).toArray⟩] 9 rfl
  have bb := below_alloc w7 (.cells #[.string ⟨(Lib.itoa s.a).toArray⟩, .string ⟨(Lib.itoa s.b).toArray⟩, .string ⟨(Lib.itoa s.c).toArray⟩] 9)
  replace vs := vs.mono bb
  replace ht := ht.mono bb
  replace B := below_trans B bb
  clear bb
  go_upto_region 4 with (fail)
  generalize w7.alloc (.cells #[.string ⟨(Lib.itoa s.a).toArray⟩, .string ⟨(Lib.itoa s.b).toArray⟩, .string ⟨(Lib.itoa s.c).toArray⟩] 9) = w8 at *
  clear HI1 HI2 HI3 HA
  go_region_held3 (fun w' => w'.cell? ⟨w.heap.size, 0, none⟩ = some (.int .i64 s.a) ∧ w'.cell? ⟨w.heap.size, 1, none⟩ = some (.int .i64 s.b) ∧ w'.cell? ⟨w.heap.size, 2, none⟩ = some (.int .i64 s.c) ∧ w'.cell? ⟨w.heap.size, 3, none⟩ = some (.int .i64 s.d))
    (first | exact vals4 vs | exact vals4 vs.drew)
    (first | (go_at_call 18; refine (HJ.out _ _ vt.drew).mono ?_; rintro e w9 ⟨rfl, b5⟩; replace vs := vs.drew.mono b5; replace ht := ht.drew.mono b5; replace B := below_trans B.drew b5; clear b5)
           | (go_at_call 17; refine (HI4.out _ ht).mono ?_; rintro e w10 ⟨rfl, b6⟩; replace vs := vs.mono b6; replace ht := ht.mono b6; replace B := below_trans B b6; clear b6))
  go_wp2
  go_ret2
  refine ⟨?_, B⟩
  rw [HFIN.out]
  rfl

set_option maxRecDepth 100000 in
theorem text_bad (s : T4) (w : World) (hA : i64 s.a ∧ i64 s.b ∧ i64 s.c ∧ i64 s.d) (hs : validB s.a s.b s.c s.d = false) :
    Calls Tryz.prog 6 #[.agg #[.int .i64 s.a, .int .i64 s.b, .int .i64 s.c, .int .i64 s.d]] w fun e w' => e = .returned (.tuple #[.string ⟨#[]⟩, .int .i64 2]) ∧ Below w.heap.size w w' := by
  have VA := fun w : World => tvalid_calls s.a s.b s.c s.d w hA.1 hA.2.1 hA.2.2.1 hA.2.2.2
  rw [hs] at VA
  have HA := Lib.hid VA
  clear VA hs hA
  have vs := Vals.newL w (w.heap.size) [.int .i64 s.a, .int .i64 s.b, .int .i64 s.c, .int .i64 s.d] 23 rfl
  have bb := below_alloc w (.cells #[.int .i64 s.a, .int .i64 s.b, .int .i64 s.c, .int .i64 s.d] 23)
  have B := bb
  clear bb
  go_enter Tryz.func6, Tryz.ntmps6
  go_wp2_with fail
  generalize (w.alloc (.cells #[.int .i64 s.a, .int .i64 s.b, .int .i64 s.c, .int .i64 s.d] 23)) = w0 at *
  refine (HA.out _).mono ?_
  rintro e w1 ⟨rfl, b1⟩
  replace vs := vs.mono b1
  replace B := below_trans B b1
  clear b1
  go_wp2
  go_ret2
  exact ⟨rfl, B⟩


theorem fifth_ok : validB (-1) 1 0 1 = true := by unfold validB gcd4 gcdN; decide
theorem fifth_pow : powT ⟨-1, 1, 0, 1⟩ 1 2 = (⟨-1, 1, 0, 2⟩, 0) := redT_self (a := -1) (b := 1) (c := 0) (d := 2) (by unfold validB gcd4 gcdN; decide) |> fun h => by unfold powT; exact h
theorem fifth_cents : centsT ⟨-1, 1, 0, 1⟩ = 701 := by
  unfold centsT fl
  decide +kernel
theorem fifth_text : textT ⟨-1, 1, 0, 1⟩ = [45, 49, 46, 49, 46, 48, 47, 49] := by
  have e1 : Lib.decDigits 1 = [49] := by rw [Lib.decDigits_one (by omega)]; rfl
  have e0 : Lib.decDigits 0 = [48] := by rw [Lib.decDigits_one (by omega)]; rfl
  have i1 : Lib.itoa (-1) = [45, 49] := by
    show (if (-1 : Int) < 0 then 45 :: Lib.decDigits 1 else _) = _
    rw [if_pos (by omega), e1]
  have i2 : Lib.itoa 1 = [49] := e1
  have i3 : Lib.itoa 0 = [48] := e0
  unfold textT
  rw [i1, i2, i3]
  rfl

/-- the law's call returned true, and changed nothing that was there -/
def RetTrue (w : World) (e : Ending) (w' : World) : Prop := e = .returned (.bool true) ∧ Below w.heap.size w w'

set_option maxRecDepth 100000 in
theorem lives_calls (w : World) (ht : Tab w) : Calls Tryz.prog 8 #[] w (RetTrue w) := by
  have P := fun w : World => powerT_ok ⟨-1, 1, 0, 1⟩ 1 2 w fifth_ok (by unfold i64; omega) (by unfold i64; omega) (by omega)
  rw [fifth_pow] at P
  have C := fun w : World => cents_ok ⟨-1, 1, 0, 1⟩ w fifth_ok
  rw [fifth_cents] at C
  have T := fun (w : World) (h : Tab w) => text_ok ⟨-1, 1, 0, 1⟩ w fifth_ok h
  rw [fifth_text] at T
  have HP := Lib.hid P
  have HC := Lib.hid C
  have HT := Lib.hid T
  clear P C T
  have vs := Vals.newL w (w.heap.size) [.int .i64 (-1), .int .i64 1, .int .i64 0, .int .i64 1] 23 rfl
  have bb := below_alloc w (.cells #[.int .i64 (-1), .int .i64 1, .int .i64 0, .int .i64 1] 23)
  have B := bb
  have bb0 := B
  clear bb
  go_enter Tryz.func8, Tryz.ntmps8
  go_wp2_with fail
  generalize (w.alloc (.cells #[.int .i64 (-1), .int .i64 1, .int .i64 0, .int .i64 1] 23)) = w0 at *
  replace ht := ht.mono bb0
  clear bb0
  refine (HP.out _).mono ?_
  rintro e w1 ⟨rfl, b1⟩
  replace vs := vs.mono b1
  replace ht := ht.mono b1
  replace B := below_trans B b1
  clear b1
  have cvs0 := vs.cell (i := 0) (by simp)
  have cvs1 := vs.cell (i := 1) (by simp)
  have cvs2 := vs.cell (i := 2) (by simp)
  have cvs3 := vs.cell (i := 3) (by simp)
  simp only [List.getD_cons_zero, List.getD_cons_succ] at cvs0 cvs1 cvs2 cvs3
  have ltvs := vs.lt
  go_wp2_with fail
  clear cvs0 cvs1 cvs2 cvs3 ltvs
  have vp := Vals.newL w1 w1.heap.size [.int .i64 (-1), .int .i64 1, .int .i64 0, .int .i64 2] 23 rfl
  have bb := below_alloc w1 (.cells #[.int .i64 (-1), .int .i64 1, .int .i64 0, .int .i64 2] 23)
  replace vs := vs.mono bb
  replace ht := ht.mono bb
  replace B := below_trans B bb
  clear bb
  generalize w1.alloc (.cells #[.int .i64 (-1), .int .i64 1, .int .i64 0, .int .i64 2] 23) = w2 at *
  refine (HC.out _).mono ?_
  rintro e w3 ⟨rfl, b3⟩
  replace vs := vs.mono b3
  replace ht := ht.mono b3
  replace vp := vp.mono b3
  replace B := below_trans B b3
  clear b3
  have cvs0 := vs.cell (i := 0) (by simp)
  have cvs1 := vs.cell (i := 1) (by simp)
  have cvs2 := vs.cell (i := 2) (by simp)
  have cvs3 := vs.cell (i := 3) (by simp)
  simp only [List.getD_cons_zero, List.getD_cons_succ] at cvs0 cvs1 cvs2 cvs3
  have ltvs := vs.lt
  go_wp2_with fail
  clear cvs0 cvs1 cvs2 cvs3 ltvs
  refine (HT.out _ ht).mono ?_
  rintro e w4 ⟨rfl, b4⟩
  replace vs := vs.mono b4
  replace ht := ht.mono b4
  replace vp := vp.mono b4
  replace B := below_trans B b4
  clear b4
  have cvp0 := vp.cell (i := 0) (by simp)
  have cvp1 := vp.cell (i := 1) (by simp)
  have cvp2 := vp.cell (i := 2) (by simp)
  have cvp3 := vp.cell (i := 3) (by simp)
  simp only [List.getD_cons_zero, List.getD_cons_succ] at cvp0 cvp1 cvp2 cvp3
  have ltvp := vp.lt
  go_wp2
  go_ret
  exact ⟨rfl, B⟩

end Go.Proofs
