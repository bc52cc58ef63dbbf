/- The reference's against, floor, binary. The reference's Cmp and Cents. The reference's Log; the law's one. -/
import Derived.Test.YtnogieknjcbchaaDoorTRef
import Derived.Test.YtnogieknjcbchaaDoorToneB
import Derived.Test.YtnogieknjcbchaaDoorRefB
import Derived.Test.YtnogieknjcbchaaDoorRefA
import Derived.Test.YtnogieknjcbchaaDoorTRef4
import Derived.Deep.RegionHeld3
open Go.RowKit Go.Deep
namespace Go.Proofs
set_option linter.unusedVariables false
set_option linter.unusedSimpArgs false

theorem ragainst_calls (v1 v2 : Value) (A B : Nat) (m r : Int) (w : World) (h1 : Num w v1 A) (h2 : Num w v2 B) (hm : m.natAbs ≤ 300000000) (lA : (limbs A).length ≤ 262000) (lB : (limbs B).length ≤ 262000)
    (hr : cmpInt (A * 2 ^ (-m).toNat) (B * 2 ^ m.toNat) = r) :
    Calls Tryd.prog 44 #[v1, v2, .int .i64 m] w (RetInt w r) := by
  by_cases h0 : 0 ≤ m
  · obtain ⟨n, rfl⟩ : ∃ n : Nat, m = (n : Int) := ⟨m.toNat, by omega⟩
    have l1 := limbs_length_mul B (2 ^ n)
    have l2 := limbs_two n
    rw [show (-(n : Int)).toNat = 0 by omega, Int.toNat_natCast, Nat.pow_zero, Nat.mul_one] at hr
    have HR := Lib.hid hr
    have l3 : n ≤ 300000000 := by omega
    clear hr hm h0
    go_enter Tryd.func44, Tryd.ntmps44
    go_wp2_with fail
    refine (rleft_calls v2 B n _ _ h2 (by rfl) (by omega) (by omega)).mono ?_
    rintro e w1 ⟨v3, rfl, h3, _, b1⟩
    replace h1 := h1.mono b1
    go_wp2_with fail
    refine (rcmp_calls v1 v3 A (B * 2 ^ n) _ r h1 h3 HR.out (by omega) (by omega)).mono ?_
    rintro e w2 ⟨rfl, b2⟩
    go_wp2
    go_ret
    exact ⟨rfl, below_trans b1 b2⟩
  · obtain ⟨n, rfl⟩ : ∃ n : Nat, m = -(n : Int) := ⟨m.natAbs, by omega⟩
    have l1 := limbs_length_mul A (2 ^ n)
    have l2 := limbs_two n
    rw [Int.neg_neg, show (-(n : Int)).toNat = 0 by omega, Int.toNat_natCast, Nat.pow_zero, Nat.mul_one] at hr
    have HR := Lib.hid hr
    have l3 : n ≤ 300000000 := by omega
    have l4 : 0 < n := by omega
    clear hr hm h0
    go_enter Tryd.func44, Tryd.ntmps44
    go_wp2_with fail
    refine (rleft_calls v1 A n _ _ h1 (by omega) (by omega) (by omega)).mono ?_
    rintro e w1 ⟨v3, rfl, h3, _, b1⟩
    replace h2 := h2.mono b1
    go_wp2_with fail
    refine (rcmp_calls v3 v2 (A * 2 ^ n) B _ r h3 h2 HR.out (by omega) (by omega)).mono ?_
    rintro e w2 ⟨rfl, b2⟩
    go_wp2
    go_ret
    exact ⟨rfl, below_trans b1 b2⟩

/-- the reference's floor: a quotient that is rounded down -/
theorem rfloor_calls (a b : Int) (w : World) (ha : -9223372036854775807 ≤ a ∧ a ≤ 9223372036854775807) (hb : 1 ≤ b ∧ b ≤ 9223372036854775807) :
    Calls Tryd.prog 66 #[.int .i64 a, .int .i64 b] w fun e w' => e = .returned (.int .i64 (a / b)) ∧ w' = w := by
  have hp := parted_eq a b (by omega)
  have hb0 : (b == 0) = false := by rw [beq_eq_false_iff_ne]; omega
  have h1 : (a.tdiv b).natAbs ≤ a.natAbs := by
    rw [Int.natAbs_tdiv]
    exact Nat.div_le_self _ _
  have k1 : wrap64 (a.tdiv b) = a.tdiv b := by unfold wrap64; omega
  obtain ⟨q, hq⟩ : ∃ q, a / b = q := ⟨_, rfl⟩
  rw [hq] at hp ⊢
  by_cases hr : a.tmod b < 0
  · rw [if_pos hr] at hp
    have HP := Lib.hid hp
    clear hp hq
    go_enter Tryd.func66, Tryd.ntmps66
    go_wp2
    go_ret
    exact ⟨ret_num HP.out, rfl⟩
  · rw [if_neg hr] at hp
    have HP := Lib.hid hp
    clear hp hq
    go_enter Tryd.func66, Tryd.ntmps66
    go_wp2
    go_ret
    exact ⟨ret_num HP.out, rfl⟩

set_option maxRecDepth 100000 in
theorem rbinary_calls (v1 v2 : Value) (A B : Nat) (d : Int) (w : World) (h1 : Num w v1 A) (h2 : Num w v2 B) (hA : A ≠ 0) (hB : B ≠ 0) (hd : 1 ≤ d ∧ d ≤ 24) (lA : (limbs A).length ≤ 262000) (lB : (limbs B).length ≤ 262000) :
    Calls Tryd.prog 43 #[v1, v2, .int .i64 d] w fun e w' => e = .returned (.int .i64 (flr A B / d)) ∧ Below w.heap.size w w' := by
  have bA := bitlen_le_limbs A
  have bB := bitlen_le_limbs B
  obtain ⟨s1, s2, s3⟩ := flr_spec hA hB
  have fu : flr A B ≤ (bitlen A : Int) - bitlen B := by unfold flr; split <;> omega
  have test : ∀ m : Int, 0 ≤ cmpInt (A * 2 ^ (-((m + 1) * d)).toNat) (B * 2 ^ ((m + 1) * d).toNat) ↔ m + 1 ≤ flr A B / d := by
    intro m
    rw [← leP_cmp, leP_iff hA hB, Int.le_ediv_iff_mul_le (by omega)]
  have start : ((bitlen A : Int) - bitlen B - 1) / d ≤ flr A B / d := Int.ediv_le_ediv (by omega) s3
  have q1 : flr A B / d < 8388700 := Int.ediv_lt_of_lt_mul (by omega) (by omega)
  have q2 : -8388700 ≤ ((bitlen A : Int) - bitlen B - 1) / d := (Int.le_ediv_iff_mul_le (by omega)).2 (by omega)
  have FL := fun w : World => rfloor_calls ((bitlen A : Int) - bitlen B - 1) d w (by omega) (by omega)
  have L1 := fun (v : Value) (w : World) (h : Num w v A) => rbits_calls v A w h (by omega)
  have L2 := fun (v : Value) (w : World) (h : Num w v B) => rbits_calls v B w h (by omega)
  clear s1 s2 s3 fu
  generalize flr A B / d = q at *
  generalize ((bitlen A : Int) - bitlen B - 1) / d = m0 at *
  generalize bitlen A = bm at *
  generalize bitlen B = bn at *
  have HFL := Lib.hid FL
  have HL1 := Lib.hid L1
  have HL2 := Lib.hid L2
  have HT := Lib.hid test
  have n1 : (bm : Int) ≤ 8388608 := by omega
  have n2 : (bn : Int) ≤ 8388608 := by omega
  clear FL L1 L2 test bA bB hA hB
  go_enter Tryd.func43, Tryd.ntmps43
  go_wp2_with fail
  refine (HL1.out _ _ h1).mono ?_
  rintro e w1 ⟨rfl, rfl⟩
  go_wp2_with fail
  refine (HL2.out _ _ h2).mono ?_
  rintro e w2 ⟨rfl, rfl⟩
  go_wp2_with fail
  refine (HFL.out _).mono ?_
  rintro e w3 ⟨rfl, rfl⟩
  go_wp2
  go_loopw [7] (fun mv wr => ∃ m : Int, mv = .int .i64 m ∧ m0 ≤ m ∧ m ≤ q ∧ Below w3.heap.size w3 wr)
    (fun mv _ => (q - intOf mv).toNat)
  case atStart => exact ⟨m0, rfl, by omega, start, Below.refl _ _⟩
  case round =>
    obtain ⟨m, rfl, g1, g2, hbel⟩ := hrel
    have h3 := h1.mono hbel
    have h4 := h2.mono hbel
    have hn : ((m + 1) * d).natAbs ≤ 8388710 * 24 := by
      rw [Int.natAbs_mul]
      exact Nat.mul_le_mul (by omega) (by omega)
    have hw : IntKind.i64.wrap ((m + 1) * d) = (m + 1) * d := IntWalk.i64_in _ (by omega)
    have ht := HT.out m
    obtain ⟨c, hc⟩ : ∃ c, cmpInt (A * 2 ^ (-((m + 1) * d)).toNat) (B * 2 ^ ((m + 1) * d).toNat) = c := ⟨_, rfl⟩
    rw [hc] at ht
    have HC := Lib.hid hc
    clear hc
    by_cases hz : 0 ≤ c
    · have g3 := ht.1 hz
      have HN := Lib.hid hn
      have HTT := Lib.hid ht
      clear ht hn
      go_wp2_with fail
      refine (ragainst_calls v1 v2 A B _ c _ h3 h4 (by have := HN.out; omega) lA lB HC.out).mono ?_
      rintro e w4 ⟨rfl, b4⟩
      go_wp2
      go_roundw
      case rel => exact ⟨m + 1, rfl, by omega, by omega, below_trans hbel b4⟩
      case measure => simp [intOf]; omega
    · have g3 : m = q := by omega
      have HN := Lib.hid hn
      have HG := Lib.hid g3
      clear ht hn g3
      go_wp2_with fail
      refine (ragainst_calls v1 v2 A B _ c _ h3 h4 (by have := HN.out; omega) lA lB HC.out).mono ?_
      rintro e w4 ⟨rfl, b4⟩
      go_wp2
      go_ret
      exact ⟨ret_num HG.out, below_trans hbel b4⟩

end Go.Proofs

open Go.RowKit Go.Deep
namespace Go.Proofs
set_option linter.unusedVariables false
set_option linter.unusedSimpArgs false

set_option maxRecDepth 100000 in
theorem rcmpT_ok (s t : T4) (w : World) (hs : validB s.a s.b s.c s.d = true) (ht : validB t.a t.b t.c t.d = true) :
    Calls Tryd.prog 11 #[.agg #[.int .i64 s.a, .int .i64 s.b, .int .i64 s.c, .int .i64 s.d], .agg #[.int .i64 t.a, .int .i64 t.b, .int .i64 t.c, .int .i64 t.d]] w fun e w' => e = .returned (.int .i64 (cmpT s t)) ∧ Below w.heap.size w w' := by
  obtain ⟨p1, p2, p3, p4, p5, p6⟩ := validB_parts hs
  obtain ⟨q1, q2, q3, q4, q5, q6⟩ := validB_parts ht
  obtain ⟨g1, k1⟩ := dif_parts (a := s.a) (x := t.a) (d := s.d) (u := t.d) (by omega) (by omega) (by omega) (by omega)
  obtain ⟨g2, k2⟩ := dif_parts (a := s.b) (x := t.b) (d := s.d) (u := t.d) (by omega) (by omega) (by omega) (by omega)
  obtain ⟨g3, k3⟩ := dif_parts (a := s.c) (x := t.c) (d := s.d) (u := t.d) (by omega) (by omega) (by omega) (by omega)
  have R := fun w : World => rsides_calls (s.a * t.d - t.a * s.d) (s.b * t.d - t.b * s.d) (s.c * t.d - t.c * s.d) w (by omega) (by omega) (by omega)
  have l1 := over_len (a := s.a * t.d - t.a * s.d) (b := s.b * t.d - t.b * s.d) (c := s.c * t.d - t.c * s.d) (by omega) (by omega) (by omega)
  have l2 := under_len (a := s.a * t.d - t.a * s.d) (b := s.b * t.d - t.b * s.d) (c := s.c * t.d - t.c * s.d) (by omega) (by omega) (by omega)
  have e0 : cmpT s t = cmpInt (overN (s.a * t.d - t.a * s.d) (s.b * t.d - t.b * s.d) (s.c * t.d - t.c * s.d)) (underN (s.a * t.d - t.a * s.d) (s.b * t.d - t.b * s.d) (s.c * t.d - t.c * s.d)) := rfl
  rw [e0]
  have C := fun (v1 v2 : Value) (w : World) (h1 : Num w v1 _) (h2 : Num w v2 _) => rcmp_calls v1 v2 (overN (s.a * t.d - t.a * s.d) (s.b * t.d - t.b * s.d) (s.c * t.d - t.c * s.d)) (underN (s.a * t.d - t.a * s.d) (s.b * t.d - t.b * s.d) (s.c * t.d - t.c * s.d)) w _ h1 h2 rfl (by omega) (by omega)
  generalize overN (s.a * t.d - t.a * s.d) (s.b * t.d - t.b * s.d) (s.c * t.d - t.c * s.d) = O at *
  generalize underN (s.a * t.d - t.a * s.d) (s.b * t.d - t.b * s.d) (s.c * t.d - t.c * s.d) = U at *
  generalize cmpInt O U = r at *
  have HR := Lib.hid R
  have HC := Lib.hid C
  have K1 := Lib.hid k1
  have K2 := Lib.hid k2
  have K3 := Lib.hid k3
  clear R C hs ht p1 p2 p3 p4 p5 p6 q1 q2 q3 q4 q5 q6 g1 g2 g3 k1 k2 k3 l1 l2 e0
  have vs := Vals.newL w (w.heap.size) [.int .i64 s.a, .int .i64 s.b, .int .i64 s.c, .int .i64 s.d] 23 rfl
  have bb := below_alloc w (.cells #[.int .i64 s.a, .int .i64 s.b, .int .i64 s.c, .int .i64 s.d] 23)
  have B := bb
  have sz0 := World.size_alloc w (.cells #[.int .i64 s.a, .int .i64 s.b, .int .i64 s.c, .int .i64 s.d] 23)
  have sz := sz0
  clear sz0
  clear bb
  have vt := Vals.newL (w.alloc (.cells #[.int .i64 s.a, .int .i64 s.b, .int .i64 s.c, .int .i64 s.d] 23)) (w.heap.size + 1) [.int .i64 t.a, .int .i64 t.b, .int .i64 t.c, .int .i64 t.d] 23 sz.symm
  have bb := below_alloc (w.alloc (.cells #[.int .i64 s.a, .int .i64 s.b, .int .i64 s.c, .int .i64 s.d] 23)) (.cells #[.int .i64 t.a, .int .i64 t.b, .int .i64 t.c, .int .i64 t.d] 23)
  replace vs := vs.mono bb
  replace B := below_trans B bb
  clear sz
  clear bb
  go_enter Tryd.func11, Tryd.ntmps11
  go_wp2_with fail
  generalize ((w.alloc (.cells #[.int .i64 s.a, .int .i64 s.b, .int .i64 s.c, .int .i64 s.d] 23)).alloc (.cells #[.int .i64 t.a, .int .i64 t.b, .int .i64 t.c, .int .i64 t.d] 23)) = w0 at *
  have cvs0 := vs.cell (i := 0) (by simp)
  have cvs1 := vs.cell (i := 1) (by simp)
  have cvs2 := vs.cell (i := 2) (by simp)
  have cvs3 := vs.cell (i := 3) (by simp)
  simp only [List.getD_cons_zero, List.getD_cons_succ] at cvs0 cvs1 cvs2 cvs3
  have ltvs := vs.lt
  have cvt0 := vt.cell (i := 0) (by simp)
  have cvt1 := vt.cell (i := 1) (by simp)
  have cvt2 := vt.cell (i := 2) (by simp)
  have cvt3 := vt.cell (i := 3) (by simp)
  simp only [List.getD_cons_zero, List.getD_cons_succ] at cvt0 cvt1 cvt2 cvt3
  have ltvt := vt.lt
  try go_wp2_with fail
  clear cvs0 cvs1 cvs2 cvs3 ltvs cvt0 cvt1 cvt2 cvt3 ltvt
  rw [K1.out, K2.out, K3.out]
  refine (HR.out _).mono ?_
  rintro e w1 ⟨v1, v2, rfl, h5, h6, b1⟩
  replace vs := vs.mono b1
  replace vt := vt.mono b1
  replace B := below_trans B b1
  clear b1
  go_wp2_with fail
  refine (HC.out _ _ _ h5 h6).mono ?_
  rintro e w2 ⟨rfl, b2⟩
  replace vs := vs.mono b2
  replace vt := vt.mono b2
  replace h5 := h5.mono b2
  replace h6 := h6.mono b2
  replace B := below_trans B b2
  clear b2
  go_wp2
  go_ret
  exact ⟨rfl, B⟩

end Go.Proofs

open Go.RowKit Go.Deep
namespace Go.Proofs
set_option linter.unusedVariables false
set_option linter.unusedSimpArgs false

theorem abs_mul_den {a d : Int} (h1 : a.natAbs ≤ 960) (h2 : 1 ≤ d ∧ d ≤ 1200) : (a * d).natAbs ≤ 1200000 := by
  have := Nat.mul_le_mul h1 (show d.natAbs ≤ 1200 by omega)
  rw [← Int.natAbs_mul] at this
  omega

/-- what Log answers: a comparison of the tone to a power with a power of 2 -/
def logI (s : T4) (n d : Int) : Int := cmpInt (overN (s.a * d) (s.b * d) (s.c * d) * 2 ^ (-(n * s.d)).toNat) (underN (s.a * d) (s.b * d) (s.c * d) * 2 ^ (n * s.d).toNat)

theorem logI_ge (s : T4) (n d : Int) : 0 ≤ logI s n d ↔ n * s.d ≤ fl ⟨s.a * d, s.b * d, s.c * d⟩ := by
  unfold logI
  rw [← leP_cmp, leP_iff (over_ne _ _ _) (under_ne _ _ _)]
  rfl

theorem log_cents {s : T4} (hd : 1 ≤ s.d) (n : Int) : 0 ≤ logI s n 1200 ↔ n ≤ centsT s := by
  rw [logI_ge, Int.mul_comm s.a, Int.mul_comm s.b, Int.mul_comm s.c]
  unfold centsT
  rw [Int.le_ediv_iff_mul_le (by omega)]

set_option maxRecDepth 100000 in
theorem rlog_gen (s : T4) (n d r : Int) (w : World) (hs : validB s.a s.b s.c s.d = true) (hu1 : (s.a * d).natAbs ≤ 1200000) (hu2 : (s.b * d).natAbs ≤ 1200000) (hu3 : (s.c * d).natAbs ≤ 1200000) (hn : n.natAbs ≤ 2000000) (hr : logI s n d = r) :
    Calls Tryd.prog 20 #[.agg #[.int .i64 s.a, .int .i64 s.b, .int .i64 s.c, .int .i64 s.d], .int .i64 n, .int .i64 d] w (RetInt w r) := by
  obtain ⟨p1, p2, p3, p4, p5, p6⟩ := validB_parts hs
  have hu4 : (n * s.d).natAbs ≤ 2000000 * 24 := by
    rw [Int.natAbs_mul]
    exact Nat.mul_le_mul hn (by omega)
  have R := fun w : World => rsides_calls (s.a * d) (s.b * d) (s.c * d) w hu1 hu2 hu3
  have l1 := over_len hu1 hu2 hu3
  have l2 := under_len hu1 hu2 hu3
  unfold logI at hr
  have C := fun (v1 v2 : Value) (w : World) (h1 : Num w v1 _) (h2 : Num w v2 _) => ragainst_calls v1 v2 (overN (s.a * d) (s.b * d) (s.c * d)) (underN (s.a * d) (s.b * d) (s.c * d)) (n * s.d) r w h1 h2 (by omega) (by omega) (by omega) hr
  generalize overN (s.a * d) (s.b * d) (s.c * d) = O at *
  generalize underN (s.a * d) (s.b * d) (s.c * d) = U at *
  have HR := Lib.hid R
  have HC := Lib.hid C
  have k1 : wrap64 (s.a * d) = s.a * d := wrap64_small (by omega)
  have k2 : wrap64 (s.b * d) = s.b * d := wrap64_small (by omega)
  have k3 : wrap64 (s.c * d) = s.c * d := wrap64_small (by omega)
  have k4 : wrap64 (n * s.d) = n * s.d := wrap64_small (by omega)
  have K1 := Lib.hid k1
  have K2 := Lib.hid k2
  have K3 := Lib.hid k3
  have K4 := Lib.hid k4
  clear R C hs hr hn k1 k2 k3 k4 p1 p2 p3 p4 p5 p6 hu1 hu2 hu3 hu4 l1 l2
  have vs := Vals.newL w (w.heap.size) [.int .i64 s.a, .int .i64 s.b, .int .i64 s.c, .int .i64 s.d] 23 rfl
  have bb := below_alloc w (.cells #[.int .i64 s.a, .int .i64 s.b, .int .i64 s.c, .int .i64 s.d] 23)
  have B := bb
  clear bb
  go_enter Tryd.func20, Tryd.ntmps20
  go_wp2_with fail
  generalize (w.alloc (.cells #[.int .i64 s.a, .int .i64 s.b, .int .i64 s.c, .int .i64 s.d] 23)) = w0 at *
  have cvs0 := vs.cell (i := 0) (by simp)
  have cvs1 := vs.cell (i := 1) (by simp)
  have cvs2 := vs.cell (i := 2) (by simp)
  have cvs3 := vs.cell (i := 3) (by simp)
  simp only [List.getD_cons_zero, List.getD_cons_succ] at cvs0 cvs1 cvs2 cvs3
  have ltvs := vs.lt
  try go_wp2_with fail
  clear cvs0 cvs1 cvs2 cvs3 ltvs
  rw [K1.out, K2.out, K3.out]
  refine (HR.out _).mono ?_
  rintro e w1 ⟨v1, v2, rfl, h5, h6, b1⟩
  replace vs := vs.mono b1
  replace B := below_trans B b1
  clear b1
  have cvs0 := vs.cell (i := 0) (by simp)
  have cvs1 := vs.cell (i := 1) (by simp)
  have cvs2 := vs.cell (i := 2) (by simp)
  have cvs3 := vs.cell (i := 3) (by simp)
  simp only [List.getD_cons_zero, List.getD_cons_succ] at cvs0 cvs1 cvs2 cvs3
  have ltvs := vs.lt
  try go_wp2_with fail
  clear cvs0 cvs1 cvs2 cvs3 ltvs
  rw [K4.out]
  refine (HC.out _ _ _ h5 h6).mono ?_
  rintro e w2 ⟨rfl, b2⟩
  replace vs := vs.mono b2
  replace h5 := h5.mono b2
  replace h6 := h6.mono b2
  replace B := below_trans B b2
  clear b2
  go_wp2
  go_ret
  exact ⟨rfl, B⟩

theorem rlog_calls (s : T4) (n d r : Int) (w : World) (hs : validB s.a s.b s.c s.d = true) (hd : 1 ≤ d ∧ d ≤ 1200) (hn : n.natAbs ≤ 2000000) (hr : logI s n d = r) :
    Calls Tryd.prog 20 #[.agg #[.int .i64 s.a, .int .i64 s.b, .int .i64 s.c, .int .i64 s.d], .int .i64 n, .int .i64 d] w (RetInt w r) := by
  obtain ⟨p1, p2, p3, p4, p5, p6⟩ := validB_parts hs
  exact rlog_gen s n d r w hs (abs_mul_den p4 hd) (abs_mul_den p5 hd) (abs_mul_den p6 hd) hn hr

theorem one_calls (w : World) :
    Calls Tryd.prog 12 #[] w fun e w' => e = .returned (.agg #[.int .i64 0, .int .i64 0, .int .i64 0, .int .i64 1]) ∧ Below w.heap.size w w' := by
  have vr := Vals.newL w w.heap.size [.int .i64 0, .int .i64 0, .int .i64 0, .int .i64 1] 23 rfl
  have B := below_alloc w (.cells #[.int .i64 0, .int .i64 0, .int .i64 0, .int .i64 1] 23)
  go_enter Tryd.func12, Tryd.ntmps12
  go_wp2
  obtain ⟨te, hg⟩ := vr
  refine bodyPost_ret_by (results_cell_row rfl _ _ w.heap.size te _ (0, 0) _ rfl hg Tryd.underlying23 rfl (by kernel_rfl)) rfl ?_
  exact ⟨rfl, B⟩

end Go.Proofs
