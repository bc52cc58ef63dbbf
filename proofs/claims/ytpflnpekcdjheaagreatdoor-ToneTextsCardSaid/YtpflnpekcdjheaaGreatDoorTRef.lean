/- Comma of the program and of the reference. The reference's size, gcd, Valid; the law's form, large, one. The law's large, form, one; two tones against each other. -/
import Derived.Test.YtpflnpekcdjheaaGreatDoorToneA
open Go.RowKit Go.Deep
namespace Go.Proofs
set_option linter.unusedVariables false
set_option linter.unusedSimpArgs false

def commaT (z : Int) : T4 × Int :=
  if z = 0 then (⟨-19, 12, 0, 1⟩, 0) else if z = 1 then (⟨-4, 4, -1, 1⟩, 0) else if z = 2 then (⟨-15, 8, 1, 1⟩, 0) else if z = 3 then (⟨7, 0, -3, 1⟩, 0) else (⟨0, 0, 0, 0⟩, 1)

end Go.Proofs

open Go.RowKit Go.Deep
namespace Go.Proofs
set_option linter.unusedVariables false
set_option linter.unusedSimpArgs false

theorem rsize_neg (n : Nat) (h1 : 1 ≤ n) (h2 : n ≤ 9223372036854775808) : IntKind.u64.wrap (IntKind.u64.wrap (wrap64 (-(wrap64 (-(n : Int) + 1)))) + 1) = (n : Int) := by
  rw [IntKind.wrap_u64, IntKind.wrap_u64]; unfold wrap64; omega

theorem rsize_calls (z : Int) (w : World) (h : -9223372036854775808 ≤ z ∧ z ≤ 9223372036854775807) :
    Calls Tryz.prog 26 #[.int .i64 z] w fun e w' => e = .returned (.int .u64 (z.natAbs : Int)) ∧ w' = w := by
  by_cases hz : z < 0
  · obtain ⟨n, rfl⟩ : ∃ n : Nat, z = -(n : Int) := ⟨z.natAbs, by omega⟩
    rw [Int.natAbs_neg, Int.natAbs_natCast]
    have h1 : 1 ≤ n := by omega
    have h2 : n ≤ 9223372036854775808 := by omega
    go_enter Tryz.func26, Tryz.ntmps26
    go_wp2
    go_ret
    refine ⟨ret_i64 ?_, rfl⟩
    first | omega | (rw [IntKind.wrap_u64]; omega) | (rw [IntKind.wrap_u64, IntKind.wrap_u64]; omega)
  · obtain ⟨n, rfl⟩ : ∃ n : Nat, z = (n : Int) := ⟨z.natAbs, by omega⟩
    rw [Int.natAbs_natCast]
    have h2 : n ≤ 9223372036854775807 := by omega
    go_enter Tryz.func26, Tryz.ntmps26
    go_wp2
    go_ret
    exact ⟨rfl, rfl⟩

set_option maxRecDepth 100000 in
theorem rgcd2_calls (a b : Nat) (w : World) (ha : a < 18446744073709551616) (hb : b < 18446744073709551616) :
    Calls Tryz.prog 27 #[.int .u64 (a : Int), .int .u64 (b : Int)] w fun e w' => e = .returned (.int .u64 ((Nat.gcd a b : Nat) : Int)) ∧ ∃ k, w' = w.drewN k := by
  obtain ⟨G, eG⟩ : ∃ G, Nat.gcd a b = G := ⟨_, rfl⟩
  rw [eG]
  have HG := Lib.hid eG
  clear eG
  go_enter Tryz.func27, Tryz.ntmps27
  go_wp2
  go_loopw [0, 1] (fun av bv wr => ∃ x y k : Nat, Nat.gcd x y = G ∧ x < 18446744073709551616 ∧ y < 18446744073709551616 ∧ av = .int .u64 x ∧ bv = .int .u64 y ∧ wr = w.drewN k)
    (fun _ bv _ => (intOf bv).toNat)
  case atStart => exact ⟨a, b, 0, HG.out, ha, hb, rfl, rfl, rfl⟩
  case round =>
    obtain ⟨x, y, k, hg, hx, hy, rfl, rfl, rfl⟩ := hrel
    have HGG := Lib.hid hg
    clear hg
    by_cases hb0 : y = 0
    · subst hb0
      go_wp2
      go_ret
      exact ⟨ret_i64 (by rw [← HGG.out, Nat.gcd_zero_right]), k, rfl⟩
    · have t2 : (0 : Int) < (y : Int) := by omega
      have t3 : ((y : Int) == 0) = false := by rw [beq_eq_false_iff_ne]; omega
      have hm : x % y < y := Nat.mod_lt _ (by omega)
      have hg2 : Nat.gcd y (x % y) = G := by
        rw [← HGG.out, Nat.gcd_comm y, ← Nat.gcd_rec, Nat.gcd_comm]
      have HG2 := Lib.hid hg2
      clear hg2
      go_wp2_with fail
      go_quiet (fail)
      go_roundw
      case rel =>
        repeat apply Exists.intro
        exact ⟨⟨y, x % y, k + nq, HG2.out, by omega, by omega, rfl, rfl, by rw [World.drewN_drewN]⟩, rfl⟩
      case measure => simp [intOf]; omega

set_option maxRecDepth 100000 in
theorem rvalid_out (a b c d : Int) (w : World) (ha : -9223372036854775808 ≤ a ∧ a ≤ 9223372036854775807) (hb : -9223372036854775808 ≤ b ∧ b ≤ 9223372036854775807) (hc : -9223372036854775808 ≤ c ∧ c ≤ 9223372036854775807) (hd : -9223372036854775808 ≤ d ∧ d ≤ 9223372036854775807) (hn : ¬ (1 ≤ d ∧ d ≤ 24 ∧ a.natAbs ≤ 960 ∧ b.natAbs ≤ 960 ∧ c.natAbs ≤ 960)) :
    Calls Tryz.prog 15 #[.agg #[.int .i64 a, .int .i64 b, .int .i64 c, .int .i64 d]] w fun e w' => e = .returned (.bool (validB a b c d)) ∧ Below w.heap.size w w' := by
  have hv : validB a b c d = false := by
    rw [Bool.eq_false_iff]
    intro h
    have := validB_parts h
    omega
  rw [hv]
  clear hv
  have ways : decide (d < 1) = true ∨ decide (d < 1) = false ∧ decide (24 < d) = true ∨ decide (d < 1) = false ∧ decide (24 < d) = false ∧ decide ((960 : Int) < (a.natAbs : Int)) = true ∨
      decide (d < 1) = false ∧ decide (24 < d) = false ∧ decide ((960 : Int) < (a.natAbs : Int)) = false ∧ decide ((960 : Int) < (b.natAbs : Int)) = true ∨
      decide (d < 1) = false ∧ decide (24 < d) = false ∧ decide ((960 : Int) < (a.natAbs : Int)) = false ∧ decide ((960 : Int) < (b.natAbs : Int)) = false ∧ decide ((960 : Int) < (c.natAbs : Int)) = true := by
    simp only [decide_eq_true_eq, decide_eq_false_iff_not]
    omega
  clear hn
  rcases ways with d1 | ⟨d1, d2⟩ | ⟨d1, d2, e1⟩ | ⟨d1, d2, e1, e2⟩ | ⟨d1, d2, e1, e2, e3⟩
  all_goals
    have vs := Vals.newL w w.heap.size [.int .i64 a, .int .i64 b, .int .i64 c, .int .i64 d] 23 rfl
    have B := below_alloc w (.cells #[.int .i64 a, .int .i64 b, .int .i64 c, .int .i64 d] 23)
    go_enter Tryz.func15, Tryz.ntmps15
    go_upto_region 1 with (fail)
    generalize w.alloc (.cells #[.int .i64 a, .int .i64 b, .int .i64 c, .int .i64 d] 23) = w0 at *
    have cvs0 := vs.cell (i := 0) (by simp)
    have cvs1 := vs.cell (i := 1) (by simp)
    have cvs2 := vs.cell (i := 2) (by simp)
    have cvs3 := vs.cell (i := 3) (by simp)
    simp only [List.getD_cons_zero, List.getD_cons_succ] at cvs0 cvs1 cvs2 cvs3
    go_wp2_with (go_at_call 26; refine (rsize_calls _ _ (by assumption)).mono ?_; rintro e wq ⟨rfl, rfl⟩)
    go_ret
    exact ⟨rfl, B⟩

theorem gcd_le_max (a b : Nat) (ha : a ≤ 960) (hb : b ≤ 960) : Nat.gcd a b ≤ 960 := by
  by_cases h : a = 0
  · subst h; rw [Nat.gcd_zero_left]; exact hb
  · exact Nat.le_trans (Nat.gcd_le_left _ (by omega)) ha

set_option maxRecDepth 100000 in
theorem rvalid_in (a b c d : Int) (w : World) (ha : -9223372036854775808 ≤ a ∧ a ≤ 9223372036854775807) (hb : -9223372036854775808 ≤ b ∧ b ≤ 9223372036854775807) (hc : -9223372036854775808 ≤ c ∧ c ≤ 9223372036854775807) (hd : -9223372036854775808 ≤ d ∧ d ≤ 9223372036854775807) (h1 : 1 ≤ d ∧ d ≤ 24) (h2 : a.natAbs ≤ 960) (h3 : b.natAbs ≤ 960) (h4 : c.natAbs ≤ 960) :
    Calls Tryz.prog 15 #[.agg #[.int .i64 a, .int .i64 b, .int .i64 c, .int .i64 d]] w fun e w' => e = .returned (.bool (validB a b c d)) ∧ Below w.heap.size w w' := by
  have g1 : Nat.gcd a.natAbs b.natAbs < 18446744073709551616 := Nat.lt_of_le_of_lt (gcd_le_max _ _ (by omega) (by omega)) (show 960 < _ by omega)
  have g2 : Nat.gcd c.natAbs d.natAbs < 18446744073709551616 := Nat.lt_of_le_of_lt (gcd_le_max _ _ (by omega) (by omega)) (show 960 < _ by omega)
  have hv : validB a b c d = (((gcd4 a b c d : Nat) : Int) == 1) := by
    unfold validB
    rw [Bool.eq_iff_iff]
    simp only [Bool.and_eq_true, decide_eq_true_eq, beq_iff_eq, Nat.max_le]
    omega
  rw [hv]
  unfold gcd4 gcdN
  have d1 : decide (d < 1) = false := by simp; omega
  have d2 : decide (24 < d) = false := by simp; omega
  have e1 : decide ((960 : Int) < (a.natAbs : Int)) = false := by rw [decide_eq_false_iff_not]; omega
  have e2 : decide ((960 : Int) < (b.natAbs : Int)) = false := by rw [decide_eq_false_iff_not]; omega
  have e3 : decide ((960 : Int) < (c.natAbs : Int)) = false := by rw [decide_eq_false_iff_not]; omega
  have n1 : a.natAbs < 18446744073709551616 := by omega
  have n2 : b.natAbs < 18446744073709551616 := by omega
  have n3 : c.natAbs < 18446744073709551616 := by omega
  have n4 : d.natAbs < 18446744073709551616 := by omega
  clear hv h1 h2 h3 h4
  have vs := Vals.newL w w.heap.size [.int .i64 a, .int .i64 b, .int .i64 c, .int .i64 d] 23 rfl
  have B := below_alloc w (.cells #[.int .i64 a, .int .i64 b, .int .i64 c, .int .i64 d] 23)
  go_enter Tryz.func15, Tryz.ntmps15
  go_upto_region 1 with (fail)
  generalize w.alloc (.cells #[.int .i64 a, .int .i64 b, .int .i64 c, .int .i64 d] 23) = w0 at *
  have cvs0 := vs.cell (i := 0) (by simp)
  have cvs1 := vs.cell (i := 1) (by simp)
  have cvs2 := vs.cell (i := 2) (by simp)
  have cvs3 := vs.cell (i := 3) (by simp)
  simp only [List.getD_cons_zero, List.getD_cons_succ] at cvs0 cvs1 cvs2 cvs3
  go_upto_region 3 with (go_at_call 26; refine (rsize_calls _ _ (by assumption)).mono ?_; rintro e wq ⟨rfl, rfl⟩)
  go_quiet ((first | (go_at_call 26; exact Calls.quiet_of_same (rsize_calls _ _ (by assumption))) | (go_at_call 27; exact Calls.quiet_of (rgcd2_calls _ _ _ (by assumption) (by assumption)))))
  go_wp2
  go_ret
  exact ⟨rfl, below_drewN B _⟩

theorem rvalid_calls (s : T4) (w : World) (h : i64 s.a ∧ i64 s.b ∧ i64 s.c ∧ i64 s.d) :
    Calls Tryz.prog 15 #[.agg #[.int .i64 s.a, .int .i64 s.b, .int .i64 s.c, .int .i64 s.d]] w fun e w' => e = .returned (.bool (validB s.a s.b s.c s.d)) ∧ Below w.heap.size w w' := by
  by_cases hn : 1 ≤ s.d ∧ s.d ≤ 24 ∧ s.a.natAbs ≤ 960 ∧ s.b.natAbs ≤ 960 ∧ s.c.natAbs ≤ 960
  · exact rvalid_in _ _ _ _ w h.1 h.2.1 h.2.2.1 h.2.2.2 ⟨hn.1, hn.2.1⟩ hn.2.2.1 hn.2.2.2.1 hn.2.2.2.2
  · exact rvalid_out _ _ _ _ w h.1 h.2.1 h.2.2.1 h.2.2.2 hn

end Go.Proofs

open Go.RowKit Go.Deep
namespace Go.Proofs
set_option linter.unusedVariables false
set_option linter.unusedSimpArgs false

/-- the same four numbers -/
def eqB (s t : T4) : Bool := s.a == t.a && (s.b == t.b && (s.c == t.c && s.d == t.d))
theorem eqB_iff (s t : T4) : eqB s t = true ↔ s = t := by
  obtain ⟨a, b, c, d⟩ := s
  obtain ⟨x, y, z, u⟩ := t
  simp [eqB]

theorem run_eql_tone (s t : T4) (w : World) : (binOp .eql 23 (.agg #[.int .i64 s.a, .int .i64 s.b, .int .i64 s.c, .int .i64 s.d]) (.agg #[.int .i64 t.a, .int .i64 t.b, .int .i64 t.c, .int .i64 t.d])).run Tryz.prog w = .ok (.bool (eqB s t)) w := by
  rw [run_eql_struct, show (10000 : Nat) = 9999 + 1 from rfl, run_equalIn_agg w 9999 23 _ _ (by kernel_rfl) (by kernel_rfl)]
  obtain ⟨a, b, c, d⟩ := s
  obtain ⟨x, y, z, u⟩ := t
  unfold eqB
  dsimp only
  by_cases h1 : a = x
  · subst h1
    by_cases h2 : b = y
    · subst h2
      by_cases h3 : c = z
      · subst h3
        by_cases h4 : d = u
        · subst h4; go_simp
        · go_simp
      · go_simp
    · go_simp
  · go_simp

set_option maxRecDepth 100000 in
theorem form_0 (s t : T4) (w : World) (hA : i64 s.a ∧ i64 s.b ∧ i64 s.c ∧ i64 s.d) (hB : i64 t.a ∧ i64 t.b ∧ i64 t.c ∧ i64 t.d) (hs : validB s.a s.b s.c s.d = false) :
    Calls Tryz.prog 7 #[.agg #[.int .i64 s.a, .int .i64 s.b, .int .i64 s.c, .int .i64 s.d], .agg #[.int .i64 t.a, .int .i64 t.b, .int .i64 t.c, .int .i64 t.d]] w fun e w' => e = .returned (.int .i64 2) ∧ Below w.heap.size w w' := by
  have VA := fun w : World => rvalid_calls s w hA
  rw [hs] at VA
  have HA := Lib.hid VA
  clear VA hs hA hB
  have vs := Vals.newL w (w.heap.size) [.int .i64 s.a, .int .i64 s.b, .int .i64 s.c, .int .i64 s.d] 23 rfl
  have bb := below_alloc w (.cells #[.int .i64 s.a, .int .i64 s.b, .int .i64 s.c, .int .i64 s.d] 23)
  have B := bb
  have sz0 := World.size_alloc w (.cells #[.int .i64 s.a, .int .i64 s.b, .int .i64 s.c, .int .i64 s.d] 23)
  have sz := sz0
  clear sz0
  clear bb
  have vt := Vals.newL (w.alloc (.cells #[.int .i64 s.a, .int .i64 s.b, .int .i64 s.c, .int .i64 s.d] 23)) (w.heap.size + 1) [.int .i64 t.a, .int .i64 t.b, .int .i64 t.c, .int .i64 t.d] 23 sz.symm
  have bb := below_alloc (w.alloc (.cells #[.int .i64 s.a, .int .i64 s.b, .int .i64 s.c, .int .i64 s.d] 23)) (.cells #[.int .i64 t.a, .int .i64 t.b, .int .i64 t.c, .int .i64 t.d] 23)
  replace vs := vs.mono bb
  replace B := below_trans B bb
  clear sz
  clear bb
  go_enter Tryz.func7, Tryz.ntmps7
  go_wp2_with fail
  generalize ((w.alloc (.cells #[.int .i64 s.a, .int .i64 s.b, .int .i64 s.c, .int .i64 s.d] 23)).alloc (.cells #[.int .i64 t.a, .int .i64 t.b, .int .i64 t.c, .int .i64 t.d] 23)) = w0 at *
  refine (HA.out _).mono ?_
  rintro e w1 ⟨rfl, b1⟩
  replace vs := vs.mono b1
  replace vt := vt.mono b1
  replace B := below_trans B b1
  clear b1
  go_wp2
  go_ret
  exact ⟨rfl, B⟩

set_option maxRecDepth 100000 in
theorem form_1 (s t : T4) (w : World) (hA : i64 s.a ∧ i64 s.b ∧ i64 s.c ∧ i64 s.d) (hB : i64 t.a ∧ i64 t.b ∧ i64 t.c ∧ i64 t.d) (hs : validB s.a s.b s.c s.d = true) (ht : validB t.a t.b t.c t.d = false) :
    Calls Tryz.prog 7 #[.agg #[.int .i64 s.a, .int .i64 s.b, .int .i64 s.c, .int .i64 s.d], .agg #[.int .i64 t.a, .int .i64 t.b, .int .i64 t.c, .int .i64 t.d]] w fun e w' => e = .returned (.int .i64 2) ∧ Below w.heap.size w w' := by
  have VA := fun w : World => rvalid_calls s w hA
  rw [hs] at VA
  have HA := Lib.hid VA
  have VB := fun w : World => rvalid_calls t w hB
  rw [ht] at VB
  have HB := Lib.hid VB
  clear VB ht
  clear VA hs hA hB
  have vs := Vals.newL w (w.heap.size) [.int .i64 s.a, .int .i64 s.b, .int .i64 s.c, .int .i64 s.d] 23 rfl
  have bb := below_alloc w (.cells #[.int .i64 s.a, .int .i64 s.b, .int .i64 s.c, .int .i64 s.d] 23)
  have B := bb
  have sz0 := World.size_alloc w (.cells #[.int .i64 s.a, .int .i64 s.b, .int .i64 s.c, .int .i64 s.d] 23)
  have sz := sz0
  clear sz0
  clear bb
  have vt := Vals.newL (w.alloc (.cells #[.int .i64 s.a, .int .i64 s.b, .int .i64 s.c, .int .i64 s.d] 23)) (w.heap.size + 1) [.int .i64 t.a, .int .i64 t.b, .int .i64 t.c, .int .i64 t.d] 23 sz.symm
  have bb := below_alloc (w.alloc (.cells #[.int .i64 s.a, .int .i64 s.b, .int .i64 s.c, .int .i64 s.d] 23)) (.cells #[.int .i64 t.a, .int .i64 t.b, .int .i64 t.c, .int .i64 t.d] 23)
  replace vs := vs.mono bb
  replace B := below_trans B bb
  clear sz
  clear bb
  go_enter Tryz.func7, Tryz.ntmps7
  go_wp2_with fail
  generalize ((w.alloc (.cells #[.int .i64 s.a, .int .i64 s.b, .int .i64 s.c, .int .i64 s.d] 23)).alloc (.cells #[.int .i64 t.a, .int .i64 t.b, .int .i64 t.c, .int .i64 t.d] 23)) = w0 at *
  refine (HA.out _).mono ?_
  rintro e w1 ⟨rfl, b1⟩
  replace vs := vs.mono b1
  replace vt := vt.mono b1
  replace B := below_trans B b1
  clear b1
  have cvt0 := vt.cell (i := 0) (by simp)
  have cvt1 := vt.cell (i := 1) (by simp)
  have cvt2 := vt.cell (i := 2) (by simp)
  have cvt3 := vt.cell (i := 3) (by simp)
  simp only [List.getD_cons_zero, List.getD_cons_succ] at cvt0 cvt1 cvt2 cvt3
  have ltvt := vt.lt
  go_wp2_with fail
  clear cvt0 cvt1 cvt2 cvt3 ltvt
  refine (HB.out _).mono ?_
  rintro e w2 ⟨rfl, b2⟩
  replace vs := vs.mono b2
  replace vt := vt.mono b2
  replace B := below_trans B b2
  clear b2
  go_wp2
  go_ret
  exact ⟨rfl, B⟩

set_option maxRecDepth 100000 in
theorem form_2 (s t : T4) (w : World) (hA : i64 s.a ∧ i64 s.b ∧ i64 s.c ∧ i64 s.d) (hB : i64 t.a ∧ i64 t.b ∧ i64 t.c ∧ i64 t.d) (hs : validB s.a s.b s.c s.d = true) (ht : validB t.a t.b t.c t.d = true) :
    Calls Tryz.prog 7 #[.agg #[.int .i64 s.a, .int .i64 s.b, .int .i64 s.c, .int .i64 s.d], .agg #[.int .i64 t.a, .int .i64 t.b, .int .i64 t.c, .int .i64 t.d]] w fun e w' => e = .returned (.int .i64 0) ∧ Below w.heap.size w w' := by
  have VA := fun w : World => rvalid_calls s w hA
  rw [hs] at VA
  have HA := Lib.hid VA
  have VB := fun w : World => rvalid_calls t w hB
  rw [ht] at VB
  have HB := Lib.hid VB
  clear VB ht
  clear VA hs hA hB
  have vs := Vals.newL w (w.heap.size) [.int .i64 s.a, .int .i64 s.b, .int .i64 s.c, .int .i64 s.d] 23 rfl
  have bb := below_alloc w (.cells #[.int .i64 s.a, .int .i64 s.b, .int .i64 s.c, .int .i64 s.d] 23)
  have B := bb
  have sz0 := World.size_alloc w (.cells #[.int .i64 s.a, .int .i64 s.b, .int .i64 s.c, .int .i64 s.d] 23)
  have sz := sz0
  clear sz0
  clear bb
  have vt := Vals.newL (w.alloc (.cells #[.int .i64 s.a, .int .i64 s.b, .int .i64 s.c, .int .i64 s.d] 23)) (w.heap.size + 1) [.int .i64 t.a, .int .i64 t.b, .int .i64 t.c, .int .i64 t.d] 23 sz.symm
  have bb := below_alloc (w.alloc (.cells #[.int .i64 s.a, .int .i64 s.b, .int .i64 s.c, .int .i64 s.d] 23)) (.cells #[.int .i64 t.a, .int .i64 t.b, .int .i64 t.c, .int .i64 t.d] 23)
  replace vs := vs.mono bb
  replace B := below_trans B bb
  clear sz
  clear bb
  go_enter Tryz.func7, Tryz.ntmps7
  go_wp2_with fail
  generalize ((w.alloc (.cells #[.int .i64 s.a, .int .i64 s.b, .int .i64 s.c, .int .i64 s.d] 23)).alloc (.cells #[.int .i64 t.a, .int .i64 t.b, .int .i64 t.c, .int .i64 t.d] 23)) = w0 at *
  refine (HA.out _).mono ?_
  rintro e w1 ⟨rfl, b1⟩
  replace vs := vs.mono b1
  replace vt := vt.mono b1
  replace B := below_trans B b1
  clear b1
  have cvt0 := vt.cell (i := 0) (by simp)
  have cvt1 := vt.cell (i := 1) (by simp)
  have cvt2 := vt.cell (i := 2) (by simp)
  have cvt3 := vt.cell (i := 3) (by simp)
  simp only [List.getD_cons_zero, List.getD_cons_succ] at cvt0 cvt1 cvt2 cvt3
  have ltvt := vt.lt
  go_wp2_with fail
  clear cvt0 cvt1 cvt2 cvt3 ltvt
  refine (HB.out _).mono ?_
  rintro e w2 ⟨rfl, b2⟩
  replace vs := vs.mono b2
  replace vt := vt.mono b2
  replace B := below_trans B b2
  clear b2
  go_wp2
  go_ret
  exact ⟨rfl, B⟩

end Go.Proofs
