/- tone: Power. -/
import Derived.Test.YthkeekoljediiaaToneA
open Go.RowKit Go.Deep
namespace Go.Proofs
set_option linter.unusedVariables false
set_option linter.unusedSimpArgs false

set_option maxRecDepth 100000 in
theorem power_unit (num den : Int) (w : World) (hd : 1 ≤ den) :
    Calls Try.prog 70 #[.agg #[.int .i64 0, .int .i64 0, .int .i64 0, .int .i64 1], .int .i64 num, .int .i64 den] w (RetT w (⟨0, 0, 0, 1⟩, 0)) := by
  have VA := fun w : World => tvalid_calls 0 0 0 1 w (by omega) (by omega) (by omega) (by omega)
  rw [show validB 0 0 0 1 = true from unit_ok] at VA
  have HA := Lib.hid VA
  have t1 : ¬ den < 1 := by omega
  clear VA
  have vs := Vals.newL w (w.heap.size) [.int .i64 0, .int .i64 0, .int .i64 0, .int .i64 1] 37 rfl
  have bb := below_alloc w (.cells #[.int .i64 0, .int .i64 0, .int .i64 0, .int .i64 1] 37)
  have B := bb
  have sz0 := World.size_alloc w (.cells #[.int .i64 0, .int .i64 0, .int .i64 0, .int .i64 1] 37)
  have sz := sz0
  clear sz0
  clear bb
  have vr := Vals.newL (w.alloc (.cells #[.int .i64 0, .int .i64 0, .int .i64 0, .int .i64 1] 37)) (w.heap.size + 1) [.int .i64 0, .int .i64 0, .int .i64 0, .int .i64 0] 37 sz.symm
  have bb := below_alloc (w.alloc (.cells #[.int .i64 0, .int .i64 0, .int .i64 0, .int .i64 1] 37)) (.cells #[.int .i64 0, .int .i64 0, .int .i64 0, .int .i64 0] 37)
  replace vs := vs.mono bb
  replace B := below_trans B bb
  clear sz
  clear bb
  go_enter Try.func70, Try.ntmps70
  go_wp2_with fail
  generalize ((w.alloc (.cells #[.int .i64 0, .int .i64 0, .int .i64 0, .int .i64 1] 37)).alloc (.cells #[.int .i64 0, .int .i64 0, .int .i64 0, .int .i64 0] 37)) = w0 at *
  refine (HA.out _).mono ?_
  rintro e w1 ⟨rfl, b1⟩
  replace vs := vs.mono b1
  replace vr := vr.mono b1
  replace B := below_trans B b1
  clear b1
  have cvs0 := vs.cell (i := 0) (by simp)
  have cvs1 := vs.cell (i := 1) (by simp)
  have cvs2 := vs.cell (i := 2) (by simp)
  have cvs3 := vs.cell (i := 3) (by simp)
  simp only [List.getD_cons_zero, List.getD_cons_succ] at cvs0 cvs1 cvs2 cvs3
  have ltvs := vs.lt
  have cvr0 := vr.cell (i := 0) (by simp)
  have cvr1 := vr.cell (i := 1) (by simp)
  have cvr2 := vr.cell (i := 2) (by simp)
  have cvr3 := vr.cell (i := 3) (by simp)
  simp only [List.getD_cons_zero, List.getD_cons_succ] at cvr0 cvr1 cvr2 cvr3
  have ltvr := vr.lt
  have fvr0 := vr.frozen 0
  have fvr1 := vr.frozen 1
  have fvr2 := vr.frozen 2
  have fvr3 := vr.frozen 3
  go_wp2
  obtain ⟨te, hg⟩ := vr.set4 (.int .i64 0) (.int .i64 0) (.int .i64 0) (.int .i64 1)
  refine bodyPost_ret_by (results_cell_tmp rfl _ _ (w.heap.size + 1) te _ (0, 0) _ rfl hg Try.underlying37 rfl (by kernel_rfl) (.int .i64 0) rfl) rfl ?_
  exact ⟨rfl, below_set4 B (by omega) _ _ _ _⟩

theorem gcd_two (a b : Nat) (w1 : World) (n : Nat) (hn : n = w1.heap.size) (ha : a < 18446744073709551616) (hb : b < 18446744073709551616) :
    Calls Try.prog 48 #[.slice (some ⟨n, 0, none⟩) 2 2] (w1.alloc (.cells #[.int .u64 (a : Int), .int .u64 (b : Int)] 44))
      fun e w' => e = .returned (.int .u64 ((Nat.gcd a b : Nat) : Int)) ∧ ∃ k, w' = (w1.alloc (.cells #[.int .u64 (a : Int), .int .u64 (b : Int)] 44)).drewN k := by
  subst hn
  have h := gcd_calls w1.heap.size 2 2 [a, b] (w1.alloc (.cells #[.int .u64 (a : Int), .int .u64 (b : Int)] 44)) rfl (by simp)
    (by intro i hi
        match i, hi with
        | 0, _ => exact ha
        | 1, _ => exact hb
        | i + 2, hi => simp at hi; omega) (cellU_new _ _ _ _ (by simp))
  rw [gcdTo_two] at h
  exact h

theorem pow_wrap {x n : Int} {k : Nat} (h1 : x.natAbs ≤ 960) (h2 : n.natAbs ≤ k) (hk : k ≤ 23040) : wrap64 (x * n) = x * n :=
  wrap64_small (Nat.le_trans (abs_mul_le h1 h2) (by omega))

theorem pow_i64 {x n : Int} {k : Nat} (h1 : x.natAbs ≤ 960) (h2 : n.natAbs ≤ k) (hk : k ≤ 23040) : i64 (x * n) := by
  have := abs_mul_le h1 h2
  unfold i64
  generalize x * n = p at *
  omega

set_option maxRecDepth 100000 in
set_option maxHeartbeats 1000000 in
theorem power_far (a b c d num den : Int) (w : World) (hs : validB a b c d = true) (h0 : ¬ (a = 0 ∧ b = 0 ∧ c = 0)) (hn : i64 num) (hd : i64 den) (hd1 : 1 ≤ den) (hf : 23040 < num.natAbs / Nat.gcd num.natAbs den.natAbs ∨ 23040 < den.natAbs / Nat.gcd num.natAbs den.natAbs) :
    Calls Try.prog 70 #[.agg #[.int .i64 a, .int .i64 b, .int .i64 c, .int .i64 d], .int .i64 num, .int .i64 den] w (RetT w (powT ⟨a, b, c, d⟩ num den)) := by
  have HV : validB a b c d = true := hs
  obtain ⟨p1, p2, p3, p4, p5, p6⟩ := validB_parts hs
  have hred := power_red hs h0 hd1 (Nat.gcd num.natAbs den.natAbs) (num.natAbs / Nat.gcd num.natAbs den.natAbs) (den.natAbs / Nat.gcd num.natAbs den.natAbs) rfl rfl rfl
  obtain ⟨q1, q2, q3, q4, q5, q6⟩ := hred
  have VA := fun w : World => tvalid_calls a b c d w (by omega) (by omega) (by omega) (by omega)
  rw [hs] at VA
  have HA := Lib.hid VA
  have S1 := fun w : World => size_calls num w hn
  have S2 := fun w : World => size_calls den w hd
  unfold i64 at hn hd
  have G := fun (w1 : World) (n : Nat) (hz : n = w1.heap.size) => gcd_two num.natAbs den.natAbs w1 n hz (by omega) (by omega)
  have n1 : num.natAbs / Nat.gcd num.natAbs den.natAbs ≤ num.natAbs := Nat.div_le_self _ _
  have n2 : den.natAbs / Nat.gcd num.natAbs den.natAbs ≤ den.natAbs := Nat.div_le_self _ _
  have m1 : ((num.natAbs : Int) / ((Nat.gcd num.natAbs den.natAbs : Nat) : Int)) = ((num.natAbs / Nat.gcd num.natAbs den.natAbs : Nat) : Int) := rfl
  have m2 : ((den.natAbs : Int) / ((Nat.gcd num.natAbs den.natAbs : Nat) : Int)) = ((den.natAbs / Nat.gcd num.natAbs den.natAbs : Nat) : Int) := rfl
  generalize num.natAbs / Nat.gcd num.natAbs den.natAbs = over at *
  generalize den.natAbs / Nat.gcd num.natAbs den.natAbs = under at *
  generalize Nat.gcd num.natAbs den.natAbs = g at *
  have k1 : IntKind.u64.wrap ((num.natAbs : Int) / (g : Int)) = (over : Int) := by rw [m1, IntKind.wrap_u64]; omega
  have k2 : IntKind.u64.wrap ((den.natAbs : Int) / (g : Int)) = (under : Int) := by rw [m2, IntKind.wrap_u64]; omega
  have hov0 : sgnV (decide (num < 0)) over = if num < 0 then -(over : Int) else (over : Int) := by unfold sgnV; by_cases h : num < 0 <;> simp [h]
  have HS1 := Lib.hid S1
  have HS2 := Lib.hid S2
  have HG := Lib.hid G
  have g0 : ((g : Int) == 0) = false := by rw [beq_eq_false_iff_ne]; omega
  have t1 : ¬ den < 1 := by omega
  have R : powT ⟨a, b, c, d⟩ num den = (⟨0, 0, 0, 0⟩, 5) := q5 hf
  rw [R]
  have ff : decide ((23040 : Int) < over) = true ∨ (decide ((23040 : Int) < over) = false ∧ decide ((23040 : Int) < under) = true) := by
    by_cases h : (23040 : Int) < over
    · left; simp [h]
    · right; simp [h]; omega
  clear R hf hov0 q5 q6 q3 q4 q2
  have ways : ¬ a = 0 ∨ a = 0 ∧ ¬ b = 0 ∨ a = 0 ∧ b = 0 ∧ ¬ c = 0 := by omega
  clear h0 HV hs VA S1 S2 G m1 m2
  clear p1 p2 p3 p4 p5 p6 n1 n2 hd1
  rcases ways with w1 | ⟨rfl, w1⟩ | ⟨rfl, rfl, w1⟩
  · rcases ff with f1 | ⟨f1, f2⟩
    · skip
      have vs := Vals.newL w (w.heap.size) [.int .i64 a, .int .i64 b, .int .i64 c, .int .i64 d] 37 rfl
      have bb := below_alloc w (.cells #[.int .i64 a, .int .i64 b, .int .i64 c, .int .i64 d] 37)
      have B := bb
      have sz0 := World.size_alloc w (.cells #[.int .i64 a, .int .i64 b, .int .i64 c, .int .i64 d] 37)
      have sz := sz0
      clear sz0
      clear bb
      have vr := Vals.newL (w.alloc (.cells #[.int .i64 a, .int .i64 b, .int .i64 c, .int .i64 d] 37)) (w.heap.size + 1) [.int .i64 0, .int .i64 0, .int .i64 0, .int .i64 0] 37 sz.symm
      have bb := below_alloc (w.alloc (.cells #[.int .i64 a, .int .i64 b, .int .i64 c, .int .i64 d] 37)) (.cells #[.int .i64 0, .int .i64 0, .int .i64 0, .int .i64 0] 37)
      replace vs := vs.mono bb
      replace B := below_trans B bb
      clear sz
      clear bb
      go_enter Try.func70, Try.ntmps70
      go_wp2_with fail
      generalize ((w.alloc (.cells #[.int .i64 a, .int .i64 b, .int .i64 c, .int .i64 d] 37)).alloc (.cells #[.int .i64 0, .int .i64 0, .int .i64 0, .int .i64 0] 37)) = w0 at *
      refine (HA.out _).mono ?_
      rintro e w1 ⟨rfl, b1⟩
      replace vs := vs.mono b1
      replace vr := vr.mono b1
      replace B := below_trans B b1
      clear b1
      have cvs0 := vs.cell (i := 0) (by simp)
      have cvs1 := vs.cell (i := 1) (by simp)
      have cvs2 := vs.cell (i := 2) (by simp)
      have cvs3 := vs.cell (i := 3) (by simp)
      simp only [List.getD_cons_zero, List.getD_cons_succ] at cvs0 cvs1 cvs2 cvs3
      have ltvs := vs.lt
      go_wp2_with fail
      clear cvs0 cvs1 cvs2 cvs3 ltvs
      refine (HS1.out _).mono ?_
      rintro e wq ⟨rfl, rfl⟩
      go_wp2_with fail
      refine (HS2.out _).mono ?_
      rintro e wq ⟨rfl, rfl⟩
      go_wp2_with fail
      refine (HG.out wq _ rfl).mono ?_
      rintro e w2 ⟨rfl, k9, rfl⟩
      have bb := below_alloc wq (.cells #[.int .u64 (num.natAbs : Int), .int .u64 (den.natAbs : Int)] 44)
      replace vs := (vs.mono bb).drewN k9
      replace vr := (vr.mono bb).drewN k9
      replace B := below_drewN (below_trans B bb) k9
      clear bb
      go_upto_region 8 with (fail)
      generalize World.drewN (wq.alloc (.cells #[.int .u64 (num.natAbs : Int), .int .u64 (den.natAbs : Int)] 44)) k9 = w3 at *
      go_quiet ((go_at_call 49; exact Calls.quiet_of_same (size_calls _ _ (by assumption))))
      replace vs := vs.drewN nq
      replace vr := vr.drewN nq
      replace B := below_drewN B nq
      go_upto_region 9 with (fail)
      generalize World.drewN w3 nq = w4 at *
      clear HS1 HS2 HG k1 k2
      have cvr0 := vr.cell (i := 0) (by simp)
      have cvr1 := vr.cell (i := 1) (by simp)
      have cvr2 := vr.cell (i := 2) (by simp)
      have cvr3 := vr.cell (i := 3) (by simp)
      simp only [List.getD_cons_zero, List.getD_cons_succ] at cvr0 cvr1 cvr2 cvr3
      have ltvr := vr.lt
      have fvr0 := vr.frozen 0
      have fvr1 := vr.frozen 1
      have fvr2 := vr.frozen 2
      have fvr3 := vr.frozen 3
      go_wp2
      obtain ⟨te, hg⟩ := vr.set4 (.int .i64 0) (.int .i64 0) (.int .i64 0) (.int .i64 0)
      refine bodyPost_ret_by (results_cell_tmp rfl _ _ (w.heap.size + 1) te _ (0, 0) _ rfl hg Try.underlying37 rfl (by kernel_rfl) (.int .i64 5) rfl) rfl ?_
      exact ⟨rfl, below_set4 B (by omega) _ _ _ _⟩
    · skip
      have vs := Vals.newL w (w.heap.size) [.int .i64 a, .int .i64 b, .int .i64 c, .int .i64 d] 37 rfl
      have bb := below_alloc w (.cells #[.int .i64 a, .int .i64 b, .int .i64 c, .int .i64 d] 37)
      have B := bb
      have sz0 := World.size_alloc w (.cells #[.int .i64 a, .int .i64 b, .int .i64 c, .int .i64 d] 37)
      have sz := sz0
      clear sz0
      clear bb
      have vr := Vals.newL (w.alloc (.cells #[.int .i64 a, .int .i64 b, .int .i64 c, .int .i64 d] 37)) (w.heap.size + 1) [.int .i64 0, .int .i64 0, .int .i64 0, .int .i64 0] 37 sz.symm
      have bb := below_alloc (w.alloc (.cells #[.int .i64 a, .int .i64 b, .int .i64 c, .int .i64 d] 37)) (.cells #[.int .i64 0, .int .i64 0, .int .i64 0, .int .i64 0] 37)
      replace vs := vs.mono bb
      replace B := below_trans B bb
      clear sz
      clear bb
      go_enter Try.func70, Try.ntmps70
      go_wp2_with fail
      generalize ((w.alloc (.cells #[.int .i64 a, .int .i64 b, .int .i64 c, .int .i64 d] 37)).alloc (.cells #[.int .i64 0, .int .i64 0, .int .i64 0, .int .i64 0] 37)) = w0 at *
      refine (HA.out _).mono ?_
      rintro e w1 ⟨rfl, b1⟩
      replace vs := vs.mono b1
      replace vr := vr.mono b1
      replace B := below_trans B b1
      clear b1
      have cvs0 := vs.cell (i := 0) (by simp)
      have cvs1 := vs.cell (i := 1) (by simp)
      have cvs2 := vs.cell (i := 2) (by simp)
      have cvs3 := vs.cell (i := 3) (by simp)
      simp only [List.getD_cons_zero, List.getD_cons_succ] at cvs0 cvs1 cvs2 cvs3
      have ltvs := vs.lt
      go_wp2_with fail
      clear cvs0 cvs1 cvs2 cvs3 ltvs
      refine (HS1.out _).mono ?_
      rintro e wq ⟨rfl, rfl⟩
      go_wp2_with fail
      refine (HS2.out _).mono ?_
      rintro e wq ⟨rfl, rfl⟩
      go_wp2_with fail
      refine (HG.out wq _ rfl).mono ?_
      rintro e w2 ⟨rfl, k9, rfl⟩
      have bb := below_alloc wq (.cells #[.int .u64 (num.natAbs : Int), .int .u64 (den.natAbs : Int)] 44)
      replace vs := (vs.mono bb).drewN k9
      replace vr := (vr.mono bb).drewN k9
      replace B := below_drewN (below_trans B bb) k9
      clear bb
      go_upto_region 8 with (fail)
      generalize World.drewN (wq.alloc (.cells #[.int .u64 (num.natAbs : Int), .int .u64 (den.natAbs : Int)] 44)) k9 = w3 at *
      go_quiet ((go_at_call 49; exact Calls.quiet_of_same (size_calls _ _ (by assumption))))
      replace vs := vs.drewN nq
      replace vr := vr.drewN nq
      replace B := below_drewN B nq
      go_upto_region 9 with (fail)
      generalize World.drewN w3 nq = w4 at *
      clear HS1 HS2 HG k1 k2
      have cvr0 := vr.cell (i := 0) (by simp)
      have cvr1 := vr.cell (i := 1) (by simp)
      have cvr2 := vr.cell (i := 2) (by simp)
      have cvr3 := vr.cell (i := 3) (by simp)
      simp only [List.getD_cons_zero, List.getD_cons_succ] at cvr0 cvr1 cvr2 cvr3
      have ltvr := vr.lt
      have fvr0 := vr.frozen 0
      have fvr1 := vr.frozen 1
      have fvr2 := vr.frozen 2
      have fvr3 := vr.frozen 3
      go_wp2
      obtain ⟨te, hg⟩ := vr.set4 (.int .i64 0) (.int .i64 0) (.int .i64 0) (.int .i64 0)
      refine bodyPost_ret_by (results_cell_tmp rfl _ _ (w.heap.size + 1) te _ (0, 0) _ rfl hg Try.underlying37 rfl (by kernel_rfl) (.int .i64 5) rfl) rfl ?_
      exact ⟨rfl, below_set4 B (by omega) _ _ _ _⟩
  · rcases ff with f1 | ⟨f1, f2⟩
    · skip
      have vs := Vals.newL w (w.heap.size) [.int .i64 0, .int .i64 b, .int .i64 c, .int .i64 d] 37 rfl
      have bb := below_alloc w (.cells #[.int .i64 0, .int .i64 b, .int .i64 c, .int .i64 d] 37)
      have B := bb
      have sz0 := World.size_alloc w (.cells #[.int .i64 0, .int .i64 b, .int .i64 c, .int .i64 d] 37)
      have sz := sz0
      clear sz0
      clear bb
      have vr := Vals.newL (w.alloc (.cells #[.int .i64 0, .int .i64 b, .int .i64 c, .int .i64 d] 37)) (w.heap.size + 1) [.int .i64 0, .int .i64 0, .int .i64 0, .int .i64 0] 37 sz.symm
      have bb := below_alloc (w.alloc (.cells #[.int .i64 0, .int .i64 b, .int .i64 c, .int .i64 d] 37)) (.cells #[.int .i64 0, .int .i64 0, .int .i64 0, .int .i64 0] 37)
      replace vs := vs.mono bb
      replace B := below_trans B bb
      clear sz
      clear bb
      go_enter Try.func70, Try.ntmps70
      go_wp2_with fail
      generalize ((w.alloc (.cells #[.int .i64 0, .int .i64 b, .int .i64 c, .int .i64 d] 37)).alloc (.cells #[.int .i64 0, .int .i64 0, .int .i64 0, .int .i64 0] 37)) = w0 at *
      refine (HA.out _).mono ?_
      rintro e w1 ⟨rfl, b1⟩
      replace vs := vs.mono b1
      replace vr := vr.mono b1
      replace B := below_trans B b1
      clear b1
      have cvs0 := vs.cell (i := 0) (by simp)
      have cvs1 := vs.cell (i := 1) (by simp)
      have cvs2 := vs.cell (i := 2) (by simp)
      have cvs3 := vs.cell (i := 3) (by simp)
      simp only [List.getD_cons_zero, List.getD_cons_succ] at cvs0 cvs1 cvs2 cvs3
      have ltvs := vs.lt
      go_wp2_with fail
      clear cvs0 cvs1 cvs2 cvs3 ltvs
      refine (HS1.out _).mono ?_
      rintro e wq ⟨rfl, rfl⟩
      go_wp2_with fail
      refine (HS2.out _).mono ?_
      rintro e wq ⟨rfl, rfl⟩
      go_wp2_with fail
      refine (HG.out wq _ rfl).mono ?_
      rintro e w2 ⟨rfl, k9, rfl⟩
      have bb := below_alloc wq (.cells #[.int .u64 (num.natAbs : Int), .int .u64 (den.natAbs : Int)] 44)
      replace vs := (vs.mono bb).drewN k9
      replace vr := (vr.mono bb).drewN k9
      replace B := below_drewN (below_trans B bb) k9
      clear bb
      go_upto_region 8 with (fail)
      generalize World.drewN (wq.alloc (.cells #[.int .u64 (num.natAbs : Int), .int .u64 (den.natAbs : Int)] 44)) k9 = w3 at *
      go_quiet ((go_at_call 49; exact Calls.quiet_of_same (size_calls _ _ (by assumption))))
      replace vs := vs.drewN nq
      replace vr := vr.drewN nq
      replace B := below_drewN B nq
      go_upto_region 9 with (fail)
      generalize World.drewN w3 nq = w4 at *
      clear HS1 HS2 HG k1 k2
      have cvr0 := vr.cell (i := 0) (by simp)
      have cvr1 := vr.cell (i := 1) (by simp)
      have cvr2 := vr.cell (i := 2) (by simp)
      have cvr3 := vr.cell (i := 3) (by simp)
      simp only [List.getD_cons_zero, List.getD_cons_succ] at cvr0 cvr1 cvr2 cvr3
      have ltvr := vr.lt
      have fvr0 := vr.frozen 0
      have fvr1 := vr.frozen 1
      have fvr2 := vr.frozen 2
      have fvr3 := vr.frozen 3
      go_wp2
      obtain ⟨te, hg⟩ := vr.set4 (.int .i64 0) (.int .i64 0) (.int .i64 0) (.int .i64 0)
      refine bodyPost_ret_by (results_cell_tmp rfl _ _ (w.heap.size + 1) te _ (0, 0) _ rfl hg Try.underlying37 rfl (by kernel_rfl) (.int .i64 5) rfl) rfl ?_
      exact ⟨rfl, below_set4 B (by omega) _ _ _ _⟩
    · skip
      have vs := Vals.newL w (w.heap.size) [.int .i64 0, .int .i64 b, .int .i64 c, .int .i64 d] 37 rfl
      have bb := below_alloc w (.cells #[.int .i64 0, .int .i64 b, .int .i64 c, .int .i64 d] 37)
      have B := bb
      have sz0 := World.size_alloc w (.cells #[.int .i64 0, .int .i64 b, .int .i64 c, .int .i64 d] 37)
      have sz := sz0
      clear sz0
      clear bb
      have vr := Vals.newL (w.alloc (.cells #[.int .i64 0, .int .i64 b, .int .i64 c, .int .i64 d] 37)) (w.heap.size + 1) [.int .i64 0, .int .i64 0, .int .i64 0, .int .i64 0] 37 sz.symm
      have bb := below_alloc (w.alloc (.cells #[.int .i64 0, .int .i64 b, .int .i64 c, .int .i64 d] 37)) (.cells #[.int .i64 0, .int .i64 0, .int .i64 0, .int .i64 0] 37)
      replace vs := vs.mono bb
      replace B := below_trans B bb
      clear sz
      clear bb
      go_enter Try.func70, Try.ntmps70
      go_wp2_with fail
      generalize ((w.alloc (.cells #[.int .i64 0, .int .i64 b, .int .i64 c, .int .i64 d] 37)).alloc (.cells #[.int .i64 0, .int .i64 0, .int .i64 0, .int .i64 0] 37)) = w0 at *
      refine (HA.out _).mono ?_
      rintro e w1 ⟨rfl, b1⟩
      replace vs := vs.mono b1
      replace vr := vr.mono b1
      replace B := below_trans B b1
      clear b1
      have cvs0 := vs.cell (i := 0) (by simp)
      have cvs1 := vs.cell (i := 1) (by simp)
      have cvs2 := vs.cell (i := 2) (by simp)
      have cvs3 := vs.cell (i := 3) (by simp)
      simp only [List.getD_cons_zero, List.getD_cons_succ] at cvs0 cvs1 cvs2 cvs3
      have ltvs := vs.lt
      go_wp2_with fail
      clear cvs0 cvs1 cvs2 cvs3 ltvs
      refine (HS1.out _).mono ?_
      rintro e wq ⟨rfl, rfl⟩
      go_wp2_with fail
      refine (HS2.out _).mono ?_
      rintro e wq ⟨rfl, rfl⟩
      go_wp2_with fail
      refine (HG.out wq _ rfl).mono ?_
      rintro e w2 ⟨rfl, k9, rfl⟩
      have bb := below_alloc wq (.cells #[.int .u64 (num.natAbs : Int), .int .u64 (den.natAbs : Int)] 44)
      replace vs := (vs.mono bb).drewN k9
      replace vr := (vr.mono bb).drewN k9
      replace B := below_drewN (below_trans B bb) k9
      clear bb
      go_upto_region 8 with (fail)
      generalize World.drewN (wq.alloc (.cells #[.int .u64 (num.natAbs : Int), .int .u64 (den.natAbs : Int)] 44)) k9 = w3 at *
      go_quiet ((go_at_call 49; exact Calls.quiet_of_same (size_calls _ _ (by assumption))))
      replace vs := vs.drewN nq
      replace vr := vr.drewN nq
      replace B := below_drewN B nq
      go_upto_region 9 with (fail)
      generalize World.drewN w3 nq = w4 at *
      clear HS1 HS2 HG k1 k2
      have cvr0 := vr.cell (i := 0) (by simp)
      have cvr1 := vr.cell (i := 1) (by simp)
      have cvr2 := vr.cell (i := 2) (by simp)
      have cvr3 := vr.cell (i := 3) (by simp)
      simp only [List.getD_cons_zero, List.getD_cons_succ] at cvr0 cvr1 cvr2 cvr3
      have ltvr := vr.lt
      have fvr0 := vr.frozen 0
      have fvr1 := vr.frozen 1
      have fvr2 := vr.frozen 2
      have fvr3 := vr.frozen 3
      go_wp2
      obtain ⟨te, hg⟩ := vr.set4 (.int .i64 0) (.int .i64 0) (.int .i64 0) (.int .i64 0)
      refine bodyPost_ret_by (results_cell_tmp rfl _ _ (w.heap.size + 1) te _ (0, 0) _ rfl hg Try.underlying37 rfl (by kernel_rfl) (.int .i64 5) rfl) rfl ?_
      exact ⟨rfl, below_set4 B (by omega) _ _ _ _⟩
  · rcases ff with f1 | ⟨f1, f2⟩
    · skip
      have vs := Vals.newL w (w.heap.size) [.int .i64 0, .int .i64 0, .int .i64 c, .int .i64 d] 37 rfl
      have bb := below_alloc w (.cells #[.int .i64 0, .int .i64 0, .int .i64 c, .int .i64 d] 37)
      have B := bb
      have sz0 := World.size_alloc w (.cells #[.int .i64 0, .int .i64 0, .int .i64 c, .int .i64 d] 37)
      have sz := sz0
      clear sz0
      clear bb
      have vr := Vals.newL (w.alloc (.cells #[.int .i64 0, .int .i64 0, .int .i64 c, .int .i64 d] 37)) (w.heap.size + 1) [.int .i64 0, .int .i64 0, .int .i64 0, .int .i64 0] 37 sz.symm
      have bb := below_alloc (w.alloc (.cells #[.int .i64 0, .int .i64 0, .int .i64 c, .int .i64 d] 37)) (.cells #[.int .i64 0, .int .i64 0, .int .i64 0, .int .i64 0] 37)
      replace vs := vs.mono bb
      replace B := below_trans B bb
      clear sz
      clear bb
      go_enter Try.func70, Try.ntmps70
      go_wp2_with fail
      generalize ((w.alloc (.cells #[.int .i64 0, .int .i64 0, .int .i64 c, .int .i64 d] 37)).alloc (.cells #[.int .i64 0, .int .i64 0, .int .i64 0, .int .i64 0] 37)) = w0 at *
      refine (HA.out _).mono ?_
      rintro e w1 ⟨rfl, b1⟩
      replace vs := vs.mono b1
      replace vr := vr.mono b1
      replace B := below_trans B b1
      clear b1
      have cvs0 := vs.cell (i := 0) (by simp)
      have cvs1 := vs.cell (i := 1) (by simp)
      have cvs2 := vs.cell (i := 2) (by simp)
      have cvs3 := vs.cell (i := 3) (by simp)
      simp only [List.getD_cons_zero, List.getD_cons_succ] at cvs0 cvs1 cvs2 cvs3
      have ltvs := vs.lt
      go_wp2_with fail
      clear cvs0 cvs1 cvs2 cvs3 ltvs
      refine (HS1.out _).mono ?_
      rintro e wq ⟨rfl, rfl⟩
      go_wp2_with fail
      refine (HS2.out _).mono ?_
      rintro e wq ⟨rfl, rfl⟩
      go_wp2_with fail
      refine (HG.out wq _ rfl).mono ?_
      rintro e w2 ⟨rfl, k9, rfl⟩
      have bb := below_alloc wq (.cells #[.int .u64 (num.natAbs : Int), .int .u64 (den.natAbs : Int)] 44)
      replace vs := (vs.mono bb).drewN k9
      replace vr := (vr.mono bb).drewN k9
      replace B := below_drewN (below_trans B bb) k9
      clear bb
      go_upto_region 8 with (fail)
      generalize World.drewN (wq.alloc (.cells #[.int .u64 (num.natAbs : Int), .int .u64 (den.natAbs : Int)] 44)) k9 = w3 at *
      go_quiet ((go_at_call 49; exact Calls.quiet_of_same (size_calls _ _ (by assumption))))
      replace vs := vs.drewN nq
      replace vr := vr.drewN nq
      replace B := below_drewN B nq
      go_upto_region 9 with (fail)
      generalize World.drewN w3 nq = w4 at *
      clear HS1 HS2 HG k1 k2
      have cvr0 := vr.cell (i := 0) (by simp)
      have cvr1 := vr.cell (i := 1) (by simp)
      have cvr2 := vr.cell (i := 2) (by simp)
      have cvr3 := vr.cell (i := 3) (by simp)
      simp only [List.getD_cons_zero, List.getD_cons_succ] at cvr0 cvr1 cvr2 cvr3
      have ltvr := vr.lt
      have fvr0 := vr.frozen 0
      have fvr1 := vr.frozen 1
      have fvr2 := vr.frozen 2
      have fvr3 := vr.frozen 3
      go_wp2
      obtain ⟨te, hg⟩ := vr.set4 (.int .i64 0) (.int .i64 0) (.int .i64 0) (.int .i64 0)
      refine bodyPost_ret_by (results_cell_tmp rfl _ _ (w.heap.size + 1) te _ (0, 0) _ rfl hg Try.underlying37 rfl (by kernel_rfl) (.int .i64 5) rfl) rfl ?_
      exact ⟨rfl, below_set4 B (by omega) _ _ _ _⟩
    · skip
      have vs := Vals.newL w (w.heap.size) [.int .i64 0, .int .i64 0, .int .i64 c, .int .i64 d] 37 rfl
      have bb := below_alloc w (.cells #[.int .i64 0, .int .i64 0, .int .i64 c, .int .i64 d] 37)
      have B := bb
      have sz0 := World.size_alloc w (.cells #[.int .i64 0, .int .i64 0, .int .i64 c, .int .i64 d] 37)
      have sz := sz0
      clear sz0
      clear bb
      have vr := Vals.newL (w.alloc (.cells #[.int .i64 0, .int .i64 0, .int .i64 c, .int .i64 d] 37)) (w.heap.size + 1) [.int .i64 0, .int .i64 0, .int .i64 0, .int .i64 0] 37 sz.symm
      have bb := below_alloc (w.alloc (.cells #[.int .i64 0, .int .i64 0, .int .i64 c, .int .i64 d] 37)) (.cells #[.int .i64 0, .int .i64 0, .int .i64 0, .int .i64 0] 37)
      replace vs := vs.mono bb
      replace B := below_trans B bb
      clear sz
      clear bb
      go_enter Try.func70, Try.ntmps70
      go_wp2_with fail
      generalize ((w.alloc (.cells #[.int .i64 0, .int .i64 0, .int .i64 c, .int .i64 d] 37)).alloc (.cells #[.int .i64 0, .int .i64 0, .int .i64 0, .int .i64 0] 37)) = w0 at *
      refine (HA.out _).mono ?_
      rintro e w1 ⟨rfl, b1⟩
      replace vs := vs.mono b1
      replace vr := vr.mono b1
      replace B := below_trans B b1
      clear b1
      have cvs0 := vs.cell (i := 0) (by simp)
      have cvs1 := vs.cell (i := 1) (by simp)
      have cvs2 := vs.cell (i := 2) (by simp)
      have cvs3 := vs.cell (i := 3) (by simp)
      simp only [List.getD_cons_zero, List.getD_cons_succ] at cvs0 cvs1 cvs2 cvs3
      have ltvs := vs.lt
      go_wp2_with fail
      clear cvs0 cvs1 cvs2 cvs3 ltvs
      refine (HS1.out _).mono ?_
      rintro e wq ⟨rfl, rfl⟩
      go_wp2_with fail
      refine (HS2.out _).mono ?_
      rintro e wq ⟨rfl, rfl⟩
      go_wp2_with fail
      refine (HG.out wq _ rfl).mono ?_
      rintro e w2 ⟨rfl, k9, rfl⟩
      have bb := below_alloc wq (.cells #[.int .u64 (num.natAbs : Int), .int .u64 (den.natAbs : Int)] 44)
      replace vs := (vs.mono bb).drewN k9
      replace vr := (vr.mono bb).drewN k9
      replace B := below_drewN (below_trans B bb) k9
      clear bb
      go_upto_region 8 with (fail)
      generalize World.drewN (wq.alloc (.cells #[.int .u64 (num.natAbs : Int), .int .u64 (den.natAbs : Int)] 44)) k9 = w3 at *
      go_quiet ((go_at_call 49; exact Calls.quiet_of_same (size_calls _ _ (by assumption))))
      replace vs := vs.drewN nq
      replace vr := vr.drewN nq
      replace B := below_drewN B nq
      go_upto_region 9 with (fail)
      generalize World.drewN w3 nq = w4 at *
      clear HS1 HS2 HG k1 k2
      have cvr0 := vr.cell (i := 0) (by simp)
      have cvr1 := vr.cell (i := 1) (by simp)
      have cvr2 := vr.cell (i := 2) (by simp)
      have cvr3 := vr.cell (i := 3) (by simp)
      simp only [List.getD_cons_zero, List.getD_cons_succ] at cvr0 cvr1 cvr2 cvr3
      have ltvr := vr.lt
      have fvr0 := vr.frozen 0
      have fvr1 := vr.frozen 1
      have fvr2 := vr.frozen 2
      have fvr3 := vr.frozen 3
      go_wp2
      obtain ⟨te, hg⟩ := vr.set4 (.int .i64 0) (.int .i64 0) (.int .i64 0) (.int .i64 0)
      refine bodyPost_ret_by (results_cell_tmp rfl _ _ (w.heap.size + 1) te _ (0, 0) _ rfl hg Try.underlying37 rfl (by kernel_rfl) (.int .i64 5) rfl) rfl ?_
      exact ⟨rfl, below_set4 B (by omega) _ _ _ _⟩

set_option maxRecDepth 100000 in
set_option maxHeartbeats 1000000 in
theorem power_neg (a b c d num den : Int) (w : World) (hs : validB a b c d = true) (h0 : ¬ (a = 0 ∧ b = 0 ∧ c = 0)) (hn : i64 num) (hd : i64 den) (hd1 : 1 ≤ den) (hf : num.natAbs / Nat.gcd num.natAbs den.natAbs ≤ 23040 ∧ den.natAbs / Nat.gcd num.natAbs den.natAbs ≤ 23040) (hz : num < 0) :
    Calls Try.prog 70 #[.agg #[.int .i64 a, .int .i64 b, .int .i64 c, .int .i64 d], .int .i64 num, .int .i64 den] w (RetT w (powT ⟨a, b, c, d⟩ num den)) := by
  have HV : validB a b c d = true := hs
  obtain ⟨p1, p2, p3, p4, p5, p6⟩ := validB_parts hs
  have hred := power_red hs h0 hd1 (Nat.gcd num.natAbs den.natAbs) (num.natAbs / Nat.gcd num.natAbs den.natAbs) (den.natAbs / Nat.gcd num.natAbs den.natAbs) rfl rfl rfl
  obtain ⟨q1, q2, q3, q4, q5, q6⟩ := hred
  have VA := fun w : World => tvalid_calls a b c d w (by omega) (by omega) (by omega) (by omega)
  rw [hs] at VA
  have HA := Lib.hid VA
  have S1 := fun w : World => size_calls num w hn
  have S2 := fun w : World => size_calls den w hd
  unfold i64 at hn hd
  have G := fun (w1 : World) (n : Nat) (hz : n = w1.heap.size) => gcd_two num.natAbs den.natAbs w1 n hz (by omega) (by omega)
  have n1 : num.natAbs / Nat.gcd num.natAbs den.natAbs ≤ num.natAbs := Nat.div_le_self _ _
  have n2 : den.natAbs / Nat.gcd num.natAbs den.natAbs ≤ den.natAbs := Nat.div_le_self _ _
  have m1 : ((num.natAbs : Int) / ((Nat.gcd num.natAbs den.natAbs : Nat) : Int)) = ((num.natAbs / Nat.gcd num.natAbs den.natAbs : Nat) : Int) := rfl
  have m2 : ((den.natAbs : Int) / ((Nat.gcd num.natAbs den.natAbs : Nat) : Int)) = ((den.natAbs / Nat.gcd num.natAbs den.natAbs : Nat) : Int) := rfl
  generalize num.natAbs / Nat.gcd num.natAbs den.natAbs = over at *
  generalize den.natAbs / Nat.gcd num.natAbs den.natAbs = under at *
  generalize Nat.gcd num.natAbs den.natAbs = g at *
  have k1 : IntKind.u64.wrap ((num.natAbs : Int) / (g : Int)) = (over : Int) := by rw [m1, IntKind.wrap_u64]; omega
  have k2 : IntKind.u64.wrap ((den.natAbs : Int) / (g : Int)) = (under : Int) := by rw [m2, IntKind.wrap_u64]; omega
  have hov0 : sgnV (decide (num < 0)) over = if num < 0 then -(over : Int) else (over : Int) := by unfold sgnV; by_cases h : num < 0 <;> simp [h]
  have HS1 := Lib.hid S1
  have HS2 := Lib.hid S2
  have HG := Lib.hid G
  have g0 : ((g : Int) == 0) = false := by rw [beq_eq_false_iff_ne]; omega
  have t1 : ¬ den < 1 := by omega
  have f1 : decide ((23040 : Int) < over) = false := by rw [decide_eq_false_iff_not]; omega
  have f2 : decide ((23040 : Int) < under) = false := by rw [decide_eq_false_iff_not]; omega
  have R : powT ⟨a, b, c, d⟩ num den = redT (a * sgnV (decide (num < 0)) over) (b * sgnV (decide (num < 0)) over) (c * sgnV (decide (num < 0)) over) (d * (under : Int)) := q6
  rw [decide_eq_true hz] at R
  have hov : sgnV true over = -(over : Int) := rfl
  rw [hov] at R
  rw [R]
  have b1 : (-(over : Int)).natAbs ≤ 23040 := by omega
  have b2 : ((under : Int)).natAbs ≤ 23040 := by omega
  have E1 := Lib.hid (pow_wrap p4 b1 (Nat.le_refl _))
  have E2 := Lib.hid (pow_wrap p5 b1 (Nat.le_refl _))
  have E3 := Lib.hid (pow_wrap p6 b1 (Nat.le_refl _))
  have E4 := Lib.hid (pow_wrap (show d.natAbs ≤ 960 by omega) b2 (Nat.le_refl _))
  have RC := fun w : World => reduce_calls _ _ _ _ w (pow_i64 p4 b1 (Nat.le_refl _)) (pow_i64 p5 b1 (Nat.le_refl _)) (pow_i64 p6 b1 (Nat.le_refl _)) (pow_i64 (show d.natAbs ≤ 960 by omega) b2 (Nat.le_refl _)) (prod_pos p2 (show 1 ≤ (under : Int) by omega))
  have HR := Lib.hid RC
  generalize redT (a * -(over : Int)) (b * -(over : Int)) (c * -(over : Int)) (d * (under : Int)) = r at *
  obtain ⟨⟨x, y, z, u⟩, k⟩ := r
  clear R RC hov hov0 q5 q6 q3 q4 q2 b1 b2
  have ways : ¬ a = 0 ∨ a = 0 ∧ ¬ b = 0 ∨ a = 0 ∧ b = 0 ∧ ¬ c = 0 := by omega
  clear h0 HV hs VA S1 S2 G m1 m2
  have k3 : wrap64 (over : Int) = (over : Int) := wrap64_small (by omega)
  have k4 : wrap64 (under : Int) = (under : Int) := wrap64_small (by omega)
  clear p1 p2 p3 p4 p5 p6 n1 n2 hd1
  rcases ways with w1 | ⟨rfl, w1⟩ | ⟨rfl, rfl, w1⟩
  · skip
    have vs := Vals.newL w (w.heap.size) [.int .i64 a, .int .i64 b, .int .i64 c, .int .i64 d] 37 rfl
    have bb := below_alloc w (.cells #[.int .i64 a, .int .i64 b, .int .i64 c, .int .i64 d] 37)
    have B := bb
    have sz0 := World.size_alloc w (.cells #[.int .i64 a, .int .i64 b, .int .i64 c, .int .i64 d] 37)
    have sz := sz0
    clear sz0
    clear bb
    have vr := Vals.newL (w.alloc (.cells #[.int .i64 a, .int .i64 b, .int .i64 c, .int .i64 d] 37)) (w.heap.size + 1) [.int .i64 0, .int .i64 0, .int .i64 0, .int .i64 0] 37 sz.symm
    have bb := below_alloc (w.alloc (.cells #[.int .i64 a, .int .i64 b, .int .i64 c, .int .i64 d] 37)) (.cells #[.int .i64 0, .int .i64 0, .int .i64 0, .int .i64 0] 37)
    replace vs := vs.mono bb
    replace B := below_trans B bb
    clear sz
    clear bb
    go_enter Try.func70, Try.ntmps70
    go_wp2_with fail
    generalize ((w.alloc (.cells #[.int .i64 a, .int .i64 b, .int .i64 c, .int .i64 d] 37)).alloc (.cells #[.int .i64 0, .int .i64 0, .int .i64 0, .int .i64 0] 37)) = w0 at *
    refine (HA.out _).mono ?_
    rintro e w1 ⟨rfl, b1⟩
    replace vs := vs.mono b1
    replace vr := vr.mono b1
    replace B := below_trans B b1
    clear b1
    have cvs0 := vs.cell (i := 0) (by simp)
    have cvs1 := vs.cell (i := 1) (by simp)
    have cvs2 := vs.cell (i := 2) (by simp)
    have cvs3 := vs.cell (i := 3) (by simp)
    simp only [List.getD_cons_zero, List.getD_cons_succ] at cvs0 cvs1 cvs2 cvs3
    have ltvs := vs.lt
    go_wp2_with fail
    clear cvs0 cvs1 cvs2 cvs3 ltvs
    refine (HS1.out _).mono ?_
    rintro e wq ⟨rfl, rfl⟩
    go_wp2_with fail
    refine (HS2.out _).mono ?_
    rintro e wq ⟨rfl, rfl⟩
    go_wp2_with fail
    refine (HG.out wq _ rfl).mono ?_
    rintro e w2 ⟨rfl, k9, rfl⟩
    have bb := below_alloc wq (.cells #[.int .u64 (num.natAbs : Int), .int .u64 (den.natAbs : Int)] 44)
    replace vs := (vs.mono bb).drewN k9
    replace vr := (vr.mono bb).drewN k9
    replace B := below_drewN (below_trans B bb) k9
    clear bb
    go_upto_region 8 with (fail)
    generalize World.drewN (wq.alloc (.cells #[.int .u64 (num.natAbs : Int), .int .u64 (den.natAbs : Int)] 44)) k9 = w3 at *
    go_quiet ((go_at_call 49; exact Calls.quiet_of_same (size_calls _ _ (by assumption))))
    replace vs := vs.drewN nq
    replace vr := vr.drewN nq
    replace B := below_drewN B nq
    go_upto_region 9 with (fail)
    generalize World.drewN w3 nq = w4 at *
    clear HS1 HS2 HG k1 k2
    have cvs0 := vs.cell (i := 0) (by simp)
    have cvs1 := vs.cell (i := 1) (by simp)
    have cvs2 := vs.cell (i := 2) (by simp)
    have cvs3 := vs.cell (i := 3) (by simp)
    simp only [List.getD_cons_zero, List.getD_cons_succ] at cvs0 cvs1 cvs2 cvs3
    have ltvs := vs.lt
    go_wp2_with fail
    clear cvs0 cvs1 cvs2 cvs3 ltvs
    rw [E1.out, E2.out, E3.out, E4.out]
    refine (HR.out _).mono ?_
    rintro e w5 ⟨rfl, b5⟩
    replace vr := vr.mono b5
    replace B := below_trans B b5
    clear b5
    have cvr0 := vr.cell (i := 0) (by simp)
    have cvr1 := vr.cell (i := 1) (by simp)
    have cvr2 := vr.cell (i := 2) (by simp)
    have cvr3 := vr.cell (i := 3) (by simp)
    simp only [List.getD_cons_zero, List.getD_cons_succ] at cvr0 cvr1 cvr2 cvr3
    have ltvr := vr.lt
    have fvr0 := vr.frozen 0
    have fvr1 := vr.frozen 1
    have fvr2 := vr.frozen 2
    have fvr3 := vr.frozen 3
    go_wp2
    obtain ⟨te, hg⟩ := vr.set4 (.int .i64 x) (.int .i64 y) (.int .i64 z) (.int .i64 u)
    refine bodyPost_ret_by (results_cell_tmp rfl _ _ (w.heap.size + 1) te _ (0, 0) _ rfl hg Try.underlying37 rfl (by kernel_rfl) (.int .i64 k) rfl) rfl ?_
    exact ⟨rfl, below_set4 B (by omega) _ _ _ _⟩
  · skip
    have vs := Vals.newL w (w.heap.size) [.int .i64 0, .int .i64 b, .int .i64 c, .int .i64 d] 37 rfl
    have bb := below_alloc w (.cells #[.int .i64 0, .int .i64 b, .int .i64 c, .int .i64 d] 37)
    have B := bb
    have sz0 := World.size_alloc w (.cells #[.int .i64 0, .int .i64 b, .int .i64 c, .int .i64 d] 37)
    have sz := sz0
    clear sz0
    clear bb
    have vr := Vals.newL (w.alloc (.cells #[.int .i64 0, .int .i64 b, .int .i64 c, .int .i64 d] 37)) (w.heap.size + 1) [.int .i64 0, .int .i64 0, .int .i64 0, .int .i64 0] 37 sz.symm
    have bb := below_alloc (w.alloc (.cells #[.int .i64 0, .int .i64 b, .int .i64 c, .int .i64 d] 37)) (.cells #[.int .i64 0, .int .i64 0, .int .i64 0, .int .i64 0] 37)
    replace vs := vs.mono bb
    replace B := below_trans B bb
    clear sz
    clear bb
    go_enter Try.func70, Try.ntmps70
    go_wp2_with fail
    generalize ((w.alloc (.cells #[.int .i64 0, .int .i64 b, .int .i64 c, .int .i64 d] 37)).alloc (.cells #[.int .i64 0, .int .i64 0, .int .i64 0, .int .i64 0] 37)) = w0 at *
    refine (HA.out _).mono ?_
    rintro e w1 ⟨rfl, b1⟩
    replace vs := vs.mono b1
    replace vr := vr.mono b1
    replace B := below_trans B b1
    clear b1
    have cvs0 := vs.cell (i := 0) (by simp)
    have cvs1 := vs.cell (i := 1) (by simp)
    have cvs2 := vs.cell (i := 2) (by simp)
    have cvs3 := vs.cell (i := 3) (by simp)
    simp only [List.getD_cons_zero, List.getD_cons_succ] at cvs0 cvs1 cvs2 cvs3
    have ltvs := vs.lt
    go_wp2_with fail
    clear cvs0 cvs1 cvs2 cvs3 ltvs
    refine (HS1.out _).mono ?_
    rintro e wq ⟨rfl, rfl⟩
    go_wp2_with fail
    refine (HS2.out _).mono ?_
    rintro e wq ⟨rfl, rfl⟩
    go_wp2_with fail
    refine (HG.out wq _ rfl).mono ?_
    rintro e w2 ⟨rfl, k9, rfl⟩
    have bb := below_alloc wq (.cells #[.int .u64 (num.natAbs : Int), .int .u64 (den.natAbs : Int)] 44)
    replace vs := (vs.mono bb).drewN k9
    replace vr := (vr.mono bb).drewN k9
    replace B := below_drewN (below_trans B bb) k9
    clear bb
    go_upto_region 8 with (fail)
    generalize World.drewN (wq.alloc (.cells #[.int .u64 (num.natAbs : Int), .int .u64 (den.natAbs : Int)] 44)) k9 = w3 at *
    go_quiet ((go_at_call 49; exact Calls.quiet_of_same (size_calls _ _ (by assumption))))
    replace vs := vs.drewN nq
    replace vr := vr.drewN nq
    replace B := below_drewN B nq
    go_upto_region 9 with (fail)
    generalize World.drewN w3 nq = w4 at *
    clear HS1 HS2 HG k1 k2
    have cvs0 := vs.cell (i := 0) (by simp)
    have cvs1 := vs.cell (i := 1) (by simp)
    have cvs2 := vs.cell (i := 2) (by simp)
    have cvs3 := vs.cell (i := 3) (by simp)
    simp only [List.getD_cons_zero, List.getD_cons_succ] at cvs0 cvs1 cvs2 cvs3
    have ltvs := vs.lt
    go_wp2_with fail
    clear cvs0 cvs1 cvs2 cvs3 ltvs
    simp only [Int.zero_mul] at HR
    rw [E2.out, E3.out, E4.out]
    refine (HR.out _).mono ?_
    rintro e w5 ⟨rfl, b5⟩
    replace vr := vr.mono b5
    replace B := below_trans B b5
    clear b5
    have cvr0 := vr.cell (i := 0) (by simp)
    have cvr1 := vr.cell (i := 1) (by simp)
    have cvr2 := vr.cell (i := 2) (by simp)
    have cvr3 := vr.cell (i := 3) (by simp)
    simp only [List.getD_cons_zero, List.getD_cons_succ] at cvr0 cvr1 cvr2 cvr3
    have ltvr := vr.lt
    have fvr0 := vr.frozen 0
    have fvr1 := vr.frozen 1
    have fvr2 := vr.frozen 2
    have fvr3 := vr.frozen 3
    go_wp2
    obtain ⟨te, hg⟩ := vr.set4 (.int .i64 x) (.int .i64 y) (.int .i64 z) (.int .i64 u)
    refine bodyPost_ret_by (results_cell_tmp rfl _ _ (w.heap.size + 1) te _ (0, 0) _ rfl hg Try.underlying37 rfl (by kernel_rfl) (.int .i64 k) rfl) rfl ?_
    exact ⟨rfl, below_set4 B (by omega) _ _ _ _⟩
  · skip
    have vs := Vals.newL w (w.heap.size) [.int .i64 0, .int .i64 0, .int .i64 c, .int .i64 d] 37 rfl
    have bb := below_alloc w (.cells #[.int .i64 0, .int .i64 0, .int .i64 c, .int .i64 d] 37)
    have B := bb
    have sz0 := World.size_alloc w (.cells #[.int .i64 0, .int .i64 0, .int .i64 c, .int .i64 d] 37)
    have sz := sz0
    clear sz0
    clear bb
    have vr := Vals.newL (w.alloc (.cells #[.int .i64 0, .int .i64 0, .int .i64 c, .int .i64 d] 37)) (w.heap.size + 1) [.int .i64 0, .int .i64 0, .int .i64 0, .int .i64 0] 37 sz.symm
    have bb := below_alloc (w.alloc (.cells #[.int .i64 0, .int .i64 0, .int .i64 c, .int .i64 d] 37)) (.cells #[.int .i64 0, .int .i64 0, .int .i64 0, .int .i64 0] 37)
    replace vs := vs.mono bb
    replace B := below_trans B bb
    clear sz
    clear bb
    go_enter Try.func70, Try.ntmps70
    go_wp2_with fail
    generalize ((w.alloc (.cells #[.int .i64 0, .int .i64 0, .int .i64 c, .int .i64 d] 37)).alloc (.cells #[.int .i64 0, .int .i64 0, .int .i64 0, .int .i64 0] 37)) = w0 at *
    refine (HA.out _).mono ?_
    rintro e w1 ⟨rfl, b1⟩
    replace vs := vs.mono b1
    replace vr := vr.mono b1
    replace B := below_trans B b1
    clear b1
    have cvs0 := vs.cell (i := 0) (by simp)
    have cvs1 := vs.cell (i := 1) (by simp)
    have cvs2 := vs.cell (i := 2) (by simp)
    have cvs3 := vs.cell (i := 3) (by simp)
    simp only [List.getD_cons_zero, List.getD_cons_succ] at cvs0 cvs1 cvs2 cvs3
    have ltvs := vs.lt
    go_wp2_with fail
    clear cvs0 cvs1 cvs2 cvs3 ltvs
    refine (HS1.out _).mono ?_
    rintro e wq ⟨rfl, rfl⟩
    go_wp2_with fail
    refine (HS2.out _).mono ?_
    rintro e wq ⟨rfl, rfl⟩
    go_wp2_with fail
    refine (HG.out wq _ rfl).mono ?_
    rintro e w2 ⟨rfl, k9, rfl⟩
    have bb := below_alloc wq (.cells #[.int .u64 (num.natAbs : Int), .int .u64 (den.natAbs : Int)] 44)
    replace vs := (vs.mono bb).drewN k9
    replace vr := (vr.mono bb).drewN k9
    replace B := below_drewN (below_trans B bb) k9
    clear bb
    go_upto_region 8 with (fail)
    generalize World.drewN (wq.alloc (.cells #[.int .u64 (num.natAbs : Int), .int .u64 (den.natAbs : Int)] 44)) k9 = w3 at *
    go_quiet ((go_at_call 49; exact Calls.quiet_of_same (size_calls _ _ (by assumption))))
    replace vs := vs.drewN nq
    replace vr := vr.drewN nq
    replace B := below_drewN B nq
    go_upto_region 9 with (fail)
    generalize World.drewN w3 nq = w4 at *
    clear HS1 HS2 HG k1 k2
    have cvs0 := vs.cell (i := 0) (by simp)
    have cvs1 := vs.cell (i := 1) (by simp)
    have cvs2 := vs.cell (i := 2) (by simp)
    have cvs3 := vs.cell (i := 3) (by simp)
    simp only [List.getD_cons_zero, List.getD_cons_succ] at cvs0 cvs1 cvs2 cvs3
    have ltvs := vs.lt
    go_wp2_with fail
    clear cvs0 cvs1 cvs2 cvs3 ltvs
    simp only [Int.zero_mul] at HR
    rw [E3.out, E4.out]
    refine (HR.out _).mono ?_
    rintro e w5 ⟨rfl, b5⟩
    replace vr := vr.mono b5
    replace B := below_trans B b5
    clear b5
    have cvr0 := vr.cell (i := 0) (by simp)
    have cvr1 := vr.cell (i := 1) (by simp)
    have cvr2 := vr.cell (i := 2) (by simp)
    have cvr3 := vr.cell (i := 3) (by simp)
    simp only [List.getD_cons_zero, List.getD_cons_succ] at cvr0 cvr1 cvr2 cvr3
    have ltvr := vr.lt
    have fvr0 := vr.frozen 0
    have fvr1 := vr.frozen 1
    have fvr2 := vr.frozen 2
    have fvr3 := vr.frozen 3
    go_wp2
    obtain ⟨te, hg⟩ := vr.set4 (.int .i64 x) (.int .i64 y) (.int .i64 z) (.int .i64 u)
    refine bodyPost_ret_by (results_cell_tmp rfl _ _ (w.heap.size + 1) te _ (0, 0) _ rfl hg Try.underlying37 rfl (by kernel_rfl) (.int .i64 k) rfl) rfl ?_
    exact ⟨rfl, below_set4 B (by omega) _ _ _ _⟩

set_option maxRecDepth 100000 in
set_option maxHeartbeats 1000000 in
theorem power_pos (a b c d num den : Int) (w : World) (hs : validB a b c d = true) (h0 : ¬ (a = 0 ∧ b = 0 ∧ c = 0)) (hn : i64 num) (hd : i64 den) (hd1 : 1 ≤ den) (hf : num.natAbs / Nat.gcd num.natAbs den.natAbs ≤ 23040 ∧ den.natAbs / Nat.gcd num.natAbs den.natAbs ≤ 23040) (hz : 0 ≤ num) :
    Calls Try.prog 70 #[.agg #[.int .i64 a, .int .i64 b, .int .i64 c, .int .i64 d], .int .i64 num, .int .i64 den] w (RetT w (powT ⟨a, b, c, d⟩ num den)) := by
  have HV : validB a b c d = true := hs
  obtain ⟨p1, p2, p3, p4, p5, p6⟩ := validB_parts hs
  have hred := power_red hs h0 hd1 (Nat.gcd num.natAbs den.natAbs) (num.natAbs / Nat.gcd num.natAbs den.natAbs) (den.natAbs / Nat.gcd num.natAbs den.natAbs) rfl rfl rfl
  obtain ⟨q1, q2, q3, q4, q5, q6⟩ := hred
  have VA := fun w : World => tvalid_calls a b c d w (by omega) (by omega) (by omega) (by omega)
  rw [hs] at VA
  have HA := Lib.hid VA
  have S1 := fun w : World => size_calls num w hn
  have S2 := fun w : World => size_calls den w hd
  unfold i64 at hn hd
  have G := fun (w1 : World) (n : Nat) (hz : n = w1.heap.size) => gcd_two num.natAbs den.natAbs w1 n hz (by omega) (by omega)
  have n1 : num.natAbs / Nat.gcd num.natAbs den.natAbs ≤ num.natAbs := Nat.div_le_self _ _
  have n2 : den.natAbs / Nat.gcd num.natAbs den.natAbs ≤ den.natAbs := Nat.div_le_self _ _
  have m1 : ((num.natAbs : Int) / ((Nat.gcd num.natAbs den.natAbs : Nat) : Int)) = ((num.natAbs / Nat.gcd num.natAbs den.natAbs : Nat) : Int) := rfl
  have m2 : ((den.natAbs : Int) / ((Nat.gcd num.natAbs den.natAbs : Nat) : Int)) = ((den.natAbs / Nat.gcd num.natAbs den.natAbs : Nat) : Int) := rfl
  generalize num.natAbs / Nat.gcd num.natAbs den.natAbs = over at *
  generalize den.natAbs / Nat.gcd num.natAbs den.natAbs = under at *
  generalize Nat.gcd num.natAbs den.natAbs = g at *
  have k1 : IntKind.u64.wrap ((num.natAbs : Int) / (g : Int)) = (over : Int) := by rw [m1, IntKind.wrap_u64]; omega
  have k2 : IntKind.u64.wrap ((den.natAbs : Int) / (g : Int)) = (under : Int) := by rw [m2, IntKind.wrap_u64]; omega
  have hov0 : sgnV (decide (num < 0)) over = if num < 0 then -(over : Int) else (over : Int) := by unfold sgnV; by_cases h : num < 0 <;> simp [h]
  have HS1 := Lib.hid S1
  have HS2 := Lib.hid S2
  have HG := Lib.hid G
  have g0 : ((g : Int) == 0) = false := by rw [beq_eq_false_iff_ne]; omega
  have t1 : ¬ den < 1 := by omega
  have f1 : decide ((23040 : Int) < over) = false := by rw [decide_eq_false_iff_not]; omega
  have f2 : decide ((23040 : Int) < under) = false := by rw [decide_eq_false_iff_not]; omega
  have R : powT ⟨a, b, c, d⟩ num den = redT (a * sgnV (decide (num < 0)) over) (b * sgnV (decide (num < 0)) over) (c * sgnV (decide (num < 0)) over) (d * (under : Int)) := q6
  rw [decide_eq_false (show ¬ num < 0 by omega)] at R
  have hov : sgnV false over = (over : Int) := rfl
  rw [hov] at R
  rw [R]
  have b1 : ((over : Int)).natAbs ≤ 23040 := by omega
  have b2 : ((under : Int)).natAbs ≤ 23040 := by omega
  have E1 := Lib.hid (pow_wrap p4 b1 (Nat.le_refl _))
  have E2 := Lib.hid (pow_wrap p5 b1 (Nat.le_refl _))
  have E3 := Lib.hid (pow_wrap p6 b1 (Nat.le_refl _))
  have E4 := Lib.hid (pow_wrap (show d.natAbs ≤ 960 by omega) b2 (Nat.le_refl _))
  have RC := fun w : World => reduce_calls _ _ _ _ w (pow_i64 p4 b1 (Nat.le_refl _)) (pow_i64 p5 b1 (Nat.le_refl _)) (pow_i64 p6 b1 (Nat.le_refl _)) (pow_i64 (show d.natAbs ≤ 960 by omega) b2 (Nat.le_refl _)) (prod_pos p2 (show 1 ≤ (under : Int) by omega))
  have HR := Lib.hid RC
  generalize redT (a * (over : Int)) (b * (over : Int)) (c * (over : Int)) (d * (under : Int)) = r at *
  obtain ⟨⟨x, y, z, u⟩, k⟩ := r
  clear R RC hov hov0 q5 q6 q3 q4 q2 b1 b2
  have ways : ¬ a = 0 ∨ a = 0 ∧ ¬ b = 0 ∨ a = 0 ∧ b = 0 ∧ ¬ c = 0 := by omega
  clear h0 HV hs VA S1 S2 G m1 m2
  have k3 : wrap64 (over : Int) = (over : Int) := wrap64_small (by omega)
  have k4 : wrap64 (under : Int) = (under : Int) := wrap64_small (by omega)
  clear p1 p2 p3 p4 p5 p6 n1 n2 hd1
  rcases ways with w1 | ⟨rfl, w1⟩ | ⟨rfl, rfl, w1⟩
  · skip
    have vs := Vals.newL w (w.heap.size) [.int .i64 a, .int .i64 b, .int .i64 c, .int .i64 d] 37 rfl
    have bb := below_alloc w (.cells #[.int .i64 a, .int .i64 b, .int .i64 c, .int .i64 d] 37)
    have B := bb
    have sz0 := World.size_alloc w (.cells #[.int .i64 a, .int .i64 b, .int .i64 c, .int .i64 d] 37)
    have sz := sz0
    clear sz0
    clear bb
    have vr := Vals.newL (w.alloc (.cells #[.int .i64 a, .int .i64 b, .int .i64 c, .int .i64 d] 37)) (w.heap.size + 1) [.int .i64 0, .int .i64 0, .int .i64 0, .int .i64 0] 37 sz.symm
    have bb := below_alloc (w.alloc (.cells #[.int .i64 a, .int .i64 b, .int .i64 c, .int .i64 d] 37)) (.cells #[.int .i64 0, .int .i64 0, .int .i64 0, .int .i64 0] 37)
    replace vs := vs.mono bb
    replace B := below_trans B bb
    clear sz
    clear bb
    go_enter Try.func70, Try.ntmps70
    go_wp2_with fail
    generalize ((w.alloc (.cells #[.int .i64 a, .int .i64 b, .int .i64 c, .int .i64 d] 37)).alloc (.cells #[.int .i64 0, .int .i64 0, .int .i64 0, .int .i64 0] 37)) = w0 at *
    refine (HA.out _).mono ?_
    rintro e w1 ⟨rfl, b1⟩
    replace vs := vs.mono b1
    replace vr := vr.mono b1
    replace B := below_trans B b1
    clear b1
    have cvs0 := vs.cell (i := 0) (by simp)
    have cvs1 := vs.cell (i := 1) (by simp)
    have cvs2 := vs.cell (i := 2) (by simp)
    have cvs3 := vs.cell (i := 3) (by simp)
    simp only [List.getD_cons_zero, List.getD_cons_succ] at cvs0 cvs1 cvs2 cvs3
    have ltvs := vs.lt
    go_wp2_with fail
    clear cvs0 cvs1 cvs2 cvs3 ltvs
    refine (HS1.out _).mono ?_
    rintro e wq ⟨rfl, rfl⟩
    go_wp2_with fail
    refine (HS2.out _).mono ?_
    rintro e wq ⟨rfl, rfl⟩
    go_wp2_with fail
    refine (HG.out wq _ rfl).mono ?_
    rintro e w2 ⟨rfl, k9, rfl⟩
    have bb := below_alloc wq (.cells #[.int .u64 (num.natAbs : Int), .int .u64 (den.natAbs : Int)] 44)
    replace vs := (vs.mono bb).drewN k9
    replace vr := (vr.mono bb).drewN k9
    replace B := below_drewN (below_trans B bb) k9
    clear bb
    go_upto_region 8 with (fail)
    generalize World.drewN (wq.alloc (.cells #[.int .u64 (num.natAbs : Int), .int .u64 (den.natAbs : Int)] 44)) k9 = w3 at *
    go_quiet ((go_at_call 49; exact Calls.quiet_of_same (size_calls _ _ (by assumption))))
    replace vs := vs.drewN nq
    replace vr := vr.drewN nq
    replace B := below_drewN B nq
    go_upto_region 9 with (fail)
    generalize World.drewN w3 nq = w4 at *
    clear HS1 HS2 HG k1 k2
    have cvs0 := vs.cell (i := 0) (by simp)
    have cvs1 := vs.cell (i := 1) (by simp)
    have cvs2 := vs.cell (i := 2) (by simp)
    have cvs3 := vs.cell (i := 3) (by simp)
    simp only [List.getD_cons_zero, List.getD_cons_succ] at cvs0 cvs1 cvs2 cvs3
    have ltvs := vs.lt
    go_wp2_with fail
    clear cvs0 cvs1 cvs2 cvs3 ltvs
    rw [E1.out, E2.out, E3.out, E4.out]
    refine (HR.out _).mono ?_
    rintro e w5 ⟨rfl, b5⟩
    replace vr := vr.mono b5
    replace B := below_trans B b5
    clear b5
    have cvr0 := vr.cell (i := 0) (by simp)
    have cvr1 := vr.cell (i := 1) (by simp)
    have cvr2 := vr.cell (i := 2) (by simp)
    have cvr3 := vr.cell (i := 3) (by simp)
    simp only [List.getD_cons_zero, List.getD_cons_succ] at cvr0 cvr1 cvr2 cvr3
    have ltvr := vr.lt
    have fvr0 := vr.frozen 0
    have fvr1 := vr.frozen 1
    have fvr2 := vr.frozen 2
    have fvr3 := vr.frozen 3
    go_wp2
    obtain ⟨te, hg⟩ := vr.set4 (.int .i64 x) (.int .i64 y) (.int .i64 z) (.int .i64 u)
    refine bodyPost_ret_by (results_cell_tmp rfl _ _ (w.heap.size + 1) te _ (0, 0) _ rfl hg Try.underlying37 rfl (by kernel_rfl) (.int .i64 k) rfl) rfl ?_
    exact ⟨rfl, below_set4 B (by omega) _ _ _ _⟩
  · skip
    have vs := Vals.newL w (w.heap.size) [.int .i64 0, .int .i64 b, .int .i64 c, .int .i64 d] 37 rfl
    have bb := below_alloc w (.cells #[.int .i64 0, .int .i64 b, .int .i64 c, .int .i64 d] 37)
    have B := bb
    have sz0 := World.size_alloc w (.cells #[.int .i64 0, .int .i64 b, .int .i64 c, .int .i64 d] 37)
    have sz := sz0
    clear sz0
    clear bb
    have vr := Vals.newL (w.alloc (.cells #[.int .i64 0, .int .i64 b, .int .i64 c, .int .i64 d] 37)) (w.heap.size + 1) [.int .i64 0, .int .i64 0, .int .i64 0, .int .i64 0] 37 sz.symm
    have bb := below_alloc (w.alloc (.cells #[.int .i64 0, .int .i64 b, .int .i64 c, .int .i64 d] 37)) (.cells #[.int .i64 0, .int .i64 0, .int .i64 0, .int .i64 0] 37)
    replace vs := vs.mono bb
    replace B := below_trans B bb
    clear sz
    clear bb
    go_enter Try.func70, Try.ntmps70
    go_wp2_with fail
    generalize ((w.alloc (.cells #[.int .i64 0, .int .i64 b, .int .i64 c, .int .i64 d] 37)).alloc (.cells #[.int .i64 0, .int .i64 0, .int .i64 0, .int .i64 0] 37)) = w0 at *
    refine (HA.out _).mono ?_
    rintro e w1 ⟨rfl, b1⟩
    replace vs := vs.mono b1
    replace vr := vr.mono b1
    replace B := below_trans B b1
    clear b1
    have cvs0 := vs.cell (i := 0) (by simp)
    have cvs1 := vs.cell (i := 1) (by simp)
    have cvs2 := vs.cell (i := 2) (by simp)
    have cvs3 := vs.cell (i := 3) (by simp)
    simp only [List.getD_cons_zero, List.getD_cons_succ] at cvs0 cvs1 cvs2 cvs3
    have ltvs := vs.lt
    go_wp2_with fail
    clear cvs0 cvs1 cvs2 cvs3 ltvs
    refine (HS1.out _).mono ?_
    rintro e wq ⟨rfl, rfl⟩
    go_wp2_with fail
    refine (HS2.out _).mono ?_
    rintro e wq ⟨rfl, rfl⟩
    go_wp2_with fail
    refine (HG.out wq _ rfl).mono ?_
    rintro e w2 ⟨rfl, k9, rfl⟩
    have bb := below_alloc wq (.cells #[.int .u64 (num.natAbs : Int), .int .u64 (den.natAbs : Int)] 44)
    replace vs := (vs.mono bb).drewN k9
    replace vr := (vr.mono bb).drewN k9
    replace B := below_drewN (below_trans B bb) k9
    clear bb
    go_upto_region 8 with (fail)
    generalize World.drewN (wq.alloc (.cells #[.int .u64 (num.natAbs : Int), .int .u64 (den.natAbs : Int)] 44)) k9 = w3 at *
    go_quiet ((go_at_call 49; exact Calls.quiet_of_same (size_calls _ _ (by assumption))))
    replace vs := vs.drewN nq
    replace vr := vr.drewN nq
    replace B := below_drewN B nq
    go_upto_region 9 with (fail)
    generalize World.drewN w3 nq = w4 at *
    clear HS1 HS2 HG k1 k2
    have cvs0 := vs.cell (i := 0) (by simp)
    have cvs1 := vs.cell (i := 1) (by simp)
    have cvs2 := vs.cell (i := 2) (by simp)
    have cvs3 := vs.cell (i := 3) (by simp)
    simp only [List.getD_cons_zero, List.getD_cons_succ] at cvs0 cvs1 cvs2 cvs3
    have ltvs := vs.lt
    go_wp2_with fail
    clear cvs0 cvs1 cvs2 cvs3 ltvs
    simp only [Int.zero_mul] at HR
    rw [E2.out, E3.out, E4.out]
    refine (HR.out _).mono ?_
    rintro e w5 ⟨rfl, b5⟩
    replace vr := vr.mono b5
    replace B := below_trans B b5
    clear b5
    have cvr0 := vr.cell (i := 0) (by simp)
    have cvr1 := vr.cell (i := 1) (by simp)
    have cvr2 := vr.cell (i := 2) (by simp)
    have cvr3 := vr.cell (i := 3) (by simp)
    simp only [List.getD_cons_zero, List.getD_cons_succ] at cvr0 cvr1 cvr2 cvr3
    have ltvr := vr.lt
    have fvr0 := vr.frozen 0
    have fvr1 := vr.frozen 1
    have fvr2 := vr.frozen 2
    have fvr3 := vr.frozen 3
    go_wp2
    obtain ⟨te, hg⟩ := vr.set4 (.int .i64 x) (.int .i64 y) (.int .i64 z) (.int .i64 u)
    refine bodyPost_ret_by (results_cell_tmp rfl _ _ (w.heap.size + 1) te _ (0, 0) _ rfl hg Try.underlying37 rfl (by kernel_rfl) (.int .i64 k) rfl) rfl ?_
    exact ⟨rfl, below_set4 B (by omega) _ _ _ _⟩
  · skip
    have vs := Vals.newL w (w.heap.size) [.int .i64 0, .int .i64 0, .int .i64 c, .int .i64 d] 37 rfl
    have bb := below_alloc w (.cells #[.int .i64 0, .int .i64 0, .int .i64 c, .int .i64 d] 37)
    have B := bb
    have sz0 := World.size_alloc w (.cells #[.int .i64 0, .int .i64 0, .int .i64 c, .int .i64 d] 37)
    have sz := sz0
    clear sz0
    clear bb
    have vr := Vals.newL (w.alloc (.cells #[.int .i64 0, .int .i64 0, .int .i64 c, .int .i64 d] 37)) (w.heap.size + 1) [.int .i64 0, .int .i64 0, .int .i64 0, .int .i64 0] 37 sz.symm
    have bb := below_alloc (w.alloc (.cells #[.int .i64 0, .int .i64 0, .int .i64 c, .int .i64 d] 37)) (.cells #[.int .i64 0, .int .i64 0, .int .i64 0, .int .i64 0] 37)
    replace vs := vs.mono bb
    replace B := below_trans B bb
    clear sz
    clear bb
    go_enter Try.func70, Try.ntmps70
    go_wp2_with fail
    generalize ((w.alloc (.cells #[.int .i64 0, .int .i64 0, .int .i64 c, .int .i64 d] 37)).alloc (.cells #[.int .i64 0, .int .i64 0, .int .i64 0, .int .i64 0] 37)) = w0 at *
    refine (HA.out _).mono ?_
    rintro e w1 ⟨rfl, b1⟩
    replace vs := vs.mono b1
    replace vr := vr.mono b1
    replace B := below_trans B b1
    clear b1
    have cvs0 := vs.cell (i := 0) (by simp)
    have cvs1 := vs.cell (i := 1) (by simp)
    have cvs2 := vs.cell (i := 2) (by simp)
    have cvs3 := vs.cell (i := 3) (by simp)
    simp only [List.getD_cons_zero, List.getD_cons_succ] at cvs0 cvs1 cvs2 cvs3
    have ltvs := vs.lt
    go_wp2_with fail
    clear cvs0 cvs1 cvs2 cvs3 ltvs
    refine (HS1.out _).mono ?_
    rintro e wq ⟨rfl, rfl⟩
    go_wp2_with fail
    refine (HS2.out _).mono ?_
    rintro e wq ⟨rfl, rfl⟩
    go_wp2_with fail
    refine (HG.out wq _ rfl).mono ?_
    rintro e w2 ⟨rfl, k9, rfl⟩
    have bb := below_alloc wq (.cells #[.int .u64 (num.natAbs : Int), .int .u64 (den.natAbs : Int)] 44)
    replace vs := (vs.mono bb).drewN k9
    replace vr := (vr.mono bb).drewN k9
    replace B := below_drewN (below_trans B bb) k9
    clear bb
    go_upto_region 8 with (fail)
    generalize World.drewN (wq.alloc (.cells #[.int .u64 (num.natAbs : Int), .int .u64 (den.natAbs : Int)] 44)) k9 = w3 at *
    go_quiet ((go_at_call 49; exact Calls.quiet_of_same (size_calls _ _ (by assumption))))
    replace vs := vs.drewN nq
    replace vr := vr.drewN nq
    replace B := below_drewN B nq
    go_upto_region 9 with (fail)
    generalize World.drewN w3 nq = w4 at *
    clear HS1 HS2 HG k1 k2
    have cvs0 := vs.cell (i := 0) (by simp)
    have cvs1 := vs.cell (i := 1) (by simp)
    have cvs2 := vs.cell (i := 2) (by simp)
    have cvs3 := vs.cell (i := 3) (by simp)
    simp only [List.getD_cons_zero, List.getD_cons_succ] at cvs0 cvs1 cvs2 cvs3
    have ltvs := vs.lt
    go_wp2_with fail
    clear cvs0 cvs1 cvs2 cvs3 ltvs
    simp only [Int.zero_mul] at HR
    rw [E3.out, E4.out]
    refine (HR.out _).mono ?_
    rintro e w5 ⟨rfl, b5⟩
    replace vr := vr.mono b5
    replace B := below_trans B b5
    clear b5
    have cvr0 := vr.cell (i := 0) (by simp)
    have cvr1 := vr.cell (i := 1) (by simp)
    have cvr2 := vr.cell (i := 2) (by simp)
    have cvr3 := vr.cell (i := 3) (by simp)
    simp only [List.getD_cons_zero, List.getD_cons_succ] at cvr0 cvr1 cvr2 cvr3
    have ltvr := vr.lt
    have fvr0 := vr.frozen 0
    have fvr1 := vr.frozen 1
    have fvr2 := vr.frozen 2
    have fvr3 := vr.frozen 3
    go_wp2
    obtain ⟨te, hg⟩ := vr.set4 (.int .i64 x) (.int .i64 y) (.int .i64 z) (.int .i64 u)
    refine bodyPost_ret_by (results_cell_tmp rfl _ _ (w.heap.size + 1) te _ (0, 0) _ rfl hg Try.underlying37 rfl (by kernel_rfl) (.int .i64 k) rfl) rfl ?_
    exact ⟨rfl, below_set4 B (by omega) _ _ _ _⟩

theorem powerT_ok (s : T4) (num den : Int) (w : World) (hs : validB s.a s.b s.c s.d = true) (hn : i64 num) (hd : i64 den) (hd1 : 1 ≤ den) :
    Calls Try.prog 70 #[.agg #[.int .i64 s.a, .int .i64 s.b, .int .i64 s.c, .int .i64 s.d], .int .i64 num, .int .i64 den] w (RetT w (powT s num den)) := by
  by_cases h0 : s.a = 0 ∧ s.b = 0 ∧ s.c = 0
  · have e := valid_unit hs h0
    subst e
    have e2 : powT ⟨0, 0, 0, 1⟩ num den = (⟨0, 0, 0, 1⟩, 0) := by
      unfold powT
      simp only [Int.zero_mul, Int.one_mul]
      exact redT_unit hd1
    rw [e2]
    exact power_unit num den w hd1
  · obtain ⟨a, b, c, d⟩ := s
    by_cases hf : num.natAbs / Nat.gcd num.natAbs den.natAbs ≤ 23040 ∧ den.natAbs / Nat.gcd num.natAbs den.natAbs ≤ 23040
    · by_cases hz : num < 0
      · exact power_neg a b c d num den w hs h0 hn hd hd1 hf hz
      · exact power_pos a b c d num den w hs h0 hn hd hd1 hf (by omega)
    · exact power_far a b c d num den w hs h0 hn hd hd1 (by omega)

set_option maxRecDepth 100000 in
theorem power_form (s : T4) (num den : Int) (w : World) (hA : i64 s.a ∧ i64 s.b ∧ i64 s.c ∧ i64 s.d) (hs : validB s.a s.b s.c s.d = false) :
    Calls Try.prog 70 #[.agg #[.int .i64 s.a, .int .i64 s.b, .int .i64 s.c, .int .i64 s.d], .int .i64 num, .int .i64 den] w (RetT w (⟨0, 0, 0, 0⟩, 2)) := by
  have VA := fun w : World => tvalid_calls s.a s.b s.c s.d w hA.1 hA.2.1 hA.2.2.1 hA.2.2.2
  rw [hs] at VA
  have HA := Lib.hid VA
  clear VA hs hA
  have vs := Vals.newL w (w.heap.size) [.int .i64 s.a, .int .i64 s.b, .int .i64 s.c, .int .i64 s.d] 37 rfl
  have bb := below_alloc w (.cells #[.int .i64 s.a, .int .i64 s.b, .int .i64 s.c, .int .i64 s.d] 37)
  have B := bb
  have sz0 := World.size_alloc w (.cells #[.int .i64 s.a, .int .i64 s.b, .int .i64 s.c, .int .i64 s.d] 37)
  have sz := sz0
  clear sz0
  clear bb
  have vr := Vals.newL (w.alloc (.cells #[.int .i64 s.a, .int .i64 s.b, .int .i64 s.c, .int .i64 s.d] 37)) (w.heap.size + 1) [.int .i64 0, .int .i64 0, .int .i64 0, .int .i64 0] 37 sz.symm
  have bb := below_alloc (w.alloc (.cells #[.int .i64 s.a, .int .i64 s.b, .int .i64 s.c, .int .i64 s.d] 37)) (.cells #[.int .i64 0, .int .i64 0, .int .i64 0, .int .i64 0] 37)
  replace vs := vs.mono bb
  replace B := below_trans B bb
  clear sz
  clear bb
  go_enter Try.func70, Try.ntmps70
  go_wp2_with fail
  generalize ((w.alloc (.cells #[.int .i64 s.a, .int .i64 s.b, .int .i64 s.c, .int .i64 s.d] 37)).alloc (.cells #[.int .i64 0, .int .i64 0, .int .i64 0, .int .i64 0] 37)) = w0 at *
  refine (HA.out _).mono ?_
  rintro e w1 ⟨rfl, b1⟩
  replace vs := vs.mono b1
  replace vr := vr.mono b1
  replace B := below_trans B b1
  clear b1
  have cvr0 := vr.cell (i := 0) (by simp)
  have cvr1 := vr.cell (i := 1) (by simp)
  have cvr2 := vr.cell (i := 2) (by simp)
  have cvr3 := vr.cell (i := 3) (by simp)
  simp only [List.getD_cons_zero, List.getD_cons_succ] at cvr0 cvr1 cvr2 cvr3
  have ltvr := vr.lt
  have fvr0 := vr.frozen 0
  have fvr1 := vr.frozen 1
  have fvr2 := vr.frozen 2
  have fvr3 := vr.frozen 3
  go_wp2
  obtain ⟨te, hg⟩ := vr.set4 (.int .i64 0) (.int .i64 0) (.int .i64 0) (.int .i64 0)
  refine bodyPost_ret_by (results_cell_tmp rfl _ _ (w.heap.size + 1) te _ (0, 0) _ rfl hg Try.underlying37 rfl (by kernel_rfl) (.int .i64 2) rfl) rfl ?_
  exact ⟨rfl, below_set4 B (by omega) _ _ _ _⟩

set_option maxRecDepth 100000 in
theorem power_arg (s : T4) (num den : Int) (w : World) (hA : i64 s.a ∧ i64 s.b ∧ i64 s.c ∧ i64 s.d) (hs : validB s.a s.b s.c s.d = true) (hd : den < 1) :
    Calls Try.prog 70 #[.agg #[.int .i64 s.a, .int .i64 s.b, .int .i64 s.c, .int .i64 s.d], .int .i64 num, .int .i64 den] w (RetT w (⟨0, 0, 0, 0⟩, 1)) := by
  have VA := fun w : World => tvalid_calls s.a s.b s.c s.d w hA.1 hA.2.1 hA.2.2.1 hA.2.2.2
  rw [hs] at VA
  have HA := Lib.hid VA
  clear VA hs hA
  have vs := Vals.newL w (w.heap.size) [.int .i64 s.a, .int .i64 s.b, .int .i64 s.c, .int .i64 s.d] 37 rfl
  have bb := below_alloc w (.cells #[.int .i64 s.a, .int .i64 s.b, .int .i64 s.c, .int .i64 s.d] 37)
  have B := bb
  have sz0 := World.size_alloc w (.cells #[.int .i64 s.a, .int .i64 s.b, .int .i64 s.c, .int .i64 s.d] 37)
  have sz := sz0
  clear sz0
  clear bb
  have vr := Vals.newL (w.alloc (.cells #[.int .i64 s.a, .int .i64 s.b, .int .i64 s.c, .int .i64 s.d] 37)) (w.heap.size + 1) [.int .i64 0, .int .i64 0, .int .i64 0, .int .i64 0] 37 sz.symm
  have bb := below_alloc (w.alloc (.cells #[.int .i64 s.a, .int .i64 s.b, .int .i64 s.c, .int .i64 s.d] 37)) (.cells #[.int .i64 0, .int .i64 0, .int .i64 0, .int .i64 0] 37)
  replace vs := vs.mono bb
  replace B := below_trans B bb
  clear sz
  clear bb
  go_enter Try.func70, Try.ntmps70
  go_wp2_with fail
  generalize ((w.alloc (.cells #[.int .i64 s.a, .int .i64 s.b, .int .i64 s.c, .int .i64 s.d] 37)).alloc (.cells #[.int .i64 0, .int .i64 0, .int .i64 0, .int .i64 0] 37)) = w0 at *
  refine (HA.out _).mono ?_
  rintro e w1 ⟨rfl, b1⟩
  replace vs := vs.mono b1
  replace vr := vr.mono b1
  replace B := below_trans B b1
  clear b1
  have cvr0 := vr.cell (i := 0) (by simp)
  have cvr1 := vr.cell (i := 1) (by simp)
  have cvr2 := vr.cell (i := 2) (by simp)
  have cvr3 := vr.cell (i := 3) (by simp)
  simp only [List.getD_cons_zero, List.getD_cons_succ] at cvr0 cvr1 cvr2 cvr3
  have ltvr := vr.lt
  have fvr0 := vr.frozen 0
  have fvr1 := vr.frozen 1
  have fvr2 := vr.frozen 2
  have fvr3 := vr.frozen 3
  go_wp2
  obtain ⟨te, hg⟩ := vr.set4 (.int .i64 0) (.int .i64 0) (.int .i64 0) (.int .i64 0)
  refine bodyPost_ret_by (results_cell_tmp rfl _ _ (w.heap.size + 1) te _ (0, 0) _ rfl hg Try.underlying37 rfl (by kernel_rfl) (.int .i64 1) rfl) rfl ?_
  exact ⟨rfl, below_set4 B (by omega) _ _ _ _⟩

end Go.Proofs
