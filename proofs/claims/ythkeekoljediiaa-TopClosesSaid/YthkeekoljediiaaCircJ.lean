/- temper: right, Closes, fifth, stepped, Tones of steps that close. -/
import Derived.Test.YthkeekoljediiaaTemper2
import Derived.Test.YthkeekoljediiaaCircI
import Derived.Test.YthkeekoljediiaaCloseLaw
open Go.RowKit Go.Deep
namespace Go.Proofs
set_option linter.unusedVariables false
set_option linter.unusedSimpArgs false

theorem own_lowC {w : World} {B e k n : Nat} {v : Value} {cs : List Value} (h : w.ownsRow B e k v n cs) (p : Addr) (hp : p.block < B) (u : Value) : (w.setCell p u).ownsRow B e k v n cs :=
  ownsRow_other h p (fun e => by have := (ownsRow_block h _ e).1; omega) u

set_option maxRecDepth 100000 in
theorem gright_calls (T : Nat) (v : Value) (e : Nat → Nat) (w : World) (hT : 1 ≤ T ∧ T ≤ 24) (he : ∀ i, i < 12 → e i ≤ 3) (hv : In12n w v e) : Calls Try.prog 22 #[v, .int .i64 (T : Int)] w fun e' w' => e' = .returned (.bool true) ∧ w = w' := by
  have HW := Lib.hid (fun (n lo hi : Int) (w : World) (h1 : lo ≤ n) (h2 : n ≤ hi) => within_calls n lo hi w h1 h2)
  obtain ⟨g, cc, rfl, hg, hc⟩ := hv
  have HC := Lib.hid hc
  have HE := Lib.hid he
  clear hc he
  go_enter Try.func22, Try.ntmps22
  go_wp2
  go_loopw [9] (fun iv wr => ∃ i : Nat, i ≤ 12 ∧ iv = .int .i64 (i : Int) ∧ wr = w) (fun iv _ => (12 - intOf iv).toNat)
  case atStart => exact ⟨0, by omega, rfl, rfl⟩
  case round =>
    obtain ⟨i, hi, rfl, rfl⟩ := hrel
    by_cases h12 : i < 12
    · have t1 : (i : Int) < 12 := by omega
      have ce := HC.out i h12
      have hs := HE.out i h12
      obtain ⟨s, hs0⟩ : ∃ s, e i = s := ⟨_, rfl⟩
      try dsimp only at ce
      rw [hs0] at ce hs
      clear hs0
      go_wp2_with fail
      refine (HW.out _ _ _ _ (by omega) (by omega)).mono ?_
      rintro e' w' ⟨rfl, rfl⟩
      go_wp2
      go_roundw
      case rel => exact ⟨i + 1, by omega, by go_num, trivial⟩
      case measure => simp [intOf]; omega
    · obtain rfl : i = 12 := by omega
      go_wp2_with fail
      refine (HW.out _ _ _ _ (by omega) (by omega)).mono ?_
      rintro e' w' ⟨rfl, rfl⟩
      go_wp2_with fail
      refine (HW.out _ _ _ _ (by omega) (by omega)).mono ?_
      rintro e' w' ⟨rfl, rfl⟩
      go_wp2
      go_ret
      exact ⟨rfl, rfl⟩

theorem sumN_le3 {e : Nat → Nat} (n : Nat) (h : ∀ i, i < n → e i ≤ 3) : sumN e n ≤ 3 * n := by
  induction n with
  | zero => exact Nat.le_refl _
  | succ n ih =>
    have := h n (by omega)
    have := ih (fun i hi => h i (by omega))
    unfold sumN
    omega

set_option maxRecDepth 100000 in
theorem gcloses_calls (T : Nat) (v : Value) (e : Nat → Nat) (w : World) (hT : 8 ≤ T ∧ T ≤ 23) (he : ∀ i, i < 12 → e i ≤ 3) (hsum : sumN e 12 = T) (hv : In12n w v e) : Calls Try.prog 8 #[v, .int .i64 (T : Int)] w fun e' w' => e' = .returned (.tuple #[.bool true, .int .i64 0]) ∧ w = w' := by
  have HR := Lib.hid (gright_calls T v e w (by omega) he hv)
  obtain ⟨g, cc, rfl, hg, hc⟩ := hv
  have HC := Lib.hid hc
  have HE := Lib.hid he
  have HS := Lib.hid hsum
  have HL := Lib.hid (fun n (hn : n ≤ 12) => sumN_le3 n (fun i hi => he i (by omega)))
  clear hc he hsum
  go_enter Try.func8, Try.ntmps8
  go_wp2_with fail
  refine HR.out.mono ?_
  rintro e' w' ⟨rfl, rfl⟩
  go_wp2
  go_loopw [6, 7, 16] (fun av bv iv wr => ∃ i : Nat, i ≤ 12 ∧ iv = .int .i64 (i : Int) ∧ av = .int .i64 (19 * (sumN e i : Int) - (i : Int) * (T : Int)) ∧ bv = .int .i64 ((i : Int) * (T : Int) - 12 * (sumN e i : Int)) ∧ wr = w) (fun _ _ iv _ => (12 - intOf iv).toNat)
  case atStart =>
    refine ⟨0, by omega, rfl, ?_, ?_, rfl⟩
    · rw [show (19 * (sumN e 0 : Int) - ((0 : Nat) : Int) * (T : Int)) = 0 by simp [sumN]]
    · rw [show (((0 : Nat) : Int) * (T : Int) - 12 * (sumN e 0 : Int)) = 0 by simp [sumN]]
  case round =>
    obtain ⟨i, hi, rfl, rfl, rfl, rfl⟩ := hrel
    by_cases h12 : i < 12
    · have t1 : (i : Int) < 12 := by omega
      have ce := HC.out i h12
      have hs := HE.out i h12
      have hb := HL.out i hi
      have e1 : sumN e (i + 1) = sumN e i + e i := rfl
      have hm : (i : Int) * (T : Int) ≤ 12 * 23 := Int.mul_le_mul (by omega) (by omega) (by omega) (by omega)
      have hm0 : 0 ≤ (i : Int) * (T : Int) := Int.mul_nonneg (by omega) (by omega)
      have em : ((i + 1 : Nat) : Int) * (T : Int) = (i : Int) * (T : Int) + (T : Int) := by rw [Int.natCast_add, Int.add_mul]; omega
      obtain ⟨S, hS⟩ : ∃ S, sumN e i = S := ⟨_, rfl⟩
      obtain ⟨s, hs0⟩ : ∃ s, e i = s := ⟨_, rfl⟩
      obtain ⟨X, hX⟩ : ∃ X, (i : Int) * (T : Int) = X := ⟨_, rfl⟩
      try dsimp only at ce
      rw [hS] at hb e1 ⊢
      rw [hs0] at ce hs e1
      rw [hX] at hm hm0 em ⊢
      have q0 : IntKind.i64.wrap (19 * (s : Int)) = 19 * (s : Int) := IntWalk.i64_in _ (by omega)
      have q1 : IntKind.i64.wrap (19 * (s : Int) - (T : Int)) = 19 * (s : Int) - (T : Int) := IntWalk.i64_in _ (by omega)
      have q2 : IntKind.i64.wrap (19 * (S : Int) - X + (19 * (s : Int) - (T : Int))) = 19 * ((S + s : Nat) : Int) - (X + (T : Int)) := by rw [IntWalk.i64_in _ (by omega)]; omega
      have q3 : IntKind.i64.wrap (12 * (s : Int)) = 12 * (s : Int) := IntWalk.i64_in _ (by omega)
      have q4 : IntKind.i64.wrap ((T : Int) - 12 * (s : Int)) = (T : Int) - 12 * (s : Int) := IntWalk.i64_in _ (by omega)
      have q5 : IntKind.i64.wrap (X - 12 * (S : Int) + ((T : Int) - 12 * (s : Int))) = X + (T : Int) - 12 * ((S + s : Nat) : Int) := by rw [IntWalk.i64_in _ (by omega)]; omega
      have E1 := Lib.hid (And.intro e1 em)
      clear hS hs0 hX e1 em
      go_wp2
      go_roundw
      case rel => exact ⟨i + 1, by omega, by go_num, by rw [E1.out.1, E1.out.2, Int.natCast_add], by rw [E1.out.1, E1.out.2, Int.natCast_add], trivial⟩
      case measure => simp [intOf]; omega
    · obtain rfl : i = 12 := by omega
      rw [HS.out, show 19 * (T : Int) - ((12 : Nat) : Int) * (T : Int) = 7 * (T : Int) by omega, show ((12 : Nat) : Int) * (T : Int) - 12 * (T : Int) = 0 by omega]
      have r1 : (7 * (T : Int)).tmod (T : Int) = 0 := Int.mul_tmod_left 7 (T : Int)
      have r1' : (7 * (T : Int)) % (T : Int) = 0 := Int.mul_emod_left 7 (T : Int)
      have r2 : ((T : Int) == 0) = false := by rw [beq_eq_false_iff_ne]; omega
      go_wp2
      go_ret2
      exact ⟨rfl, rfl⟩

set_option maxRecDepth 100000 in
theorem gfifth_calls (s T : Int) (w : World) (h1 : 0 ≤ s) (h2 : s ≤ 3) (h3 : 8 ≤ T) (h4 : T ≤ 23) : Calls Try.prog 47 #[.int .i64 s, .int .i64 T] w (RetT w (fifT s T, 0)) := by
  obtain ⟨fu, ou, ff, of, _⟩ := fif_facts h1 h2 h3 h4
  unfold okT at ou of
  have CM := Lib.hid (fun w : World => (show Calls Try.prog 69 #[.int .i64 0] w (RetT w (⟨-19, 12, 0, 1⟩, 0)) from comma_calls 0 w))
  have PW := fun w : World => powerT_ok ⟨-19, 12, 0, 1⟩ s T w (by decide) (by unfold i64; omega) (by unfold i64; omega) (by omega)
  have DV := fun w : World => divT_ok ⟨-1, 1, 0, 1⟩ (unT s T) w (by decide) ou
  rw [fu] at PW
  rw [ff] at DV
  obtain ⟨⟨ua, ub, uc, ud⟩, hu⟩ : ∃ t, unT s T = t := ⟨_, rfl⟩
  obtain ⟨⟨fa, fb, fc, fd⟩, hf⟩ : ∃ t, fifT s T = t := ⟨_, rfl⟩
  rw [hu] at PW DV
  rw [hf] at DV ⊢
  clear hu hf fu ou ff of
  dsimp only at PW DV
  have HPW := Lib.hid PW
  have HDV := Lib.hid DV
  clear PW DV
  have vr := Vals.newL w (w.heap.size) [.int .i64 0, .int .i64 0, .int .i64 0, .int .i64 0] 37 rfl
  have bb := below_alloc w (.cells #[.int .i64 0, .int .i64 0, .int .i64 0, .int .i64 0] 37)
  have B := bb
  clear bb
  go_enter Try.func47, Try.ntmps47
  go_wp2_with fail
  generalize (w.alloc (.cells #[.int .i64 0, .int .i64 0, .int .i64 0, .int .i64 0] 37)) = w0 at *
  refine (CM.out w0).mono ?_
  rintro e w1 ⟨rfl, b1⟩
  replace vr := vr.mono b1
  replace B := below_trans B b1
  clear b1
  dsimp only
  go_wp2_with fail
  have v6 := Vals.newL w1 w1.heap.size [.int .i64 (-19), .int .i64 12, .int .i64 0, .int .i64 1] 37 rfl
  have bb := below_alloc w1 (.cells #[.int .i64 (-19), .int .i64 12, .int .i64 0, .int .i64 1] 37)
  replace vr := vr.mono bb
  replace B := below_trans B bb
  clear bb
  generalize w1.alloc (.cells #[.int .i64 (-19), .int .i64 12, .int .i64 0, .int .i64 1] 37) = w2 at *
  refine (HPW.out _).mono ?_
  rintro e w3 ⟨rfl, b3⟩
  replace vr := vr.mono b3
  replace v6 := v6.mono b3
  replace B := below_trans B b3
  clear b3
  dsimp only
  go_wp2_with fail
  have v8 := Vals.newL w3 w3.heap.size [.int .i64 ua, .int .i64 ub, .int .i64 uc, .int .i64 ud] 37 rfl
  have bb := below_alloc w3 (.cells #[.int .i64 ua, .int .i64 ub, .int .i64 uc, .int .i64 ud] 37)
  replace vr := vr.mono bb
  replace v6 := v6.mono bb
  replace B := below_trans B bb
  clear bb
  generalize w3.alloc (.cells #[.int .i64 ua, .int .i64 ub, .int .i64 uc, .int .i64 ud] 37) = w4 at *
  refine (HDV.out _).mono ?_
  rintro e w5 ⟨rfl, b5⟩
  replace vr := vr.mono b5
  replace v6 := v6.mono b5
  replace v8 := v8.mono b5
  replace B := below_trans B b5
  clear b5
  dsimp only
  have cvr0 := vr.cell (i := 0) (by simp)
  have cvr1 := vr.cell (i := 1) (by simp)
  have cvr2 := vr.cell (i := 2) (by simp)
  have cvr3 := vr.cell (i := 3) (by simp)
  simp only [List.getD_cons_zero, List.getD_cons_succ] at cvr0 cvr1 cvr2 cvr3
  have ltvr := vr.lt
  have fvr0 := vr.frozen 0
  have fvr1 := vr.frozen 1
  have fvr2 := vr.frozen 2
  have fvr3 := vr.frozen 3
  go_wp2
  obtain ⟨te, hg⟩ := vr.set4 (.int .i64 fa) (.int .i64 fb) (.int .i64 fc) (.int .i64 fd)
  refine bodyPost_ret_by (results_cell_tmp rfl _ _ (w.heap.size) te _ (0, 0) _ rfl hg Try.underlying37 rfl (by kernel_rfl) (.int .i64 0) rfl) rfl ?_
  exact ⟨rfl, below_set4 B (by omega) _ _ _ _⟩

set_option maxRecDepth 100000 in
theorem gstepped_calls (x : T4) (s T : Int) (w : World) (hx : okT x) (h1 : 0 ≤ s) (h2 : s ≤ 3) (h3 : 8 ≤ T) (h4 : T ≤ 23) : Calls Try.prog 23 #[.agg #[.int .i64 x.a, .int .i64 x.b, .int .i64 x.c, .int .i64 x.d], .int .i64 s, .int .i64 T] w (RetT w (mulT x (fifT s T))) := by
  obtain ⟨_, _, _, of, _⟩ := fif_facts h1 h2 h3 h4
  unfold okT at of hx
  have ML := fun w : World => mulT_ok x (fifT s T) w hx of
  have FI := fun w : World => gfifth_calls s T w h1 h2 h3 h4
  obtain ⟨⟨xa, xb, xc, xd⟩, hx0⟩ : ∃ t, x = t := ⟨_, rfl⟩
  obtain ⟨⟨fa, fb, fc, fd⟩, hf⟩ : ∃ t, fifT s T = t := ⟨_, rfl⟩
  rw [hx0, hf] at ML ⊢
  rw [hf] at FI
  obtain ⟨⟨⟨ya, yb, yc, yd⟩, er⟩, hy⟩ : ∃ t, mulT ⟨xa, xb, xc, xd⟩ ⟨fa, fb, fc, fd⟩ = t := ⟨_, rfl⟩
  rw [hy] at ML ⊢
  dsimp only at ML FI ⊢
  clear hx0 hf hx of
  have HML := Lib.hid ML
  have HF := Lib.hid FI
  clear ML hy FI
  have v3 := Vals.newL w (w.heap.size) [.int .i64 xa, .int .i64 xb, .int .i64 xc, .int .i64 xd] 37 rfl
  have bb := below_alloc w (.cells #[.int .i64 xa, .int .i64 xb, .int .i64 xc, .int .i64 xd] 37)
  have B := bb
  have sz0 := World.size_alloc w (.cells #[.int .i64 xa, .int .i64 xb, .int .i64 xc, .int .i64 xd] 37)
  have sz := sz0
  clear sz0
  clear bb
  have vr := Vals.newL (w.alloc (.cells #[.int .i64 xa, .int .i64 xb, .int .i64 xc, .int .i64 xd] 37)) (w.heap.size + 1) [.int .i64 0, .int .i64 0, .int .i64 0, .int .i64 0] 37 sz.symm
  have bb := below_alloc (w.alloc (.cells #[.int .i64 xa, .int .i64 xb, .int .i64 xc, .int .i64 xd] 37)) (.cells #[.int .i64 0, .int .i64 0, .int .i64 0, .int .i64 0] 37)
  replace v3 := v3.mono bb
  replace B := below_trans B bb
  clear sz
  clear bb
  go_enter Try.func23, Try.ntmps23
  go_wp2_with fail
  generalize ((w.alloc (.cells #[.int .i64 xa, .int .i64 xb, .int .i64 xc, .int .i64 xd] 37)).alloc (.cells #[.int .i64 0, .int .i64 0, .int .i64 0, .int .i64 0] 37)) = w0 at *
  refine (HF.out w0).mono ?_
  rintro e w1 ⟨rfl, b1⟩
  replace v3 := v3.mono b1
  replace vr := vr.mono b1
  replace B := below_trans B b1
  clear b1
  dsimp only
  have cv30 := v3.cell (i := 0) (by simp)
  have cv31 := v3.cell (i := 1) (by simp)
  have cv32 := v3.cell (i := 2) (by simp)
  have cv33 := v3.cell (i := 3) (by simp)
  simp only [List.getD_cons_zero, List.getD_cons_succ] at cv30 cv31 cv32 cv33
  have ltv3 := v3.lt
  go_wp2_with fail
  clear cv30 cv31 cv32 cv33 ltv3
  have v8 := Vals.newL w1 w1.heap.size [.int .i64 fa, .int .i64 fb, .int .i64 fc, .int .i64 fd] 37 rfl
  have bb := below_alloc w1 (.cells #[.int .i64 fa, .int .i64 fb, .int .i64 fc, .int .i64 fd] 37)
  replace v3 := v3.mono bb
  replace vr := vr.mono bb
  replace B := below_trans B bb
  clear bb
  generalize w1.alloc (.cells #[.int .i64 fa, .int .i64 fb, .int .i64 fc, .int .i64 fd] 37) = w2 at *
  refine (HML.out _).mono ?_
  rintro e w3 ⟨rfl, b3⟩
  replace v3 := v3.mono b3
  replace vr := vr.mono b3
  replace v8 := v8.mono b3
  replace B := below_trans B b3
  clear b3
  dsimp only
  have cvr0 := vr.cell (i := 0) (by simp)
  have cvr1 := vr.cell (i := 1) (by simp)
  have cvr2 := vr.cell (i := 2) (by simp)
  have cvr3 := vr.cell (i := 3) (by simp)
  simp only [List.getD_cons_zero, List.getD_cons_succ] at cvr0 cvr1 cvr2 cvr3
  have ltvr := vr.lt
  have fvr0 := vr.frozen 0
  have fvr1 := vr.frozen 1
  have fvr2 := vr.frozen 2
  have fvr3 := vr.frozen 3
  go_wp2
  obtain ⟨te, hg⟩ := vr.set4 (.int .i64 ya) (.int .i64 yb) (.int .i64 yc) (.int .i64 yd)
  refine bodyPost_ret_by (results_cell_tmp rfl _ _ (w.heap.size + 1) te _ (0, 0) _ rfl hg Try.underlying37 rfl (by kernel_rfl) (.int .i64 er) rfl) rfl ?_
  exact ⟨rfl, below_set4 B (by omega) _ _ _ _⟩


end Go.Proofs
