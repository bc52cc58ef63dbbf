/- The walk of the law NatFits: whatever comes in, it returns true and changes nothing that was there. -/
import Derived.Test.YtmeflonielhfaabMore
import Derived.Test.YtmeflonielhfaabGcd
import Derived.Test.YtmeflonielhfaabCompare
import Derived.Test.YtmeflonielhfaabRPow
open Go.RowKit
namespace Go.Proofs
set_option linter.unusedVariables false

theorem err_two (xs ys : List Nat) (h : firstErr [xs, ys] = 0) : chk xs = 0 ∧ chk ys = 0 := by
  simp only [firstErr] at h
  split at h
  · split at h
    · exact ⟨by assumption, by assumption⟩
    · exact ⟨by assumption, h⟩
  · contradiction

theorem err_three (xs ys zs : List Nat) : firstErr [xs, ys, zs] = if firstErr [xs, ys] = 0 then chk zs else firstErr [xs, ys] := by
  simp only [firstErr]
  by_cases h1 : chk xs = 0
  · by_cases h2 : chk ys = 0
    · by_cases h3 : chk zs = 0
      · simp [h1, h2, h3]
      · simp [h1, h2, h3]
    · simp [h1, h2]
  · simp [h1]

/-- of a valid slice of limbs: the number, and how many limbs it has -/
theorem Raw.valid {w v xs} (h : Raw w v xs) (hc : chk xs = 0) : Num w v (val xs) ∧ (limbs (val xs)).length = xs.length := by
  have n := h.num hc
  obtain ⟨ad, c, rfl, hs⟩ := h
  exact ⟨n, by rw [(chk_num hc hs.2.2.1).1]⟩

theorem val_zero_iff {w v xs} (h : Raw w v xs) (hc : chk xs = 0) : val xs = 0 ↔ xs.length = 0 := by
  have e := (h.valid hc).2
  constructor
  · intro h0; rw [h0, limbs_zero] at e; exact e.symm
  · intro h0; rw [List.eq_nil_of_length_eq_zero h0]; rfl

/-- a cell that holds a value -/
def Held (w : World) (p : Addr) (v : Value) : Prop := w.cell? p = some v
theorem Held.mono {w w' : World} {p : Addr} {v : Value} (h : Held w p v) (hb : Below w.heap.size w w') : Held w' p v := (hb.cell (p := p) (lt_cell h)).trans h
theorem belowStep {a b c : World} (h : Below a.heap.size a b) (k : Below b.heap.size b c) : Below a.heap.size a c := below_trans h k
theorem wrap_rem (n : Nat) (h : n < 9223372036854775808) : IntKind.i64.wrap ((n : Int).tmod 41) = ((n % 41 : Nat) : Int) := by
  rw [Int.tmod_eq_emod_of_nonneg (by omega), IntWalk.i64_in _ (by omega)]; omega
theorem four : (4 : Int) = ((4 : Nat) : Int) := rfl

set_option maxRecDepth 100000 in
set_option maxHeartbeats 1000000 in
theorem walk_fits (v1 v2 : Value) (xs ys : List Nat) (z1 z2 : Int) (w : World) (hx0 : In w v1 xs) (hy0 : In w v2 ys) (a0 : -9223372036854775808 ≤ z1) (a1 : z1 < 9223372036854775808) (b0 : -9223372036854775808 ≤ z2) (b1 : z2 < 9223372036854775808) :
    Calls Try.prog 6 #[.agg #[v1, .int .i64 z1], .agg #[v2, .int .i64 z2]] w (RetTrue w) := by
  go_enter Try.func6, Try.ntmps6
  have B1 := below_alloc w (.cells #[v1, .int .i64 z1] 50)
  have B2 := below_alloc (w.alloc (.cells #[v1, .int .i64 z1] 50)) (.cells #[v2, .int .i64 z2] 50)
  have B := below_trans B1 B2
  have hx := hx0.mono B
  have hy := hy0.mono B
  have H0 : Held _ ⟨w.heap.size, 0, none⟩ v1 := (Held.mono (cells_two w v1 (.int .i64 z1) 50 0 (by omega)) B2)
  have H1 : Held _ ⟨w.heap.size, 1, none⟩ (.int .i64 z1) := (Held.mono (cells_two w v1 (.int .i64 z1) 50 1 (by omega)) B2)
  have H2 : Held ((w.alloc (.cells #[v1, .int .i64 z1] 50)).alloc (.cells #[v2, .int .i64 z2] 50)) ⟨w.heap.size + 1, 0, none⟩ v2 := by have := cells_two (w.alloc (.cells #[v1, .int .i64 z1] 50)) v2 (.int .i64 z2) 50 0 (by omega); rw [size_alloc] at this; exact this
  have H3 : Held ((w.alloc (.cells #[v1, .int .i64 z1] 50)).alloc (.cells #[v2, .int .i64 z2] 50)) ⟨w.heap.size + 1, 1, none⟩ (.int .i64 z2) := by have := cells_two (w.alloc (.cells #[v1, .int .i64 z1] 50)) v2 (.int .i64 z2) 50 1 (by omega); rw [size_alloc] at this; exact this
  clear hx0 hy0 B1 B2
  go_upto_region 1 with (fail)
  obtain ⟨w0, hw0⟩ : ∃ w0, (w.alloc (.cells #[v1, .int .i64 z1] 50)).alloc (.cells #[v2, .int .i64 z2] 50) = w0 := ⟨_, rfl⟩
  rw [hw0] at B hx hy H0 H1 H2 H3 ⊢
  clear hw0
  go_cut [5, 6] from 12 to 17 (fun x y wx => Raw wx x (xs.take 4) ∧ Raw wx y (ys.take 4) ∧ Below w0.heap.size w0 wx)
  case first =>
    have hbd : Below w0.heap.size w0 w0.drew := (Below.refl _ _).drew
    have hX : ∀ W, Below w0.heap.size w0 W → In W v1 xs := fun W h => hx.mono h
    have hY : ∀ W, Below w0.heap.size w0 W → In W v2 ys := fun W h => hy.mono h
    have HX := Lib.hid hX
    have HY := Lib.hid hY
    have c0 : w0.cell? _ = some _ := H0
    have c2 : w0.cell? _ = some _ := H2
    clear hX hY hx hy
    go_region_with (first
      | (go_at_call 24; ((with_reducible refine (cut_calls v1 xs 4 _ _ (HX.out _ (by assumption)) four (by omega)).mono ?_); rintro e w8 ⟨va, rfl, ra, _, b8⟩; have hbe : Below w0.heap.size w0 w8 := belowStep (by assumption) b8; have d0 : w8.cell? _ = some _ := H0.mono hbe; have d2 : w8.cell? _ = some _ := H2.mono hbe))
      | (go_at_call 24; ((with_reducible refine (cut_calls v2 ys 4 _ _ (HY.out _ (by assumption)) four (by omega)).mono ?_); rintro e w9 ⟨vb, rfl, rb, _, b9⟩; have hbf : Below w0.heap.size w0 w9 := belowStep (by assumption) b9; have d1 : w9.cell? _ = some _ := H0.mono hbf; have d3 : w9.cell? _ = some _ := H2.mono hbf)))
    all_goals go_wp2
    all_goals go_meet
    all_goals first
      | exact ⟨ra.mono b9, rb, hbf⟩
      | exact ⟨ra, rb.mono b8, hbe⟩
  case rest =>
    obtain ⟨ra, rb, hb⟩ := hcut
    replace H1 := H1.mono hb
    replace H3 := H3.mono hb
    replace B := below_trans B hb
    clear hb H0 H2 hx hy
    have c1 : _ = some _ := H1
    have c3 : _ = some _ := H3
    clear H1 H3
    have la : (xs.take 4).length ≤ 4 := by rw [List.length_take]; omega
    generalize xs.take 4 = aa at *
    have lb : (ys.take 4).length ≤ 4 := by rw [List.length_take]; omega
    generalize ys.take 4 = bb at *
    go_wp2_with fail
    go_quiet (fail)
    clear c1 c3
    have bq := below_drewN' wc nq
    replace ra := ra.mono bq
    replace rb := rb.mono bq
    replace B := below_trans B bq
    clear bq
    go_upto_if 23 with (fail)
    generalize wc.drewN nq = wd at *
    go_cut [7] from 24 to 25 (fun x wx => (∃ p : Int, x = .int .i64 p ∧ p ≤ 40) ∧ wx = wd)
    case first =>
      by_cases h1 : 40 < z1
      · obtain ⟨n, rfl⟩ : ∃ n : Nat, z1 = n := ⟨z1.toNat, by omega⟩
        have hw := wrap_rem n (by omega)
        clear a0 a1 b0 b1
        go_wp2_with fail
        go_meet
        refine ⟨⟨_, rfl, ?_⟩, rfl⟩; first | omega | (rw [Int.tmod_eq_emod_of_nonneg (by omega)]; omega) | (rw [wrap_rem _ (by omega)]; omega)
      · go_wp2_with fail
        go_meet
        exact ⟨⟨_, rfl, by omega⟩, rfl⟩
    case rest =>
      obtain ⟨⟨p, rfl, hp⟩, rfl⟩ := hcut
      go_upto_if 27 with (fail)
      go_cut [8] from 28 to 29 (fun x wx => (∃ q : Int, x = .int .i64 q ∧ q ≤ 40) ∧ wx = wc)
      case first =>
        by_cases h1 : 40 < z2
        · obtain ⟨n, rfl⟩ : ∃ n : Nat, z2 = n := ⟨z2.toNat, by omega⟩
          have hw := wrap_rem n (by omega)
          clear a0 a1 b0 b1
          go_wp2_with fail
          go_meet
          refine ⟨⟨_, rfl, ?_⟩, rfl⟩; first | omega | (rw [Int.tmod_eq_emod_of_nonneg (by omega)]; omega) | (rw [wrap_rem _ (by omega)]; omega)
        · go_wp2_with fail
          go_meet
          exact ⟨⟨_, rfl, by omega⟩, rfl⟩
      case rest =>
      obtain ⟨⟨q, rfl, hq⟩, rfl⟩ := hcut
      clear a0 a1 b0 b1
      by_cases h2 : firstErr [aa, bb] = 0
      · have t2 : (firstErr [aa, bb] == 0) = true := by rw [h2]; rfl
        have e2 := err_two aa bb h2
        have H2 := Lib.hid h2
        obtain ⟨na, ea⟩ := ra.valid e2.1
        obtain ⟨nb, eb⟩ := rb.valid e2.2
        clear e2
        by_cases hpq : p < 0 ∨ q < 0
        · go_wp2_with fail
          refine (fits_neg _ _ _ _ _ _ _ na nb hpq (by omega)).mono ?_
          rintro e w1 ⟨rfl, b1⟩
          replace ra := ra.mono b1
          replace rb := rb.mono b1
          replace na := na.mono b1
          replace nb := nb.mono b1
          replace B := below_trans B b1
          clear b1
          go_wp2_with fail
          refine (both_calls _ _ aa bb _ ra rb).mono ?_
          rintro e wq ⟨rfl, rfl⟩
          have t3 : ((1 : Int) != 0) = true := rfl
          have t4 : ((0 : Int) == 0) = true := rfl
          have t5 : ((1 : Int) == 1) = true := rfl
          clear h2
          rw [H2.out]
          by_cases hp0 : p < 0
          · go_wp2_with fail
            refine (lives_calls _).mono ?_
            rintro e w2 ⟨rfl, b2⟩
            replace ra := ra.mono b2
            replace rb := rb.mono b2
            replace na := na.mono b2
            replace nb := nb.mono b2
            replace B := below_trans B b2
            clear b2
            go_wp2
            go_ret
            exact ⟨rfl, B⟩
          · have hq0 : q < 0 := by omega
            go_wp2_with fail
            refine (lives_calls _).mono ?_
            rintro e w2 ⟨rfl, b2⟩
            replace ra := ra.mono b2
            replace rb := rb.mono b2
            replace na := na.mono b2
            replace nb := nb.mono b2
            replace B := below_trans B b2
            clear b2
            go_wp2
            go_ret
            exact ⟨rfl, B⟩
        · have hp0 : ¬ p < 0 := by omega
          have hq0 : ¬ q < 0 := by omega
          obtain ⟨n, rfl⟩ : ∃ n : Nat, p = n := ⟨p.toNat, by omega⟩
          obtain ⟨m, rfl⟩ : ∃ m : Nat, q = m := ⟨q.toNat, by omega⟩
          generalize val aa = a at *
          generalize val bb = b at *
          have m1 : (limbs a).length * n ≤ 4 * 40 := Nat.mul_le_mul (by omega) (by omega)
          have m2 : (limbs b).length * m ≤ 4 * 40 := Nat.mul_le_mul (by omega) (by omega)
          have p1 := limbs_length_pow a n
          have p2 := limbs_length_pow b m
          obtain ⟨c, ec⟩ : ∃ c, cmpInt (a ^ n) (b ^ m) = c := ⟨_, rfl⟩
          have F := fits_ok _ _ a b n m _ _ _ na nb rfl rfl (by omega) (by omega) (by omega) (by omega) (by omega)
          rw [ec] at F
          have Ec := Lib.hid ec
          clear ec
          go_wp2_with fail
          refine (F).mono ?_
          rintro e w1 ⟨rfl, b1⟩
          replace ra := ra.mono b1
          replace rb := rb.mono b1
          replace na := na.mono b1
          replace nb := nb.mono b1
          replace B := below_trans B b1
          clear b1
          clear F
          go_wp2_with fail
          refine (both_calls _ _ aa bb _ ra rb).mono ?_
          rintro e wq ⟨rfl, rfl⟩
          rw [H2.out]
          clear h2
          go_wp2_with fail
          refine (rpow_calls _ a n _ _ na rfl (by omega) (by omega) (by omega)).mono ?_
          rintro e w2 ⟨vp, rfl, hp1, _, b2⟩
          replace ra := ra.mono b2
          replace rb := rb.mono b2
          replace na := na.mono b2
          replace nb := nb.mono b2
          replace B := below_trans B b2
          clear b2
          go_wp2_with fail
          refine (rpow_calls _ b m _ _ nb rfl (by omega) (by omega) (by omega)).mono ?_
          rintro e w3 ⟨vq, rfl, hq1, _, b3⟩
          replace ra := ra.mono b3
          replace rb := rb.mono b3
          replace na := na.mono b3
          replace nb := nb.mono b3
          replace hp1 := hp1.mono b3
          replace B := below_trans B b3
          clear b3
          go_wp2_with fail
          refine (rcmp_calls _ _ (a ^ n) (b ^ m) _ c hp1 hq1 Ec.out (by omega) (by omega)).mono ?_
          rintro e w4 ⟨rfl, b4⟩
          replace ra := ra.mono b4
          replace rb := rb.mono b4
          replace na := na.mono b4
          replace nb := nb.mono b4
          replace hp1 := hp1.mono b4
          replace hq1 := hq1.mono b4
          replace B := below_trans B b4
          clear b4
          go_wp2_with fail
          refine (lives_calls _).mono ?_
          rintro e w5 ⟨rfl, b5⟩
          replace ra := ra.mono b5
          replace rb := rb.mono b5
          replace na := na.mono b5
          replace nb := nb.mono b5
          replace hp1 := hp1.mono b5
          replace hq1 := hq1.mono b5
          replace B := below_trans B b5
          clear b5
          go_wp2
          go_ret
          exact ⟨rfl, B⟩
      · have t3 : (firstErr [aa, bb] != 0) = true := by rw [bne_iff_ne]; exact h2
        have t4 : (firstErr [aa, bb] == 0) = false := by rw [beq_eq_false_iff_ne]; exact h2
        go_wp2_with fail
        refine (fits_err _ _ aa bb _ _ _ ra rb h2).mono ?_
        rintro e w1 ⟨rfl, b1⟩
        replace ra := ra.mono b1
        replace rb := rb.mono b1
        replace B := below_trans B b1
        clear b1
        go_wp2_with fail
        refine (both_calls _ _ aa bb _ ra rb).mono ?_
        rintro e wq ⟨rfl, rfl⟩
        go_wp2_with fail
        refine (lives_calls _).mono ?_
        rintro e w2 ⟨rfl, b2⟩
        replace ra := ra.mono b2
        replace rb := rb.mono b2
        replace B := below_trans B b2
        clear b2
        go_wp2
        go_ret
        exact ⟨rfl, B⟩

end Go.Proofs
