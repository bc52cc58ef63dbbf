/- The reference's Sides. -/
import Derived.Test.YtnogieknjcbchaaDoorTRef
import Derived.Test.YtnogieknjcbchaaDoorToneB
import Derived.Test.YtnogieknjcbchaaDoorRefB
import Derived.Deep.RegionHeld3
open Go.RowKit Go.Deep
namespace Go.Proofs
set_option linter.unusedVariables false
set_option linter.unusedSimpArgs false

/-- the product after i of the three primes -/
def sdTo (a b c : Int) : Nat → Nat
  | 0 => 1
  | 1 => 2 ^ a.toNat
  | 2 => 2 ^ a.toNat * 3 ^ b.toNat
  | _ => 2 ^ a.toNat * 3 ^ b.toNat * 5 ^ c.toNat

theorem sdTo_len (a b c : Int) (ha : a.natAbs ≤ 1200000) (hb : b.natAbs ≤ 1200000) (hc : c.natAbs ≤ 1200000) :
    (limbs (sdTo a b c 0)).length ≤ 1 ∧ (limbs (sdTo a b c 1)).length ≤ 40000 ∧ (limbs (sdTo a b c 2)).length ≤ 120000 ∧ (limbs (sdTo a b c 3)).length ≤ 250000 := by
  have h0 := limbs_two a.toNat
  have h1 := limbs_three b.toNat
  have h2 := limbs_five c.toNat
  have h3 := limbs_length_mul (2 ^ a.toNat) (3 ^ b.toNat)
  have h4 := limbs_length_mul (2 ^ a.toNat * 3 ^ b.toNat) (5 ^ c.toNat)
  refine ⟨limbs_length_le (by simp [sdTo]), ?_, ?_, ?_⟩
  · show (limbs (2 ^ a.toNat)).length ≤ _
    omega
  · show (limbs (2 ^ a.toNat * 3 ^ b.toNat)).length ≤ _
    omega
  · show (limbs (2 ^ a.toNat * 3 ^ b.toNat * 5 ^ c.toNat)).length ≤ _
    omega

theorem sdTo_fin (a b c : Int) : overN a b c = sdTo a b c 3 ∧ underN a b c = sdTo (-a) (-b) (-c) 3 := by
  unfold overN underN
  exact ⟨(Nat.mul_assoc _ _ _).symm, (Nat.mul_assoc _ _ _).symm⟩

theorem Num.drew {w : World} {v : Value} {n : Nat} (h : Num w v n) : Num w.drew v n := h

set_option maxRecDepth 100000 in
set_option maxHeartbeats 1000000 in
theorem rsides_calls (a b c : Int) (w : World) (ha : a.natAbs ≤ 1200000) (hb : b.natAbs ≤ 1200000) (hc : c.natAbs ≤ 1200000) :
    Calls Tryd.prog 29 #[.int .i64 a, .int .i64 b, .int .i64 c] w (RetRatio w (overN a b c) (underN a b c)) := by
  obtain ⟨l0, l1, l2, l3⟩ := sdTo_len a b c ha hb hc
  obtain ⟨m0, m1, m2, m3⟩ := sdTo_len (-a) (-b) (-c) (by omega) (by omega) (by omega)
  obtain ⟨f1, f2⟩ := sdTo_fin a b c
  rw [f1, f2]
  have O1 : Hid (sdTo a b c 1 = sdTo a b c 0 * 2 ^ a.toNat) := Lib.hid (Nat.one_mul _).symm
  have O2 : Hid (sdTo a b c 2 = sdTo a b c 1 * 3 ^ b.toNat) := Lib.hid rfl
  have O3 : Hid (sdTo a b c 3 = sdTo a b c 2 * 5 ^ c.toNat) := Lib.hid rfl
  have U1 : Hid (sdTo (-a) (-b) (-c) 1 = sdTo (-a) (-b) (-c) 0 * 2 ^ (-a).toNat) := Lib.hid (Nat.one_mul _).symm
  have U2 : Hid (sdTo (-a) (-b) (-c) 2 = sdTo (-a) (-b) (-c) 1 * 3 ^ (-b).toNat) := Lib.hid rfl
  have U3 : Hid (sdTo (-a) (-b) (-c) 3 = sdTo (-a) (-b) (-c) 2 * 5 ^ (-c).toNat) := Lib.hid rfl
  have t2 := limbs_two a.natAbs
  have t3 := limbs_three b.natAbs
  have t5 := limbs_five c.natAbs
  have hl2 : (limbs 2).length ≤ 1 := limbs_length_le (by omega)
  have hl3 : (limbs 3).length ≤ 1 := limbs_length_le (by omega)
  have hl5 : (limbs 5).length ≤ 1 := limbs_length_le (by omega)
  clear f1 f2
  generalize hx0 : sdTo a b c 0 = x0 at *
  have x0e : x0 = 1 := hx0.symm
  generalize hy0 : sdTo (-a) (-b) (-c) 0 = y0 at *
  have y0e : y0 = 1 := hy0.symm
  generalize sdTo a b c 1 = x1 at *
  generalize sdTo a b c 2 = x2 at *
  generalize sdTo a b c 3 = x3 at *
  generalize sdTo (-a) (-b) (-c) 1 = y1 at *
  generalize sdTo (-a) (-b) (-c) 2 = y2 at *
  generalize sdTo (-a) (-b) (-c) 3 = y3 at *
  clear hx0 hy0
  have i0 : ∀ w, (Instr.index 98 (.agg #[.int .i64 a, .int .i64 b, .int .i64 c]) (.int .i64 0)).run Tryd.prog w = .ok (.int .i64 a) w := fun _ => by kernel_rfl
  have i1 : ∀ w, (Instr.index 98 (.agg #[.int .i64 a, .int .i64 b, .int .i64 c]) (.int .i64 1)).run Tryd.prog w = .ok (.int .i64 b) w := fun _ => by kernel_rfl
  have i2 : ∀ w, (Instr.index 98 (.agg #[.int .i64 a, .int .i64 b, .int .i64 c]) (.int .i64 2)).run Tryd.prog w = .ok (.int .i64 c) w := fun _ => by kernel_rfl
  have j0 : ∀ w, (Instr.index 97 (.agg #[.int .u64 2, .int .u64 3, .int .u64 5]) (.int .i64 0)).run Tryd.prog w = .ok (.int .u64 2) w := fun _ => by kernel_rfl
  have j1 : ∀ w, (Instr.index 97 (.agg #[.int .u64 2, .int .u64 3, .int .u64 5]) (.int .i64 1)).run Tryd.prog w = .ok (.int .u64 3) w := fun _ => by kernel_rfl
  have j2 : ∀ w, (Instr.index 97 (.agg #[.int .u64 2, .int .u64 3, .int .u64 5]) (.int .i64 2)).run Tryd.prog w = .ok (.int .u64 5) w := fun _ => by kernel_rfl
  go_enter Tryd.func29, Tryd.ntmps29
  go_wp2_with fail
  refine (rof_calls 1 _ _ (by rfl) (by omega)).mono ?_
  rintro e w1 ⟨v1, rfl, h1, _, b1⟩
  go_wp2_with fail
  refine (rof_calls 1 _ _ (by rfl) (by omega)).mono ?_
  rintro e w2 ⟨v2, rfl, h2, _, b2⟩
  replace h1 := h1.mono b2
  have B := below_trans b1 b2
  clear b1 b2
  rw [← x0e] at h1
  rw [← y0e] at h2
  clear x0e y0e
  go_wp2
  have vp := Vals.newL w2 (w2.heap.size) [.int .u64 2, .int .u64 3, .int .u64 5] 97 rfl
  have bb := below_alloc w2 (.cells #[.int .u64 2, .int .u64 3, .int .u64 5] 97)
  have sz := World.size_alloc w2 (.cells #[.int .u64 2, .int .u64 3, .int .u64 5] 97)
  replace h1 := h1.mono bb
  replace h2 := h2.mono bb
  replace B := below_trans B bb
  clear bb
  have ve := Vals.newL (w2.alloc (.cells #[.int .u64 2, .int .u64 3, .int .u64 5] 97)) (w2.heap.size + 1) [.int .i64 a, .int .i64 b, .int .i64 c] 98 sz.symm
  have bb := below_alloc (w2.alloc (.cells #[.int .u64 2, .int .u64 3, .int .u64 5] 97)) (.cells #[.int .i64 a, .int .i64 b, .int .i64 c] 98)
  replace h1 := h1.mono bb
  replace h2 := h2.mono bb
  replace vp := vp.mono bb
  replace B := below_trans B bb
  clear bb sz
  generalize (w2.alloc (.cells #[.int .u64 2, .int .u64 3, .int .u64 5] 97)).alloc (.cells #[.int .i64 a, .int .i64 b, .int .i64 c] 98) = w0 at *
  generalize w2.heap.size + 1 = ke at *
  generalize w2.heap.size = kp at *
  go_loopw [8, 9, 12] (fun ov uv iv wr => ((iv = .int .i64 0 ∧ Num wr ov x0 ∧ Num wr uv y0) ∨ (iv = .int .i64 1 ∧ Num wr ov x1 ∧ Num wr uv y1) ∨ (iv = .int .i64 2 ∧ Num wr ov x2 ∧ Num wr uv y2) ∨ (iv = .int .i64 3 ∧ Num wr ov x3 ∧ Num wr uv y3)) ∧ Below w.heap.size w wr ∧ Vals wr kp [.int .u64 2, .int .u64 3, .int .u64 5] ∧ Vals wr ke [.int .i64 a, .int .i64 b, .int .i64 c])
    (fun _ _ iv _ => (3 - intOf iv).toNat)
  case atStart => exact ⟨.inl ⟨rfl, h1, h2⟩, B, vp, ve⟩
  case round =>
    obtain ⟨⟨rfl, h3, h4⟩ | ⟨rfl, h3, h4⟩ | ⟨rfl, h3, h4⟩ | ⟨rfl, h3, h4⟩, hbel, vp, ve⟩ := hrel
    · rcases Int.lt_trichotomy a 0 with hz | hz | hz
      · skip
        have e1 : x1 = x0 := by rw [O1.out, show a.toNat = 0 by omega, Nat.pow_zero, Nat.mul_one]
        have e2 : y1 = y0 * 2 ^ a.natAbs := by rw [U1.out, show (-a).toNat = a.natAbs by omega]
        have E1 := Lib.hid e1
        have E2 := Lib.hid e2
        have d1 : decide (0 < a) = false := by rw [decide_eq_false_iff_not]; omega
        have d2 : decide (a < 0) = true := by rw [decide_eq_true_eq]; omega
        clear e1 e2
        have ce := ve.cell (i := 0) (by simp)
        have cp := vp.cell (i := 0) (by simp)
        simp only [List.getD_cons_zero, List.getD_cons_succ] at ce cp
        have hm : -a = (a.natAbs : Int) := by omega
        have HM := Lib.hid hm
        have hn : a.natAbs ≤ 1200000 := by omega
        have PO := fun w : World => rof_calls 2 ((2 : Nat) : Int) w (by rfl) (by omega)
        have PP := fun (v : Value) (z : Int) (w : World) (h : Num w v 2) (hz : z = (a.natAbs : Int)) => rpow_calls v 2 a.natAbs z w h hz (by omega) (Nat.le_trans (Nat.mul_le_mul hl2 hn) (by omega)) (by omega)
        have PM := fun (v1 v2 : Value) (w : World) (k1 : Num w v1 y0) (k2 : Num w v2 (2 ^ a.natAbs)) => rmul_calls v1 v2 y0 (2 ^ a.natAbs) w k1 k2 (by omega) (by omega)
        have HPO := Lib.hid PO
        have HPP := Lib.hid PP
        have HPM := Lib.hid PM
        clear hm PO PP PM
        have kw : IntKind.i64.wrap (-a) = -a := IntWalk.i64_in _ (by omega)
        go_wp2_with fail
        go_region_held3 (fun w' => w'.cell? ⟨kp, 0, none⟩ = some (.int .u64 2) ∧ w'.cell? ⟨ke, 0, none⟩ = some (.int .i64 a))
          (first | exact ⟨cp, ce⟩ | exact ⟨vp.cell (i := 0) (by simp), ve.cell (i := 0) (by simp)⟩ | exact ⟨vp.drew.cell (i := 0) (by simp), ve.drew.cell (i := 0) (by simp)⟩)
          (first | (go_at_call 36; refine (HPO.out _).mono ?_; rintro e w3 ⟨v3, rfl, h5, _, b3⟩; replace h3 := h3.drew.mono b3; replace h4 := h4.drew.mono b3; replace hbel := below_trans hbel.drew b3; replace vp := vp.drew.mono b3; replace ve := ve.drew.mono b3; clear b3)
                 | (go_at_call 35; refine (HPP.out _ _ _ h5 HM.out).mono ?_; rintro e w4 ⟨v4, rfl, h6, _, b3⟩; replace h3 := h3.mono b3; replace h4 := h4.mono b3; replace hbel := below_trans hbel b3; replace vp := vp.mono b3; replace ve := ve.mono b3; clear b3)
                 | (go_at_call 34; refine (HPM.out _ _ _ h4 h6).mono ?_; rintro e w5 ⟨v5, rfl, h7, _, b3⟩; replace h3 := h3.mono b3; replace hbel := below_trans hbel b3; replace vp := vp.mono b3; replace ve := ve.mono b3; clear b3))
        go_wp2
        go_roundw
        case rel => exact ⟨.inr (.inl ⟨rfl, by rw [E1.out]; exact h3, by rw [E2.out]; exact h7⟩), hbel, vp, ve⟩
        case measure => simp [intOf]
      · skip
        have e1 : x1 = x0 := by rw [O1.out, show a.toNat = 0 by omega, Nat.pow_zero, Nat.mul_one]
        have e2 : y1 = y0 := by rw [U1.out, show (-a).toNat = 0 by omega, Nat.pow_zero, Nat.mul_one]
        have E1 := Lib.hid e1
        have E2 := Lib.hid e2
        have d1 : decide (0 < a) = false := by rw [decide_eq_false_iff_not]; omega
        have d2 : decide (a < 0) = false := by rw [decide_eq_false_iff_not]; omega
        clear e1 e2
        have ce := ve.cell (i := 0) (by simp)
        have cp := vp.cell (i := 0) (by simp)
        simp only [List.getD_cons_zero, List.getD_cons_succ] at ce cp
        go_wp2
        go_roundw
        case rel => exact ⟨.inr (.inl ⟨rfl, by rw [E1.out]; exact h3, by rw [E2.out]; exact h4⟩), hbel, vp, ve⟩
        case measure => simp [intOf]
      · skip
        have e1 : x1 = x0 * 2 ^ a.natAbs := by rw [O1.out, show a.toNat = a.natAbs by omega]
        have e2 : y1 = y0 := by rw [U1.out, show (-a).toNat = 0 by omega, Nat.pow_zero, Nat.mul_one]
        have E1 := Lib.hid e1
        have E2 := Lib.hid e2
        have d1 : decide (0 < a) = true := by rw [decide_eq_true_eq]; omega
        have d2 : decide (a < 0) = false := by rw [decide_eq_false_iff_not]; omega
        clear e1 e2
        have ce := ve.cell (i := 0) (by simp)
        have cp := vp.cell (i := 0) (by simp)
        simp only [List.getD_cons_zero, List.getD_cons_succ] at ce cp
        have hm : a = (a.natAbs : Int) := by omega
        have HM := Lib.hid hm
        have hn : a.natAbs ≤ 1200000 := by omega
        have PO := fun w : World => rof_calls 2 ((2 : Nat) : Int) w (by rfl) (by omega)
        have PP := fun (v : Value) (z : Int) (w : World) (h : Num w v 2) (hz : z = (a.natAbs : Int)) => rpow_calls v 2 a.natAbs z w h hz (by omega) (Nat.le_trans (Nat.mul_le_mul hl2 hn) (by omega)) (by omega)
        have PM := fun (v1 v2 : Value) (w : World) (k1 : Num w v1 x0) (k2 : Num w v2 (2 ^ a.natAbs)) => rmul_calls v1 v2 x0 (2 ^ a.natAbs) w k1 k2 (by omega) (by omega)
        have HPO := Lib.hid PO
        have HPP := Lib.hid PP
        have HPM := Lib.hid PM
        clear hm PO PP PM
        go_wp2_with fail
        go_region_held3 (fun w' => w'.cell? ⟨kp, 0, none⟩ = some (.int .u64 2) ∧ w'.cell? ⟨ke, 0, none⟩ = some (.int .i64 a))
          (first | exact ⟨cp, ce⟩ | exact ⟨vp.cell (i := 0) (by simp), ve.cell (i := 0) (by simp)⟩ | exact ⟨vp.drew.cell (i := 0) (by simp), ve.drew.cell (i := 0) (by simp)⟩)
          (first | (go_at_call 36; refine (HPO.out _).mono ?_; rintro e w3 ⟨v3, rfl, h5, _, b3⟩; replace h3 := h3.drew.mono b3; replace h4 := h4.drew.mono b3; replace hbel := below_trans hbel.drew b3; replace vp := vp.drew.mono b3; replace ve := ve.drew.mono b3; clear b3)
                 | (go_at_call 35; refine (HPP.out _ _ _ h5 HM.out).mono ?_; rintro e w4 ⟨v4, rfl, h6, _, b3⟩; replace h3 := h3.mono b3; replace h4 := h4.mono b3; replace hbel := below_trans hbel b3; replace vp := vp.mono b3; replace ve := ve.mono b3; clear b3)
                 | (go_at_call 34; refine (HPM.out _ _ _ h3 h6).mono ?_; rintro e w5 ⟨v5, rfl, h7, _, b3⟩; replace h4 := h4.mono b3; replace hbel := below_trans hbel b3; replace vp := vp.mono b3; replace ve := ve.mono b3; clear b3))
        go_wp2
        go_roundw
        case rel => exact ⟨.inr (.inl ⟨rfl, by rw [E1.out]; exact h7, by rw [E2.out]; exact h4⟩), hbel, vp, ve⟩
        case measure => simp [intOf]
    · rcases Int.lt_trichotomy b 0 with hz | hz | hz
      · skip
        have e1 : x2 = x1 := by rw [O2.out, show b.toNat = 0 by omega, Nat.pow_zero, Nat.mul_one]
        have e2 : y2 = y1 * 3 ^ b.natAbs := by rw [U2.out, show (-b).toNat = b.natAbs by omega]
        have E1 := Lib.hid e1
        have E2 := Lib.hid e2
        have d1 : decide (0 < b) = false := by rw [decide_eq_false_iff_not]; omega
        have d2 : decide (b < 0) = true := by rw [decide_eq_true_eq]; omega
        clear e1 e2
        have ce := ve.cell (i := 1) (by simp)
        have cp := vp.cell (i := 1) (by simp)
        simp only [List.getD_cons_zero, List.getD_cons_succ] at ce cp
        have hm : -b = (b.natAbs : Int) := by omega
        have HM := Lib.hid hm
        have hn : b.natAbs ≤ 1200000 := by omega
        have PO := fun w : World => rof_calls 3 ((3 : Nat) : Int) w (by rfl) (by omega)
        have PP := fun (v : Value) (z : Int) (w : World) (h : Num w v 3) (hz : z = (b.natAbs : Int)) => rpow_calls v 3 b.natAbs z w h hz (by omega) (Nat.le_trans (Nat.mul_le_mul hl3 hn) (by omega)) (by omega)
        have PM := fun (v1 v2 : Value) (w : World) (k1 : Num w v1 y1) (k2 : Num w v2 (3 ^ b.natAbs)) => rmul_calls v1 v2 y1 (3 ^ b.natAbs) w k1 k2 (by omega) (by omega)
        have HPO := Lib.hid PO
        have HPP := Lib.hid PP
        have HPM := Lib.hid PM
        clear hm PO PP PM
        have kw : IntKind.i64.wrap (-b) = -b := IntWalk.i64_in _ (by omega)
        go_wp2_with fail
        go_region_held3 (fun w' => w'.cell? ⟨kp, 1, none⟩ = some (.int .u64 3) ∧ w'.cell? ⟨ke, 1, none⟩ = some (.int .i64 b))
          (first | exact ⟨cp, ce⟩ | exact ⟨vp.cell (i := 1) (by simp), ve.cell (i := 1) (by simp)⟩ | exact ⟨vp.drew.cell (i := 1) (by simp), ve.drew.cell (i := 1) (by simp)⟩)
          (first | (go_at_call 36; refine (HPO.out _).mono ?_; rintro e w3 ⟨v3, rfl, h5, _, b3⟩; replace h3 := h3.drew.mono b3; replace h4 := h4.drew.mono b3; replace hbel := below_trans hbel.drew b3; replace vp := vp.drew.mono b3; replace ve := ve.drew.mono b3; clear b3)
                 | (go_at_call 35; refine (HPP.out _ _ _ h5 HM.out).mono ?_; rintro e w4 ⟨v4, rfl, h6, _, b3⟩; replace h3 := h3.mono b3; replace h4 := h4.mono b3; replace hbel := below_trans hbel b3; replace vp := vp.mono b3; replace ve := ve.mono b3; clear b3)
                 | (go_at_call 34; refine (HPM.out _ _ _ h4 h6).mono ?_; rintro e w5 ⟨v5, rfl, h7, _, b3⟩; replace h3 := h3.mono b3; replace hbel := below_trans hbel b3; replace vp := vp.mono b3; replace ve := ve.mono b3; clear b3))
        go_wp2
        go_roundw
        case rel => exact ⟨.inr (.inr (.inl ⟨rfl, by rw [E1.out]; exact h3, by rw [E2.out]; exact h7⟩)), hbel, vp, ve⟩
        case measure => simp [intOf]
      · skip
        have e1 : x2 = x1 := by rw [O2.out, show b.toNat = 0 by omega, Nat.pow_zero, Nat.mul_one]
        have e2 : y2 = y1 := by rw [U2.out, show (-b).toNat = 0 by omega, Nat.pow_zero, Nat.mul_one]
        have E1 := Lib.hid e1
        have E2 := Lib.hid e2
        have d1 : decide (0 < b) = false := by rw [decide_eq_false_iff_not]; omega
        have d2 : decide (b < 0) = false := by rw [decide_eq_false_iff_not]; omega
        clear e1 e2
        have ce := ve.cell (i := 1) (by simp)
        have cp := vp.cell (i := 1) (by simp)
        simp only [List.getD_cons_zero, List.getD_cons_succ] at ce cp
        go_wp2
        go_roundw
        case rel => exact ⟨.inr (.inr (.inl ⟨rfl, by rw [E1.out]; exact h3, by rw [E2.out]; exact h4⟩)), hbel, vp, ve⟩
        case measure => simp [intOf]
      · skip
        have e1 : x2 = x1 * 3 ^ b.natAbs := by rw [O2.out, show b.toNat = b.natAbs by omega]
        have e2 : y2 = y1 := by rw [U2.out, show (-b).toNat = 0 by omega, Nat.pow_zero, Nat.mul_one]
        have E1 := Lib.hid e1
        have E2 := Lib.hid e2
        have d1 : decide (0 < b) = true := by rw [decide_eq_true_eq]; omega
        have d2 : decide (b < 0) = false := by rw [decide_eq_false_iff_not]; omega
        clear e1 e2
        have ce := ve.cell (i := 1) (by simp)
        have cp := vp.cell (i := 1) (by simp)
        simp only [List.getD_cons_zero, List.getD_cons_succ] at ce cp
        have hm : b = (b.natAbs : Int) := by omega
        have HM := Lib.hid hm
        have hn : b.natAbs ≤ 1200000 := by omega
        have PO := fun w : World => rof_calls 3 ((3 : Nat) : Int) w (by rfl) (by omega)
        have PP := fun (v : Value) (z : Int) (w : World) (h : Num w v 3) (hz : z = (b.natAbs : Int)) => rpow_calls v 3 b.natAbs z w h hz (by omega) (Nat.le_trans (Nat.mul_le_mul hl3 hn) (by omega)) (by omega)
        have PM := fun (v1 v2 : Value) (w : World) (k1 : Num w v1 x1) (k2 : Num w v2 (3 ^ b.natAbs)) => rmul_calls v1 v2 x1 (3 ^ b.natAbs) w k1 k2 (by omega) (by omega)
        have HPO := Lib.hid PO
        have HPP := Lib.hid PP
        have HPM := Lib.hid PM
        clear hm PO PP PM
        go_wp2_with fail
        go_region_held3 (fun w' => w'.cell? ⟨kp, 1, none⟩ = some (.int .u64 3) ∧ w'.cell? ⟨ke, 1, none⟩ = some (.int .i64 b))
          (first | exact ⟨cp, ce⟩ | exact ⟨vp.cell (i := 1) (by simp), ve.cell (i := 1) (by simp)⟩ | exact ⟨vp.drew.cell (i := 1) (by simp), ve.drew.cell (i := 1) (by simp)⟩)
          (first | (go_at_call 36; refine (HPO.out _).mono ?_; rintro e w3 ⟨v3, rfl, h5, _, b3⟩; replace h3 := h3.drew.mono b3; replace h4 := h4.drew.mono b3; replace hbel := below_trans hbel.drew b3; replace vp := vp.drew.mono b3; replace ve := ve.drew.mono b3; clear b3)
                 | (go_at_call 35; refine (HPP.out _ _ _ h5 HM.out).mono ?_; rintro e w4 ⟨v4, rfl, h6, _, b3⟩; replace h3 := h3.mono b3; replace h4 := h4.mono b3; replace hbel := below_trans hbel b3; replace vp := vp.mono b3; replace ve := ve.mono b3; clear b3)
                 | (go_at_call 34; refine (HPM.out _ _ _ h3 h6).mono ?_; rintro e w5 ⟨v5, rfl, h7, _, b3⟩; replace h4 := h4.mono b3; replace hbel := below_trans hbel b3; replace vp := vp.mono b3; replace ve := ve.mono b3; clear b3))
        go_wp2
        go_roundw
        case rel => exact ⟨.inr (.inr (.inl ⟨rfl, by rw [E1.out]; exact h7, by rw [E2.out]; exact h4⟩)), hbel, vp, ve⟩
        case measure => simp [intOf]
    · rcases Int.lt_trichotomy c 0 with hz | hz | hz
      · skip
        have e1 : x3 = x2 := by rw [O3.out, show c.toNat = 0 by omega, Nat.pow_zero, Nat.mul_one]
        have e2 : y3 = y2 * 5 ^ c.natAbs := by rw [U3.out, show (-c).toNat = c.natAbs by omega]
        have E1 := Lib.hid e1
        have E2 := Lib.hid e2
        have d1 : decide (0 < c) = false := by rw [decide_eq_false_iff_not]; omega
        have d2 : decide (c < 0) = true := by rw [decide_eq_true_eq]; omega
        clear e1 e2
        have ce := ve.cell (i := 2) (by simp)
        have cp := vp.cell (i := 2) (by simp)
        simp only [List.getD_cons_zero, List.getD_cons_succ] at ce cp
        have hm : -c = (c.natAbs : Int) := by omega
        have HM := Lib.hid hm
        have hn : c.natAbs ≤ 1200000 := by omega
        have PO := fun w : World => rof_calls 5 ((5 : Nat) : Int) w (by rfl) (by omega)
        have PP := fun (v : Value) (z : Int) (w : World) (h : Num w v 5) (hz : z = (c.natAbs : Int)) => rpow_calls v 5 c.natAbs z w h hz (by omega) (Nat.le_trans (Nat.mul_le_mul hl5 hn) (by omega)) (by omega)
        have PM := fun (v1 v2 : Value) (w : World) (k1 : Num w v1 y2) (k2 : Num w v2 (5 ^ c.natAbs)) => rmul_calls v1 v2 y2 (5 ^ c.natAbs) w k1 k2 (by omega) (by omega)
        have HPO := Lib.hid PO
        have HPP := Lib.hid PP
        have HPM := Lib.hid PM
        clear hm PO PP PM
        have kw : IntKind.i64.wrap (-c) = -c := IntWalk.i64_in _ (by omega)
        go_wp2_with fail
        go_region_held3 (fun w' => w'.cell? ⟨kp, 2, none⟩ = some (.int .u64 5) ∧ w'.cell? ⟨ke, 2, none⟩ = some (.int .i64 c))
          (first | exact ⟨cp, ce⟩ | exact ⟨vp.cell (i := 2) (by simp), ve.cell (i := 2) (by simp)⟩ | exact ⟨vp.drew.cell (i := 2) (by simp), ve.drew.cell (i := 2) (by simp)⟩)
          (first | (go_at_call 36; refine (HPO.out _).mono ?_; rintro e w3 ⟨v3, rfl, h5, _, b3⟩; replace h3 := h3.drew.mono b3; replace h4 := h4.drew.mono b3; replace hbel := below_trans hbel.drew b3; replace vp := vp.drew.mono b3; replace ve := ve.drew.mono b3; clear b3)
                 | (go_at_call 35; refine (HPP.out _ _ _ h5 HM.out).mono ?_; rintro e w4 ⟨v4, rfl, h6, _, b3⟩; replace h3 := h3.mono b3; replace h4 := h4.mono b3; replace hbel := below_trans hbel b3; replace vp := vp.mono b3; replace ve := ve.mono b3; clear b3)
                 | (go_at_call 34; refine (HPM.out _ _ _ h4 h6).mono ?_; rintro e w5 ⟨v5, rfl, h7, _, b3⟩; replace h3 := h3.mono b3; replace hbel := below_trans hbel b3; replace vp := vp.mono b3; replace ve := ve.mono b3; clear b3))
        go_wp2
        go_roundw
        case rel => exact ⟨.inr (.inr (.inr ⟨rfl, by rw [E1.out]; exact h3, by rw [E2.out]; exact h7⟩)), hbel, vp, ve⟩
        case measure => simp [intOf]
      · skip
        have e1 : x3 = x2 := by rw [O3.out, show c.toNat = 0 by omega, Nat.pow_zero, Nat.mul_one]
        have e2 : y3 = y2 := by rw [U3.out, show (-c).toNat = 0 by omega, Nat.pow_zero, Nat.mul_one]
        have E1 := Lib.hid e1
        have E2 := Lib.hid e2
        have d1 : decide (0 < c) = false := by rw [decide_eq_false_iff_not]; omega
        have d2 : decide (c < 0) = false := by rw [decide_eq_false_iff_not]; omega
        clear e1 e2
        have ce := ve.cell (i := 2) (by simp)
        have cp := vp.cell (i := 2) (by simp)
        simp only [List.getD_cons_zero, List.getD_cons_succ] at ce cp
        go_wp2
        go_roundw
        case rel => exact ⟨.inr (.inr (.inr ⟨rfl, by rw [E1.out]; exact h3, by rw [E2.out]; exact h4⟩)), hbel, vp, ve⟩
        case measure => simp [intOf]
      · skip
        have e1 : x3 = x2 * 5 ^ c.natAbs := by rw [O3.out, show c.toNat = c.natAbs by omega]
        have e2 : y3 = y2 := by rw [U3.out, show (-c).toNat = 0 by omega, Nat.pow_zero, Nat.mul_one]
        have E1 := Lib.hid e1
        have E2 := Lib.hid e2
        have d1 : decide (0 < c) = true := by rw [decide_eq_true_eq]; omega
        have d2 : decide (c < 0) = false := by rw [decide_eq_false_iff_not]; omega
        clear e1 e2
        have ce := ve.cell (i := 2) (by simp)
        have cp := vp.cell (i := 2) (by simp)
        simp only [List.getD_cons_zero, List.getD_cons_succ] at ce cp
        have hm : c = (c.natAbs : Int) := by omega
        have HM := Lib.hid hm
        have hn : c.natAbs ≤ 1200000 := by omega
        have PO := fun w : World => rof_calls 5 ((5 : Nat) : Int) w (by rfl) (by omega)
        have PP := fun (v : Value) (z : Int) (w : World) (h : Num w v 5) (hz : z = (c.natAbs : Int)) => rpow_calls v 5 c.natAbs z w h hz (by omega) (Nat.le_trans (Nat.mul_le_mul hl5 hn) (by omega)) (by omega)
        have PM := fun (v1 v2 : Value) (w : World) (k1 : Num w v1 x2) (k2 : Num w v2 (5 ^ c.natAbs)) => rmul_calls v1 v2 x2 (5 ^ c.natAbs) w k1 k2 (by omega) (by omega)
        have HPO := Lib.hid PO
        have HPP := Lib.hid PP
        have HPM := Lib.hid PM
        clear hm PO PP PM
        go_wp2_with fail
        go_region_held3 (fun w' => w'.cell? ⟨kp, 2, none⟩ = some (.int .u64 5) ∧ w'.cell? ⟨ke, 2, none⟩ = some (.int .i64 c))
          (first | exact ⟨cp, ce⟩ | exact ⟨vp.cell (i := 2) (by simp), ve.cell (i := 2) (by simp)⟩ | exact ⟨vp.drew.cell (i := 2) (by simp), ve.drew.cell (i := 2) (by simp)⟩)
          (first | (go_at_call 36; refine (HPO.out _).mono ?_; rintro e w3 ⟨v3, rfl, h5, _, b3⟩; replace h3 := h3.drew.mono b3; replace h4 := h4.drew.mono b3; replace hbel := below_trans hbel.drew b3; replace vp := vp.drew.mono b3; replace ve := ve.drew.mono b3; clear b3)
                 | (go_at_call 35; refine (HPP.out _ _ _ h5 HM.out).mono ?_; rintro e w4 ⟨v4, rfl, h6, _, b3⟩; replace h3 := h3.mono b3; replace h4 := h4.mono b3; replace hbel := below_trans hbel b3; replace vp := vp.mono b3; replace ve := ve.mono b3; clear b3)
                 | (go_at_call 34; refine (HPM.out _ _ _ h3 h6).mono ?_; rintro e w5 ⟨v5, rfl, h7, _, b3⟩; replace h4 := h4.mono b3; replace hbel := below_trans hbel b3; replace vp := vp.mono b3; replace ve := ve.mono b3; clear b3))
        go_wp2
        go_roundw
        case rel => exact ⟨.inr (.inr (.inr ⟨rfl, by rw [E1.out]; exact h7, by rw [E2.out]; exact h4⟩)), hbel, vp, ve⟩
        case measure => simp [intOf]
    · go_wp2
      go_ret2
      exact ⟨_, _, rfl, h3, h4, hbel⟩
    
end Go.Proofs
