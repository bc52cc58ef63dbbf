/- nat.byWord: the quotient and the remainder by one limb. -/
import Derived.Test.YtgdgdaofmjnepaaDoorTrim
import Derived.RegionTactic
open Go.RowKit
namespace Go.Proofs
set_option linter.unusedVariables false

/-- A quotient, new, and a small remainder. -/
def RetDiv (w : World) (m d : Nat) (e : Ending) (w' : World) : Prop :=
  ∃ v, e = .returned (.tuple #[v, .int .u32 ((m % d : Nat) : Int)]) ∧ Num w' v (m / d) ∧ Fresh w.heap.size v ∧ Below w.heap.size w w'

theorem word_step (vq vx d r q x t r' : Nat) (h : vq * d + r = vx) (ht : d * q + r' = t) (e : t = r * 4294967296 + x) : (q + 4294967296 * vq) * d + r' = x + 4294967296 * vx := by
  grind

theorem wrap_quo (t d : Nat) (h : t / d < 4294967296) : IntKind.u64.wrap ((t : Int) / (d : Int)) % 4294967296 = ((t / d : Nat) : Int) := by
  rw [← Int.natCast_ediv, IntKind.wrap_u64]
  generalize t / d = q at *
  omega

set_option maxRecDepth 100000 in
theorem byWord_raw (ad : Option Addr) (c d : Nat) (xs : List Nat) (w : World) (hx : Sl w ad c xs) (hd : 0 < d) (hd2 : d < 4294967296) (hreach : xs.length ≤ 4000000000) :
    Calls Tryd.prog 139 #[.slice ad xs.length c, .int .u32 d] w (RetDiv w (val xs) d) := by
  go_enter Tryd.func139, Tryd.ntmps139
  go_wp2_with (at_make; refine wpList_make_nums _ rfl _ _ 55 rfl 102 Tryd.underlying55 info32 _ _ _ _ xs.length rfl rfl (by omega) (by omega) (by omega) ?_; intro w1 hr1 hb1 hs1)
  go_loopw [7, 8] (fun rv iv wr => ∃ (i r : Nat) (R : List Nat), i ≤ xs.length ∧ r < d ∧ iv = .int .i64 ((i : Int) - 1) ∧ rv = .int .u64 r ∧ R.length = xs.length ∧ Row wr w.heap.size R ∧ Below w.heap.size w wr ∧
      val (R.drop i) * d + r = val (xs.drop i))
    (fun _ iv _ => (intOf iv + 1).toNat)
  case atStart => exact ⟨xs.length, 0, List.replicate xs.length 0, Nat.le_refl _, hd, rfl, rfl, by simp, hr1, hb1, by rw [List.drop_of_length_le (by simp), List.drop_of_length_le (Nat.le_refl _)]; simp [val]⟩
  case round =>
    obtain ⟨i, r, R, hi, hr, rfl, rfl, hlR, hrow, hbel, hval⟩ := hrel
    have HlR := Lib.hid hlR
    have Hval := Lib.hid hval
    have Hrow := Lib.hid hrow
    clear hlR hval hrow
    by_cases h0 : 0 < i
    · obtain ⟨j, rfl⟩ : ∃ j, i = j + 1 := ⟨i - 1, by omega⟩
      rw [show (((j + 1 : Nat) : Int) - 1) = (j : Int) from by omega]
      obtain ⟨b, o, rfl, hbs, hcell, hfr⟩ := hx.open (i := j) (by omega)
      have hx1 := hx.lt j
      obtain ⟨x, ex⟩ : ∃ x, xs.getD j 0 = x := ⟨_, rfl⟩
      rw [ex] at hcell hx1
      have hcell' := (hbel.cell (p := ⟨b, o + j, none⟩) hbs).trans hcell
      have Hx := Lib.hid ex
      have oc := Hrow.out.cell (i := j) (by have := HlR.out; omega)
      have of := Hrow.out.free j
      obtain ⟨v0, ev0⟩ : ∃ x, R.getD j 0 = x := ⟨_, rfl⟩
      rw [ev0] at oc
      have k1 : (j : Int) < (xs.length : Int) := by omega
      clear ex hcell hfr ev0
      go_wp2_with fail
      rw [or_limbs r x (by omega) hx1]
      obtain ⟨t, et⟩ : ∃ t, r * 4294967296 + x = t := ⟨_, rfl⟩
      rw [et]
      have ht : t < d * 4294967296 := by
        have : (r + 1) * 4294967296 ≤ d * 4294967296 := Nat.mul_le_mul_right _ hr
        omega
      have hq : t / d < 4294967296 := Nat.div_lt_of_lt_mul ht
      have hm : t % d < d := Nat.mod_lt _ hd
      have hdm := Nat.div_add_mod t d
      have Het := Lib.hid et
      have Hdm := Lib.hid hdm
      have d1 : (1 : Int) ≤ (d : Int) := by omega
      have d0 : ((d : Int) == 0) = false := by simp; omega
      clear et ht hdm
      go_region
      all_goals go_wp2
      all_goals
        go_roundw
        case rel =>
          refine ⟨j, t % d, R.set j (t / d), by omega, hm, rfl, ?_, by simp [HlR.out], Row.drew (Hrow.out.put _ _ hq _ (wrap_quo t d hq)), (hbel.setCell (Nat.le_refl _) _).drew, ?_⟩
          · exact congrArg (Value.int .u64) (Int.natCast_emod t d).symm
          · rw [val_drop_set _ _ _ (by rw [HlR.out]; omega), val_drop_cons xs j (by omega), Hx.out]
            exact word_step _ _ _ _ _ _ _ _ Hval.out Hdm.out Het.out.symm
        case measure => simp [intOf]
    · obtain rfl : i = 0 := by omega
      have hv : val R * d + r = val xs := Hval.out
      have hq : val xs / d = val R := by rw [← hv, Nat.mul_comm, Nat.mul_add_div hd, Nat.div_eq_of_lt hr, Nat.add_zero]
      have hm : val xs % d = r := by rw [← hv, Nat.mul_comm, Nat.mul_add_mod, Nat.mod_eq_of_lt hr]
      have hsl := Hrow.out.whole (by rw [HlR.out]; unfold maxLen; omega)
      rw [HlR.out] at hsl
      have Hq := Lib.hid hq
      have Hm := Lib.hid hm
      clear hq hm hv
      go_wp2_with (go_at_call 116; refine (trim_calls _ _ _ R _ hsl HlR.out.symm).mono ?_; rintro e w' ⟨kk, rfl, hnum, rfl⟩)
      go_ret2
      exact ⟨.slice (some ⟨w.heap.size, 0, none⟩) kk xs.length, by rw [Hm.out]; rfl, by rw [Hq.out]; exact hnum, Nat.le_refl _, hbel⟩

/-- byWord divides by one limb. -/
theorem byWord_calls (v : Value) (m d : Nat) (z : Int) (w : World) (hv : Num w v m) (hz : z = (d : Int)) (hd : 0 < d) (hd2 : d < 4294967296) (hreach : (limbs m).length ≤ 4000000000) :
    Calls Tryd.prog 139 #[v, .int .u32 z] w (RetDiv w m d) := by
  obtain ⟨ad, c, rfl, hs⟩ := hv
  subst hz
  have := byWord_raw ad c d _ w hs hd hd2 hreach
  rwa [val_limbs] at this

end Go.Proofs
