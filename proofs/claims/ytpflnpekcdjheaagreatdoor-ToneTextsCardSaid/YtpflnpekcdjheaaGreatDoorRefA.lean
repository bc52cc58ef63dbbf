/- The reference: trim returns a new slice of the limbs of a number. The reference: Cmp. The reference: Bits, Bit. The reference: Mul is the product, limb by limb. The reference: at, Of, Add, Sub. The reference: Over, Times. -/
import Derived.Test.YtpflnpekcdjheaaGreatDoorGrow
import Derived.Test.YtpflnpekcdjheaaGreatDoorNatA
open Go.RowKit
namespace Go.Proofs
set_option linter.unusedVariables false
set_option linter.unusedSimpArgs false

theorem rtrim_raw (ad : Option Addr) (c : Nat) (xs : List Nat) (w : World) (hx : Sl w ad c xs) (hreach : xs.length ≤ 1000000000) :
    Calls Tryz.prog 60 #[.slice ad xs.length c] w (RetNum w (val xs)) := by
  have hc := hx.1
  have hcm := hx.2.1
  unfold maxLen at hcm
  go_enter Tryz.func60, Tryz.ntmps60
  go_wp2
  go_loop [3] (fun v => ∃ m : Nat, m ≤ xs.length ∧ v = .int .i64 m ∧ val (xs.take m) = val xs) (fun v => (intOf v).toNat)
  case atStart => exact ⟨xs.length, Nat.le_refl _, rfl, by simp⟩
  case round =>
    obtain ⟨m, hm, rfl, hv⟩ := hrel
    have Hv := Lib.hid hv
    clear hv
    have key : ∀ (hl : m = 0 ∨ xs.getD (m - 1) 0 ≠ 0), limbs (val xs) = xs.take m := fun hl => limbs_of_take xs m hm hx.2.2.1 Hv.out hl
    by_cases h0 : 0 < m ∧ xs.getD (m - 1) 0 = 0
    · obtain ⟨b, o, rfl, hbs, hcell, hfr⟩ := hx.open (i := m - 1) (by omega)
      have hx0 := h0.2
      rw [hx0] at hcell
      have Hx := Lib.hid hx0
      have ht : (0 : Int) < (m : Int) := by omega
      have hm0 := h0.1
      clear h0 hx0 hfr
      go_wp2
      go_round
      case rel => exact ⟨m - 1, by omega, by go_num, (val_take_pred xs m hm0 hm Hx.out).trans Hv.out⟩
      case measure => simp [intOf]; omega
    · have hlim := key (by omega)
      have hlen : (limbs (val xs)).length = m := by rw [hlim, List.length_take, Nat.min_eq_left hm]
      have Hlim := Lib.hid hlim
      have Hlen := Lib.hid hlen
      clear hlim hlen key
      have hmade := own_made w
      have hb0 := below_alloc w (.cells #[] 93)
      have htake : ∀ i, i < m → xs.take i ++ [xs.getD i 0] = xs.take (i + 1) := by
        intro i hi
        rw [List.take_add_one]
        simp [List.getD, show i < xs.length by omega]
      have fin : ∀ (wr : World) (ov : Value), Own w.heap.size wr ov (xs.take m) → Num wr ov (val xs) ∧ Fresh w.heap.size ov := by
        intro wr ov ho
        have e : val (xs.take m) = val xs := Hv.out
        have := ho.num (by rw [e]; exact Hlim.out)
        rwa [e] at this
      have Htake := Lib.hid htake
      have Fin := Lib.hid fin
      clear htake fin
      have ways : (m = 0) ∨ (0 < m ∧ (0 : Int) < (m : Int) ∧ ∃ (b o x : Nat), ad = some ⟨b, o, none⟩ ∧ w.cell? ⟨b, o + (m - 1), none⟩ = some (.int .u32 x) ∧ ((x : Int) == 0) = false) := by
        by_cases hm0 : m = 0
        · exact .inl hm0
        · obtain ⟨b, o, rfl, hbs, hcell, hfr⟩ := hx.open (i := m - 1) (by omega)
          refine .inr ⟨by omega, by omega, b, o, _, rfl, hcell, ?_⟩
          rw [beq_eq_false_iff_ne]
          intro e
          exact h0 ⟨by omega, by omega⟩
      clear h0
      rcases ways with rfl | ⟨hm0, hm1, b, o, x, rfl, hcell, hxx⟩
      · go_wp2
        go_loopw [4, 5] (fun ov iv wr => iv = .int .i64 0 ∧ Own w.heap.size wr ov (xs.take 0) ∧ Below w.heap.size w wr) (fun _ iv _ => 0)
        case atStart => exact ⟨rfl, hmade, hb0⟩
        case round =>
          obtain ⟨rfl, hown, hbel⟩ := hrel
          go_wp2
          go_ret
          obtain ⟨h1, h2⟩ := Fin.out _ _ hown
          exact ⟨_, rfl, h1, h2, hbel⟩
      · go_wp2
        go_loopw [4, 5] (fun ov iv wr => ∃ i : Nat, i ≤ m ∧ iv = .int .i64 i ∧ Own w.heap.size wr ov (xs.take i) ∧ Below w.heap.size w wr) (fun _ iv _ => m - (intOf iv).toNat)
        case atStart => exact ⟨0, Nat.zero_le _, rfl, hmade, hb0⟩
        case round =>
          obtain ⟨i, hi, rfl, hown, hbel⟩ := hrel
          by_cases hlt : i < m
          · obtain ⟨b2, o2, e2, hbs2, hcell2, _⟩ := hx.open (i := i) (by omega)
            cases e2
            have hlt2 := hx.lt i
            have htk := Htake.out i hlt
            obtain ⟨d, ed⟩ : ∃ d, xs.getD i 0 = d := ⟨_, rfl⟩
            rw [ed] at hcell2 hlt2 htk
            have hcell3 := (hbel.cell (p := ⟨b, o + i, none⟩) hbs2).trans hcell2
            have Htk := Lib.hid htk
            have hlen : (xs.take i).length = i := by rw [List.length_take, Nat.min_eq_left (by omega)]
            clear hcell2 ed htk
            have hown2 := hown.mono (below_alloc wr (.cells #[Value.int .u32 (d : Int)] 93))
            have hsl2 := sl_one wr d d rfl hlt2 93
            have hbel2 := below_trans hbel (below_alloc wr (.cells #[Value.int .u32 (d : Int)] 93))
            go_wp2_with (at_builtin; refine wpList_append_lims rfl (.tmp 26) (.tmp 31) _ rfl Tryz.underlying71 info32 w.heap.size _ _ rfl hown2 hbel2.size _ 1 _ _ rfl rfl hsl2 (by rw [hlen]; simp; omega) ?_; intro v3 w3 hown3 hb3)
            go_roundw
            case rel =>
              rw [Htk.out] at hown3
              exact ⟨i + 1, by omega, by go_num, hown3, hbel2.trans hb3⟩
            case measure => simp [intOf]; omega
          · obtain rfl : i = m := by omega
            go_wp2
            go_ret
            obtain ⟨h1, h2⟩ := Fin.out _ _ hown
            exact ⟨_, rfl, h1, h2, hbel⟩

theorem rtrim_calls (ad : Option Addr) (c n : Nat) (xs : List Nat) (w : World) (hx : Sl w ad c xs) (hn : n = xs.length) (hreach : xs.length ≤ 1000000000) :
    Calls Tryz.prog 60 #[.slice ad n c] w (RetNum w (val xs)) := by
  subst hn
  exact rtrim_raw ad c xs w hx hreach

end Go.Proofs

open Go.RowKit
namespace Go.Proofs
set_option linter.unusedVariables false
set_option linter.unusedSimpArgs false


end Go.Proofs

open Go.RowKit
namespace Go.Proofs
set_option linter.unusedVariables false
set_option linter.unusedSimpArgs false

theorem bitlen_le_limbs (a : Nat) : bitlen a ≤ 32 * (limbs a).length := by
  refine bitlen_of_lt ?_
  rw [Nat.pow_mul]
  exact lt_pow_length a

theorem bitlen_half {x : Nat} (h : x ≠ 0) : bitlen x = bitlen (x / 2) + 1 := by
  have hs := bitlen_spec h
  by_cases h1 : x / 2 = 0
  · have : x = 1 := by omega
    subst this
    decide
  · have hs2 := bitlen_spec h1
    have hb2 : bitlen (x / 2) ≠ 0 := by
      intro e
      rw [e] at hs2
      simp at hs2
      omega
    refine bitlen_unique ?_ ?_
    · have h3 : 2 ^ (bitlen (x / 2)) = 2 * 2 ^ (bitlen (x / 2) - 1) := by
        rw [← Nat.pow_succ', Nat.succ_eq_add_one, show bitlen (x / 2) - 1 + 1 = bitlen (x / 2) by omega]
      rw [h3]
      omega
    · rw [Nat.pow_succ]
      omega


theorem limb_at : ∀ (k n : Nat), (limbs n).getD k 0 = n / 4294967296 ^ k % 4294967296 := by
  intro k
  induction k with
  | zero =>
    intro n
    by_cases h : n = 0
    · subst h; rw [limbs_zero]; rfl
    · rw [limbs_pos h]; simp
  | succ k ih =>
    intro n
    by_cases h : n = 0
    · subst h; rw [limbs_zero]; simp
    · rw [limbs_pos h]
      have := ih (n / 4294967296)
      rw [Nat.div_div_eq_div_mul, Nat.mul_comm, ← Nat.pow_succ] at this
      simpa [List.getD] using this

theorem mod_bit (x r : Nat) (hr : r < 32) : x % 4294967296 / 2 ^ r % 2 = x / 2 ^ r % 2 := by
  have e : (4294967296 : Nat) = 2 ^ r * (2 * 2 ^ (31 - r)) := by
    rw [← Nat.pow_succ', ← Nat.pow_add, show r + (31 - r).succ = 32 by omega]
  have h := Nat.div_add_mod x 4294967296
  generalize x % 4294967296 = s at *
  generalize x / 4294967296 = q at *
  rw [← h, e, Nat.mul_assoc, Nat.mul_add_div (Nat.two_pow_pos r), Nat.mul_assoc, Nat.mul_add_mod]

theorem limb_bit (n i : Nat) : (limbs n).getD (i / 32) 0 / 2 ^ (i % 32) % 2 = n / 2 ^ i % 2 := by
  rw [limb_at, mod_bit _ _ (Nat.mod_lt _ (by omega)), Nat.div_div_eq_div_mul]
  have e : (4294967296 : Nat) ^ (i / 32) * 2 ^ (i % 32) = 2 ^ i := by
    rw [show (4294967296 : Nat) = 2 ^ 32 by rfl, ← Nat.pow_mul, ← Nat.pow_add]
    congr 1
    omega
  rw [e]


end Go.Proofs

open Go.RowKit
namespace Go.Proofs
set_option linter.unusedVariables false
set_option linter.unusedSimpArgs false

theorem rmul_step (p pi x y o c vr vz q r : Nat) (v0 vs : Nat) (hs : vs + (p * pi) * o = vr + (p * pi) * r) (hi : vr + c * (p * pi) = v0 + pi * (x * vz)) (hq : 4294967296 * q + r = x * y + o + c) :
    vs + q * (p * 4294967296 * pi) = v0 + pi * (x * (vz + p * y)) := by
  grind

theorem rmul_row (pi pl x c vr v0 vs vz va : Nat) (h : vr + c * (pl * pi) = v0 + pi * (x * vz)) (hs : vs + pl * pi * 0 = vr + pl * pi * c) (h0 : v0 = va * vz) : vs = (va + pi * x) * vz := by
  grind

end Go.Proofs

open Go.RowKit
namespace Go.Proofs
set_option linter.unusedVariables false
set_option linter.unusedSimpArgs false


theorem row_pair (w : World) (x y : Nat) (e : Nat) (hx : x < 4294967296) (hy : y < 4294967296) : Row (w.alloc (.cells #[Value.int .u32 (x : Int), Value.int .u32 (y : Int)] e)) w.heap.size [x, y] := by
  refine ⟨by intro z hz; simp at hz; omega, e, ?_⟩
  rw [heap_alloc_new]; rfl

theorem rof_calls (n : Nat) (z : Int) (w : World) (hz : z = (n : Int)) (hn : n < 18446744073709551616) :
    Calls Tryz.prog 39 #[.int .u64 z] w (RetNum w n) := by
  subst hz
  have hlo : (n : Int) % 4294967296 = ((n % 4294967296 : Nat) : Int) := rfl
  have hlo2 : (n : Int) % 4294967296 % 4294967296 = ((n % 4294967296 : Nat) : Int) := by omega
  have hhi : (n : Int) / 4294967296 = ((n / 4294967296 : Nat) : Int) := rfl
  have hhi2 : (n : Int) / 4294967296 % 4294967296 = ((n / 4294967296 : Nat) : Int) := by omega
  have hr := row_pair w (n % 4294967296) (n / 4294967296) 93 (by omega) (by omega)
  have hb := below_alloc w (.cells #[Value.int .u32 ((n % 4294967296 : Nat) : Int), Value.int .u32 ((n / 4294967296 : Nat) : Int)] 93)
  have hs := hr.whole (by simp [maxLen])
  have hval : val [n % 4294967296, n / 4294967296] = n := by simp only [val]; omega
  generalize n % 4294967296 = lo at *
  generalize n / 4294967296 = hi at *
  go_enter Tryz.func39, Tryz.ntmps39
  go_wp2_with fail
  refine (rtrim_calls _ _ 2 _ _ hs rfl (by simp)).mono ?_
  rintro e w1 ⟨v, rfl, hv, hf, hb2⟩
  rw [hval] at hv
  go_wp2
  go_ret
  exact ⟨_, rfl, hv, hf.mono hb.size, below_trans hb hb2⟩

theorem val_take_getD (xs : List Nat) (i : Nat) : val (xs.take (i + 1)) = val (xs.take i) + 4294967296 ^ i * xs.getD i 0 := by
  by_cases hi : i < xs.length
  · exact val_take_succ xs i hi
  · rw [val_take_of_le xs i (by omega), show xs.getD i 0 = 0 by simp [List.getD, show xs.length ≤ i by omega]]
    omega

theorem radd_step (p o c m n x y d q : Nat) (h : o + c * p = m + n) (hd : 4294967296 * q + d = x + y + c) : o + p * d + q * (p * 4294967296) = m + p * x + (n + p * y) := by
  grind


theorem rsub_step (p o m n b x y d q : Nat) (h : o + n = m + b * p) (hd : 4294967296 * q + d + y + b = 4294967296 + x) (hq : q ≤ 1) : o + p * d + (n + p * y) = m + p * x + (1 - q) * (p * 4294967296) := by
  obtain ⟨t, ht⟩ : ∃ t, t + q = 1 := ⟨1 - q, by omega⟩
  rw [show 1 - q = t by omega]
  have e : d + y + b = x + 4294967296 * t := by omega
  have e2 : p * (d + y + b) = p * (x + 4294967296 * t) := by rw [e]
  grind


end Go.Proofs

open Go.RowKit
namespace Go.Proofs
set_option linter.unusedVariables false
set_option linter.unusedSimpArgs false

set_option maxRecDepth 100000 in
theorem rover_raw (ad : Option Addr) (c d : Nat) (xs : List Nat) (w : World) (hx : Sl w ad c xs) (hd : 0 < d) (hd2 : d < 4294967296) (hreach : xs.length ≤ 400000000) :
    Calls Tryz.prog 59 #[.slice ad xs.length c, .int .u32 d] w (RetDiv w (val xs) d) := by
  go_enter Tryz.func59, Tryz.ntmps59
  go_wp2_with (at_make; refine wpList_make_nums _ rfl _ _ 71 rfl 93 Tryz.underlying71 info32 _ _ _ _ xs.length rfl rfl (by omega) (by omega) (by omega) ?_; intro w1 hr1 hb1 hs1)
  go_loopw [7, 8] (fun rv iv wr => ∃ (i r : Nat) (R : List Nat), i ≤ xs.length ∧ r < d ∧ iv = .int .i64 ((i : Int) - 1) ∧ rv = .int .u64 r ∧ R.length = xs.length ∧ Row wr w.heap.size R ∧ Below w.heap.size w wr ∧
      val (R.drop i) * d + r = val (xs.drop i))
    (fun _ iv _ => (intOf iv + 1).toNat)
  case atStart => exact ⟨xs.length, 0, List.replicate xs.length 0, Nat.le_refl _, hd, rfl, rfl, by simp, hr1, hb1, by rw [List.drop_of_length_le (by simp), List.drop_of_length_le (Nat.le_refl _)]; simp [val]⟩
  case round =>
    obtain ⟨i, r, R, hi, hr, rfl, rfl, hlR, hrow, hbel, hval⟩ := hrel
    have HlR := Lib.hid hlR
    have Hval := Lib.hid hval
    have Hrow := Lib.hid hrow
    clear hlR hval hrow
    by_cases h0 : 0 < i
    · obtain ⟨j, rfl⟩ : ∃ j, i = j + 1 := ⟨i - 1, by omega⟩
      rw [show (((j + 1 : Nat) : Int) - 1) = (j : Int) from by omega]
      obtain ⟨b, o, rfl, hbs, hcell, hfr⟩ := hx.open (i := j) (by omega)
      have hx1 := hx.lt j
      obtain ⟨x, ex⟩ : ∃ x, xs.getD j 0 = x := ⟨_, rfl⟩
      rw [ex] at hcell hx1
      have hcell' := (hbel.cell (p := ⟨b, o + j, none⟩) hbs).trans hcell
      have Hx := Lib.hid ex
      have oc := Hrow.out.cell (i := j) (by have := HlR.out; omega)
      have of := Hrow.out.free j
      obtain ⟨v0, ev0⟩ : ∃ x, R.getD j 0 = x := ⟨_, rfl⟩
      rw [ev0] at oc
      have k1 : (j : Int) < (xs.length : Int) := by omega
      clear ex hcell hfr ev0
      obtain ⟨t, et⟩ : ∃ t, r * 4294967296 + x = t := ⟨_, rfl⟩
      have ht : t < d * 4294967296 := by
        have : (r + 1) * 4294967296 ≤ d * 4294967296 := Nat.mul_le_mul_right _ hr
        omega
      have ht2 : t < 18446744073709551616 := by omega
      have hq : t / d < 4294967296 := Nat.div_lt_of_lt_mul ht
      have hm : t % d < d := Nat.mod_lt _ hd
      have hdm := Nat.div_add_mod t d
      have Het := Lib.hid et
      have Hdm := Lib.hid hdm
      have d1 : (1 : Int) ≤ (d : Int) := by omega
      have d0 : ((d : Int) == 0) = false := by simp; omega
      have eti : (r : Int) * 4294967296 + (x : Int) = (t : Int) := by omega
      clear et ht hdm
      go_wp2
      all_goals
        go_roundw
        case rel =>
          refine ⟨j, t % d, R.set j (t / d), by omega, hm, rfl, ?_, by simp [HlR.out], Hrow.out.put _ _ hq _ (wrap_quo t d hq), hbel.setCell (Nat.le_refl _) _, ?_⟩
          · exact congrArg (Value.int .u64) (Int.natCast_emod t d).symm
          · rw [val_drop_set _ _ _ (by rw [HlR.out]; omega), val_drop_cons xs j (by omega), Hx.out]
            exact word_step _ _ _ _ _ _ _ _ Hval.out Hdm.out Het.out.symm
        case measure => simp [intOf]
    · obtain rfl : i = 0 := by omega
      have hv : val R * d + r = val xs := Hval.out
      have hq : val xs / d = val R := by rw [← hv, Nat.mul_comm, Nat.mul_add_div hd, Nat.div_eq_of_lt hr, Nat.add_zero]
      have hm : val xs % d = r := by rw [← hv, Nat.mul_comm, Nat.mul_add_mod, Nat.mod_eq_of_lt hr]
      have hsl := Hrow.out.whole (by rw [HlR.out]; unfold maxLen; omega)
      rw [HlR.out] at hsl
      have Hq := Lib.hid hq
      have Hm := Lib.hid hm
      clear hq hm hv
      go_wp2_with fail
      refine (rtrim_calls _ _ _ R _ hsl HlR.out.symm (by rw [HlR.out]; omega)).mono ?_
      rintro e w' ⟨v, rfl, hnum, hf, hb⟩
      go_wp2
      go_ret2
      exact ⟨v, by rw [Hm.out]; rfl, by rw [Hq.out]; exact hnum, hf.mono hbel.size, below_trans hbel hb⟩

/-- Over divides by one limb. -/
theorem rover_calls (v : Value) (m d : Nat) (z : Int) (w : World) (hv : Num w v m) (hz : z = (d : Int)) (hd : 0 < d) (hd2 : d < 4294967296) (hreach : (limbs m).length ≤ 400000000) :
    Calls Tryz.prog 59 #[v, .int .u32 z] w (RetDiv w m d) := by
  obtain ⟨ad, c, rfl, hs⟩ := hv
  subst hz
  have := rover_raw ad c d _ w hs hd hd2 hreach
  rwa [val_limbs] at this


end Go.Proofs
