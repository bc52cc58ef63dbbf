/- Contracts of math/bits over this seat's program. nat.trim, nat.own, nat.compare, nat.length: contracts. math/bits.Len32, LeadingZeros32; nat.length (the walk of Len32 is turned from the kit's worked text on bits.Len32). nat.compare: the order. nat.own: a copy. nat.byWord: the quotient and the remainder by one limb. nat.plus: the sum. nat.minus: the difference. nat.school: the product, limb by limb. nat.split: a number is parted behind some limbs. nat.addAt: a number is added into a row that has room for it. -/
import Derived.Test.YtghbjhcbldnenaaGreatDoorProg
import Derived.Test.YtghbjhcbldnenaaGreatDoorPk01
import Derived.Lib.BitFns
import Derived.Lib.Strings
import Derived.Lib.Slices
import Derived.Lib.Small
import Derived.Lib.Walk
import Derived.RegionTactic
import Derived.Deep.RegionWith

section
open Go.RowKit
namespace Go.Proofs
set_option linter.unusedVariables false
set_option linter.unusedSimpArgs false

theorem info32 : (Tryz.prog.info? 87).map (fun i => (i.zero, i.size, i.bytes)) = some (some (.int .u32 0), 1, 4) := by kernel_rfl

theorem bits_u32 (a b : Nat) (ha : a < 4294967296) (hb : b < 4294967296) :
    bits .and .u32 a b = ((a &&& b : Nat) : Int) ∧ bits .or .u32 a b = ((a ||| b : Nat) : Int) ∧ bits .xor .u32 a b = ((a ^^^ b : Nat) : Int) := by
  have hk : ∀ n : Int, 0 ≤ n → n < 2 ^ 32 → IntKind.u32.wrap n = n := fun n h0 h1 => by rw [IntKind.wrap_u32]; omega
  have h := bits_nat .u32 32 (by simp [IntKind.bits]) hk a b ha hb
  refine ⟨h.1, h.2, ?_⟩
  have hp : (2 : Nat) ^ IntKind.u32.bits = 4294967296 := by simp [IntKind.bits]
  simp only [bits, BitVec.ofInt_natCast, BitVec.toNat_xor, BitVec.toNat_ofNat, hp, Nat.mod_eq_of_lt ha, Nat.mod_eq_of_lt hb]
  have := Nat.xor_lt_two_pow (n := 32) ha hb
  exact hk _ (Int.natCast_nonneg _) (by exact_mod_cast this)

theorem top_bit (n : Nat) (h : n < 4294967296) : n / 2147483648 = (n.testBit 31).toNat := by
  rw [Nat.testBit_eq_decide_div_mod_eq]
  have e : (2 : Nat) ^ 31 = 2147483648 := by decide
  rw [e]
  by_cases h1 : 2147483648 ≤ n
  · have : n / 2147483648 = 1 := by omega
    simp [this]
  · have : n / 2147483648 = 0 := by omega
    simp [this]

theorem top_bit' (n : Nat) (h : n < 4294967296) : n.testBit 31 = decide (2147483648 ≤ n) := by
  rw [Nat.testBit_eq_decide_div_mod_eq]
  have e : (2 : Nat) ^ 31 = 2147483648 := by decide
  rw [e, decide_eq_decide]
  omega

theorem borrow_nat (x y d : Nat) (hx : x < 4294967296) (hy : y < 4294967296) (hd : d < 4294967296) :
    ((((4294967295 ^^^ x) &&& y) ||| ((4294967295 ^^^ (x ^^^ y)) &&& d)) / 2147483648 : Nat) =
      ((!decide (2147483648 ≤ x) && decide (2147483648 ≤ y)) || (!(decide (2147483648 ≤ x) ^^ decide (2147483648 ≤ y)) && decide (2147483648 ≤ d))).toNat := by
  have h1 : (4294967295 ^^^ x) &&& y < 4294967296 := Nat.and_lt_two_pow (n := 32) _ hy
  have h2 : (4294967295 ^^^ (x ^^^ y)) &&& d < 4294967296 := Nat.and_lt_two_pow (n := 32) _ hd
  have h3 : ((4294967295 ^^^ x) &&& y) ||| ((4294967295 ^^^ (x ^^^ y)) &&& d) < 4294967296 := Nat.or_lt_two_pow (n := 32) h1 h2
  have hm : Nat.testBit 4294967295 31 = true := by decide
  rw [top_bit _ h3]
  simp only [Nat.testBit_or, Nat.testBit_and, Nat.testBit_xor, hm, top_bit' _ hx, top_bit' _ hy, top_bit' _ hd, Bool.true_xor]

theorem borrow_int (x y c : Nat) (hx : x < 4294967296) (hy : y < 4294967296) (hc : c ≤ 1) :
    bits BinOp.or IntKind.u32 (bits BinOp.and IntKind.u32 (bits BinOp.xor IntKind.u32 IntKind.u32.max x) y)
      (bits BinOp.and IntKind.u32 (bits BinOp.xor IntKind.u32 IntKind.u32.max (bits BinOp.xor IntKind.u32 x y)) (((x : Int) - y - c) % 4294967296)) / 2147483648
      = ((if x < y + c then 1 else 0 : Nat) : Int) := by
  have hmax : IntKind.u32.max = ((4294967295 : Nat) : Int) := by simp [IntKind.max, IntKind.bits, IntKind.signed]
  obtain ⟨d, hd⟩ : ∃ d : Nat, ((x : Int) - y - c) % 4294967296 = (d : Int) := ⟨(((x : Int) - y - c) % 4294967296).toNat, by omega⟩
  have hd' : d < 4294967296 := by omega
  have a1 := Nat.xor_lt_two_pow (x := 4294967295) (y := x) (n := 32) (by omega) hx
  have a2 := Nat.xor_lt_two_pow (n := 32) hx hy
  have a3 := Nat.xor_lt_two_pow (x := 4294967295) (n := 32) (by omega) a2
  have a4 : (4294967295 ^^^ x) &&& y < 4294967296 := Nat.and_lt_two_pow (n := 32) _ hy
  have a5 : (4294967295 ^^^ (x ^^^ y)) &&& d < 4294967296 := Nat.and_lt_two_pow (n := 32) _ hd'
  rw [hd, hmax, (bits_u32 4294967295 x (by omega) hx).2.2, (bits_u32 x y hx hy).2.2, (bits_u32 4294967295 _ (by omega) a2).2.2,
    (bits_u32 _ y a1 hy).1, (bits_u32 _ d a3 hd').1, (bits_u32 _ _ a4 a5).2.1]
  have := borrow_nat x y d hx hy hd'
  have e : (((((4294967295 ^^^ x) &&& y) ||| ((4294967295 ^^^ (x ^^^ y)) &&& d)) : Nat) : Int) / 2147483648 = (((((4294967295 ^^^ x) &&& y) ||| ((4294967295 ^^^ (x ^^^ y)) &&& d)) / 2147483648 : Nat) : Int) := by omega
  rw [e, this]
  congr 1
  by_cases p : 2147483648 ≤ x <;> by_cases q : 2147483648 ≤ y <;> by_cases r : 2147483648 ≤ d <;> simp [p, q, r] <;> (first | (rw [if_pos (by omega)]) | (rw [if_neg (by omega)]) | omega)

theorem add32_calls (x y c : Int) (w : World) (hx : 0 ≤ x) (hx' : x < 4294967296) (hy : 0 ≤ y) (hy' : y < 4294967296) (hc : 0 ≤ c) (hc' : c ≤ 1) :
    Calls Tryz.prog 120 #[.int .u32 x, .int .u32 y, .int .u32 c] w fun e w' =>
      e = .returned (.tuple #[.int .u32 ((x + y + c) % 4294967296), .int .u32 ((x + y + c) / 4294967296)]) ∧ w = w' := by
  go_enter Tryz.func120, Tryz.ntmps120
  go_wp2
  go_ret2
  exact ⟨rfl, rfl⟩

theorem add32_still (x y c : Int) (w : World) (hx : 0 ≤ x) (hx' : x < 4294967296) (hy : 0 ≤ y) (hy' : y < 4294967296) (hc : 0 ≤ c) (hc' : c ≤ 1) :
    Calls Tryz.prog 120 #[.int .u32 x, .int .u32 y, .int .u32 c] w fun e w' =>
      e = .returned (.tuple #[.int .u32 ((x + y + c) % 4294967296), .int .u32 ((x + y + c) / 4294967296)]) ∧ w' = w :=
  (add32_calls x y c w hx hx' hy hy' hc hc').mono fun e w' h => ⟨h.1, h.2.symm⟩

/-- what Sub32 returns -/
def Diff (x y c : Nat) (w : World) (e : Ending) (w' : World) : Prop :=
  ∃ d b : Nat, e = .returned (.tuple #[.int .u32 d, .int .u32 b]) ∧ d < 4294967296 ∧ b ≤ 1 ∧ d + y + c = x + 4294967296 * b ∧ w = w'

theorem sub32_calls (x y c : Nat) (w : World) (hx : x < 4294967296) (hy : y < 4294967296) (hc : c ≤ 1) :
    Calls Tryz.prog 121 #[.int .u32 x, .int .u32 y, .int .u32 c] w (Diff x y c w) := by
  have hb := borrow_int x y c hx hy hc
  go_enter Tryz.func121, Tryz.ntmps121
  have Hb := Lib.hid hb
  clear hb
  go_wp2
  go_ret2
  refine ⟨(((x : Int) - y - c) % 4294967296).toNat, if x < y + c then 1 else 0, ?_, by omega, by split <;> omega, ?_, rfl⟩
  · have e1 : ((((x : Int) - y - c) % 4294967296).toNat : Int) = ((x : Int) - y - c) % 4294967296 := by omega
    rw [e1, ← Hb.out]
    rfl
  · split <;> omega

/-- Sub32 at integers -/
theorem sub32_int (x y c : Int) (w : World) (hx : 0 ≤ x) (hx' : x < 4294967296) (hy : 0 ≤ y) (hy' : y < 4294967296) (hc : 0 ≤ c) (hc' : c ≤ 1) :
    Calls Tryz.prog 121 #[.int .u32 x, .int .u32 y, .int .u32 c] w fun e w' =>
      ∃ d b : Nat, e = .returned (.tuple #[.int .u32 d, .int .u32 b]) ∧ d < 4294967296 ∧ b ≤ 1 ∧ (d : Int) + y + c = x + 4294967296 * (b : Int) ∧ w = w' := by
  obtain ⟨x, rfl⟩ := Int.eq_ofNat_of_zero_le hx
  obtain ⟨y, rfl⟩ := Int.eq_ofNat_of_zero_le hy
  obtain ⟨c, rfl⟩ := Int.eq_ofNat_of_zero_le hc
  exact (sub32_calls x y c w (by omega) (by omega) (by omega)).mono fun e w' ⟨d, b, he, h1, h2, h3, h4⟩ => ⟨d, b, he, h1, h2, by omega, h4⟩

end Go.Proofs

open Go.RowKit
namespace Go.Proofs
set_option linter.unusedVariables false
set_option linter.unusedSimpArgs false

theorem trim_raw (ad : Option Addr) (c : Nat) (xs : List Nat) (w : World) (hx : Sl w ad c xs) :
    Calls Tryz.prog 96 #[.slice ad xs.length c] w fun e w' => e = .returned (.slice ad (limbs (val xs)).length c) ∧ w = w' := by
  have hc := hx.1
  have hcm := hx.2.1
  unfold maxLen at hcm
  go_enter Tryz.func96, Tryz.ntmps96
  go_wp2
  go_loop [0] (fun v => ∃ m : Nat, m ≤ xs.length ∧ v = .slice ad m c ∧ val (xs.take m) = val xs) (fun v => lenOf v)
  case atStart => exact ⟨xs.length, Nat.le_refl _, rfl, by simp⟩
  case round =>
    obtain ⟨m, hm, rfl, hv⟩ := hrel
    have Hv := Lib.hid hv
    clear hv
    by_cases h0 : 0 < m
    · obtain ⟨b, o, rfl, hbs, hcell, hfr⟩ := hx.open (i := m - 1) (by omega)
      obtain ⟨x, ex⟩ : ∃ x, xs.getD (m - 1) 0 = x := ⟨_, rfl⟩
      rw [ex] at hcell
      have Hx := Lib.hid ex
      clear ex hfr
      have ht : (0 : Int) < (m : Int) := by omega
      by_cases hx0 : x = 0
      · subst hx0
        go_wp2
        go_round
        case rel => exact ⟨m - 1, by omega, rfl, (val_take_pred xs m h0 hm Hx.out).trans Hv.out⟩
        case measure => simp [lenOf]; omega
      · go_wp2
        go_ret
        refine ⟨?_, rfl⟩
        rw [limbs_of_take xs m hm hx.2.2.1 Hv.out (.inr (by rw [Hx.out]; exact hx0)), List.length_take, Nat.min_eq_left hm]
        rfl
    · obtain rfl : m = 0 := by omega
      go_wp2
      go_ret
      refine ⟨?_, rfl⟩
      rw [limbs_of_take xs 0 hm hx.2.2.1 Hv.out (.inl rfl)]
      rfl

/-- trim's result, as a number. -/
theorem trim_calls (ad : Option Addr) (c n : Nat) (xs : List Nat) (w : World) (hx : Sl w ad c xs) (hn : n = xs.length) :
    Calls Tryz.prog 96 #[.slice ad n c] w fun e w' => ∃ k, e = .returned (.slice ad k c) ∧ Num w (.slice ad k c) (val xs) ∧ w = w' := by
  subst hn
  exact (trim_raw ad c xs w hx).mono fun e w' ⟨he, hw⟩ => ⟨_, he, ⟨ad, c, rfl, hx.trimmed⟩, hw⟩

end Go.Proofs

open Go.RowKit
namespace Go.Proofs
set_option linter.unusedVariables false
set_option linter.unusedSimpArgs false

theorem len8_get (b : Int) (h0 : 0 ≤ b) (h1 : b ≤ 255) (h : b.toNat < Lib.len8tab.size) : (((Lib.len8tab[b.toNat]'h).toNat : Nat) : Int) = Lib.bitLen b.toNat := by
  rw [← Lib.len8_of b h0 h1]
  unfold Lib.len8
  simp [h]

theorem wrap_two (a b : Int) (h0 : 0 ≤ a) (h1 : a ≤ 255) (h2 : 0 ≤ b) (h3 : b ≤ 255) : wrap64 (a + wrap64 b) = a + b := by
  rw [IntWalk.wrap64_in b ⟨by omega, by omega⟩, IntWalk.wrap64_in _ ⟨by omega, by omega⟩]

set_option maxHeartbeats 4000000 in
set_option maxRecDepth 100000 in
theorem len32_calls (x : Int) (w : World) (h0 : 0 ≤ x) (h1 : x ≤ 4294967295) :
    Calls Tryz.prog 76 #[.int .u32 x] w fun e w' => e = .returned (.int .i64 (Lib.bitLen x.toNat)) ∧ w = w' := by
  have hsz := Lib.len8tab_size
  go_enter Tryz.func76, Tryz.ntmps76
  go_wp2
  all_goals (go_ret; refine ⟨congrArg Ending.returned (congrArg (Value.int IntKind.i64) ?_), rfl⟩)
  · have l := Lib.bitLen_le8' (x / 65536 / 256) (by omega) (by omega)
    have s := Lib.bitLen_shift24 x.toNat (by omega) (by omega)
    have e : (x / 65536 / 256).toNat = x.toNat / 16777216 := by omega
    rw [len8_get _ (by omega) (by omega), wrap_two _ _ (by omega) (by omega) (by omega) (by omega)]
    rw [e] at l ⊢
    omega
  · have l := Lib.bitLen_le8' (x / 65536) (by omega) (by omega)
    have s := Lib.bitLen_shift16 x.toNat (by omega) (by omega)
    have e : (x / 65536).toNat = x.toNat / 65536 := by omega
    rw [len8_get _ (by omega) (by omega), wrap_two _ _ (by omega) (by omega) (by omega) (by omega)]
    rw [e] at l ⊢
    omega
  · have l := Lib.bitLen_le8' (x / 256) (by omega) (by omega)
    have s := Lib.bitLen_shift8 x.toNat (by omega) (by omega)
    have e : (x / 256).toNat = x.toNat / 256 := by omega
    rw [len8_get _ (by omega) (by omega), wrap_two _ _ (by omega) (by omega) (by omega) (by omega)]
    rw [e] at l ⊢
    omega
  · have l := Lib.bitLen_le8' x (by omega) (by omega)
    have := wrap_two 0 (Lib.bitLen x.toNat) (by omega) (by omega) (by omega) (by omega)
    rw [len8_get _ (by omega) (by omega)]
    simpa using this

/-- the number of binary digits -/
def bitlen (n : Nat) : Nat := if n = 0 then 0 else n.log2 + 1

theorem bitlen_spec {n : Nat} (h : n ≠ 0) : 2 ^ (bitlen n - 1) ≤ n ∧ n < 2 ^ bitlen n := by
  unfold bitlen
  rw [if_neg h]
  exact ⟨Nat.log2_self_le h, Nat.lt_log2_self⟩

theorem bitlen_unique {n k : Nat} (h1 : 2 ^ k ≤ n) (h2 : n < 2 ^ (k + 1)) : bitlen n = k + 1 := by
  have h0 : n ≠ 0 := by have := Nat.two_pow_pos k; omega
  unfold bitlen
  rw [if_neg h0, (Nat.log2_eq_iff h0).2 ⟨h1, h2⟩]

theorem bitlen_zero : bitlen 0 = 0 := rfl

theorem bitlen_of_lt {n k : Nat} (h : n < 2 ^ k) : bitlen n ≤ k := by
  by_cases h0 : n = 0
  · subst h0; exact Nat.zero_le _
  · have h1 := (bitlen_spec h0).1
    have : 2 ^ (bitlen n - 1) < 2 ^ k := Nat.lt_of_le_of_lt h1 h
    have := (Nat.pow_lt_pow_iff_right (by omega : 1 < 2)).1 this
    omega

theorem lib_bitlen (x : Nat) (h : x < 2 ^ 64) : Lib.bitLen x = bitlen x := by
  have key : ∀ k x : Nat, x < 2 ^ k → k ≤ 64 → Lib.bitLen x = bitlen x := by
    intro k
    induction k with
    | zero => intro x hx _; obtain rfl : x = 0 := by simpa using hx
              rfl
    | succ k ih =>
      intro x hx hk
      by_cases h0 : x = 0
      · subst h0; rfl
      · have hp : (2 : Nat) ^ (k + 1) ≤ 2 ^ 64 := Nat.pow_le_pow_right (by omega) hk
        rw [Lib.bitLen_half x h0 (by omega), ih (x / 2) (by rw [Nat.pow_succ] at hx; omega) (by omega)]
        by_cases h1 : x = 1
        · subst h1; decide
        · have h2 := bitlen_spec (n := x / 2) (by omega)
          have h3 : bitlen (x / 2) ≠ 0 := by
            intro e; rw [e] at h2; omega
          obtain ⟨j, hj⟩ : ∃ j, bitlen (x / 2) = j + 1 := ⟨bitlen (x / 2) - 1, by omega⟩
          rw [hj] at h2 ⊢
          rw [bitlen_unique (n := x) (k := j + 1)]
          · omega
          · rw [Nat.pow_succ]; have := h2.1; simp at this; omega
          · rw [Nat.pow_succ]; omega
  exact key 64 x h (Nat.le_refl _)


theorem lz32_calls (x : Int) (w : World) (h0 : 0 ≤ x) (h1 : x ≤ 4294967295) :
    Calls Tryz.prog 116 #[.int .u32 x] w fun e w' => e = .returned (.int .i64 (32 - (bitlen x.toNat : Int))) ∧ w = w' := by
  have hb : bitlen x.toNat ≤ 32 := bitlen_of_lt (by omega)
  have hl := lib_bitlen x.toNat (by omega)
  go_enter Tryz.func116, Tryz.ntmps116
  have HL := Lib.hid hl
  clear hl
  go_wp2_with (go_at_call 76; refine (len32_calls x _ h0 h1).mono ?_; rw [HL.out]; rintro e w' ⟨rfl, rfl⟩)
  go_ret
  exact ⟨rfl, rfl⟩

theorem bitlen_limbs {n : Nat} (h : n ≠ 0) : bitlen n = 32 * ((limbs n).length - 1) + bitlen ((limbs n).getD ((limbs n).length - 1) 0) := by
  obtain ⟨lo, e, hlo, ht⟩ := limbs_top h
  generalize (limbs n).getD ((limbs n).length - 1) 0 = t at *
  generalize (limbs n).length - 1 = k at *
  have hs := bitlen_spec ht
  have hb : bitlen t ≠ 0 := by intro e; rw [e] at hs; simp at hs; omega
  obtain ⟨j, hj⟩ : ∃ j, bitlen t = j + 1 := ⟨bitlen t - 1, by omega⟩
  rw [hj] at hs ⊢
  simp only [Nat.add_sub_cancel] at hs
  have hp : (4294967296 : Nat) ^ k = 2 ^ (32 * k) := by rw [Nat.pow_mul]
  rw [hp] at e hlo
  have hpos := Nat.two_pow_pos (32 * k)
  refine bitlen_unique (k := 32 * k + j) ?_ ?_
  · rw [Nat.pow_add, e]
    have := Nat.mul_le_mul_left (2 ^ (32 * k)) hs.1
    omega
  · rw [show 32 * k + j + 1 = 32 * k + (j + 1) by omega, Nat.pow_add, e]
    have : 2 ^ (32 * k) * (t + 1) ≤ 2 ^ (32 * k) * 2 ^ (j + 1) := Nat.mul_le_mul_left _ hs.2
    rw [Nat.mul_add, Nat.mul_one] at this
    omega

/-- nat.length returns the number of binary digits. -/
theorem length_calls (v : Value) (n : Nat) (w : World) (hv : Num w v n) (hb : (limbs n).length ≤ 4000000000) :
    Calls Tryz.prog 105 #[v] w fun e w' => e = .returned (.int .i64 (bitlen n)) ∧ w = w' := by
  obtain ⟨ad, c, rfl, hs⟩ := hv
  by_cases h0 : n = 0
  · subst h0
    rw [limbs_zero]
    go_enter Tryz.func105, Tryz.ntmps105
    go_wp2
    go_ret
    exact ⟨rfl, rfl⟩
  · have hne : limbs n ≠ [] := fun e => h0 (limbs_eq_nil.1 e)
    have hlen : 0 < (limbs n).length := List.length_pos_iff.2 hne
    have e := bitlen_limbs h0
    obtain ⟨b, o, rfl, hbs, hcell, hfr⟩ := hs.open (i := (limbs n).length - 1) (by omega)
    have hx1 := hs.lt ((limbs n).length - 1)
    generalize (limbs n).getD ((limbs n).length - 1) 0 = t at *
    have hbt : bitlen t ≤ 32 := bitlen_of_lt (by omega)
    have hl := lib_bitlen t (by omega)
    have t1 : (((limbs n).length : Int) == 0) = false := by simp; omega
    have He := Lib.hid e
    have HL := Lib.hid hl
    clear e hl hfr hs hne h0
    generalize limbs n = xs at *
    go_enter Tryz.func105, Tryz.ntmps105
    go_wp2_with (go_at_call 76; refine (len32_calls t _ (by omega) (by omega)).mono ?_; rw [Int.toNat_natCast, HL.out]; rintro e w' ⟨rfl, rfl⟩)
    go_ret
    refine ⟨?_, rfl⟩
    rw [He.out]
    exact congrArg (fun z : Int => Ending.returned (.int .i64 z)) (by omega)

end Go.Proofs

open Go.RowKit
namespace Go.Proofs
set_option linter.unusedVariables false
set_option linter.unusedSimpArgs false

/-- -1, 0 or 1 -/
def cmpInt (m n : Nat) : Int := if m < n then -1 else if n < m then 1 else 0
theorem cmpInt_lt {m n : Nat} (h : m < n) : cmpInt m n = -1 := by unfold cmpInt; rw [if_pos h]
theorem cmpInt_gt {m n : Nat} (h : n < m) : cmpInt m n = 1 := by unfold cmpInt; rw [if_neg (by omega), if_pos h]
theorem cmpInt_eq (n : Nat) : cmpInt n n = 0 := by unfold cmpInt; rw [if_neg (by omega), if_neg (by omega)]

theorem below_drewN' (w : World) (k : Nat) : Below w.heap.size w (w.drewN k) := below_drewN (Below.refl _ _) k

/-- The call returns a number and changes nothing that was there. -/
def RetInt (w : World) (r : Int) (e : Ending) (w' : World) : Prop := e = .returned (.int .i64 r) ∧ Below w.heap.size w w'

theorem drop_succ_eq {xs ys : List Nat} {i : Nat} (h : xs.drop (i + 1) = ys.drop (i + 1)) (hi : i < xs.length) (hl : xs.length = ys.length) (he : xs.getD i 0 = ys.getD i 0) : xs.drop i = ys.drop i := by
  rw [List.drop_eq_getElem_cons hi, List.drop_eq_getElem_cons (by omega : i < ys.length), h]
  congr 1
  simpa [List.getD, hi, show i < ys.length by omega] using he

set_option maxRecDepth 100000 in
theorem compare_raw (ad1 ad2 : Option Addr) (c1 c2 : Nat) (xs zs : List Nat) (w : World) (r : Int) (hx : Sl w ad1 c1 xs) (hz : Sl w ad2 c2 zs) (hlen : xs.length = zs.length)
    (hr : cmpInt (val xs) (val zs) = r) (hreach : xs.length ≤ 4000000000) :
    Calls Tryz.prog 80 #[.slice ad1 xs.length c1, .slice ad2 zs.length c2] w (RetInt w r) := by
  have HR := Lib.hid hr
  clear hr
  rw [← hlen]
  have HL := Lib.hid hlen
  clear hlen
  go_enter Tryz.func80, Tryz.ntmps80
  go_wp2
  go_loopw [5] (fun iv wr => ∃ i : Nat, i ≤ xs.length ∧ iv = .int .i64 ((i : Int) - 1) ∧ xs.drop i = zs.drop i ∧ Below w.heap.size w wr)
    (fun iv _ => (intOf iv + 1).toNat)
  case atStart => exact ⟨xs.length, Nat.le_refl _, rfl, by rw [List.drop_of_length_le (Nat.le_refl _), List.drop_of_length_le (by rw [HL.out]; exact Nat.le_refl _)], Below.refl _ _⟩
  case round =>
    obtain ⟨i, hi, rfl, hdrop, hbel⟩ := hrel
    have HD := Lib.hid hdrop
    clear hdrop
    by_cases h0 : 0 < i
    · obtain ⟨j, rfl⟩ : ∃ j, i = j + 1 := ⟨i - 1, by omega⟩
      have hL := HL.out
      obtain ⟨b, o, rfl, hbs, hcell, hfr⟩ := hx.open (i := j) (by omega)
      obtain ⟨b2, o2, rfl, hbs2, hcell2, hfr2⟩ := hz.open (i := j) (by omega)
      obtain ⟨x, ex⟩ : ∃ x, xs.getD j 0 = x := ⟨_, rfl⟩
      obtain ⟨y, ey⟩ : ∃ x, zs.getD j 0 = x := ⟨_, rfl⟩
      have hx1 := hx.lt j
      have hz1 := hz.lt j
      rw [ex] at hcell hx1
      rw [ey] at hcell2 hz1
      have hcell' := (hbel.cell (p := ⟨b, o + j, none⟩) hbs).trans hcell
      have hcell2' := (hbel.cell (p := ⟨b2, o2 + j, none⟩) hbs2).trans hcell2
      have Hx := Lib.hid ex
      have Hy := Lib.hid ey
      clear hcell hfr ex hcell2 hfr2 ey hL
      rw [show (((j + 1 : Nat) : Int) - 1) = (j : Int) from by omega]
      by_cases hxy : x = y
      · have t1 : ((x : Int) != (y : Int)) = false := by simp [hxy]
        have HE := Lib.hid hxy
        clear hxy
        go_wp2_with fail
        go_quiet (fail)
        go_wp2
        go_roundw
        case rel => exact ⟨j, by omega, rfl, drop_succ_eq HD.out (by omega) HL.out (by rw [Hx.out, Hy.out, HE.out]), below_drewN hbel _⟩
        case measure => simp [intOf]
      · have t1 : ((x : Int) != (y : Int)) = true := by rw [bne_iff_ne]; omega
        by_cases hl : x < y
        · have t2 : decide ((x : Int) < (y : Int)) = true := by simp; omega
          have hv := val_lt_of_limb hx.2.2.1 HL.out (by omega) HD.out (by rw [Hx.out, Hy.out]; exact hl)
          have hr := (cmpInt_lt hv).symm.trans HR.out
          have HRR := Lib.hid hr
          clear hr hv
          go_wp2_with fail
          go_quiet (fail)
          go_wp2_with fail
          go_quiet (fail)
          go_wp2
          go_ret
          exact ⟨by rw [← HRR.out]; rfl, below_drewN (below_drewN hbel _) _⟩
        · have t2 : decide ((x : Int) < (y : Int)) = false := by simp; omega
          have hv := val_lt_of_limb (xs := zs) (ys := xs) hz.2.2.1 HL.out.symm (by have := HL.out; omega) HD.out.symm (by rw [Hx.out, Hy.out]; omega)
          have hr := (cmpInt_gt hv).symm.trans HR.out
          have HRR := Lib.hid hr
          clear hr hv
          go_wp2_with fail
          go_quiet (fail)
          go_wp2_with fail
          go_quiet (fail)
          go_wp2
          go_ret
          exact ⟨by rw [← HRR.out]; rfl, below_drewN (below_drewN hbel _) _⟩
    · obtain rfl : i = 0 := by omega
      have e : xs = zs := by have := HD.out; simpa using this
      have hr : 0 = r := by have := HR.out; rwa [e, cmpInt_eq] at this
      have HRR := Lib.hid hr
      clear hr e
      go_wp2
      go_ret
      exact ⟨by rw [← HRR.out]; rfl, hbel⟩

/-- compare returns the order of two numbers. -/
theorem compare_calls (v1 v2 : Value) (m n : Nat) (w : World) (r : Int) (h1 : Num w v1 m) (h2 : Num w v2 n) (hr : cmpInt m n = r) (b1 : (limbs m).length ≤ 4000000000) (b2 : (limbs n).length ≤ 4000000000) :
    Calls Tryz.prog 80 #[v1, v2] w (RetInt w r) := by
  obtain ⟨ad1, c1, rfl, s1⟩ := h1
  obtain ⟨ad2, c2, rfl, s2⟩ := h2
  by_cases hl : (limbs m).length = (limbs n).length
  · have := compare_raw ad1 ad2 c1 c2 _ _ w r s1 s2 hl (by rw [val_limbs, val_limbs]; exact hr) b1
    exact this
  · have HR := Lib.hid hr
    clear hr
    by_cases hlt : (limbs m).length < (limbs n).length
    · have e := (cmpInt_lt (lt_of_length_lt hlt)).symm.trans HR.out
      have HRR := Lib.hid e
      have t1 : (((limbs m).length : Int) != ((limbs n).length : Int)) = true := by rw [bne_iff_ne]; omega
      clear hl e
      go_enter Tryz.func80, Tryz.ntmps80
      go_wp2
      go_ret
      exact ⟨by rw [← HRR.out]; rfl, Below.refl _ _⟩
    · have e := (cmpInt_gt (lt_of_length_lt (by omega : (limbs n).length < (limbs m).length))).symm.trans HR.out
      have HRR := Lib.hid e
      have t1 : (((limbs m).length : Int) != ((limbs n).length : Int)) = true := by rw [bne_iff_ne]; omega
      clear hl e
      go_enter Tryz.func80, Tryz.ntmps80
      go_wp2
      go_ret
      exact ⟨by rw [← HRR.out]; rfl, Below.refl _ _⟩

end Go.Proofs

open Go.RowKit
namespace Go.Proofs
set_option linter.unusedVariables false
set_option linter.unusedSimpArgs false

theorem own_raw (ad : Option Addr) (c n : Nat) (xs : List Nat) (w : World) (hx : Sl w ad c xs) (hn : n = xs.length) (hl : xs.length ≤ 4000000000) :
    Calls Tryz.prog 104 #[.slice ad n c] w fun e w' => ∃ ad' c', e = .returned (.slice ad' n c') ∧ Sl w' ad' c' xs ∧ (∀ a, ad' = some a → w.heap.size ≤ a.block) ∧ Below w.heap.size w w' := by
  have Hn := Lib.hid hn
  clear hn
  go_enter Tryz.func104, Tryz.ntmps104
  go_wp2_with (at_builtin; refine wpList_append_copy rfl _ 118 rfl 87 Tryz.underlying118 info32 ad n c xs rfl Hn.out hx (by omega) ?_; intro ad' c' w' hs' hf' hb')
  go_ret
  exact ⟨_, _, rfl, hs', hf', hb'⟩

theorem own_calls (v : Value) (n : Nat) (w : World) (hv : Num w v n) (hl : (limbs n).length ≤ 4000000000) :
    Calls Tryz.prog 104 #[v] w (RetNum w n) := by
  obtain ⟨ad, c, rfl, hs⟩ := hv
  exact (own_raw ad c _ _ w hs rfl hl).mono fun e w' ⟨ad', c', he, hs', hf, hb⟩ => ⟨_, he, ⟨ad', c', rfl, hs'⟩, fresh_of hf, hb⟩

end Go.Proofs

open Go.RowKit
namespace Go.Proofs
set_option linter.unusedVariables false
set_option linter.unusedSimpArgs false

/-- A quotient, new, and a small remainder. -/
def RetDiv (w : World) (m d : Nat) (e : Ending) (w' : World) : Prop :=
  ∃ v, e = .returned (.tuple #[v, .int .u32 ((m % d : Nat) : Int)]) ∧ Num w' v (m / d) ∧ Fresh w.heap.size v ∧ Below w.heap.size w w'

theorem word_step (vq vx d r q x t r' : Nat) (h : vq * d + r = vx) (ht : d * q + r' = t) (e : t = r * 4294967296 + x) : (q + 4294967296 * vq) * d + r' = x + 4294967296 * vx := by
  grind

theorem wrap_quo (t d : Nat) (h : t / d < 4294967296) : IntKind.u64.wrap ((t : Int) / (d : Int)) % 4294967296 = ((t / d : Nat) : Int) := by
  rw [← Int.natCast_ediv, IntKind.wrap_u64]
  generalize t / d = q at *
  omega

set_option maxRecDepth 100000 in
theorem byWord_raw (ad : Option Addr) (c d : Nat) (xs : List Nat) (w : World) (hx : Sl w ad c xs) (hd : 0 < d) (hd2 : d < 4294967296) (hreach : xs.length ≤ 4000000000) :
    Calls Tryz.prog 115 #[.slice ad xs.length c, .int .u32 d] w (RetDiv w (val xs) d) := by
  go_enter Tryz.func115, Tryz.ntmps115
  go_wp2_with (at_make; refine wpList_make_nums _ rfl _ _ 118 rfl 87 Tryz.underlying118 info32 _ _ _ _ xs.length rfl rfl (by omega) (by omega) (by omega) ?_; intro w1 hr1 hb1 hs1)
  go_loopw [7, 8] (fun rv iv wr => ∃ (i r : Nat) (R : List Nat), i ≤ xs.length ∧ r < d ∧ iv = .int .i64 ((i : Int) - 1) ∧ rv = .int .u64 r ∧ R.length = xs.length ∧ Row wr w.heap.size R ∧ Below w.heap.size w wr ∧
      val (R.drop i) * d + r = val (xs.drop i))
    (fun _ iv _ => (intOf iv + 1).toNat)
  case atStart => exact ⟨xs.length, 0, List.replicate xs.length 0, Nat.le_refl _, hd, rfl, rfl, by simp, hr1, hb1, by rw [List.drop_of_length_le (by simp), List.drop_of_length_le (Nat.le_refl _)]; simp [val]⟩
  case round =>
    obtain ⟨i, r, R, hi, hr, rfl, rfl, hlR, hrow, hbel, hval⟩ := hrel
    have HlR := Lib.hid hlR
    have Hval := Lib.hid hval
    have Hrow := Lib.hid hrow
    clear hlR hval hrow
    by_cases h0 : 0 < i
    · obtain ⟨j, rfl⟩ : ∃ j, i = j + 1 := ⟨i - 1, by omega⟩
      rw [show (((j + 1 : Nat) : Int) - 1) = (j : Int) from by omega]
      obtain ⟨b, o, rfl, hbs, hcell, hfr⟩ := hx.open (i := j) (by omega)
      have hx1 := hx.lt j
      obtain ⟨x, ex⟩ : ∃ x, xs.getD j 0 = x := ⟨_, rfl⟩
      rw [ex] at hcell hx1
      have hcell' := (hbel.cell (p := ⟨b, o + j, none⟩) hbs).trans hcell
      have Hx := Lib.hid ex
      have oc := Hrow.out.cell (i := j) (by have := HlR.out; omega)
      have of := Hrow.out.free j
      obtain ⟨v0, ev0⟩ : ∃ x, R.getD j 0 = x := ⟨_, rfl⟩
      rw [ev0] at oc
      have k1 : (j : Int) < (xs.length : Int) := by omega
      clear ex hcell hfr ev0
      go_wp2_with fail
      rw [or_limbs r x (by omega) hx1]
      obtain ⟨t, et⟩ : ∃ t, r * 4294967296 + x = t := ⟨_, rfl⟩
      rw [et]
      have ht : t < d * 4294967296 := by
        have : (r + 1) * 4294967296 ≤ d * 4294967296 := Nat.mul_le_mul_right _ hr
        omega
      have hq : t / d < 4294967296 := Nat.div_lt_of_lt_mul ht
      have hm : t % d < d := Nat.mod_lt _ hd
      have hdm := Nat.div_add_mod t d
      have Het := Lib.hid et
      have Hdm := Lib.hid hdm
      have d1 : (1 : Int) ≤ (d : Int) := by omega
      have d0 : ((d : Int) == 0) = false := by simp; omega
      clear et ht hdm
      go_region
      all_goals go_wp2
      all_goals
        go_roundw
        case rel =>
          refine ⟨j, t % d, R.set j (t / d), by omega, hm, rfl, ?_, by simp [HlR.out], Row.drew (Hrow.out.put _ _ hq _ (wrap_quo t d hq)), (hbel.setCell (Nat.le_refl _) _).drew, ?_⟩
          · exact congrArg (Value.int .u64) (Int.natCast_emod t d).symm
          · rw [val_drop_set _ _ _ (by rw [HlR.out]; omega), val_drop_cons xs j (by omega), Hx.out]
            exact word_step _ _ _ _ _ _ _ _ Hval.out Hdm.out Het.out.symm
        case measure => simp [intOf]
    · obtain rfl : i = 0 := by omega
      have hv : val R * d + r = val xs := Hval.out
      have hq : val xs / d = val R := by rw [← hv, Nat.mul_comm, Nat.mul_add_div hd, Nat.div_eq_of_lt hr, Nat.add_zero]
      have hm : val xs % d = r := by rw [← hv, Nat.mul_comm, Nat.mul_add_mod, Nat.mod_eq_of_lt hr]
      have hsl := Hrow.out.whole (by rw [HlR.out]; unfold maxLen; omega)
      rw [HlR.out] at hsl
      have Hq := Lib.hid hq
      have Hm := Lib.hid hm
      clear hq hm hv
      go_wp2_with (go_at_call 96; refine (trim_calls _ _ _ R _ hsl HlR.out.symm).mono ?_; rintro e w' ⟨kk, rfl, hnum, rfl⟩)
      go_ret2
      exact ⟨.slice (some ⟨w.heap.size, 0, none⟩) kk xs.length, by rw [Hm.out]; rfl, by rw [Hq.out]; exact hnum, Nat.le_refl _, hbel⟩

/-- byWord divides by one limb. -/
theorem byWord_calls (v : Value) (m d : Nat) (z : Int) (w : World) (hv : Num w v m) (hz : z = (d : Int)) (hd : 0 < d) (hd2 : d < 4294967296) (hreach : (limbs m).length ≤ 4000000000) :
    Calls Tryz.prog 115 #[v, .int .u32 z] w (RetDiv w m d) := by
  obtain ⟨ad, c, rfl, hs⟩ := hv
  subst hz
  have := byWord_raw ad c d _ w hs hd hd2 hreach
  rwa [val_limbs] at this

end Go.Proofs
end

section
open Go.RowKit
namespace Go.Proofs
set_option linter.unusedVariables false
set_option linter.unusedSimpArgs false

/-- one digit of a sum -/
theorem plus_digit (p a b c x y vy : Nat) (h : vy + c * p = a + b) : (vy + p * ((x + y + c) % 4294967296)) + ((x + y + c) / 4294967296) * (p * 4294967296) = (a + p * x) + (b + p * y) := by
  have e := Nat.div_add_mod (x + y + c) 4294967296
  generalize (x + y + c) / 4294967296 = q at *
  generalize (x + y + c) % 4294967296 = r at *
  grind

set_option maxRecDepth 100000 in
theorem plus_raw (ad1 ad2 : Option Addr) (c1 c2 : Nat) (xs zs : List Nat) (w : World) (hx : Sl w ad1 c1 xs) (hz : Sl w ad2 c2 zs) (hlen : zs.length ≤ xs.length) (hreach : xs.length ≤ 4000000000) :
    Calls Tryz.prog 114 #[.slice ad1 xs.length c1, .slice ad2 zs.length c2] w (RetNum w (val xs + val zs)) ∧
    (zs.length < xs.length → Calls Tryz.prog 114 #[.slice ad2 zs.length c2, .slice ad1 xs.length c1] w (RetNum w (val xs + val zs))) := by
  refine ⟨?_, fun hlt2 => ?_⟩
  all_goals
    go_enter Tryz.func114, Tryz.ntmps114
    go_wp2_with (at_make; refine wpList_make_nums _ rfl _ _ 118 rfl 87 Tryz.underlying118 info32 _ _ _ _ (xs.length + 1) rfl rfl (by omega) (by omega) (by omega) ?_; intro w1 hr1 hb1 hs1)
    go_loopw [6, 22] (fun cv iv wr => ∃ (i c : Nat) (ys : List Nat), i ≤ xs.length ∧ c ≤ 1 ∧ ys.length = i ∧ iv = .int .i64 i ∧ cv = .int .u32 c ∧
        Row wr w.heap.size (ys ++ List.replicate (xs.length + 1 - i) 0) ∧ Below w.heap.size w wr ∧ val ys + c * 4294967296 ^ i = val (xs.take i) + val (zs.take i))
      (fun _ iv _ => xs.length - (intOf iv).toNat)
    case atStart => exact ⟨0, 0, [], Nat.zero_le _, by omega, rfl, rfl, rfl, by simpa using hr1, hb1, by simp [val]⟩
    case round =>
      obtain ⟨i, c, ys, hi, hc, hys, rfl, rfl, hrow, hbel, hval⟩ := hrel
      have hlen' : (ys ++ List.replicate (xs.length + 1 - i) 0).length = xs.length + 1 := by simp; omega
      have oc := hrow.cell (i := i) (by omega)
      have of := hrow.free i
      obtain ⟨v0, ev0⟩ : ∃ x, (ys ++ List.replicate (xs.length + 1 - i) 0).getD i 0 = x := ⟨_, rfl⟩
      rw [ev0] at oc
      have Hrow := Lib.hid hrow
      have Hval := Lib.hid hval
      have Hys := Lib.hid hys
      clear hrow hval ev0 hys hlen'
      by_cases hlt : i < xs.length
      · obtain ⟨b, o, rfl, hbs, hcell, hfr⟩ := hx.open hlt
        have hx1 := hx.lt i
        have hz1 := hz.lt i
        obtain ⟨x, ex⟩ : ∃ x, xs.getD i 0 = x := ⟨_, rfl⟩
        rw [ex] at hcell hx1
        have hcell' := (hbel.cell (p := ⟨b, o + i, none⟩) hbs).trans hcell
        have Hx := Lib.hid ex
        clear hcell hfr ex
        by_cases hlz : i < zs.length
        · obtain ⟨b2, o2, rfl, hbs2, hcell2, hfr2⟩ := hz.open hlz
          obtain ⟨y, ey⟩ : ∃ x, zs.getD i 0 = x := ⟨_, rfl⟩
          rw [ey] at hcell2 hz1
          have hcell2' := (hbel.cell (p := ⟨b2, o2 + i, none⟩) hbs2).trans hcell2
          have Hy := Lib.hid ey
          clear hcell2 hfr2 ey
          go_wp2_with (go_at_call 120; refine (add32_calls _ _ _ _ (by omega) (by omega) (by omega) (by omega) (by omega) (by omega)).mono ?_; rintro e w' ⟨rfl, rfl⟩)
          go_roundw
          case rel =>
            refine ⟨i + 1, (x + y + c) / 4294967296, ys ++ [(x + y + c) % 4294967296], by omega, by omega, by simp [Hys.out], by go_num, by go_num, Hrow.out.push Hys.out (by omega) _ (by omega) _ (by omega), hbel.setCell (Nat.le_refl _) _, ?_⟩
            rw [val_snoc, Hys.out, val_take_succ _ _ hlt, val_take_succ _ _ hlz, Hx.out, Hy.out, Nat.pow_succ]
            exact plus_digit _ _ _ _ _ _ _ Hval.out
          case measure => simp [intOf]; omega
        · go_wp2_with (go_at_call 120; refine (add32_calls _ _ _ _ (by omega) (by omega) (by omega) (by omega) (by omega) (by omega)).mono ?_; rintro e w' ⟨rfl, rfl⟩)
          go_roundw
          case rel =>
            refine ⟨i + 1, (x + 0 + c) / 4294967296, ys ++ [(x + 0 + c) % 4294967296], by omega, by omega, by simp [Hys.out], by go_num, by go_num, Hrow.out.push Hys.out (by omega) _ (by omega) _ (by omega), hbel.setCell (Nat.le_refl _) _, ?_⟩
            rw [val_snoc, Hys.out, val_take_succ _ _ hlt, val_take_of_le _ _ (by omega), Hx.out, Nat.pow_succ]
            have := plus_digit _ _ _ _ x 0 _ Hval.out
            simpa using this
          case measure => simp [intOf]; omega
      · obtain rfl : i = xs.length := by omega
        have hpush := Hrow.out.push Hys.out (by omega) c (by omega) (c : Int) rfl
        have hsl := hpush.whole (by simp [Hys.out, maxLen]; omega)
        have hlen2 : (ys ++ [c] ++ List.replicate (xs.length + 1 - (xs.length + 1)) 0).length = xs.length + 1 := by simp [Hys.out]
        have hv2 : val (ys ++ [c] ++ List.replicate (xs.length + 1 - (xs.length + 1)) 0) = val xs + val zs := by
          have := Hval.out
          rw [List.take_of_length_le (Nat.le_refl _), List.take_of_length_le hlen] at this
          rw [Nat.sub_self, List.replicate_zero, List.append_nil, val_snoc, Hys.out, ← this, Nat.mul_comm c]
        have hb2 := hbel.setCell (p := ⟨w.heap.size, xs.length, none⟩) (Nat.le_refl _) (.int .u32 c)
        rw [hlen2] at hsl
        have Hl := Lib.hid hlen2
        have Hv := Lib.hid hv2
        clear hlen2 hv2
        go_wp2_with (go_at_call 96; refine (trim_calls _ _ _ _ _ hsl Hl.out.symm).mono ?_; rintro e w' ⟨k, rfl, hnum, rfl⟩)
        go_ret
        rw [Hv.out] at hnum
        exact ⟨_, rfl, hnum, Nat.le_refl _, hb2⟩

/-- plus returns the sum. -/
theorem plus_calls (v1 v2 : Value) (m n : Nat) (w : World) (h1 : Num w v1 m) (h2 : Num w v2 n) (b1 : (limbs m).length ≤ 4000000000) (b2 : (limbs n).length ≤ 4000000000) :
    Calls Tryz.prog 114 #[v1, v2] w (RetNum w (m + n)) := by
  obtain ⟨ad1, c1, rfl, s1⟩ := h1
  obtain ⟨ad2, c2, rfl, s2⟩ := h2
  by_cases hlen : (limbs n).length ≤ (limbs m).length
  · have := (plus_raw ad1 ad2 c1 c2 _ _ w s1 s2 hlen b1).1
    rwa [val_limbs, val_limbs] at this
  · have := (plus_raw ad2 ad1 c2 c1 _ _ w s2 s1 (by omega) b2).2 (by omega)
    rwa [val_limbs, val_limbs, Nat.add_comm] at this

end Go.Proofs

open Go.RowKit
namespace Go.Proofs
set_option linter.unusedVariables false
set_option linter.unusedSimpArgs false

theorem minus_digit (p a b c x y d q vy : Nat) (h : vy + b = a + c * p) (hd : d + y + c = x + 4294967296 * q) : (vy + p * d) + (b + p * y) = (a + p * x) + q * (p * 4294967296) := by
  grind

theorem minus_end (vy p a b c : Nat) (h : vy + b = a + c * p) (hv : vy < p) (hba : b ≤ a) : vy = a - b := by
  have : c = 0 := by
    rcases Nat.eq_zero_or_pos c with h0 | h0
    · exact h0
    · have : p ≤ c * p := Nat.le_mul_of_pos_left _ h0
      omega
  subst this
  omega

set_option maxRecDepth 100000 in
theorem minus_raw (ad1 ad2 : Option Addr) (c1 c2 : Nat) (xs zs : List Nat) (w : World) (hx : Sl w ad1 c1 xs) (hz : Sl w ad2 c2 zs) (hlen : zs.length ≤ xs.length) (hreach : xs.length ≤ 4000000000) (hval : val zs ≤ val xs) :
    Calls Tryz.prog 113 #[.slice ad1 xs.length c1, .slice ad2 zs.length c2] w (RetNum w (val xs - val zs)) := by
  have HV := Lib.hid hval
  clear hval
  go_enter Tryz.func113, Tryz.ntmps113
  go_wp2_with (at_make; refine wpList_make_nums _ rfl _ _ 118 rfl 87 Tryz.underlying118 info32 _ _ _ _ xs.length rfl rfl (by omega) (by omega) (by omega) ?_; intro w1 hr1 hb1 hs1)
  go_loopw [6, 14] (fun cv iv wr => ∃ (i c : Nat) (ys : List Nat), i ≤ xs.length ∧ c ≤ 1 ∧ ys.length = i ∧ iv = .int .i64 i ∧ cv = .int .u32 c ∧
      Row wr w.heap.size (ys ++ List.replicate (xs.length - i) 0) ∧ Below w.heap.size w wr ∧ val ys + val (zs.take i) = val (xs.take i) + c * 4294967296 ^ i)
    (fun _ iv _ => xs.length - (intOf iv).toNat)
  case atStart => exact ⟨0, 0, [], Nat.zero_le _, by omega, rfl, rfl, rfl, by simpa using hr1, hb1, by simp [val]⟩
  case round =>
    obtain ⟨i, c, ys, hi, hc, hys, rfl, rfl, hrow, hbel, hval⟩ := hrel
    have Hrow := Lib.hid hrow
    have Hval := Lib.hid hval
    have Hys := Lib.hid hys
    clear hrow hval hys
    by_cases hlt : i < xs.length
    · have hlen' : (ys ++ List.replicate (xs.length - i) 0).length = xs.length := by have := Hys.out; simp; omega
      have oc := Hrow.out.cell (i := i) (by omega)
      have of := Hrow.out.free i
      obtain ⟨v0, ev0⟩ : ∃ x, (ys ++ List.replicate (xs.length - i) 0).getD i 0 = x := ⟨_, rfl⟩
      rw [ev0] at oc
      clear ev0 hlen'
      obtain ⟨b, o, rfl, hbs, hcell, hfr⟩ := hx.open hlt
      have hx1 := hx.lt i
      have hz1 := hz.lt i
      obtain ⟨x, ex⟩ : ∃ x, xs.getD i 0 = x := ⟨_, rfl⟩
      rw [ex] at hcell hx1
      have hcell' := (hbel.cell (p := ⟨b, o + i, none⟩) hbs).trans hcell
      have Hx := Lib.hid ex
      clear hcell hfr ex
      by_cases hlz : i < zs.length
      · obtain ⟨b2, o2, rfl, hbs2, hcell2, hfr2⟩ := hz.open hlz
        obtain ⟨y, ey⟩ : ∃ x, zs.getD i 0 = x := ⟨_, rfl⟩
        rw [ey] at hcell2 hz1
        have hcell2' := (hbel.cell (p := ⟨b2, o2 + i, none⟩) hbs2).trans hcell2
        have Hy := Lib.hid ey
        clear hcell2 hfr2 ey
        go_wp2_with (go_at_call 121; refine (sub32_calls x y c _ hx1 hz1 hc).mono ?_; rintro e w' ⟨d, q, rfl, hd, hq, he, rfl⟩; have HE := Lib.hid he; clear he)
        go_roundw
        case rel =>
          refine ⟨i + 1, q, ys ++ [d], by omega, hq, by simp [Hys.out], by go_num, rfl, Hrow.out.push Hys.out hlt d hd _ rfl, hbel.setCell (Nat.le_refl _) _, ?_⟩
          rw [val_snoc, Hys.out, val_take_succ _ _ hlt, val_take_succ _ _ hlz, Hx.out, Hy.out, Nat.pow_succ]
          exact minus_digit _ _ _ _ _ _ _ _ _ Hval.out HE.out
        case measure => simp [intOf]; omega
      · go_wp2_with (go_at_call 121; refine (sub32_calls x 0 c _ hx1 (by omega) hc).mono ?_; rintro e w' ⟨d, q, rfl, hd, hq, he, rfl⟩; have HE := Lib.hid he; clear he)
        go_roundw
        case rel =>
          refine ⟨i + 1, q, ys ++ [d], by omega, hq, by simp [Hys.out], by go_num, rfl, Hrow.out.push Hys.out hlt d hd _ rfl, hbel.setCell (Nat.le_refl _) _, ?_⟩
          rw [val_snoc, Hys.out, val_take_succ _ _ hlt, val_take_of_le _ _ (by omega), Hx.out, Nat.pow_succ]
          have := minus_digit _ _ _ _ x 0 d q _ Hval.out HE.out
          simpa using this
        case measure => simp [intOf]; omega
    · obtain rfl : i = xs.length := by omega
      have hrow := Hrow.out
      rw [Nat.sub_self, List.replicate_zero, List.append_nil] at hrow
      have hsl := hrow.whole (by rw [Hys.out]; unfold maxLen; omega)
      have hv2 : val ys = val xs - val zs := by
        have := Hval.out
        rw [List.take_of_length_le (Nat.le_refl _), List.take_of_length_le hlen] at this
        have hlt := val_lt ys hrow.1
        rw [Hys.out] at hlt
        exact minus_end _ _ _ _ _ this hlt HV.out
      rw [Hys.out] at hsl
      have Hv := Lib.hid hv2
      clear hv2 hrow
      go_wp2_with (go_at_call 96; refine (trim_calls _ _ _ _ _ hsl Hys.out.symm).mono ?_; rintro e w' ⟨k, rfl, hnum, rfl⟩)
      go_ret
      rw [Hv.out] at hnum
      exact ⟨_, rfl, hnum, Nat.le_refl _, hbel⟩

/-- minus returns the difference. -/
theorem minus_calls (v1 v2 : Value) (m n : Nat) (w : World) (h1 : Num w v1 m) (h2 : Num w v2 n) (hnm : n ≤ m) (b1 : (limbs m).length ≤ 4000000000) :
    Calls Tryz.prog 113 #[v1, v2] w (RetNum w (m - n)) := by
  obtain ⟨ad1, c1, rfl, s1⟩ := h1
  obtain ⟨ad2, c2, rfl, s2⟩ := h2
  have := minus_raw ad1 ad2 c1 c2 _ _ w s1 s2 (limbs_length_mono hnm) b1 (by rw [val_limbs, val_limbs]; exact hnm)
  rwa [val_limbs, val_limbs] at this

end Go.Proofs

open Go.RowKit
namespace Go.Proofs
set_option linter.unusedVariables false
set_option linter.unusedSimpArgs false

theorem school_step (p pi x y o c vr vz q r : Nat) (v0 vs : Nat) (hs : vs + (p * pi) * o = vr + (p * pi) * r) (hi : vr + c * (p * pi) = v0 + pi * (x * vz)) (hq : 4294967296 * q + r = x * y + o + c) :
    vs + q * (p * 4294967296 * pi) = v0 + pi * (x * (vz + p * y)) := by
  grind

theorem school_row (pi pl x c vr v0 vs vz va : Nat) (h : vr + c * (pl * pi) = v0 + pi * (x * vz)) (hs : vs + pl * pi * 0 = vr + pl * pi * c) (h0 : v0 = va * vz) : vs = (va + pi * x) * vz := by
  grind

set_option maxRecDepth 100000 in
theorem school_raw (ad1 ad2 : Option Addr) (c1 c2 : Nat) (xs zs : List Nat) (w : World) (hx : Sl w ad1 c1 xs) (hz : Sl w ad2 c2 zs) (b1 : xs.length ≤ 1000000000) (b2 : zs.length ≤ 1000000000) :
    Calls Tryz.prog 107 #[.slice ad1 xs.length c1, .slice ad2 zs.length c2] w (RetNum w (val xs * val zs)) := by
  go_enter Tryz.func107, Tryz.ntmps107
  go_wp2_with (at_make; refine wpList_make_nums _ rfl _ _ 118 rfl 87 Tryz.underlying118 info32 _ _ _ _ (xs.length + zs.length) rfl rfl (by omega) (by omega) (by omega) ?_; intro w1 hr1 hb1 hs1)
  go_loopw [20] (fun iv wr => ∃ (i : Nat) (R : List Nat), i ≤ xs.length ∧ iv = .int .i64 i ∧ R.length = xs.length + zs.length ∧ Row wr w.heap.size R ∧ Below w.heap.size w wr ∧
      val R = val (xs.take i) * val zs ∧ (∀ k, i + zs.length ≤ k → R.getD k 0 = 0))
    (fun iv _ => xs.length - (intOf iv).toNat)
  case atStart => exact ⟨0, List.replicate (xs.length + zs.length) 0, Nat.zero_le _, rfl, by simp, hr1, hb1, by simp [val, val_replicate], by intro k _; simp [List.getD, List.getElem?_replicate]; split <;> rfl⟩
  case round =>
    obtain ⟨i, R, hi, rfl, hlR, hrow, hbel, hval, htail⟩ := hrel
    have HlR := Lib.hid hlR
    have Hrow := Lib.hid hrow
    have Hval := Lib.hid hval
    have Htail := Lib.hid htail
    clear hlR hrow hval htail
    by_cases hlt : i < xs.length
    · obtain ⟨b, o, rfl, hbs, hcell, hfr⟩ := hx.open hlt
      have hx1 := hx.lt i
      obtain ⟨x, ex⟩ : ∃ x, xs.getD i 0 = x := ⟨_, rfl⟩
      rw [ex] at hcell hx1
      have hcell' := (hbel.cell (p := ⟨b, o + i, none⟩) hbs).trans hcell
      have Hx := Lib.hid ex
      clear hcell hfr ex
      go_wp2
      obtain ⟨wo, rfl⟩ : ∃ wo : World, wo = wr := ⟨_, rfl⟩
      go_loopw [8, 27] (fun cv jv wr => ∃ (j c : Nat) (R' : List Nat), j ≤ zs.length ∧ c < 4294967296 ∧ jv = .int .i64 j ∧ cv = .int .u64 c ∧ R'.length = xs.length + zs.length ∧ Row wr w.heap.size R' ∧ Below w.heap.size w wr ∧
          val R' + c * (4294967296 ^ j * 4294967296 ^ i) = val R + 4294967296 ^ i * (x * val (zs.take j)) ∧ (∀ k, i + zs.length ≤ k → R'.getD k 0 = 0))
        (fun _ jv _ => zs.length - (intOf jv).toNat)
      case atStart => exact ⟨0, 0, R, Nat.zero_le _, by omega, rfl, rfl, HlR.out, Hrow.out, hbel, by simp [val], Htail.out⟩
      case round =>
        obtain ⟨j, c, R', hj, hc, rfl, rfl, hlR', hrow', hbel', hval', htail'⟩ := hrel
        have HlR' := Lib.hid hlR'
        have Hrow' := Lib.hid hrow'
        have Hval' := Lib.hid hval'
        have Htail' := Lib.hid htail'
        clear hlR' hrow' hval' htail'
        by_cases hjt : j < zs.length
        · obtain ⟨b2, o2, rfl, hbs2, hcell2, hfr2⟩ := hz.open hjt
          have hz1 := hz.lt j
          obtain ⟨y, ey⟩ : ∃ x, zs.getD j 0 = x := ⟨_, rfl⟩
          rw [ey] at hcell2 hz1
          have hcell2' := (hbel'.cell (p := ⟨b2, o2 + j, none⟩) hbs2).trans hcell2
          have Hy := Lib.hid ey
          have oc := Hrow'.out.cell (i := i + j) (by have := HlR'.out; omega)
          have of := Hrow'.out.free (i + j)
          have hv1 := getD_lt_of Hrow'.out.1 (i + j)
          obtain ⟨v0, ev0⟩ : ∃ x, R'.getD (i + j) 0 = x := ⟨_, rfl⟩
          rw [ev0] at oc hv1
          have Hv0 := Lib.hid ev0
          have m0 : (0 : Int) ≤ (x : Int) * (y : Int) := Int.mul_nonneg (by omega) (by omega)
          have m1 : (x : Int) * (y : Int) ≤ 18446744065119617025 := by
            have := Nat.mul_le_mul (show x ≤ 4294967295 by omega) (show y ≤ 4294967295 by omega)
            have h2 : ((x * y : Nat) : Int) ≤ ((4294967295 * 4294967295 : Nat) : Int) := by exact_mod_cast this
            rw [Int.natCast_mul] at h2
            omega
          clear hcell2 hfr2 ey ev0
          go_wp2
          go_roundw
          case rel =>
            have hxy : ((x * y : Nat) : Int) = (x : Int) * (y : Int) := Int.natCast_mul _ _
            have hset := val_set R' (i + j) ((x * y + v0 + c) % 4294967296) (by have := HlR'.out; omega)
            rw [Hv0.out, Nat.add_comm i j, Nat.pow_add] at hset
            refine ⟨j + 1, (x * y + v0 + c) / 4294967296, R'.set (i + j) ((x * y + v0 + c) % 4294967296), by omega, by omega, by go_num, by go_num, by simp [HlR'.out], Hrow'.out.put _ _ (by omega) _ (by omega), hbel'.setCell (Nat.le_refl _) _, ?_, ?_⟩
            · have hv' := Hval'.out
              have hd := Nat.div_add_mod (x * y + v0 + c) 4294967296
              rw [Nat.add_comm j i] at hset
              rw [val_take_succ _ _ hjt, Hy.out, Nat.pow_succ]
              generalize (x * y + v0 + c) / 4294967296 = q at *
              generalize (x * y + v0 + c) % 4294967296 = r at *
              generalize 4294967296 ^ j = p at *
              generalize 4294967296 ^ i = pi at *
              exact school_step p pi x y v0 c _ _ q r _ _ hset hv' hd
            · intro k hk
              rw [getD_set_ne _ _ (by omega)]
              exact Htail'.out k hk
          case measure => simp [intOf]; omega
        · obtain rfl : j = zs.length := by omega
          have oc := Hrow'.out.cell (i := i + zs.length) (by have := HlR'.out; omega)
          have of := Hrow'.out.free (i + zs.length)
          rw [Htail'.out _ (Nat.le_refl _)] at oc
          go_wp2
          go_roundw
          case rel =>
            have hset := val_set R' (i + zs.length) c (by have := HlR'.out; omega)
            rw [Htail'.out _ (Nat.le_refl _), Nat.add_comm i, Nat.pow_add] at hset
            have hv' := Hval'.out
            rw [List.take_of_length_le (Nat.le_refl _)] at hv'
            refine ⟨i + 1, R'.set (i + zs.length) c, by omega, by go_num, by simp [HlR'.out], Hrow'.out.put _ _ hc _ (by omega), hbel'.setCell (Nat.le_refl _) _, ?_, ?_⟩
            · rw [Nat.add_comm i, val_take_succ _ _ hlt, Hx.out]
              exact school_row _ _ _ _ _ _ _ _ _ hv' hset Hval.out
            · intro k hk
              rw [getD_set_ne _ _ (by omega)]
              exact Htail'.out k (by omega)
          case measure => simp [intOf]; omega
    · obtain rfl : i = xs.length := by omega
      have hsl := Hrow.out.whole (by rw [HlR.out]; unfold maxLen; omega)
      have hv2 := Hval.out
      rw [List.take_of_length_le (Nat.le_refl _)] at hv2
      rw [HlR.out] at hsl
      have Hv := Lib.hid hv2
      clear hv2
      go_wp2_with (go_at_call 96; refine (trim_calls _ _ _ _ _ hsl HlR.out.symm).mono ?_; rintro e w' ⟨k, rfl, hnum, rfl⟩)
      go_ret
      rw [Hv.out] at hnum
      exact ⟨_, rfl, hnum, Nat.le_refl _, hbel⟩

/-- school returns the product. -/
theorem school_calls (v1 v2 : Value) (m n : Nat) (w : World) (h1 : Num w v1 m) (h2 : Num w v2 n) (b1 : (limbs m).length ≤ 1000000000) (b2 : (limbs n).length ≤ 1000000000) :
    Calls Tryz.prog 107 #[v1, v2] w (RetNum w (m * n)) := by
  obtain ⟨ad1, c1, rfl, s1⟩ := h1
  obtain ⟨ad2, c2, rfl, s2⟩ := h2
  have := school_raw ad1 ad2 c1 c2 _ _ w s1 s2 b1 b2
  rwa [val_limbs, val_limbs] at this

end Go.Proofs

open Go.RowKit
namespace Go.Proofs
set_option linter.unusedVariables false
set_option linter.unusedSimpArgs false

/-- Two numbers come back; what was there is as it was. -/
def RetTwo (w : World) (m n : Nat) (e : Ending) (w' : World) : Prop :=
  ∃ v1 v2, e = .returned (.tuple #[v1, v2]) ∧ Num w' v1 m ∧ Num w' v2 n ∧ Below w.heap.size w w'

theorem trim_same (ad : Option Addr) (c n : Nat) (xs : List Nat) (w : World) (hx : Sl w ad c xs) (hn : n = xs.length) :
    Calls Tryz.prog 96 #[.slice ad n c] w fun e w' => e = .returned (.slice ad (limbs (val xs)).length c) ∧ w' = w := by
  subst hn
  exact (trim_raw ad c xs w hx).mono fun e w' ⟨he, hw⟩ => ⟨he, hw.symm⟩

set_option maxRecDepth 100000 in
theorem split_calls (v : Value) (m n : Nat) (z : Int) (w : World) (hv : Num w v m) (hz : z = (n : Int)) (b1 : (limbs m).length ≤ 1000000000) (b2 : n ≤ 1000000000) :
    Calls Tryz.prog 112 #[v, .int .i64 z] w (RetTwo w (m % 4294967296 ^ n) (m / 4294967296 ^ n)) := by
  subst hz
  obtain ⟨ad, c, rfl, hs⟩ := hv
  by_cases hle : (limbs m).length ≤ n
  · have hlt := limbs_length_le_iff.1 hle
    have e1 := Nat.mod_eq_of_lt hlt
    have e2 := Nat.div_eq_of_lt hlt
    rw [e1, e2]
    clear e1 e2 hlt
    go_enter Tryz.func112, Tryz.ntmps112
    go_wp2
    go_ret2
    exact ⟨_, _, rfl, ⟨ad, c, rfl, hs⟩, Num.nil _, Below.refl _ _⟩
  · obtain ⟨b, o, rfl, hbs, _, _⟩ := hs.open (i := n) (by omega)
    have hc := hs.1
    have hcm := hs.2.1
    unfold maxLen at hcm
    have htl : ((limbs m).take n).length = n := by rw [List.length_take]; omega
    have hst := (hs.take n)
    have hsd := hs.drop b o n rfl (by omega)
    have ev := val_take_mod m n (by omega)
    have ed := limbs_drop (m := m) (n := n) (by omega)
    have Hst : ∀ k, Sl (w.drewN k) (some ⟨b, o, none⟩) c ((limbs m).take n) := fun k => hst.mono (Nat.le_refl _) (below_drewN (Below.refl _ _) k)
    have Htl := Lib.hid htl
    have Hev := Lib.hid ev
    have Hed := Lib.hid ed
    have HH := Lib.hid Hst
    have t1 : (n : Int) < ((limbs m).length : Int) := by omega
    clear htl ev ed Hst
    go_enter Tryz.func112, Tryz.ntmps112
    go_wp2_with fail
    go_quiet ((go_at_call 96; exact Calls.quiet_of_same (trim_same _ _ _ _ _ (HH.out _) Htl.out.symm)))
    go_wp2
    go_ret2
    refine ⟨_, _, rfl, ?_, ?_, below_drewN (Below.refl _ _) _⟩
    · rw [← Hev.out]
      exact ⟨_, c, rfl, (hst.mono (Nat.le_refl _) (below_drewN (Below.refl _ _) _)).trimmed⟩
    · refine ⟨some ⟨b, o + n, none⟩, c - n, ?_, ?_⟩
      · rw [Hed.out, List.length_drop]; rfl
      · rw [Hed.out]
        exact hsd.mono (Nat.le_refl _) (below_drewN (Below.refl _ _) _)

end Go.Proofs
end

section
open Go.RowKit
namespace Go.Proofs
set_option linter.unusedVariables false
set_option linter.unusedSimpArgs false

/-- what addAt leaves: the row, and nothing else, has changed -/
def Added (w : World) (B N v : Nat) (e : Ending) (w' : World) : Prop :=
  ∃ R, e = .returned (.tuple #[]) ∧ R.length = N ∧ Row w' B R ∧ val R = v ∧ Only B w w'

theorem add_step (p pa c x y r q vr vs vx v0 : Nat) (hi : vr + c * (pa * p) = v0 + pa * vx) (hs : vs + (pa * p) * y = vr + (pa * p) * r) (hq : 4294967296 * q + r = y + x + c) :
    vs + q * (pa * (p * 4294967296)) = v0 + pa * (vx + p * x) := by
  grind

theorem carry_step (p y r q vr vs t : Nat) (hi : vr + 1 * p = t) (hs : vs + p * y = vr + p * r) (hq : 4294967296 * q + r = y + 1) : vs + q * (p * 4294967296) = t := by
  grind

set_option maxRecDepth 100000 in
theorem addAt_raw (B N at_ : Nat) (R : List Nat) (ad : Option Addr) (c1 : Nat) (xs : List Nat) (w : World) (hrow : Row w B R) (hN : R.length = N) (hx : Sl w ad c1 xs) (hap : ∀ a, ad = some a → a.block ≠ B)
    (hroom : at_ + xs.length ≤ N) (hval : val R + 4294967296 ^ at_ * val xs < 4294967296 ^ N) (hb : N ≤ 4000000000) :
    Calls Tryz.prog 111 #[.slice (some ⟨B, 0, none⟩) N N, .slice ad xs.length c1, .int .i64 at_] w (Added w B N (val R + 4294967296 ^ at_ * val xs)) := by
  have HN := Lib.hid hN
  have Hval := Lib.hid hval
  clear hN hval
  go_enter Tryz.func111, Tryz.ntmps111
  go_wp2
  go_loopw [6, 11] (fun cv iv wr => ∃ (i c : Nat) (R' : List Nat), i ≤ xs.length ∧ c ≤ 1 ∧ iv = .int .i64 i ∧ cv = .int .u32 c ∧ R'.length = N ∧ Row wr B R' ∧ Only B w wr ∧
      val R' + c * (4294967296 ^ at_ * 4294967296 ^ i) = val R + 4294967296 ^ at_ * val (xs.take i))
    (fun _ iv _ => xs.length - (intOf iv).toNat)
  case atStart => exact ⟨0, 0, R, Nat.zero_le _, by omega, rfl, rfl, HN.out, hrow, Only.refl _ _, by simp [val]⟩
  case round =>
    obtain ⟨i, c, R', hi, hc, rfl, rfl, hlR, hrow', honly, hv⟩ := hrel
    have HlR := Lib.hid hlR
    have Hrow := Lib.hid hrow'
    have Hv := Lib.hid hv
    clear hlR hrow' hv
    by_cases hlt : i < xs.length
    · obtain ⟨b, o, rfl, hbs, hcell, hfr⟩ := hx.open hlt
      have hx1 := hx.lt i
      obtain ⟨x, ex⟩ : ∃ x, xs.getD i 0 = x := ⟨_, rfl⟩
      rw [ex] at hcell hx1
      have hne : b ≠ B := hap _ rfl
      have hcell' := (honly.cell (p := ⟨b, o + i, none⟩) hbs hne).trans hcell
      have Hx := Lib.hid ex
      have Hne := Lib.hid hne
      have oc := Hrow.out.cell (i := at_ + i) (by have := HlR.out; omega)
      have of := Hrow.out.free (at_ + i)
      have hy1 := getD_lt_of Hrow.out.1 (at_ + i)
      obtain ⟨y, ey⟩ : ∃ x, R'.getD (at_ + i) 0 = x := ⟨_, rfl⟩
      rw [ey] at oc hy1
      have Hy := Lib.hid ey
      clear hcell hfr ex ey hne
      go_wp2_with fail
      have k1 : IntKind.i64.wrap ((at_ : Int) + (i : Int)) = (at_ : Int) + (i : Int) := IntWalk.i64_in _ (by omega)
      have k2 : (0 : Int) ≤ (at_ : Int) + (i : Int) := by omega
      have k3 : ((at_ : Int) + (i : Int)).toNat = at_ + i := by omega
      have k4 : (at_ : Int) + (i : Int) < (N : Int) := by omega
      have k5 : (i : Int) < (xs.length : Int) := by omega
      go_region_with (go_at_call 120; refine (add32_calls _ _ _ _ (by omega) (by omega) (by omega) (by omega) (by omega) (by omega)).mono ?_; rintro e w' ⟨rfl, rfl⟩)
      all_goals clear k1 k3
      all_goals go_wp2
      all_goals
        go_roundw
        case rel =>
          have hset := val_set R' (at_ + i) ((y + x + c) % 4294967296) (by have := HlR.out; omega)
          have hd := Nat.div_add_mod (y + x + c) 4294967296
          refine ⟨i + 1, (y + x + c) / 4294967296, R'.set (at_ + i) ((y + x + c) % 4294967296), by omega, by omega, by go_num, by go_num, by simp [HlR.out], Row.drew (Hrow.out.put _ _ (by omega) _ (by omega)), (honly.setCell rfl _).drew, ?_⟩
          have hv' := Hv.out
          rw [val_take_succ _ _ hlt, Hx.out, Nat.pow_succ]
          rw [Hy.out, Nat.pow_add] at hset
          generalize (y + x + c) / 4294967296 = q at *
          generalize (y + x + c) % 4294967296 = r at *
          generalize 4294967296 ^ at_ = pa at *
          generalize 4294967296 ^ i = p at *
          exact add_step p pa c x y r q _ _ _ _ hv' hset hd
        case measure => simp [intOf]; omega
    · obtain rfl : i = xs.length := by omega
      go_wp2
      obtain ⟨wo, rfl⟩ : ∃ wo : World, wo = wr := ⟨_, rfl⟩
      go_loopw [6, 8] (fun cv iv wr => ∃ (i c : Nat) (R' : List Nat), i ≤ N ∧ c ≤ 1 ∧ iv = .int .i64 i ∧ cv = .int .u32 c ∧ R'.length = N ∧ Row wr B R' ∧ Only B w wr ∧
          val R' + c * 4294967296 ^ i = val R + 4294967296 ^ at_ * val xs)
        (fun _ iv _ => N - (intOf iv).toNat)
      case atStart =>
        refine ⟨at_ + xs.length, c, R', by omega, hc, by go_num, rfl, HlR.out, Hrow.out, honly, ?_⟩
        have := Hv.out
        rw [List.take_of_length_le (Nat.le_refl _), ← Nat.pow_add] at this
        exact this
      case round =>
        obtain ⟨i, c, R', hi, hc, rfl, rfl, hlR, hrow', honly, hv⟩ := hrel
        have hlt : c = 1 → i < N := by
          intro h1
          subst h1
          rcases Nat.lt_or_ge i N with h | h
          · exact h
          · obtain rfl : i = N := by omega
            have := Hval.out
            omega
        have HlR' := Lib.hid hlR
        have Hrow' := Lib.hid hrow'
        have Hv' := Lib.hid hv
        clear hlR hrow' hv
        by_cases h1 : c = 1
        · have hiN := hlt h1
          subst h1
          have oc := Hrow'.out.cell (i := i) (by have := HlR'.out; omega)
          have of := Hrow'.out.free i
          have hy1 := getD_lt_of Hrow'.out.1 i
          obtain ⟨y, ey⟩ : ∃ x, R'.getD i 0 = x := ⟨_, rfl⟩
          rw [ey] at oc hy1
          have Hy := Lib.hid ey
          clear ey hlt
          go_wp2_with (go_at_call 120; refine (add32_calls _ _ _ _ (by omega) (by omega) (by omega) (by omega) (by omega) (by omega)).mono ?_; rintro e w' ⟨rfl, rfl⟩)
          go_roundw
          case rel =>
            have hset := val_set R' i ((y + 1) % 4294967296) (by have := HlR'.out; omega)
            have hd := Nat.div_add_mod (y + 1) 4294967296
            refine ⟨i + 1, (y + 1) / 4294967296, R'.set i ((y + 1) % 4294967296), by omega, by omega, by go_num, by go_num, by simp [HlR'.out], Hrow'.out.put _ _ (by omega) _ (by omega), honly.setCell rfl _, ?_⟩
            have hv' := Hv'.out
            rw [Hy.out] at hset
            rw [Nat.pow_succ]
            generalize (y + 1) / 4294967296 = q at *
            generalize (y + 1) % 4294967296 = r at *
            generalize 4294967296 ^ i = p at *
            exact carry_step p y r q _ _ _ hv' hset hd
          case measure => simp [intOf]; omega
        · obtain rfl : c = 0 := by omega
          go_wp2
          go_end0
          exact ⟨R', rfl, HlR'.out, Hrow'.out, by have := Hv'.out; simpa using this, honly⟩


/-- addAt adds the number, moved up by some limbs, into the row. -/
theorem addAt_calls (B N at_ n : Nat) (z : Int) (R : List Nat) (v : Value) (w : World) (hrow : Row w B R) (hN : R.length = N) (hv : Num w v n) (hap : Apart B v) (hz : z = (at_ : Int))
    (hroom : at_ + (limbs n).length ≤ N) (hval : val R + 4294967296 ^ at_ * n < 4294967296 ^ N) (hb : N ≤ 4000000000) :
    Calls Tryz.prog 111 #[.slice (some ⟨B, 0, none⟩) N N, v, .int .i64 z] w (Added w B N (val R + 4294967296 ^ at_ * n)) := by
  obtain ⟨ad, c, rfl, hs⟩ := hv
  subst hz
  have := addAt_raw B N at_ R ad c _ w hrow hN hs (fun a ha => by subst ha; exact hap) hroom (by rw [val_limbs]; exact hval) hb
  rwa [val_limbs] at this

end Go.Proofs
end

