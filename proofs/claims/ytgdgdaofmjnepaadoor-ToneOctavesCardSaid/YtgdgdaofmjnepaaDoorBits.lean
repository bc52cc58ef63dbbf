/- Contracts of math/bits over this seat's program. -/
import Derived.Test.YtgdgdaofmjnepaaDoorProg
import Derived.Test.YtgdgdaofmjnepaaDoorBase
open Go.RowKit
namespace Go.Proofs
set_option linter.unusedVariables false

theorem info32 : (Tryd.prog.info? 102).map (fun i => (i.zero, i.size, i.bytes)) = some (some (.int .u32 0), 1, 4) := by kernel_rfl

theorem bits_u32 (a b : Nat) (ha : a < 4294967296) (hb : b < 4294967296) :
    bits .and .u32 a b = ((a &&& b : Nat) : Int) ∧ bits .or .u32 a b = ((a ||| b : Nat) : Int) ∧ bits .xor .u32 a b = ((a ^^^ b : Nat) : Int) := by
  have hk : ∀ n : Int, 0 ≤ n → n < 2 ^ 32 → IntKind.u32.wrap n = n := fun n h0 h1 => by rw [IntKind.wrap_u32]; omega
  have h := bits_nat .u32 32 (by simp [IntKind.bits]) hk a b ha hb
  refine ⟨h.1, h.2, ?_⟩
  have hp : (2 : Nat) ^ IntKind.u32.bits = 4294967296 := by simp [IntKind.bits]
  simp only [bits, BitVec.ofInt_natCast, BitVec.toNat_xor, BitVec.toNat_ofNat, hp, Nat.mod_eq_of_lt ha, Nat.mod_eq_of_lt hb]
  have := Nat.xor_lt_two_pow (n := 32) ha hb
  exact hk _ (Int.natCast_nonneg _) (by exact_mod_cast this)

theorem top_bit (n : Nat) (h : n < 4294967296) : n / 2147483648 = (n.testBit 31).toNat := by
  rw [Nat.testBit_eq_decide_div_mod_eq]
  have e : (2 : Nat) ^ 31 = 2147483648 := by decide
  rw [e]
  by_cases h1 : 2147483648 ≤ n
  · have : n / 2147483648 = 1 := by omega
    simp [this]
  · have : n / 2147483648 = 0 := by omega
    simp [this]

theorem top_bit' (n : Nat) (h : n < 4294967296) : n.testBit 31 = decide (2147483648 ≤ n) := by
  rw [Nat.testBit_eq_decide_div_mod_eq]
  have e : (2 : Nat) ^ 31 = 2147483648 := by decide
  rw [e, decide_eq_decide]
  omega

theorem borrow_nat (x y d : Nat) (hx : x < 4294967296) (hy : y < 4294967296) (hd : d < 4294967296) :
    ((((4294967295 ^^^ x) &&& y) ||| ((4294967295 ^^^ (x ^^^ y)) &&& d)) / 2147483648 : Nat) =
      ((!decide (2147483648 ≤ x) && decide (2147483648 ≤ y)) || (!(decide (2147483648 ≤ x) ^^ decide (2147483648 ≤ y)) && decide (2147483648 ≤ d))).toNat := by
  have h1 : (4294967295 ^^^ x) &&& y < 4294967296 := Nat.and_lt_two_pow (n := 32) _ hy
  have h2 : (4294967295 ^^^ (x ^^^ y)) &&& d < 4294967296 := Nat.and_lt_two_pow (n := 32) _ hd
  have h3 : ((4294967295 ^^^ x) &&& y) ||| ((4294967295 ^^^ (x ^^^ y)) &&& d) < 4294967296 := Nat.or_lt_two_pow (n := 32) h1 h2
  have hm : Nat.testBit 4294967295 31 = true := by decide
  rw [top_bit _ h3]
  simp only [Nat.testBit_or, Nat.testBit_and, Nat.testBit_xor, hm, top_bit' _ hx, top_bit' _ hy, top_bit' _ hd, Bool.true_xor]

theorem borrow_int (x y c : Nat) (hx : x < 4294967296) (hy : y < 4294967296) (hc : c ≤ 1) :
    bits BinOp.or IntKind.u32 (bits BinOp.and IntKind.u32 (bits BinOp.xor IntKind.u32 IntKind.u32.max x) y)
      (bits BinOp.and IntKind.u32 (bits BinOp.xor IntKind.u32 IntKind.u32.max (bits BinOp.xor IntKind.u32 x y)) (((x : Int) - y - c) % 4294967296)) / 2147483648
      = ((if x < y + c then 1 else 0 : Nat) : Int) := by
  have hmax : IntKind.u32.max = ((4294967295 : Nat) : Int) := by simp [IntKind.max, IntKind.bits, IntKind.signed]
  obtain ⟨d, hd⟩ : ∃ d : Nat, ((x : Int) - y - c) % 4294967296 = (d : Int) := ⟨(((x : Int) - y - c) % 4294967296).toNat, by omega⟩
  have hd' : d < 4294967296 := by omega
  have a1 := Nat.xor_lt_two_pow (x := 4294967295) (y := x) (n := 32) (by omega) hx
  have a2 := Nat.xor_lt_two_pow (n := 32) hx hy
  have a3 := Nat.xor_lt_two_pow (x := 4294967295) (n := 32) (by omega) a2
  have a4 : (4294967295 ^^^ x) &&& y < 4294967296 := Nat.and_lt_two_pow (n := 32) _ hy
  have a5 : (4294967295 ^^^ (x ^^^ y)) &&& d < 4294967296 := Nat.and_lt_two_pow (n := 32) _ hd'
  rw [hd, hmax, (bits_u32 4294967295 x (by omega) hx).2.2, (bits_u32 x y hx hy).2.2, (bits_u32 4294967295 _ (by omega) a2).2.2,
    (bits_u32 _ y a1 hy).1, (bits_u32 _ d a3 hd').1, (bits_u32 _ _ a4 a5).2.1]
  have := borrow_nat x y d hx hy hd'
  have e : (((((4294967295 ^^^ x) &&& y) ||| ((4294967295 ^^^ (x ^^^ y)) &&& d)) : Nat) : Int) / 2147483648 = (((((4294967295 ^^^ x) &&& y) ||| ((4294967295 ^^^ (x ^^^ y)) &&& d)) / 2147483648 : Nat) : Int) := by omega
  rw [e, this]
  congr 1
  by_cases p : 2147483648 ≤ x <;> by_cases q : 2147483648 ≤ y <;> by_cases r : 2147483648 ≤ d <;> simp [p, q, r] <;> (first | (rw [if_pos (by omega)]) | (rw [if_neg (by omega)]) | omega)

theorem add32_calls (x y c : Int) (w : World) (hx : 0 ≤ x) (hx' : x < 4294967296) (hy : 0 ≤ y) (hy' : y < 4294967296) (hc : 0 ≤ c) (hc' : c ≤ 1) :
    Calls Tryd.prog 142 #[.int .u32 x, .int .u32 y, .int .u32 c] w fun e w' =>
      e = .returned (.tuple #[.int .u32 ((x + y + c) % 4294967296), .int .u32 ((x + y + c) / 4294967296)]) ∧ w = w' := by
  go_enter Tryd.func142, Tryd.ntmps142
  go_wp2
  go_ret2
  exact ⟨rfl, rfl⟩

theorem add32_still (x y c : Int) (w : World) (hx : 0 ≤ x) (hx' : x < 4294967296) (hy : 0 ≤ y) (hy' : y < 4294967296) (hc : 0 ≤ c) (hc' : c ≤ 1) :
    Calls Tryd.prog 142 #[.int .u32 x, .int .u32 y, .int .u32 c] w fun e w' =>
      e = .returned (.tuple #[.int .u32 ((x + y + c) % 4294967296), .int .u32 ((x + y + c) / 4294967296)]) ∧ w' = w :=
  (add32_calls x y c w hx hx' hy hy' hc hc').mono fun e w' h => ⟨h.1, h.2.symm⟩

/-- what Sub32 returns -/
def Diff (x y c : Nat) (w : World) (e : Ending) (w' : World) : Prop :=
  ∃ d b : Nat, e = .returned (.tuple #[.int .u32 d, .int .u32 b]) ∧ d < 4294967296 ∧ b ≤ 1 ∧ d + y + c = x + 4294967296 * b ∧ w = w'

theorem sub32_calls (x y c : Nat) (w : World) (hx : x < 4294967296) (hy : y < 4294967296) (hc : c ≤ 1) :
    Calls Tryd.prog 158 #[.int .u32 x, .int .u32 y, .int .u32 c] w (Diff x y c w) := by
  have hb := borrow_int x y c hx hy hc
  go_enter Tryd.func158, Tryd.ntmps158
  have Hb := Lib.hid hb
  clear hb
  go_wp2
  go_ret2
  refine ⟨(((x : Int) - y - c) % 4294967296).toNat, if x < y + c then 1 else 0, ?_, by omega, by split <;> omega, ?_, rfl⟩
  · have e1 : ((((x : Int) - y - c) % 4294967296).toNat : Int) = ((x : Int) - y - c) % 4294967296 := by omega
    rw [e1, ← Hb.out]
    rfl
  · split <;> omega

/-- Sub32 at integers -/
theorem sub32_int (x y c : Int) (w : World) (hx : 0 ≤ x) (hx' : x < 4294967296) (hy : 0 ≤ y) (hy' : y < 4294967296) (hc : 0 ≤ c) (hc' : c ≤ 1) :
    Calls Tryd.prog 158 #[.int .u32 x, .int .u32 y, .int .u32 c] w fun e w' =>
      ∃ d b : Nat, e = .returned (.tuple #[.int .u32 d, .int .u32 b]) ∧ d < 4294967296 ∧ b ≤ 1 ∧ (d : Int) + y + c = x + 4294967296 * (b : Int) ∧ w = w' := by
  obtain ⟨x, rfl⟩ := Int.eq_ofNat_of_zero_le hx
  obtain ⟨y, rfl⟩ := Int.eq_ofNat_of_zero_le hy
  obtain ⟨c, rfl⟩ := Int.eq_ofNat_of_zero_le hc
  exact (sub32_calls x y c w (by omega) (by omega) (by omega)).mono fun e w' ⟨d, b, he, h1, h2, h3, h4⟩ => ⟨d, b, he, h1, h2, by omega, h4⟩

end Go.Proofs
