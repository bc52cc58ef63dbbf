/- Plain arithmetic: what Newton's method from above finds is the integer part of the root. A slice of limbs that the call itself made, and to which it appends: laws of the world. The reference: trim returns a new slice of the limbs of a number. The reference: Cmp. The reference: Bits, Bit. The reference: Mul is the product, limb by limb. The reference: at, Of, Add, Sub. The reference: Over, Times. nat.raise: a power. The exported functions of nat of two numbers: each returns the first error of its arguments, or, of valid ones, the number that the document names. nat.Root: the integer part of a root, of a valid number. nat.Shift, of a valid number. nat.Bits, nat.Uint64, of valid numbers; the reference: Small. The reference: DivMod, bit by bit; Gcd. The reference: Left, Right. The reference: Pow, PowMod. The reference: Root, bit by bit. nat.power, nat.Pow, nat.PowMod, of valid numbers. -/
import Derived.Test.YtghbjhcbldnenaaGreatDoorPk01
import Derived.Test.YtghbjhcbldnenaaGreatDoorPk02
import Derived.Test.YtghbjhcbldnenaaGreatDoorPk03
import Derived.Test.YtghbjhcbldnenaaGreatDoorPk04

section
open Go.RowKit
namespace Go.Proofs
set_option linter.unusedVariables false
set_option linter.unusedSimpArgs false

theorem pow_lt_of_lt {x y n : Nat} (h : x < y) (hn : n ≠ 0) : x ^ n < y ^ n := Nat.pow_lt_pow_left h hn
theorem le_of_pow_lt {x y n : Nat} (h : x ^ n < (y + 1) ^ n) : x ≤ y := by
  by_cases hx : x ≤ y
  · exact hx
  · have := Nat.pow_le_pow_left (show y + 1 ≤ x by omega) n
    omega

/-- r is the integer part of the n-th root of a -/
def IsRoot (a n r : Nat) : Prop := r ^ n ≤ a ∧ a < (r + 1) ^ n

theorem IsRoot.unique {a n r s : Nat} (h : IsRoot a n r) (k : IsRoot a n s) : r = s := by
  have h1 := le_of_pow_lt (Nat.lt_of_le_of_lt h.1 k.2)
  have h2 := le_of_pow_lt (Nat.lt_of_le_of_lt k.1 h.2)
  omega

theorem root_exists (n : Nat) (hn : n ≠ 0) : ∀ a, ∃ r, IsRoot a n r := by
  intro a
  induction a with
  | zero => exact ⟨0, by rw [Nat.zero_pow (by omega)]; exact Nat.le_refl _, by simp⟩
  | succ a ih =>
    obtain ⟨r, h1, h2⟩ := ih
    by_cases h : (r + 1) ^ n ≤ a + 1
    · exact ⟨r + 1, h, Nat.lt_of_le_of_lt (by omega) (pow_lt_of_lt (show r + 1 < r + 1 + 1 by omega) hn)⟩
    · exact ⟨r, by omega, by omega⟩

theorem root_one (a : Nat) : IsRoot a 1 a := by simp [IsRoot]
theorem root_zero (n : Nat) (hn : n ≠ 0) : IsRoot 0 n 0 := ⟨by rw [Nat.zero_pow (by omega)]; exact Nat.le_refl _, by simp⟩

theorem sq_two (r x : Nat) : 2 * r * x ≤ r * r + x * x := by
  rcases Nat.le_total r x with h | h
  · obtain ⟨d, rfl⟩ := Nat.exists_eq_add_of_le h
    have : r * r + (r + d) * (r + d) = 2 * r * (r + d) + d * d := by grind
    omega
  · obtain ⟨d, rfl⟩ := Nat.exists_eq_add_of_le h
    have : (x + d) * (x + d) + x * x = 2 * (x + d) * x + d * d := by grind
    omega

/-- the means' inequality -/
theorem means (r x : Nat) : ∀ k, (k + 1) * r * x ^ k ≤ r ^ (k + 1) + k * x ^ (k + 1) := by
  intro k
  induction k with
  | zero => simp
  | succ k ih =>
    have h1 := Nat.mul_le_mul_left r ih
    have h2 := Nat.mul_le_mul_left ((k + 1) * x ^ k) (sq_two r x)
    have e1 : (k + 1 + 1) * r * x ^ (k + 1) + (r * ((k + 1) * r * x ^ k) + k * r * x ^ (k + 1)) = (k + 1) * x ^ k * (r * r) + ((k + 1) * x ^ k * (2 * r * x)) := by
      rw [Nat.pow_succ]; generalize x ^ k = p; grind
    have e2 : r * (r ^ (k + 1) + k * x ^ (k + 1)) = r ^ (k + 1 + 1) + k * r * x ^ (k + 1) := by
      rw [Nat.pow_succ r (k + 1)]; generalize x ^ (k + 1) = p; generalize r ^ (k + 1) = q; grind
    have e3 : (k + 1) * x ^ k * (r * r + x * x) = (k + 1) * x ^ k * (r * r) + (k + 1) * x ^ (k + 1 + 1) := by
      rw [Nat.pow_succ x (k + 1), Nat.pow_succ x k]; generalize x ^ k = p; grind
    have e4 : r * ((k + 1) * r * x ^ k) = (k + 1) * x ^ k * (r * r) := by
      generalize x ^ k = p; grind
    omega

/-- a step of Newton's method does not go below the root -/
theorem newton_above {a r x k : Nat} (h : r ^ (k + 1) ≤ a) (hx : 0 < x) : r ≤ (x * k + a / x ^ k) / (k + 1) := by
  rw [Nat.le_div_iff_mul_le (by omega)]
  have hp : 0 < x ^ k := Nat.pow_pos hx
  by_cases hs : r * (k + 1) ≤ x * k
  · exact Nat.le_trans hs (Nat.le_add_right _ _)
  · have hm := means r x k
    have h1 : (r * (k + 1) - x * k) * x ^ k ≤ a := by
      rw [Nat.sub_mul]
      have e1 : r * (k + 1) * x ^ k = (k + 1) * r * x ^ k := by rw [Nat.mul_comm r]
      have e2 : x * k * x ^ k = k * x ^ (k + 1) := by rw [Nat.pow_succ]; generalize x ^ k = p; grind
      omega
    have h2 := (Nat.le_div_iff_mul_le hp).mpr h1
    generalize a / x ^ k = Q at h2 ⊢
    omega

/-- where it does not fall it is the root -/
theorem newton_stop {a r x k : Nat} (h : IsRoot a (k + 1) r) (hx : 0 < x) (hr : r ≤ x) (hstop : x ≤ (x * k + a / x ^ k) / (k + 1)) : x = r := by
  rw [Nat.le_div_iff_mul_le (by omega)] at hstop
  have hp : 0 < x ^ k := Nat.pow_pos hx
  have e : x * (k + 1) = x * k + x := by rw [Nat.mul_add, Nat.mul_one]
  have h1 : x ≤ a / x ^ k := by omega
  have h2 := (Nat.le_div_iff_mul_le hp).mp h1
  have h3 : x ^ (k + 1) ≤ a := by rw [Nat.pow_succ, Nat.mul_comm]; exact h2
  have := le_of_pow_lt (Nat.lt_of_le_of_lt h3 h.2)
  omega

theorem newton_start {a b n : Nat} (h : a < 2 ^ b) (hn : n ≠ 0) : a < (2 ^ ((b + n - 1) / n)) ^ n := by
  rw [← Nat.pow_mul]
  refine Nat.lt_of_lt_of_le h (Nat.pow_le_pow_right (by omega) ?_)
  have h1 := Nat.div_add_mod (b + n - 1) n
  have h2 := Nat.mod_lt (b + n - 1) (show 0 < n by omega)
  rw [Nat.mul_comm] at h1
  omega

theorem Num.inj {w : World} {v : Value} {m n : Nat} (h : Num w v m) (k : Num w v n) : m = n := by
  obtain ⟨ad, c, rfl, hs⟩ := h
  obtain ⟨ad', c', e, ks⟩ := k
  obtain ⟨rfl, hl, rfl⟩ := Value.slice.inj e
  apply limbs_inj
  apply List.ext_getElem hl
  intro i h1 h2
  obtain ⟨b, o, e1, _, g1, _⟩ := hs.open h1
  obtain ⟨b', o', e2, _, g2, _⟩ := ks.open h2
  rw [e1] at e2
  cases e2
  rw [g1] at g2
  simp only [Option.some.injEq, Value.int.injEq, true_and] at g2
  simp only [List.getD, List.getElem?_eq_getElem h1, List.getElem?_eq_getElem h2, Option.getD_some] at g2
  omega

/-- the number that a value holds -/
noncomputable def numOf (w : World) (v : Value) : Nat := Classical.epsilon (fun n => Num w v n)
theorem numOf_eq {w : World} {v : Value} {n : Nat} (h : Num w v n) : numOf w v = n := by
  exact (Classical.epsilon_spec (p := fun n => Num w v n) ⟨n, h⟩).inj h

end Go.Proofs
end

section
open Go.RowKit
namespace Go.Proofs
set_option linter.unusedVariables false
set_option linter.unusedSimpArgs false

/-- v is a slice of xs in a block that is at B or beyond and begins with it -/
def Own (B : Nat) (w : World) (v : Value) (xs : List Nat) : Prop :=
  w.ownsRow B 87 1 v xs.length (lims xs) ∧ ∀ x ∈ xs, x < 4294967296

theorem Own.sl {B w v xs} (h : Own B w v xs) : ∃ ad c, v = .slice ad xs.length c ∧ Sl w ad c xs ∧ ∀ a, ad = some a → B ≤ a.block := owns_sl h.1 h.2

theorem own_made (w : World) : Own w.heap.size (w.alloc (.cells #[] 87)) (.slice (some ⟨w.heap.size, 0, none⟩) 0 0) [] :=
  ⟨⟨rfl, .inr ⟨w.heap.size, 0, #[], rfl, Nat.le_refl _, by rw [heap_alloc_new], Nat.le_refl _, Nat.zero_le _, rfl, rfl⟩⟩, by intro x hx; cases hx⟩

theorem Own.num {B w v xs} (h : Own B w v xs) (hc : limbs (val xs) = xs) : Num w v (val xs) ∧ Fresh B v := by
  obtain ⟨ad, c, rfl, hs, hf⟩ := h.sl
  exact ⟨⟨ad, c, by rw [hc], by rw [hc]; exact hs⟩, fresh_of hf⟩

theorem Own.grown {B B' : Nat} {w w' : World} {v : Value} {xs : List Nat} (h : Own B w v xs) (hb : Below B' w w') (hlt : ∀ k, v.ownBlock = some k → k < B') : Own B w' v xs := by
  obtain ⟨⟨hl, h1⟩, hd⟩ := h
  refine ⟨⟨hl, ?_⟩, hd⟩
  rcases h1 with h1 | ⟨g, cap, cur, rfl, hg, hh, r⟩
  · exact .inl h1
  · refine .inr ⟨g, cap, cur, rfl, hg, ?_, r⟩
    rw [hb.block g (hlt g rfl)]
    exact hh

theorem Own.block {B w v xs} (h : Own B w v xs) : ∀ k, v.ownBlock = some k → B ≤ k ∧ k < w.heap.size := by
  intro k hk
  obtain ⟨⟨hl, h1⟩, hd⟩ := h
  rcases h1 with ⟨rfl, _⟩ | ⟨g, cap, cur, rfl, hg, hh, r⟩
  · cases hk
  · cases hk
    exact ⟨hg, lt_of_block hh⟩

theorem Own.mono {B w w' v xs} (h : Own B w v xs) (hb : Below w.heap.size w w') : Own B w' v xs :=
  h.grown hb fun k hk => (h.block k hk).2

/-- what can be read at a slice: limbs, or nothing -/
def Rd (w : World) (ad : Option Addr) (c : Nat) (ys : List Nat) : Prop :=
  ys.length ≤ c ∧ c ≤ maxLen ∧ (∀ x ∈ ys, x < 4294967296) ∧ ((ad = none ∧ c = 0) ∨ ∃ x, ad = some x ∧ ∀ i, i < ys.length → w.cell? (x.add i) = some (.int .u32 (ys.getD i 0)))

theorem add_off (b o j : Nat) : (Addr.mk b o none).add j = ⟨b, o + j, none⟩ := by
  unfold Addr.add
  split
  · subst_vars; rfl
  · rfl

theorem Sl.rd {w ad c ys} (h : Sl w ad c ys) : Rd w ad c ys := by
  obtain ⟨h1, h2, h3, h | ⟨b, o, rfl, hb, hc⟩⟩ := h
  · exact ⟨h1, h2, h3, .inl h⟩
  · exact ⟨h1, h2, h3, .inr ⟨_, rfl, fun i hi => by rw [add_off]; exact (hc i hi).1⟩⟩

/-- append: to what the call made, whatever slice of limbs -/
theorem wpList_append_rd {P : Program} {w : World} {ops : Array Oper} {rest : List Oper} {o : Oper} {a : Act} {Q : Exit → Act → World → Prop} (hgd : o.guard = none) (s x : Operand) (t : TypeId)
    (ho : o.op = .call { callee := .builtin .append, args := #[s, x], argTypes := #[t, t] })
    (ht : P.underlying t = some (.slice 87)) (h2 : (P.info? 87).map (fun i => (i.zero, i.size, i.bytes)) = some (some (.int .u32 0), 1, 4))
    (B : Nat) (v : Value) (xs : List Nat) (hv : a.eval s = v) (hown : Own B w v xs) (hB : B ≤ w.heap.size)
    (ad : Option Addr) (m c : Nat) (ys : List Nat) (hx : a.eval x = .slice ad m c) (hm : m = ys.length) (hs : Rd w ad c ys) (hl : xs.length + ys.length ≤ 1099511627776)
    (h : ∀ v' w', Own B w' v' (xs ++ ys) → Below B w w' → wpList P ops Q rest (a.put o.dst v') w') : wpList P ops Q (o :: rest) a w := by
  subst hm
  obtain ⟨i, hi, z0, z1, z2⟩ := info_parts h2
  have hd := hs.2.2.1
  have hdd : ∀ x ∈ xs ++ ys, x < 4294967296 := by
    intro x hx
    rcases List.mem_append.1 hx with h1 | h1
    · exact hown.2 x h1
    · exact hd x h1
  rcases hs.2.2.2 with ⟨rfl, rfl⟩ | ⟨x, rfl, hc⟩
  · have h0 : ys = [] := List.eq_nil_of_length_eq_zero (by have := hs.1; omega)
    subst h0
    refine wpList_append_own_none hgd s x t ho B 87 i 1 ht hi v xs.length (lims xs) hv hown.1 hx ?_
    have := h v w (by rw [List.append_nil]; exact hown) (Below.refl _ _)
    exact this
  · refine wpList_append_own w hgd s _ t ho B 87 i (.int .u32 0) 1 4 ht hi z0 z1 z2 rfl (by decide) v xs.length (lims xs) hv hown.1
      x ys.length c (lims ys) hx (by simp [lims]) (fun j u hj => ?_) (fun u hu => ?_) (by unfold maxLen; omega) (by omega) hB ?_
    · have hj' : j < ys.length := by
        have := (List.getElem?_eq_some_iff.1 hj).1
        simpa [lims] using this
      have hv : u = .int .u32 (ys.getD j 0) := by
        simp [lims, hj'] at hj
        simp [List.getD, hj', ← hj]
      rw [hv]
      exact hc j hj'
    · obtain ⟨y, _, rfl⟩ := List.mem_map.1 hu
      rfl
    · intro v' w' hown' hgrow _
      have e : lims xs ++ lims ys = lims (xs ++ ys) := by simp [lims]
      rw [e] at hown'
      refine h v' w' ⟨by rw [List.length_append]; exact hown', hdd⟩ ((Below.refl _ _).grown hgrow hB ?_)
      intro k hk
      exact (hown.block k hk).1

theorem wpList_append_lims {P : Program} {w : World} {ops : Array Oper} {rest : List Oper} {o : Oper} {a : Act} {Q : Exit → Act → World → Prop} (hgd : o.guard = none) (s x : Operand) (t : TypeId)
    (ho : o.op = .call { callee := .builtin .append, args := #[s, x], argTypes := #[t, t] })
    (ht : P.underlying t = some (.slice 87)) (h2 : (P.info? 87).map (fun i => (i.zero, i.size, i.bytes)) = some (some (.int .u32 0), 1, 4))
    (B : Nat) (v : Value) (xs : List Nat) (hv : a.eval s = v) (hown : Own B w v xs) (hB : B ≤ w.heap.size)
    (ad : Option Addr) (m c : Nat) (ys : List Nat) (hx : a.eval x = .slice ad m c) (hm : m = ys.length) (hs : Sl w ad c ys) (hl : xs.length + ys.length ≤ 1099511627776)
    (h : ∀ v' w', Own B w' v' (xs ++ ys) → Below B w w' → wpList P ops Q rest (a.put o.dst v') w') : wpList P ops Q (o :: rest) a w :=
  wpList_append_rd hgd s x t ho ht h2 B v xs hv hown hB ad m c ys hx hm hs.rd hl h

/-- a slice of one limb that was just made -/
theorem sl_one (w : World) (d : Nat) (z : Int) (hz : z = (d : Int)) (hd : d < 4294967296) (e : Nat) : Sl (w.alloc (.cells #[Value.int .u32 z] e)) (some ⟨w.heap.size, 0, none⟩) 1 [d] := by
  subst hz
  exact (row_one w d e hd).whole (by simp [maxLen])

end Go.Proofs
end

section
open Go.RowKit
namespace Go.Proofs
set_option linter.unusedVariables false
set_option linter.unusedSimpArgs false

end Go.Proofs

open Go.RowKit
namespace Go.Proofs
set_option linter.unusedVariables false
set_option linter.unusedSimpArgs false


end Go.Proofs

open Go.RowKit
namespace Go.Proofs
set_option linter.unusedVariables false
set_option linter.unusedSimpArgs false

theorem bitlen_le_limbs (a : Nat) : bitlen a ≤ 32 * (limbs a).length := by
  refine bitlen_of_lt ?_
  rw [Nat.pow_mul]
  exact lt_pow_length a

theorem bitlen_half {x : Nat} (h : x ≠ 0) : bitlen x = bitlen (x / 2) + 1 := by
  have hs := bitlen_spec h
  by_cases h1 : x / 2 = 0
  · have : x = 1 := by omega
    subst this
    decide
  · have hs2 := bitlen_spec h1
    have hb2 : bitlen (x / 2) ≠ 0 := by
      intro e
      rw [e] at hs2
      simp at hs2
      omega
    refine bitlen_unique ?_ ?_
    · have h3 : 2 ^ (bitlen (x / 2)) = 2 * 2 ^ (bitlen (x / 2) - 1) := by
        rw [← Nat.pow_succ', Nat.succ_eq_add_one, show bitlen (x / 2) - 1 + 1 = bitlen (x / 2) by omega]
      rw [h3]
      omega
    · rw [Nat.pow_succ]
      omega


theorem limb_at : ∀ (k n : Nat), (limbs n).getD k 0 = n / 4294967296 ^ k % 4294967296 := by
  intro k
  induction k with
  | zero =>
    intro n
    by_cases h : n = 0
    · subst h; rw [limbs_zero]; rfl
    · rw [limbs_pos h]; simp
  | succ k ih =>
    intro n
    by_cases h : n = 0
    · subst h; rw [limbs_zero]; simp
    · rw [limbs_pos h]
      have := ih (n / 4294967296)
      rw [Nat.div_div_eq_div_mul, Nat.mul_comm, ← Nat.pow_succ] at this
      simpa [List.getD] using this

theorem mod_bit (x r : Nat) (hr : r < 32) : x % 4294967296 / 2 ^ r % 2 = x / 2 ^ r % 2 := by
  have e : (4294967296 : Nat) = 2 ^ r * (2 * 2 ^ (31 - r)) := by
    rw [← Nat.pow_succ', ← Nat.pow_add, show r + (31 - r).succ = 32 by omega]
  have h := Nat.div_add_mod x 4294967296
  generalize x % 4294967296 = s at *
  generalize x / 4294967296 = q at *
  rw [← h, e, Nat.mul_assoc, Nat.mul_add_div (Nat.two_pow_pos r), Nat.mul_assoc, Nat.mul_add_mod]

theorem limb_bit (n i : Nat) : (limbs n).getD (i / 32) 0 / 2 ^ (i % 32) % 2 = n / 2 ^ i % 2 := by
  rw [limb_at, mod_bit _ _ (Nat.mod_lt _ (by omega)), Nat.div_div_eq_div_mul]
  have e : (4294967296 : Nat) ^ (i / 32) * 2 ^ (i % 32) = 2 ^ i := by
    rw [show (4294967296 : Nat) = 2 ^ 32 by rfl, ← Nat.pow_mul, ← Nat.pow_add]
    congr 1
    omega
  rw [e]


end Go.Proofs

open Go.RowKit
namespace Go.Proofs
set_option linter.unusedVariables false
set_option linter.unusedSimpArgs false

theorem rmul_step (p pi x y o c vr vz q r : Nat) (v0 vs : Nat) (hs : vs + (p * pi) * o = vr + (p * pi) * r) (hi : vr + c * (p * pi) = v0 + pi * (x * vz)) (hq : 4294967296 * q + r = x * y + o + c) :
    vs + q * (p * 4294967296 * pi) = v0 + pi * (x * (vz + p * y)) := by
  grind

theorem rmul_row (pi pl x c vr v0 vs vz va : Nat) (h : vr + c * (pl * pi) = v0 + pi * (x * vz)) (hs : vs + pl * pi * 0 = vr + pl * pi * c) (h0 : v0 = va * vz) : vs = (va + pi * x) * vz := by
  grind

end Go.Proofs

open Go.RowKit
namespace Go.Proofs
set_option linter.unusedVariables false
set_option linter.unusedSimpArgs false



theorem val_take_getD (xs : List Nat) (i : Nat) : val (xs.take (i + 1)) = val (xs.take i) + 4294967296 ^ i * xs.getD i 0 := by
  by_cases hi : i < xs.length
  · exact val_take_succ xs i hi
  · rw [val_take_of_le xs i (by omega), show xs.getD i 0 = 0 by simp [List.getD, show xs.length ≤ i by omega]]
    omega

theorem radd_step (p o c m n x y d q : Nat) (h : o + c * p = m + n) (hd : 4294967296 * q + d = x + y + c) : o + p * d + q * (p * 4294967296) = m + p * x + (n + p * y) := by
  grind


theorem rsub_step (p o m n b x y d q : Nat) (h : o + n = m + b * p) (hd : 4294967296 * q + d + y + b = 4294967296 + x) (hq : q ≤ 1) : o + p * d + (n + p * y) = m + p * x + (1 - q) * (p * 4294967296) := by
  obtain ⟨t, ht⟩ : ∃ t, t + q = 1 := ⟨1 - q, by omega⟩
  rw [show 1 - q = t by omega]
  have e : d + y + b = x + 4294967296 * t := by omega
  have e2 : p * (d + y + b) = p * (x + 4294967296 * t) := by rw [e]
  grind


end Go.Proofs

open Go.RowKit
namespace Go.Proofs
set_option linter.unusedVariables false
set_option linter.unusedSimpArgs false



end Go.Proofs
end

section
open Go.RowKit
namespace Go.Proofs
set_option linter.unusedVariables false
set_option linter.unusedSimpArgs false

set_option maxRecDepth 100000 in
theorem raise_calls (v : Value) (m n : Nat) (z : Int) (w : World) (hv : Num w v m) (hz : z = (n : Int)) (hb : (limbs m).length * n ≤ 400000000) (hl : (limbs m).length ≤ 400000000) (hn : n ≤ 1000000000) :
    Calls Tryz.prog 106 #[v, .int .i64 z] w (RetNum w (m ^ n)) := by
  subst hz
  have h1 := num_one w 87
  have hb1 := below_alloc w (.cells #[Value.int .u32 1] 87)
  go_enter Tryz.func106, Tryz.ntmps106
  go_wp2_with fail
  obtain ⟨w1, hw1⟩ : ∃ w1 : World, w1 = w.alloc (.cells #[Value.int .u32 1] 87) := ⟨_, rfl⟩
  rw [← hw1] at h1 hb1 ⊢
  have hv1 := hv.mono hb1
  clear hw1
  go_loopw [0, 1, 5] (fun av nv ov wr => ∃ (j t k : Nat), nv = .int .i64 k ∧ j + t * k = n ∧ (1 ≤ k → t ≤ n) ∧ Num wr av (m ^ t) ∧ Num wr ov (m ^ j) ∧ Fresh w.heap.size ov ∧ Below w.heap.size w wr ∧ k ≤ n)
    (fun _ nv _ _ => (intOf nv).toNat)
  case atStart => exact ⟨0, 1, n, rfl, by omega, fun h => h, by rw [Nat.pow_one]; exact hv1, by rw [Nat.pow_zero]; exact h1, Nat.le_refl _, hb1, Nat.le_refl _⟩
  case round =>
    obtain ⟨j, t, k, rfl, hjt, htn, hav, hov, hfr, hbel, hkn⟩ := hrel
    have Hjt := Lib.hid hjt
    have Htn := Lib.hid htn
    clear hjt htn
    by_cases h0 : 0 < k
    · have htn := Htn.out h0
      have hjn : j ≤ n := by have := Hjt.out; omega
      have lt1 : (limbs (m ^ t)).length ≤ 1000000000 := by
        have h1 := limbs_length_pow m t
        have h2 := Nat.mul_le_mul_left (limbs m).length htn
        omega
      have lj1 : (limbs (m ^ j)).length ≤ 1000000000 := by
        have h1 := limbs_length_pow m j
        have h2 := Nat.mul_le_mul_left (limbs m).length hjn
        omega
      have e1 := and_one_i64 k (by omega)
      have hk2 : (k : Int) / 2 = ((k / 2 : Nat) : Int) := by omega
      have hdm := Nat.div_add_mod k 2
      have hmp : m ^ t * m ^ t = m ^ (2 * t) := by rw [← Nat.pow_add, Nat.two_mul]
      have hop : m ^ j * m ^ t = m ^ (j + t) := by rw [← Nat.pow_add]
      have Hmp := Lib.hid hmp
      have Hop := Lib.hid hop
      have Hk2 := Lib.hid hk2
      clear hmp hop hk2 htn
      rcases Nat.mod_two_eq_zero_or_one k with hpar | hpar
      · rw [hpar] at e1
        have hk1 : 1 < k := by omega
        have hrel : j + 2 * t * (k / 2) = n := by rw [← Hjt.out, Nat.mul_comm 2 t, Nat.mul_assoc, show 2 * (k / 2) = k by omega]
        have htn2 : 2 * t ≤ n := by
          have := Nat.le_mul_of_pos_right (2 * t) (show 0 < k / 2 by omega)
          omega
        have Hrel := Lib.hid hrel
        clear hrel hpar hdm
        go_wp2_with (go_at_call 98; refine (times_calls _ _ _ _ _ hav hav lt1 lt1).mono ?_; rintro e w2 ⟨v2, rfl, hv2, hf2, hb2⟩)
        go_roundw
        case rel => exact ⟨j, 2 * t, k / 2, congrArg (Value.int .i64) (by omega), Hrel.out, fun _ => htn2, by rw [← Hmp.out]; exact hv2, hov.mono hb2, hfr, below_trans hbel hb2, by omega⟩
        case measure => simp [intOf]; omega
      · rw [hpar] at e1
        by_cases hk1 : 1 < k
        · have hrel : j + t + 2 * t * (k / 2) = n := by
            rw [← Hjt.out, Nat.mul_comm 2 t, Nat.mul_assoc, Nat.add_assoc]
            congr 1
            have : t * k = t * (2 * (k / 2) + 1) := by congr 1; omega
            rw [this, Nat.mul_add]; omega
          have htn2 : 2 * t ≤ n := by
            have := Nat.le_mul_of_pos_right (2 * t) (show 0 < k / 2 by omega)
            omega
          have Hrel := Lib.hid hrel
          clear hrel hpar hdm
          go_wp2_with fail
          refine (times_calls _ _ _ _ _ hov hav lj1 lt1).mono ?_
          rintro e w2 ⟨v2, rfl, hv2, hf2, hb2⟩
          have hav2 := hav.mono hb2
          go_wp2_with fail
          refine (times_calls _ _ _ _ _ hav2 hav2 lt1 lt1).mono ?_
          rintro e w3 ⟨v3, rfl, hv3, hf3, hb3⟩
          go_wp2
          go_roundw
          case rel => exact ⟨j + t, 2 * t, k / 2, congrArg (Value.int .i64) (by omega), Hrel.out, fun _ => htn2, by rw [← Hmp.out]; exact hv3, by rw [← Hop.out]; exact hv2.mono hb3, hf2.mono hbel.size, below_trans (below_trans hbel hb2) hb3, by omega⟩
          case measure => simp [intOf]; omega
        · obtain rfl : k = 1 := by omega
          have hrel : j + t + t * 0 = n := by rw [← Hjt.out]; omega
          have Hrel := Lib.hid hrel
          clear hrel hpar hdm
          go_wp2_with (go_at_call 98; refine (times_calls _ _ _ _ _ hov hav lj1 lt1).mono ?_; rintro e w2 ⟨v2, rfl, hv2, hf2, hb2⟩)
          go_roundw
          case rel => exact ⟨j + t, t, 0, rfl, Hrel.out, fun h => (Nat.not_lt_zero 0 h).elim, hav.mono hb2, by rw [← Hop.out]; exact hv2, hf2.mono hbel.size, below_trans hbel hb2, by omega⟩
          case measure => simp [intOf]
    · obtain rfl : k = 0 := by omega
      have hj : j = n := by have := Hjt.out; omega
      have Hj := Lib.hid hj
      clear hj
      go_wp2
      go_ret
      rw [Hj.out] at hov
      exact ⟨_, rfl, hov, hfr, hbel⟩

end Go.Proofs

open Go.RowKit
namespace Go.Proofs
set_option linter.unusedVariables false
set_option linter.unusedSimpArgs false

theorem row_two (w : World) (x y : Nat) (e : Nat) (hx : x < 4294967296) (hy : y < 4294967296) : Row (w.alloc (.cells #[Value.int .u32 (x : Int), Value.int .u32 (y : Int)] e)) w.heap.size [x, y] := by
  refine ⟨by intro z hz; simp at hz; omega, e, ?_⟩
  rw [heap_alloc_new]; rfl

theorem ok_one (a : Nat) (h : (limbs a).length ≤ 262144) : firstErr [limbs a] = 0 := by
  simp [firstErr, chk_limbs, show ¬ 262144 < (limbs a).length by omega]
theorem ok_two (a b : Nat) (h : (limbs a).length ≤ 262144) (k : (limbs b).length ≤ 262144) : firstErr [limbs a, limbs b] = 0 := by
  simp [firstErr, chk_limbs, show ¬ 262144 < (limbs a).length by omega, show ¬ 262144 < (limbs b).length by omega]
theorem ok_three (a b c : Nat) (h : (limbs a).length ≤ 262144) (k : (limbs b).length ≤ 262144) (l : (limbs c).length ≤ 262144) : firstErr [limbs a, limbs b, limbs c] = 0 := by
  simp [firstErr, chk_limbs, show ¬ 262144 < (limbs a).length by omega, show ¬ 262144 < (limbs b).length by omega, show ¬ 262144 < (limbs c).length by omega]

/-- Of returns the number -/
theorem of_calls (n : Nat) (z : Int) (w : World) (hz : z = (n : Int)) (hn : n < 18446744073709551616) :
    Calls Tryz.prog 82 #[.int .u64 z] w (RetNum w n) := by
  subst hz
  have hlo : (n : Int) % 4294967296 = ((n % 4294967296 : Nat) : Int) := rfl
  have hhi : (n : Int) / 4294967296 = ((n / 4294967296 : Nat) : Int) := rfl
  have hhi2 : (n : Int) / 4294967296 % 4294967296 = ((n / 4294967296 : Nat) : Int) := by omega
  have hr := row_two w (n % 4294967296) (n / 4294967296) 87 (by omega) (by omega)
  have hb := below_alloc w (.cells #[Value.int .u32 ((n % 4294967296 : Nat) : Int), Value.int .u32 ((n / 4294967296 : Nat) : Int)] 87)
  have hs := hr.whole (by simp [maxLen])
  have hval : val [n % 4294967296, n / 4294967296] = n := by simp only [val]; omega
  generalize n % 4294967296 = lo at *
  generalize n / 4294967296 = hi at *
  go_enter Tryz.func82, Tryz.ntmps82
  go_wp2_with fail
  refine (trim_calls _ _ 2 _ _ hs rfl).mono ?_
  rintro e w1 ⟨k, rfl, hv, rfl⟩
  rw [hval] at hv
  go_wp2
  go_ret
  exact ⟨_, rfl, hv, Nat.le_refl _, hb⟩

theorem mul_err (v1 v2 : Value) (x1 x2 : List Nat) (w : World) (h1 : Raw w v1 x1) (h2 : Raw w v2 x2) (he : firstErr [x1, x2] ≠ 0) :
    Calls Tryz.prog 83 #[v1, v2] w fun e w' => e = .returned (.tuple #[.slice none 0 0, .int .i64 (firstErr [x1, x2])]) ∧ Below w.heap.size w w' := by
  have t1 : (firstErr [x1, x2] != 0) = true := by rw [bne_iff_ne]; exact he
  clear he
  have g1 := h1
  obtain ⟨ad1, c1, rfl, s1⟩ := g1
  have g2 := h2
  obtain ⟨ad2, c2, rfl, s2⟩ := g2
  go_enter Tryz.func83, Tryz.ntmps83
  go_wp2_with fail
  refine (valid2 _ _ x1 x2 w h1 h2).mono ?_
  rintro e w' ⟨rfl, rfl⟩
  go_wp2
  go_ret2
  exact ⟨rfl, below_alloc _ _⟩



theorem cmp_err (v1 v2 : Value) (x1 x2 : List Nat) (w : World) (h1 : Raw w v1 x1) (h2 : Raw w v2 x2) (he : firstErr [x1, x2] ≠ 0) :
    Calls Tryz.prog 61 #[v1, v2] w fun e w' => e = .returned (.tuple #[.int .i64 0, .int .i64 (firstErr [x1, x2])]) ∧ Below w.heap.size w w' := by
  have t1 : (firstErr [x1, x2] != 0) = true := by rw [bne_iff_ne]; exact he
  clear he
  have g1 := h1
  obtain ⟨ad1, c1, rfl, s1⟩ := g1
  have g2 := h2
  obtain ⟨ad2, c2, rfl, s2⟩ := g2
  go_enter Tryz.func61, Tryz.ntmps61
  go_wp2_with fail
  refine (valid2 _ _ x1 x2 w h1 h2).mono ?_
  rintro e w' ⟨rfl, rfl⟩
  go_wp2
  go_ret2
  exact ⟨rfl, below_alloc _ _⟩

theorem divmod_err (v1 v2 : Value) (x1 x2 : List Nat) (w : World) (h1 : Raw w v1 x1) (h2 : Raw w v2 x2) (he : firstErr [x1, x2] ≠ 0) :
    Calls Tryz.prog 99 #[v1, v2] w fun e w' => e = .returned (.tuple #[.slice none 0 0, .slice none 0 0, .int .i64 (firstErr [x1, x2])]) ∧ Below w.heap.size w w' := by
  have t1 : (firstErr [x1, x2] != 0) = true := by rw [bne_iff_ne]; exact he
  clear he
  have g1 := h1
  obtain ⟨ad1, c1, rfl, s1⟩ := g1
  have g2 := h2
  obtain ⟨ad2, c2, rfl, s2⟩ := g2
  go_enter Tryz.func99, Tryz.ntmps99
  go_wp2_with fail
  refine (valid2 _ _ x1 x2 w h1 h2).mono ?_
  rintro e w' ⟨rfl, rfl⟩
  go_wp2
  go_ret3
  exact ⟨rfl, below_alloc _ _⟩


theorem uint64_err (v1 : Value) (x1 : List Nat) (w : World) (h1 : Raw w v1 x1) (he : firstErr [x1] ≠ 0) :
    Calls Tryz.prog 100 #[v1] w fun e w' => e = .returned (.tuple #[.int .u64 0, .int .i64 (firstErr [x1])]) ∧ Below w.heap.size w w' := by
  have t1 : (firstErr [x1] != 0) = true := by rw [bne_iff_ne]; exact he
  clear he
  have g1 := h1
  obtain ⟨ad1, c1, rfl, s1⟩ := g1
  go_enter Tryz.func100, Tryz.ntmps100
  go_wp2_with fail
  refine (valid1 _ x1 w h1).mono ?_
  rintro e w' ⟨rfl, rfl⟩
  go_wp2
  go_ret2
  exact ⟨rfl, below_alloc _ _⟩


theorem pow_err (v1 : Value) (x1 : List Nat) (z : Int) (w : World) (h1 : Raw w v1 x1) (he : firstErr [x1] ≠ 0) :
    Calls Tryz.prog 81 #[v1, .int .i64 z] w fun e w' => e = .returned (.tuple #[.slice none 0 0, .int .i64 (firstErr [x1])]) ∧ Below w.heap.size w w' := by
  have t1 : (firstErr [x1] != 0) = true := by rw [bne_iff_ne]; exact he
  clear he
  have g1 := h1
  obtain ⟨ad1, c1, rfl, s1⟩ := g1
  go_enter Tryz.func81, Tryz.ntmps81
  go_wp2_with fail
  refine (valid1 _ x1 w h1).mono ?_
  rintro e w' ⟨rfl, rfl⟩
  go_wp2
  go_ret2
  exact ⟨rfl, below_alloc _ _⟩





theorem mul_ok (v1 v2 : Value) (a b : Nat) (w : World) (h1 : Num w v1 a) (h2 : Num w v2 b) (hl : (limbs a).length + (limbs b).length ≤ 262144) :
    Calls Tryz.prog 83 #[v1, v2] w (Got w (a * b) 0) := by
  have t1 : (firstErr [limbs a, limbs b] != 0) = false := by rw [bne_eq_false_iff_eq]; exact ok_two a b (by omega) (by omega)
  have hlm := limbs_length_mul a b
  have t2 : decide (262145 < ((limbs a).length : Int) + ((limbs b).length : Int)) = false := by rw [decide_eq_false_iff_not]; omega
  have k1 := h1.mono (below_alloc w (.cells #[v1, v2] 119))
  have k2 := h2.mono (below_alloc w (.cells #[v1, v2] 119))
  have hb1 := below_alloc w (.cells #[v1, v2] 119)
  have g1 := h1
  have g2 := h2
  obtain ⟨ad1, c1, rfl, s1⟩ := g1
  obtain ⟨ad2, c2, rfl, s2⟩ := g2
  go_enter Tryz.func83, Tryz.ntmps83
  go_wp2_with (go_at_call 79; refine (valid2 _ _ (limbs a) (limbs b) w h1.raw h2.raw).mono ?_; rintro e w' ⟨rfl, rfl⟩)
  go_wp2_with fail
  refine (times_calls _ _ a b _ k1 k2 (by omega) (by omega)).mono ?_
  rintro e w1 ⟨v, rfl, hv, hf, hb⟩
  go_wp2_with fail
  refine (short_calls v (a * b) _ _ hv hf).mono ?_
  rw [if_neg (by omega), if_neg (by omega)]
  rintro e w2 ⟨v', rfl, hv', hf', rfl⟩
  go_wp2
  go_ret2
  exact ⟨_, rfl, hv', hf'.mono hb1.size, below_trans hb1 hb⟩

theorem cmp_ok (v1 v2 : Value) (a b : Nat) (w : World) (h1 : Num w v1 a) (h2 : Num w v2 b) (hl : (limbs a).length ≤ 262144 ∧ (limbs b).length ≤ 262144) :
    Calls Tryz.prog 61 #[v1, v2] w fun e w' => e = .returned (.tuple #[.int .i64 (cmpInt a b), .int .i64 0]) ∧ Below w.heap.size w w' := by
  have t1 : (firstErr [limbs a, limbs b] != 0) = false := by rw [bne_eq_false_iff_eq]; exact ok_two a b (by omega) (by omega)
  have k1 := h1.mono (below_alloc w (.cells #[v1, v2] 119))
  have k2 := h2.mono (below_alloc w (.cells #[v1, v2] 119))
  have hb1 := below_alloc w (.cells #[v1, v2] 119)
  have g1 := h1
  have g2 := h2
  obtain ⟨ad1, c1, rfl, s1⟩ := g1
  obtain ⟨ad2, c2, rfl, s2⟩ := g2
  go_enter Tryz.func61, Tryz.ntmps61
  go_wp2_with (go_at_call 79; refine (valid2 _ _ (limbs a) (limbs b) w h1.raw h2.raw).mono ?_; rintro e w' ⟨rfl, rfl⟩)
  refine (compare_calls _ _ a b _ _ k1 k2 rfl (by omega) (by omega)).mono ?_
  rintro e w1 ⟨rfl, hb⟩
  go_wp2
  go_ret2
  exact ⟨rfl, below_trans hb1 hb⟩
theorem divmod_ok (v1 v2 : Value) (a b : Nat) (w : World) (h1 : Num w v1 a) (h2 : Num w v2 b) (hl : (limbs a).length ≤ 262144 ∧ (limbs b).length ≤ 262144) (hb0 : b ≠ 0) :
    Calls Tryz.prog 99 #[v1, v2] w fun e w' => ∃ q r, e = .returned (.tuple #[q, r, .int .i64 0]) ∧ Num w' q (a / b) ∧ Num w' r (a % b) ∧ Fresh w.heap.size q ∧ Fresh w.heap.size r ∧ Sep q r ∧ Below w.heap.size w w' := by
  have t1 : (firstErr [limbs a, limbs b] != 0) = false := by rw [bne_eq_false_iff_eq]; exact ok_two a b (by omega) (by omega)
  have hbl : (limbs b).length ≠ 0 := fun e => hb0 (limbs_eq_nil.mp (List.eq_nil_of_length_eq_zero e))
  have k1 := h1.mono (below_alloc w (.cells #[v1, v2] 119))
  have k2 := h2.mono (below_alloc w (.cells #[v1, v2] 119))
  have hb1 := below_alloc w (.cells #[v1, v2] 119)
  have g1 := h1
  have g2 := h2
  obtain ⟨ad1, c1, rfl, s1⟩ := g1
  obtain ⟨ad2, c2, rfl, s2⟩ := g2
  go_enter Tryz.func99, Tryz.ntmps99
  go_wp2_with (go_at_call 79; refine (valid2 _ _ (limbs a) (limbs b) w h1.raw h2.raw).mono ?_; rintro e w' ⟨rfl, rfl⟩)
  refine (part_calls _ _ a b _ k1 k2 hb0 (by omega) (by omega)).mono ?_
  rintro e w1 ⟨q, r, rfl, hq, hr, hfq, hfr, hsep, hb⟩
  go_wp2
  go_ret3
  exact ⟨_, _, rfl, hq, hr, hfq.mono hb1.size, hfr.mono hb1.size, hsep, below_trans hb1 hb⟩

theorem divmod_zero (v1 v2 : Value) (a : Nat) (w : World) (h1 : Num w v1 a) (h2 : Num w v2 0) (hl : (limbs a).length ≤ 262144) :
    Calls Tryz.prog 99 #[v1, v2] w fun e w' => e = .returned (.tuple #[.slice none 0 0, .slice none 0 0, .int .i64 4]) ∧ Below w.heap.size w w' := by
  have t1 : (firstErr [limbs a, []] != 0) = false := by rw [bne_eq_false_iff_eq, ← limbs_zero]; exact ok_two a 0 (by omega) (by rw [limbs_zero]; simp)
  have g1 := h1
  obtain ⟨ad1, c1, rfl, s1⟩ := g1
  have g2 := h2
  obtain ⟨ad2, c2, rfl, s2⟩ := g2
  have hb1 := below_alloc w (.cells #[.slice ad1 (limbs a).length c1, .slice ad2 (limbs 0).length c2] 119)
  have hr2 := h2.raw
  rw [limbs_zero] at *
  change Raw w (.slice ad2 0 c2) [] at hr2
  go_enter Tryz.func99, Tryz.ntmps99
  go_wp2_with (go_at_call 79; refine (valid2 _ _ (limbs a) [] w h1.raw hr2).mono ?_; rintro e w' ⟨rfl, rfl⟩)
  go_ret3
  exact ⟨rfl, hb1⟩

end Go.Proofs

open Go.RowKit
namespace Go.Proofs
set_option linter.unusedVariables false
set_option linter.unusedSimpArgs false

theorem limbs_two_pow (c : Nat) : (limbs (2 ^ c)).length ≤ c + 1 := by
  refine limbs_length_le (Nat.lt_of_lt_of_le (Nat.pow_lt_pow_right (by omega) (show c < 32 * (c + 1) by omega)) ?_)
  rw [Nat.pow_mul]
  exact Nat.pow_le_pow_left (by omega) _

theorem bitlen_limbs_le (a : Nat) : bitlen a ≤ 32 * (limbs a).length := by
  refine bitlen_of_lt ?_
  rw [Nat.pow_mul]
  exact lt_pow_length a

theorem one_limb (w : World) (e : Nat) : Num (w.alloc (.cells #[Value.int .u32 1] e)) (.slice (some ⟨w.heap.size, 0, none⟩) 1 1) 1 := num_one w e

end Go.Proofs

open Go.RowKit
namespace Go.Proofs
set_option linter.unusedVariables false
set_option linter.unusedSimpArgs false

end Go.Proofs

open Go.RowKit
namespace Go.Proofs
set_option linter.unusedVariables false
set_option linter.unusedSimpArgs false


theorem uint64_long (v : Value) (a : Nat) (w : World) (h1 : Num w v a) (hl : (limbs a).length ≤ 262144) (h2 : 2 < (limbs a).length) :
    Calls Tryz.prog 100 #[v] w fun e w' => e = .returned (.tuple #[.int .u64 0, .int .i64 5]) ∧ Below w.heap.size w w' := by
  have t1 : (firstErr [limbs a] != 0) = false := by rw [bne_eq_false_iff_eq]; exact ok_one a (by omega)
  have hb1 := below_alloc w (.cells #[v] 119)
  have g1 := h1
  obtain ⟨ad1, c1, rfl, s1⟩ := g1
  go_enter Tryz.func100, Tryz.ntmps100
  go_wp2_with (go_at_call 79; refine (valid1 _ (limbs a) w h1.raw).mono ?_; rintro e w' ⟨rfl, rfl⟩)
  go_ret2
  exact ⟨rfl, hb1⟩

theorem or_first (x : Nat) (hx : x < 4294967296) : bits BinOp.or IntKind.u64 0 (x : Int) = (x : Int) := by
  have := or_limbs 0 x (by omega) hx
  simpa using this

theorem or_second (x y : Nat) (hx : x < 4294967296) (hy : y < 4294967296) : bits BinOp.or IntKind.u64 (x : Int) ((y : Int) * 4294967296) = ((y * 4294967296 + x : Nat) : Int) := or_limbs' y x hy hx

set_option maxRecDepth 100000 in
theorem uint64_ok (v : Value) (a : Nat) (w : World) (h1 : Num w v a) (h2 : (limbs a).length ≤ 2) :
    Calls Tryz.prog 100 #[v] w fun e w' => e = .returned (.tuple #[.int .u64 (a : Int), .int .i64 0]) ∧ Below w.heap.size w w' := by
  have t1 : (firstErr [limbs a] != 0) = false := by rw [bne_eq_false_iff_eq]; exact ok_one a (by omega)
  have hb1 := below_alloc w (.cells #[v] 119)
  have g1 := h1
  have hv := val_limbs a
  obtain ⟨ad1, c1, rfl, s1⟩ := g1
  have s2 := s1.mono (Nat.le_refl _) hb1
  have Hv := Lib.hid hv
  have h1r := h1.raw
  clear hv h1 s1
  obtain ⟨W, hW⟩ : ∃ W : World, W = w.alloc (.cells #[.slice ad1 (limbs a).length c1] 119) := ⟨_, rfl⟩
  go_enter Tryz.func100, Tryz.ntmps100
  go_wp2_with (go_at_call 79; refine (valid1 _ (limbs a) w h1r).mono ?_; rintro e w' ⟨rfl, rfl⟩)
  rw [← hW] at s2 hb1 ⊢
  clear hW h1r t1
  generalize limbs a = xs at *
  have hc := s2.1
  have hcm := s2.2.1
  unfold maxLen at hcm
  go_loop [5, 19] (fun vv iv => ∃ i : Nat, i ≤ xs.length ∧ iv = .int .i64 i ∧ vv = .int .u64 ((val (xs.take i) : Nat) : Int)) (fun _ iv => xs.length - (intOf iv).toNat)
  case atStart => exact ⟨0, Nat.zero_le _, rfl, rfl⟩
  case round =>
    obtain ⟨i, hi, rfl, rfl⟩ := hrel
    by_cases hlt : i < xs.length
    · obtain ⟨b, o, rfl, hbs, hcell, _⟩ := s2.open hlt
      have hx := s2.lt i
      have ht := val_take_succ xs i hlt
      obtain ⟨x, ex⟩ : ∃ x, xs.getD i 0 = x := ⟨_, rfl⟩
      rw [ex] at hcell hx ht
      have hvl := val_lt (xs.take i) (fun y hy => s2.2.2.1 y (List.mem_of_mem_take hy))
      rw [List.length_take, Nat.min_eq_left (by omega)] at hvl
      obtain ⟨v0, ev0⟩ : ∃ x, val (xs.take i) = x := ⟨_, rfl⟩
      rw [ev0] at ht hvl ⊢
      have Ht := Lib.hid ht
      clear ht ex
      rcases (show i = 0 ∨ i = 1 by omega) with rfl | rfl
      · rw [Nat.pow_zero] at hvl
        obtain rfl : v0 = 0 := by omega
        have hor := or_first x hx
        rw [Nat.add_zero] at hcell
        have hl0 : 0 < xs.length := hlt
        clear ev0 hvl hlt
        go_wp2
        go_round
        case rel => exact ⟨1, by omega, by go_num, by rw [Ht.out]; exact congrArg (Value.int .u64) (by omega)⟩
        case measure => simp [intOf]; omega
      · rw [Nat.pow_one] at hvl
        have hor := or_second v0 x hvl hx
        clear ev0
        go_wp2
        go_round
        case rel => exact ⟨2, by omega, by go_num, by rw [Ht.out]; exact congrArg (Value.int .u64) (by omega)⟩
        case measure => simp [intOf]; omega
    · obtain rfl : i = xs.length := by omega
      rw [List.take_of_length_le (Nat.le_refl _), Hv.out]
      go_wp2
      go_ret2
      exact ⟨rfl, hb1⟩


end Go.Proofs
end

section
open Go.RowKit
namespace Go.Proofs
set_option linter.unusedVariables false
set_option linter.unusedSimpArgs false

theorem u32_pow_lt {k : Nat} (h : k < 32) : 2 ^ k < 4294967296 := by
  have := Nat.pow_lt_pow_right (show 1 < 2 by omega) h
  omega
theorem u31_pow_lt {k : Nat} (h : k < 31) : 2 ^ k * 2 < 4294967296 := by
  have := u32_pow_lt (show k + 1 < 32 by omega)
  rwa [Nat.pow_succ] at this

theorem getD_val : ∀ (xs : List Nat) (k : Nat), (∀ x ∈ xs, x < 4294967296) → xs.getD k 0 = val xs / 4294967296 ^ k % 4294967296 := by
  intro xs
  induction xs with
  | nil => intro k _; simp [val, List.getD]
  | cons x xs ih =>
    intro k h
    have hx := h x (by simp)
    cases k with
    | zero => simp only [val, Nat.pow_zero, Nat.div_one]; simp only [List.getD_cons_zero]; omega
    | succ k =>
      have e := ih k (fun y hy => h y (by simp [hy]))
      have e2 : val (x :: xs) / 4294967296 ^ (k + 1) = val xs / 4294967296 ^ k := by
        rw [Nat.pow_succ, Nat.mul_comm, ← Nat.div_div_eq_div_mul]
        congr 1
        simp only [val]
        omega
      rw [e2, ← e]
      simp

theorem limb_room (R : List Nat) (hR : ∀ x ∈ R, x < 4294967296) (i t : Nat) (h : val R = t * 2 ^ (i + 1)) : R.getD (i / 32) 0 + 2 ^ (i % 32) < 4294967296 := by
  have hr : i % 32 < 32 := Nat.mod_lt _ (by omega)
  rw [getD_val R _ hR, h]
  have e1 : (2 : Nat) ^ (i + 1) = 4294967296 ^ (i / 32) * 2 ^ (i % 32 + 1) := by
    rw [show (4294967296 : Nat) = 2 ^ 32 by rfl, ← Nat.pow_mul, ← Nat.pow_add]
    congr 1
    omega
  have e2 : (4294967296 : Nat) = 2 ^ (i % 32 + 1) * 2 ^ (31 - i % 32) := by
    rw [← Nat.pow_add, show i % 32 + 1 + (31 - i % 32) = 32 by omega]
  rw [e1, Nat.mul_left_comm, Nat.mul_div_cancel_left _ (by exact Nat.pow_pos (by omega)), Nat.mul_comm t]
  have hp : 0 < 2 ^ (31 - i % 32) := Nat.two_pow_pos _
  have hp2 : 0 < 2 ^ (i % 32) := Nat.two_pow_pos _
  have e3 : 2 ^ (i % 32 + 1) * t % 4294967296 = 2 ^ (i % 32 + 1) * (t % 2 ^ (31 - i % 32)) := by
    rw [e2, Nat.mul_mod_mul_left]
  rw [e3, Nat.pow_succ]
  have hm := Nat.mod_lt t hp
  have hle : 2 ^ (i % 32) * 2 * (t % 2 ^ (31 - i % 32) + 1) ≤ 2 ^ (i % 32) * 2 * 2 ^ (31 - i % 32) := Nat.mul_le_mul_left _ hm
  rw [Nat.pow_succ] at e2
  rw [← e2, Nat.mul_add] at hle
  omega

theorem pow_limb (i : Nat) : 4294967296 ^ (i / 32) * 2 ^ (i % 32) = 2 ^ i := by
  rw [show (4294967296 : Nat) = 2 ^ 32 by rfl, ← Nat.pow_mul, ← Nat.pow_add]
  congr 1
  omega

theorem bit_step (m i : Nat) : m / 2 ^ i = 2 * (m / 2 ^ (i + 1)) + m / 2 ^ i % 2 := by
  rw [Nat.pow_succ, ← Nat.div_div_eq_div_mul]
  omega

/-- long division by two: the next bit -/
theorem div_step (M bit b : Nat) (hb : b ≠ 0) (hbit : bit < 2) :
    (2 * (M % b) + bit < b → (2 * M + bit) / b = 2 * (M / b) ∧ (2 * M + bit) % b = 2 * (M % b) + bit) ∧
    (b ≤ 2 * (M % b) + bit → (2 * M + bit) / b = 2 * (M / b) + 1 ∧ (2 * M + bit) % b = 2 * (M % b) + bit - b) := by
  have h1 := Nat.div_add_mod M b
  have h2 := Nat.mod_lt M (show 0 < b by omega)
  generalize M / b = q at *
  generalize M % b = r at *
  constructor
  · intro h
    have e : 2 * M + bit = b * (2 * q) + (2 * r + bit) := by rw [← h1]; grind
    rw [e]
    constructor
    · rw [Nat.mul_add_div (by omega), Nat.div_eq_of_lt h, Nat.add_zero]
    · rw [Nat.mul_add_mod, Nat.mod_eq_of_lt h]
  · intro h
    have e : 2 * M + bit = b * (2 * q + 1) + (2 * r + bit - b) := by
      have : b * (2 * q + 1) = 2 * (b * q) + b := by grind
      omega
    rw [e]
    constructor
    · rw [Nat.mul_add_div (by omega), Nat.div_eq_of_lt (by omega), Nat.add_zero]
    · rw [Nat.mul_add_mod, Nat.mod_eq_of_lt (by omega)]

theorem set_quo (R : List Nat) (i Q : Nat) (h : val R = Q * 2 ^ (i + 1)) (hi : i / 32 < R.length) :
    val (R.set (i / 32) (R.getD (i / 32) 0 + 2 ^ (i % 32))) = (2 * Q + 1) * 2 ^ i := by
  have hs := val_set R (i / 32) (R.getD (i / 32) 0 + 2 ^ (i % 32)) hi
  rw [Nat.mul_add, pow_limb, h, Nat.pow_succ] at hs
  generalize 4294967296 ^ (i / 32) * R.getD (i / 32) 0 = y at *
  generalize 2 ^ i = p at *
  have e : (2 * Q + 1) * p = Q * (p * 2) + p := by grind
  omega

theorem num_empty {B : Nat} {w : World} {v : Value} (h : Own B w v []) : Num w v 0 := by
  have := h.num (by rw [show val [] = 0 by rfl, limbs_zero])
  exact this.1


end Go.Proofs

open Go.RowKit
namespace Go.Proofs
set_option linter.unusedVariables false
set_option linter.unusedSimpArgs false

theorem pow_lt_u32 {k : Nat} (h : k < 32) : 2 ^ k < 4294967296 := by
  have := Nat.pow_lt_pow_right (show 1 < 2 by omega) h
  omega
theorem pow_lt_u31 {k : Nat} (h : k < 31) : 2 ^ k * 2 < 4294967296 := by
  have := pow_lt_u32 (show k + 1 < 32 by omega)
  rwa [Nat.pow_succ] at this

theorem val_zeros_append (k : Nat) (xs : List Nat) : val (List.replicate k 0 ++ xs) = 4294967296 ^ k * val xs := by
  rw [val_append, val_replicate, List.length_replicate, Nat.zero_add]

theorem left_val (m n : Nat) : 4294967296 ^ (n / 32) * m * 2 ^ (n % 32) = m * 2 ^ n := by
  have e : (4294967296 : Nat) ^ (n / 32) * 2 ^ (n % 32) = 2 ^ n := by
    rw [show (4294967296 : Nat) = 2 ^ 32 by rfl, ← Nat.pow_mul, ← Nat.pow_add]
    congr 1
    omega
  rw [← e]
  generalize 4294967296 ^ (n / 32) = p
  generalize 2 ^ (n % 32) = q
  grind



end Go.Proofs

open Go.RowKit
namespace Go.Proofs
set_option linter.unusedVariables false
set_option linter.unusedSimpArgs false



end Go.Proofs

open Go.RowKit
namespace Go.Proofs
set_option linter.unusedVariables false
set_option linter.unusedSimpArgs false

end Go.Proofs
end

section
open Go.RowKit
namespace Go.Proofs
set_option linter.unusedVariables false
set_option linter.unusedSimpArgs false

theorem pow_small {a n : Nat} (ha : a ≤ 1) (hn : n ≠ 0) : a ^ n = a := by
  rcases (show a = 0 ∨ a = 1 by omega) with rfl | rfl
  · exact Nat.zero_pow (by omega)
  · exact Nat.one_pow n

set_option maxRecDepth 100000 in
/-- power: of 0 and 1 whatever the exponent, else where it is short -/
theorem power_ok (v : Value) (a n : Nat) (z : Int) (w : World) (h1 : Num w v a) (hz : z = (n : Int)) (hl : (limbs a).length ≤ 262144) (hr : a ≤ 1 ∨ (limbs a).length * n ≤ 262143) (hn2 : n < 9223372036854775808) :
    Calls Tryz.prog 95 #[v, .int .i64 z] w (Got w (a ^ n) 0) := by
  subst hz
  have g1 := h1
  obtain ⟨ad1, c1, rfl, s1⟩ := g1
  have ho := num_one w 87
  have hb1 := below_alloc w (.cells #[Value.int .u32 1] 87)
  have k1 := h1.mono hb1
  by_cases hn : n = 0
  · subst hn
    rw [Nat.pow_zero]
    go_enter Tryz.func95, Tryz.ntmps95
    go_wp2
    go_ret2
    exact ⟨_, rfl, ho, Nat.le_refl _, hb1⟩
  · have hn0 : ((n : Int) == 0) = false := by rw [beq_eq_false_iff_ne]; omega
    have hn1 : 1 ≤ n := by omega
    by_cases ha0 : a = 0
    · have t4 : (((limbs a).length : Int) == 0) = true := by rw [ha0, limbs_zero]; rfl
      rw [pow_small (by omega) hn]
      clear hr ha0 hn hn1
      go_enter Tryz.func95, Tryz.ntmps95
      go_wp2_with fail
      refine (own_calls _ a _ k1 (by omega)).mono ?_
      rintro e w2 ⟨v2, rfl, hv2, hf2, b2⟩
      go_wp2
      go_ret2
      exact ⟨_, rfl, hv2, hf2.mono hb1.size, below_trans hb1 b2⟩
    · have hal : (limbs a).length ≠ 0 := fun e => ha0 (limbs_eq_nil.mp (List.eq_nil_of_length_eq_zero e))
      have t4 : (((limbs a).length : Int) == 0) = false := by rw [beq_eq_false_iff_ne]; omega
      have hl1 : (limbs 1).length ≤ 1 := limbs_length_le (by omega)
      by_cases ha1 : a = 1
      · have hc : cmpInt a 1 = 0 := by rw [ha1]; exact cmpInt_eq 1
        rw [pow_small (by omega) hn]
        have C := compare_calls (.slice ad1 (limbs a).length c1) _ a 1 _ _ k1 ho hc (by omega) (by omega)
        clear hr ha0 hn hn1 ha1 hc
        go_enter Tryz.func95, Tryz.ntmps95
        go_wp2_with fail
        refine C.mono ?_
        clear C
        rintro e w2 ⟨rfl, b2⟩
        have k2 := k1.mono b2
        go_wp2_with fail
        refine (own_calls _ a _ k2 (by omega)).mono ?_
        rintro e w3 ⟨v3, rfl, hv3, hf3, b3⟩
        have b12 := below_trans hb1 b2
        go_wp2
        go_ret2
        exact ⟨_, rfl, hv3, hf3.mono b12.size, below_trans b12 b3⟩
      · have hgt : 1 < a := by omega
        have C := compare_calls (.slice ad1 (limbs a).length c1) _ a 1 _ _ k1 ho (cmpInt_gt hgt) (by omega) (by omega)
        have hmul : (limbs a).length * n ≤ 262143 := by omega
        have hnl : n ≤ 262143 := Nat.le_trans (Nat.le_mul_of_pos_left n (by omega)) hmul
        have hbl := bitlen_le_limbs a
        have hbl1 : 1 ≤ bitlen a := by
          have hs := bitlen_spec ha0
          by_cases h0 : bitlen a = 0
          · rw [h0] at hs; simp at hs; omega
          · omega
        have hbm : (bitlen a - 1) * n ≤ 32 * 262143 := by
          have h1 : (bitlen a - 1) * n ≤ (32 * (limbs a).length) * n := Nat.mul_le_mul_right _ (by omega)
          rw [Nat.mul_assoc] at h1
          omega
        have hlp := limbs_length_pow a n
        obtain ⟨bl, ebl⟩ : ∃ bl, bl = bitlen a := ⟨_, rfl⟩
        rw [← ebl] at hbm hbl1 hbl
        have Ebl := Lib.hid ebl
        have hbi : ((bl : Int) - 1) * (n : Int) = (((bl - 1) * n : Nat) : Int) := by
          rw [Int.natCast_mul]; congr 1; omega
        obtain ⟨pr, epr⟩ : ∃ pr, (bl - 1) * n = pr := ⟨_, rfl⟩
        rw [epr] at hbm hbi
        obtain ⟨R, eR⟩ : ∃ R, a ^ n = R := ⟨_, rfl⟩
        rw [eR] at hlp ⊢
        have ER := Lib.hid eR
        have k9 : ¬ (8388608 : Int) ≤ (pr : Int) := by omega
        have k8 : ¬ (8388608 : Int) ≤ (n : Int) := by omega
        have hbl3 : bl ≤ 8388608 := by omega
        have Hmul := Lib.hid hmul
        have Hlp := Lib.hid hlp
        have Hhl := Lib.hid hl
        have Hal := Lib.hid hal
        have Hbm := Lib.hid hbm
        have hpr0 : (0 : Int) ≤ (pr : Int) := by omega
        have hpr1 : (pr : Int) < 8388608 := by omega
        have hni : (n : Int) < 8388608 := by omega
        have hni0 : (0 : Int) < (n : Int) := by omega
        have hbi1 : (1 : Int) ≤ (bl : Int) := by omega
        have hbi2 : (bl : Int) ≤ 8388608 := by omega
        have Hnl := Lib.hid hnl
        have hbw : IntKind.i64.wrap (((bl : Int) - 1) * (n : Int)) = (pr : Int) := by rw [hbi]; exact IntWalk.i64_in _ (by omega)
        have hnd : decide ((8388608 : Int) ≤ (n : Int)) = false := by rw [decide_eq_false_iff_not]; omega
        have hpd : decide ((8388608 : Int) ≤ (pr : Int)) = false := by rw [decide_eq_false_iff_not]; omega
        clear hr ha0 hn ha1 hgt ebl epr eR hmul hbm hbl k9 k8 hn2 hl1 hlp hal hnl hn1 hbl1 hbl3 hbi
        go_enter Tryz.func95, Tryz.ntmps95
        go_wp2_with fail
        refine C.mono ?_
        clear C
        rintro e w2 ⟨rfl, b2⟩
        have k2 := k1.mono b2
        have b12 := below_trans hb1 b2
        have L := length_calls _ a _ k2 (by omega)
        rw [← Ebl.out] at L
        go_wp2_with fail
        refine L.mono ?_
        clear L
        rintro e wq ⟨rfl, rfl⟩
        go_wp2_with fail
        refine (raise_calls _ a n _ _ k2 rfl (by have := Hmul.out; omega) (by omega) (by have := Hnl.out; omega)).mono ?_
        rw [ER.out]
        rintro e w3 ⟨v3, rfl, hv3, hf3, b3⟩
        go_wp2_with fail
        refine (short_calls v3 R _ _ hv3 hf3).mono ?_
        rw [if_neg (by have := Hmul.out; have := Hlp.out; omega), if_neg (by have := Hmul.out; have := Hlp.out; omega)]
        rintro e w4 ⟨v4, rfl, hv4, hf4, rfl⟩
        go_wp2
        go_ret2
        exact ⟨_, rfl, hv4, hf4.mono b12.size, below_trans b12 b3⟩

theorem pow_ok (v : Value) (a n : Nat) (z : Int) (w : World) (h1 : Num w v a) (hz : z = (n : Int)) (hl : (limbs a).length ≤ 262144) (hr : a ≤ 1 ∨ (limbs a).length * n ≤ 262143) (hn2 : n < 9223372036854775808) :
    Calls Tryz.prog 81 #[v, .int .i64 z] w (Got w (a ^ n) 0) := by
  subst hz
  have t1 : (firstErr [limbs a] != 0) = false := by rw [bne_eq_false_iff_eq]; exact ok_one a (by omega)
  have k1 := h1.mono (below_alloc w (.cells #[v] 119))
  have hb1 := below_alloc w (.cells #[v] 119)
  have g1 := h1
  obtain ⟨ad1, c1, rfl, s1⟩ := g1
  have U := power_ok (.slice ad1 (limbs a).length c1) a n (n : Int) _ k1 rfl hl hr hn2
  obtain ⟨R, eR⟩ : ∃ R, a ^ n = R := ⟨_, rfl⟩
  rw [eR] at U ⊢
  have t2 : ¬ (n : Int) < 0 := by omega
  clear eR hr hn2
  go_enter Tryz.func81, Tryz.ntmps81
  go_wp2_with (go_at_call 79; refine (valid1 _ (limbs a) w h1.raw).mono ?_; rintro e w' ⟨rfl, rfl⟩)
  refine U.mono ?_
  clear U
  rintro e w1 ⟨v, rfl, hv, hf, hb⟩
  go_wp2
  go_ret2
  exact ⟨_, rfl, hv, hf.mono hb1.size, below_trans hb1 hb⟩

theorem pow_neg (v : Value) (a : Nat) (z : Int) (w : World) (h1 : Num w v a) (hz : z < 0) (hl : (limbs a).length ≤ 262144) :
    Calls Tryz.prog 81 #[v, .int .i64 z] w (Got w 0 1) := by
  have t1 : (firstErr [limbs a] != 0) = false := by rw [bne_eq_false_iff_eq]; exact ok_one a (by omega)
  have hb1 := below_alloc w (.cells #[v] 119)
  have g1 := h1
  obtain ⟨ad1, c1, rfl, s1⟩ := g1
  go_enter Tryz.func81, Tryz.ntmps81
  go_wp2_with (go_at_call 79; refine (valid1 _ (limbs a) w h1.raw).mono ?_; rintro e w' ⟨rfl, rfl⟩)
  go_ret2
  exact ⟨_, rfl, Num.nil _, trivial, hb1⟩


end Go.Proofs
end

