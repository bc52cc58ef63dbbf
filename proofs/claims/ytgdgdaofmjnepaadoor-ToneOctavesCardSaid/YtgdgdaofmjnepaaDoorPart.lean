/- nat.part: the quotient and the remainder. -/
import Derived.Test.YtgdgdaofmjnepaaDoorCompare
import Derived.Test.YtgdgdaofmjnepaaDoorByWord
import Derived.Test.YtgdgdaofmjnepaaDoorLen
import Derived.Test.YtgdgdaofmjnepaaDoorUp
import Derived.Test.YtgdgdaofmjnepaaDoorDown
import Derived.Test.YtgdgdaofmjnepaaDoorDigit
open Go.RowKit
namespace Go.Proofs
set_option linter.unusedVariables false

/-- The two lie in no common block. -/
def Sep (v1 v2 : Value) : Prop := ∀ B, v1.ownBlock = some B → Apart B v2

theorem sep_nil (v : Value) : Sep (.slice none 0 0) v := by intro B h; cases h
theorem sep_of {b o n c : Nat} {v : Value} (h : Apart b v) : Sep (.slice (some ⟨b, o, none⟩) n c) v := by
  intro B hB
  cases hB
  exact h

/-- Quotient and remainder, both new and apart. -/
def RetQR (w : World) (q r : Nat) (e : Ending) (w' : World) : Prop :=
  ∃ v1 v2, e = .returned (.tuple #[v1, v2]) ∧ Num w' v1 q ∧ Num w' v2 r ∧ Fresh w.heap.size v1 ∧ Fresh w.heap.size v2 ∧ Sep v1 v2 ∧ Below w.heap.size w w'

/-- a divisor moved up so that its first bit is set -/
theorem shift_top {n s : Nat} (h : n ≠ 0) (hs : bitlen ((limbs n).getD ((limbs n).length - 1) 0) + s = 32) :
    (limbs (n * 2 ^ s)).length = (limbs n).length ∧ 2147483648 ≤ (limbs (n * 2 ^ s)).getD ((limbs n).length - 1) 0 := by
  have hb := bitlen_limbs h
  have hsp := bitlen_spec h
  have hne : limbs n ≠ [] := fun e => h (limbs_eq_nil.1 e)
  have hlen : 0 < (limbs n).length := List.length_pos_iff.2 hne
  have hn0 : n * 2 ^ s ≠ 0 := Nat.mul_ne_zero h (by have := Nat.two_pow_pos s; omega)
  have hb0 : bitlen n ≠ 0 := by intro e; rw [e] at hsp; simp at hsp; omega
  have e1 : bitlen (n * 2 ^ s) = 32 * (limbs n).length := by
    obtain ⟨j, hj⟩ : ∃ j, bitlen n = j + 1 := ⟨bitlen n - 1, by omega⟩
    rw [hj] at hsp
    simp only [Nat.add_sub_cancel] at hsp
    have := bitlen_unique (n := n * 2 ^ s) (k := j + s) (by rw [Nat.pow_add]; exact Nat.mul_le_mul_right _ hsp.1) (by rw [show j + s + 1 = (j + 1) + s by omega, Nat.pow_add]; exact Nat.mul_lt_mul_of_pos_right hsp.2 (Nat.two_pow_pos s))
    omega
  have hsp2 := bitlen_spec hn0
  rw [e1] at hsp2
  have hW : (4294967296 : Nat) = 2 ^ 32 := by decide
  have l1 : (limbs (n * 2 ^ s)).length ≤ (limbs n).length := limbs_length_le (by rw [hW, ← Nat.pow_mul]; exact hsp2.2)
  have l2 : (limbs n).length ≤ (limbs (n * 2 ^ s)).length := limbs_length_mono (Nat.le_mul_of_pos_right n (Nat.two_pow_pos s))
  have hl : (limbs (n * 2 ^ s)).length = (limbs n).length := by omega
  refine ⟨hl, ?_⟩
  have hb2 := bitlen_limbs hn0
  rw [e1, hl] at hb2
  have hb3 : bitlen ((limbs (n * 2 ^ s)).getD ((limbs n).length - 1) 0) = 32 := by omega
  generalize (limbs (n * 2 ^ s)).getD ((limbs n).length - 1) 0 = t at *
  have ht : t ≠ 0 := by intro e; rw [e] at hb3; simp [bitlen] at hb3
  have := (bitlen_spec ht).1
  rw [hb3] at this
  exact this

theorem take_drop_split (R : List Nat) (j k : Nat) (h : j + k ≤ R.length) : R = R.take j ++ (R.drop j).take k ++ R.drop (j + k) := by
  have e := List.take_append_drop k (R.drop j)
  rw [List.drop_drop] at e
  rw [List.append_assoc, e, List.take_append_drop]

theorem val_zeros (l : List Nat) (h : ∀ i, l.getD i 0 = 0) : val l = 0 := by
  induction l with
  | nil => rfl
  | cons x xs ih =>
    have h0 := h 0
    have : val xs = 0 := ih fun i => by have := h (i + 1); simpa [List.getD] using this
    have hx : x = 0 := by simpa [List.getD] using h0
    rw [val, this, hx]

theorem getD_drop (l : List Nat) (j i : Nat) : (l.drop j).getD i 0 = l.getD (j + i) 0 := by simp [List.getD]

theorem part_byte (va vb : Value) (m n : Nat) (w : World) (h1 : Num w va m) (h2 : Num w vb n) (hnm : n ≤ m) (hl : (limbs n).length = 1) (b1 : (limbs m).length ≤ 1000000000) :
    Calls Tryd.prog 119 #[va, vb] w (RetQR w (m / n) (m % n)) := by
  have g1 := h1
  have g2 := h2
  obtain ⟨ad1, c1, rfl, s1⟩ := h1
  obtain ⟨ad2, c2, rfl, s2⟩ := h2
  have hn : n = (limbs n).getD 0 0 := by
    have e := val_limbs n
    match hln : limbs n, hl with
    | [x], _ =>
      rw [hln, val, val] at e
      simp [List.getD]
      omega
  have hn0 : n ≠ 0 := by intro e; rw [e, limbs_zero] at hl; cases hl
  have hnW : n < 4294967296 := by rw [hn]; exact s2.lt 0
  obtain ⟨b, o, rfl, hbs, hcell, _⟩ := s2.open (i := 0) (by omega)
  rw [← hn] at hcell
  have Hl := Lib.hid hl
  have t1 : (((limbs n).length : Int) == 1) = true := by rw [beq_iff_eq]; omega
  have k1 : (0 : Int) < ((limbs n).length : Int) := by omega
  have hmod : m % n < n := Nat.mod_lt _ (by omega)
  obtain ⟨x, hx⟩ : ∃ x, cmpInt m n = x := ⟨_, rfl⟩
  have hx0 : 0 ≤ x := by
    rw [← hx]; unfold cmpInt
    rw [if_neg (by omega)]
    split <;> omega
  have t2 : decide (x < 0) = false := by rw [decide_eq_false_iff_not]; omega
  have Hx := Lib.hid hx
  clear hl hx hn
  go_enter Tryd.func119, Tryd.ntmps119
  go_wp2_with fail
  refine (compare_calls _ _ m n w x g1 g2 Hx.out (by omega) (by have := Hl.out; omega)).mono ?_
  rintro e w1 ⟨rfl, hb1⟩
  have hcell' := (hb1.cell (p := ⟨b, o + 0, none⟩) hbs).trans hcell
  rw [Nat.add_zero] at hcell'
  have g1' := g1.mono hb1
  go_wp2_with fail
  refine (byWord_calls _ m n _ w1 g1' rfl (by omega) hnW (by omega)).mono ?_
  rintro e w2 ⟨v, rfl, hv, hf, hb2⟩
  obtain ⟨r, hr⟩ : ∃ r, m % n = r := ⟨_, rfl⟩
  rw [hr] at hmod ⊢
  have hrow : Row (w2.alloc (.cells #[Value.int .u32 (r : Int)] 102)) w2.heap.size [r] := by
    refine ⟨by intro y hy; simp at hy; omega, 102, ?_⟩
    rw [heap_alloc_new]; rfl
  have hsl := hrow.whole (by simp [maxLen])
  have hb3 := below_alloc w2 (.cells #[Value.int .u32 (r : Int)] 102)
  have Hr := Lib.hid hr
  clear hr
  go_wp2_with fail
  refine (trim_calls _ _ 1 [r] _ hsl rfl).mono ?_
  rintro e w3 ⟨k, rfl, hnum, rfl⟩
  go_wp2
  go_ret2
  have ev : val [r] = r := by simp [val]
  rw [ev] at hnum
  rw [Hr.out]
  exact ⟨_, _, rfl, hv.mono hb3, hnum, hf.mono hb1.size, by have := hb1.size; have := hb2.size; show w.heap.size ≤ w2.heap.size; omega, fun B hB => by
    show w2.heap.size ≠ B
    obtain ⟨ad, c, rfl, hsv⟩ := hv
    rcases hsv.2.2.2 with ⟨rfl, _⟩ | ⟨b3, o3, rfl, hb3', _⟩
    · cases hB
    · cases hB
      show w2.heap.size ≠ b3
      omega, below_trans (below_trans hb1 hb2) hb3⟩

theorem part_small (va vb : Value) (m n : Nat) (w : World) (h1 : Num w va m) (h2 : Num w vb n) (hmn : m < n) (b1 : (limbs n).length ≤ 1000000000) :
    Calls Tryd.prog 119 #[va, vb] w (RetQR w 0 m) := by
  have hl := limbs_length_mono (Nat.le_of_lt hmn)
  go_enter Tryd.func119, Tryd.ntmps119
  go_wp2_with fail
  refine (compare_calls _ _ m n w (-1) h1 h2 (cmpInt_lt hmn) (by omega) (by omega)).mono ?_
  rintro e w1 ⟨rfl, hb1⟩
  have h1' := h1.mono hb1
  go_wp2_with fail
  refine (own_calls _ m w1 h1' (by omega)).mono ?_
  rintro e w2 ⟨v, rfl, hv, hf, hb2⟩
  go_wp2
  go_ret2
  exact ⟨_, _, rfl, Num.nil _, hv, trivial, hf.mono hb1.size, sep_nil _, below_trans hb1 hb2⟩


theorem quo_bound (m V sh la nn : Nat) (hs : 2 ^ sh ≤ 2147483648) (hm : m < 4294967296 ^ la) (hnn : 1 ≤ nn) (hle : nn ≤ la) (hV : 4294967296 ^ (nn - 1) * 2147483648 ≤ V) : m * 2 ^ sh < 4294967296 ^ (la - nn + 1) * V := by
  have h1 : m * 2 ^ sh < 4294967296 ^ la * 2147483648 := Nat.lt_of_lt_of_le (Nat.mul_lt_mul_of_pos_right hm (Nat.two_pow_pos _)) (Nat.mul_le_mul_left _ hs)
  have h2 : 4294967296 ^ (la - nn + 1) * (4294967296 ^ (nn - 1) * 2147483648) ≤ 4294967296 ^ (la - nn + 1) * V := Nat.mul_le_mul_left _ hV
  rw [← Nat.mul_assoc, ← Nat.pow_add, show la - nn + 1 + (nn - 1) = la by omega] at h2
  omega

set_option maxHeartbeats 1000000 in
set_option maxRecDepth 100000 in
theorem part_long (va vb : Value) (m n : Nat) (w : World) (h1 : Num w va m) (h2 : Num w vb n) (hnm : n ≤ m) (hl : 2 ≤ (limbs n).length) (b1 : (limbs m).length ≤ 900000000) :
    Calls Tryd.prog 119 #[va, vb] w (RetQR w (m / n) (m % n)) := by
  have g1 := h1
  have g2 := h2
  obtain ⟨ad1, c1, rfl, s1⟩ := h1
  obtain ⟨ad2, c2, rfl, s2⟩ := h2
  have hn0 : n ≠ 0 := by intro e; rw [e, limbs_zero] at hl; simp at hl
  obtain ⟨b, o, rfl, hbs, hcell, _⟩ := s2.open (i := (limbs n).length - 1) (by omega)
  have htb := s2.lt ((limbs n).length - 1)
  obtain ⟨lo0, el0, ll0, htop0⟩ := limbs_top hn0
  clear el0 ll0
  have hsh := @shift_top n
  obtain ⟨tb, etb⟩ : ∃ x, (limbs n).getD ((limbs n).length - 1) 0 = x := ⟨_, rfl⟩
  rw [etb] at hcell htb htop0 hsh
  have hbt : bitlen tb ≤ 32 := bitlen_of_lt htb
  have hbt0 : 1 ≤ bitlen tb := by
    rcases Nat.eq_zero_or_pos (bitlen tb) with h | h
    · have := (bitlen_spec htop0).2
      rw [h] at this; simp at this; omega
    · exact h
  obtain ⟨sh, esh⟩ : ∃ s, bitlen tb + s = 32 := ⟨32 - bitlen tb, by omega⟩
  obtain ⟨hVl, hVt⟩ := hsh hn0 esh
  have hnl := limbs_length_mono hnm
  have t1 : (((limbs n).length : Int) == 1) = false := by rw [beq_eq_false_iff_ne]; omega
  obtain ⟨x, hx⟩ : ∃ x, cmpInt m n = x := ⟨_, rfl⟩
  have hx0 : 0 ≤ x := by
    rw [← hx]; unfold cmpInt
    rw [if_neg (by omega)]
    split <;> omega
  have t2 : decide (x < 0) = false := by rw [decide_eq_false_iff_not]; omega
  have hlA : (limbs (m * 2 ^ sh)).length ≤ (limbs m).length + 1 := by
    refine limbs_length_le ?_
    rw [Nat.pow_succ]
    exact Nat.mul_lt_mul_of_lt_of_le (lt_pow_length m) (Nat.le_trans (Nat.pow_le_pow_right (by omega) (show sh ≤ 32 by omega)) (by decide)) (by omega)
  have hquo : m * 2 ^ sh < 4294967296 ^ ((limbs m).length - (limbs n).length + 1) * (n * 2 ^ sh) := by
    refine quo_bound _ _ sh _ _ (Nat.le_trans (Nat.pow_le_pow_right (by omega) (show sh ≤ 31 by omega)) (by decide)) (lt_pow_length m) (by omega) hnl ?_
    have hne : n * 2 ^ sh ≠ 0 := Nat.mul_ne_zero hn0 (by have := Nat.two_pow_pos sh; omega)
    obtain ⟨lo, e1, _, _⟩ := limbs_top hne
    rw [hVl] at e1
    have := Nat.mul_le_mul_left (4294967296 ^ ((limbs n).length - 1)) hVt
    omega
  have hVpos : 0 < n * 2 ^ sh := Nat.mul_pos (by omega) (Nat.two_pow_pos _)
  have Hx := Lib.hid hx
  have Hesh := Lib.hid esh
  have HVl := Lib.hid hVl
  have HVt := Lib.hid hVt
  have Hquo := Lib.hid hquo
  have Hetb := Lib.hid etb
  have HlA := Lib.hid hlA
  have HVpos := Lib.hid hVpos
  have hsh31 : sh ≤ 31 := by omega
  clear hlA hVpos hx esh hVl hVt hquo hsh htop0 etb
  have ksh : 32 - (bitlen tb : Int) = (sh : Int) := by have := Hesh.out; omega
  go_enter Tryd.func119, Tryd.ntmps119
  go_wp2_with fail
  refine (compare_calls _ _ m n w x g1 g2 Hx.out (by omega) (by omega)).mono ?_
  rintro e w1 ⟨rfl, hb1⟩
  have hcell1 := (hb1.cell (p := ⟨b, o + ((limbs n).length - 1), none⟩) hbs).trans hcell
  have g1' := g1.mono hb1
  have g2' := g2.mono hb1
  go_wp2_with fail
  refine (lz32_calls _ w1 (by omega) (by omega)).mono ?_
  rw [Int.toNat_natCast, ksh]
  rintro e w2 ⟨rfl, rfl⟩
  clear ksh
  go_wp2_with fail
  refine (up_calls _ n sh _ w1 g2' rfl (by omega) (by omega)).mono ?_
  rintro e w2 ⟨v, rfl, ⟨adv, cv, rfl, hsv⟩, hfv, hb2⟩
  rw [HVl.out]
  have hapv : ∀ a, adv = some a → a.block < w2.heap.size := by
    intro a ha
    rcases hsv.2.2.2 with ⟨h, _⟩ | ⟨b3, o3, h, h3, _⟩
    · rw [h] at ha; cases ha
    · rw [h] at ha; cases ha; exact h3
  have Hapv := Lib.hid hapv
  have g1'' := g1'.mono hb2
  replace hb2 := below_trans hb1 hb2
  clear hapv
  go_wp2_with (at_make; refine wpList_make_nums _ rfl _ _ 55 rfl 102 Tryd.underlying55 info32 _ _ _ _ ((limbs m).length + 1) rfl rfl (by omega) (by omega) (by omega) ?_; intro w3 hrow3 hb3 hs3)
  -- the second factor and the copy
  have g3 := g1''.mono hb3
  have hsv3 := hsv.mono (Nat.le_refl _) hb3
  replace hb3 := below_trans hb2 hb3
  go_wp2_with fail
  refine (up_calls _ m sh _ w3 g3 rfl (by omega) (by omega)).mono ?_
  rintro e w4 ⟨va2, rfl, hva2, hfa2, hb4⟩
  have hrow4 := hrow3.below hb4 hs3
  have hsv4 := hsv3.mono (Nat.le_refl _) hb4
  have hs4 := Nat.lt_of_lt_of_le hs3 hb4.size
  replace hb4 := below_trans hb3 hb4
  obtain ⟨ada, ca, rfl, hsa⟩ := hva2
  have HrA := Lib.hid hrow4
  clear hrow3 hrow4 hsv3 g3 g1''
  go_wp2_with (first | (with_reducible refine wpList_copy_nums rfl (.tmp 49) (.tmp 52) 55 55 rfl 102 Tryd.underlying55 info32 w2.heap.size ((limbs m).length + 1) _ HrA.out (by simp) ada _ ca _ hsa rfl HlA.out rfl rfl ?_; intro w5 hrow5 hb5) | (at_make; refine wpList_make_nums _ rfl _ _ 55 rfl 102 Tryd.underlying55 info32 _ _ _ _ ((limbs m).length - (limbs n).length + 1) rfl rfl (by omega) (by omega) (by omega) ?_; intro w6 hrow6 hb6 hs6))
  have hsv5 : Sl w5 adv cv (limbs (n * 2 ^ sh)) := by
    obtain ⟨q1, q2, q3, q4 | ⟨b3, o3, q4, q5, q6⟩⟩ := hsv4
    · exact ⟨q1, q2, q3, .inl q4⟩
    · have hlt := Hapv.out _ q4
      exact ⟨q1, q2, q3, .inr ⟨b3, o3, q4, Nat.lt_of_lt_of_le q5 hb5.size, fun i hi => by
        rw [hb5.cell (p := ⟨b3, o3 + i, none⟩) hlt, hb5.frozen (p := ⟨b3, o3 + i, none⟩) hlt]
        exact q6 i hi⟩⟩
  have hs5 := Nat.lt_of_lt_of_le hs4 hb5.size
  replace hb5 := hb4.trans (hb5.mono hb2.size)
  -- the row of the dividend
  obtain ⟨R0, hR0⟩ : ∃ R0, limbs (m * 2 ^ sh) ++ (List.replicate ((limbs m).length + 1) 0).drop (limbs (m * 2 ^ sh)).length = R0 := ⟨_, rfl⟩
  have hR0l : R0.length = (limbs m).length + 1 := by rw [← hR0]; have := HlA.out; simp; omega
  have hR0v : val R0 = m * 2 ^ sh := by
    rw [← hR0, val_append, List.drop_replicate, val_replicate, val_limbs]; simp
  rw [hR0] at hrow5
  have HR0l := Lib.hid hR0l
  have HR0v := Lib.hid hR0v
  have HrowR := Lib.hid hrow5
  clear hR0 hR0l hR0v hrow5 hsv4 hsa HrA
  have hrowR6 := HrowR.out.below hb6 hs5
  have hsv6 := hsv5.mono (Nat.le_refl _) hb6
  have hbq := Nat.lt_of_le_of_lt hb5.size hs6
  replace hb6 := below_trans hb5 hb6
  have g0 : w5.heap.size ≠ w2.heap.size := by omega
  have hre : (limbs n).length - 1 < (limbs n).length := by omega
  have Hq0 := hrow6
  go_loopw [13] (fun jv wr => ∃ (k : Nat) (R Q : List Nat), k ≤ (limbs m).length - (limbs n).length + 1 ∧ jv = .int .i64 ((k : Int) - 1) ∧ R.length = (limbs m).length + 1 ∧ Q.length = (limbs m).length - (limbs n).length + 1 ∧
      Row wr w2.heap.size R ∧ Row wr w5.heap.size Q ∧ Sl wr adv cv (limbs (n * 2 ^ sh)) ∧ Below w.heap.size w wr ∧ w5.heap.size < wr.heap.size ∧
      (∀ i, k + (limbs n).length ≤ i → R.getD i 0 = 0) ∧ val (R.drop k) < n * 2 ^ sh ∧ val R + 4294967296 ^ k * (val (Q.drop k) * (n * 2 ^ sh)) = m * 2 ^ sh)
    (fun jv _ => (intOf jv + 1).toNat)
  case atStart =>
    refine ⟨(limbs m).length - (limbs n).length + 1, R0, List.replicate ((limbs m).length - (limbs n).length + 1) 0, Nat.le_refl _, ?_, HR0l.out, by simp, hrowR6, hrow6, hsv6, hb6, hs6, ?_, ?_, ?_⟩
    · exact congrArg (Value.int .i64) (by omega)
    · intro i hi
      have := HR0l.out
      simp [List.getD, List.getElem?_eq_none (show R0.length ≤ i by omega)]
    · have e := val_take_drop R0 ((limbs m).length - (limbs n).length + 1) (by have := HR0l.out; omega)
      have hq := Hquo.out
      rw [HR0v.out] at e
      rcases Nat.lt_or_ge (val (R0.drop ((limbs m).length - (limbs n).length + 1))) (n * 2 ^ sh) with h | h
      · exact h
      · have := Nat.mul_le_mul_left (4294967296 ^ ((limbs m).length - (limbs n).length + 1)) h
        omega
    · rw [List.drop_of_length_le (by simp), val, Nat.zero_mul, Nat.mul_zero, Nat.add_zero]
      exact HR0v.out
  case round =>
    obtain ⟨k, R, Q, hk, rfl, hRl, hQl, hR, hQ, hv7, hbel, hs7, htail, hrem, hval⟩ := hrel
    have HRl := Lib.hid hRl
    have HQl := Lib.hid hQl
    have HR := Lib.hid hR
    have HQ := Lib.hid hQ
    have Hv7 := Lib.hid hv7
    have Htail := Lib.hid htail
    have Hrem := Lib.hid hrem
    have Hval := Lib.hid hval
    clear hRl hQl hR hQ hv7 htail hrem hval
    by_cases h0 : 0 < k
    · obtain ⟨j, rfl⟩ : ∃ j, k = j + 1 := ⟨k - 1, by omega⟩
      rw [show (((j + 1 : Nat) : Int) - 1) = (j : Int) from by omega]
      have hRl := HRl.out
      have hspl := take_drop_split R j ((limbs n).length + 1) (by omega)
      have hLl : (R.take j).length = j := by rw [List.length_take]; omega
      have hul : ((R.drop j).take ((limbs n).length + 1)).length = (limbs n).length + 1 := by rw [List.length_take, List.length_drop]; omega
      have hTz : val (R.drop (j + ((limbs n).length + 1))) = 0 := by
        refine val_zeros _ fun i => ?_
        rw [getD_drop]
        exact Htail.out _ (by omega)
      have hdj := val_take_drop (R.drop j) ((limbs n).length + 1) (by rw [List.length_drop]; omega)
      rw [List.drop_drop, hTz, Nat.mul_zero, Nat.add_zero] at hdj
      have hdc := val_drop_cons R j (by omega)
      have hRj := getD_lt_of HR.out.1 j
      have hlt : val ((R.drop j).take ((limbs n).length + 1)) < 4294967296 * val (limbs (n * 2 ^ sh)) := by
        rw [← hdj, hdc, val_limbs]
        have := Hrem.out
        omega
      have hRR : Row wr w2.heap.size (R.take j ++ (R.drop j).take ((limbs n).length + 1) ++ R.drop (j + ((limbs n).length + 1))) := by rw [← hspl]; exact HR.out
      have eq0 := val_take_drop R j (by omega)
      have Hspl := Lib.hid hspl
      have HRR := Lib.hid hRR
      have HLl := Lib.hid hLl
      have Hul := Lib.hid hul
      have HTz := Lib.hid hTz
      have Hdj := Lib.hid hdj
      have Hlt := Lib.hid hlt
      have Heq0 := Lib.hid eq0
      clear hspl hRR hLl hul hTz hdj hdc hRj hlt eq0 hRl
      have qcell := HQ.out.cell (i := j) (by rw [HQl.out]; omega)
      have qfree := HQ.out.free j
      have k1 : (j : Int) < ((limbs m).length : Int) - ((limbs n).length : Int) + 1 := by omega
      have e1 : j + (limbs n).length + 1 - j = (limbs n).length + 1 := by omega
      go_wp2_with fail
      rw [e1]
      clear e1
      refine (digit_raw w2.heap.size j (limbs n).length _ _ _ _ adv cv (limbs (n * 2 ^ sh)) wr HRR.out HLl.out Hul.out HVl.out Hv7.out (fun a ha => Nat.ne_of_lt (Hapv.out a ha)) hl HVt.out Hlt.out (by omega) (by omega)).mono ?_
      rintro e w8 ⟨us, rfl, hul8, hus8, hrow8, ho8⟩
      rw [val_limbs] at hus8 ⊢
      have hV0 := HVpos.out
      have hquo : val ((R.drop j).take ((limbs n).length + 1)) / (n * 2 ^ sh) < 4294967296 := by
        have := Hlt.out
        rw [val_limbs] at this
        exact Nat.div_lt_of_lt_mul (by rw [Nat.mul_comm]; exact this)
      have hdm := Nat.div_add_mod (val ((R.drop j).take ((limbs n).length + 1))) (n * 2 ^ sh)
      rw [← hus8] at hdm
      have hrem8 : val us < n * 2 ^ sh := by rw [hus8]; exact Nat.mod_lt _ hV0
      have Hus8 := Lib.hid hus8
      have Hul8 := Lib.hid hul8
      have Hrow8 := Lib.hid hrow8
      have Hdm := Lib.hid hdm
      have Hrem8 := Lib.hid hrem8
      have hQ8 : Row w8 w5.heap.size Q := HQ.out.only ho8 g0
      have hv8 : Sl w8 adv cv (limbs (n * 2 ^ sh)) := Hv7.out.only ho8 (fun a ha => Nat.ne_of_lt (Hapv.out a ha))
      have hbel8 : Below w.heap.size w w8 := below_only hbel ho8 hb2.size hbel.size
      have hs8 : w5.heap.size < w8.heap.size := Nat.lt_of_lt_of_le hs7 ho8.size
      obtain ⟨q, eq⟩ : ∃ q, val ((R.drop j).take ((limbs n).length + 1)) / (n * 2 ^ sh) = q := ⟨_, rfl⟩
      rw [eq] at hquo ⊢
      have Heq := Lib.hid eq
      have HQ8 := Lib.hid hQ8
      have Hv8 := Lib.hid hv8
      have qcell8 := hQ8.cell (i := j) (by rw [HQl.out]; omega)
      have qfree8 := hQ8.free j
      clear hus8 hul8 hrow8 hdm hrem8 eq hQ8 hv8 hV0 qcell qfree
      go_wp2
      go_roundw
      case rel =>
        have hul8 := Hul8.out
        have hlow : val us < 4294967296 ^ (limbs n).length := by
          have h1 := Hrem8.out
          have h2 := lt_pow_length (n * 2 ^ sh)
          rw [HVl.out] at h2
          omega
        have hlast : us.getD (limbs n).length 0 = 0 := by
          have e2 := val_take_succ us (limbs n).length (by omega)
          rw [List.take_of_length_le (by omega)] at e2
          rcases Nat.eq_zero_or_pos (us.getD (limbs n).length 0) with h | h
          · exact h
          · have := Nat.le_mul_of_pos_right (4294967296 ^ (limbs n).length) h
            omega
        have hT0 : ∀ i, (R.drop (j + ((limbs n).length + 1))).getD i 0 = 0 := by
          intro i
          rw [getD_drop]
          exact Htail.out _ (by omega)
        have hdr : (R.take j ++ us ++ R.drop (j + ((limbs n).length + 1))).drop j = us ++ R.drop (j + ((limbs n).length + 1)) := by
          have hLl := HLl.out
          rw [List.append_assoc, List.drop_append, List.drop_of_length_le (by omega), List.nil_append, hLl, Nat.sub_self, List.drop_zero]
        refine ⟨j, R.take j ++ us ++ R.drop (j + ((limbs n).length + 1)), Q.set j q, by omega, rfl, ?_, by simp [HQl.out], Hrow8.out.only_set w5.heap.size g0 _ _, HQ8.out.put j q hquo _ rfl, Hv8.out.only (only_set _ _ _) ?_, hbel8.setCell (p := ⟨w5.heap.size, j, none⟩) hb5.size _, by simpa [World.setCell] using hs8, ?_, ?_, ?_⟩
        · have := HRl.out
          simp only [List.length_append, List.length_take, List.length_drop]
          omega
        · intro a ha
          have := Hapv.out a ha
          show a.block ≠ w5.heap.size
          omega
        · intro i hi
          rw [show i = j + (i - j) by omega, ← getD_drop, hdr]
          by_cases he : i - j < us.length
          · have : i - j = (limbs n).length := by omega
            rw [this]
            simp only [List.getD, List.getElem?_append_left (show (limbs n).length < us.length by omega)]
            exact hlast
          · have := hT0 (i - j - us.length)
            simp only [List.getD, List.getElem?_append_right (show us.length ≤ i - j by omega)]
            exact this
        · rw [hdr, val_append, HTz.out, Nat.mul_zero, Nat.add_zero]
          exact Hrem8.out
        · have hv := Hval.out
          rw [val_append, val_append, HTz.out, Nat.mul_zero, Nat.add_zero, HLl.out, val_drop_set _ _ _ (by rw [HQl.out]; omega)]
          rw [Heq0.out, Hdj.out, Nat.pow_succ] at hv
          have hd := Hdm.out
          rw [Heq.out] at hd
          generalize 4294967296 ^ j = p at *
          generalize n * 2 ^ sh = V at *
          rw [← hv, ← hd]
          grind
      case measure => simp [intOf]
    · obtain rfl : k = 0 := by omega
      have hval := Hval.out
      rw [Nat.pow_zero, Nat.one_mul, List.drop_zero] at hval
      have hrem : val R < n * 2 ^ sh := Hrem.out
      have hp := Nat.two_pow_pos sh
      have hq : m / n = val Q := by
        rw [← Nat.mul_div_mul_right m n hp, ← hval, Nat.add_comm, Nat.mul_comm (val Q), Nat.mul_add_div HVpos.out, Nat.div_eq_of_lt hrem, Nat.add_zero]
      have hr : val R / 2 ^ sh = m % n := by
        have e : val R = m % n * 2 ^ sh := by
          rw [← Nat.mul_mod_mul_right, ← hval, Nat.add_comm, Nat.mul_comm (val Q), Nat.mul_add_mod, Nat.mod_eq_of_lt hrem]
        rw [e, Nat.mul_div_cancel _ hp]
      have hRt : val (R.take (limbs n).length) = val R := by
        have e := val_take_drop R (limbs n).length (by have := HRl.out; omega)
        rw [val_zeros (R.drop (limbs n).length) (fun i => by rw [getD_drop]; exact Htail.out _ (by omega)), Nat.mul_zero, Nat.add_zero] at e
        exact e.symm
      have hslQ := HQ.out.whole (by rw [HQl.out]; unfold maxLen; omega)
      rw [HQl.out] at hslQ
      have hslR := HR.out.sl 0 (limbs n).length ((limbs m).length + 1) (by have := HRl.out; omega) (by omega) (by unfold maxLen; omega)
      rw [List.drop_zero] at hslR
      have hlR : (R.take (limbs n).length).length = (limbs n).length := by rw [List.length_take]; have := HRl.out; omega
      have HslQ := Lib.hid hslQ
      have HslR := Lib.hid hslR
      have HlR := Lib.hid hlR
      have HRt := Lib.hid hRt
      have Hqq := Lib.hid hq
      have Hrr := Lib.hid hr
      clear hval hrem hp hq hr hRt hslQ hslR hlR
      have hapq : ∀ W : World, Below wr.heap.size wr W → Sl W (some ⟨w5.heap.size, 0, none⟩) ((limbs m).length - (limbs n).length + 1) Q := fun W h => HslQ.out.mono (Nat.le_refl _) h
      have hapr : ∀ W : World, Below wr.heap.size wr W → Sl W (some ⟨w2.heap.size, 0, none⟩) ((limbs m).length + 1) (R.take (limbs n).length) := fun W h => HslR.out.mono (Nat.le_refl _) h
      have Hapq := Lib.hid hapq
      have Hapr := Lib.hid hapr
      have hlimR : (limbs (val R)).length ≤ 1000000000 := by
        have := limbs_length_val R HR.out.1
        rw [HRl.out] at this
        omega
      clear hapq hapr
      have k1 : (0 : Int) ≤ ((limbs n).length : Int) := by omega
      go_wp2_with fail
      have hbd : Below wr.heap.size wr wr.drew := (Below.refl _ _).drew
      go_region_with (first
        | (go_at_call 116; with_reducible refine (trim_calls (some ⟨w5.heap.size, 0, none⟩) ((limbs m).length - (limbs n).length + 1) _ Q _ (Hapq.out _ (by assumption)) HQl.out.symm).mono ?_; rintro e w' ⟨kq, rfl, hnq, rfl⟩)
        | (go_at_call 116; with_reducible refine (trim_calls (some ⟨w2.heap.size, 0, none⟩) ((limbs m).length + 1) _ (R.take (limbs n).length) _ (Hapr.out _ (by assumption)) HlR.out.symm).mono ?_; rintro e w' ⟨kr, rfl, hnr, rfl⟩)
        | (go_at_call 133; refine (down_calls _ (val R) sh _ _ (by rw [← HRt.out]; assumption) rfl hlimR (by omega)).mono ?_; rintro e w9 ⟨vr, rfl, hvr, hfr, hb9⟩; have hbd2 : Below wr.heap.size wr w9 := hbd.trans hb9))
      all_goals
        have hq9 : Num w9 (.slice (some ⟨w5.heap.size, 0, none⟩) kq ((limbs m).length - (limbs n).length + 1)) (m / n) := by
          rw [Hqq.out]
          first | exact hnq | exact hnq.mono hb9
        have hr9 : Num w9 vr (m % n) := by rw [← Hrr.out]; exact hvr
        have hbT : Below w.heap.size w w9 := hbel.trans (hbd2.mono hbel.size)
        go_wp2
        go_ret2
        refine ⟨.slice (some ⟨w5.heap.size, 0, none⟩) kq ((limbs m).length - (limbs n).length + 1), vr, rfl, hq9, hr9, hb5.size, hfr.mono hbel.size, sep_of (hfr.apart hs7), hbT⟩

/-- part divides: the quotient and the remainder, both new. -/
theorem part_calls (va vb : Value) (m n : Nat) (w : World) (h1 : Num w va m) (h2 : Num w vb n) (hn : n ≠ 0) (b1 : (limbs m).length ≤ 900000000) (b2 : (limbs n).length ≤ 900000000) :
    Calls Tryd.prog 119 #[va, vb] w (RetQR w (m / n) (m % n)) := by
  by_cases hlt : m < n
  · rw [Nat.div_eq_of_lt hlt, Nat.mod_eq_of_lt hlt]
    exact part_small va vb m n w h1 h2 hlt (by omega)
  · have hne : limbs n ≠ [] := fun e => hn (limbs_eq_nil.1 e)
    have hlen : 0 < (limbs n).length := List.length_pos_iff.2 hne
    by_cases hl : (limbs n).length = 1
    · exact part_byte va vb m n w h1 h2 (by omega) hl (by omega)
    · exact part_long va vb m n w h1 h2 (by omega) (by omega) b1

end Go.Proofs
