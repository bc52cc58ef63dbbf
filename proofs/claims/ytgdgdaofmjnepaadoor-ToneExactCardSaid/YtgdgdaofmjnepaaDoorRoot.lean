/- nat.Root: the integer part of a root, of a valid number. -/
import Derived.Test.YtgdgdaofmjnepaaDoorApi
import Derived.Test.YtgdgdaofmjnepaaDoorRootLaw
import Derived.Test.YtgdgdaofmjnepaaDoorRaise
import Derived.Test.YtgdgdaofmjnepaaDoorLen
import Derived.Test.YtgdgdaofmjnepaaDoorOwn
import Derived.Test.YtgdgdaofmjnepaaDoorUp
open Go.RowKit
namespace Go.Proofs
set_option linter.unusedVariables false

theorem limbs_two_pow (c : Nat) : (limbs (2 ^ c)).length ≤ c + 1 := by
  refine limbs_length_le (Nat.lt_of_lt_of_le (Nat.pow_lt_pow_right (by omega) (show c < 32 * (c + 1) by omega)) ?_)
  rw [Nat.pow_mul]
  exact Nat.pow_le_pow_left (by omega) _

theorem bitlen_limbs_le (a : Nat) : bitlen a ≤ 32 * (limbs a).length := by
  refine bitlen_of_lt ?_
  rw [Nat.pow_mul]
  exact lt_pow_length a

theorem one_limb (w : World) (e : Nat) : Num (w.alloc (.cells #[Value.int .u32 1] e)) (.slice (some ⟨w.heap.size, 0, none⟩) 1 1) 1 := num_one w e

set_option maxRecDepth 100000 in
theorem root_ok (v : Value) (a n r : Nat) (z : Int) (w : World) (hv : Num w v a) (hz : z = (n : Int)) (hn : 1 ≤ n) (hz2 : n < 9223372036854775808) (hl : (limbs a).length ≤ 262144) (hr : IsRoot a n r) :
    Calls Tryd.prog 91 #[v, .int .i64 z] w (Got w r 0) := by
  subst hz
  have t1 : (firstErr [limbs a] != 0) = false := by rw [bne_eq_false_iff_eq]; exact ok_one a (by omega)
  have k1 := hv.mono (below_alloc w (.cells #[v] 89))
  have hb1 := below_alloc w (.cells #[v] 89)
  have g1 := hv
  obtain ⟨ad1, c1, rfl, s1⟩ := g1
  have hcm := s1.2.1
  unfold maxLen at hcm
  have hcl := s1.1
  have t2 : ¬ (n : Int) < 1 := by omega
  by_cases hn1 : n = 1
  · subst hn1
    obtain rfl := hr.unique (root_one a)
    have Hr := Lib.hid hr
    clear hr
    go_enter Tryd.func91, Tryd.ntmps91
    go_wp2_with (go_at_call 107; refine (valid1 _ (limbs r) w hv.raw).mono ?_; rintro e w' ⟨rfl, rfl⟩)
    refine (own_calls _ r _ k1 (by omega)).mono ?_
    rintro e w1 ⟨v, rfl, hv1, hf, hb⟩
    go_wp2
    go_ret2
    exact ⟨_, rfl, hv1, hf.mono hb1.size, below_trans hb1 hb⟩
  · have t3 : ((n : Int) == 1) = false := by rw [beq_eq_false_iff_ne]; omega
    by_cases ha0 : a = 0
    · have t4 : (((limbs a).length : Int) == 0) = true := by rw [ha0, limbs_zero]; rfl
      obtain rfl : r = a := by
        subst ha0
        exact hr.unique (root_zero n (by omega))
      have Hr := Lib.hid hr
      clear hr ha0
      go_enter Tryd.func91, Tryd.ntmps91
      go_wp2_with (go_at_call 107; refine (valid1 _ (limbs r) w hv.raw).mono ?_; rintro e w' ⟨rfl, rfl⟩)
      refine (own_calls _ r _ k1 (by omega)).mono ?_
      rintro e w1 ⟨v, rfl, hv1, hf, hb⟩
      go_wp2
      go_ret2
      exact ⟨_, rfl, hv1, hf.mono hb1.size, below_trans hb1 hb⟩
    · have hal : (limbs a).length ≠ 0 := fun e => ha0 (limbs_eq_nil.mp (List.eq_nil_of_length_eq_zero e))
      have t4 : (((limbs a).length : Int) == 0) = false := by rw [beq_eq_false_iff_ne]; omega
      have hbs := bitlen_spec ha0
      have hbl := bitlen_limbs_le a
      by_cases hbn : bitlen a ≤ n
      · obtain rfl : r = 1 := hr.unique ⟨by rw [Nat.one_pow]; omega, Nat.lt_of_lt_of_le hbs.2 (Nat.pow_le_pow_right (by omega) hbn)⟩
        have Hr := Lib.hid hr
        have Hbs := Lib.hid hbs
        clear hr hbs
        obtain ⟨W, hW⟩ : ∃ W : World, W = w.alloc (.cells #[Value.slice ad1 (limbs a).length c1] 89) := ⟨_, rfl⟩
        go_enter Tryd.func91, Tryd.ntmps91
        go_wp2_with (go_at_call 107; refine (valid1 _ (limbs a) w hv.raw).mono ?_; rintro e w' ⟨rfl, rfl⟩)
        rw [← hW] at k1 hb1 ⊢
        refine (length_calls _ a _ k1 (by omega)).mono ?_
        rintro e w1 ⟨rfl, rfl⟩
        have h1 := num_one W 102
        have hb2 := below_alloc W (.cells #[Value.int .u32 1] 102)
        clear hW
        go_wp2
        go_ret2
        exact ⟨_, rfl, h1, hb1.size, below_trans hb1 hb2⟩
      · have hst := newton_start hbs.2 (show n ≠ 0 by omega)
        obtain ⟨c, hc⟩ : ∃ c, c = (bitlen a + n - 1) / n := ⟨_, rfl⟩
        have hcm := Nat.div_add_mod (bitlen a + n - 1) n
        rw [← hc] at hst hcm
        have hce : ((bitlen a : Int) + (n : Int) - 1) / (n : Int) = (c : Int) := by
          rw [hc, Int.natCast_ediv]
          congr 1
          omega
        have Hcm := Lib.hid hcm
        have Hst := Lib.hid hst
        have Hbs := Lib.hid hbs
        have Hr := Lib.hid hr
        clear hcm hst hbs hr hc
        obtain ⟨bl, ebl⟩ : ∃ bl, bl = bitlen a := ⟨_, rfl⟩
        rw [← ebl] at hbn hbl hce
        have Ebl := Lib.hid ebl
        clear ebl
        obtain ⟨W, hW⟩ : ∃ W : World, W = w.alloc (.cells #[Value.slice ad1 (limbs a).length c1] 89) := ⟨_, rfl⟩
        go_enter Tryd.func91, Tryd.ntmps91
        go_wp2_with (go_at_call 107; refine (valid1 _ (limbs a) w hv.raw).mono ?_; rintro e w' ⟨rfl, rfl⟩)
        rw [← hW] at k1 hb1 ⊢
        have L := length_calls _ a _ k1 (by omega)
        rw [← Ebl.out] at L
        refine L.mono ?_
        clear L
        rintro e w1 ⟨rfl, rfl⟩
        have h1 := num_one W 102
        have hb2 := below_alloc W (.cells #[Value.int .u32 1] 102)
        obtain ⟨W2, hW2⟩ : ∃ W2 : World, W2 = W.alloc (.cells #[Value.int .u32 1] 102) := ⟨_, rfl⟩
        have k2 := k1.mono hb2
        clear hW
        go_wp2_with fail
        rw [← hW2] at k2 h1 hb2 ⊢
        have L := length_calls _ a _ k2 (by omega)
        rw [← Ebl.out] at L
        refine L.mono ?_
        clear L hW2
        rintro e w1 ⟨rfl, rfl⟩
        go_wp2_with fail
        have hc1 : c * n ≤ bl + n - 1 := by have := Hcm.out; rw [← Ebl.out] at this; rw [Nat.mul_comm]; omega
        have hcn : c ≤ bl + n - 1 := Nat.le_trans (Nat.le_mul_of_pos_right c (by omega)) hc1
        refine (up_calls _ 1 c _ _ h1 (by first | rfl | exact hce) (by rw [limbs_one]; simp) (by omega)).mono ?_
        rintro e w3 ⟨x0, rfl, hx0, hf0, hb3⟩
        rw [Nat.one_mul] at hx0
        have kk : (n : Int) - 1 = ((n - 1 : Nat) : Int) := by omega
        go_wp2_with fail
        refine (of_calls (n - 1) _ _ (by omega) (by omega)).mono ?_
        rintro e w4 ⟨vless, rfl, hless, hfl, hb4⟩
        go_wp2_with fail
        refine (of_calls n _ _ (by omega) (by omega)).mono ?_
        rintro e w5 ⟨vcount, rfl, hcount, hfc, hb5⟩
        go_wp2
        have kr := (k2.mono hb3).mono hb4 |>.mono hb5
        have hl5 := hless.mono hb5
        have hx5 := (hx0.mono hb4).mono hb5
        have hB : Below w.heap.size w w5 := below_trans (below_trans (below_trans (below_trans hb1 hb2) hb3) hb4) hb5
        have hsize := (below_trans hb4 hb5).size
        have hb1s := hb1.size
        have hb2s := hb2.size
        clear hb1 hb2 hb4 hb5 k1 k2 h1 hless hx0
        have hxr : r ≤ 2 ^ c := by
          have := le_of_pow_lt (Nat.lt_of_le_of_lt Hr.out.1 (Nat.lt_trans Hst.out (pow_lt_of_lt (Nat.lt_succ_self _) (by omega))))
          exact this
        have hr1 : 1 ≤ r := by
          have h2 := Hr.out.2
          by_cases h0 : r = 0
          · rw [h0, Nat.zero_add, Nat.one_pow] at h2; omega
          · omega
        have hxf : Fresh w.heap.size x0 := hf0.mono (Nat.le_trans hb1s hb2s)
        have hcl1 : (c + 1) * (n - 1) ≤ 30000000 := by
          have h1 : (c + 1) * (n - 1) ≤ (c + 1) * n := Nat.mul_le_mul_left _ (by omega)
          have h2 : (c + 1) * n = c * n + n := by rw [Nat.add_mul, Nat.one_mul]
          omega
        have hnl : (limbs n).length ≤ 1 := limbs_length_le (by omega)
        have hnl1 : (limbs (n - 1)).length ≤ 1 := limbs_length_le (by omega)
        have Hcl1 := Lib.hid hcl1
        clear hcl1 hc1
        go_loopw [7] (fun xv wr => ∃ x, Num wr xv x ∧ r ≤ x ∧ x ≤ 2 ^ c ∧ Fresh w.heap.size xv ∧ Below w5.heap.size w5 wr) (fun xv wr => numOf wr xv)
        case atStart => exact ⟨_, hx5, hxr, Nat.le_refl _, hxf, Below.refl _ _⟩
        case round =>
          obtain ⟨x, hx, hrx, hxc, hxfr, hbel⟩ := hrel
          have hlx : (limbs x).length ≤ c + 1 := Nat.le_trans (limbs_length_mono hxc) (limbs_two_pow c)
          have hra : (limbs x).length * (n - 1) ≤ 30000000 := Nat.le_trans (Nat.mul_le_mul_right _ hlx) Hcl1.out
          have hlp := limbs_length_pow x (n - 1)
          have hx0 : x ^ (n - 1) ≠ 0 := Nat.pos_iff_ne_zero.mp (Nat.pow_pos (show 0 < x by omega))
          have kr1 := kr.mono hbel
          have hl1 := hl5.mono hbel
          have hcount1 := hcount.mono hbel
          have hsz : w.heap.size ≤ wr.heap.size := Nat.le_trans hB.size hbel.size
          go_wp2_with fail
          refine (raise_calls _ x (n - 1) _ _ hx (by omega) (by omega) (by omega) (by omega)).mono ?_
          rintro e w6 ⟨vp, rfl, hp, _, hb6⟩
          have kr2 := kr1.mono hb6
          have hl2 := hl1.mono hb6
          have hcount2 := hcount1.mono hb6
          have hx2 := hx.mono hb6
          go_wp2_with fail
          refine (part_calls _ _ a _ _ kr2 hp hx0 (by omega) (by omega)).mono ?_
          rintro e w7 ⟨vq, vr, rfl, hq, _, _, _, _, hb7⟩
          have hlq : (limbs (a / x ^ (n - 1))).length ≤ (limbs a).length := limbs_length_mono (Nat.div_le_self _ _)
          have hnew := newton_above (k := n - 1) (x := x) (a := a) (r := r) (by rw [show n - 1 + 1 = n by omega]; exact Hr.out.1) (by omega)
          have hstop := fun h => newton_stop (k := n - 1) (x := x) (a := a) (r := r) (by rw [show n - 1 + 1 = n by omega]; exact Hr.out) (by omega) hrx h
          rw [show n - 1 + 1 = n by omega] at hnew hstop
          have Hnew := Lib.hid hnew
          have Hstop := Lib.hid hstop
          clear hnew hstop
          obtain ⟨Q, eQ⟩ : ∃ Q, Q = a / x ^ (n - 1) := ⟨_, rfl⟩
          rw [← eQ] at hq hlq
          have EQ := Lib.hid eQ
          clear eQ
          have hl3 := hl2.mono hb7
          have hcount3 := hcount2.mono hb7
          have hx3 := hx2.mono hb7
          have hlm := limbs_length_mul x (n - 1)
          have hla := limbs_length_add (x * (n - 1)) Q
          go_wp2_with fail
          refine (times_calls _ _ x (n - 1) _ hx3 hl3 (by omega) (by omega)).mono ?_
          rintro e w8 ⟨vt, rfl, ht, _, hb8⟩
          have hq4 := hq.mono hb8
          have hcount4 := hcount3.mono hb8
          have hx4 := hx3.mono hb8
          go_wp2_with fail
          refine (plus_calls _ _ _ _ _ ht hq4 (by omega) (by omega)).mono ?_
          rintro e w9 ⟨vs, rfl, hs, _, hb9⟩
          have hcount5 := hcount4.mono hb9
          have hx5' := hx4.mono hb9
          go_wp2_with fail
          refine (part_calls _ _ _ _ _ hs hcount5 (by omega) (by omega) (by omega)).mono ?_
          rintro e w10 ⟨vy, vz, rfl, hy, _, hyf, _, _, hb10⟩
          have hx6 := hx5'.mono hb10
          have hly : (limbs ((x * (n - 1) + Q) / n)).length ≤ (limbs (x * (n - 1) + Q)).length := limbs_length_mono (Nat.div_le_self _ _)
          have hnew := Hnew.out
          have hstop := Hstop.out
          rw [← EQ.out] at hnew hstop
          obtain ⟨y, ey⟩ : ∃ y, y = (x * (n - 1) + Q) / n := ⟨_, rfl⟩
          rw [← ey] at hy hly hnew hstop
          have hbb : Below wr.heap.size wr w10 := below_trans (below_trans (below_trans (below_trans hb6 hb7) hb8) hb9) hb10
          have hyf2 : Fresh w.heap.size vy := hyf.mono (by have h1 := hb6.size; have h2 := hb7.size; have h3 := hb8.size; have h4 := hb9.size; omega)
          have Hstop2 := Lib.hid hstop
          have Ey := Lib.hid ey
          clear hstop ey
          by_cases hyx : y < x
          · have t9 : ¬ (0 : Int) ≤ -1 := by omega
            go_wp2_with fail
            refine (compare_calls _ _ y x _ _ hy hx6 (cmpInt_lt hyx) (by omega) (by omega)).mono ?_
            rintro e w11 ⟨rfl, hb11⟩
            have hy2 := hy.mono hb11
            go_wp2
            go_roundw
            case rel => exact ⟨y, hy2, hnew, by omega, hyf2, below_trans hbel (below_trans hbb hb11)⟩
            case measure => rw [numOf_eq hy2, numOf_eq hx]; exact hyx
          · have hxy : x ≤ y := by omega
            obtain rfl : x = r := Hstop2.out hxy
            have t9 : (0 : Int) ≤ cmpInt y x := by unfold cmpInt; split <;> (try split) <;> omega
            go_wp2_with fail
            refine (compare_calls _ _ y x _ _ hy hx6 rfl (by omega) (by omega)).mono ?_
            rintro e w11 ⟨rfl, hb11⟩
            have hx7 := hx6.mono hb11
            go_wp2
            go_ret2
            exact ⟨_, rfl, hx7, hxfr, below_trans hB (below_trans hbel (below_trans hbb hb11))⟩

end Go.Proofs
