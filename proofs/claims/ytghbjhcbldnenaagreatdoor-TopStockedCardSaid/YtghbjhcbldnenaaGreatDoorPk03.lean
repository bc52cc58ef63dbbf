/- nat.times, pieces, karatsuba: the product. -/
import Derived.Test.YtghbjhcbldnenaaGreatDoorPk02

section
open Go.RowKit
namespace Go.Proofs
set_option linter.unusedVariables false
set_option linter.unusedSimpArgs false

theorem take_take_end (l : List Nat) (a b : Nat) (h : l.length = b) (hab : b ≤ a) : l.take a = l.take b := by
  rw [List.take_of_length_le (by omega), List.take_of_length_le (by omega)]

/-- times is right where both numbers have fewer than K limbs together -/
def TimesTo (K : Nat) : Prop := ∀ (v1 v2 : Value) (m n : Nat) (w : World), Num w v1 m → Num w v2 n → (limbs m).length + (limbs n).length < K → (limbs m).length ≤ 1000000000 → (limbs n).length ≤ 1000000000 →
  Calls Tryz.prog 98 #[v1, v2] w (RetNum w (m * n))

theorem slice_num {w : World} {ad : Option Addr} {c n k : Nat} {xs : List Nat} (h : Sl w ad c xs) (hk : k = xs.length) (hn : limbs n = xs) : Num w (.slice ad k c) n := by
  subst hk
  exact ⟨ad, c, by rw [hn], by rw [hn]; exact h⟩

theorem kara (x n : Nat) : x = x % 4294967296 ^ n + 4294967296 ^ n * (x / 4294967296 ^ n) := by
  have := Nat.div_add_mod x (4294967296 ^ n)
  omega

set_option maxRecDepth 100000 in
theorem karatsuba_raw (K : Nat) (ih : TimesTo K) (v1 v2 : Value) (m n : Nat) (w : World) (h1 : Num w v1 m) (h2 : Num w v2 n) (hle : (limbs n).length ≤ (limbs m).length) (hlt : (limbs m).length < 2 * (limbs n).length) (hs : 40 ≤ (limbs n).length)
    (hK : (limbs m).length + 3 < K) (b1 : (limbs m).length ≤ 1000000000) :
    Calls Tryz.prog 109 #[v1, v2] w (RetNum w (m * n)) := by
  obtain ⟨k, hk⟩ : ∃ k, k = ((limbs m).length + 1) / 2 := ⟨_, rfl⟩
  have hk1 : 2 * k ≤ (limbs m).length + 1 := by omega
  have hk2 : (limbs m).length ≤ 2 * k := by omega
  have g1 := h1
  have g2 := h2
  obtain ⟨ad1, c1, rfl, s1⟩ := h1
  obtain ⟨ad2, c2, rfl, s2⟩ := h2
  have Hk := Lib.hid hk
  clear hk
  have ek : ((limbs m).length + 1 : Int) / 2 = (k : Int) := by have := Hk.out; omega
  -- the halves
  have hP : 0 < 4294967296 ^ k := Nat.pow_pos (by omega)
  have em := kara m k
  have en := kara n k
  have lm : m < 4294967296 ^ k * 4294967296 ^ k := by
    rw [← Nat.pow_add]; exact Nat.lt_of_lt_of_le (lt_pow_length m) (Nat.pow_le_pow_right (by omega) (by omega))
  have ln : n < 4294967296 ^ k * 4294967296 ^ k := by
    rw [← Nat.pow_add]; exact Nat.lt_of_lt_of_le (lt_pow_length n) (Nat.pow_le_pow_right (by omega) (by omega))
  have lA0 : (limbs (m % 4294967296 ^ k)).length ≤ k := limbs_length_le (Nat.mod_lt _ hP)
  have lB0 : (limbs (n % 4294967296 ^ k)).length ≤ k := limbs_length_le (Nat.mod_lt _ hP)
  have lA1 : (limbs (m / 4294967296 ^ k)).length ≤ k := limbs_length_le (Nat.div_lt_of_lt_mul lm)
  have lB1 : (limbs (n / 4294967296 ^ k)).length ≤ k := limbs_length_le (Nat.div_lt_of_lt_mul ln)
  have hmn : m * n < 4294967296 ^ ((limbs m).length + (limbs n).length + 2) := by
    have h1 : m * n < 4294967296 ^ ((limbs m).length + (limbs n).length) := by
      rw [Nat.pow_add]; exact Nat.mul_lt_mul'' (lt_pow_length m) (lt_pow_length n)
    exact Nat.lt_of_lt_of_le h1 (Nat.pow_le_pow_right (by omega) (by omega))
  have Hem := Lib.hid em
  have Hen := Lib.hid en
  have Hmn := Lib.hid hmn
  clear em en lm ln hP hmn
  go_enter Tryz.func109, Tryz.ntmps109
  go_wp2_with fail
  rw [ek]
  clear ek
  refine (split_calls _ m k _ w g1 rfl b1 (by omega)).mono ?_
  rintro e w1 ⟨a0, a1, rfl, ha0, ha1, hB1⟩
  have g2' := g2.mono hB1
  go_wp2_with fail
  refine (split_calls _ n k _ w1 g2' rfl (by omega) (by omega)).mono ?_
  rintro e w2 ⟨b0, b1', rfl, hb0, hb1', hB2⟩
  replace ha0 := ha0.mono hB2
  replace ha1 := ha1.mono hB2
  replace hB2 := below_trans hB1 hB2
  generalize m % 4294967296 ^ k = A0 at *
  generalize m / 4294967296 ^ k = A1 at *
  generalize n % 4294967296 ^ k = B0 at *
  generalize n / 4294967296 ^ k = B1 at *
  go_wp2_with fail
  refine (ih _ _ A0 B0 w2 ha0 hb0 (by omega) (by omega) (by omega)).mono ?_
  rintro e w3 ⟨lo, rfl, hlo, hflo, hB3⟩
  replace ha0 := ha0.mono hB3
  replace ha1 := ha1.mono hB3
  replace hb0 := hb0.mono hB3
  replace hb1' := hb1'.mono hB3
  replace hB3 := below_trans hB2 hB3
  go_wp2_with fail
  refine (ih _ _ A1 B1 w3 ha1 hb1' (by omega) (by omega) (by omega)).mono ?_
  rintro e w4 ⟨hi, rfl, hhi, hfhi, hB4⟩
  replace ha0 := ha0.mono hB4
  replace ha1 := ha1.mono hB4
  replace hb0 := hb0.mono hB4
  replace hb1' := hb1'.mono hB4
  replace hlo := hlo.mono hB4
  replace hB4 := below_trans hB3 hB4
  go_wp2_with fail
  refine (plus_calls _ _ A0 A1 w4 ha0 ha1 (by omega) (by omega)).mono ?_
  rintro e w5 ⟨sa, rfl, hsa, hfsa, hB5⟩
  replace hb0 := hb0.mono hB5
  replace hb1' := hb1'.mono hB5
  replace hlo := hlo.mono hB5
  replace hhi := hhi.mono hB5
  replace hB5 := below_trans hB4 hB5
  go_wp2_with fail
  refine (plus_calls _ _ B0 B1 w5 hb0 hb1' (by omega) (by omega)).mono ?_
  rintro e w6 ⟨sb, rfl, hsb, hfsb, hB6⟩
  replace hsa := hsa.mono hB6
  replace hlo := hlo.mono hB6
  replace hhi := hhi.mono hB6
  replace hB6 := below_trans hB5 hB6
  have lsa := limbs_length_add A0 A1
  have lsb := limbs_length_add B0 B1
  go_wp2_with fail
  refine (ih _ _ (A0 + A1) (B0 + B1) w6 hsa hsb (by omega) (by omega) (by omega)).mono ?_
  rintro e w7 ⟨pr, rfl, hpr, hfpr, hB7⟩
  replace hlo := hlo.mono hB7
  replace hhi := hhi.mono hB7
  replace hB7 := below_trans hB6 hB7
  have emul : (A0 + A1) * (B0 + B1) = A0 * B0 + A0 * B1 + A1 * B0 + A1 * B1 := by grind
  have lpr := limbs_length_mul (A0 + A1) (B0 + B1)
  have hle1 : A0 * B0 ≤ (A0 + A1) * (B0 + B1) := by omega
  have Hemul := Lib.hid emul
  clear emul
  go_wp2_with fail
  refine (minus_calls _ _ _ _ w7 hpr hlo hle1 (by omega)).mono ?_
  rintro e w8 ⟨d1, rfl, hd1, hfd1, hB8⟩
  replace hlo := hlo.mono hB8
  replace hhi := hhi.mono hB8
  replace hB8 := below_trans hB7 hB8
  have ld1 := limbs_length_mono (Nat.sub_le ((A0 + A1) * (B0 + B1)) (A0 * B0))
  have hle2 : A1 * B1 ≤ (A0 + A1) * (B0 + B1) - A0 * B0 := by have := Hemul.out; omega
  go_wp2_with fail
  refine (minus_calls _ _ _ _ w8 hd1 hhi hle2 (by omega)).mono ?_
  rintro e w9 ⟨mid, rfl, hmid, hfmid, hB9⟩
  replace hlo := hlo.mono hB9
  replace hhi := hhi.mono hB9
  replace hB9 := below_trans hB8 hB9
  have emid : (A0 + A1) * (B0 + B1) - A0 * B0 - A1 * B1 = A0 * B1 + A1 * B0 := by have := Hemul.out; omega
  rw [emid] at hmid
  clear emid ld1 hle1 hle2 lpr lsa lsb
  go_wp2_with (at_make; refine wpList_make_nums _ rfl _ _ 118 rfl 87 Tryz.underlying118 info32 _ _ _ _ ((limbs m).length + (limbs n).length + 2) rfl rfl (by omega) (by omega) (by omega) ?_; intro w10 hrow hB10 hs10)
  have aplo := hlo.apart_new (Nat.le_refl _)
  have aphi := hhi.apart_new (Nat.le_refl _)
  have apmid := hmid.apart_new (Nat.le_refl _)
  replace hlo := hlo.mono hB10
  replace hhi := hhi.mono hB10
  replace hmid := hmid.mono hB10
  -- the three values
  have hv : A0 * B0 + 4294967296 ^ k * (A0 * B1 + A1 * B0) + 4294967296 ^ (2 * k) * (A1 * B1) = m * n := by
    rw [Nat.mul_comm 2 k, Nat.pow_mul, Hem.out, Hen.out, Nat.pow_two]; grind
  have hbound := Hmn.out
  rw [← hv] at hbound
  have rlo : 0 + (limbs (A0 * B0)).length ≤ (limbs m).length + (limbs n).length + 2 := room_of_val (by omega) (by rw [Nat.pow_zero, Nat.one_mul]; omega)
  have rmid : k + (limbs (A0 * B1 + A1 * B0)).length ≤ (limbs m).length + (limbs n).length + 2 := room_of_val (by omega) (by omega)
  have rhi : 2 * k + (limbs (A1 * B1)).length ≤ (limbs m).length + (limbs n).length + 2 := room_of_val (by omega) (by omega)
  have Hv := Lib.hid hv
  have Hbound := Lib.hid hbound
  clear hv hbound
  go_wp2_with fail
  refine (addAt_calls w9.heap.size _ 0 (A0 * B0) _ _ _ w10 hrow (by simp) hlo aplo rfl rlo (by rw [val_replicate, Nat.pow_zero]; have := Hbound.out; omega) (by omega)).mono ?_
  rintro e w11 ⟨R1, rfl, hl1, hrow1, hv1, ho1⟩
  rw [val_replicate, Nat.pow_zero, Nat.one_mul, Nat.zero_add] at hv1
  replace hhi := hhi.only ho1 aphi
  replace hmid := hmid.only ho1 apmid
  have Hv1 := Lib.hid hv1
  have Hl1 := Lib.hid hl1
  clear hv1 hl1
  go_wp2_with fail
  refine (addAt_calls w9.heap.size _ k (A0 * B1 + A1 * B0) _ R1 _ w11 hrow1 Hl1.out hmid apmid rfl rmid (by rw [Hv1.out]; have := Hbound.out; omega) (by omega)).mono ?_
  rintro e w12 ⟨R2, rfl, hl2, hrow2, hv2, ho2⟩
  rw [Hv1.out] at hv2
  replace hhi := hhi.only ho2 aphi
  have Hv2 := Lib.hid hv2
  have Hl2 := Lib.hid hl2
  clear hv2 hl2
  go_wp2_with fail
  refine (addAt_calls w9.heap.size _ (2 * k) (A1 * B1) _ R2 _ w12 hrow2 Hl2.out hhi aphi (by omega) rhi (by rw [Hv2.out]; exact Hbound.out) (by omega)).mono ?_
  rintro e w13 ⟨R3, rfl, hl3, hrow3, hv3, ho3⟩
  rw [Hv2.out, Hv.out] at hv3
  have Hv3 := Lib.hid hv3
  have Hl3 := Lib.hid hl3
  have hsl := hrow3.whole (by rw [hl3]; unfold maxLen; omega)
  rw [hl3] at hsl
  clear hv3 hl3
  go_wp2_with fail
  refine (trim_calls _ _ _ R3 w13 hsl Hl3.out.symm).mono ?_
  rintro e w' ⟨kk, rfl, hnum, rfl⟩
  rw [Hv3.out] at hnum
  go_wp2
  go_ret
  refine ⟨_, rfl, hnum, hB9.size, ?_⟩
  exact below_only (below_trans hB9 hB10) ((ho1.trans ho2).trans ho3) hB9.size (by have := hB9.size; have := hB10.size; omega)


set_option maxRecDepth 100000 in
theorem pieces_raw (K : Nat) (ih : TimesTo K) (v1 v2 : Value) (m n : Nat) (w : World) (h1 : Num w v1 m) (h2 : Num w v2 n) (hs : 0 < (limbs n).length)
    (hK : 2 * (limbs n).length < K) (b1 : (limbs m).length ≤ 1000000000) (b2 : (limbs n).length ≤ 1000000000) :
    Calls Tryz.prog 108 #[v1, v2] w (RetNum w (m * n)) := by
  have g2 := h2
  obtain ⟨ad1, c1, rfl, s1⟩ := h1
  obtain ⟨ad2, c2, rfl, s2⟩ := h2
  have hcm := s1.2.1
  have hc1 := s1.1
  unfold maxLen at hcm
  have hmn : m * n < 4294967296 ^ ((limbs m).length + (limbs n).length + 1) := by
    have h1 : m * n < 4294967296 ^ ((limbs m).length + (limbs n).length) := by
      rw [Nat.pow_add]; exact Nat.mul_lt_mul'' (lt_pow_length m) (lt_pow_length n)
    exact Nat.lt_of_lt_of_le h1 (Nat.pow_le_pow_right (by omega) (by omega))
  have Hmn := Lib.hid hmn
  clear hmn
  go_enter Tryz.func108, Tryz.ntmps108
  go_wp2_with (at_make; refine wpList_make_nums _ rfl _ _ 118 rfl 87 Tryz.underlying118 info32 _ _ _ _ ((limbs m).length + (limbs n).length + 1) rfl rfl (by omega) (by omega) (by omega) ?_; intro w1 hr1 hb1 hs1)
  go_loopw [6] (fun av wr => ∃ (k : Nat) (R : List Nat), k ≤ (limbs m).length + (limbs n).length ∧ av = .int .i64 k ∧ R.length = (limbs m).length + (limbs n).length + 1 ∧ Row wr w.heap.size R ∧ Below w.heap.size w wr ∧ w.heap.size < wr.heap.size ∧
      val R = val ((limbs m).take k) * n)
    (fun av _ => (limbs m).length + (limbs n).length - (intOf av).toNat)
  case atStart => exact ⟨0, List.replicate ((limbs m).length + (limbs n).length + 1) 0, Nat.zero_le _, rfl, by simp, hr1, hb1, hs1, by simp [val, val_replicate]⟩
  case round =>
    obtain ⟨k, R, hk, rfl, hlR, hrow, hbel, hsz, hval⟩ := hrel
    have HlR := Lib.hid hlR
    have Hval := Lib.hid hval
    clear hlR hval
    by_cases hlt : k < (limbs m).length
    · obtain ⟨b, o, rfl, hbs, _, _⟩ := s1.open hlt
      by_cases hend : k + (limbs n).length ≤ (limbs m).length
      · have hsp : Sl wr (some ⟨b, o + k, none⟩) (c1 - k) (((limbs m).drop k).take ((limbs n).length)) := ((s1.drop b o k rfl (by omega)).take _).mono (Nat.le_refl _) hbel
        have hlen : (((limbs m).drop k).take ((limbs n).length)).length = (limbs n).length := by rw [List.length_take, List.length_drop]; omega
        have htk : val ((limbs m).take (k + (limbs n).length)) = val ((limbs m).take k) + 4294967296 ^ k * val (((limbs m).drop k).take ((limbs n).length)) := by
          rw [List.take_add, val_append, List.length_take, Nat.min_eq_left (by omega)]
        have hvb : val ((limbs m).take (k + (limbs n).length)) ≤ m := by
          have := val_take_le (limbs m) (k + (limbs n).length)
          rwa [val_limbs] at this
        have hpl := limbs_length_val _ hsp.2.2.1
        rw [hlen] at hpl
        have Hlen := Lib.hid hlen
        have Htk := Lib.hid htk
        clear hlen htk
        go_wp2_with fail
        try rw [show (min ((k : Int) + ((limbs n).length : Int)) ((limbs m).length : Int)).toNat - k = (limbs n).length by omega]
        refine (trim_calls _ _ _ _ wr hsp Hlen.out.symm).mono ?_
        rintro e w' ⟨kk, rfl, hnum, rfl⟩
        generalize val (((limbs m).drop k).take ((limbs n).length)) = pt at *
        go_wp2_with fail
        refine (ih _ _ pt n wr hnum (g2.mono hbel) (by omega) (by omega) b2).mono ?_
        rintro e w2 ⟨pr, rfl, hpr, hfr, hb2⟩
        have hap := hfr.apart hsz
        have hroom : val R + 4294967296 ^ k * (pt * n) < 4294967296 ^ ((limbs m).length + (limbs n).length + 1) := by
          have e1 : val R + 4294967296 ^ k * (pt * n) = (val ((limbs m).take k) + 4294967296 ^ k * pt) * n := by rw [Hval.out]; grind
          rw [e1, ← Htk.out]
          exact Nat.lt_of_le_of_lt (Nat.mul_le_mul_right n hvb) Hmn.out
        go_wp2_with fail
        refine (addAt_calls w.heap.size _ k (pt * n) _ R _ w2 (hrow.below hb2 hsz) HlR.out hpr hap rfl (room_of_val (by omega) (by omega)) hroom (by omega)).mono ?_
        rintro e w3 ⟨R', rfl, hl', hrow', hv', ho'⟩
        have hbel' : Below w.heap.size w w3 := below_only (below_trans hbel hb2) ho' (Nat.le_refl _) (by have := hb2.size; omega)
        have hsz' : w.heap.size < w3.heap.size := by have := hb2.size; have := ho'.size; omega
        have Hl' := Lib.hid hl'
        have Hv' := Lib.hid hv'
        clear hl' hv' hroom
        go_wp2
        go_roundw
        case rel =>
          refine ⟨k + (limbs n).length, R', by omega, by go_num, Hl'.out, hrow', hbel', hsz', ?_⟩
          rw [Hv'.out, Htk.out, Hval.out]
          grind
        case measure => simp [intOf]; omega
      · have hsp : Sl wr (some ⟨b, o + k, none⟩) (c1 - k) (((limbs m).drop k).take ((limbs m).length - k)) := ((s1.drop b o k rfl (by omega)).take _).mono (Nat.le_refl _) hbel
        have hlen : (((limbs m).drop k).take ((limbs m).length - k)).length = (limbs m).length - k := by rw [List.length_take, List.length_drop]; omega
        have htk : val ((limbs m).take (k + (limbs n).length)) = val ((limbs m).take k) + 4294967296 ^ k * val (((limbs m).drop k).take ((limbs m).length - k)) := by
          rw [List.take_add, val_append, List.length_take, Nat.min_eq_left (by omega), take_take_end ((limbs m).drop k) (limbs n).length ((limbs m).length - k) (by rw [List.length_drop]) (by omega)]
        have hvb : val ((limbs m).take (k + (limbs n).length)) ≤ m := by
          have := val_take_le (limbs m) (k + (limbs n).length)
          rwa [val_limbs] at this
        have hpl := limbs_length_val _ hsp.2.2.1
        rw [hlen] at hpl
        have Hlen := Lib.hid hlen
        have Htk := Lib.hid htk
        clear hlen htk
        go_wp2_with fail
        try rw [show (min ((k : Int) + ((limbs n).length : Int)) ((limbs m).length : Int)).toNat - k = (limbs n).length by omega]
        try rw [show (min ((k : Int) + ((limbs n).length : Int)) ((limbs m).length : Int)).toNat - k = (limbs m).length - k by omega]
        refine (trim_calls _ _ _ _ wr hsp Hlen.out.symm).mono ?_
        rintro e w' ⟨kk, rfl, hnum, rfl⟩
        generalize val (((limbs m).drop k).take ((limbs m).length - k)) = pt at *
        go_wp2_with fail
        refine (ih _ _ pt n wr hnum (g2.mono hbel) (by omega) (by omega) b2).mono ?_
        rintro e w2 ⟨pr, rfl, hpr, hfr, hb2⟩
        have hap := hfr.apart hsz
        have hroom : val R + 4294967296 ^ k * (pt * n) < 4294967296 ^ ((limbs m).length + (limbs n).length + 1) := by
          have e1 : val R + 4294967296 ^ k * (pt * n) = (val ((limbs m).take k) + 4294967296 ^ k * pt) * n := by rw [Hval.out]; grind
          rw [e1, ← Htk.out]
          exact Nat.lt_of_le_of_lt (Nat.mul_le_mul_right n hvb) Hmn.out
        go_wp2_with fail
        refine (addAt_calls w.heap.size _ k (pt * n) _ R _ w2 (hrow.below hb2 hsz) HlR.out hpr hap rfl (room_of_val (by omega) (by omega)) hroom (by omega)).mono ?_
        rintro e w3 ⟨R', rfl, hl', hrow', hv', ho'⟩
        have hbel' : Below w.heap.size w w3 := below_only (below_trans hbel hb2) ho' (Nat.le_refl _) (by have := hb2.size; omega)
        have hsz' : w.heap.size < w3.heap.size := by have := hb2.size; have := ho'.size; omega
        have Hl' := Lib.hid hl'
        have Hv' := Lib.hid hv'
        clear hl' hv' hroom
        go_wp2
        go_roundw
        case rel =>
          refine ⟨k + (limbs n).length, R', by omega, by go_num, Hl'.out, hrow', hbel', hsz', ?_⟩
          rw [Hv'.out, Htk.out, Hval.out]
          grind
        case measure => simp [intOf]; omega
    · have hsl := hrow.whole (by rw [HlR.out]; unfold maxLen; omega)
      rw [HlR.out] at hsl
      have hv2 : val R = m * n := by rw [Hval.out, List.take_of_length_le (by omega), val_limbs]
      have Hv2 := Lib.hid hv2
      clear hv2
      go_wp2_with (go_at_call 96; refine (trim_calls _ _ _ R _ hsl HlR.out.symm).mono ?_; rintro e w' ⟨kk, rfl, hnum, rfl⟩)
      go_ret
      rw [Hv2.out] at hnum
      exact ⟨_, rfl, hnum, Nat.le_refl _, hbel⟩


theorem Num.nil' {w : World} {n : Nat} (h : (limbs n).length = 0) : Num w (.slice none 0 0) n := by
  have : limbs n = [] := List.eq_nil_of_length_eq_zero h
  have := limbs_eq_nil.1 this
  subst this
  exact Num.nil w

set_option maxRecDepth 100000 in
/-- the longer factor first -/
theorem times_step (K : Nat) (ih : TimesTo K) (v1 v2 : Value) (m n : Nat) (w : World) (h1 : Num w v1 m) (h2 : Num w v2 n) (hle : (limbs n).length ≤ (limbs m).length) (hK : (limbs m).length + (limbs n).length ≤ K)
    (b1 : (limbs m).length ≤ 1000000000) (b2 : (limbs n).length ≤ 1000000000) :
    Calls Tryz.prog 98 #[v1, v2] w (RetNum w (m * n)) ∧ ((limbs n).length < (limbs m).length → Calls Tryz.prog 98 #[v2, v1] w (RetNum w (m * n))) := by
  have g1 := h1
  have g2 := h2
  obtain ⟨ad1, c1, rfl, s1⟩ := h1
  obtain ⟨ad2, c2, rfl, s2⟩ := h2
  refine ⟨?_, fun hlt2 => ?_⟩
  all_goals
    by_cases h0 : (limbs n).length = 0
    · have e0 : m * n = 0 := by
        have : limbs n = [] := List.eq_nil_of_length_eq_zero h0
        rw [limbs_eq_nil.1 this, Nat.mul_zero]
      have t0 : (((limbs n).length : Int) == 0) = true := by simp [h0]
      rw [e0]
      have H0 := Lib.hid h0
      clear h0 e0
      go_enter Tryz.func98, Tryz.ntmps98
      go_wp2
      go_ret
      exact ⟨_, rfl, Num.nil _, trivial, Below.refl _ _⟩
    · have t0 : (((limbs n).length : Int) == 0) = false := by simp [h0]
      have h0' : 0 < (limbs n).length := by omega
      have H0 := Lib.hid h0
      clear h0
      by_cases h40 : (limbs n).length < 40
      · go_enter Tryz.func98, Tryz.ntmps98
        go_wp2_with (go_at_call 107; refine (school_calls _ _ m n _ g1 g2 b1 b2).mono ?_; rintro e w' ⟨v, rfl, hv, hf, hb⟩)
        go_ret
        exact ⟨_, rfl, hv, hf, hb⟩
      · by_cases h2l : 2 * (limbs n).length ≤ (limbs m).length
        · go_enter Tryz.func98, Tryz.ntmps98
          go_wp2_with (go_at_call 108; refine (pieces_raw K ih _ _ m n _ g1 g2 h0' (by omega) b1 b2).mono ?_; rintro e w' ⟨v, rfl, hv, hf, hb⟩)
          go_ret
          exact ⟨_, rfl, hv, hf, hb⟩
        · go_enter Tryz.func98, Tryz.ntmps98
          go_wp2_with (go_at_call 109; refine (karatsuba_raw K ih _ _ m n _ g1 g2 hle (by omega) (by omega) (by omega) b1).mono ?_; rintro e w' ⟨v, rfl, hv, hf, hb⟩)
          go_ret
          exact ⟨_, rfl, hv, hf, hb⟩

theorem times_to (K : Nat) : TimesTo K := by
  induction K with
  | zero => exact fun v1 v2 m n w h1 h2 hK b1 b2 => (Nat.not_lt_zero _ hK).elim
  | succ K ih =>
    intro v1 v2 m n w h1 h2 hK b1 b2
    by_cases hle : (limbs n).length ≤ (limbs m).length
    · exact (times_step K ih v1 v2 m n w h1 h2 hle (by omega) b1 b2).1
    · have := (times_step K ih v2 v1 n m w h2 h1 (by omega) (by omega) b2 b1).2 (by omega)
      rwa [Nat.mul_comm] at this

/-- times returns the product. -/
theorem times_calls (v1 v2 : Value) (m n : Nat) (w : World) (h1 : Num w v1 m) (h2 : Num w v2 n) (b1 : (limbs m).length ≤ 1000000000) (b2 : (limbs n).length ≤ 1000000000) :
    Calls Tryz.prog 98 #[v1, v2] w (RetNum w (m * n)) :=
  times_to _ v1 v2 m n w h1 h2 (Nat.lt_succ_self _) b1 b2

end Go.Proofs
end

