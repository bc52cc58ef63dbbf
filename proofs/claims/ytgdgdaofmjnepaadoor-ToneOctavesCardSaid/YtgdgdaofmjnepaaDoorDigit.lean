/- nat.digit: one limb of a quotient. -/
import Derived.Test.YtgdgdaofmjnepaaDoorTrim
import Derived.Test.YtgdgdaofmjnepaaDoorKnuth
import Derived.Deep.RegionWith
import Derived.Deep.DeepCutAuto
import Derived.Deep.CutBlock
open Go.RowKit
namespace Go.Proofs
set_option linter.unusedVariables false

/-- what digit leaves -/
def Digit (w : World) (B : Nat) (L T : List Nat) (n U V : Nat) (e : Ending) (w' : World) : Prop :=
  ∃ us, e = .returned (.int .u32 ((U / V : Nat) : Int)) ∧ us.length = n + 1 ∧ val us = U % V ∧ Row w' B (L ++ us ++ T) ∧ Only B w w'

/-- the leading limbs of both numbers -/
theorem lead_of (us vs : List Nat) (n : Nat) (hu : us.length = n + 1) (hv : vs.length = n) (hn : 2 ≤ n) (hus : ∀ x ∈ us, x < 4294967296) (hvs : ∀ x ∈ vs, x < 4294967296) (htop : 2147483648 ≤ vs.getD (n - 1) 0) (hlt : val us < 4294967296 * val vs) :
    Lead (4294967296 ^ (n - 2)) (val us) (val vs) (us.getD n 0) (us.getD (n - 1) 0) (us.getD (n - 2) 0) (vs.getD (n - 1) 0) (vs.getD (n - 2) 0) := by
  have eu := val_take_drop us (n - 2) (by omega)
  have ev := val_take_drop vs (n - 2) (by omega)
  have lu := val_lt (us.take (n - 2)) fun x h => hus x (List.mem_of_mem_take h)
  have lv := val_lt (vs.take (n - 2)) fun x h => hvs x (List.mem_of_mem_take h)
  rw [List.length_take, Nat.min_eq_left (by omega)] at lu lv
  have du0 := val_drop_cons us (n - 2) (by omega)
  have du1 := val_drop_cons us (n - 2 + 1) (by omega)
  have du2 := val_drop_cons us (n - 2 + 1 + 1) (by omega)
  have du3 : us.drop (n - 2 + 1 + 1 + 1) = [] := List.drop_of_length_le (by omega)
  have dv0 := val_drop_cons vs (n - 2) (by omega)
  have dv1 := val_drop_cons vs (n - 2 + 1) (by omega)
  have dv2 : vs.drop (n - 2 + 1 + 1) = [] := List.drop_of_length_le (by omega)
  rw [show n - 2 + 1 + 1 = n by omega] at du1 du2 dv1 dv2
  rw [show n - 2 + 1 = n - 1 by omega] at du0 du1 dv0 dv1
  rw [show n - 2 + 1 + 1 + 1 = n + 1 by omega] at du3
  rw [du3] at du2
  rw [dv2] at dv1
  simp only [val, Nat.mul_zero, Nat.add_zero] at du2 dv1
  rw [dv1] at dv0
  rw [du2] at du1
  rw [du1] at du0
  rw [du0] at eu
  rw [dv0] at ev
  have b0 := getD_lt_of hus n
  have b1 := getD_lt_of hus (n - 1)
  have b2 := getD_lt_of hus (n - 2)
  have c1 := getD_lt_of hvs (n - 1)
  have c2 := getD_lt_of hvs (n - 2)
  have e1 : us.getD (n - 2) 0 + 4294967296 * (us.getD (n - 1) 0 + 4294967296 * us.getD n 0) = us.getD (n - 2) 0 + 4294967296 * (us.getD n 0 * 4294967296 + us.getD (n - 1) 0) := by omega
  rw [e1] at eu
  exact ⟨by omega, by omega, by omega, by omega, hlt, b0, b1, b2, c1, c2, htop⟩

theorem sub_step (p g y c b c' q r d x vs vt vu v0 : Nat) (h : vu + g * vt = v0 + (c + b) * p) (hs : vs + p * x = vu + p * d) (he : d + r + b = x + 4294967296 * q) (hd : 4294967296 * c' + r = g * y + c) :
    vs + g * (vt + p * y) = v0 + (c' + q) * (p * 4294967296) := by
  grind

theorem sub_last (p g c b q d x vs vt vu v0 : Nat) (h : vu + g * vt = v0 + (c + b) * p) (hs : vs + p * x = vu + p * d) (he : d + c + b = x + 4294967296 * q) :
    vs + g * vt = v0 + q * (p * 4294967296) := by
  grind

theorem back_step (p x y k q r vs vt vu v0 : Nat) (h : vu + k * p = v0 + vt) (hs : vs + p * x = vu + p * r) (hd : 4294967296 * q + r = x + y + k) : vs + q * (p * 4294967296) = v0 + (vt + p * y) := by
  grind

theorem back_end (p x k v3 vs v2 vt m : Nat) (hx : x < 4294967296) (hm : m < p) (hlow : vs < p) (h1 : v3 + k * p = v2 + vt) (hset : vs + p * x = v3) (h2 : v2 + vt = m + p * 4294967296) : x + k = 4294967296 ∧ vs = m := by
  have e : vs + p * (x + k) = m + p * 4294967296 := by grind
  have h3 : x + k = 4294967296 := by
    rcases Nat.lt_trichotomy (x + k) 4294967296 with h | h | h
    · exfalso
      have := Nat.mul_le_mul_left p (show x + k + 1 ≤ 4294967296 by omega)
      rw [Nat.mul_add, Nat.mul_one] at this
      omega
    · exact h
    · exfalso
      have := Nat.mul_le_mul_left p (show 4294967296 + 1 ≤ x + k by omega)
      rw [Nat.mul_add, Nat.mul_one] at this
      omega
  rw [h3] at e
  exact ⟨h3, by omega⟩

set_option maxHeartbeats 1000000 in
set_option maxRecDepth 100000 in
theorem digit_raw (B o n cu : Nat) (L us T : List Nat) (adv : Option Addr) (cv : Nat) (vs : List Nat) (w : World) (hrow : Row w B (L ++ us ++ T)) (hL : L.length = o) (hus : us.length = n + 1) (hvs : vs.length = n)
    (hv : Sl w adv cv vs) (hap : ∀ a, adv = some a → a.block ≠ B) (hn : 2 ≤ n) (htop : 2147483648 ≤ vs.getD (n - 1) 0) (hlt : val us < 4294967296 * val vs) (hcu : n + 1 ≤ cu) (hreach : n ≤ 4000000000) :
    Calls Tryd.prog 141 #[.slice (some ⟨B, o, none⟩) (n + 1) cu, .slice adv n cv] w (Digit w B L T n (val us) (val vs)) := by
  have hlead := lead_of us vs n hus hvs hn hrow.midLt hv.2.2.1 htop hlt
  obtain ⟨bv, ov, rfl, hbv, hcv1, _⟩ := hv.open (i := n - 1) (by omega)
  have hbB : bv ≠ B := hap _ rfl
  obtain ⟨bv', ov', e', _, hcv2, _⟩ := hv.open (i := n - 2) (by omega)
  cases e'
  have hcu0 := hrow.midCell hL (i := n) (by omega)
  have hcu1 := hrow.midCell hL (i := n - 1) (by omega)
  have hcu2 := hrow.midCell hL (i := n - 2) (by omega)
  obtain ⟨u0, hu0⟩ : ∃ x, us.getD n 0 = x := ⟨_, rfl⟩
  obtain ⟨u1, hu1⟩ : ∃ x, us.getD (n - 1) 0 = x := ⟨_, rfl⟩
  obtain ⟨u2, hu2⟩ : ∃ x, us.getD (n - 2) 0 = x := ⟨_, rfl⟩
  obtain ⟨v1, hv1⟩ : ∃ x, vs.getD (n - 1) 0 = x := ⟨_, rfl⟩
  obtain ⟨v2, hv2⟩ : ∃ x, vs.getD (n - 2) 0 = x := ⟨_, rfl⟩
  rw [hu0] at hcu0
  rw [hu1] at hcu1
  rw [hu2] at hcu2
  rw [hv1] at hcv1
  rw [hv2] at hcv2
  rw [hu0, hu1, hu2, hv1, hv2] at hlead
  have b0 := hlead.b0; have b1 := hlead.b1; have b2 := hlead.b2; have c1 := hlead.c1; have c2 := hlead.c2; have ctop := hlead.top
  have HL := Lib.hid hL
  have Hus := Lib.hid hus
  have Hvs := Lib.hid hvs
  have Hlead := Lib.hid hlead
  have Hv1 := Lib.hid hv1
  have hor := or_limbs u0 u1 b0 b1
  have k1 : IntKind.i64.wrap ((n : Int) - 1) = (n : Int) - 1 := IntWalk.i64_in _ (by omega)
  have k2 : (0 : Int) ≤ (n : Int) - 1 := by omega
  have k3 : ((n : Int) - 1).toNat = n - 1 := by omega
  have k4 : (n : Int) - 1 < (n : Int) + 1 := by omega
  have k5 : (n : Int) - 1 < (n : Int) := by omega
  have k6 : (n : Int) < (n : Int) + 1 := by omega
  have d0 : ((v1 : Int) == 0) = false := by rw [beq_eq_false_iff_ne]; omega
  have d1 : (1 : Int) ≤ (v1 : Int) := by omega
  clear hu0 hu1 hu2 hv1 hv2 hL hus hvs hlead htop hlt hap
  go_enter Tryd.func141, Tryd.ntmps141
  go_wp2_with fail
  go_quiet (fail)
  go_wp2_with fail
  go_quiet (fail)
  go_upto_block 0 with (fail)
  have hB := hrow.lt
  obtain ⟨t, ht⟩ : ∃ t, u0 * 4294967296 + u1 = t := ⟨_, rfl⟩
  have et : (u0 : Int) * 4294967296 + (u1 : Int) = (t : Int) := by omega
  rw [et]
  have hinit := Hlead.out.init
  have hile := Hlead.out.init_le
  rw [ht] at hinit hile
  have Ht := Lib.hid ht
  clear et ht hor
  go_cut [7, 8] (fun gv rv wx => ∃ g : Nat, val us / val vs ≤ g ∧ g ≤ val us / val vs + 1 ∧ g < 4294967296 ∧ gv = .int .u64 g ∧ Below w.heap.size w wx)
  case first =>
    go_wp2_with fail
    go_loopw [7, 8] (fun gv rv wr => ∃ g r : Nat, val us / val vs ≤ g ∧ g ≤ 4294967297 ∧ g * v1 + r = t ∧ r < 4294967296 ∧ gv = .int .u64 g ∧ rv = .int .u64 r ∧ Below w.heap.size w wr)
      (fun gv _ _ => (intOf gv).toNat)
    case atStart =>
      exact ⟨t / v1, t % v1, hinit, hile, by rw [Nat.mul_comm]; exact Nat.div_add_mod t v1, Nat.lt_of_lt_of_le (Nat.mod_lt _ (by omega)) (by omega), congrArg (Value.int .u64) (Int.natCast_ediv t v1).symm, congrArg (Value.int .u64) (Int.natCast_emod t v1).symm, below_drewN (below_drewN (Below.refl _ _) _) _⟩
    case round =>
      obtain ⟨g, r, hg, hg2, hgr, hr, rfl, rfl, hbel⟩ := hrel
      have Hg := Lib.hid hg
      have Hgr := Lib.hid hgr
      have cu0 := (hbel.cell (p := ⟨B, o + n, none⟩) hB).trans hcu0
      have cu1 := (hbel.cell (p := ⟨B, o + (n - 1), none⟩) hB).trans hcu1
      have cu2 := (hbel.cell (p := ⟨B, o + (n - 2), none⟩) hB).trans hcu2
      have cv1 := (hbel.cell (p := ⟨bv, ov + (n - 1), none⟩) hbv).trans hcv1
      have cv2 := (hbel.cell (p := ⟨bv, ov + (n - 2), none⟩) hbv).trans hcv2
      have j1 : IntKind.i64.wrap ((n : Int) - 2) = (n : Int) - 2 := IntWalk.i64_in _ (by omega)
      have j2 : (0 : Int) ≤ (n : Int) - 2 := by omega
      have j3 : ((n : Int) - 2).toNat = n - 2 := by omega
      have j4 : (n : Int) - 2 < (n : Int) + 1 := by omega
      have j5 : (n : Int) - 2 < (n : Int) := by omega
      clear hg hgr hinit hile
      have finish : ∀ r', (4294967296 ≤ r' → (g - 1) * v1 + r' = t → val us / val vs ≤ g - 1 → g - 1 < 4294967296 ∧ g - 1 ≤ val us / val vs + 1) := by
        intro r' h1 h2 h3
        have h4 := Hlead.out.left Ht.out h2 h1
        exact ⟨h4.1, Hlead.out.near Ht.out h2 h4.2 (by omega)⟩
      by_cases hbig : 4294967296 ≤ g
      · have q1 : decide ((0 : Int) < (g : Int) / 4294967296) = true := by simp; omega
        have hlow : val us / val vs ≤ g - 1 := by have := Hlead.out.quo; omega
        have hmul : (g - 1) * v1 + (r + v1) = t := by
          have := Hgr.out
          obtain ⟨k, rfl⟩ : ∃ k, g = k + 1 := ⟨g - 1, by omega⟩
          rw [Nat.add_mul, Nat.one_mul] at this
          rw [Nat.add_sub_cancel]
          omega
        have fin := finish (r + v1)
        have Hlow := Lib.hid hlow
        have Hmul := Lib.hid hmul
        have Fin := Lib.hid fin
        clear hlow hmul fin finish
        by_cases hbr : 4294967296 ≤ r + v1
        · have q2 : decide ((0 : Int) < ((r : Int) + (v1 : Int)) / 4294967296) = true := by simp; omega
          go_wp2_with fail
          go_quiet (fail)
          go_wp2_with fail
          go_meet
          have hf := Fin.out hbr Hmul.out Hlow.out
          exact ⟨g - 1, Hlow.out, hf.2, hf.1, congrArg (Value.int .u64) (by omega), below_drewN hbel _⟩
        · have q2 : decide ((0 : Int) < ((r : Int) + (v1 : Int)) / 4294967296) = false := by simp; omega
          go_wp2_with fail
          go_quiet (fail)
          go_wp2_with fail
          go_roundw
          case rel => exact ⟨g - 1, r + v1, Hlow.out, by omega, Hmul.out, by omega, congrArg (Value.int .u64) (by omega), by go_num, below_drewN hbel _⟩
          case measure => simp [intOf]; omega
      · have q1 : decide ((0 : Int) < (g : Int) / 4294967296) = false := by simp; omega
        have hor := or_limbs r u2 hr b2
        have m0 : (0 : Int) ≤ (g : Int) * (v2 : Int) := Int.mul_nonneg (by omega) (by omega)
        have m1 : (g : Int) * (v2 : Int) ≤ 18446744065119617025 := by
          have := Nat.mul_le_mul (show g ≤ 4294967295 by omega) (show v2 ≤ 4294967295 by omega)
          have h2 : ((g * v2 : Nat) : Int) ≤ ((4294967295 * 4294967295 : Nat) : Int) := by exact_mod_cast this
          rw [Int.natCast_mul] at h2
          omega
        have hgv : ((g * v2 : Nat) : Int) = (g : Int) * (v2 : Int) := Int.natCast_mul _ _
        by_cases hgt : r * 4294967296 + u2 < g * v2
        · have q3 : decide ((r : Int) * 4294967296 + (u2 : Int) < (g : Int) * (v2 : Int)) = true := by rw [decide_eq_true_eq]; omega
          have hlow : val us / val vs ≤ g - 1 := by
            have := Hlead.out.down Ht.out Hgr.out hgt
            exact Nat.le_sub_one_of_lt this
          have hg0 : 1 ≤ g := by
            rcases Nat.eq_zero_or_pos g with h0 | h0
            · rw [h0, Nat.zero_mul] at hgt; omega
            · exact h0
          have hmul : (g - 1) * v1 + (r + v1) = t := by
            have := Hgr.out
            obtain ⟨k, rfl⟩ : ∃ k, g = k + 1 := ⟨g - 1, by omega⟩
            rw [Nat.add_mul, Nat.one_mul] at this
            rw [Nat.add_sub_cancel]
            omega
          have fin := finish (r + v1)
          have Hlow := Lib.hid hlow
          have Hmul := Lib.hid hmul
          have Fin := Lib.hid fin
          clear hlow hmul fin finish hgv hgt
          by_cases hbr : 4294967296 ≤ r + v1
          · have q2 : decide ((0 : Int) < ((r : Int) + (v1 : Int)) / 4294967296) = true := by simp; omega
            go_wp2_with fail
            go_quiet (fail)
            go_wp2_with fail
            go_meet
            have hf := Fin.out hbr Hmul.out Hlow.out
            exact ⟨g - 1, Hlow.out, hf.2, hf.1, congrArg (Value.int .u64) (by omega), below_drewN hbel _⟩
          · have q2 : decide ((0 : Int) < ((r : Int) + (v1 : Int)) / 4294967296) = false := by simp; omega
            go_wp2_with fail
            go_quiet (fail)
            go_wp2_with fail
            go_roundw
            case rel => exact ⟨g - 1, r + v1, Hlow.out, by omega, Hmul.out, by omega, congrArg (Value.int .u64) (by omega), by go_num, below_drewN hbel _⟩
            case measure => simp [intOf]; omega
        · have q3 : decide ((r : Int) * 4294967296 + (u2 : Int) < (g : Int) * (v2 : Int)) = false := by rw [decide_eq_false_iff_not]; omega
          have hnear := Hlead.out.near Ht.out Hgr.out (by omega) (by omega)
          have Hnear := Lib.hid hnear
          clear hnear finish hgv hgt
          go_wp2_with fail
          go_quiet (fail)
          go_wp2_with fail
          go_meet
          exact ⟨g, Hg.out, Hnear.out, by omega, rfl, below_drewN hbel _⟩
  case rest =>
    obtain ⟨g, hg1, hg2, hgW, rfl, hbel⟩ := hcut
    have Hg1 := Lib.hid hg1
    have Hg2 := Lib.hid hg2
    have honly := below_toOnly hbel B
    have hrowc := hrow.below hbel hB
    clear k1 k2 k3 k4 k5 k6 d0 d1 hinit hile hcu0 hcu1 hcu2 hcv1 hcv2 hg1 hg2
    go_wp2_with fail
    go_loopw [9, 10, 84] (fun cv bv iv wr => ∃ (i c b : Nat) (us' : List Nat), i ≤ n ∧ c < 4294967296 ∧ b ≤ 1 ∧ us'.length = n + 1 ∧ iv = .int .i64 i ∧ cv = .int .u64 c ∧ bv = .int .u32 b ∧ Row wr B (L ++ us' ++ T) ∧ Only B w wr ∧
        val us' + g * val (vs.take i) = val us + (c + b) * 4294967296 ^ i)
      (fun _ _ iv _ => n - (intOf iv).toNat)
    case atStart => exact ⟨0, 0, 0, us, Nat.zero_le _, by omega, by omega, Hus.out, rfl, rfl, rfl, hrowc, honly, by simp [val]⟩
    case round =>
      obtain ⟨i, c, b, us', hi, hc, hb, hlen, rfl, rfl, rfl, hrow', honly', hval⟩ := hrel
      have Hlen := Lib.hid hlen
      have Hval := Lib.hid hval
      have Hrow := Lib.hid hrow'
      clear hlen hval hrow'
      by_cases hlt : i < n
      · obtain ⟨bv2, ov2, e2, _, hcell, _⟩ := hv.open (i := i) (by rw [Hvs.out]; exact hlt)
        cases e2
        have hy1 := hv.lt i
        obtain ⟨y, ey⟩ : ∃ x, vs.getD i 0 = x := ⟨_, rfl⟩
        rw [ey] at hcell hy1
        have hcell' := (honly'.cell (p := ⟨bv, ov + i, none⟩) hbv hbB).trans hcell
        have ucell := Hrow.out.midCell HL.out (i := i) (by rw [Hlen.out]; omega)
        have ufree := Hrow.out.free (o + i)
        have hx1 := getD_lt_of Hrow.out.midLt i
        obtain ⟨x, ex⟩ : ∃ x, us'.getD i 0 = x := ⟨_, rfl⟩
        rw [ex] at ucell hx1
        have Hy := Lib.hid ey
        have Hx := Lib.hid ex
        have m0 : (0 : Int) ≤ (g : Int) * (y : Int) := Int.mul_nonneg (by omega) (by omega)
        have m1 : (g : Int) * (y : Int) ≤ 18446744065119617025 := by
          have := Nat.mul_le_mul (show g ≤ 4294967295 by omega) (show y ≤ 4294967295 by omega)
          have h2 : ((g * y : Nat) : Int) ≤ ((4294967295 * 4294967295 : Nat) : Int) := by exact_mod_cast this
          rw [Int.natCast_mul] at h2
          omega
        clear ey ex hcell
        go_wp2_with (go_at_call 158; refine (sub32_int _ _ _ _ (by omega) (by omega) (by omega) (by omega) (by omega) (by omega)).mono ?_; rintro e w' ⟨d, q, rfl, hd, hq, he, rfl⟩; have HE := Lib.hid he; clear he)
        go_roundw
        case rel =>
          have hgy : ((g * y : Nat) : Int) = (g : Int) * (y : Int) := Int.natCast_mul _ _
          have hset := val_set us' i d (by rw [Hlen.out]; omega)
          have he := HE.out
          refine ⟨i + 1, (g * y + c) / 4294967296, q, us'.set i d, by omega, by omega, hq, by simp [Hlen.out], by go_num, by go_num, rfl, Hrow.out.midPut HL.out i d (by rw [Hlen.out]; omega) hd _ rfl, honly'.setCell rfl _, ?_⟩
          rw [val_take_succ _ _ (by rw [Hvs.out]; exact hlt), Hy.out, Nat.pow_succ]
          rw [Hx.out] at hset
          have hv' := Hval.out
          have e3 : d + (g * y + c) % 4294967296 + b = x + 4294967296 * q := by omega
          have hdm := Nat.div_add_mod (g * y + c) 4294967296
          generalize (g * y + c) / 4294967296 = c' at *
          generalize (g * y + c) % 4294967296 = r at *
          generalize 4294967296 ^ i = p at *
          exact sub_step p g y c b c' q r d x _ _ _ _ hv' hset e3 hdm
        case measure => simp [intOf]; omega
      · obtain rfl : i = n := by omega
        have ucell := Hrow.out.midCell HL.out (i := i) (by rw [Hlen.out]; omega)
        have ufree := Hrow.out.free (o + i)
        have hx1 := getD_lt_of Hrow.out.midLt i
        obtain ⟨x, ex⟩ : ∃ x, us'.getD i 0 = x := ⟨_, rfl⟩
        rw [ex] at ucell hx1
        have Hx := Lib.hid ex
        clear ex
        go_wp2_with fail
        refine (sub32_int _ _ _ _ (by omega) (by omega) (by omega) (by omega) (by omega) (by omega)).mono ?_
        rintro e w' ⟨d, q, rfl, hd, hq, he, rfl⟩
        have hfin : val (us'.set i d) + g * val vs = val us + q * 4294967296 ^ (i + 1) := by
          have hset := val_set us' i d (by rw [Hlen.out]; omega)
          have hv' := Hval.out
          rw [List.take_of_length_le (by rw [Hvs.out]; exact Nat.le_refl _)] at hv'
          rw [Hx.out] at hset
          rw [Nat.pow_succ]
          have e3 : d + c + b = x + 4294967296 * q := by omega
          generalize 4294967296 ^ i = p at *
          exact sub_last p g c b q d x _ _ _ _ hv' hset e3
        have hVpos := Hlead.out.vpos
        have hrow2 := Hrow.out.midPut HL.out i d (by rw [Hlen.out]; omega) hd _ rfl
        have honly2 := honly'.setCell (p := ⟨B, o + i, none⟩) rfl (.int .u32 d)
        have hlen2 : (us'.set i d).length = i + 1 := by simp [Hlen.out]
        clear he
        by_cases hq0 : q = 0
        · subst hq0
          have hr := sub_right (Wn := 0) hVpos (by rw [hfin, Nat.zero_mul, Nat.add_zero]) Hg1.out
          have Hr := Lib.hid hr
          clear hfin hr
          go_wp2
          go_ret
          exact ⟨us'.set i d, by rw [Hr.out.1]; rfl, hlen2, Hr.out.2.symm, hrow2, honly2⟩
        · obtain rfl : q = 1 := by omega
          have hlt2 : val (us'.set i d) < 4294967296 ^ (i + 1) := by
            have := val_lt _ hrow2.midLt
            rwa [hlen2] at this
          have hw := sub_wrong hVpos (by rw [hfin, Nat.one_mul]) hlt2 Hg2.out
          have hg1 : 1 ≤ g := by rw [← hw.1]; exact Nat.le_add_left 1 _
          have Hw := Lib.hid hw
          have Hlen2 := Lib.hid hlen2
          have Hrow2 := Lib.hid hrow2
          generalize us'.set i d = u2 at *
          clear hfin hw hlt2 hlen2 hrow2 hVpos Hlen Hval Hrow Hx
          go_wp2_with fail
          go_loopw [13, 133] (fun ov2 jv wr => ∃ (j c : Nat) (us' : List Nat), j ≤ i ∧ c ≤ 1 ∧ us'.length = i + 1 ∧ jv = .int .i64 j ∧ ov2 = .int .u32 c ∧ Row wr B (L ++ us' ++ T) ∧ Only B w wr ∧
              val us' + c * 4294967296 ^ j = val u2 + val (vs.take j) ∧ us'.getD i 0 = u2.getD i 0)
            (fun _ jv _ => i - (intOf jv).toNat)
          case atStart => exact ⟨0, 0, u2, Nat.zero_le _, by omega, Hlen2.out, rfl, rfl, Hrow2.out, honly2, by simp [val], rfl⟩
          case round =>
            obtain ⟨j, k, u3, hj, hk, hlen3, rfl, rfl, hrow3, honly3, hval3, hlast3⟩ := hrel
            have Hlen3 := Lib.hid hlen3
            have Hval3 := Lib.hid hval3
            have Hrow3 := Lib.hid hrow3
            have Hlast3 := Lib.hid hlast3
            clear hlen3 hval3 hrow3 hlast3 ucell ufree
            by_cases hjt : j < i
            · obtain ⟨bv2, ov2, e2, _, hcell, _⟩ := hv.open (i := j) (by rw [Hvs.out]; exact hjt)
              cases e2
              have hy1 := hv.lt j
              obtain ⟨y, ey⟩ : ∃ x, vs.getD j 0 = x := ⟨_, rfl⟩
              rw [ey] at hcell hy1
              have hcell' := (honly3.cell (p := ⟨bv, ov + j, none⟩) hbv hbB).trans hcell
              have ucell := Hrow3.out.midCell HL.out (i := j) (by rw [Hlen3.out]; omega)
              have ufree := Hrow3.out.free (o + j)
              have hx1 := getD_lt_of Hrow3.out.midLt j
              obtain ⟨x, ex⟩ : ∃ x, u3.getD j 0 = x := ⟨_, rfl⟩
              rw [ex] at ucell hx1
              have Hy := Lib.hid ey
              have Hx := Lib.hid ex
              have k5 : (j : Int) < (i : Int) := by omega
              have k6 : (j : Int) < (i : Int) + 1 := by omega
              clear ey ex hcell
              go_wp2_with fail
              go_region_with (go_at_call 142; refine (add32_calls _ _ _ _ (by omega) (by omega) (by omega) (by omega) (by omega) (by omega)).mono ?_; rintro e w' ⟨rfl, rfl⟩)
              all_goals go_wp2
              all_goals
                go_roundw
                case rel =>
                  have hset := val_set u3 j ((x + y + k) % 4294967296) (by have := Hlen3.out; omega)
                  have hd := Nat.div_add_mod (x + y + k) 4294967296
                  refine ⟨j + 1, (x + y + k) / 4294967296, u3.set j ((x + y + k) % 4294967296), by omega, by omega, by simp [Hlen3.out], by go_num, by go_num, Row.drew (Hrow3.out.midPut HL.out j _ (by rw [Hlen3.out]; omega) (by omega) _ (by omega)), (honly3.setCell rfl _).drew, ?_, ?_⟩
                  · have hv' := Hval3.out
                    rw [val_take_succ _ _ (by rw [Hvs.out]; exact hjt), Hy.out, Nat.pow_succ]
                    rw [Hx.out] at hset
                    generalize (x + y + k) / 4294967296 = q at *
                    generalize (x + y + k) % 4294967296 = r at *
                    generalize 4294967296 ^ j = p at *
                    exact back_step p x y k q r _ _ _ _ hv' hset hd
                  · rw [getD_set_ne _ _ (by omega)]
                    exact Hlast3.out
                case measure => simp [intOf]; omega
            · obtain rfl : j = i := by omega
              have hd1 := getD_lt_of Hrow2.out.midLt j
              have hov : u2.getD j 0 + k = 4294967296 ∧ val (u3.set j 0) = val us % val vs := by
                have h1 := Hval3.out
                have h2 := Hw.out.2
                have hvl : val vs < 4294967296 ^ j := by
                  have := val_lt vs hv.2.2.1
                  rwa [Hvs.out] at this
                rw [List.take_of_length_le (by rw [Hvs.out]; exact Nat.le_refl _)] at h1
                have hset := val_set u3 j 0 (by rw [Hlen3.out]; omega)
                rw [Hlast3.out, Nat.mul_zero, Nat.add_zero] at hset
                have hlow : val (u3.set j 0) < 4294967296 ^ j := by
                  have e1 : u3.set j 0 = u3.take j ++ [0] := by
                    rw [List.set_eq_take_append_cons_drop, if_pos (by rw [Hlen3.out]; omega), List.drop_of_length_le (by rw [Hlen3.out]; omega)]
                  rw [e1, val_snoc, Nat.mul_zero, Nat.add_zero]
                  have := val_lt (u3.take j) fun x hx => Hrow3.out.midLt x (List.mem_of_mem_take hx)
                  rwa [List.length_take, Nat.min_eq_left (by rw [Hlen3.out]; omega)] at this
                have hrem : val us % val vs < val vs := Nat.mod_lt _ Hlead.out.vpos
                rw [Nat.pow_succ] at h2
                generalize 4294967296 ^ j = p at *
                exact back_end p _ k _ _ _ _ _ (by omega) (by omega) hlow h1 hset h2
              have ucell := Hrow3.out.midCell HL.out (i := j) (by rw [Hlen3.out]; omega)
              have ufree := Hrow3.out.free (o + j)
              rw [Hlast3.out] at ucell
              obtain ⟨x, ex⟩ : ∃ x, u2.getD j 0 = x := ⟨_, rfl⟩
              rw [ex] at ucell hd1 hov
              have Hov := Lib.hid hov
              have Hgw := Lib.hid hgW
              clear ex hov
              go_wp2
              go_ret
              have hov := Hov.out
              have hw1 := Hw.out.1
              refine ⟨u3.set j 0, ?_, by simp [Hlen3.out], hov.2, Hrow3.out.midPut HL.out j 0 (by rw [Hlen3.out]; omega) (by omega) _ (by omega), honly3.setCell rfl _⟩
              refine congrArg (fun z : Int => Ending.returned (.int .u32 z)) ?_
              rw [← hw1]
              omega

end Go.Proofs
