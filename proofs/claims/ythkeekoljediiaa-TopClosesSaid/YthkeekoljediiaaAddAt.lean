/- nat.addAt: a number is added into a row that has room for it. -/
import Derived.Test.YthkeekoljediiaaNatA
import Derived.Deep.RegionWith
open Go.RowKit
namespace Go.Proofs
set_option linter.unusedVariables false
set_option linter.unusedSimpArgs false

/-- what addAt leaves: the row, and nothing else, has changed -/
def Added (w : World) (B N v : Nat) (e : Ending) (w' : World) : Prop :=
  ∃ R, e = .returned (.tuple #[]) ∧ R.length = N ∧ Row w' B R ∧ val R = v ∧ Only B w w'

theorem add_step (p pa c x y r q vr vs vx v0 : Nat) (hi : vr + c * (pa * p) = v0 + pa * vx) (hs : vs + (pa * p) * y = vr + (pa * p) * r) (hq : 4294967296 * q + r = y + x + c) :
    vs + q * (pa * (p * 4294967296)) = v0 + pa * (vx + p * x) := by
  grind

theorem carry_step (p y r q vr vs t : Nat) (hi : vr + 1 * p = t) (hs : vs + p * y = vr + p * r) (hq : 4294967296 * q + r = y + 1) : vs + q * (p * 4294967296) = t := by
  grind

set_option maxRecDepth 100000 in
theorem addAt_raw (B N at_ : Nat) (R : List Nat) (ad : Option Addr) (c1 : Nat) (xs : List Nat) (w : World) (hrow : Row w B R) (hN : R.length = N) (hx : Sl w ad c1 xs) (hap : ∀ a, ad = some a → a.block ≠ B)
    (hroom : at_ + xs.length ≤ N) (hval : val R + 4294967296 ^ at_ * val xs < 4294967296 ^ N) (hb : N ≤ 4000000000) :
    Calls Try.prog 98 #[.slice (some ⟨B, 0, none⟩) N N, .slice ad xs.length c1, .int .i64 at_] w (Added w B N (val R + 4294967296 ^ at_ * val xs)) := by
  have HN := Lib.hid hN
  have Hval := Lib.hid hval
  clear hN hval
  go_enter Try.func98, Try.ntmps98
  go_wp2
  go_loopw [6, 11] (fun cv iv wr => ∃ (i c : Nat) (R' : List Nat), i ≤ xs.length ∧ c ≤ 1 ∧ iv = .int .i64 i ∧ cv = .int .u32 c ∧ R'.length = N ∧ Row wr B R' ∧ Only B w wr ∧
      val R' + c * (4294967296 ^ at_ * 4294967296 ^ i) = val R + 4294967296 ^ at_ * val (xs.take i))
    (fun _ iv _ => xs.length - (intOf iv).toNat)
  case atStart => exact ⟨0, 0, R, Nat.zero_le _, by omega, rfl, rfl, HN.out, hrow, Only.refl _ _, by simp [val]⟩
  case round =>
    obtain ⟨i, c, R', hi, hc, rfl, rfl, hlR, hrow', honly, hv⟩ := hrel
    have HlR := Lib.hid hlR
    have Hrow := Lib.hid hrow'
    have Hv := Lib.hid hv
    clear hlR hrow' hv
    by_cases hlt : i < xs.length
    · obtain ⟨b, o, rfl, hbs, hcell, hfr⟩ := hx.open hlt
      have hx1 := hx.lt i
      obtain ⟨x, ex⟩ : ∃ x, xs.getD i 0 = x := ⟨_, rfl⟩
      rw [ex] at hcell hx1
      have hne : b ≠ B := hap _ rfl
      have hcell' := (honly.cell (p := ⟨b, o + i, none⟩) hbs hne).trans hcell
      have Hx := Lib.hid ex
      have Hne := Lib.hid hne
      have oc := Hrow.out.cell (i := at_ + i) (by have := HlR.out; omega)
      have of := Hrow.out.free (at_ + i)
      have hy1 := getD_lt_of Hrow.out.1 (at_ + i)
      obtain ⟨y, ey⟩ : ∃ x, R'.getD (at_ + i) 0 = x := ⟨_, rfl⟩
      rw [ey] at oc hy1
      have Hy := Lib.hid ey
      clear hcell hfr ex ey hne
      go_wp2_with fail
      have k1 : IntKind.i64.wrap ((at_ : Int) + (i : Int)) = (at_ : Int) + (i : Int) := IntWalk.i64_in _ (by omega)
      have k2 : (0 : Int) ≤ (at_ : Int) + (i : Int) := by omega
      have k3 : ((at_ : Int) + (i : Int)).toNat = at_ + i := by omega
      have k4 : (at_ : Int) + (i : Int) < (N : Int) := by omega
      have k5 : (i : Int) < (xs.length : Int) := by omega
      go_region_with (go_at_call 91; refine (add32_calls _ _ _ _ (by omega) (by omega) (by omega) (by omega) (by omega) (by omega)).mono ?_; rintro e w' ⟨rfl, rfl⟩)
      all_goals clear k1 k3
      all_goals go_wp2
      all_goals
        go_roundw
        case rel =>
          have hset := val_set R' (at_ + i) ((y + x + c) % 4294967296) (by have := HlR.out; omega)
          have hd := Nat.div_add_mod (y + x + c) 4294967296
          refine ⟨i + 1, (y + x + c) / 4294967296, R'.set (at_ + i) ((y + x + c) % 4294967296), by omega, by omega, by go_num, by go_num, by simp [HlR.out], Row.drew (Hrow.out.put _ _ (by omega) _ (by omega)), (honly.setCell rfl _).drew, ?_⟩
          have hv' := Hv.out
          rw [val_take_succ _ _ hlt, Hx.out, Nat.pow_succ]
          rw [Hy.out, Nat.pow_add] at hset
          generalize (y + x + c) / 4294967296 = q at *
          generalize (y + x + c) % 4294967296 = r at *
          generalize 4294967296 ^ at_ = pa at *
          generalize 4294967296 ^ i = p at *
          exact add_step p pa c x y r q _ _ _ _ hv' hset hd
        case measure => simp [intOf]; omega
    · obtain rfl : i = xs.length := by omega
      go_wp2
      obtain ⟨wo, rfl⟩ : ∃ wo : World, wo = wr := ⟨_, rfl⟩
      go_loopw [6, 8] (fun cv iv wr => ∃ (i c : Nat) (R' : List Nat), i ≤ N ∧ c ≤ 1 ∧ iv = .int .i64 i ∧ cv = .int .u32 c ∧ R'.length = N ∧ Row wr B R' ∧ Only B w wr ∧
          val R' + c * 4294967296 ^ i = val R + 4294967296 ^ at_ * val xs)
        (fun _ iv _ => N - (intOf iv).toNat)
      case atStart =>
        refine ⟨at_ + xs.length, c, R', by omega, hc, by go_num, rfl, HlR.out, Hrow.out, honly, ?_⟩
        have := Hv.out
        rw [List.take_of_length_le (Nat.le_refl _), ← Nat.pow_add] at this
        exact this
      case round =>
        obtain ⟨i, c, R', hi, hc, rfl, rfl, hlR, hrow', honly, hv⟩ := hrel
        have hlt : c = 1 → i < N := by
          intro h1
          subst h1
          rcases Nat.lt_or_ge i N with h | h
          · exact h
          · obtain rfl : i = N := by omega
            have := Hval.out
            omega
        have HlR' := Lib.hid hlR
        have Hrow' := Lib.hid hrow'
        have Hv' := Lib.hid hv
        clear hlR hrow' hv
        by_cases h1 : c = 1
        · have hiN := hlt h1
          subst h1
          have oc := Hrow'.out.cell (i := i) (by have := HlR'.out; omega)
          have of := Hrow'.out.free i
          have hy1 := getD_lt_of Hrow'.out.1 i
          obtain ⟨y, ey⟩ : ∃ x, R'.getD i 0 = x := ⟨_, rfl⟩
          rw [ey] at oc hy1
          have Hy := Lib.hid ey
          clear ey hlt
          go_wp2_with (go_at_call 91; refine (add32_calls _ _ _ _ (by omega) (by omega) (by omega) (by omega) (by omega) (by omega)).mono ?_; rintro e w' ⟨rfl, rfl⟩)
          go_roundw
          case rel =>
            have hset := val_set R' i ((y + 1) % 4294967296) (by have := HlR'.out; omega)
            have hd := Nat.div_add_mod (y + 1) 4294967296
            refine ⟨i + 1, (y + 1) / 4294967296, R'.set i ((y + 1) % 4294967296), by omega, by omega, by go_num, by go_num, by simp [HlR'.out], Hrow'.out.put _ _ (by omega) _ (by omega), honly.setCell rfl _, ?_⟩
            have hv' := Hv'.out
            rw [Hy.out] at hset
            rw [Nat.pow_succ]
            generalize (y + 1) / 4294967296 = q at *
            generalize (y + 1) % 4294967296 = r at *
            generalize 4294967296 ^ i = p at *
            exact carry_step p y r q _ _ _ hv' hset hd
          case measure => simp [intOf]; omega
        · obtain rfl : c = 0 := by omega
          go_wp2
          go_end0
          exact ⟨R', rfl, HlR'.out, Hrow'.out, by have := Hv'.out; simpa using this, honly⟩


/-- addAt adds the number, moved up by some limbs, into the row. -/
theorem addAt_calls (B N at_ n : Nat) (z : Int) (R : List Nat) (v : Value) (w : World) (hrow : Row w B R) (hN : R.length = N) (hv : Num w v n) (hap : Apart B v) (hz : z = (at_ : Int))
    (hroom : at_ + (limbs n).length ≤ N) (hval : val R + 4294967296 ^ at_ * n < 4294967296 ^ N) (hb : N ≤ 4000000000) :
    Calls Try.prog 98 #[.slice (some ⟨B, 0, none⟩) N N, v, .int .i64 z] w (Added w B N (val R + 4294967296 ^ at_ * n)) := by
  obtain ⟨ad, c, rfl, hs⟩ := hv
  subst hz
  have := addAt_raw B N at_ R ad c _ w hrow hN hs (fun a ha => by subst ha; exact hap) hroom (by rw [val_limbs]; exact hval) hb
  rwa [val_limbs] at this

end Go.Proofs
