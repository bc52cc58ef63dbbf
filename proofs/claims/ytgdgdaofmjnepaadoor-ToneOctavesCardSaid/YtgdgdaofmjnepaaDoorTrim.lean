/- nat.trim, nat.own, nat.compare, nat.length: contracts. -/
import Derived.Test.YtgdgdaofmjnepaaDoorBits
open Go.RowKit
namespace Go.Proofs
set_option linter.unusedVariables false

theorem trim_raw (ad : Option Addr) (c : Nat) (xs : List Nat) (w : World) (hx : Sl w ad c xs) :
    Calls Tryd.prog 116 #[.slice ad xs.length c] w fun e w' => e = .returned (.slice ad (limbs (val xs)).length c) ∧ w = w' := by
  have hc := hx.1
  have hcm := hx.2.1
  unfold maxLen at hcm
  go_enter Tryd.func116, Tryd.ntmps116
  go_wp2
  go_loop [0] (fun v => ∃ m : Nat, m ≤ xs.length ∧ v = .slice ad m c ∧ val (xs.take m) = val xs) (fun v => lenOf v)
  case atStart => exact ⟨xs.length, Nat.le_refl _, rfl, by simp⟩
  case round =>
    obtain ⟨m, hm, rfl, hv⟩ := hrel
    have Hv := Lib.hid hv
    clear hv
    by_cases h0 : 0 < m
    · obtain ⟨b, o, rfl, hbs, hcell, hfr⟩ := hx.open (i := m - 1) (by omega)
      obtain ⟨x, ex⟩ : ∃ x, xs.getD (m - 1) 0 = x := ⟨_, rfl⟩
      rw [ex] at hcell
      have Hx := Lib.hid ex
      clear ex hfr
      have ht : (0 : Int) < (m : Int) := by omega
      by_cases hx0 : x = 0
      · subst hx0
        go_wp2
        go_round
        case rel => exact ⟨m - 1, by omega, rfl, (val_take_pred xs m h0 hm Hx.out).trans Hv.out⟩
        case measure => simp [lenOf]; omega
      · go_wp2
        go_ret
        refine ⟨?_, rfl⟩
        rw [limbs_of_take xs m hm hx.2.2.1 Hv.out (.inr (by rw [Hx.out]; exact hx0)), List.length_take, Nat.min_eq_left hm]
        rfl
    · obtain rfl : m = 0 := by omega
      go_wp2
      go_ret
      refine ⟨?_, rfl⟩
      rw [limbs_of_take xs 0 hm hx.2.2.1 Hv.out (.inl rfl)]
      rfl

/-- trim's result, as a number. -/
theorem trim_calls (ad : Option Addr) (c n : Nat) (xs : List Nat) (w : World) (hx : Sl w ad c xs) (hn : n = xs.length) :
    Calls Tryd.prog 116 #[.slice ad n c] w fun e w' => ∃ k, e = .returned (.slice ad k c) ∧ Num w (.slice ad k c) (val xs) ∧ w = w' := by
  subst hn
  exact (trim_raw ad c xs w hx).mono fun e w' ⟨he, hw⟩ => ⟨_, he, ⟨ad, c, rfl, hx.trimmed⟩, hw⟩

end Go.Proofs
