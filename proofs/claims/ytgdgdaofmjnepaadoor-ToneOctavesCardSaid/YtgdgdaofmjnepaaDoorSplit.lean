/- nat.split: a number is parted behind some limbs. -/
import Derived.Test.YtgdgdaofmjnepaaDoorTrim
open Go.RowKit
namespace Go.Proofs
set_option linter.unusedVariables false

/-- Two numbers come back; what was there is as it was. -/
def RetTwo (w : World) (m n : Nat) (e : Ending) (w' : World) : Prop :=
  ∃ v1 v2, e = .returned (.tuple #[v1, v2]) ∧ Num w' v1 m ∧ Num w' v2 n ∧ Below w.heap.size w w'

theorem trim_same (ad : Option Addr) (c n : Nat) (xs : List Nat) (w : World) (hx : Sl w ad c xs) (hn : n = xs.length) :
    Calls Tryd.prog 116 #[.slice ad n c] w fun e w' => e = .returned (.slice ad (limbs (val xs)).length c) ∧ w' = w := by
  subst hn
  exact (trim_raw ad c xs w hx).mono fun e w' ⟨he, hw⟩ => ⟨he, hw.symm⟩

set_option maxRecDepth 100000 in
theorem split_calls (v : Value) (m n : Nat) (z : Int) (w : World) (hv : Num w v m) (hz : z = (n : Int)) (b1 : (limbs m).length ≤ 1000000000) (b2 : n ≤ 1000000000) :
    Calls Tryd.prog 156 #[v, .int .i64 z] w (RetTwo w (m % 4294967296 ^ n) (m / 4294967296 ^ n)) := by
  subst hz
  obtain ⟨ad, c, rfl, hs⟩ := hv
  by_cases hle : (limbs m).length ≤ n
  · have hlt := limbs_length_le_iff.1 hle
    have e1 := Nat.mod_eq_of_lt hlt
    have e2 := Nat.div_eq_of_lt hlt
    rw [e1, e2]
    clear e1 e2 hlt
    go_enter Tryd.func156, Tryd.ntmps156
    go_wp2
    go_ret2
    exact ⟨_, _, rfl, ⟨ad, c, rfl, hs⟩, Num.nil _, Below.refl _ _⟩
  · obtain ⟨b, o, rfl, hbs, _, _⟩ := hs.open (i := n) (by omega)
    have hc := hs.1
    have hcm := hs.2.1
    unfold maxLen at hcm
    have htl : ((limbs m).take n).length = n := by rw [List.length_take]; omega
    have hst := (hs.take n)
    have hsd := hs.drop b o n rfl (by omega)
    have ev := val_take_mod m n (by omega)
    have ed := limbs_drop (m := m) (n := n) (by omega)
    have Hst : ∀ k, Sl (w.drewN k) (some ⟨b, o, none⟩) c ((limbs m).take n) := fun k => hst.mono (Nat.le_refl _) (below_drewN (Below.refl _ _) k)
    have Htl := Lib.hid htl
    have Hev := Lib.hid ev
    have Hed := Lib.hid ed
    have HH := Lib.hid Hst
    have t1 : (n : Int) < ((limbs m).length : Int) := by omega
    clear htl ev ed Hst
    go_enter Tryd.func156, Tryd.ntmps156
    go_wp2_with fail
    go_quiet ((go_at_call 116; exact Calls.quiet_of_same (trim_same _ _ _ _ _ (HH.out _) Htl.out.symm)))
    go_wp2
    go_ret2
    refine ⟨_, _, rfl, ?_, ?_, below_drewN (Below.refl _ _) _⟩
    · rw [← Hev.out]
      exact ⟨_, c, rfl, (hst.mono (Nat.le_refl _) (below_drewN (Below.refl _ _) _)).trimmed⟩
    · refine ⟨some ⟨b, o + n, none⟩, c - n, ?_, ?_⟩
      · rw [Hed.out, List.length_drop]; rfl
      · rw [Hed.out]
        exact hsd.mono (Nat.le_refl _) (below_drewN (Below.refl _ _) _)

end Go.Proofs
