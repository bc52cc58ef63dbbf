/- the reference of layer 4: its ranges. -/
import Derived.Test.YtmnalmmffphnpaaDoorWire
open Go.RowKit
namespace Go.Proofs
set_option linter.unusedVariables false
set_option linter.unusedSimpArgs false

theorem rin_calls (z m : Int) (w : World) : Calls Tryd.prog 19 #[.int .i64 z, .int .i64 1, .int .i64 m] w fun e w' => e = .returned (.bool (inR z m)) ∧ w = w' := by
  by_cases h1 : 1 ≤ z
  · by_cases h2 : z ≤ m
    · have h : inR z m = true := by simp [inR, h1, h2]
      rw [h]
      go_enter Tryd.func19, Tryd.ntmps19
      go_wp2
      go_ret
      exact ⟨rfl, rfl⟩
    · have h : inR z m = false := by simp [inR, h2]
      rw [h]
      go_enter Tryd.func19, Tryd.ntmps19
      go_wp2
      go_ret
      exact ⟨rfl, rfl⟩
  · have h : inR z m = false := by simp [inR, h1]
    rw [h]
    go_enter Tryd.func19, Tryd.ntmps19
    go_wp2
    go_ret
    exact ⟨rfl, rfl⟩

theorem rDensity_calls (z : Int) (w : World) : Calls Tryd.prog 22 #[.int .i64 z] w fun e w' => e = .returned (.bool (inR z 30000)) ∧ w = w' := by
  go_enter Tryd.func22, Tryd.ntmps22
  go_wp2_with fail
  refine (rin_calls z 30000 w).mono ?_
  rintro e w1 ⟨rfl, rfl⟩
  go_wp2
  go_ret
  exact ⟨rfl, rfl⟩

theorem rStrength_calls (z : Int) (w : World) : Calls Tryd.prog 23 #[.int .i64 z] w fun e w' => e = .returned (.bool (inR z 100000)) ∧ w = w' := by
  go_enter Tryd.func23, Tryd.ntmps23
  go_wp2_with fail
  refine (rin_calls z 100000 w).mono ?_
  rintro e w1 ⟨rfl, rfl⟩
  go_wp2
  go_ret
  exact ⟨rfl, rfl⟩

theorem rDiameter_calls (z : Int) (w : World) : Calls Tryd.prog 21 #[.int .i64 z] w fun e w' => e = .returned (.bool (inR z 2000)) ∧ w = w' := by
  go_enter Tryd.func21, Tryd.ntmps21
  go_wp2_with fail
  refine (rin_calls z 2000 w).mono ?_
  rintro e w1 ⟨rfl, rfl⟩
  go_wp2
  go_ret
  exact ⟨rfl, rfl⟩

theorem rLength_calls (z : Int) (w : World) : Calls Tryd.prog 24 #[.int .i64 z] w fun e w' => e = .returned (.bool (inR z 100000)) ∧ w = w' := by
  go_enter Tryd.func24, Tryd.ntmps24
  go_wp2_with fail
  refine (rin_calls z 100000 w).mono ?_
  rintro e w1 ⟨rfl, rfl⟩
  go_wp2
  go_ret
  exact ⟨rfl, rfl⟩

theorem rFreq_calls (z : Int) (w : World) : Calls Tryd.prog 25 #[.int .i64 z] w fun e w' => e = .returned (.bool (inR z 10000000)) ∧ w = w' := by
  go_enter Tryd.func25, Tryd.ntmps25
  go_wp2_with fail
  refine (rin_calls z 10000000 w).mono ?_
  rintro e w1 ⟨rfl, rfl⟩
  go_wp2
  go_ret
  exact ⟨rfl, rfl⟩

theorem rSafety_calls (z : Int) (w : World) : Calls Tryd.prog 20 #[.int .i64 z] w fun e w' => e = .returned (.bool (inR z 100)) ∧ w = w' := by
  go_enter Tryd.func20, Tryd.ntmps20
  go_wp2_with fail
  refine (rin_calls z 100 w).mono ?_
  rintro e w1 ⟨rfl, rfl⟩
  go_wp2
  go_ret
  exact ⟨rfl, rfl⟩

end Go.Proofs
