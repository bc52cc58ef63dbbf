/- Closed facts of the whole program, asked once. -/
import Derived.Test.YtpflnpekcdjheaaGreatDoorRows
import GoSem.ClaimSeven
import Derived.Deep.DeepHandedRow
import Derived.ProofKit
namespace Go.Proofs
set_option linter.unusedVariables false
set_option linter.unusedSimpArgs false

theorem door_laid : laidOutB Tryz.prog = true := by kernel_rfl
theorem door_maps : mapsRowed Tryz.prog = true := by kernel_rfl
theorem door_stops : (Tryz.prog.stops == []) = true := by kernel_rfl
theorem door_knobs : (Tryz.prog.stopKnobs == []) = true := by kernel_rfl
theorem door_heard : Tryz.prog.stopsHeard = true := by kernel_rfl
theorem door_enter : Tryz.prog.mayEnter = true := by kernel_rfl
theorem door_lifts : (YtpflnpekcdjheaaGreatDoor.Rows.toneTextsRow.lifted == Tryz.prog.liftsFinal) = true := by kernel_rfl
theorem door_make : (Tryz.prog.make == some YtpflnpekcdjheaaGreatDoor.Rows.toneTextsRow.make) = true := by kernel_rfl
theorem door_looks : true = Tryz.prog.looks [] := by kernel_rfl

end Go.Proofs
