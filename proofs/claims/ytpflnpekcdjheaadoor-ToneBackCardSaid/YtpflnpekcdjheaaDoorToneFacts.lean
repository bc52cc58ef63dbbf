/- Closed facts of the whole program, asked once. -/
import Derived.Test.YtpflnpekcdjheaaDoorRows
import GoSem.ClaimSeven
import Derived.Deep.DeepHandedRow
import Derived.ProofKit
namespace Go.Proofs
set_option linter.unusedVariables false
set_option linter.unusedSimpArgs false

theorem door_laid : laidOutB Tryd.prog = true := by kernel_rfl
theorem door_maps : mapsRowed Tryd.prog = true := by kernel_rfl
theorem door_stops : (Tryd.prog.stops == []) = true := by kernel_rfl
theorem door_knobs : (Tryd.prog.stopKnobs == []) = true := by kernel_rfl
theorem door_heard : Tryd.prog.stopsHeard = true := by kernel_rfl
theorem door_enter : Tryd.prog.mayEnter = true := by kernel_rfl
theorem door_lifts : (YtpflnpekcdjheaaDoor.Rows.toneBackRow.lifted == Tryd.prog.liftsFinal) = true := by kernel_rfl
theorem door_make : (Tryd.prog.make == some YtpflnpekcdjheaaDoor.Rows.toneBackRow.make) = true := by kernel_rfl
theorem door_looks : true = Tryd.prog.looks [] := by kernel_rfl

end Go.Proofs
