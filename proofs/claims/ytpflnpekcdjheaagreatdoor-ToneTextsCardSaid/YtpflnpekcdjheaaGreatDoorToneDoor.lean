/- What the rows list, and what the walks ask of it. -/
import Derived.Test.YtpflnpekcdjheaaGreatDoorRows
import Derived.Test.YtpflnpekcdjheaaGreatDoorTone8
import Derived.Test.YtpflnpekcdjheaaGreatDoorToneFacts
import Derived.LaidSub
open Go.RowKit Go.Deep
namespace Go.Proofs
set_option linter.unusedVariables false
set_option linter.unusedSimpArgs false

theorem pow_name : Tryz.prog.globalNamed "internal/strconv.uint64pow10" = some 3 := by kernel_rfl
theorem pow_type : (Tryz.prog.globals[3]?).map (·.type) = some 132 := by kernel_rfl

theorem tab_of {w : World} (h : laidMetH Tryz.prog YtpflnpekcdjheaaGreatDoor.Rows.toneTextsRow.laid w) : Tab w := by
  have h1 := laidMetH.filter (fun x => x.1 == "internal/strconv.uint64pow10") h
  have e : (YtpflnpekcdjheaaGreatDoor.Rows.toneTextsRow.laid.filter fun x => x.1 == "internal/strconv.uint64pow10") = [("internal/strconv.uint64pow10", Lib.tabData .u64 Lib.pow10Tab)] := by rfl
  rw [e] at h1
  exact Lib.tabIs_of_head pow_name pow_type Tryz.underlying132 Tryz.underlying53 (by kernel_rfl) (by kernel_rfl) h1

end Go.Proofs
