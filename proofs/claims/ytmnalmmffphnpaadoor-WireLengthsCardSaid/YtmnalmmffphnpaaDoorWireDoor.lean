/- What the rows list, and what the walks ask of it. -/
import Derived.Test.YtmnalmmffphnpaaDoorRows
import Derived.Test.YtmnalmmffphnpaaDoorTab
import Derived.Test.YtmnalmmffphnpaaDoorWOpen
import Derived.Test.YtmnalmmffphnpaaDoorToneFacts
import Derived.LaidSub
open Go.RowKit Go.Deep
namespace Go.Proofs
set_option linter.unusedVariables false
set_option linter.unusedSimpArgs false

theorem pow_name : Tryd.prog.globalNamed "internal/strconv.uint64pow10" = some 0 := by kernel_rfl
theorem pow_type : (Tryd.prog.globals[0]?).map (·.type) = some 110 := by kernel_rfl

theorem tab_of {w : World} (h : laidMetH Tryd.prog YtmnalmmffphnpaaDoor.Rows.wireNeedsRow.laid w) : Tab w := by
  have h1 := laidMetH.filter (fun x => x.1 == "internal/strconv.uint64pow10") h
  have e : (YtmnalmmffphnpaaDoor.Rows.wireNeedsRow.laid.filter fun x => x.1 == "internal/strconv.uint64pow10") = [("internal/strconv.uint64pow10", Lib.tabData .u64 Lib.pow10Tab)] := by rfl
  rw [e] at h1
  exact Lib.tabIs_of_head pow_name pow_type Tryd.underlying110 Tryd.underlying80 (by kernel_rfl) (by kernel_rfl) h1

end Go.Proofs
