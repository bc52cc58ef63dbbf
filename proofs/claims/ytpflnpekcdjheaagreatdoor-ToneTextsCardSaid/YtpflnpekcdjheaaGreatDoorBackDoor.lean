/- What the rows list of the library's variables, and what the parser's walk asks of it. -/
import Derived.Test.YtpflnpekcdjheaaGreatDoorToneDoor
import Derived.Test.YtpflnpekcdjheaaGreatDoorTParse
import Derived.Stop.LaidErr
import Derived.LaidLaws
open Go.RowKit Go.Deep
namespace Go.Proofs
set_option linter.unusedVariables false
set_option linter.unusedSimpArgs false

theorem syn_name : Tryz.prog.globalNamed "strconv.ErrSyntax" = some 1 := by kernel_rfl
theorem syn_type : (Tryz.prog.globals[1]?).map (·.type) = some 39 := by kernel_rfl
theorem rng_name : Tryz.prog.globalNamed "strconv.ErrRange" = some 2 := by kernel_rfl
theorem rng_type : (Tryz.prog.globals[2]?).map (·.type) = some 39 := by kernel_rfl
theorem err_star : "*" ++ "errors.errorString" = "*errors.errorString" := by decide
theorem err_row (u : TypeId) (h : Tryz.prog.typeName? 3 u = some "*errors.errorString") : u = 128 :=
  typeName_ptr_named (nm := "errors.errorString") (by rw [err_star]; kernel_rfl) (by kernel_rfl) (by decide) u (by rw [err_star]; exact h)
theorem err_cells : Tryz.prog.cellsOf 130 = 1 := by kernel_rfl
theorem str_cells : Tryz.prog.cellsOf 9 = 1 := by kernel_rfl

theorem glob_of {w : World} (h : laidMetH Tryz.prog YtpflnpekcdjheaaGreatDoor.Rows.toneTextsRow.laid w) (hs : w.ShapedOpen Tryz.prog) : Glob w := by
  refine ⟨Tryz.laysM145.s1_3 w hs, ?_, ?_⟩
  · have h1 := laidMetH.filter (fun x => x.1 == "strconv.ErrSyntax") h
    have e : (YtpflnpekcdjheaaGreatDoor.Rows.toneTextsRow.laid.filter fun x => x.1 == "strconv.ErrSyntax") = [("strconv.ErrSyntax", YtpflnpekcdjheaaGreatDoor.Rows.laid_strconv_ErrSyntax)] := by rfl
    rw [e] at h1
    have h2 : laidMet Tryz.prog [("strconv.ErrSyntax", YtpflnpekcdjheaaGreatDoor.Rows.laid_strconv_ErrSyntax)] w := (laidMetH_iff.1 h1).1
    obtain ⟨a, t, hv, -, -, -⟩ := laid_sentinel h2 syn_name syn_type Tryz.underlying39 err_row Tryz.underlying128 Tryz.underlying130 rfl rfl Tryz.underlying9 err_cells str_cells
    exact ⟨_, by have h0 := World.var?_cell syn_name hv 0; simpa using h0, .inr ⟨_, _, rfl⟩⟩
  · have h1 := laidMetH.filter (fun x => x.1 == "strconv.ErrRange") h
    have e : (YtpflnpekcdjheaaGreatDoor.Rows.toneTextsRow.laid.filter fun x => x.1 == "strconv.ErrRange") = [("strconv.ErrRange", YtpflnpekcdjheaaGreatDoor.Rows.laid_strconv_ErrRange)] := by rfl
    rw [e] at h1
    have h2 : laidMet Tryz.prog [("strconv.ErrRange", YtpflnpekcdjheaaGreatDoor.Rows.laid_strconv_ErrRange)] w := (laidMetH_iff.1 h1).1
    obtain ⟨a, t, hv, -, -, -⟩ := laid_sentinel h2 rng_name rng_type Tryz.underlying39 err_row Tryz.underlying128 Tryz.underlying130 rfl rfl Tryz.underlying9 err_cells str_cells
    exact ⟨_, by have h0 := World.var?_cell rng_name hv 0; simpa using h0, .inr ⟨_, _, rfl⟩⟩

end Go.Proofs
