/- wire.Coils at pieces 6, 4, 5, 5 and coils of 10: two coils; the law's 'lives'. -/
import Derived.Test.YtmnalmmffphnpaaDoorCoils
import Derived.BigQuiet
open Go.RowKit Go.Deep
namespace Go.Proofs
set_option linter.unusedVariables false
set_option linter.unusedSimpArgs false


set_option maxRecDepth 100000 in
set_option maxHeartbeats 1000000 in
theorem poss1 (bf bc : Nat) (w : World) (hf : Vals w bf (fitsV 16)) (hc : Vals w bc (coilsV 16)) :
    Calls Tryd.prog 47 #[.agg #[.slice (some ⟨bf, 0, none⟩) 16 16, .slice (some ⟨bc, 0, none⟩) 16 16], .int .i64 15, .int .i64 3, .int .i64 1, .int .i64 1] w fun e w' => e = .returned (.bool true) ∧ Below w.heap.size w w' := by
  have hb0 := below_alloc w (.cells #[.slice (some ⟨bf, 0, none⟩) 16 16, .slice (some ⟨bc, 0, none⟩) 16 16] 74)
  have hbox := Vals.newL w w.heap.size [.slice (some ⟨bf, 0, none⟩) 16 16, .slice (some ⟨bc, 0, none⟩) 16 16] 74 rfl
  replace hf := hf.mono hb0
  replace hc := hc.mono hb0
  have cf := hbox.cell (i := 0) (by simp)
  have cc := hbox.cell (i := 1) (by simp)
  simp only [List.getD_cons_zero, List.getD_cons_succ] at cf cc
  have f0 : bits BinOp.and IntKind.i64 3 12 = 0 := by decide
  have f1 : bits BinOp.and IntKind.i64 7 12 = 4 := by decide
  have f2 : bits BinOp.and IntKind.i64 11 12 = 8 := by decide
  have f3 : bits BinOp.andNot IntKind.i64 12 3 = 12 := by decide
  have f4 : bits BinOp.andNot IntKind.i64 15 3 = 12 := by decide
  have f5 : bits BinOp.andNot IntKind.i64 15 7 = 8 := by decide
  have f6 : bits BinOp.andNot IntKind.i64 15 11 = 4 := by decide
  have f7 : bits BinOp.andNot IntKind.i64 15 15 = 0 := by decide
  have f8 : bits BinOp.or IntKind.i64 3 0 = 3 := by decide
  have f9 : bits BinOp.or IntKind.i64 3 4 = 7 := by decide
  have f10 : bits BinOp.or IntKind.i64 3 8 = 11 := by decide
  have f11 : bits BinOp.or IntKind.i64 3 12 = 15 := by decide
  have cc0 := hc.cell (i := 0) (by decide)
  rw [show (coilsV 16).getD 0 undef = .int .i64 0 from rfl] at cc0
  have cc4 := hc.cell (i := 4) (by decide)
  rw [show (coilsV 16).getD 4 undef = .int .i64 1 from rfl] at cc4
  have cc8 := hc.cell (i := 8) (by decide)
  rw [show (coilsV 16).getD 8 undef = .int .i64 1 from rfl] at cc8
  have cc12 := hc.cell (i := 12) (by decide)
  rw [show (coilsV 16).getD 12 undef = .int .i64 1 from rfl] at cc12
  have cf3 := hf.cell (i := 3) (by decide)
  rw [show (fitsV 16).getD 3 undef = .bool true from rfl] at cf3
  have cf7 := hf.cell (i := 7) (by decide)
  rw [show (fitsV 16).getD 7 undef = .bool false from rfl] at cf7
  have cf11 := hf.cell (i := 11) (by decide)
  rw [show (fitsV 16).getD 11 undef = .bool false from rfl] at cf11
  have cf15 := hf.cell (i := 15) (by decide)
  rw [show (fitsV 16).getD 15 undef = .bool false from rfl] at cf15
  clear hf hc hbox
  go_enter Tryd.func47, Tryd.ntmps47
  go_wp2
  go_loopw [12] (fun mv wr => (mv = .int .i64 12 ∨ mv = .int .i64 8 ∨ mv = .int .i64 4 ∨ mv = .int .i64 0) ∧ wr = w.alloc (.cells #[.slice (some ⟨bf, 0, none⟩) 16 16, .slice (some ⟨bc, 0, none⟩) 16 16] 74)) (fun mv _ => (intOf mv).toNat)
  case atStart => exact ⟨by simp, rfl⟩
  case round =>
    obtain ⟨hm, rfl⟩ := hrel
    rcases hm with rfl | rfl | rfl | rfl
    · go_wp2
      go_roundw
      case rel => exact ⟨by simp, trivial⟩
      case measure => simp [intOf]
    · go_wp2
      go_roundw
      case rel => exact ⟨by simp, trivial⟩
      case measure => simp [intOf]
    · go_wp2
      go_roundw
      case rel => exact ⟨by simp, trivial⟩
      case measure => simp [intOf]
    · go_wp2
      go_ret
      exact ⟨rfl, hb0⟩

set_option maxRecDepth 100000 in
set_option maxHeartbeats 1000000 in
theorem poss2 (bf bc : Nat) (w : World) (hf : Vals w bf (fitsV 16)) (hc : Vals w bc (coilsV 16)) :
    Calls Tryd.prog 47 #[.agg #[.slice (some ⟨bf, 0, none⟩) 16 16, .slice (some ⟨bc, 0, none⟩) 16 16], .int .i64 15, .int .i64 7, .int .i64 2, .int .i64 1] w fun e w' => e = .returned (.bool false) ∧ Below w.heap.size w w' := by
  have hb0 := below_alloc w (.cells #[.slice (some ⟨bf, 0, none⟩) 16 16, .slice (some ⟨bc, 0, none⟩) 16 16] 74)
  have hbox := Vals.newL w w.heap.size [.slice (some ⟨bf, 0, none⟩) 16 16, .slice (some ⟨bc, 0, none⟩) 16 16] 74 rfl
  replace hf := hf.mono hb0
  replace hc := hc.mono hb0
  have cf := hbox.cell (i := 0) (by simp)
  have cc := hbox.cell (i := 1) (by simp)
  simp only [List.getD_cons_zero, List.getD_cons_succ] at cf cc
  have f0 : bits BinOp.and IntKind.i64 7 8 = 0 := by decide
  have f1 : bits BinOp.andNot IntKind.i64 8 7 = 8 := by decide
  have f2 : bits BinOp.andNot IntKind.i64 15 7 = 8 := by decide
  have f3 : bits BinOp.andNot IntKind.i64 15 15 = 0 := by decide
  have f4 : bits BinOp.or IntKind.i64 7 0 = 7 := by decide
  have f5 : bits BinOp.or IntKind.i64 7 8 = 15 := by decide
  have cc0 := hc.cell (i := 0) (by decide)
  rw [show (coilsV 16).getD 0 undef = .int .i64 0 from rfl] at cc0
  have cc8 := hc.cell (i := 8) (by decide)
  rw [show (coilsV 16).getD 8 undef = .int .i64 1 from rfl] at cc8
  have cf7 := hf.cell (i := 7) (by decide)
  rw [show (fitsV 16).getD 7 undef = .bool false from rfl] at cf7
  have cf15 := hf.cell (i := 15) (by decide)
  rw [show (fitsV 16).getD 15 undef = .bool false from rfl] at cf15
  clear hf hc hbox
  go_enter Tryd.func47, Tryd.ntmps47
  go_wp2
  go_loopw [12] (fun mv wr => (mv = .int .i64 8 ∨ mv = .int .i64 0) ∧ wr = w.alloc (.cells #[.slice (some ⟨bf, 0, none⟩) 16 16, .slice (some ⟨bc, 0, none⟩) 16 16] 74)) (fun mv _ => (intOf mv).toNat)
  case atStart => exact ⟨by simp, rfl⟩
  case round =>
    obtain ⟨hm, rfl⟩ := hrel
    rcases hm with rfl | rfl
    · go_wp2
      go_roundw
      case rel => exact ⟨by simp, trivial⟩
      case measure => simp [intOf]
    · go_wp2
      go_ret
      exact ⟨rfl, hb0⟩

set_option maxRecDepth 100000 in
set_option maxHeartbeats 1000000 in
theorem poss3 (bf bc : Nat) (w : World) (hf : Vals w bf (fitsV 16)) (hc : Vals w bc (coilsV 16)) :
    Calls Tryd.prog 47 #[.agg #[.slice (some ⟨bf, 0, none⟩) 16 16, .slice (some ⟨bc, 0, none⟩) 16 16], .int .i64 15, .int .i64 11, .int .i64 3, .int .i64 1] w fun e w' => e = .returned (.bool false) ∧ Below w.heap.size w w' := by
  have hb0 := below_alloc w (.cells #[.slice (some ⟨bf, 0, none⟩) 16 16, .slice (some ⟨bc, 0, none⟩) 16 16] 74)
  have hbox := Vals.newL w w.heap.size [.slice (some ⟨bf, 0, none⟩) 16 16, .slice (some ⟨bc, 0, none⟩) 16 16] 74 rfl
  replace hf := hf.mono hb0
  replace hc := hc.mono hb0
  have cf := hbox.cell (i := 0) (by simp)
  have cc := hbox.cell (i := 1) (by simp)
  simp only [List.getD_cons_zero, List.getD_cons_succ] at cf cc
  have f0 : bits BinOp.andNot IntKind.i64 4 15 = 0 := by decide
  have f1 : bits BinOp.andNot IntKind.i64 15 11 = 4 := by decide
  have f2 : bits BinOp.or IntKind.i64 11 0 = 11 := by decide
  have cc4 := hc.cell (i := 4) (by decide)
  rw [show (coilsV 16).getD 4 undef = .int .i64 1 from rfl] at cc4
  have cf11 := hf.cell (i := 11) (by decide)
  rw [show (fitsV 16).getD 11 undef = .bool false from rfl] at cf11
  clear hf hc hbox
  go_enter Tryd.func47, Tryd.ntmps47
  go_wp2
  go_loopw [12] (fun mv wr => (mv = .int .i64 0) ∧ wr = w.alloc (.cells #[.slice (some ⟨bf, 0, none⟩) 16 16, .slice (some ⟨bc, 0, none⟩) 16 16] 74)) (fun mv _ => (intOf mv).toNat)
  case atStart => exact ⟨by simp, rfl⟩
  case round =>
    obtain ⟨hm, rfl⟩ := hrel
    rcases hm with rfl
    · go_wp2
      go_ret
      exact ⟨rfl, hb0⟩

set_option maxRecDepth 100000 in
set_option maxHeartbeats 1000000 in
theorem poss4 (bf bc : Nat) (w : World) (hf : Vals w bf (fitsV 16)) (hc : Vals w bc (coilsV 16)) :
    Calls Tryd.prog 47 #[.agg #[.slice (some ⟨bf, 0, none⟩) 16 16, .slice (some ⟨bc, 0, none⟩) 16 16], .int .i64 12, .int .i64 12, .int .i64 3, .int .i64 0] w fun e w' => e = .returned (.bool true) ∧ Below w.heap.size w w' := by
  have hb0 := below_alloc w (.cells #[.slice (some ⟨bf, 0, none⟩) 16 16, .slice (some ⟨bc, 0, none⟩) 16 16] 74)
  have hbox := Vals.newL w w.heap.size [.slice (some ⟨bf, 0, none⟩) 16 16, .slice (some ⟨bc, 0, none⟩) 16 16] 74 rfl
  replace hf := hf.mono hb0
  replace hc := hc.mono hb0
  have cf := hbox.cell (i := 0) (by simp)
  have cc := hbox.cell (i := 1) (by simp)
  simp only [List.getD_cons_zero, List.getD_cons_succ] at cf cc
  have f0 : bits BinOp.andNot IntKind.i64 0 15 = 0 := by decide
  have f1 : bits BinOp.andNot IntKind.i64 12 12 = 0 := by decide
  have f2 : bits BinOp.or IntKind.i64 12 0 = 12 := by decide
  have cc0 := hc.cell (i := 0) (by decide)
  rw [show (coilsV 16).getD 0 undef = .int .i64 0 from rfl] at cc0
  have cf12 := hf.cell (i := 12) (by decide)
  rw [show (fitsV 16).getD 12 undef = .bool true from rfl] at cf12
  clear hf hc hbox
  go_enter Tryd.func47, Tryd.ntmps47
  go_wp2
  go_loopw [12] (fun mv wr => (mv = .int .i64 0) ∧ wr = w.alloc (.cells #[.slice (some ⟨bf, 0, none⟩) 16 16, .slice (some ⟨bc, 0, none⟩) 16 16] 74)) (fun mv _ => (intOf mv).toNat)
  case atStart => exact ⟨by simp, rfl⟩
  case round =>
    obtain ⟨hm, rfl⟩ := hrel
    rcases hm with rfl
    · go_wp2
      go_ret
      exact ⟨rfl, hb0⟩

set_option maxRecDepth 100000 in
set_option maxHeartbeats 1000000 in
theorem choose1 (bf bc : Nat) (w : World) (hf : Vals w bf (fitsV 16)) (hc : Vals w bc (coilsV 16)) :
    Calls Tryd.prog 39 #[.agg #[.slice (some ⟨bf, 0, none⟩) 16 16, .slice (some ⟨bc, 0, none⟩) 16 16], .int .i64 15, .int .i64 1, .int .i64 1, .int .i64 4] w fun e w' => e = .returned (.int .i64 3) ∧ Below w.heap.size w w' := by
  have hb0 := below_alloc w (.cells #[.slice (some ⟨bf, 0, none⟩) 16 16, .slice (some ⟨bc, 0, none⟩) 16 16] 74)
  have hbox := Vals.newL w w.heap.size [.slice (some ⟨bf, 0, none⟩) 16 16, .slice (some ⟨bc, 0, none⟩) 16 16] 74 rfl
  replace hf := hf.mono hb0
  replace hc := hc.mono hb0
  have f0 : bits BinOp.and IntKind.i64 1 1 = 1 := by decide
  have f1 : bits BinOp.and IntKind.i64 1 2 = 0 := by decide
  have f2 : bits BinOp.and IntKind.i64 3 4 = 0 := by decide
  have f3 : bits BinOp.and IntKind.i64 3 8 = 0 := by decide
  have f4 : bits BinOp.and IntKind.i64 15 1 = 1 := by decide
  have f5 : bits BinOp.and IntKind.i64 15 2 = 2 := by decide
  have f6 : bits BinOp.and IntKind.i64 15 4 = 4 := by decide
  have f7 : bits BinOp.and IntKind.i64 15 8 = 8 := by decide
  have f8 : bits BinOp.or IntKind.i64 1 1 = 1 := by decide
  have f9 : bits BinOp.or IntKind.i64 1 2 = 3 := by decide
  have f10 : bits BinOp.or IntKind.i64 3 4 = 7 := by decide
  have f11 : bits BinOp.or IntKind.i64 3 8 = 11 := by decide
  go_enter Tryd.func39, Tryd.ntmps39
  go_wp2
  go_loopw [11, 16] (fun pv iv wr => ((pv = .int .i64 1 ∧ iv = .int .i64 0) ∨ (pv = .int .i64 1 ∧ iv = .int .i64 1) ∨ (pv = .int .i64 3 ∧ iv = .int .i64 2) ∨ (pv = .int .i64 3 ∧ iv = .int .i64 3) ∨ (pv = .int .i64 3 ∧ iv = .int .i64 4)) ∧ Vals wr w.heap.size [.slice (some ⟨bf, 0, none⟩) 16 16, .slice (some ⟨bc, 0, none⟩) 16 16] ∧ Vals wr bf (fitsV 16) ∧ Vals wr bc (coilsV 16) ∧ Below w.heap.size w wr) (fun _ iv _ => 4 - (intOf iv).toNat)
  case atStart => exact ⟨by simp, hbox, hf, hc, hb0⟩
  case round =>
    obtain ⟨hm, hbox, hf, hc, hb⟩ := hrel
    have cf := hbox.cell (i := 0) (by simp)
    have cc := hbox.cell (i := 1) (by simp)
    simp only [List.getD_cons_zero, List.getD_cons_succ] at cf cc
    rcases hm with ⟨rfl, rfl⟩ | ⟨rfl, rfl⟩ | ⟨rfl, rfl⟩ | ⟨rfl, rfl⟩ | ⟨rfl, rfl⟩
    · go_wp2
      go_roundw
      case rel => exact ⟨by simp, hbox, hf, hc, hb⟩
      case measure => simp [intOf]
    · go_wp2_with fail
      refine (poss1 bf bc wr hf hc).mono ?_
      rintro e w1 ⟨rfl, b1⟩
      replace hbox := hbox.mono b1
      replace hf := hf.mono b1
      replace hc := hc.mono b1
      replace hb := below_trans hb b1
      go_wp2
      go_roundw
      case rel => exact ⟨by simp, hbox, hf, hc, hb⟩
      case measure => simp [intOf]
    · go_wp2_with fail
      refine (poss2 bf bc wr hf hc).mono ?_
      rintro e w1 ⟨rfl, b1⟩
      replace hbox := hbox.mono b1
      replace hf := hf.mono b1
      replace hc := hc.mono b1
      replace hb := below_trans hb b1
      go_wp2
      go_roundw
      case rel => exact ⟨by simp, hbox, hf, hc, hb⟩
      case measure => simp [intOf]
    · go_wp2_with fail
      refine (poss3 bf bc wr hf hc).mono ?_
      rintro e w1 ⟨rfl, b1⟩
      replace hbox := hbox.mono b1
      replace hf := hf.mono b1
      replace hc := hc.mono b1
      replace hb := below_trans hb b1
      go_wp2
      go_roundw
      case rel => exact ⟨by simp, hbox, hf, hc, hb⟩
      case measure => simp [intOf]
    · go_wp2
      go_ret
      exact ⟨rfl, hb⟩

set_option maxRecDepth 100000 in
set_option maxHeartbeats 1000000 in
theorem choose2 (bf bc : Nat) (w : World) (hf : Vals w bf (fitsV 16)) (hc : Vals w bc (coilsV 16)) :
    Calls Tryd.prog 39 #[.agg #[.slice (some ⟨bf, 0, none⟩) 16 16, .slice (some ⟨bc, 0, none⟩) 16 16], .int .i64 12, .int .i64 4, .int .i64 0, .int .i64 4] w fun e w' => e = .returned (.int .i64 12) ∧ Below w.heap.size w w' := by
  have hb0 := below_alloc w (.cells #[.slice (some ⟨bf, 0, none⟩) 16 16, .slice (some ⟨bc, 0, none⟩) 16 16] 74)
  have hbox := Vals.newL w w.heap.size [.slice (some ⟨bf, 0, none⟩) 16 16, .slice (some ⟨bc, 0, none⟩) 16 16] 74 rfl
  replace hf := hf.mono hb0
  replace hc := hc.mono hb0
  have f0 : bits BinOp.and IntKind.i64 4 1 = 0 := by decide
  have f1 : bits BinOp.and IntKind.i64 4 2 = 0 := by decide
  have f2 : bits BinOp.and IntKind.i64 4 4 = 4 := by decide
  have f3 : bits BinOp.and IntKind.i64 4 8 = 0 := by decide
  have f4 : bits BinOp.and IntKind.i64 12 1 = 0 := by decide
  have f5 : bits BinOp.and IntKind.i64 12 2 = 0 := by decide
  have f6 : bits BinOp.and IntKind.i64 12 4 = 4 := by decide
  have f7 : bits BinOp.and IntKind.i64 12 8 = 8 := by decide
  have f8 : bits BinOp.or IntKind.i64 4 1 = 5 := by decide
  have f9 : bits BinOp.or IntKind.i64 4 2 = 6 := by decide
  have f10 : bits BinOp.or IntKind.i64 4 4 = 4 := by decide
  have f11 : bits BinOp.or IntKind.i64 4 8 = 12 := by decide
  go_enter Tryd.func39, Tryd.ntmps39
  go_wp2
  go_loopw [11, 16] (fun pv iv wr => ((pv = .int .i64 4 ∧ iv = .int .i64 0) ∨ (pv = .int .i64 4 ∧ iv = .int .i64 1) ∨ (pv = .int .i64 4 ∧ iv = .int .i64 2) ∨ (pv = .int .i64 4 ∧ iv = .int .i64 3) ∨ (pv = .int .i64 12 ∧ iv = .int .i64 4)) ∧ Vals wr w.heap.size [.slice (some ⟨bf, 0, none⟩) 16 16, .slice (some ⟨bc, 0, none⟩) 16 16] ∧ Vals wr bf (fitsV 16) ∧ Vals wr bc (coilsV 16) ∧ Below w.heap.size w wr) (fun _ iv _ => 4 - (intOf iv).toNat)
  case atStart => exact ⟨by simp, hbox, hf, hc, hb0⟩
  case round =>
    obtain ⟨hm, hbox, hf, hc, hb⟩ := hrel
    have cf := hbox.cell (i := 0) (by simp)
    have cc := hbox.cell (i := 1) (by simp)
    simp only [List.getD_cons_zero, List.getD_cons_succ] at cf cc
    rcases hm with ⟨rfl, rfl⟩ | ⟨rfl, rfl⟩ | ⟨rfl, rfl⟩ | ⟨rfl, rfl⟩ | ⟨rfl, rfl⟩
    · go_wp2
      go_roundw
      case rel => exact ⟨by simp, hbox, hf, hc, hb⟩
      case measure => simp [intOf]
    · go_wp2
      go_roundw
      case rel => exact ⟨by simp, hbox, hf, hc, hb⟩
      case measure => simp [intOf]
    · go_wp2
      go_roundw
      case rel => exact ⟨by simp, hbox, hf, hc, hb⟩
      case measure => simp [intOf]
    · go_wp2_with fail
      refine (poss4 bf bc wr hf hc).mono ?_
      rintro e w1 ⟨rfl, b1⟩
      replace hbox := hbox.mono b1
      replace hf := hf.mono b1
      replace hc := hc.mono b1
      replace hb := below_trans hb b1
      go_wp2
      go_roundw
      case rel => exact ⟨by simp, hbox, hf, hc, hb⟩
      case measure => simp [intOf]
    · go_wp2
      go_ret
      exact ⟨rfl, hb⟩

set_option maxRecDepth 100000 in
set_option maxHeartbeats 1000000 in
theorem cut4 (b c : Nat) (w : World) (hp : CellI w b P4) :
    Calls Tryd.prog 37 #[.slice (some ⟨b, 0, none⟩) 4 c, .int .i64 10] w fun e w' => e = .returned (.int .i64 0) ∧ w = w' := by
  have c0 := (hp.2 0 (by decide)).1
  have c1 := (hp.2 1 (by decide)).1
  have c2 := (hp.2 2 (by decide)).1
  have c3 := (hp.2 3 (by decide)).1
  rw [show ((P4.getD 0 0 : Nat) : Int) = 6 from rfl] at c0
  rw [show ((P4.getD 1 0 : Nat) : Int) = 4 from rfl] at c1
  rw [show ((P4.getD 2 0 : Nat) : Int) = 5 from rfl] at c2
  rw [show ((P4.getD 3 0 : Nat) : Int) = 5 from rfl] at c3
  have r0 : inR 10 1000000000 = true := by decide
  have r1 : inR 6 1000000000 = true := by decide
  have r2 : inR 4 1000000000 = true := by decide
  have r3 : inR 5 1000000000 = true := by decide
  clear hp
  go_enter Tryd.func37, Tryd.ntmps37
  go_wp2_with (go_at_call 30; refine (within_calls _ _ _).mono ?_; rintro e w' ⟨rfl, rfl⟩)
  go_loopw [5, 6, 18] (fun ov lv iv wr => ov = .bool true ∧ lv = .bool false ∧ (iv = .int .i64 0 ∨ iv = .int .i64 1 ∨ iv = .int .i64 2 ∨ iv = .int .i64 3 ∨ iv = .int .i64 4) ∧ wr = w) (fun _ _ iv _ => 4 - (intOf iv).toNat)
  case atStart => exact ⟨rfl, rfl, by simp, rfl⟩
  case round =>
    obtain ⟨rfl, rfl, hm, rfl⟩ := hrel
    rcases hm with rfl | rfl | rfl | rfl | rfl
    · go_wp2_with (go_at_call 30; refine (within_calls _ _ _).mono ?_; rintro e w' ⟨rfl, rfl⟩)
      go_roundw
      case rel => exact ⟨rfl, rfl, by simp, trivial⟩
      case measure => simp [intOf]
    · go_wp2_with (go_at_call 30; refine (within_calls _ _ _).mono ?_; rintro e w' ⟨rfl, rfl⟩)
      go_roundw
      case rel => exact ⟨rfl, rfl, by simp, trivial⟩
      case measure => simp [intOf]
    · go_wp2_with (go_at_call 30; refine (within_calls _ _ _).mono ?_; rintro e w' ⟨rfl, rfl⟩)
      go_roundw
      case rel => exact ⟨rfl, rfl, by simp, trivial⟩
      case measure => simp [intOf]
    · go_wp2_with (go_at_call 30; refine (within_calls _ _ _).mono ?_; rintro e w' ⟨rfl, rfl⟩)
      go_roundw
      case rel => exact ⟨rfl, rfl, by simp, trivial⟩
      case measure => simp [intOf]
    · go_wp2
      go_ret
      exact ⟨rfl, rfl⟩

set_option maxRecDepth 100000 in
set_option maxHeartbeats 2000000 in
theorem coils4 (b c : Nat) (w : World) (hp : CellI w b P4) :
    Calls Tryd.prog 27 #[.slice (some ⟨b, 0, none⟩) 4 c, .int .i64 10] w fun e w' => ∃ g : Nat, e = .returned (.tuple #[.slice (some ⟨g, 0, none⟩) 4 4, .int .i64 2, .int .i64 0]) ∧ w.heap.size ≤ g ∧ Vals w' g [.int .i64 0, .int .i64 0, .int .i64 1, .int .i64 1] ∧ Below w.heap.size w w' := by
  have hmk : ∀ W : World, (Instr.makeSlice 24 (.int .i64 4) (.int .i64 4)).run Tryd.prog W = .ok (.slice (some ⟨W.heap.size, 0, none⟩) 4 4) (W.alloc (.cells (madeCells #[.int .i64 0] 4) 3)) :=
    fun W => run_make_row' (P := Tryd.prog) 24 3 (.int .i64 0) 8 Tryd.underlying24 info_int rfl .i64 .i64 4 (by omega) (by omega) W
  have f0 : bits BinOp.and IntKind.i64 15 (-15) = 1 := by decide
  have f1 : bits BinOp.and IntKind.i64 12 (-12) = 4 := by decide
  have f2 : bits BinOp.xor IntKind.i64 15 3 = 12 := by decide
  have f3 : bits BinOp.xor IntKind.i64 12 12 = 0 := by decide
  have f4 : bits BinOp.and IntKind.i64 3 1 = 1 := by decide
  have f5 : bits BinOp.and IntKind.i64 1 1 = 1 := by decide
  have f6 : bits BinOp.and IntKind.i64 0 1 = 0 := by decide
  have f7 : bits BinOp.and IntKind.i64 12 1 = 0 := by decide
  have f8 : bits BinOp.and IntKind.i64 6 1 = 0 := by decide
  go_enter Tryd.func27, Tryd.ntmps27
  go_wp2_with fail
  refine (cut4 b c w hp).mono ?_
  rintro e w0 ⟨rfl, rfl⟩
  go_wp2_with fail
  refine (pack_calls b c w hp).mono ?_
  rintro e w1 ⟨bf, bc, rfl, hbf, hbc, vf, vc, hb⟩
  have hbfl := vf.lt
  have hbcl := vc.lt
  obtain ⟨q, eq⟩ : ∃ q, w1.heap.size = q := ⟨_, rfl⟩
  have b1 := below_alloc w1 (.cells #[.slice (some ⟨bf, 0, none⟩) 16 16, .slice (some ⟨bc, 0, none⟩) 16 16] 74)
  have vq := Vals.newL w1 q [.slice (some ⟨bf, 0, none⟩) 16 16, .slice (some ⟨bc, 0, none⟩) 16 16] 74 eq.symm
  replace vf := vf.mono b1
  replace vc := vc.mono b1
  replace hb := below_trans hb b1
  have hq1 : q < (w1.alloc (.cells #[.slice (some ⟨bf, 0, none⟩) 16 16, .slice (some ⟨bc, 0, none⟩) 16 16] 74)).heap.size := by rw [World.size_alloc]; omega
  have cf := vq.cell (i := 0) (by simp)
  have cc := vq.cell (i := 1) (by simp)
  have c15 := vc.cell (i := 15) (by decide)
  simp only [List.getD_cons_zero, List.getD_cons_succ] at cf cc
  rw [show (coilsV 16).getD 15 undef = .int .i64 2 from rfl] at c15
  rw [eq] at hbfl hbcl
  have Hq := Lib.hid hq1
  go_upto_region 7 with (fail)
  generalize (w1.alloc (.cells #[.slice (some ⟨bf, 0, none⟩) 16 16, .slice (some ⟨bc, 0, none⟩) 16 16] 74)) = w2 at *
  clear b1 eq cf cc c15
  have vg := Vals.newM w2 w2.heap.size (.int .i64 0) 4 3 rfl
  have b2 := below_alloc w2 (.cells (madeCells #[.int .i64 0] 4) 3)
  replace vq := vq.mono b2
  replace vf := vf.mono b2
  replace vc := vc.mono b2
  have hg : w.heap.size ≤ w2.heap.size := hb.size
  replace hb := below_trans hb b2
  have nq : q ≠ w2.heap.size := by have := Hq.out; omega
  have nf : bf ≠ w2.heap.size := by have := Hq.out; omega
  have nc : bc ≠ w2.heap.size := by have := Hq.out; omega
  clear b2
  go_upto_region 8 with (fail)
  generalize w2.alloc (.cells (madeCells #[.int .i64 0] 4) 3) = w3 at *
  generalize w2.heap.size = g at *
  clear hmk
  replace vg : Vals w3 g [.int .i64 0, .int .i64 0, .int .i64 0, .int .i64 0] := vg
  go_wp2
  go_loopw [9, 38] (fun rv nv wr => ((rv = .int .i64 15 ∧ nv = .int .i64 0 ∧ Vals wr g [.int .i64 0, .int .i64 0, .int .i64 0, .int .i64 0]) ∨ (rv = .int .i64 12 ∧ nv = .int .i64 1 ∧ Vals wr g [.int .i64 0, .int .i64 0, .int .i64 0, .int .i64 0]) ∨ (rv = .int .i64 0 ∧ nv = .int .i64 2 ∧ Vals wr g [.int .i64 0, .int .i64 0, .int .i64 1, .int .i64 1])) ∧
      Vals wr q [.slice (some ⟨bf, 0, none⟩) 16 16, .slice (some ⟨bc, 0, none⟩) 16 16] ∧ Vals wr bf (fitsV 16) ∧ Vals wr bc (coilsV 16) ∧ Below w.heap.size w wr) (fun _ nv _ => 2 - (intOf nv).toNat)
  case atStart => exact ⟨.inl ⟨rfl, rfl, vg⟩, vq, vf, vc, hb⟩
  case round =>
    clear vg vq vf vc hb
    obtain ⟨hm, vq, vf, vc, hb⟩ := hrel
    have cf := vq.cell (i := 0) (by simp)
    have cc := vq.cell (i := 1) (by simp)
    simp only [List.getD_cons_zero, List.getD_cons_succ] at cf cc
    rcases hm with ⟨rfl, rfl, vg⟩ | ⟨rfl, rfl, vg⟩ | ⟨rfl, rfl, vg⟩
    · go_wp2_with fail
      refine (choose1 bf bc wr vf vc).mono ?_
      rintro e w4 ⟨rfl, b4⟩
      replace vq := vq.mono b4
      replace vf := vf.mono b4
      replace vc := vc.mono b4
      replace vg := vg.mono b4
      replace hb := below_trans hb b4
      clear cf cc b4
      go_wp2
      go_loopw [57] (fun iv wi => ((iv = .int .i64 0 ∧ Vals wi g [.int .i64 0, .int .i64 0, .int .i64 0, .int .i64 0]) ∨ (iv = .int .i64 1 ∧ Vals wi g [.int .i64 0, .int .i64 0, .int .i64 0, .int .i64 0]) ∨ (iv = .int .i64 2 ∧ Vals wi g [.int .i64 0, .int .i64 0, .int .i64 0, .int .i64 0]) ∨ (iv = .int .i64 3 ∧ Vals wi g [.int .i64 0, .int .i64 0, .int .i64 0, .int .i64 0]) ∨ (iv = .int .i64 4 ∧ Vals wi g [.int .i64 0, .int .i64 0, .int .i64 0, .int .i64 0])) ∧ Vals wi q [.slice (some ⟨bf, 0, none⟩) 16 16, .slice (some ⟨bc, 0, none⟩) 16 16] ∧ Vals wi bf (fitsV 16) ∧ Vals wi bc (coilsV 16) ∧ Below w.heap.size w wi) (fun iv _ => 4 - (intOf iv).toNat)
      case atStart => exact ⟨.inl ⟨rfl, vg⟩, vq, vf, vc, hb⟩
      case round =>
        clear vg vq vf vc hb
        obtain ⟨hm, vq, vf, vc, hb⟩ := hrel
        rcases hm with ⟨rfl, vg⟩ | ⟨rfl, vg⟩ | ⟨rfl, vg⟩ | ⟨rfl, vg⟩ | ⟨rfl, vg⟩
        · have cg := vg.cell (i := 0) (by simp)
          have zg := vg.frozen 0
          have vg2 := vg.set 0 (.int .i64 0)
          have vq2 := vq.other ⟨g, 0, none⟩ (Ne.symm nq) (.int .i64 0)
          have vf2 := vf.other ⟨g, 0, none⟩ (Ne.symm nf) (.int .i64 0)
          have vc2 := vc.other ⟨g, 0, none⟩ (Ne.symm nc) (.int .i64 0)
          have hb2 := hb.setCell (p := ⟨g, 0, none⟩) hg (.int .i64 0)
          simp only [List.getD_cons_zero] at cg
          clear vg vq vf vc hb
          go_wp2
          go_roundw
          case rel => exact ⟨.inr (.inl ⟨rfl, vg2⟩), vq2, vf2, vc2, hb2⟩
          case measure => simp [intOf]
        · have cg := vg.cell (i := 1) (by simp)
          have zg := vg.frozen 1
          have vg2 := vg.set 1 (.int .i64 0)
          have vq2 := vq.other ⟨g, 1, none⟩ (Ne.symm nq) (.int .i64 0)
          have vf2 := vf.other ⟨g, 1, none⟩ (Ne.symm nf) (.int .i64 0)
          have vc2 := vc.other ⟨g, 1, none⟩ (Ne.symm nc) (.int .i64 0)
          have hb2 := hb.setCell (p := ⟨g, 1, none⟩) hg (.int .i64 0)
          simp only [List.getD_cons_zero, List.getD_cons_succ] at cg
          clear vg vq vf vc hb
          go_wp2
          go_roundw
          case rel => exact ⟨.inr (.inr (.inl ⟨rfl, vg2⟩)), vq2, vf2, vc2, hb2⟩
          case measure => simp [intOf]
        · go_wp2
          go_roundw
          case rel => exact ⟨.inr (.inr (.inr (.inl ⟨rfl, vg⟩))), vq, vf, vc, hb⟩
          case measure => simp [intOf]
        · go_wp2
          go_roundw
          case rel => exact ⟨.inr (.inr (.inr (.inr (⟨rfl, vg⟩)))), vq, vf, vc, hb⟩
          case measure => simp [intOf]
        · go_wp2
          go_roundw
          case rel => exact ⟨.inr (.inl ⟨rfl, rfl, vg⟩), vq, vf, vc, hb⟩
          case measure => simp [intOf]
    · go_wp2_with fail
      refine (choose2 bf bc wr vf vc).mono ?_
      rintro e w4 ⟨rfl, b4⟩
      replace vq := vq.mono b4
      replace vf := vf.mono b4
      replace vc := vc.mono b4
      replace vg := vg.mono b4
      replace hb := below_trans hb b4
      clear cf cc b4
      go_wp2
      go_loopw [57] (fun iv wi => ((iv = .int .i64 0 ∧ Vals wi g [.int .i64 0, .int .i64 0, .int .i64 0, .int .i64 0]) ∨ (iv = .int .i64 1 ∧ Vals wi g [.int .i64 0, .int .i64 0, .int .i64 0, .int .i64 0]) ∨ (iv = .int .i64 2 ∧ Vals wi g [.int .i64 0, .int .i64 0, .int .i64 0, .int .i64 0]) ∨ (iv = .int .i64 3 ∧ Vals wi g [.int .i64 0, .int .i64 0, .int .i64 1, .int .i64 0]) ∨ (iv = .int .i64 4 ∧ Vals wi g [.int .i64 0, .int .i64 0, .int .i64 1, .int .i64 1])) ∧ Vals wi q [.slice (some ⟨bf, 0, none⟩) 16 16, .slice (some ⟨bc, 0, none⟩) 16 16] ∧ Vals wi bf (fitsV 16) ∧ Vals wi bc (coilsV 16) ∧ Below w.heap.size w wi) (fun iv _ => 4 - (intOf iv).toNat)
      case atStart => exact ⟨.inl ⟨rfl, vg⟩, vq, vf, vc, hb⟩
      case round =>
        clear vg vq vf vc hb
        obtain ⟨hm, vq, vf, vc, hb⟩ := hrel
        rcases hm with ⟨rfl, vg⟩ | ⟨rfl, vg⟩ | ⟨rfl, vg⟩ | ⟨rfl, vg⟩ | ⟨rfl, vg⟩
        · go_wp2
          go_roundw
          case rel => exact ⟨.inr (.inl ⟨rfl, vg⟩), vq, vf, vc, hb⟩
          case measure => simp [intOf]
        · go_wp2
          go_roundw
          case rel => exact ⟨.inr (.inr (.inl ⟨rfl, vg⟩)), vq, vf, vc, hb⟩
          case measure => simp [intOf]
        · have cg := vg.cell (i := 2) (by simp)
          have zg := vg.frozen 2
          have vg2 := vg.set 2 (.int .i64 1)
          have vq2 := vq.other ⟨g, 2, none⟩ (Ne.symm nq) (.int .i64 1)
          have vf2 := vf.other ⟨g, 2, none⟩ (Ne.symm nf) (.int .i64 1)
          have vc2 := vc.other ⟨g, 2, none⟩ (Ne.symm nc) (.int .i64 1)
          have hb2 := hb.setCell (p := ⟨g, 2, none⟩) hg (.int .i64 1)
          simp only [List.getD_cons_zero, List.getD_cons_succ] at cg
          clear vg vq vf vc hb
          go_wp2
          go_roundw
          case rel => exact ⟨.inr (.inr (.inr (.inl ⟨rfl, vg2⟩))), vq2, vf2, vc2, hb2⟩
          case measure => simp [intOf]
        · have cg := vg.cell (i := 3) (by simp)
          have zg := vg.frozen 3
          have vg2 := vg.set 3 (.int .i64 1)
          have vq2 := vq.other ⟨g, 3, none⟩ (Ne.symm nq) (.int .i64 1)
          have vf2 := vf.other ⟨g, 3, none⟩ (Ne.symm nf) (.int .i64 1)
          have vc2 := vc.other ⟨g, 3, none⟩ (Ne.symm nc) (.int .i64 1)
          have hb2 := hb.setCell (p := ⟨g, 3, none⟩) hg (.int .i64 1)
          simp only [List.getD_cons_zero, List.getD_cons_succ] at cg
          clear vg vq vf vc hb
          go_wp2
          go_roundw
          case rel => exact ⟨.inr (.inr (.inr (.inr (⟨rfl, vg2⟩)))), vq2, vf2, vc2, hb2⟩
          case measure => simp [intOf]
        · go_wp2
          go_roundw
          case rel => exact ⟨.inr (.inr ⟨rfl, rfl, vg⟩), vq, vf, vc, hb⟩
          case measure => simp [intOf]
    · go_wp2
      go_ret3
      exact ⟨g, rfl, hg, vg, hb⟩

end Go.Proofs
