/- wire: search.follows and search.onward. -/
import Derived.Test.YtmnalmmffphnpaaDoorBestMem
import Derived.Deep.RegionHeld3
import Derived.Deep.Cut
open Go.RowKit Go.Deep
namespace Go.Proofs
set_option linter.unusedVariables false
set_option linter.unusedSimpArgs false

theorem fcellsP {w : World} {bx pb po a b : Nat} {x a0 a1 b0 b1 : Value} (h5 : w.cell? ⟨bx, 5, none⟩ = some x) (ha : w.cell? ⟨pb, po + a * 2, none⟩ = some a0 ∧ w.cell? ⟨pb, po + a * 2 + 1, none⟩ = some a1) (hb : w.cell? ⟨pb, po + b * 2, none⟩ = some b0 ∧ w.cell? ⟨pb, po + b * 2 + 1, none⟩ = some b1) :
    ∀ W, Below w.heap.size w W → W.cell? ⟨bx, 5, none⟩ = some x ∧ W.cell? ⟨pb, po + a * 2, none⟩ = some a0 ∧ W.cell? ⟨pb, po + a * 2 + 1, none⟩ = some a1 ∧ W.cell? ⟨pb, po + b * 2, none⟩ = some b0 ∧ W.cell? ⟨pb, po + b * 2 + 1, none⟩ = some b1 := fun W hW =>
  ⟨(hW.cell (cell_lt h5)).trans h5, (hW.cell (cell_lt ha.1)).trans ha.1, (hW.cell (cell_lt ha.2)).trans ha.2, (hW.cell (cell_lt hb.1)).trans hb.1, (hW.cell (cell_lt hb.2)).trans hb.2⟩

theorem valueat {w : World} {h L l : Nat} {F : Nat → Int} (hc : ∀ l, l < L → w.cell? ⟨h, l, none⟩ = some (.int .i64 (F l))) (hl : l < L) : w.cell? ⟨h, l, none⟩ = some (.int .i64 (F l)) := hc l hl
end Go.Proofs
