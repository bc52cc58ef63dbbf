/- tone: fractions in cells, results of two fractions. -/
import Derived.Test.YtnogieknjcbchaaDoorTone11
open Go.RowKit Go.Deep
namespace Go.Proofs
set_option linter.unusedVariables false
set_option linter.unusedSimpArgs false

/-- two structs and a number are returned -/
theorem results_cell_cell_tmp {P : Program} {fn : Func} {p r q : Tmp} {ty ty2 : TypeId} (h : fn.results = #[.cell p ty, .cell r ty2, .tmp q]) (tmps : Array Value) (w : World) (g g2 : Nat) (t t2 : TypeId) (cs cs2 : Array Value) (fr fr2 : Nat × Nat) (d d2 : TypeDesc)
    (hp : tmps.getD p undef = .pointer (some ⟨g, 0, none⟩)) (hr : tmps.getD r undef = .pointer (some ⟨g2, 0, none⟩)) (hg : w.heap[g]? = some (.cells cs t fr)) (hg2 : w.heap[g2]? = some (.cells cs2 t2 fr2))
    (hu : P.underlying ty = some d) (hd : (match d with | .struct _ | .array _ _ => true | _ => false) = true) (hi : (P.info? ty).map (·.size) = some cs.size)
    (hu2 : P.underlying ty2 = some d2) (hd2 : (match d2 with | .struct _ | .array _ _ => true | _ => false) = true) (hi2 : (P.info? ty2).map (·.size) = some cs2.size) (v : Value) (hv : tmps.getD q undef = v) :
    (results fn tmps).run P w = .ok (.tuple #[.agg cs, .agg cs2, v]) w := by
  have hp' : tmps[p]?.getD undef = .pointer (some ⟨g, 0, none⟩) := by simpa using hp
  have hr' : tmps[r]?.getD undef = .pointer (some ⟨g2, 0, none⟩) := by simpa using hr
  have hv' : tmps[q]?.getD undef = v := by simpa using hv
  simp [results, h, hp', hv', hr', asAddr, run_loadVar_row w g t ty cs fr d hg hu hd hi, run_loadVar_row w g2 t2 ty2 cs2 fr2 d2 hg2 hu2 hd2 hi2]

def frac (n d : Int) : List Value := [.int .i64 n, .int .i64 d]
theorem Vals.put2 {w : World} {b : Nat} {v0 v1 : Value} (h : Vals w b [v0, v1]) (x y : Value) : Vals ((w.setCell ⟨b, 0, none⟩ x).setCell ⟨b, 1, none⟩ y) b [x, y] := (h.set 0 x).set 1 y
theorem below_put2 {B b : Nat} {a w : World} (h : Below B a w) (hb : B ≤ b) (x y : Value) : Below B a ((w.setCell ⟨b, 0, none⟩ x).setCell ⟨b, 1, none⟩ y) :=
  (h.setCell (p := ⟨b, 0, none⟩) hb x).setCell (p := ⟨b, 1, none⟩) hb y
theorem Vals.off2 {w : World} {b g : Nat} {vs : List Value} (h : Vals w b vs) (hg : g ≠ b) (x y : Value) : Vals ((w.setCell ⟨g, 0, none⟩ x).setCell ⟨g, 1, none⟩ y) b vs :=
  (h.other ⟨g, 0, none⟩ hg x).other ⟨g, 1, none⟩ hg y

/-- two fractions and a code are returned -/
def RetF (w : World) (a b c d er : Int) (e : Ending) (w' : World) : Prop :=
  e = .returned (.tuple #[.agg #[.int .i64 a, .int .i64 b], .agg #[.int .i64 c, .int .i64 d], .int .i64 er]) ∧ Below w.heap.size w w'

/-- a number in a cell -/
def cellZ (w : World) (b i : Nat) : Int := match w.cell? ⟨b, i, none⟩ with | some (.int _ z) => z | _ => 0
theorem cellZ_of {w : World} {b : Nat} {x y : Int} (h : Vals w b [.int .i64 x, .int .i64 y]) : cellZ w b 1 = y := by
  unfold cellZ
  rw [h.cell (i := 1) (by simp)]
  rfl
theorem wrap_lin {p n q : Nat} (h1 : p ≤ 100000000) (h2 : n * q ≤ 100000000) : wrap64 ((p : Int) + wrap64 ((n : Int) * (q : Int))) = ((p + n * q : Nat) : Int) := by
  have := wrap_frac (p := p) (n := n) (t := 0) (q := q) h1 (by simpa using h2)
  simpa using this
end Go.Proofs
