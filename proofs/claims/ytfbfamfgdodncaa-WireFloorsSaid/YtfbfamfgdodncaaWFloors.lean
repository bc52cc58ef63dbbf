/- The walk of the law WireFloors: whatever comes in, it returns true and changes nothing that was there. -/
import Derived.Test.YtfbfamfgdodncaaFloor3
import Derived.Test.YtfbfamfgdodncaaWLives
open Go.RowKit Go.Deep
namespace Go.Proofs
set_option linter.unusedVariables false

set_option maxRecDepth 100000 in
theorem walk_floors (v : Value) (C : Int) (zs : List Int) (w : World) (hv : InZ w v zs) :
    Calls Try.prog 7 #[v, .int .i64 C] w (RetTrue w) := by
  have CUT := cutz_calls v zs 15 15 w hv rfl (by omega)
  obtain ⟨ys, ey⟩ : ∃ ys, zs.take 15 = ys := ⟨_, rfl⟩
  rw [ey] at CUT
  have hl : ys.length ≤ 15 := by rw [← ey, List.length_take]; omega
  obtain ⟨ad, cp, rfl, _⟩ := hv
  clear ey
  go_enter Try.func7, Try.ntmps7
  go_wp2_with fail
  refine CUT.mono ?_
  clear CUT
  rintro e w1 ⟨g, c, rfl, hg, hgc, hgm, hz, b1⟩
  obtain ⟨n, hn⟩ : ∃ n, n = ys.length := ⟨_, rfl⟩
  have P := fun (w : World) (h : CellZ w g ys) => pieces_calls g c n ys C w hn (by omega) h
  by_cases hc : codeZ ys C = 0
  · have F := fun (w : World) (h : CellZ w g ys) => wfloor_ok g c n ys C w hn h hc
    have R := fun (w : World) (h : CellZ w g ys) => rfloor_calls g c n ys C w hn ⟨hgc, hgm⟩ h hc
    rw [hc] at P
    generalize bestTo ys C n n = best at *
    have HP := Lib.hid P
    have HF := Lib.hid F
    have HR := Lib.hid R
    rw [← hn]
    clear P F R hc hn hgc hgm hl hg
    go_wp2_with fail
    refine (HF.out _ hz).mono ?_
    rintro e w2 ⟨rfl, b2⟩
    replace hz := hz.mono b2
    replace b1 := below_trans b1 b2
    clear b2
    go_wp2_with fail
    refine (HP.out _ hz).mono ?_
    rintro e w3 ⟨rfl, b2⟩
    replace hz := hz.mono b2
    replace b1 := below_trans b1 b2
    clear b2
    go_wp2_with fail
    refine (HR.out _ hz).mono ?_
    rintro e w4 ⟨rfl, b2⟩
    replace b1 := below_trans b1 b2
    clear b2 hz
    go_wp2_with fail
    refine (lives_calls _).mono ?_
    rintro e w5 ⟨rfl, b2⟩
    replace b1 := below_trans b1 b2
    clear b2
    go_wp2
    go_ret
    exact ⟨rfl, b1⟩
  · have F := fun (w : World) (h : CellZ w g ys) => wfloor_bad g c n ys C w hn (by omega) h hc
    generalize codeZ ys C = code at *
    have k1 : (code != 0) = true := by simpa using hc
    have k2 : (code == 0) = false := by simpa using hc
    have HP := Lib.hid P
    have HF := Lib.hid F
    rw [← hn]
    clear P F hc hn hgc hgm hl hg
    go_wp2_with fail
    refine (HF.out _ hz).mono ?_
    rintro e w2 ⟨rfl, b2⟩
    replace hz := hz.mono b2
    replace b1 := below_trans b1 b2
    clear b2
    go_wp2_with fail
    refine (HP.out _ hz).mono ?_
    rintro e w3 ⟨rfl, b2⟩
    replace b1 := below_trans b1 b2
    clear b2 hz
    go_wp2_with fail
    refine (lives_calls _).mono ?_
    rintro e w5 ⟨rfl, b2⟩
    replace b1 := below_trans b1 b2
    clear b2
    go_wp2
    go_ret
    exact ⟨rfl, b1⟩

end Go.Proofs
