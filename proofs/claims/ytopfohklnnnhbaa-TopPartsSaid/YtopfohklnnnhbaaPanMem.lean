/- panel: what lies in memory; within, Check. -/
import Derived.Test.YtopfohklnnnhbaaBase
import Derived.Test.YtopfohklnnnhbaaVals
import Derived.Test.YtopfohklnnnhbaaRowsV
import Derived.Test.YtopfohklnnnhbaaPanLaw
import Derived.Test.YtopfohklnnnhbaaProg
import Derived.Laws.Tables
import Derived.Deep.RegionHeld3
open Go.RowKit Go.Deep
namespace Go.Proofs
set_option linter.unusedVariables false
set_option linter.unusedSimpArgs false

def scl (s : Shp) : List Value := [.int .i64 s.w, .int .i64 s.h, .int .i64 s.v, .bool s.t]
theorem scl_len (s : Shp) : (scl s).length = 4 := rfl
def s0 : Shp := ⟨0, 0, 0, false⟩
/-- a shape as Check wants it -/
def ShpOk (s : Shp) : Prop := 1 ≤ s.w ∧ s.w ≤ 64 ∧ 1 ≤ s.h ∧ s.h ≤ 64 ∧ 0 ≤ s.v ∧ s.v ≤ 1000000

theorem pwithin_calls (n m : Int) (w : World) (h1 : 1 ≤ n) (h2 : n ≤ m) : Calls Try.prog 9 #[.int .i64 n, .int .i64 m] w fun e w' => e = .returned (.bool true) ∧ w = w' := by
  go_enter Try.func9, Try.ntmps9
  go_wp2
  go_ret
  exact ⟨rfl, rfl⟩

set_option maxRecDepth 100000 in
theorem pcheck_calls (W H kf : Nat) (ad : Option Addr) (n c : Nat) (sh : List Shp) (w : World) (hW : 1 ≤ W ∧ W ≤ 64) (hH : 1 ≤ H ∧ H ≤ 64) (hk : kf ≤ 8) (hn : n ≤ 16) (hl : sh.length = n) (hrd : RdV w ad c n 4 (flat scl sh)) (hsh : ∀ s ∈ sh, ShpOk s) :
    Calls Try.prog 6 #[.int .i64 (W : Int), .int .i64 (H : Int), .int .i64 (kf : Int), .slice ad n c] w fun e w' => e = .returned (.int .i64 0) ∧ Below w.heap.size w w' := by
  have HW := Lib.hid (fun (n : Int) (w : World) (h1 : 1 ≤ n) (h2 : n ≤ 64) => pwithin_calls n 64 w h1 h2)
  have a1 : (1 : Int) ≤ (W : Int) := by omega
  have a2 : (W : Int) ≤ 64 := by omega
  have a3 : (1 : Int) ≤ (H : Int) := by omega
  have a4 : (H : Int) ≤ 64 := by omega
  have a5 : (kf : Int) ≤ 8 := by omega
  have a6 : (0 : Int) ≤ (kf : Int) := by omega
  have a7 : (n : Int) ≤ 16 := by omega
  have HR := Lib.hid hrd
  have HS := Lib.hid hsh
  have HL := Lib.hid hl
  clear hrd hsh hl hW hH hk
  go_enter Try.func6, Try.ntmps6
  go_wp2_with fail
  refine (HW.out _ _ a1 a2).mono ?_
  rintro e w' ⟨rfl, rfl⟩
  go_wp2_with fail
  refine (HW.out _ _ a3 a4).mono ?_
  rintro e w' ⟨rfl, rfl⟩
  go_wp2
  go_loopw [9, 33] (fun ov iv wr => ∃ i : Nat, i ≤ n ∧ ov = .bool true ∧ iv = .int .i64 (i : Int) ∧ Below w.heap.size w wr) (fun _ iv _ => ((n : Int) - intOf iv).toNat)
  case atStart => exact ⟨0, Nat.zero_le _, rfl, rfl, Below.refl _ _⟩
  case round =>
    clear a1 a2 a3 a4 a5 a6
    obtain ⟨i, hi, rfl, rfl, B⟩ := hrel
    by_cases hin : i < n
    · have t1 : (i : Int) < (n : Int) := by omega
      have hil : i < sh.length := by rw [HL.out]; exact hin
      obtain ⟨bl, ol, rfl, hc⟩ := (HR.out.mono B).at scl_len (by omega) s0 hil
      have ok : ShpOk (sh.getD i s0) := by
        have e : sh.getD i s0 = sh[i] := by simp [List.getD, hil]
        rw [e]
        exact HS.out _ (List.getElem_mem hil)
      obtain ⟨⟨sw, sv, sx, st⟩, hx⟩ : ∃ s, sh.getD i s0 = s := ⟨_, rfl⟩
      rw [hx] at hc ok
      obtain ⟨o1, o2, o3, o4, o5, o6⟩ := ok
      dsimp only at o1 o2 o3 o4 o5 o6
      have c0 : wr.cell? ⟨bl, ol + i * 4, none⟩ = some (.int .i64 sw) := hc 0 _ rfl
      have c1 : wr.cell? ⟨bl, ol + i * 4 + 1, none⟩ = some (.int .i64 sv) := hc 1 _ rfl
      have c2 : wr.cell? ⟨bl, ol + i * 4 + 2, none⟩ = some (.int .i64 sx) := hc 2 _ rfl
      have c3 : wr.cell? ⟨bl, ol + i * 4 + 3, none⟩ = some (.bool st) := hc 3 _ rfl
      clear hc hx
      go_wp2_with fail
      clear c0 c1 c2 c3
      have v := Vals.newL wr wr.heap.size [.int .i64 sw, .int .i64 sv, .int .i64 sx, .bool st] 25 rfl
      have bb := below_alloc wr (.cells #[.int .i64 sw, .int .i64 sv, .int .i64 sx, .bool st] 25)
      have HB := Lib.hid (below_trans B bb)
      clear bb B
      generalize wr.alloc (.cells #[.int .i64 sw, .int .i64 sv, .int .i64 sx, .bool st] 25) = w2 at *
      have d0 := v.cell (i := 0) (by simp)
      have d1 := v.cell (i := 1) (by simp)
      have d2 := v.cell (i := 2) (by simp)
      simp only [List.getD_cons_zero, List.getD_cons_succ] at d0 d1 d2
      have ltv := v.lt
      refine (HW.out _ _ o1 o2).mono ?_
      rintro e w' ⟨rfl, rfl⟩
      go_wp2_with fail
      refine (HW.out _ _ o3 o4).mono ?_
      rintro e w' ⟨rfl, rfl⟩
      go_wp2
      go_roundw
      case rel => exact ⟨i + 1, by omega, rfl, by go_num, HB.out⟩
      case measure => simp [intOf]; omega
    · obtain rfl : i = n := by omega
      go_wp2
      go_ret
      exact ⟨rfl, B⟩

end Go.Proofs
