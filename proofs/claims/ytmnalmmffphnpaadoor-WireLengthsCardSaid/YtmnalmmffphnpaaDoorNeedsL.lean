/- The law's lots: the same lists are alike. -/
import Derived.Test.YtmnalmmffphnpaaDoorNeedsLaw
import Derived.Deep.QuietTactic
import Derived.BigQuiet
import Derived.Deep.Cut
open Go.RowKit Go.Deep
namespace Go.Proofs
set_option linter.unusedVariables false
set_option linter.unusedSimpArgs false

theorem run_neq_lot (a b : ByteArray) (c : Int) (w : World) : (binOp .neq 42 (.agg #[.string a, .string b, .int .i64 c]) (.agg #[.string a, .string b, .int .i64 c])).run Tryd.prog w = .ok (.bool false) w := by
  rw [run_neq_struct, show (10000 : Nat) = 9999 + 1 from rfl, run_equalIn_agg w 9999 42 _ _ (by kernel_rfl) (by kernel_rfl)]
  go_simp
theorem lot_cells {w : World} {ad : Option Addr} {c n : Nat} {L : List Lt} (h : RdV w ad c n 3 (flat lcl L)) {i : Nat} (hi : i < L.length) {X : Lt} (hX : L.getD i lt0 = X) :
    ∃ b o, ad = some ⟨b, o, none⟩ ∧ w.cell? ⟨b, o + i * 3, none⟩ = some (.string wireB) ∧ w.cell? ⟨b, o + i * 3 + 1, none⟩ = some (.string X.s) ∧ w.cell? ⟨b, o + i * 3 + 2, none⟩ = some (.int .i64 X.q) := by
  obtain ⟨b, o, e, k⟩ := RdV.at lcl_len h (by omega) lt0 hi
  rw [hX] at k
  exact ⟨b, o, e, k 0 _ rfl, k 1 _ rfl, k 2 _ rfl⟩

set_option maxRecDepth 100000 in
set_option maxHeartbeats 1000000 in
theorem lots_calls (L : List Lt) (pv qv : Value) (w : World) (hP : InL w pv L) (hQ : InL w qv L) :
    Calls Tryd.prog 11 #[pv, qv] w fun e w' => e = .returned (.bool true) ∧ Below w.heap.size w w' := by
  obtain ⟨adp, cp, rfl, rp⟩ := hP
  obtain ⟨adq, cq, rfl, rq⟩ := hQ
  have LP := rp.2.1
  have LQ := rq.2.1
  have LP2 := rp.2.2.1
  have LQ2 := rq.2.2.1
  unfold maxLen at LP2 LQ2
  obtain ⟨np, hnp⟩ : ∃ n, L.length = n := ⟨_, rfl⟩
  rw [hnp] at LP LQ rp rq ⊢
  have HNP := Lib.hid hnp
  clear hnp
  go_enter Tryd.func11, Tryd.ntmps11
  go_wp2
  go_loopw [5] (fun iv wr => ∃ i : Nat, iv = .int .i64 (i : Int) ∧ i ≤ np ∧ Below w.heap.size w wr ∧ RdV wr adp cp np 3 (flat lcl L) ∧ RdV wr adq cq np 3 (flat lcl L))
    (fun iv _ => np - (intOf iv).toNat)
  case atStart => exact ⟨0, rfl, Nat.zero_le _, Below.refl _ _, rp, rq⟩
  case round =>
    clear rp rq
    obtain ⟨i, rfl, hi, B, rp, rq⟩ := hrel
    by_cases h1 : i < np
    · have hip : i < L.length := by rw [HNP.out]; exact h1
      obtain ⟨X, hX⟩ : ∃ X, L.getD i lt0 = X := ⟨_, rfl⟩
      obtain ⟨bp, op, rfl, p1, p2, p3⟩ := lot_cells rp hip hX
      obtain ⟨bq, oq, rfl, q1, q2, q3⟩ := lot_cells rq hip hX
      have i0 : (0 : Int) ≤ (i : Int) := by omega
      have i1 : (i : Int) < (np : Int) := by omega
      have hrp := Lib.hid rp
      have hrq := Lib.hid rq
      have HI1 := Lib.hid (show i + 1 ≤ np from h1)
      clear rp rq hX
      have rn := run_neq_lot wireB X.s X.q
      go_upto_region 6 with (fail)
      go_quiet (fail)
      go_wp2
      go_roundw
      case rel => exact ⟨i + 1, by go_num, HI1.out, below_drewN B _, hrp.out, hrq.out⟩
      case measure => have := HI1.out; simp [intOf]; omega
    · obtain rfl : i = np := by omega
      go_wp2
      go_ret
      exact ⟨rfl, B⟩

end Go.Proofs
