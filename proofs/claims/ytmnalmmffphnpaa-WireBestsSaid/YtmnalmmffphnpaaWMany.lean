/- The law's many and alike. -/
import Derived.Test.YtmnalmmffphnpaaWLaw
import Derived.Test.YtmnalmmffphnpaaWCost
open Go.RowKit Go.Deep
namespace Go.Proofs
set_option linter.unusedVariables false
set_option linter.unusedSimpArgs false

def manyB (S : Scl) : Bool := decide (700 < (S.ms.length * S.gs.length) ^ S.cs.length)

set_option maxRecDepth 100000 in
set_option maxHeartbeats 1000000 in
theorem many_calls (S : Scl) (cv mv gv : Value) (w : World) (hS : InS w cv mv gv S) (hs : sclOk S = true) :
    Calls Try.prog 19 #[.agg #[cv, mv, gv, .int .i64 S.sf, .int .i64 S.ch], .int .i64 700] w fun e w' => e = .returned (.bool (manyB S)) ∧ Below w.heap.size w w' := by
  obtain ⟨hl96, hl4, hl16, _, hch⟩ := headOk_lens (headOk_of hs)
  obtain ⟨⟨adc, cc, rfl, rc⟩, ⟨adm, cm, rfl, rm⟩, ⟨adg, cg, rfl, rg⟩⟩ := hS
  obtain ⟨R, hR⟩ : ∃ R, manyB S = R := ⟨_, rfl⟩
  rw [hR]
  unfold manyB at hR
  obtain ⟨nc, hnc⟩ : ∃ n, S.cs.length = n := ⟨_, rfl⟩
  obtain ⟨nm, hnm⟩ : ∃ n, S.ms.length = n := ⟨_, rfl⟩
  obtain ⟨ng, hng⟩ : ∃ n, S.gs.length = n := ⟨_, rfl⟩
  rw [hnc, hnm, hng] at hR
  rw [hnc, hnm, hng]
  rw [hnc] at hl96
  rw [hnm] at hl4
  rw [hng] at hl16
  have h1 := Nat.mul_le_mul hl4.2 hl16.2
  have h2 := Nat.mul_le_mul hl4.1 hl16.1
  have k1 : wrap64 ((nm : Int) * (ng : Int)) = ((nm * ng : Nat) : Int) := by rw [← Int.natCast_mul]; exact wrap64_id (by omega) (by omega)
  obtain ⟨K, hK⟩ : ∃ K, nm * ng = K := ⟨_, rfl⟩
  rw [hK] at k1 h1 h2 hR
  have HK1 := Lib.hid k1
  have HR := Lib.hid hR
  have hK2 : 1 ≤ K ∧ K ≤ 64 := by omega
  clear hnc hnm hng hs rc rm rg k1 hR h1 h2 hK
  have vs := Vals.newL w (w.heap.size) [.slice adc nc cc, .slice adm nm cm, .slice adg ng cg, .int .i64 S.sf, .int .i64 S.ch] 26 rfl
  have bb := below_alloc w (.cells #[.slice adc nc cc, .slice adm nm cm, .slice adg ng cg, .int .i64 S.sf, .int .i64 S.ch] 26)
  have B := bb
  clear bb
  go_enter Try.func19, Try.ntmps19
  go_upto_region 1 with (fail)
  generalize (w.alloc (.cells #[.slice adc nc cc, .slice adm nm cm, .slice adg ng cg, .int .i64 S.sf, .int .i64 S.ch] 26)) = w0 at *
  have hsz := vs.lt
  have hb0 : w.heap.size < w0.heap.size := vs.lt
  go_wp2
  go_loopw [5, 6] (fun nv iv wr => ∃ i p : Nat, iv = .int .i64 (i : Int) ∧ nv = .int .i64 (p : Int) ∧ i ≤ nc ∧ K ^ i = p ∧ p ≤ 700 ∧ Vals wr w.heap.size [.slice adc nc cc, .slice adm nm cm, .slice adg ng cg, .int .i64 S.sf, .int .i64 S.ch] ∧ Below w.heap.size w wr)
    (fun _ iv _ => nc - (intOf iv).toNat)
  case atStart => exact ⟨0, 1, rfl, rfl, Nat.zero_le _, rfl, by omega, vs, B⟩
  case round =>
    clear vs B hsz hb0
    obtain ⟨i, p, rfl, rfl, hi, hp, hp7, vs, B⟩ := hrel

    have cvs0 := vs.cell (i := 0) (by simp)
    have cvs1 := vs.cell (i := 1) (by simp)
    have cvs2 := vs.cell (i := 2) (by simp)
    have cvs3 := vs.cell (i := 3) (by simp)
    have cvs4 := vs.cell (i := 4) (by simp)
    simp only [List.getD_cons_zero, List.getD_cons_succ] at cvs0 cvs1 cvs2 cvs3 cvs4
    have ltvs := vs.lt
    by_cases hlt : i < nc
    · have kk := HK1.out
      obtain ⟨q, hq⟩ : ∃ q, p * K = q := ⟨_, rfl⟩
      have hq2 : p * K ≤ 700 * 64 := Nat.mul_le_mul hp7 hK2.2
      have hqK : K ^ (i + 1) = q := by rw [Nat.pow_succ, hp, hq]
      have kq : wrap64 ((p : Int) * (K : Int)) = (q : Int) := by rw [← Int.natCast_mul, hq]; exact wrap64_id (by omega) (by omega)
      rw [hq] at hq2
      have HKQ := Lib.hid kq
      have HKK := Lib.hid kk
      have HQ := Lib.hid hqK
      have HP := Lib.hid hp
      clear kq kk hqK hp hq
      by_cases h7 : 700 < q
      · have HRR := Lib.hid (show R = true by
          rw [← HR.out, decide_eq_true_eq]
          have := Nat.pow_le_pow_right (show 0 < K by omega) (show i + 1 ≤ nc by omega)
          rw [HQ.out] at this
          omega)
        have q7 : (700 : Int) < (q : Int) := by omega
        go_upto_region 6 with (fail)
        simp only [HKK.out, HKQ.out]
        go_wp2
        go_ret
        exact ⟨by rw [HRR.out]; rfl, B⟩
      · have q7 : ¬ ((700 : Int) < (q : Int)) := by omega
        go_upto_region 6 with (fail)
        simp only [HKK.out, HKQ.out]
        go_wp2
        go_roundw
        case rel => exact ⟨i + 1, q, by go_num, by rfl, by omega, HQ.out, by omega, vs, B⟩
        case measure => simp [intOf]; omega
    · obtain rfl : i = nc := by omega
      have HRR := Lib.hid (show R = false by
        rw [← HR.out, hp, decide_eq_false_iff_not]
        omega)
      go_wp2
      go_ret
      exact ⟨by rw [HRR.out]; rfl, B⟩

set_option maxRecDepth 100000 in
set_option maxHeartbeats 1000000 in
theorem alike_calls (P : List Pk) (pv qv : Value) (w : World) (hP : InP w pv P) (hQ : InP w qv P) :
    Calls Try.prog 22 #[pv, qv] w fun e w' => e = .returned (.bool true) ∧ Below w.heap.size w w' := by
  obtain ⟨adp, cp, rfl, rp⟩ := hP
  obtain ⟨adq, cq, rfl, rq⟩ := hQ
  have LP := rp.1
  have LP2 := rp.2.1
  have LQ := rq.1
  have LQ2 := rq.2.1
  unfold maxLen at LP2 LQ2
  obtain ⟨np, hnp⟩ : ∃ n, P.length = n := ⟨_, rfl⟩
  rw [hnp] at LP LQ ⊢
  have HNP := Lib.hid hnp
  clear hnp
  go_enter Try.func22, Try.ntmps22
  go_wp2
  go_loopw [5] (fun iv wr => ∃ i : Nat, iv = .int .i64 (i : Int) ∧ i ≤ np ∧ Below w.heap.size w wr ∧ RdP wr adp cp P ∧ RdP wr adq cq P)
    (fun iv _ => np - (intOf iv).toNat)
  case atStart => exact ⟨0, rfl, Nat.zero_le _, Below.refl _ _, rp, rq⟩
  case round =>
    clear rp rq
    obtain ⟨i, rfl, hi, B, rp, rq⟩ := hrel
    by_cases h1 : i < np
    · have hip : i < P.length := by rw [HNP.out]; exact h1
      obtain ⟨bp, op, rfl, p1, p2⟩ := rp.at hip
      obtain ⟨bq, oq, rfl, q1, q2⟩ := rq.at hip
      obtain ⟨X, hX⟩ : ∃ X, P.getD i p0 = X := ⟨_, rfl⟩
      rw [hX] at p1 p2 q1 q2
      have i0 : (0 : Int) ≤ (i : Int) := by omega
      have i1 : (i : Int) < (np : Int) := by omega
      have hrp := Lib.hid rp
      have hrq := Lib.hid rq
      clear rp rq hX
      have rn := run_neq_pk X.m X.g X.m X.g
      have hn : (!(decide (X.m = X.m) && decide (X.g = X.g))) = false := by simp
      simp only [hn] at rn
      clear hn
      go_upto_region 6 with (fail)
      go_quiet (fail)
      go_wp2
      go_roundw
      case rel => exact ⟨i + 1, by go_num, by omega, below_drewN B _, hrp.out, hrq.out⟩
      case measure => simp [intOf]; omega
    · obtain rfl : i = np := by omega
      go_wp2
      go_ret
      exact ⟨rfl, B⟩

end Go.Proofs
