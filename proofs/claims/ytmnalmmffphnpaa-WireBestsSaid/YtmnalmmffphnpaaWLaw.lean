/- The law's dear and before. -/
import Derived.Test.YtmnalmmffphnpaaBestOpt
import Derived.Test.YtmnalmmffphnpaaWOpen
import Derived.Deep.QuietTactic
import Derived.BigQuiet
import Derived.Deep.Cut
open Go.RowKit Go.Deep
namespace Go.Proofs
set_option linter.unusedVariables false
set_option linter.unusedSimpArgs false

def dearB (S : Scl) : Bool := decide (400 < S.cs.length * S.ms.length * S.gs.length)
def befB : List Pk → List Pk → Bool
  | p :: P, q :: Q => if p.m = q.m then (if p.g = q.g then befB P Q else decide (p.g < q.g)) else decide (p.m < q.m)
  | _, _ => false
theorem befB_lt : ∀ {P Q : List Pk}, befB P Q = true → ltPks P Q
  | [], _, h => by cases h
  | _ :: _, [], h => by cases h
  | p :: P, q :: Q, h => by
    unfold befB at h
    unfold ltPks
    split at h
    · rename_i h1
      split at h
      · rename_i h2
        right
        refine ⟨?_, befB_lt h⟩
        obtain ⟨a, b⟩ := p
        obtain ⟨c, d⟩ := q
        simp only [Pk.mk.injEq]
        exact ⟨h1, h2⟩
      · exact .inl (.inr ⟨h1, of_decide_eq_true h⟩)
    · exact .inl (.inl (of_decide_eq_true h))
theorem drop_pk {P : List Pk} {i : Nat} (h : i < P.length) : P.drop i = P.getD i p0 :: P.drop (i + 1) := by
  rw [List.drop_eq_getElem_cons h]
  simp [List.getD, List.getElem?_eq_getElem h]
theorem befB_nil {P Q : List Pk} {i : Nat} (h : P.length ≤ i ∨ Q.length ≤ i) : befB (P.drop i) (Q.drop i) = false := by
  rcases h with h | h
  · rw [List.drop_eq_nil_of_le h]; rfl
  · rw [List.drop_eq_nil_of_le h]; cases P.drop i <;> rfl

set_option maxRecDepth 100000 in
theorem dear_calls (S : Scl) (cv mv gv : Value) (w : World) (hS : InS w cv mv gv S) (hs : sclOk S = true) :
    Calls Try.prog 23 #[.agg #[cv, mv, gv, .int .i64 S.sf, .int .i64 S.ch]] w fun e w' => e = .returned (.bool (dearB S)) ∧ Below w.heap.size w w' := by
  obtain ⟨hl96, hl4, hl16, _, hch⟩ := headOk_lens (headOk_of hs)
  obtain ⟨⟨adc, cc, rfl, rc⟩, ⟨adm, cm, rfl, rm⟩, ⟨adg, cg, rfl, rg⟩⟩ := hS
  obtain ⟨R, hR⟩ : ∃ R, dearB S = R := ⟨_, rfl⟩
  rw [hR]
  unfold dearB at hR
  obtain ⟨nc, hnc⟩ : ∃ n, S.cs.length = n := ⟨_, rfl⟩
  obtain ⟨nm, hnm⟩ : ∃ n, S.ms.length = n := ⟨_, rfl⟩
  obtain ⟨ng, hng⟩ : ∃ n, S.gs.length = n := ⟨_, rfl⟩
  rw [hnc, hnm, hng] at hR
  rw [hnc, hnm, hng]
  rw [hnc] at hl96
  rw [hnm] at hl4
  rw [hng] at hl16
  have h1 := Nat.mul_le_mul hl96.2 hl4.2
  have h2 := Nat.mul_le_mul h1 hl16.2
  have k1 : wrap64 ((nc : Int) * (nm : Int)) = ((nc * nm : Nat) : Int) := by rw [← Int.natCast_mul]; exact wrap64_id (by omega) (by omega)
  have k2 : wrap64 (((nc * nm : Nat) : Int) * (ng : Int)) = ((nc * nm * ng : Nat) : Int) := by rw [← Int.natCast_mul]; exact wrap64_id (by omega) (by omega)
  obtain ⟨pq, hpq⟩ : ∃ p, nc * nm * ng = p := ⟨_, rfl⟩
  rw [hpq] at k2 hR
  clear hpq
  have K1 := Lib.hid k1
  have K2 := Lib.hid k2
  have HD := Lib.hid (show decide ((400 : Int) < (pq : Int)) = R by rw [← hR]; exact decide_eq_decide.2 (by omega))
  clear hnc hnm hng hs rc rm rg k1 k2 hR h1 h2
  have vs := Vals.newL w (w.heap.size) [.slice adc nc cc, .slice adm nm cm, .slice adg ng cg, .int .i64 S.sf, .int .i64 S.ch] 26 rfl
  have bb := below_alloc w (.cells #[.slice adc nc cc, .slice adm nm cm, .slice adg ng cg, .int .i64 S.sf, .int .i64 S.ch] 26)
  have B := bb
  clear bb
  go_enter Try.func23, Try.ntmps23
  go_upto_region 1 with (fail)
  generalize (w.alloc (.cells #[.slice adc nc cc, .slice adm nm cm, .slice adg ng cg, .int .i64 S.sf, .int .i64 S.ch] 26)) = w0 at *
  have cvs0 := vs.cell (i := 0) (by simp)
  have cvs1 := vs.cell (i := 1) (by simp)
  have cvs2 := vs.cell (i := 2) (by simp)
  have cvs3 := vs.cell (i := 3) (by simp)
  have cvs4 := vs.cell (i := 4) (by simp)
  simp only [List.getD_cons_zero, List.getD_cons_succ] at cvs0 cvs1 cvs2 cvs3 cvs4
  have ltvs := vs.lt
  go_wp2
  rw [K1.out, K2.out]
  go_ret
  exact ⟨by rw [← HD.out]; rfl, B⟩

set_option maxRecDepth 100000 in
set_option maxHeartbeats 1000000 in
theorem before_calls (P Q : List Pk) (pv qv : Value) (w : World) (hP : InP w pv P) (hQ : InP w qv Q) :
    Calls Try.prog 25 #[pv, qv] w fun e w' => e = .returned (.bool (befB P Q)) ∧ Below w.heap.size w w' := by
  obtain ⟨adp, cp, rfl, rp⟩ := hP
  obtain ⟨adq, cq, rfl, rq⟩ := hQ
  have LP := rp.1
  have LQ := rq.1
  have LP2 := rp.2.1
  have LQ2 := rq.2.1
  unfold maxLen at LP2 LQ2
  obtain ⟨np, hnp⟩ : ∃ n, P.length = n := ⟨_, rfl⟩
  obtain ⟨nq, hnq⟩ : ∃ n, Q.length = n := ⟨_, rfl⟩
  rw [hnp] at LP ⊢
  rw [hnq] at LQ ⊢
  obtain ⟨R, hR⟩ : ∃ R, befB P Q = R := ⟨_, rfl⟩
  rw [hR]
  have HNP := Lib.hid hnp
  have HNQ := Lib.hid hnq
  have HR0 := Lib.hid (show befB (P.drop 0) (Q.drop 0) = R from hR)
  clear hnp hnq hR
  go_enter Try.func25, Try.ntmps25
  go_wp2
  go_loopw [5] (fun iv wr => ∃ i : Nat, iv = .int .i64 (i : Int) ∧ i ≤ np ∧ befB (P.drop i) (Q.drop i) = R ∧ Below w.heap.size w wr ∧ RdP wr adp cp P ∧ RdP wr adq cq Q)
    (fun iv _ => np - (intOf iv).toNat)
  case atStart => exact ⟨0, rfl, Nat.zero_le _, HR0.out, Below.refl _ _, rp, rq⟩
  case round =>
    clear rp rq HR0
    obtain ⟨i, rfl, hi, hb, B, rp, rq⟩ := hrel
    by_cases h1 : i < np
    · by_cases h2 : i < nq
      · have hip : i < P.length := by rw [HNP.out]; exact h1
        have hiq : i < Q.length := by rw [HNQ.out]; exact h2
        rw [drop_pk hip, drop_pk hiq] at hb
        unfold befB at hb
        obtain ⟨bp, op, rfl, p1, p2⟩ := rp.at hip
        obtain ⟨bq, oq, rfl, q1, q2⟩ := rq.at hiq
        obtain ⟨X, hX⟩ : ∃ X, P.getD i p0 = X := ⟨_, rfl⟩
        obtain ⟨Y, hY⟩ : ∃ X, Q.getD i p0 = X := ⟨_, rfl⟩
        rw [hX, hY] at hb
        rw [hX] at p1 p2
        rw [hY] at q1 q2
        have i0 : (0 : Int) ≤ (i : Int) := by omega
        have i1 : (i : Int) < (np : Int) := by omega
        have i2 : (i : Int) < (nq : Int) := by omega
        have hrp := Lib.hid rp
        have hrq := Lib.hid rq
        clear rp rq hX hY
        by_cases e1 : X.m = Y.m
        · rw [if_pos e1] at hb
          have t1 : (X.m != Y.m) = false := by rw [e1]; simp
          have E1 := Lib.hid e1
          clear e1
          by_cases e2 : X.g = Y.g
          · rw [if_pos e2] at hb
            have t2 : (X.g != Y.g) = false := by rw [e2]; simp
            have HB := Lib.hid hb
            clear e2 hb
            go_upto_region 4 with (fail)
            go_quiet (fail)
            go_upto_region 6 with (fail)
            go_quiet (fail)
            go_wp2
            go_roundw
            case rel => exact ⟨i + 1, by go_num, by omega, HB.out, below_drewN B _, hrp.out, hrq.out⟩
            case measure => simp [intOf]; omega
          · rw [if_neg e2] at hb
            have t2 : (X.g != Y.g) = true := by rw [bne_iff_ne]; exact e2
            have HB := Lib.hid hb
            clear e2 hb
            go_upto_region 4 with (fail)
            go_quiet (fail)
            go_upto_region 6 with (fail)
            go_quiet (fail)
            go_upto_region 7 with (fail)
            go_quiet (fail)
            go_wp2
            go_ret
            first | exact ⟨by rw [← HB.out]; rfl, below_drewN B _⟩ | exact ⟨by rw [← HB.out]; rfl, below_drewN (below_drewN B _) _⟩ | exact ⟨by rw [← HB.out]; rfl, below_drewN (below_drewN (below_drewN B _) _) _⟩
        · rw [if_neg e1] at hb
          have t1 : (X.m != Y.m) = true := by rw [bne_iff_ne]; exact e1
          have HB := Lib.hid hb
          clear e1 hb
          go_upto_region 4 with (fail)
          go_quiet (fail)
          go_upto_region 5 with (fail)
          go_quiet (fail)
          go_wp2
          go_ret
          first | exact ⟨by rw [← HB.out]; rfl, below_drewN B _⟩ | exact ⟨by rw [← HB.out]; rfl, below_drewN (below_drewN B _) _⟩ | exact ⟨by rw [← HB.out]; rfl, below_drewN (below_drewN (below_drewN B _) _) _⟩
      · have HB := Lib.hid (show R = false by rw [← hb]; exact befB_nil (.inr (by rw [HNQ.out]; omega)))
        have t2 : ¬ ((i : Int) < (nq : Int)) := by omega
        clear hb
        go_wp2
        go_ret
        exact ⟨by rw [HB.out]; rfl, B⟩
    · have HB := Lib.hid (show R = false by rw [← hb]; exact befB_nil (.inl (by rw [HNP.out]; omega)))
      clear hb
      go_wp2
      go_ret
      exact ⟨by rw [HB.out]; rfl, B⟩

end Go.Proofs
