/- wire.Longest in range and out of range; plain facts: a string holds just up to a root. the reference of layer 4: ranges, Tension, Stress, Holds, Longest. The reference's Fits. The reference's Pulled. The reference's Pull. The reference's Allowed. The reference's Cost. -/
import Derived.Test.YtmnalmmffphnpaaDoorWire
import Derived.Test.YtmnalmmffphnpaaDoorNatD
import Derived.Test.YtmnalmmffphnpaaDoorRIn
import Derived.Test.YtmnalmmffphnpaaDoorRefB
import Derived.Test.YtmnalmmffphnpaaDoorRefA
import Derived.Test.YtmnalmmffphnpaaDoorWCost
open Go.RowKit
namespace Go.Proofs
set_option linter.unusedVariables false
set_option linter.unusedSimpArgs false

/-- the greatest square below -/
def quoN (d s f y : Nat) : Nat := 10 ^ 20 * (y * s) / (400 * d * f * f)

theorem prod4 (a b c d : Nat) : 10 ^ 0 * prodTo [a, b, c, d] [a, b, c, d].length = a * b * c * d := by
  simp [prodTo, List.getD]

theorem le_root {r q l : Nat} (h1 : r ^ 2 ≤ q) (h2 : q < (r + 1) ^ 2) : l * l ≤ q ↔ l ≤ r := by
  rw [Nat.pow_two] at h1 h2
  constructor
  · intro h
    rcases Nat.lt_or_ge r l with h3 | h3
    · have := Nat.mul_le_mul (show r + 1 ≤ l by omega) (show r + 1 ≤ l by omega)
      omega
    · exact h3
  · intro h
    exact Nat.le_trans (Nat.mul_le_mul h h) h1

theorem holds_root {d s l f y r : Nat} (hd : 1 ≤ d) (hf : 1 ≤ f) (h1 : r ^ 2 ≤ quoN d s f y) (h2 : quoN d s f y < (r + 1) ^ 2) : holdsB d s l f y = decide (l ≤ r) := by
  unfold holdsB
  rw [decide_eq_decide, ← le_root h1 h2]
  unfold quoN
  have hpos : 0 < 400 * d * f * f := Nat.mul_pos (Nat.mul_pos (Nat.mul_pos (by omega) hd) hf) hf
  rw [Nat.le_div_iff_mul_le hpos]
  have : l * l * (400 * d * f * f) = 400 * d * l * l * f * f := by grind
  rw [this]

theorem quoN_bound {d s f y : Nat} (hd : 1 ≤ d) (hf : 1 ≤ f) (hs : s ≤ 100000) (hy : y ≤ 100) : quoN d s f y ≤ 10 ^ 27 := by
  unfold quoN
  have h1 : y * s ≤ 100 * 100000 := Nat.mul_le_mul hy hs
  exact Nat.le_trans (Nat.div_le_self _ _) (by omega)

theorem root_bound {r q : Nat} (h1 : r ^ 2 ≤ q) (h2 : q ≤ 10 ^ 27) : r < 100000000000000 := by
  rcases Nat.lt_or_ge r 100000000000000 with h | h
  · exact h
  · have := Nat.mul_le_mul h h
    rw [Nat.pow_two] at h1
    omega

end Go.Proofs

open Go.RowKit
namespace Go.Proofs
set_option linter.unusedVariables false
set_option linter.unusedSimpArgs false

end Go.Proofs

open Go.RowKit Go.Deep
namespace Go.Proofs
set_option linter.unusedVariables false
set_option linter.unusedSimpArgs false

theorem pk_two {S : Scl} {p : Pk} {nm ng : Nat} (h1 : S.ms.length = nm) (h2 : S.gs.length = ng) : pkOk S p = (decide (0 ≤ p.m ∧ p.m ≤ (nm : Int) - 1) && decide (0 ≤ p.g ∧ p.g ≤ (ng : Int) - 1)) := by
  unfold pkOk
  rw [h1, h2]
  congr 1
  · congr 1; apply propext; omega
  · congr 1; apply propext; omega
theorem fits_len {S : Scl} {P : List Pk} (h : ¬ P.length = S.cs.length) : fitsB S P = false := by
  unfold fitsB; rw [decide_eq_false h, Bool.and_false]
theorem fits_all {S : Scl} {P : List Pk} (h : P.length = S.cs.length) (ha : ∀ i, i < P.length → pkOk S (P.getD i p0) = true) : fitsB S P = true := by
  unfold fitsB; rw [decide_eq_true h, Bool.and_true]; exact allTo_iff.2 ha

set_option maxRecDepth 100000 in
set_option maxHeartbeats 4000000 in
theorem rfits_calls (S : Scl) (P : List Pk) (cv mv gv pv : Value) (w : World) (hS : InS w cv mv gv S) (hP : InP w pv P) (hl : S.ms.length ≤ 1000000000000 ∧ S.gs.length ≤ 1000000000000) :
    Calls Tryd.prog 9 #[.agg #[cv, mv, gv, .int .i64 S.sf, .int .i64 S.ch], pv] w fun e w' => e = .returned (.bool (fitsB S P)) ∧ Below w.heap.size w w' := by
  obtain ⟨R, hR⟩ : ∃ R, fitsB S P = R := ⟨_, rfl⟩
  rw [hR]
  have HRR := Lib.hid hR
  clear hR
  obtain ⟨⟨adc, cc, rfl, rc⟩, ⟨adm, cm, rfl, rm⟩, ⟨adg, cg, rfl, rg⟩⟩ := hS
  obtain ⟨adp, cp, rfl, rp⟩ := hP
  have LC := rc.1
  have LM := rm.1
  have LG := rg.1
  have LP := rp.1
  have LC2 := rc.2.1
  have LM2 := rm.2.1
  have LG2 := rg.2.1
  have LP2 := rp.2.1
  unfold maxLen at LC2 LM2 LG2 LP2
  obtain ⟨nc, hnc⟩ : ∃ n, S.cs.length = n := ⟨_, rfl⟩
  obtain ⟨nm, hnm⟩ : ∃ n, S.ms.length = n := ⟨_, rfl⟩
  obtain ⟨ng, hng⟩ : ∃ n, S.gs.length = n := ⟨_, rfl⟩
  obtain ⟨np, hnp⟩ : ∃ n, P.length = n := ⟨_, rfl⟩
  rw [hnc] at LC ⊢
  rw [hnm] at LM ⊢
  rw [hng] at LG ⊢
  rw [hnp] at LP ⊢
  have HNC := Lib.hid hnc
  have HNM := Lib.hid hnm
  have HNG := Lib.hid hng
  have HNP := Lib.hid hnp
  clear hnc hnm hng hnp
  have kw1 : IntKind.i64.wrap ((nm : Int) - 1) = (nm : Int) - 1 := IntWalk.i64_in _ (by omega)
  have kw2 : IntKind.i64.wrap ((ng : Int) - 1) = (ng : Int) - 1 := IntWalk.i64_in _ (by omega)
  have vs := Vals.newL w (w.heap.size) [.slice adc nc cc, .slice adm nm cm, .slice adg ng cg, .int .i64 S.sf, .int .i64 S.ch] 26 rfl
  have bb := below_alloc w (.cells #[.slice adc nc cc, .slice adm nm cm, .slice adg ng cg, .int .i64 S.sf, .int .i64 S.ch] 26)
  have B := bb
  have bb0 := B
  clear bb
  go_enter Tryd.func9, Tryd.ntmps9
  go_upto_region 1 with (fail)
  generalize (w.alloc (.cells #[.slice adc nc cc, .slice adm nm cm, .slice adg ng cg, .int .i64 S.sf, .int .i64 S.ch] 26)) = w0 at *
  replace rc := rc.mono bb0
  replace rm := rm.mono bb0
  replace rg := rg.mono bb0
  replace rp := rp.mono bb0
  clear bb0
  have cvs0 := vs.cell (i := 0) (by simp)
  have cvs1 := vs.cell (i := 1) (by simp)
  have cvs2 := vs.cell (i := 2) (by simp)
  have cvs3 := vs.cell (i := 3) (by simp)
  have cvs4 := vs.cell (i := 4) (by simp)
  simp only [List.getD_cons_zero, List.getD_cons_succ] at cvs0 cvs1 cvs2 cvs3 cvs4
  have ltvs := vs.lt
  by_cases hlen : np = nc
  · skip
    have HLE := Lib.hid (show P.length = S.cs.length by rw [HNP.out, HNC.out, hlen])
    subst hlen
    go_wp2
    clear cvs0 cvs1 cvs2 cvs3 cvs4 ltvs
    go_loopw [5] (fun iv wr => ∃ i : Nat, iv = .int .i64 (i : Int) ∧ i ≤ np ∧ (∀ j, j < i → pkOk S (P.getD j p0) = true) ∧ Below w.heap.size w wr ∧ Vals wr w.heap.size [.slice adc np cc, .slice adm nm cm, .slice adg ng cg, .int .i64 S.sf, .int .i64 S.ch] ∧ RdP wr adp cp P)
      (fun iv _ => np - (intOf iv).toNat)
    case atStart => exact ⟨0, rfl, Nat.zero_le _, fun j hj => by omega, B, vs, rp⟩
    case round =>
      clear B vs rc rm rg rp
      obtain ⟨i, rfl, hi, hall, B, vs, rp⟩ := hrel
      have cvs0 := vs.cell (i := 0) (by simp)
      have cvs1 := vs.cell (i := 1) (by simp)
      have cvs2 := vs.cell (i := 2) (by simp)
      simp only [List.getD_cons_zero, List.getD_cons_succ] at cvs0 cvs1 cvs2
      have ltvs := vs.lt
      by_cases hlt : i < np
      · have hil : i < P.length := by rw [HNP.out]; exact hlt
        obtain ⟨bz, oz, rfl, ca, cb⟩ := rp.at hil
        obtain ⟨M, hM⟩ : ∃ M, P.getD i p0 = M := ⟨_, rfl⟩
        rw [hM] at ca cb
        obtain ⟨b1, hb1⟩ : ∃ b, decide (0 ≤ M.m ∧ M.m ≤ (nm : Int) - 1) = b := ⟨_, rfl⟩
        obtain ⟨b2, hb2⟩ : ∃ b, decide (0 ≤ M.g ∧ M.g ≤ (ng : Int) - 1) = b := ⟨_, rfl⟩
        have W1 : ∀ w : World, Calls Tryd.prog 19 #[.int .i64 M.m, .int .i64 0, .int .i64 ((nm : Int) - 1)] w fun e w' => e = .returned (.bool b1) ∧ w' = w := fun w => (rin0_calls M.m ((nm : Int) - 1) w).mono (fun e w' h => ⟨by rw [← hb1]; exact h.1, h.2.symm⟩)
        have W2 : ∀ w : World, Calls Tryd.prog 19 #[.int .i64 M.g, .int .i64 0, .int .i64 ((ng : Int) - 1)] w fun e w' => e = .returned (.bool b2) ∧ w' = w := fun w => (rin0_calls M.g ((ng : Int) - 1) w).mono (fun e w' h => ⟨by rw [← hb2]; exact h.1, h.2.symm⟩)
        have hpk : pkOk S (P.getD i p0) = (b1 && b2) := by rw [hM, pk_two HNM.out HNG.out, hb1, hb2]
        have HALL := Lib.hid hall
        have HW1 := Lib.hid W1
        have HW2 := Lib.hid W2
        have HPK := Lib.hid hpk
        clear W1 W2 hb1 hb2 hM hpk hall
        go_upto_region 6 with (fail)
        have hrp := Lib.hid rp
        clear rp
        cases b1
        · go_quiet ((go_at_call 19; with_reducible exact Calls.quiet_of_same (HW1.out _)))
          go_wp2
          go_ret
          exact ⟨by rw [← HRR.out, fits_no hil (by rw [HPK.out]; rfl)]; rfl, below_drewN B nq⟩
        cases b2
        · go_quiet (first | (go_at_call 19; with_reducible exact Calls.quiet_of_same (HW1.out _)) | (go_at_call 19; with_reducible exact Calls.quiet_of_same (HW2.out _)))
          go_wp2
          go_ret
          exact ⟨by rw [← HRR.out, fits_no hil (by rw [HPK.out]; rfl)]; rfl, below_drewN B nq⟩
        · go_quiet (first | (go_at_call 19; with_reducible exact Calls.quiet_of_same (HW1.out _)) | (go_at_call 19; with_reducible exact Calls.quiet_of_same (HW2.out _)))
          go_wp2
          go_roundw
          case rel => exact ⟨i + 1, by go_num, by omega, steps_all (p := fun j => pkOk S (P.getD j p0)) HALL.out (by rw [HPK.out]; rfl), below_drewN B nq, vs, hrp.out⟩
          case measure => simp [intOf]; omega
      · obtain rfl : i = np := by omega
        have HF := Lib.hid (fits_all HLE.out (by rw [HNP.out]; exact hall))
        clear hall
        go_wp2
        go_ret
        exact ⟨by rw [← HRR.out, HF.out]; rfl, B⟩
  · skip
    have HF := Lib.hid (fits_len (S := S) (P := P) (by rw [HNP.out, HNC.out]; exact hlen))
    go_wp2
    go_ret
    exact ⟨by rw [← HRR.out, HF.out]; rfl, B⟩

end Go.Proofs

open Go.RowKit Go.Deep
namespace Go.Proofs
set_option linter.unusedVariables false
set_option linter.unusedSimpArgs false

end Go.Proofs

open Go.RowKit Go.Deep
namespace Go.Proofs
set_option linter.unusedVariables false
set_option linter.unusedSimpArgs false

theorem vpcells {w : World} {b1 bz oz i : Nat} {x0 x1 x2 x3 x4 z0 z1 : Value} (vs : Vals w b1 [x0, x1, x2, x3, x4]) (c : w.cell? ⟨bz, oz + i * 2, none⟩ = some z0 ∧ w.cell? ⟨bz, oz + i * 2 + 1, none⟩ = some z1) :
    w.cell? ⟨b1, 0, none⟩ = some x0 ∧ w.cell? ⟨b1, 1, none⟩ = some x1 ∧ w.cell? ⟨b1, 2, none⟩ = some x2 ∧ w.cell? ⟨b1, 3, none⟩ = some x3 ∧ w.cell? ⟨b1, 4, none⟩ = some x4 ∧ w.cell? ⟨bz, oz + i * 2, none⟩ = some z0 ∧ w.cell? ⟨bz, oz + i * 2 + 1, none⟩ = some z1 := by
  have s0 := vs.cell (i := 0) (by simp)
  have s1 := vs.cell (i := 1) (by simp)
  have s2 := vs.cell (i := 2) (by simp)
  have s3 := vs.cell (i := 3) (by simp)
  have s4 := vs.cell (i := 4) (by simp)
  exact ⟨s0, s1, s2, s3, s4, c.1, c.2⟩

end Go.Proofs

open Go.RowKit Go.Deep
namespace Go.Proofs
set_option linter.unusedVariables false
set_option linter.unusedSimpArgs false

theorem RdM.at2 {w : World} {ad c L} (h : RdM w ad c L) {i : Nat} (hi : i < L.length) {D : Met} (hD : L.getD i m0 = D) {n : Nat} (hn : D.st.length = n) {j : Nat} (hj : j < n) : ∃ b o bs os cs, ad = some ⟨b, o, none⟩ ∧
    w.cell? ⟨b, o + i * 2, none⟩ = some (.int .i64 D.d) ∧ w.cell? ⟨b, o + i * 2 + 1, none⟩ = some (.slice (some ⟨bs, os, none⟩) n cs) ∧ w.cell? ⟨bs, os + j, none⟩ = some (.int .i64 (D.st.getD j 0)) := by
  obtain ⟨b, o, v, rfl, a0, a1, ads, cs, rfl, hz⟩ := h.at hi
  rw [hD] at a0 a1 hz
  obtain ⟨bs, os, rfl, css⟩ := hz.at (i := j) (by omega)
  rw [hn] at a1
  exact ⟨b, o, bs, os, cs, rfl, a0, a1, css j (by omega)⟩
theorem pk_nat {S : Scl} {p : Pk} (h : pkOk S p = true) : ∃ a b : Nat, p = ⟨(a : Int), (b : Int)⟩ ∧ a < S.ms.length ∧ b < S.gs.length := by
  obtain ⟨⟨p1, p2⟩, ⟨p3, p4⟩⟩ := pk_facts h
  refine ⟨p.m.toNat, p.g.toNat, ?_, by omega, by omega⟩
  obtain ⟨m, g⟩ := p
  simp only [Pk.mk.injEq]
  dsimp only at p1 p3
  omega
theorem allowed_split {S : Scl} {P : List Pk} (h : ∀ j, j < P.length → okAt S P j = true) : allowedB S P = decide ((chTo P P.length : Int) ≤ S.ch) := by
  unfold allowedB; rw [allTo_iff.2 h, Bool.true_and]

theorem bel0 (w : World) : Below w.heap.size w w.drew := (Below.refl _ _).drew
theorem bel1 (w : World) (a : Obj) : Below w.heap.size w (w.alloc a).drew := (below_alloc w a).drew
theorem bel2' (w : World) (a b : Obj) : Below w.heap.size w ((w.alloc a).alloc b) := below_trans (below_alloc w a) (below_alloc _ b)
theorem vals_two (w : World) (l1 l2 : List Value) (t1 t2 : Nat) : Vals ((w.alloc (.cells l1.toArray t1)).alloc (.cells l2.toArray t2)).drew w.heap.size l1 ∧ Vals ((w.alloc (.cells l1.toArray t1)).alloc (.cells l2.toArray t2)).drew (w.heap.size + 1) l2 ∧ Below w.heap.size w ((w.alloc (.cells l1.toArray t1)).alloc (.cells l2.toArray t2)).drew :=
  ⟨((Vals.newL w w.heap.size l1 t1 rfl).alloc _).drew, (Vals.newL (w.alloc (.cells l1.toArray t1)) (w.heap.size + 1) l2 t2 (by simp)).drew, (bel2' w _ _).drew⟩
theorem bcells {w : World} {b1 bc bm bz oz i bs os j : Nat} {x0 x1 x2 x3 x4 y0 y1 y2 y3 z0 z1 m0 m1 st : Value} (vs : Vals w b1 [x0, x1, x2, x3, x4]) (vc : Vals w bc [y0, y1, y2, y3]) (vm : Vals w bm [m0, m1]) (cp : w.cell? ⟨bz, oz + i * 2, none⟩ = some z0 ∧ w.cell? ⟨bz, oz + i * 2 + 1, none⟩ = some z1) (cs : w.cell? ⟨bs, os + j, none⟩ = some st) :
    w.cell? ⟨b1, 3, none⟩ = some x3 ∧ w.cell? ⟨bc, 0, none⟩ = some y0 ∧ w.cell? ⟨bc, 1, none⟩ = some y1 ∧ w.cell? ⟨bm, 0, none⟩ = some m0 ∧ w.cell? ⟨bm, 1, none⟩ = some m1 ∧ w.cell? ⟨bz, oz + i * 2 + 1, none⟩ = some z1 ∧ w.cell? ⟨bs, os + j, none⟩ = some st := by
  have s3 := vs.cell (i := 3) (by simp)
  have c0 := vc.cell (i := 0) (by simp)
  have c1 := vc.cell (i := 1) (by simp)
  have d0 := vm.cell (i := 0) (by simp)
  have d1 := vm.cell (i := 1) (by simp)
  exact ⟨s3, c0, c1, d0, d1, cp.2, cs⟩
theorem bel2 (w : World) (a b : Obj) : Below w.heap.size w ((w.alloc a).alloc b).drew := (bel2' w a b).drew

theorem acells {w : World} {b1 bc oc bz oz bm om i a : Nat} {x0 x1 x2 x3 x4 y0 y1 y2 y3 z0 z1 m0 m1 : Value} (vs : Vals w b1 [x0, x1, x2, x3, x4]) (hc : w.cell? ⟨bc, oc + i * 4, none⟩ = some y0 ∧ w.cell? ⟨bc, oc + i * 4 + 1, none⟩ = some y1 ∧ w.cell? ⟨bc, oc + i * 4 + 2, none⟩ = some y2 ∧ w.cell? ⟨bc, oc + i * 4 + 3, none⟩ = some y3)
    (ca : w.cell? ⟨bz, oz + i * 2, none⟩ = some z0) (cb : w.cell? ⟨bz, oz + i * 2 + 1, none⟩ = some z1) (cm : w.cell? ⟨bm, om + a * 2, none⟩ = some m0) (cn : w.cell? ⟨bm, om + a * 2 + 1, none⟩ = some m1) :
    w.cell? ⟨b1, 0, none⟩ = some x0 ∧ w.cell? ⟨b1, 1, none⟩ = some x1 ∧ w.cell? ⟨bc, oc + i * 4, none⟩ = some y0 ∧ w.cell? ⟨bc, oc + i * 4 + 1, none⟩ = some y1 ∧ w.cell? ⟨bc, oc + i * 4 + 2, none⟩ = some y2 ∧ w.cell? ⟨bc, oc + i * 4 + 3, none⟩ = some y3 ∧
    w.cell? ⟨bz, oz + i * 2, none⟩ = some z0 ∧ w.cell? ⟨bz, oz + i * 2 + 1, none⟩ = some z1 ∧ w.cell? ⟨bm, om + a * 2, none⟩ = some m0 ∧ w.cell? ⟨bm, om + a * 2 + 1, none⟩ = some m1 := by
  have s0 := vs.cell (i := 0) (by simp)
  have s1 := vs.cell (i := 1) (by simp)
  exact ⟨s0, s1, hc.1, hc.2.1, hc.2.2.1, hc.2.2.2, ca, cb, cm, cn⟩
end Go.Proofs

open Go.RowKit Go.Deep
namespace Go.Proofs
set_option linter.unusedVariables false
set_option linter.unusedSimpArgs false

theorem ccells {w : World} {b1 bz oz bk ok i : Nat} {x0 x1 x2 x3 x4 z0 z1 y0 y1 y2 y3 : Value} (vs : Vals w b1 [x0, x1, x2, x3, x4]) (c : w.cell? ⟨bz, oz + i * 2, none⟩ = some z0 ∧ w.cell? ⟨bz, oz + i * 2 + 1, none⟩ = some z1)
    (hc : w.cell? ⟨bk, ok + i * 4, none⟩ = some y0 ∧ w.cell? ⟨bk, ok + i * 4 + 1, none⟩ = some y1 ∧ w.cell? ⟨bk, ok + i * 4 + 2, none⟩ = some y2 ∧ w.cell? ⟨bk, ok + i * 4 + 3, none⟩ = some y3) :
    w.cell? ⟨b1, 0, none⟩ = some x0 ∧ w.cell? ⟨b1, 1, none⟩ = some x1 ∧ w.cell? ⟨b1, 2, none⟩ = some x2 ∧ w.cell? ⟨b1, 3, none⟩ = some x3 ∧ w.cell? ⟨b1, 4, none⟩ = some x4 ∧ w.cell? ⟨bz, oz + i * 2, none⟩ = some z0 ∧ w.cell? ⟨bz, oz + i * 2 + 1, none⟩ = some z1 ∧ w.cell? ⟨bk, ok + i * 4 + 2, none⟩ = some y2 := by
  have s0 := vs.cell (i := 0) (by simp)
  have s1 := vs.cell (i := 1) (by simp)
  have s2 := vs.cell (i := 2) (by simp)
  have s3 := vs.cell (i := 3) (by simp)
  have s4 := vs.cell (i := 4) (by simp)
  exact ⟨s0, s1, s2, s3, s4, c.1, c.2, hc.2.2.1⟩

end Go.Proofs
