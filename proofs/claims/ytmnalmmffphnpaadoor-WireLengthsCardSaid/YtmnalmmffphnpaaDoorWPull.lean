/- wire.Pull: the sum of all tensions. -/
import Derived.Test.YtmnalmmffphnpaaDoorWPrice
open Go.RowKit Go.Deep
namespace Go.Proofs
set_option linter.unusedVariables false
set_option linter.unusedSimpArgs false

def pullTo (S : Scl) (P : List Pk) : Nat → Nat
  | 0 => 0
  | n + 1 => pullTo S P n + tightN S (S.cs.getD n c0) (P.getD n p0)
theorem fits_parts {S : Scl} {P : List Pk} (h : fitsB S P = true) : P.length = S.cs.length ∧ ∀ i, i < P.length → pkOk S (P.getD i p0) = true := by
  unfold fitsB at h
  simp only [Bool.and_eq_true, decide_eq_true_eq] at h
  exact ⟨h.2, allTo_iff.1 h.1⟩
theorem pullTo_le {S : Scl} {P : List Pk} (hs : sclOk S = true) (hf : fitsB S P = true) : ∀ n, n ≤ P.length → pullTo S P n ≤ 4000000000000 * n
  | 0, _ => by simp [pullTo]
  | n + 1, h => by
    obtain ⟨h1, h2⟩ := fits_parts hf
    have := pullTo_le hs hf n (by omega)
    have := tightN_le hs (sclOk_c hs (i := n) (by omega)) (h2 n (by omega))
    simp only [pullTo]
    omega
theorem ucells {w : World} {b1 b2 bc oc i : Nat} {x0 x1 x2 x3 x4 y0 y1 y2 y3 z0 z1 : Value} (vs : Vals w b1 [x0, x1, x2, x3, x4]) (hc : w.cell? ⟨bc, oc + i * 4, none⟩ = some y0 ∧ w.cell? ⟨bc, oc + i * 4 + 1, none⟩ = some y1 ∧ w.cell? ⟨bc, oc + i * 4 + 2, none⟩ = some y2 ∧ w.cell? ⟨bc, oc + i * 4 + 3, none⟩ = some y3) (vp : Vals w b2 [z0, z1]) :
    w.cell? ⟨b1, 0, none⟩ = some x0 ∧ w.cell? ⟨b1, 1, none⟩ = some x1 ∧ w.cell? ⟨b1, 2, none⟩ = some x2 ∧ w.cell? ⟨b1, 3, none⟩ = some x3 ∧ w.cell? ⟨b1, 4, none⟩ = some x4 ∧
    w.cell? ⟨bc, oc + i * 4, none⟩ = some y0 ∧ w.cell? ⟨bc, oc + i * 4 + 1, none⟩ = some y1 ∧ w.cell? ⟨bc, oc + i * 4 + 2, none⟩ = some y2 ∧ w.cell? ⟨bc, oc + i * 4 + 3, none⟩ = some y3 ∧ w.cell? ⟨b2, 0, none⟩ = some z0 ∧ w.cell? ⟨b2, 1, none⟩ = some z1 := by
  have s0 := vs.cell (i := 0) (by simp)
  have s1 := vs.cell (i := 1) (by simp)
  have s2 := vs.cell (i := 2) (by simp)
  have s3 := vs.cell (i := 3) (by simp)
  have s4 := vs.cell (i := 4) (by simp)
  have p0 := vp.cell (i := 0) (by simp)
  have p1 := vp.cell (i := 1) (by simp)
  exact ⟨s0, s1, s2, s3, s4, hc.1, hc.2.1, hc.2.2.1, hc.2.2.2, p0, p1⟩
theorem RdC.at2 {w : World} {b o c L} (h : RdC w (some ⟨b, o, none⟩) c L) {i : Nat} (hi : i < L.length) {C : Crs} (hC : L.getD i c0 = C) :
    w.cell? ⟨b, o + i * 4, none⟩ = some (.int .i64 C.l) ∧ w.cell? ⟨b, o + i * 4 + 1, none⟩ = some (.int .i64 C.f) ∧ w.cell? ⟨b, o + i * 4 + 2, none⟩ = some (.int .i64 C.t) ∧ w.cell? ⟨b, o + i * 4 + 3, none⟩ = some (.int .i64 C.w) := by
  obtain ⟨b', o', e, k⟩ := h.at hi
  cases e
  rw [hC] at k
  exact k
theorem RdC.drew {w : World} {ad c L} (h : RdC w ad c L) : RdC w.drew ad c L := h
theorem RdM.drew {w : World} {ad c L} (h : RdM w ad c L) : RdM w.drew ad c L := h
theorem RdZ.drew {w : World} {ad c L} (h : RdZ w ad c L) : RdZ w.drew ad c L := h
theorem RdP.drew {w : World} {ad c L} (h : RdP w ad c L) : RdP w.drew ad c L := h

end Go.Proofs
