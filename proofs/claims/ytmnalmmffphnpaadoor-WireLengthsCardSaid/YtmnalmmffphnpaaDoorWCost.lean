/- wire.Cost: what picks cost, if they are allowed. -/
import Derived.Test.YtmnalmmffphnpaaDoorWPull
import Derived.Deep.Cut
open Go.RowKit Go.Deep
namespace Go.Proofs
set_option linter.unusedVariables false
set_option linter.unusedSimpArgs false

def samePk (a b : Pk) : Bool := decide (a.m = b.m) && decide (a.g = b.g)
def monoAt (P : List Pk) (i : Nat) : Bool := decide (i = 0) || (decide ((P.getD (i - 1) p0).m ≤ (P.getD i p0).m) && decide ((P.getD (i - 1) p0).g ≤ (P.getD i p0).g))
def okAt (S : Scl) (P : List Pk) (i : Nat) : Bool := monoAt P i && strongB S (S.cs.getD i c0) (P.getD i p0)
def chTo (P : List Pk) : Nat → Nat
  | 0 => 0
  | n + 1 => chTo P n + (if n = 0 then 0 else if samePk (P.getD n p0) (P.getD (n - 1) p0) then 0 else 1)
theorem chTo_le (P : List Pk) : ∀ n, chTo P n ≤ n
  | 0 => Nat.le_refl _
  | n + 1 => by
    have := chTo_le P n
    simp only [chTo]
    split <;> (try split) <;> omega
def costTo (S : Scl) (P : List Pk) : Nat → Nat
  | 0 => 0
  | n + 1 => costTo S P n + priceN S (S.cs.getD n c0) (P.getD n p0)
def allowedB (S : Scl) (P : List Pk) : Bool := allTo (okAt S P) P.length && decide ((chTo P P.length : Int) ≤ S.ch)
theorem priceN_le {S : Scl} {c : Crs} {p : Pk} (hs : sclOk S = true) (hc : crsOk c = true) (hp : pkOk S p = true) : priceN S c p ≤ 4000000000000000 := by
  have tl := tightN_le hs hc hp
  obtain ⟨c1, c2, c3, c4⟩ := crs_facts hc
  unfold priceN
  have : c.w.toNat * ((tightN S c p : Int) - c.t).natAbs ≤ 1000 * 4000000000000 := Nat.mul_le_mul (by omega) (by omega)
  omega
theorem costTo_le {S : Scl} {P : List Pk} (hs : sclOk S = true) (hf : fitsB S P = true) : ∀ n, n ≤ P.length → costTo S P n ≤ 4000000000000000 * n
  | 0, _ => by simp [costTo]
  | n + 1, h => by
    obtain ⟨h1, h2⟩ := fits_parts hf
    have := costTo_le hs hf n (by omega)
    have := priceN_le hs (sclOk_c hs (i := n) (by omega)) (h2 n (by omega))
    simp only [costTo]
    omega
theorem allowed_no {S : Scl} {P : List Pk} {i : Nat} (hi : i < P.length) (h : okAt S P i = false) : allowedB S P = false := by
  unfold allowedB; rw [allTo_false hi h]; rfl
theorem RdP.at2 {w : World} {b o c L} (h : RdP w (some ⟨b, o, none⟩) c L) {i : Nat} (hi : i < L.length) {C : Pk} (hC : L.getD i p0 = C) :
    w.cell? ⟨b, o + i * 2, none⟩ = some (.int .i64 C.m) ∧ w.cell? ⟨b, o + i * 2 + 1, none⟩ = some (.int .i64 C.g) := by
  obtain ⟨b', o', e, k⟩ := h.at hi
  cases e
  rw [hC] at k
  exact k
theorem run_neq_pk (a b c d : Int) (w : World) : (binOp .neq 56 (.agg #[.int .i64 a, .int .i64 b]) (.agg #[.int .i64 c, .int .i64 d])).run Tryd.prog w = .ok (.bool (!(decide (a = c) && decide (b = d)))) w := by
  rw [run_neq_struct, show (10000 : Nat) = 9999 + 1 from rfl, run_equalIn_agg w 9999 56 _ _ (by kernel_rfl) (by kernel_rfl)]
  by_cases h1 : a = c
  · subst h1
    by_cases h2 : b = d
    · subst h2; go_simp
    · go_simp
  · go_simp

end Go.Proofs
