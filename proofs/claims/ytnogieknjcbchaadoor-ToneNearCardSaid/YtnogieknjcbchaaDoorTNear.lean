/- The law's farther; what is known of each fraction of Divisions. -/
import Derived.Test.YtnogieknjcbchaaDoorTDivR
import Derived.Test.YtnogieknjcbchaaDoorTFracs
import Derived.Test.YtnogieknjcbchaaDoorTRefL
open Go.RowKit Go.Deep
namespace Go.Proofs
set_option linter.unusedVariables false
set_option linter.unusedSimpArgs false

theorem and_31 (z : Int) (z0 : -9223372036854775808 ≤ z) (z1 : z < 9223372036854775808) : ∃ k : Nat, k < 32 ∧ bits BinOp.and IntKind.i64 z 31 = (k : Int) := by
  refine ⟨(BitVec.ofInt 64 z).toNat &&& 31, Nat.lt_of_le_of_lt Nat.and_le_right (by omega), ?_⟩
  have hlt : (BitVec.ofInt 64 z).toNat &&& 31 < 32 := Nat.lt_of_le_of_lt Nat.and_le_right (by omega)
  have e : (BitVec.ofInt 64 z &&& BitVec.ofInt 64 31).toNat = (BitVec.ofInt 64 z).toNat &&& 31 := by
    rw [BitVec.toNat_and]
    rfl
  show IntKind.i64.wrap ((BitVec.ofInt 64 z &&& BitVec.ofInt 64 31).toNat : Int) = _
  rw [e, IntKind.wrap_i64]
  omega

/-- what is known of the fraction with a number -/
theorem near_facts {s : T4} {m : Int} {full L0 : List (Int × Int)} (hd : 1 ≤ s.d) (hE : octT s ≤ 80) (hm : 1 ≤ m ∧ m ≤ 32) (h01 : 0 < lg s 0 1) (hf : full = (octT s, 1) :: L0) (hL : Chain s m 1 0 (octT s) 1 (-1) L0)
    (i : Nat) (hi : i < full.length) (x y : Int) (hx : (full.getD i (0, 0)).1 = x) (hy : (full.getD i (0, 0)).2 = y) :
    1 ≤ y ∧ y ≤ m ∧ 0 ≤ x ∧ x ≤ 81 * y ∧ (i = 0 → y = 1) ∧
    (∀ j, i = j + 1 → ∃ x' y' : Int, (full.getD j (0, 0)).1 = x' ∧ (full.getD j (0, 0)).2 = y' ∧ 1 ≤ y' ∧ y' ≤ m ∧ 0 ≤ x' ∧ x' ≤ 81 * y' ∧ (x * y' - x' * y = 1 ∨ x * y' - x' * y = -1) ∧ ¬ 0 < lg s x' y' * lg s x y ∧
      ∀ p q : Int, 1 ≤ q → q ≤ y → (x * q < p * y → lg s (p * y + x * q) (2 * q * y) < 0) ∧ (p * y < x * q → 0 < lg s (p * y + x * q) (2 * q * y))) := by
  have h0 : 0 ≤ octT s := (oct_lg hd 0).2 (by omega)
  have links := chain_links hL (dinv_first hd hm.1 h01)
  rw [← hf] at links
  have bnd : ∀ j, j < full.length → 1 ≤ (full.getD j (0, 0)).2 ∧ (full.getD j (0, 0)).2 ≤ m ∧ 0 ≤ (full.getD j (0, 0)).1 ∧ (full.getD j (0, 0)).1 ≤ 81 * (full.getD j (0, 0)).2 := by
    intro j hj
    cases j with
    | zero =>
      rw [hf, List.getD_cons_zero]
      dsimp only
      omega
    | succ j =>
      obtain ⟨⟨σ, hl⟩, h1, h2, h3⟩ := links j hj
      have hq := hl.hq2
      have h4 : (octT s + 1) * (full.getD (j + 1) (0, 0)).2 ≤ 81 * (full.getD (j + 1) (0, 0)).2 := Int.mul_le_mul_of_nonneg_right (by omega) (by omega)
      exact ⟨hq, h1, h2, by omega⟩
  have bi := bnd i hi
  rw [hx, hy] at bi
  refine ⟨bi.1, bi.2.1, bi.2.2.1, bi.2.2.2, fun h => ?_, fun j hj => ?_⟩
  · subst h
    rw [hf, List.getD_cons_zero] at hy
    exact hy.symm
  · subst hj
    obtain ⟨⟨σ, hl⟩, h1, h2, h3⟩ := links j hi
    have bj := bnd j (by omega)
    rw [hx, hy] at hl
    refine ⟨_, _, rfl, rfl, bj.1, bj.2.1, bj.2.2.1, bj.2.2.2, ?_, link_signs hl, fun p q hq1 hq2 => link_far hl ⟨hq1, hq2⟩⟩
    have hdet := hl.det
    rcases hl.sign with h | h
    · right; omega
    · left; omega

theorem RdF.some {w : World} {ad : Option Addr} {L : List (Int × Int)} (h : RdF w ad L) (hl : 0 < L.length) : ∃ g, ad = Option.some ⟨g, 0, none⟩ := by
  rcases h with ⟨_, h0⟩ | ⟨g, h1, _⟩
  · rw [h0] at hl; exact absurd hl (by simp)
  · exact ⟨g, h1⟩
theorem RdF.at {w : World} {g : Nat} {L : List (Int × Int)} (h : RdF w (Option.some ⟨g, 0, none⟩) L) (i : Nat) (hi : i < L.length) : w.cell? ⟨g, i * 2, none⟩ = Option.some (.int .i64 (L.getD i (0, 0)).1) ∧ w.cell? ⟨g, i * 2 + 1, none⟩ = Option.some (.int .i64 (L.getD i (0, 0)).2) := by
  rcases h with ⟨h0, _⟩ | ⟨g', h1, k⟩
  · cases h0
  · cases h1
    rw [Nat.mul_comm]
    exact k i hi

theorem RdF.at2 {w : World} {g i : Nat} {L : List (Int × Int)} {x y : Int} (h : RdF w (Option.some ⟨g, 0, none⟩) L) (hi : i < L.length) (hx : (L.getD i (0, 0)).1 = x) (hy : (L.getD i (0, 0)).2 = y) : w.cell? ⟨g, i * 2, none⟩ = Option.some (.int .i64 x) ∧ w.cell? ⟨g, i * 2 + 1, none⟩ = Option.some (.int .i64 y) := by
  have := h.at i hi
  rw [hx, hy] at this
  exact this
theorem near_cells {w : World} {b g c i : Nat} {v0 v1 v2 v3 x y x' y' : Value} (vs : Vals w b [v0, v1, v2, v3]) (hj : w.cell? ⟨g, i * 2, none⟩ = Option.some x' ∧ w.cell? ⟨g, i * 2 + 1, none⟩ = Option.some y') (vc : Vals w c [x, y]) :
    w.cell? ⟨b, 0, none⟩ = Option.some v0 ∧ w.cell? ⟨b, 1, none⟩ = Option.some v1 ∧ w.cell? ⟨b, 2, none⟩ = Option.some v2 ∧ w.cell? ⟨b, 3, none⟩ = Option.some v3 ∧ w.cell? ⟨g, i * 2, none⟩ = Option.some x' ∧ w.cell? ⟨g, i * 2 + 1, none⟩ = Option.some y' ∧ w.cell? ⟨c, 0, none⟩ = Option.some x ∧ w.cell? ⟨c, 1, none⟩ = Option.some y := by
  obtain ⟨a0, a1, a2, a3⟩ := vals4 vs
  have c0 := vc.cell (i := 0) (by simp)
  have c1 := vc.cell (i := 1) (by simp)
  exact ⟨a0, a1, a2, a3, hj.1, hj.2, c0, c1⟩
theorem RdF.drewmono {w w' : World} {ad : Option Addr} {L : List (Int × Int)} (h : RdF w ad L) (hb : Below w.drew.heap.size w.drew w') : RdF w' ad L := RdF.mono (w := w.drew) h hb
theorem RdF.drewN {w : World} {ad : Option Addr} {L : List (Int × Int)} (h : RdF w ad L) (n : Nat) : RdF (w.drewN n) ad L := h
theorem near_mul {a b : Int} {m n : Nat} (ha : a.natAbs ≤ m) (hb : b.natAbs ≤ n) : (a * b).natAbs ≤ m * n := by
  rw [Int.natAbs_mul]; exact Nat.mul_le_mul ha hb

set_option maxRecDepth 100000 in
set_option maxHeartbeats 1000000 in
theorem farther_calls (s : T4) (p q x y : Int) (w : World) (hs : validB s.a s.b s.c s.d = true) (hp : p.natAbs ≤ 3000) (hq : 1 ≤ q ∧ q ≤ 32) (hx : 0 ≤ x ∧ x ≤ 81 * y) (hy : 1 ≤ y ∧ y ≤ 32) (hE : s.a.natAbs ≤ 16 ∧ s.b.natAbs ≤ 16 ∧ s.c.natAbs ≤ 16)
    (hne : p * y ≠ x * q) (h1 : x * q < p * y → lg s (p * y + x * q) (2 * q * y) < 0) (h2 : p * y < x * q → 0 < lg s (p * y + x * q) (2 * q * y)) :
    Calls Tryd.prog 21 #[.agg #[.int .i64 s.a, .int .i64 s.b, .int .i64 s.c, .int .i64 s.d], .agg #[.int .i64 p, .int .i64 q], .agg #[.int .i64 x, .int .i64 y]] w fun e w' => e = .returned (.bool true) ∧ Below w.heap.size w w' := by
  have e1 : (p * y).natAbs ≤ 3000 * 32 := near_mul hp (by omega)
  have e2 : (x * q).natAbs ≤ 2592 * 32 := near_mul (by omega) (by omega)
  have e3 : (2 * q * y).natAbs ≤ 64 * 32 := near_mul (by omega) (by omega)
  have u1 : (s.a * (2 * q * y)).natAbs ≤ 16 * (64 * 32) := near_mul hE.1 e3
  have u2 : (s.b * (2 * q * y)).natAbs ≤ 16 * (64 * 32) := near_mul hE.2.1 e3
  have u3 : (s.c * (2 * q * y)).natAbs ≤ 16 * (64 * 32) := near_mul hE.2.2 e3
  have LG := fun w : World => rlog_gen s (p * y + x * q) (2 * q * y) _ w hs (by omega) (by omega) (by omega) (by omega) (logI_lg s _ _)
  generalize lg s (p * y + x * q) (2 * q * y) = v at *
  have k1 : wrap64 (p * y) = p * y := wrap64_small (by omega)
  have k2 : wrap64 (x * q) = x * q := wrap64_small (by omega)
  have k3 : wrap64 (2 * q) = 2 * q := wrap64_small (by omega)
  have k4 : wrap64 (p * y + x * q) = p * y + x * q := wrap64_small (by omega)
  have k5 : wrap64 (2 * q * y) = 2 * q * y := wrap64_small (by omega)
  have K1 := Lib.hid k1
  have K2 := Lib.hid k2
  have K3 := Lib.hid k3
  have K4 := Lib.hid k4
  have K5 := Lib.hid k5
  have HLG := Lib.hid LG
  clear LG hs hp hq hx hy hE e1 e2 e3 u1 u2 u3 k1 k2 k3 k4 k5
  have vs := Vals.newL w (w.heap.size) [.int .i64 s.a, .int .i64 s.b, .int .i64 s.c, .int .i64 s.d] 23 rfl
  have bb := below_alloc w (.cells #[.int .i64 s.a, .int .i64 s.b, .int .i64 s.c, .int .i64 s.d] 23)
  have B := bb
  have sz0 := World.size_alloc w (.cells #[.int .i64 s.a, .int .i64 s.b, .int .i64 s.c, .int .i64 s.d] 23)
  have sz := sz0
  clear sz0
  clear bb
  have vp := Vals.newL (w.alloc (.cells #[.int .i64 s.a, .int .i64 s.b, .int .i64 s.c, .int .i64 s.d] 23)) (w.heap.size + 1) [.int .i64 p, .int .i64 q] 29 sz.symm
  have bb := below_alloc (w.alloc (.cells #[.int .i64 s.a, .int .i64 s.b, .int .i64 s.c, .int .i64 s.d] 23)) (.cells #[.int .i64 p, .int .i64 q] 29)
  replace vs := vs.mono bb
  replace B := below_trans B bb
  clear bb
  have sz1 := World.size_alloc (w.alloc (.cells #[.int .i64 s.a, .int .i64 s.b, .int .i64 s.c, .int .i64 s.d] 23)) (.cells #[.int .i64 p, .int .i64 q] 29)
  rw [sz] at sz1
  clear sz
  have sz := sz1
  clear sz1
  have vc := Vals.newL ((w.alloc (.cells #[.int .i64 s.a, .int .i64 s.b, .int .i64 s.c, .int .i64 s.d] 23)).alloc (.cells #[.int .i64 p, .int .i64 q] 29)) (w.heap.size + 1 + 1) [.int .i64 x, .int .i64 y] 29 sz.symm
  have bb := below_alloc ((w.alloc (.cells #[.int .i64 s.a, .int .i64 s.b, .int .i64 s.c, .int .i64 s.d] 23)).alloc (.cells #[.int .i64 p, .int .i64 q] 29)) (.cells #[.int .i64 x, .int .i64 y] 29)
  replace vs := vs.mono bb
  replace vp := vp.mono bb
  replace B := below_trans B bb
  clear sz
  clear bb
  go_enter Tryd.func21, Tryd.ntmps21
  go_wp2_with fail
  generalize (((w.alloc (.cells #[.int .i64 s.a, .int .i64 s.b, .int .i64 s.c, .int .i64 s.d] 23)).alloc (.cells #[.int .i64 p, .int .i64 q] 29)).alloc (.cells #[.int .i64 x, .int .i64 y] 29)) = w0 at *
  have cvp0 := vp.cell (i := 0) (by simp)
  have cvp1 := vp.cell (i := 1) (by simp)
  simp only [List.getD_cons_zero, List.getD_cons_succ] at cvp0 cvp1
  have ltvp := vp.lt
  have cvc0 := vc.cell (i := 0) (by simp)
  have cvc1 := vc.cell (i := 1) (by simp)
  simp only [List.getD_cons_zero, List.getD_cons_succ] at cvc0 cvc1
  have ltvc := vc.lt
  have cvs0 := vs.cell (i := 0) (by simp)
  have cvs1 := vs.cell (i := 1) (by simp)
  have cvs2 := vs.cell (i := 2) (by simp)
  have cvs3 := vs.cell (i := 3) (by simp)
  simp only [List.getD_cons_zero, List.getD_cons_succ] at cvs0 cvs1 cvs2 cvs3
  have ltvs := vs.lt
  go_wp2_with fail
  clear cvp0 cvp1 ltvp cvc0 cvc1 ltvc cvs0 cvs1 cvs2 cvs3 ltvs
  rw [K1.out, K2.out, K3.out, K4.out, K5.out]
  clear K3 K4 K5
  refine (HLG.out _).mono ?_
  rintro e w1 ⟨rfl, b1⟩
  replace vs := vs.mono b1
  replace vp := vp.mono b1
  replace vc := vc.mono b1
  replace B := below_trans B b1
  clear b1
  clear HLG
  generalize p * y = P at *
  generalize x * q = X at *
  rcases Int.lt_or_gt_of_ne hne with h | h
  · have hv := h2 h
    have t1 : ¬ X < P := by omega
    clear h1 h2 hne h
    go_wp2
    go_ret
    exact ⟨rfl, B⟩
  · have hv := h1 h
    clear h1 h2 hne
    go_wp2
    go_ret
    exact ⟨rfl, B⟩

end Go.Proofs
