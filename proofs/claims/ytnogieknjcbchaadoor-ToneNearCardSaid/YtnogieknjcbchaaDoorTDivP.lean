/- tone: Divisions. -/
import Derived.Test.YtnogieknjcbchaaDoorTDivC
import Derived.Test.YtnogieknjcbchaaDoorFracs
import Derived.Test.YtnogieknjcbchaaDoorTFrac
import Derived.Deep.Cut
import Derived.Deep.RegionHeld3
open Go.RowKit Go.Deep
namespace Go.Proofs
set_option linter.unusedVariables false
set_option linter.unusedSimpArgs false

theorem cmp_one (s : T4) : cmpT s ⟨0, 0, 0, 1⟩ = lg s 0 1 := by
  unfold cmpT lg dif hidT
  congr 1
  congr 1 <;> dsimp only <;> omega

/-- two blocks are laid, in whatever order their turn comes -/
theorem two_blocks (w : World) (x y : List Value) (e : TypeId) :
    Vals ((w.alloc (.cells x.toArray e)).alloc (.cells y.toArray e)).drew w.heap.size x ∧ Vals ((w.alloc (.cells x.toArray e)).alloc (.cells y.toArray e)).drew (w.heap.size + 1) y ∧
      Below w.heap.size w ((w.alloc (.cells x.toArray e)).alloc (.cells y.toArray e)).drew := by
  have b1 := below_alloc w (.cells x.toArray e)
  have b2 := below_alloc (w.alloc (.cells x.toArray e)) (.cells y.toArray e)
  have v1 := (Vals.newL w w.heap.size x e rfl).mono b2
  have v2 := Vals.newL (w.alloc (.cells x.toArray e)) (w.heap.size + 1) y e (World.size_alloc w _).symm
  exact ⟨v1.drew, v2.drew, (below_trans b1 b2).drew⟩

theorem Vals.off3 {w : World} {b g : Nat} {vs : List Value} (h : Vals w b vs) (hg : g ≠ b) (x y z : Value) : Vals (((w.setCell ⟨g, 0, none⟩ x).setCell ⟨g, 1, none⟩ y).setCell ⟨g, 2, none⟩ z) b vs :=
  ((h.other ⟨g, 0, none⟩ hg x).other ⟨g, 1, none⟩ hg y).other ⟨g, 2, none⟩ hg z
theorem OwnF.off3 {w : World} {B g : Nat} {v L} (h : OwnF w B v L) (hg : g < B) (x y z : Value) : OwnF (((w.setCell ⟨g, 0, none⟩ x).setCell ⟨g, 1, none⟩ y).setCell ⟨g, 2, none⟩ z) B v L :=
  ((h.other ⟨g, 0, none⟩ hg x).other ⟨g, 1, none⟩ hg y).other ⟨g, 2, none⟩ hg z
theorem OwnF.off2 {w : World} {B g : Nat} {v L} (h : OwnF w B v L) (hg : g < B) (x y : Value) : OwnF ((w.setCell ⟨g, 0, none⟩ x).setCell ⟨g, 1, none⟩ y) B v L :=
  (h.other ⟨g, 0, none⟩ hg x).other ⟨g, 1, none⟩ hg y

theorem step_sg {s : T4} {p0 q0 p1 q1 σ u1 u2 u3 v1 v2 v3 : Int} (hu : hidT s (σ * p0) (σ * q0) = ⟨u1, u2, u3⟩) (hv : hidT s (-σ * p1) (-σ * q1) = ⟨v1, v2, v3⟩) (k : Int) :
    (⟨v1 * -k + u1, v2 * -k + u2, v3 * -k + u3⟩ : H3) = hidT s (σ * (p0 + k * p1)) (σ * (q0 + k * q1)) := by
  rw [← hid_step, hu, hv]
  unfold H3.add H3.mul
  congr 1 <;> dsimp only <;> grind
theorem mul_bound {x y : Int} {m n : Nat} (hx : x.natAbs ≤ m) (hy : y.natAbs ≤ n) : (x * y).natAbs ≤ m * n := by
  rw [Int.natAbs_mul]; exact Nat.mul_le_mul hx hy
theorem hid_bound {s : T4} {P Q u1 u2 u3 : Int} (h : hidT s P Q = ⟨u1, u2, u3⟩) (hE : s.a.natAbs ≤ 24 ∧ s.b.natAbs ≤ 24 ∧ s.c.natAbs ≤ 24) (hd : s.d.natAbs ≤ 24) (hP : P.natAbs ≤ 24000) (hQ : Q.natAbs ≤ 200) :
    u1.natAbs ≤ 1000000 ∧ u2.natAbs ≤ 1000000 ∧ u3.natAbs ≤ 1000000 := by
  unfold hidT at h
  injection h with h1 h2 h3
  have m1 := mul_bound hQ hE.1
  have m2 := mul_bound hP hd
  have m3 := mul_bound hQ hE.2.1
  have m4 := mul_bound hQ hE.2.2
  omega
theorem sgn_bound {σ x : Int} {m : Nat} (hσ : σ = 1 ∨ σ = -1) (hx : 0 ≤ x ∧ x ≤ m) : (σ * x).natAbs ≤ m ∧ (-σ * x).natAbs ≤ m := by
  rcases hσ with rfl | rfl <;> omega
theorem lg_sgn {s : T4} {σ p q : Int} (hσ : σ = 1 ∨ σ = -1) : lg s (σ * p) (σ * q) = 0 ↔ lg s p q = 0 := by
  rcases hσ with rfl | rfl
  · rw [Int.one_mul, Int.one_mul]
  · rw [show -1 * p = -p by omega, show -1 * q = -q by omega, lg_neg]; omega

/-- what a round of the search knows of its numbers -/
theorem round_facts {s : T4} {m : Int} {full pre L0 : List (Int × Int)} {p0 q0 p1 q1 σ u1 u2 u3 v1 v2 v3 : Int} (hd : 1 ≤ s.d ∧ s.d ≤ 24) (hE : s.a.natAbs ≤ 24 ∧ s.b.natAbs ≤ 24 ∧ s.c.natAbs ≤ 24) (h01 : 0 < lg s 0 1) (hm : 1 ≤ m ∧ m ≤ 64)
    (hf : full = (octT s, 1) :: L0) (hL : Chain s m 1 0 (octT s) 1 (-1) L0) (hst : DSt s m full p0 q0 p1 q1 σ pre)
    (hu : hidT s (σ * p0) (σ * q0) = ⟨u1, u2, u3⟩) (hv : hidT s (-σ * p1) (-σ * q1) = ⟨v1, v2, v3⟩) :
    ∃ (lim n : Nat) (X Y r1 r2 r3 : Int), dlim m q0 q1 pre = lim ∧ lim ≤ 7680 ∧ n ≤ lim ∧ (u1.natAbs ≤ 1000000 ∧ u2.natAbs ≤ 1000000 ∧ u3.natAbs ≤ 1000000) ∧ (v1.natAbs ≤ 1000000 ∧ v2.natAbs ≤ 1000000 ∧ v3.natAbs ≤ 1000000) ∧
      (∀ i : Nat, i ≤ lim → (v1 * -(i : Int) + u1).natAbs ≤ 1200000 ∧ (v2 * -(i : Int) + u2).natAbs ≤ 1200000 ∧ (v3 * -(i : Int) + u3).natAbs ≤ 1200000) ∧
      (∀ i : Nat, i ≤ lim → (0 ≤ sg ⟨v1 * -(i : Int) + u1, v2 * -(i : Int) + u2, v3 * -(i : Int) + u3⟩ ↔ i ≤ n)) ∧
      wrap64 (wrap64 ((n : Int) * p1) + p0) = X ∧ wrap64 (wrap64 ((n : Int) * q1) + q0) = Y ∧ 0 ≤ Y ∧
      v1 * -(n : Int) + u1 = r1 ∧ v2 * -(n : Int) + u2 = r2 ∧ v3 * -(n : Int) + u3 = r3 ∧ hidT s (-(-σ) * X) (-(-σ) * Y) = ⟨r1, r2, r3⟩ ∧ hidT s (-σ * p1) (-σ * q1) = hidT s (-σ * p1) (-σ * q1) ∧
      (m < Y → full = pre) ∧
      (Y ≤ m → (∃ L, full = pre ++ (X, Y) :: L) ∧ (sg ⟨r1, r2, r3⟩ = 0 → full = pre ++ [(X, Y)]) ∧ (sg ⟨r1, r2, r3⟩ ≠ 0 → DSt s m full p1 q1 X Y (-σ) (pre ++ [(X, Y)]))) := by
  have hE' : octT s ≤ 120 := octT_le hd.1 24 hE.1 hE.2.1 hE.2.2
  have bnd := dst_bounds hd.1 hE' hm hst
  obtain ⟨n, n1, n2, n3, n4⟩ := dst_often hd.1 h01 hE' hm hst
  obtain ⟨f1, f2⟩ := dst_step hd.1 h01 hE' hm hf hL hst n1 n2 n3
  obtain ⟨sign, hq0, hq1, hp0, hp1, hlim, all⟩ := bnd
  obtain ⟨lim, el⟩ : ∃ lim : Nat, dlim m q0 q1 pre = lim := ⟨(dlim m q0 q1 pre).toNat, by omega⟩
  rw [el] at hlim all n1 n4
  have an := all n (by omega) n1
  have hdd : s.d.natAbs ≤ 24 := by omega
  have bnds : ∀ k : Nat, k ≤ lim → ((σ * (p0 + k * p1)).natAbs ≤ 24000 ∧ (σ * (q0 + k * q1)).natAbs ≤ 200) := by
    intro k hk
    have ak := all k (by omega) (by omega)
    exact ⟨(sgn_bound (m := 24000) sign (by omega)).1, (sgn_bound (m := 200) sign (by omega)).1⟩
  have b1 := (sgn_bound (m := 24000) sign (show 0 ≤ p0 ∧ p0 ≤ (24000 : Nat) by omega)).1
  have b2 := (sgn_bound (m := 200) sign (show 0 ≤ q0 ∧ q0 ≤ (200 : Nat) by omega)).1
  have b3 := (sgn_bound (m := 24000) sign (show 0 ≤ p1 ∧ p1 ≤ (24000 : Nat) by omega)).2
  have b4 := (sgn_bound (m := 200) sign (show 0 ≤ q1 ∧ q1 ≤ (200 : Nat) by omega)).2
  have sgr : ∀ k : Int, sg ⟨v1 * -k + u1, v2 * -k + u2, v3 * -k + u3⟩ = lg s (σ * (p0 + k * p1)) (σ * (q0 + k * q1)) := fun k => by rw [step_sg hu hv k]; rfl
  refine ⟨lim, n, p0 + n * p1, q0 + n * q1, v1 * -(n : Int) + u1, v2 * -(n : Int) + u2, v3 * -(n : Int) + u3, el, by omega, by omega, hid_bound hu hE hdd b1 b2, hid_bound hv hE hdd b3 b4, fun i hi => ?_, fun i hi => ?_, ?_, ?_, by omega, rfl, rfl, rfl, ?_, rfl, f1, fun h => ?_⟩
  · have bb := hid_bound (step_sg hu hv i).symm hE hdd (bnds i hi).1 (bnds i hi).2
    omega
  · rw [sgr]
    exact n4 i (by omega)
  · rw [wrap64_small (x := (n : Int) * p1) (by omega), wrap64_small (by omega)]; omega
  · rw [wrap64_small (x := (n : Int) * q1) (by omega), wrap64_small (by omega)]; omega
  · rw [Int.neg_neg]; exact (step_sg hu hv n).symm
  · obtain ⟨g1, g2, g3⟩ := f2 h
    rw [sgr]
    exact ⟨g1, fun h0 => g2 ((lg_sgn sign).1 h0), fun h0 => g3 (fun h5 => h0 ((lg_sgn sign).2 h5))⟩

theorem Vals.low {w w' : World} {B b : Nat} {vs : List Value} (h : Vals w b vs) (hb : Below B w w') (hl : b < B) : Vals w' b vs := by
  obtain ⟨e, h⟩ := h
  exact ⟨e, (hb.block b hl).trans h⟩

def lenV : Value → Nat
  | .slice _ n _ => n
  | _ => 0

theorem hid_vals {s : T4} {p q : Int} {u v x : Int} (h : hidT s p q = ⟨u, v, x⟩) {w : World} {b : Nat} (k : Vals w b (hv3 (hidT s p q))) : Vals w b [.int .i64 u, .int .i64 v, .int .i64 x] := by
  rw [h] at k
  exact k

set_option maxRecDepth 100000 in
set_option maxHeartbeats 1000000 in
theorem divisions_bad (s : T4) (m : Int) (w : World) (hA : i64 s.a ∧ i64 s.b ∧ i64 s.c ∧ i64 s.d) (hs : validB s.a s.b s.c s.d = false) :
    Calls Tryd.prog 17 #[.agg #[.int .i64 s.a, .int .i64 s.b, .int .i64 s.c, .int .i64 s.d], .int .i64 m] w (RetFrE w [] 2) := by
  have VA := fun w : World => tvalid_calls s.a s.b s.c s.d w hA.1 hA.2.1 hA.2.2.1 hA.2.2.2
  rw [hs] at VA
  have HA := Lib.hid VA
  clear VA hs hA
  have vs := Vals.newL w (w.heap.size) [.int .i64 s.a, .int .i64 s.b, .int .i64 s.c, .int .i64 s.d] 23 rfl
  have bb := below_alloc w (.cells #[.int .i64 s.a, .int .i64 s.b, .int .i64 s.c, .int .i64 s.d] 23)
  have B := bb
  clear bb
  go_enter Tryd.func17, Tryd.ntmps17
  go_wp2_with fail
  generalize (w.alloc (.cells #[.int .i64 s.a, .int .i64 s.b, .int .i64 s.c, .int .i64 s.d] 23)) = w0 at *
  refine (HA.out _).mono ?_
  rintro e w1 ⟨rfl, b1⟩
  replace vs := vs.mono b1
  replace B := below_trans B b1
  clear b1
  go_wp2
  go_ret2
  exact ⟨_, rfl, ⟨none, 0, rfl, .inl ⟨rfl, rfl⟩⟩, B⟩

set_option maxRecDepth 100000 in
set_option maxHeartbeats 1000000 in
theorem divisions_low (s : T4) (m : Int) (w : World) (hs : validB s.a s.b s.c s.d = true) (hm : m < 1) :
    Calls Tryd.prog 17 #[.agg #[.int .i64 s.a, .int .i64 s.b, .int .i64 s.c, .int .i64 s.d], .int .i64 m] w (RetFrE w [] 1) := by
  have VA := fun w : World => tvalid_calls s.a s.b s.c s.d w (validB_i64 hs).1 (validB_i64 hs).2.1 (validB_i64 hs).2.2.1 (validB_i64 hs).2.2.2
  rw [hs] at VA
  have HA := Lib.hid VA
  clear VA
  clear hs
  have vs := Vals.newL w (w.heap.size) [.int .i64 s.a, .int .i64 s.b, .int .i64 s.c, .int .i64 s.d] 23 rfl
  have bb := below_alloc w (.cells #[.int .i64 s.a, .int .i64 s.b, .int .i64 s.c, .int .i64 s.d] 23)
  have B := bb
  clear bb
  go_enter Tryd.func17, Tryd.ntmps17
  go_wp2_with fail
  generalize (w.alloc (.cells #[.int .i64 s.a, .int .i64 s.b, .int .i64 s.c, .int .i64 s.d] 23)) = w0 at *
  refine (HA.out _).mono ?_
  rintro e w1 ⟨rfl, b1⟩
  replace vs := vs.mono b1
  replace B := below_trans B b1
  clear b1
  go_wp2
  go_ret2
  exact ⟨_, rfl, ⟨none, 0, rfl, .inl ⟨rfl, rfl⟩⟩, B⟩

set_option maxRecDepth 100000 in
set_option maxHeartbeats 1000000 in
theorem divisions_high (s : T4) (m : Int) (w : World) (hs : validB s.a s.b s.c s.d = true) (hm : 1024 < m) :
    Calls Tryd.prog 17 #[.agg #[.int .i64 s.a, .int .i64 s.b, .int .i64 s.c, .int .i64 s.d], .int .i64 m] w (RetFrE w [] 1) := by
  have VA := fun w : World => tvalid_calls s.a s.b s.c s.d w (validB_i64 hs).1 (validB_i64 hs).2.1 (validB_i64 hs).2.2.1 (validB_i64 hs).2.2.2
  rw [hs] at VA
  have HA := Lib.hid VA
  clear VA
  have hm2 : ¬ m < 1 := by omega
  clear hs
  have vs := Vals.newL w (w.heap.size) [.int .i64 s.a, .int .i64 s.b, .int .i64 s.c, .int .i64 s.d] 23 rfl
  have bb := below_alloc w (.cells #[.int .i64 s.a, .int .i64 s.b, .int .i64 s.c, .int .i64 s.d] 23)
  have B := bb
  clear bb
  go_enter Tryd.func17, Tryd.ntmps17
  go_wp2_with fail
  generalize (w.alloc (.cells #[.int .i64 s.a, .int .i64 s.b, .int .i64 s.c, .int .i64 s.d] 23)) = w0 at *
  refine (HA.out _).mono ?_
  rintro e w1 ⟨rfl, b1⟩
  replace vs := vs.mono b1
  replace B := below_trans B b1
  clear b1
  go_wp2
  go_ret2
  exact ⟨_, rfl, ⟨none, 0, rfl, .inl ⟨rfl, rfl⟩⟩, B⟩

set_option maxRecDepth 100000 in
set_option maxHeartbeats 1000000 in
theorem divisions_r0 (s : T4) (m : Int) (w : World) (hs : validB s.a s.b s.c s.d = true) (hm : 1 ≤ m) (hm2 : m ≤ 1024) (h01 : lg s 0 1 = 0) :
    Calls Tryd.prog 17 #[.agg #[.int .i64 s.a, .int .i64 s.b, .int .i64 s.c, .int .i64 s.d], .int .i64 m] w (RetFrE w [] 5) := by
  have VA := fun w : World => tvalid_calls s.a s.b s.c s.d w (validB_i64 hs).1 (validB_i64 hs).2.1 (validB_i64 hs).2.2.1 (validB_i64 hs).2.2.2
  rw [hs] at VA
  have HA := Lib.hid VA
  clear VA
  have one : validB (0 : Int) 0 0 1 = true := by decide
  have C := fun w : World => cmpT_ok s ⟨0, 0, 0, 1⟩ w hs one
  simp only [cmp_one] at C
  rw [h01] at C
  have HC := Lib.hid C
  clear C one h01 hs
  have vs := Vals.newL w (w.heap.size) [.int .i64 s.a, .int .i64 s.b, .int .i64 s.c, .int .i64 s.d] 23 rfl
  have bb := below_alloc w (.cells #[.int .i64 s.a, .int .i64 s.b, .int .i64 s.c, .int .i64 s.d] 23)
  have B := bb
  clear bb
  go_enter Tryd.func17, Tryd.ntmps17
  go_wp2_with fail
  generalize (w.alloc (.cells #[.int .i64 s.a, .int .i64 s.b, .int .i64 s.c, .int .i64 s.d] 23)) = w0 at *
  refine (HA.out _).mono ?_
  rintro e w1 ⟨rfl, b1⟩
  replace vs := vs.mono b1
  replace B := below_trans B b1
  clear b1
  have cvs0 := vs.cell (i := 0) (by simp)
  have cvs1 := vs.cell (i := 1) (by simp)
  have cvs2 := vs.cell (i := 2) (by simp)
  have cvs3 := vs.cell (i := 3) (by simp)
  simp only [List.getD_cons_zero, List.getD_cons_succ] at cvs0 cvs1 cvs2 cvs3
  have ltvs := vs.lt
  go_wp2_with fail
  clear cvs0 cvs1 cvs2 cvs3 ltvs
  refine (HC.out _).mono ?_
  rintro e w2 ⟨rfl, b2⟩
  replace vs := vs.mono b2
  replace B := below_trans B b2
  clear b2
  go_wp2
  go_ret2
  exact ⟨_, rfl, ⟨none, 0, rfl, .inl ⟨rfl, rfl⟩⟩, B⟩

set_option maxRecDepth 100000 in
set_option maxHeartbeats 1000000 in
theorem divisions_r1 (s : T4) (m : Int) (w : World) (hs : validB s.a s.b s.c s.d = true) (hm : 1 ≤ m) (hm2 : m ≤ 1024) (h01 : lg s 0 1 = -1) :
    Calls Tryd.prog 17 #[.agg #[.int .i64 s.a, .int .i64 s.b, .int .i64 s.c, .int .i64 s.d], .int .i64 m] w (RetFrE w [] 5) := by
  have VA := fun w : World => tvalid_calls s.a s.b s.c s.d w (validB_i64 hs).1 (validB_i64 hs).2.1 (validB_i64 hs).2.2.1 (validB_i64 hs).2.2.2
  rw [hs] at VA
  have HA := Lib.hid VA
  clear VA
  have one : validB (0 : Int) 0 0 1 = true := by decide
  have C := fun w : World => cmpT_ok s ⟨0, 0, 0, 1⟩ w hs one
  simp only [cmp_one] at C
  rw [h01] at C
  have HC := Lib.hid C
  clear C one h01 hs
  have vs := Vals.newL w (w.heap.size) [.int .i64 s.a, .int .i64 s.b, .int .i64 s.c, .int .i64 s.d] 23 rfl
  have bb := below_alloc w (.cells #[.int .i64 s.a, .int .i64 s.b, .int .i64 s.c, .int .i64 s.d] 23)
  have B := bb
  clear bb
  go_enter Tryd.func17, Tryd.ntmps17
  go_wp2_with fail
  generalize (w.alloc (.cells #[.int .i64 s.a, .int .i64 s.b, .int .i64 s.c, .int .i64 s.d] 23)) = w0 at *
  refine (HA.out _).mono ?_
  rintro e w1 ⟨rfl, b1⟩
  replace vs := vs.mono b1
  replace B := below_trans B b1
  clear b1
  have cvs0 := vs.cell (i := 0) (by simp)
  have cvs1 := vs.cell (i := 1) (by simp)
  have cvs2 := vs.cell (i := 2) (by simp)
  have cvs3 := vs.cell (i := 3) (by simp)
  simp only [List.getD_cons_zero, List.getD_cons_succ] at cvs0 cvs1 cvs2 cvs3
  have ltvs := vs.lt
  go_wp2_with fail
  clear cvs0 cvs1 cvs2 cvs3 ltvs
  refine (HC.out _).mono ?_
  rintro e w2 ⟨rfl, b2⟩
  replace vs := vs.mono b2
  replace B := below_trans B b2
  clear b2
  go_wp2
  go_ret2
  exact ⟨_, rfl, ⟨none, 0, rfl, .inl ⟨rfl, rfl⟩⟩, B⟩

set_option maxRecDepth 100000 in
set_option maxHeartbeats 1000000 in
theorem divisions_main (s : T4) (m : Int) (w : World) (full L0 : List (Int × Int)) (hs : validB s.a s.b s.c s.d = true) (hE : s.a.natAbs ≤ 24 ∧ s.b.natAbs ≤ 24 ∧ s.c.natAbs ≤ 24) (hm : 1 ≤ m) (hm2 : m ≤ 64) (h01 : lg s 0 1 = 1) (hf : full = (octT s, 1) :: L0) (hL : Chain s m 1 0 (octT s) 1 (-1) L0) :
    Calls Tryd.prog 17 #[.agg #[.int .i64 s.a, .int .i64 s.b, .int .i64 s.c, .int .i64 s.d], .int .i64 m] w (RetFrE w full 0) := by
  have VA := fun w : World => tvalid_calls s.a s.b s.c s.d w (validB_i64 hs).1 (validB_i64 hs).2.1 (validB_i64 hs).2.2.1 (validB_i64 hs).2.2.2
  rw [hs] at VA
  have HA := Lib.hid VA
  clear VA
  have one : validB (0 : Int) 0 0 1 = true := by decide
  have C := fun w : World => cmpT_ok s ⟨0, 0, 0, 1⟩ w hs one
  simp only [cmp_one] at C
  rw [h01] at C
  have HC := Lib.hid C
  clear C one
  have HS := Lib.hid hs
  have HD := Lib.hid (show 1 ≤ s.d ∧ s.d ≤ 24 from ⟨(validB_parts hs).2.1, (validB_parts hs).2.2.1⟩)
  have HL01 := Lib.hid (show 0 < lg s 0 1 by omega)
  clear hs
  have vs := Vals.newL w (w.heap.size) [.int .i64 s.a, .int .i64 s.b, .int .i64 s.c, .int .i64 s.d] 23 rfl
  have bb := below_alloc w (.cells #[.int .i64 s.a, .int .i64 s.b, .int .i64 s.c, .int .i64 s.d] 23)
  have B := bb
  clear bb
  go_enter Tryd.func17, Tryd.ntmps17
  go_wp2_with fail
  generalize (w.alloc (.cells #[.int .i64 s.a, .int .i64 s.b, .int .i64 s.c, .int .i64 s.d] 23)) = w0 at *
  refine (HA.out _).mono ?_
  rintro e w1 ⟨rfl, b1⟩
  replace vs := vs.mono b1
  replace B := below_trans B b1
  clear b1
  have cvs0 := vs.cell (i := 0) (by simp)
  have cvs1 := vs.cell (i := 1) (by simp)
  have cvs2 := vs.cell (i := 2) (by simp)
  have cvs3 := vs.cell (i := 3) (by simp)
  simp only [List.getD_cons_zero, List.getD_cons_succ] at cvs0 cvs1 cvs2 cvs3
  have ltvs := vs.lt
  go_wp2_with fail
  clear cvs0 cvs1 cvs2 cvs3 ltvs
  refine (HC.out _).mono ?_
  rintro e w2 ⟨rfl, b2⟩
  replace vs := vs.mono b2
  replace B := below_trans B b2
  clear b2
  go_upto_region 8 with (fail)
  go_cut [8, 9] from 36 to 45 (fun x y wx => ∃ b8 b9, x = .pointer (some ⟨b8, 0, none⟩) ∧ y = .pointer (some ⟨b9, 0, none⟩) ∧ b8 ≠ b9 ∧ w.heap.size < b8 ∧ w.heap.size < b9 ∧ Vals wx b8 [.int .i64 s.a, .int .i64 s.b, .int .i64 s.c] ∧ Vals wx b9 [.int .i64 s.d, .int .i64 0, .int .i64 0] ∧ Below w2.heap.size w2 wx)
  case first =>
    have cvs0 := vs.cell (i := 0) (by simp)
    have cvs1 := vs.cell (i := 1) (by simp)
    have cvs2 := vs.cell (i := 2) (by simp)
    have cvs3 := vs.cell (i := 3) (by simp)
    simp only [List.getD_cons_zero, List.getD_cons_succ] at cvs0 cvs1 cvs2 cvs3
    have ltvs := vs.lt
    have ne0 := World.new_ne w2 _ cvs0
    have ne1 := World.new_ne w2 _ cvs1
    have ne2 := World.new_ne w2 _ cvs2
    have ne3 := World.new_ne w2 _ cvs3
    go_region_held3 (fun w' => w'.cell? ⟨w.heap.size, 0, none⟩ = some (.int .i64 s.a) ∧ w'.cell? ⟨w.heap.size, 1, none⟩ = some (.int .i64 s.b) ∧ w'.cell? ⟨w.heap.size, 2, none⟩ = some (.int .i64 s.c) ∧ w'.cell? ⟨w.heap.size, 3, none⟩ = some (.int .i64 s.d))
      (first | exact vals4 vs | exact vals4 vs.drew | go_keep)
      (fail)
    all_goals (go_wp2; go_meet)
    · obtain ⟨x1, x2, x3⟩ := two_blocks w2 [.int .i64 s.a, .int .i64 s.b, .int .i64 s.c] [.int .i64 s.d, .int .i64 0, .int .i64 0] 75
      exact ⟨_, _, rfl, rfl, by omega, by omega, by omega, x1, x2, x3⟩
    · obtain ⟨x1, x2, x3⟩ := two_blocks w2 [.int .i64 s.d, .int .i64 0, .int .i64 0] [.int .i64 s.a, .int .i64 s.b, .int .i64 s.c] 75
      exact ⟨_, _, rfl, rfl, by omega, by omega, by omega, x2, x1, x3⟩
  case rest =>
    obtain ⟨b8, b9, rfl, rfl, hne, h8, h9, v8, v9, bc⟩ := hcut
    replace vs := vs.mono bc
    replace B := below_trans B bc
    clear bc
    have sz0 := World.size_alloc wc (.cells #[.int .i64 0, .int .i64 1] 29)
    have va := Vals.newL wc wc.heap.size [.int .i64 0, .int .i64 1] 29 rfl
    have bb := below_alloc wc (.cells #[.int .i64 0, .int .i64 1] 29)
    have vb := Vals.newL (wc.alloc (.cells #[.int .i64 0, .int .i64 1] 29)) (wc.heap.size + 1) [.int .i64 1, .int .i64 0] 29 sz0.symm
    have bc := below_alloc (wc.alloc (.cells #[.int .i64 0, .int .i64 1] 29)) (.cells #[.int .i64 1, .int .i64 0] 29)
    have bd := below_trans bb bc
    replace va := va.mono bc
    replace vs := vs.mono bd
    have l8 := v8.lt
    have l9 := v9.lt
    replace v8 := v8.mono bd
    replace v9 := v9.mono bd
    replace B := below_trans B bd
    clear bb bc bd sz0
    go_wp2
    generalize (wc.alloc (.cells #[.int .i64 0, .int .i64 1] 29)).alloc (.cells #[.int .i64 1, .int .i64 0] 29) = W0 at *
    generalize wc.heap.size = b10 at *
    go_loopw [12] (fun ov wr => ∃ (p0 q0 p1 q1 σ : Int) (pre : List (Int × Int)) (ad : Option Addr) (c : Nat), ov = .slice ad pre.length c ∧ DSt s m full p0 q0 p1 q1 σ pre ∧ Below w.heap.size w wr ∧ Vals wr w.heap.size [.int .i64 s.a, .int .i64 s.b, .int .i64 s.c, .int .i64 s.d] ∧ Vals wr b8 (hv3 (hidT s (σ * p0) (σ * q0))) ∧ Vals wr b9 (hv3 (hidT s (-σ * p1) (-σ * q1))) ∧ Vals wr b10 [.int .i64 p0, .int .i64 q0] ∧ Vals wr (b10 + 1) [.int .i64 p1, .int .i64 q1] ∧ OwnF wr (b10 + 2) (.slice ad pre.length c) pre)
      (fun ov _ => full.length - lenV ov)
    case atStart =>
      refine ⟨0, 1, 1, 0, 1, [], none, 0, rfl, .inl ⟨rfl, rfl, rfl, rfl, rfl, rfl⟩, B, vs, ?_, ?_, va, vb, ownF_nil _ _⟩
      · have e : hidT s (1 * 0) (1 * 1) = ⟨s.a, s.b, s.c⟩ := by unfold hidT; congr 1 <;> omega
        rw [e]; exact v8
      · have e : hidT s (-1 * 1) (-1 * 0) = ⟨s.d, 0, 0⟩ := by unfold hidT; congr 1 <;> omega
        rw [e]; exact v9
    case round =>
      clear B vs v8 v9 va vb
      obtain ⟨p0, q0, p1, q1, σ, pre, ad, c, rfl, hst, B, vs, v8, v9, va, vb, ho⟩ := hrel
      obtain ⟨u1, u2, u3, hu⟩ : ∃ u1 u2 u3, hidT s (σ * p0) (σ * q0) = ⟨u1, u2, u3⟩ := ⟨_, _, _, rfl⟩
      obtain ⟨v1, v2, v3, hv⟩ : ∃ u1 u2 u3, hidT s (-σ * p1) (-σ * q1) = ⟨u1, u2, u3⟩ := ⟨_, _, _, rfl⟩
      replace v8 := hid_vals hu v8
      replace v9 := hid_vals hv v9
      obtain ⟨lim, n, X, Y, r1, r2, r3, el, hlim, hn, hub, hvb, hb, hP, hX, hY, hY0, e1, e2, e3, hr, _, f1, f2⟩ := round_facts HD.out hE HL01.out ⟨hm, hm2⟩ hf hL hst hu hv
      have OF := Lib.hid (fun w : World => often_calls u1 u2 u3 v1 v2 v3 lim n w hub hvb hlim hn hb hP)
      have HW := Lib.hid (fun w : World => hwith_calls v1 v2 v3 (-(n : Int)) u1 u2 u3 r1 r2 r3 w (wrap_with hvb.1 (by omega) hub.1 e1) (wrap_with hvb.2.1 (by omega) hub.2.1 e2) (wrap_with hvb.2.2 (by omega) hub.2.2 e3))
      have hbn := hb n hn
      rw [e1, e2, e3] at hbn
      have hsgc := sg_cases ⟨r1, r2, r3⟩
      obtain ⟨sv, hsv⟩ : ∃ sv, sg ⟨r1, r2, r3⟩ = sv := ⟨_, rfl⟩
      have HSG := Lib.hid (fun w : World => hsign_calls r1 r2 r3 sv w hbn.1 hbn.2.1 hbn.2.2 hsv)
      rw [hsv] at f2 hsgc
      have HX := Lib.hid hX
      have HY := Lib.hid hY
      have HEL := Lib.hid el
      have HF1 := Lib.hid f1
      have HF2 := Lib.hid f2
      have HV := Lib.hid hv
      have HR := Lib.hid hr
      have HST := Lib.hid hst
      clear hX hY el f1 f2 hv hr hst hu hub hvb hb hP hbn hsv e1 e2 e3
      obtain ⟨k, hk⟩ : ∃ k, pre.length = k := ⟨_, rfl⟩
      have HK := Lib.hid hk
      rw [hk] at ho ⊢
      clear hk
      go_upto_if 50 with (fail)
      go_cut [13] from 48 (fun x wx => x = .int .i64 (lim : Int) ∧ wx = wr)
      case first =>
        have HEL' := HEL.out
        unfold dlim at HEL'
        by_cases hp : pre = []
        · rw [if_pos hp] at HEL'
          obtain rfl : k = 0 := by rw [← HK.out, hp]; rfl
          obtain rfl : lim = 7680 := by omega
          go_wp2
          go_meet
          exact ⟨rfl, rfl⟩
        · rw [if_neg hp] at HEL'
          have kp : 0 < k := by rw [← HK.out]; exact List.length_pos_iff.2 hp
          obtain ⟨hq0, hq1⟩ : (0 ≤ q0 ∧ q0 ≤ m) ∧ (1 ≤ q1 ∧ q1 ≤ m) := by
            rcases HST.out with ⟨h, _⟩ | ⟨_, h, _⟩
            · exact absurd h hp
            · exact ⟨h.hq0, h.hq1⟩
          have k1 : wrap64 (m - q0) = m - q0 := wrap64_small (by omega)
          have k2 : wrap64 ((m - q0).tdiv q1) = (lim : Int) - 1 := by
            rw [Int.tdiv_eq_ediv_of_nonneg (by omega), show (m - q0) / q1 = (lim : Int) - 1 by omega]
            exact wrap64_small (by omega)
          have k3 : wrap64 ((lim : Int) - 1 + 1) = (lim : Int) := by
            rw [show (lim : Int) - 1 + 1 = (lim : Int) by omega]
            exact wrap64_small (by omega)
          have hq1' : q1 ≠ 0 := by omega
          have HEL2 := Lib.hid HEL'
          clear HEL' k1 k2 k3
          have d0 : 0 ≤ m - q0 := by omega
          have ca1 := va.cell (i := 1) (by simp)
          have cb1 := vb.cell (i := 1) (by simp)
          simp only [List.getD_cons_zero, List.getD_cons_succ] at ca1 cb1
          go_wp2
          go_meet
          refine ⟨?_, rfl⟩
          rw [HEL2.out, wrap64_small (by omega)]
      case rest =>
        obtain ⟨rfl, rfl⟩ := hcut
        clear HEL

        have cv80 := v8.cell (i := 0) (by simp)
        have cv81 := v8.cell (i := 1) (by simp)
        have cv82 := v8.cell (i := 2) (by simp)
        simp only [List.getD_cons_zero, List.getD_cons_succ] at cv80 cv81 cv82
        have ltv8 := v8.lt
        have cv90 := v9.cell (i := 0) (by simp)
        have cv91 := v9.cell (i := 1) (by simp)
        have cv92 := v9.cell (i := 2) (by simp)
        simp only [List.getD_cons_zero, List.getD_cons_succ] at cv90 cv91 cv92
        have ltv9 := v9.lt
        go_wp2_with fail
        clear cv80 cv81 cv82 ltv8 cv90 cv91 cv92 ltv9
        refine (OF.out _).mono ?_
        rintro e w23 ⟨rfl, bb⟩
        replace vs := vs.mono bb
        replace v8 := v8.mono bb
        replace v9 := v9.mono bb
        replace va := va.mono bb
        replace vb := vb.mono bb
        replace ho := ho.mono bb
        replace B := below_trans B bb
        clear bb
        have cva0 := va.cell (i := 0) (by simp)
        have cva1 := va.cell (i := 1) (by simp)
        simp only [List.getD_cons_zero, List.getD_cons_succ] at cva0 cva1
        have ltva := va.lt
        have cvb0 := vb.cell (i := 0) (by simp)
        have cvb1 := vb.cell (i := 1) (by simp)
        simp only [List.getD_cons_zero, List.getD_cons_succ] at cvb0 cvb1
        have ltvb := vb.lt
        go_upto_region 16 with (fail)
        clear cva0 cva1 ltva cvb0 cvb1 ltvb
        rw [HX.out, HY.out]
        clear HX HY
        have lvb := vb.lt
        have hob := ho.block
        have l15 : b10 + 1 < w23.heap.size := vb.lt
        have vn := Vals.newL w23 w23.heap.size [.int .i64 X, .int .i64 Y] 29 rfl
        have bb := below_alloc w23 (.cells #[.int .i64 X, .int .i64 Y] 29)
        replace vs := vs.mono bb
        replace v8 := v8.mono bb
        replace v9 := v9.mono bb
        replace va := va.mono bb
        replace vb := vb.mono bb
        replace ho := ho.mono bb
        replace B := below_trans B bb
        clear bb
        generalize w23.alloc (.cells #[.int .i64 X, .int .i64 Y] 29) = w24 at *
        generalize w23.heap.size = b15 at *
        have cvn0 := vn.cell (i := 0) (by simp)
        have cvn1 := vn.cell (i := 1) (by simp)
        simp only [List.getD_cons_zero, List.getD_cons_succ] at cvn0 cvn1
        have ltvn := vn.lt
        by_cases hYm : m < Y
        · have hfp := HF1.out hYm
          go_wp2
          go_ret2
          exact ⟨_, rfl, by rw [hfp]; exact ho.inF, B⟩
        have hYm' : Y ≤ m := by omega
        obtain ⟨⟨Lr, hfr⟩, g2, g3⟩ := HF2.out hYm'
        have hlt : k < full.length := by rw [hfr, ← HK.out]; simp
        have HLT := Lib.hid hlt
        have HG2 := Lib.hid g2
        have HG3 := Lib.hid g3
        clear HF1 HF2 hfr g2 g3 hlt

        have vq := Vals.newL w24 w24.heap.size [.int .i64 X, .int .i64 Y] 29 rfl
        have bq := below_alloc w24 (.cells #[.int .i64 X, .int .i64 Y] 29)
        have ho5 := ho.mono bq
        have hB5 : b10 + 2 ≤ (w24.alloc (.cells #[.int .i64 X, .int .i64 Y] 29)).heap.size := (vb.mono bq).lt
        have hl5 : pre.length ≤ 1000000 := by have := full_length HD.out.1 HL01.out ⟨hm, hm2⟩ hf hL; have := HLT.out; rw [HK.out]; omega
        have HL5 := Lib.hid hl5
        clear hl5

        go_upto_region 19 with (at_builtin; refine wpList_append_frac rfl (.tmp 83) (.tmp 85) 44 rfl Tryd.underlying44 info_frac (b10 + 2) (.slice ad k c) pre rfl ho5 hB5 _ 1 X Y rfl vq HL5.out ?_; intro ad2 c2 w25 ho6 bb6 hoth)
        clear cvn0 cvn1 ltvn
        replace vs := (vs.mono bq).low bb6 (by omega)
        replace v8 := (v8.mono bq).low bb6 (by omega)
        replace v9 := (v9.mono bq).low bb6 (by omega)
        replace va := (va.mono bq).low bb6 (by omega)
        replace vb := (vb.mono bq).low bb6 (by omega)
        replace vn := hoth b15 _ (fun h => by have := (hob _ h).2; omega) (vn.mono bq)
        replace B := (below_trans B bq).trans (bb6.mono (by omega))
        replace ho := ho6
        clear ho6 ho5 hB5 bb6 hoth vq bq hob
        have kn : wrap64 (-(n : Int)) = -(n : Int) := wrap64_small (by omega)
        have cv80 := v8.cell (i := 0) (by simp)
        have cv81 := v8.cell (i := 1) (by simp)
        have cv82 := v8.cell (i := 2) (by simp)
        simp only [List.getD_cons_zero, List.getD_cons_succ] at cv80 cv81 cv82
        have ltv8 := v8.lt
        have cv90 := v9.cell (i := 0) (by simp)
        have cv91 := v9.cell (i := 1) (by simp)
        have cv92 := v9.cell (i := 2) (by simp)
        simp only [List.getD_cons_zero, List.getD_cons_succ] at cv90 cv91 cv92
        have ltv9 := v9.lt
        go_wp2_with fail
        clear cv80 cv81 cv82 ltv8 cv90 cv91 cv92 ltv9
        clear kn
        refine (HW.out _).mono ?_
        rintro e w26 ⟨rfl, bb⟩
        replace vs := vs.mono bb
        replace v8 := v8.mono bb
        replace v9 := v9.mono bb
        replace va := va.mono bb
        replace vb := vb.mono bb
        replace ho := ho.mono bb
        replace vn := vn.mono bb
        replace B := below_trans B bb
        clear bb
        go_upto_region 20 with (fail)
        have l16 : b15 < w26.heap.size := vn.lt
        have vr := Vals.newL w26 w26.heap.size [.int .i64 r1, .int .i64 r2, .int .i64 r3] 75 rfl
        have bb := below_alloc w26 (.cells #[.int .i64 r1, .int .i64 r2, .int .i64 r3] 75)
        replace vs := vs.mono bb
        replace v8 := v8.mono bb
        replace v9 := v9.mono bb
        replace va := va.mono bb
        replace vb := vb.mono bb
        replace ho := ho.mono bb
        replace vn := vn.mono bb
        replace B := below_trans B bb
        clear bb
        generalize w26.alloc (.cells #[.int .i64 r1, .int .i64 r2, .int .i64 r3] 75) = w27 at *
        generalize w26.heap.size = b16 at *
        have cvr0 := vr.cell (i := 0) (by simp)
        have cvr1 := vr.cell (i := 1) (by simp)
        have cvr2 := vr.cell (i := 2) (by simp)
        simp only [List.getD_cons_zero, List.getD_cons_succ] at cvr0 cvr1 cvr2
        have ltvr := vr.lt
        go_wp2_with fail
        clear cvr0 cvr1 cvr2 ltvr
        refine (HSG.out _).mono ?_
        rintro e w28 ⟨rfl, bb⟩
        replace vs := vs.mono bb
        replace v8 := v8.mono bb
        replace v9 := v9.mono bb
        replace va := va.mono bb
        replace vb := vb.mono bb
        replace ho := ho.mono bb
        replace vn := vn.mono bb
        replace vr := vr.mono bb
        replace B := below_trans B bb
        clear bb
        rcases hsgc with rfl | rfl | rfl
        · skip
          have hst := HG3.out (by omega)
          have HST2 := Lib.hid hst
          clear hst HG2 HG3 HST HW HSG OF
          go_upto_region 22 with (fail)
          have lvn := vn.lt
          have lvr := vr.lt
          have ne01 : b8 ≠ b9 := by omega
          have ne02 : b8 ≠ b10 := by omega
          have ne03 : b8 ≠ (b10 + 1) := by omega
          have ne04 : b8 ≠ b15 := by omega
          have ne05 : b8 ≠ b16 := by omega
          have ne10 : b9 ≠ b8 := by omega
          have ne12 : b9 ≠ b10 := by omega
          have ne13 : b9 ≠ (b10 + 1) := by omega
          have ne14 : b9 ≠ b15 := by omega
          have ne15 : b9 ≠ b16 := by omega
          have ne20 : b10 ≠ b8 := by omega
          have ne21 : b10 ≠ b9 := by omega
          have ne23 : b10 ≠ (b10 + 1) := by omega
          have ne24 : b10 ≠ b15 := by omega
          have ne25 : b10 ≠ b16 := by omega
          have ne30 : (b10 + 1) ≠ b8 := by omega
          have ne31 : (b10 + 1) ≠ b9 := by omega
          have ne32 : (b10 + 1) ≠ b10 := by omega
          have ne34 : (b10 + 1) ≠ b15 := by omega
          have ne35 : (b10 + 1) ≠ b16 := by omega
          have ne40 : b15 ≠ b8 := by omega
          have ne41 : b15 ≠ b9 := by omega
          have ne42 : b15 ≠ b10 := by omega
          have ne43 : b15 ≠ (b10 + 1) := by omega
          have ne45 : b15 ≠ b16 := by omega
          have ne50 : b16 ≠ b8 := by omega
          have ne51 : b16 ≠ b9 := by omega
          have ne52 : b16 ≠ b10 := by omega
          have ne53 : b16 ≠ (b10 + 1) := by omega
          have ne54 : b16 ≠ b15 := by omega
          have cv90 := v9.cell (i := 0) (by simp)
          have cv91 := v9.cell (i := 1) (by simp)
          have cv92 := v9.cell (i := 2) (by simp)
          simp only [List.getD_cons_zero, List.getD_cons_succ] at cv90 cv91 cv92
          have ltv9 := v9.lt
          have cvr0 := vr.cell (i := 0) (by simp)
          have cvr1 := vr.cell (i := 1) (by simp)
          have cvr2 := vr.cell (i := 2) (by simp)
          simp only [List.getD_cons_zero, List.getD_cons_succ] at cvr0 cvr1 cvr2
          have ltvr := vr.lt
          have cvb0 := vb.cell (i := 0) (by simp)
          have cvb1 := vb.cell (i := 1) (by simp)
          simp only [List.getD_cons_zero, List.getD_cons_succ] at cvb0 cvb1
          have ltvb := vb.lt
          have cvn0 := vn.cell (i := 0) (by simp)
          have cvn1 := vn.cell (i := 1) (by simp)
          simp only [List.getD_cons_zero, List.getD_cons_succ] at cvn0 cvn1
          have ltvn := vn.lt
          have fv80 := v8.frozen 0
          have fv81 := v8.frozen 1
          have fv82 := v8.frozen 2
          have fv90 := v9.frozen 0
          have fv91 := v9.frozen 1
          have fv92 := v9.frozen 2
          have fva0 := va.frozen 0
          have fva1 := va.frozen 1
          have fvb0 := vb.frozen 0
          have fvb1 := vb.frozen 1
          have cv80 := v8.cell (i := 0) (by simp)
          have cv81 := v8.cell (i := 1) (by simp)
          have cv82 := v8.cell (i := 2) (by simp)
          simp only [List.getD_cons_zero, List.getD_cons_succ] at cv80 cv81 cv82
          have ltv8 := v8.lt
          have cva0 := va.cell (i := 0) (by simp)
          have cva1 := va.cell (i := 1) (by simp)
          simp only [List.getD_cons_zero, List.getD_cons_succ] at cva0 cva1
          have ltva := va.lt
          go_region
          clear cv90 cv91 cv92 ltv9 cvr0 cvr1 cvr2 ltvr cvb0 cvb1 ltvb cvn0 cvn1 ltvn fv80 fv81 fv82 fv90 fv91 fv92 fva0 fva1 fvb0 fvb1 cv80 cv81 cv82 ltv8 cva0 cva1 ltva
          have nvs := (((((vs).off3 (g := b8) (by omega) (.int .i64 v1) (.int .i64 v2) (.int .i64 v3)).off3 (g := b9) (by omega) (.int .i64 r1) (.int .i64 r2) (.int .i64 r3)).off2 (g := b10) (by omega) (.int .i64 p1) (.int .i64 q1)).off2 (g := (b10 + 1)) (by omega) (.int .i64 X) (.int .i64 Y)).drew
          have nv8 := (((((v8).set3 (.int .i64 v1) (.int .i64 v2) (.int .i64 v3)).off3 (g := b9) (by omega) (.int .i64 r1) (.int .i64 r2) (.int .i64 r3)).off2 (g := b10) (by omega) (.int .i64 p1) (.int .i64 q1)).off2 (g := (b10 + 1)) (by omega) (.int .i64 X) (.int .i64 Y)).drew
          have nv9 := (((((v9).off3 (g := b8) (by omega) (.int .i64 v1) (.int .i64 v2) (.int .i64 v3)).set3 (.int .i64 r1) (.int .i64 r2) (.int .i64 r3)).off2 (g := b10) (by omega) (.int .i64 p1) (.int .i64 q1)).off2 (g := (b10 + 1)) (by omega) (.int .i64 X) (.int .i64 Y)).drew
          have nva := (((((va).off3 (g := b8) (by omega) (.int .i64 v1) (.int .i64 v2) (.int .i64 v3)).off3 (g := b9) (by omega) (.int .i64 r1) (.int .i64 r2) (.int .i64 r3)).put2 (.int .i64 p1) (.int .i64 q1)).off2 (g := (b10 + 1)) (by omega) (.int .i64 X) (.int .i64 Y)).drew
          have nvb := (((((vb).off3 (g := b8) (by omega) (.int .i64 v1) (.int .i64 v2) (.int .i64 v3)).off3 (g := b9) (by omega) (.int .i64 r1) (.int .i64 r2) (.int .i64 r3)).off2 (g := b10) (by omega) (.int .i64 p1) (.int .i64 q1)).put2 (.int .i64 X) (.int .i64 Y)).drew
          have nho := (((((ho).off3 (g := b8) (by omega) (.int .i64 v1) (.int .i64 v2) (.int .i64 v3)).off3 (g := b9) (by omega) (.int .i64 r1) (.int .i64 r2) (.int .i64 r3)).off2 (g := b10) (by omega) (.int .i64 p1) (.int .i64 q1)).off2 (g := (b10 + 1)) (by omega) (.int .i64 X) (.int .i64 Y)).drew
          have nB := (below_put2 (b := b10 + 1) (below_put2 (b := b10) (below_set3 (b := b9) (below_set3 (b := b8) B (by omega) (.int .i64 v1) (.int .i64 v2) (.int .i64 v3)) (by omega) (.int .i64 r1) (.int .i64 r2) (.int .i64 r3)) (by omega) (.int .i64 p1) (.int .i64 q1)) (by omega) (.int .i64 X) (.int .i64 Y)).drew
          clear vs v8 v9 va vb vn vr ho B
          generalize World.drew _ = W9 at *
          go_wp2
          go_roundw
          case rel =>
            refine ⟨p1, q1, X, Y, -σ, pre ++ [(X, Y)], ad2, c2, by rw [List.length_append]; rfl, HST2.out, nB, nvs, ?_, ?_, nva, nvb, ?_⟩
            · rw [HV.out]; exact nv8
            · rw [HR.out]; exact nv9
            · rw [List.length_append]; exact nho
          case measure =>
            have := HLT.out
            have hkk := HK.out
            simp only [lenV]
            omega
        · skip
          have hg2 := HG2.out rfl
          have HG4 := Lib.hid hg2
          clear hg2 HG2
          go_wp2
          go_ret2
          exact ⟨_, rfl, by rw [HG4.out]; exact ho.inF, B⟩
        · skip
          have hst := HG3.out (by omega)
          have HST2 := Lib.hid hst
          clear hst HG2 HG3 HST HW HSG OF
          go_upto_region 22 with (fail)
          have lvn := vn.lt
          have lvr := vr.lt
          have ne01 : b8 ≠ b9 := by omega
          have ne02 : b8 ≠ b10 := by omega
          have ne03 : b8 ≠ (b10 + 1) := by omega
          have ne04 : b8 ≠ b15 := by omega
          have ne05 : b8 ≠ b16 := by omega
          have ne10 : b9 ≠ b8 := by omega
          have ne12 : b9 ≠ b10 := by omega
          have ne13 : b9 ≠ (b10 + 1) := by omega
          have ne14 : b9 ≠ b15 := by omega
          have ne15 : b9 ≠ b16 := by omega
          have ne20 : b10 ≠ b8 := by omega
          have ne21 : b10 ≠ b9 := by omega
          have ne23 : b10 ≠ (b10 + 1) := by omega
          have ne24 : b10 ≠ b15 := by omega
          have ne25 : b10 ≠ b16 := by omega
          have ne30 : (b10 + 1) ≠ b8 := by omega
          have ne31 : (b10 + 1) ≠ b9 := by omega
          have ne32 : (b10 + 1) ≠ b10 := by omega
          have ne34 : (b10 + 1) ≠ b15 := by omega
          have ne35 : (b10 + 1) ≠ b16 := by omega
          have ne40 : b15 ≠ b8 := by omega
          have ne41 : b15 ≠ b9 := by omega
          have ne42 : b15 ≠ b10 := by omega
          have ne43 : b15 ≠ (b10 + 1) := by omega
          have ne45 : b15 ≠ b16 := by omega
          have ne50 : b16 ≠ b8 := by omega
          have ne51 : b16 ≠ b9 := by omega
          have ne52 : b16 ≠ b10 := by omega
          have ne53 : b16 ≠ (b10 + 1) := by omega
          have ne54 : b16 ≠ b15 := by omega
          have cv90 := v9.cell (i := 0) (by simp)
          have cv91 := v9.cell (i := 1) (by simp)
          have cv92 := v9.cell (i := 2) (by simp)
          simp only [List.getD_cons_zero, List.getD_cons_succ] at cv90 cv91 cv92
          have ltv9 := v9.lt
          have cvr0 := vr.cell (i := 0) (by simp)
          have cvr1 := vr.cell (i := 1) (by simp)
          have cvr2 := vr.cell (i := 2) (by simp)
          simp only [List.getD_cons_zero, List.getD_cons_succ] at cvr0 cvr1 cvr2
          have ltvr := vr.lt
          have cvb0 := vb.cell (i := 0) (by simp)
          have cvb1 := vb.cell (i := 1) (by simp)
          simp only [List.getD_cons_zero, List.getD_cons_succ] at cvb0 cvb1
          have ltvb := vb.lt
          have cvn0 := vn.cell (i := 0) (by simp)
          have cvn1 := vn.cell (i := 1) (by simp)
          simp only [List.getD_cons_zero, List.getD_cons_succ] at cvn0 cvn1
          have ltvn := vn.lt
          have fv80 := v8.frozen 0
          have fv81 := v8.frozen 1
          have fv82 := v8.frozen 2
          have fv90 := v9.frozen 0
          have fv91 := v9.frozen 1
          have fv92 := v9.frozen 2
          have fva0 := va.frozen 0
          have fva1 := va.frozen 1
          have fvb0 := vb.frozen 0
          have fvb1 := vb.frozen 1
          have cv80 := v8.cell (i := 0) (by simp)
          have cv81 := v8.cell (i := 1) (by simp)
          have cv82 := v8.cell (i := 2) (by simp)
          simp only [List.getD_cons_zero, List.getD_cons_succ] at cv80 cv81 cv82
          have ltv8 := v8.lt
          have cva0 := va.cell (i := 0) (by simp)
          have cva1 := va.cell (i := 1) (by simp)
          simp only [List.getD_cons_zero, List.getD_cons_succ] at cva0 cva1
          have ltva := va.lt
          go_region
          clear cv90 cv91 cv92 ltv9 cvr0 cvr1 cvr2 ltvr cvb0 cvb1 ltvb cvn0 cvn1 ltvn fv80 fv81 fv82 fv90 fv91 fv92 fva0 fva1 fvb0 fvb1 cv80 cv81 cv82 ltv8 cva0 cva1 ltva
          have nvs := (((((vs).off3 (g := b8) (by omega) (.int .i64 v1) (.int .i64 v2) (.int .i64 v3)).off3 (g := b9) (by omega) (.int .i64 r1) (.int .i64 r2) (.int .i64 r3)).off2 (g := b10) (by omega) (.int .i64 p1) (.int .i64 q1)).off2 (g := (b10 + 1)) (by omega) (.int .i64 X) (.int .i64 Y)).drew
          have nv8 := (((((v8).set3 (.int .i64 v1) (.int .i64 v2) (.int .i64 v3)).off3 (g := b9) (by omega) (.int .i64 r1) (.int .i64 r2) (.int .i64 r3)).off2 (g := b10) (by omega) (.int .i64 p1) (.int .i64 q1)).off2 (g := (b10 + 1)) (by omega) (.int .i64 X) (.int .i64 Y)).drew
          have nv9 := (((((v9).off3 (g := b8) (by omega) (.int .i64 v1) (.int .i64 v2) (.int .i64 v3)).set3 (.int .i64 r1) (.int .i64 r2) (.int .i64 r3)).off2 (g := b10) (by omega) (.int .i64 p1) (.int .i64 q1)).off2 (g := (b10 + 1)) (by omega) (.int .i64 X) (.int .i64 Y)).drew
          have nva := (((((va).off3 (g := b8) (by omega) (.int .i64 v1) (.int .i64 v2) (.int .i64 v3)).off3 (g := b9) (by omega) (.int .i64 r1) (.int .i64 r2) (.int .i64 r3)).put2 (.int .i64 p1) (.int .i64 q1)).off2 (g := (b10 + 1)) (by omega) (.int .i64 X) (.int .i64 Y)).drew
          have nvb := (((((vb).off3 (g := b8) (by omega) (.int .i64 v1) (.int .i64 v2) (.int .i64 v3)).off3 (g := b9) (by omega) (.int .i64 r1) (.int .i64 r2) (.int .i64 r3)).off2 (g := b10) (by omega) (.int .i64 p1) (.int .i64 q1)).put2 (.int .i64 X) (.int .i64 Y)).drew
          have nho := (((((ho).off3 (g := b8) (by omega) (.int .i64 v1) (.int .i64 v2) (.int .i64 v3)).off3 (g := b9) (by omega) (.int .i64 r1) (.int .i64 r2) (.int .i64 r3)).off2 (g := b10) (by omega) (.int .i64 p1) (.int .i64 q1)).off2 (g := (b10 + 1)) (by omega) (.int .i64 X) (.int .i64 Y)).drew
          have nB := (below_put2 (b := b10 + 1) (below_put2 (b := b10) (below_set3 (b := b9) (below_set3 (b := b8) B (by omega) (.int .i64 v1) (.int .i64 v2) (.int .i64 v3)) (by omega) (.int .i64 r1) (.int .i64 r2) (.int .i64 r3)) (by omega) (.int .i64 p1) (.int .i64 q1)) (by omega) (.int .i64 X) (.int .i64 Y)).drew
          clear vs v8 v9 va vb vn vr ho B
          generalize World.drew _ = W9 at *
          go_wp2
          go_roundw
          case rel =>
            refine ⟨p1, q1, X, Y, -σ, pre ++ [(X, Y)], ad2, c2, by rw [List.length_append]; rfl, HST2.out, nB, nvs, ?_, ?_, nva, nvb, ?_⟩
            · rw [HV.out]; exact nv8
            · rw [HR.out]; exact nv9
            · rw [List.length_append]; exact nho
          case measure =>
            have := HLT.out
            have hkk := HK.out
            simp only [lenV]
            omega

end Go.Proofs
