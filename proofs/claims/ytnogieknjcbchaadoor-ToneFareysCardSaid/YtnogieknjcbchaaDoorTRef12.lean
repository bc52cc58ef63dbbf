/- The reference's Farey. -/
import Derived.Test.YtnogieknjcbchaaDoorTRef
import Derived.Test.YtnogieknjcbchaaDoorTRef11
import Derived.Test.YtnogieknjcbchaaDoorTFrac
import Derived.Deep.RegionWith
open Go.RowKit Go.Deep
namespace Go.Proofs
set_option linter.unusedVariables false
set_option linter.unusedSimpArgs false

set_option maxRecDepth 100000 in
theorem rlowest_calls (p q : Nat) (w : World) (hp : p ≤ 50000) (hq : 1 ≤ q ∧ q ≤ 50000) :
    Calls Tryd.prog 31 #[.int .i64 (p : Int), .int .i64 (q : Int)] w fun e w' => e = .returned (.agg #[.int .i64 ((p / Nat.gcd p q : Nat) : Int), .int .i64 ((q / Nat.gcd p q : Nat) : Int)]) ∧ Below w.heap.size w w' := by
  have hg : 0 < Nat.gcd p q := Nat.gcd_pos_of_pos_right _ (by omega)
  have hg2 : Nat.gcd p q ≤ q := Nat.le_of_dvd (by omega) (Nat.gcd_dvd_right _ _)
  have G := fun w : World => rgcd2_calls p q w (by omega) (by omega)
  generalize Nat.gcd p q = g at *
  have e1 : ((p : Int)).tdiv (g : Int) = ((p / g : Nat) : Int) := by
    rw [Int.tdiv_eq_ediv_of_nonneg (by omega)]; rfl
  have e2 : ((q : Int)).tdiv (g : Int) = ((q / g : Nat) : Int) := by
    rw [Int.tdiv_eq_ediv_of_nonneg (by omega)]; rfl
  have b1 := Nat.div_le_self p g
  have b2 := Nat.div_le_self q g
  generalize p / g = p' at *
  generalize q / g = q' at *
  have k1 : wrap64 ((p : Int) / (g : Int)) = (p' : Int) := by rw [← Int.tdiv_eq_ediv_of_nonneg (by omega), e1]; exact wrap64_small (by omega)
  have k2 : wrap64 ((q : Int) / (g : Int)) = (q' : Int) := by rw [← Int.tdiv_eq_ediv_of_nonneg (by omega), e2]; exact wrap64_small (by omega)
  have k1' : IntKind.i64.wrap ((p : Int) / (g : Int)) = (p' : Int) := by rw [← Int.tdiv_eq_ediv_of_nonneg (by omega), e1]; exact IntWalk.i64_in _ (by omega)
  have k2' : IntKind.i64.wrap ((q : Int) / (g : Int)) = (q' : Int) := by rw [← Int.tdiv_eq_ediv_of_nonneg (by omega), e2]; exact IntWalk.i64_in _ (by omega)
  have k3 : IntKind.u64.wrap (p : Int) = (p : Int) := by rw [IntKind.wrap_u64]; omega
  have k4 : IntKind.u64.wrap (q : Int) = (q : Int) := by rw [IntKind.wrap_u64]; omega
  have k5 : IntKind.i64.wrap (g : Int) = (g : Int) := IntWalk.i64_in _ (by omega)
  have z1 : ((g : Int) == 0) = false := by rw [beq_eq_false_iff_ne]; omega
  have HG := Lib.hid G
  clear G e1 e2
  have vx := Vals.newL w w.heap.size [.int .i64 0, .int .i64 0] 29 rfl
  have B := below_alloc w (.cells #[.int .i64 0, .int .i64 0] 29)
  go_enter Tryd.func31, Tryd.ntmps31
  go_wp2_with fail
  generalize (w.alloc (.cells #[.int .i64 0, .int .i64 0] 29)) = w0 at *
  refine (HG.out _).mono ?_
  rintro e w1 ⟨rfl, n, rfl⟩
  replace vx := vx.drewN n
  replace B := below_drewN B n
  generalize w0.drewN n = w1 at *
  go_upto_region 2 with (fail)
  have cvx0 := vx.cell (i := 0) (by simp)
  have cvx1 := vx.cell (i := 1) (by simp)
  simp only [List.getD_cons_zero, List.getD_cons_succ] at cvx0 cvx1
  have ltvx := vx.lt
  have fvx0 := vx.frozen 0
  have fvx1 := vx.frozen 1
  go_region_with (fail)
  all_goals (
    clear cvx0 cvx1 ltvx fvx0 fvx1
    try rw [k1]
    try rw [k2]
    try rw [k1']
    try rw [k2'])
  all_goals (
    have x2 := (vx.put2 (.int .i64 (p' : Int)) (.int .i64 (q' : Int))).drew
    have bf := (below_put2 (b := w.heap.size) B (by omega) (.int .i64 (p' : Int)) (.int .i64 (q' : Int))).drew
    generalize World.drew _ = W9 at *
    go_wp2
    obtain ⟨te, hg⟩ := x2
    refine bodyPost_ret_by (results_cell_row rfl _ _ w.heap.size te _ (0, 0) _ rfl hg Tryd.underlying29 rfl (by kernel_rfl)) rfl ?_
    exact ⟨rfl, bf⟩)

/-- what the reference's Times says of a tone and a denominator -/
theorem root_le {q r : Nat} {s : T4} (h : IsRoot (freqQ q s) s.d.toNat r) : leF (overN s.a s.b s.c) (underN s.a s.b s.c) s.d.toNat r q := by
  have n2 := under_ne s.a s.b s.c
  unfold freqQ at h
  exact (Nat.le_div_iff_mul_le (by omega)).1 h.1
theorem root_max {q r : Nat} {s : T4} (h : IsRoot (freqQ q s) s.d.toNat r) (hd : 1 ≤ s.d.toNat) (p : Nat) (hp : leF (overN s.a s.b s.c) (underN s.a s.b s.c) s.d.toNat p q) : p ≤ r := by
  have n2 := under_ne s.a s.b s.c
  unfold freqQ at h
  have h1 := (Nat.le_div_iff_mul_le (show 0 < underN s.a s.b s.c by omega)).2 hp
  by_cases hx : p ≤ r
  · exact hx
  · exfalso
    have h2 : (r + 1) ^ s.d.toNat ≤ p ^ s.d.toNat := Nat.pow_le_pow_left (by omega) _
    have h3 := h.2
    omega
theorem root_exact {q r : Nat} {s : T4} (h : IsRoot (freqQ q s) s.d.toNat r) : exactT q s r = true ↔ geF (overN s.a s.b s.c) (underN s.a s.b s.c) s.d.toNat r q := by
  have n2 := under_ne s.a s.b s.c
  unfold exactT freqQ geF at *
  rw [decide_eq_true_iff]
  have h1 := h.1
  have hm := Nat.div_add_mod (q ^ s.d.toNat * overN s.a s.b s.c) (underN s.a s.b s.c)
  have hc := Nat.mul_comm (underN s.a s.b s.c) (q ^ s.d.toNat * overN s.a s.b s.c / underN s.a s.b s.c)
  generalize q ^ s.d.toNat * overN s.a s.b s.c = M at *
  generalize underN s.a s.b s.c = U at *
  generalize r ^ s.d.toNat = P at *
  have hm2 := Nat.mod_lt M (show 0 < U by omega)
  constructor
  · rintro ⟨g1, g2⟩
    rw [g2]
    omega
  · intro g
    have h2 := Nat.mul_le_mul_right U h1
    have g3 : M % U = 0 := by omega
    refine ⟨g3, ?_⟩
    have g4 : P * U = M / U * U := by omega
    exact Nat.eq_of_mul_eq_mul_right (by omega) g4
/-- the upper neighbour with a denominator -/
def upT (q : Nat) (s : T4) (r : Nat) : Nat := if exactT q s r = true then r else r + 1
theorem up_ge {q r : Nat} {s : T4} (h : IsRoot (freqQ q s) s.d.toNat r) (hd : 1 ≤ s.d.toNat) : geF (overN s.a s.b s.c) (underN s.a s.b s.c) s.d.toNat (upT q s r) q := by
  unfold upT
  split
  · next hx => exact (root_exact h).1 hx
  · rcases leF_or_geF (overN s.a s.b s.c) (underN s.a s.b s.c) s.d.toNat (r + 1) q with k | k
    · have := root_max h hd _ k
      omega
    · exact k
theorem up_min {q r : Nat} {s : T4} (h : IsRoot (freqQ q s) s.d.toNat r) (hd : 1 ≤ s.d.toNat) (hq : 1 ≤ q) (p : Nat) (hp : geF (overN s.a s.b s.c) (underN s.a s.b s.c) s.d.toNat p q) : upT q s r ≤ p := by
  have n2 := under_ne s.a s.b s.c
  have h1 := le_ge_order (by omega) hd hq hq (root_le h) hp
  have h2 := Nat.le_of_mul_le_mul_right h1 (show 0 < q by omega)
  unfold upT
  split
  · exact h2
  · next hx =>
    by_cases e : p = r
    · subst e; exact absurd ((root_exact h).2 hp) hx
    · omega
theorem root_lt {q r : Nat} {s : T4} (h : IsRoot (freqQ q s) s.d.toNat r) (hq : 1 ≤ q) (h2 : aboveI s 2 1 = -1) : r < 2 * q := by
  by_cases hx : r < 2 * q
  · exact hx
  · exfalso
    have := leF_mono (n := 2) (d := 1) hq (by omega) (root_le h)
    have := (aboveI_ge s 2 1).2 this
    omega
/-- the reference's fractions -/
def RetFrac (w : World) (s : T4) (most : Nat) (e : Ending) (w' : World) : Prop :=
  ∃ pb qb pa qa : Nat, SoFar (overN s.a s.b s.c) (underN s.a s.b s.c) s.d.toNat most pb qb pa qa ∧ e = .returned (.tuple #[.agg #[.int .i64 (pb : Int), .int .i64 (qb : Int)], .agg #[.int .i64 (pa : Int), .int .i64 (qa : Int)]]) ∧ Below w.heap.size w w'
theorem results_cell_cell {P : Program} {fn : Func} {p r : Tmp} {ty ty2 : TypeId} (h : fn.results = #[.cell p ty, .cell r ty2]) (tmps : Array Value) (w : World) (g g2 : Nat) (t t2 : TypeId) (cs cs2 : Array Value) (fr fr2 : Nat × Nat) (d d2 : TypeDesc)
    (hp : tmps.getD p undef = .pointer (some ⟨g, 0, none⟩)) (hr : tmps.getD r undef = .pointer (some ⟨g2, 0, none⟩)) (hg : w.heap[g]? = some (.cells cs t fr)) (hg2 : w.heap[g2]? = some (.cells cs2 t2 fr2))
    (hu : P.underlying ty = some d) (hd : (match d with | .struct _ | .array _ _ => true | _ => false) = true) (hi : (P.info? ty).map (·.size) = some cs.size)
    (hu2 : P.underlying ty2 = some d2) (hd2 : (match d2 with | .struct _ | .array _ _ => true | _ => false) = true) (hi2 : (P.info? ty2).map (·.size) = some cs2.size) :
    (results fn tmps).run P w = .ok (.tuple #[.agg cs, .agg cs2]) w := by
  have hp' : tmps[p]?.getD undef = .pointer (some ⟨g, 0, none⟩) := by simpa using hp
  have hr' : tmps[r]?.getD undef = .pointer (some ⟨g2, 0, none⟩) := by simpa using hr
  simp [results, h, hp', hr', asAddr, run_loadVar_row w g t ty cs fr d hg hu hd hi, run_loadVar_row w g2 t2 ty2 cs2 fr2 d2 hg2 hu2 hd2 hi2]

set_option maxRecDepth 100000 in
set_option maxHeartbeats 1000000 in
theorem rfarey_calls (s : T4) (most : Nat) (w : World) (hs : validB s.a s.b s.c s.d = true) (hm : 1 ≤ most) (hm2 : most ≤ 4096) (h1 : 0 ≤ aboveI s 1 1) (h2 : aboveI s 2 1 = -1) :
    Calls Tryd.prog 13 #[.agg #[.int .i64 s.a, .int .i64 s.b, .int .i64 s.c, .int .i64 s.d], .int .i64 (most : Int)] w (RetFrac w s most) := by
  have hd1 : 1 ≤ s.d.toNat := by have := (validB_parts hs).1; have := (validB_parts hs).2.1; omega
  have s0 : SoFar (overN s.a s.b s.c) (underN s.a s.b s.c) s.d.toNat 0 1 1 2 1 := by
    refine ⟨⟨by omega, (aboveI_ge s 1 1).1 h1, rfl, fun p q a b => by omega, by omega, (aboveI_le s 2 1).1 (by omega), rfl, fun p q a b => by omega⟩, by omega, by omega⟩
  have HS0 := Lib.hid s0
  have H2 := Lib.hid h2
  have HS := Lib.hid hs
  clear s0 h1 h2 hs
  have vs := Vals.newL w (w.heap.size) [.int .i64 s.a, .int .i64 s.b, .int .i64 s.c, .int .i64 s.d] 23 rfl
  have bb := below_alloc w (.cells #[.int .i64 s.a, .int .i64 s.b, .int .i64 s.c, .int .i64 s.d] 23)
  have B := bb
  have sz0 := World.size_alloc w (.cells #[.int .i64 s.a, .int .i64 s.b, .int .i64 s.c, .int .i64 s.d] 23)
  have sz := sz0
  clear sz0
  clear bb
  have vx := Vals.newL (w.alloc (.cells #[.int .i64 s.a, .int .i64 s.b, .int .i64 s.c, .int .i64 s.d] 23)) (w.heap.size + 1) [.int .i64 0, .int .i64 0] 29 sz.symm
  have bb := below_alloc (w.alloc (.cells #[.int .i64 s.a, .int .i64 s.b, .int .i64 s.c, .int .i64 s.d] 23)) (.cells #[.int .i64 0, .int .i64 0] 29)
  replace vs := vs.mono bb
  replace B := below_trans B bb
  clear bb
  have sz1 := World.size_alloc (w.alloc (.cells #[.int .i64 s.a, .int .i64 s.b, .int .i64 s.c, .int .i64 s.d] 23)) (.cells #[.int .i64 0, .int .i64 0] 29)
  rw [sz] at sz1
  clear sz
  have sz := sz1
  clear sz1
  have vy := Vals.newL ((w.alloc (.cells #[.int .i64 s.a, .int .i64 s.b, .int .i64 s.c, .int .i64 s.d] 23)).alloc (.cells #[.int .i64 0, .int .i64 0] 29)) (w.heap.size + 1 + 1) [.int .i64 0, .int .i64 0] 29 sz.symm
  have bb := below_alloc ((w.alloc (.cells #[.int .i64 s.a, .int .i64 s.b, .int .i64 s.c, .int .i64 s.d] 23)).alloc (.cells #[.int .i64 0, .int .i64 0] 29)) (.cells #[.int .i64 0, .int .i64 0] 29)
  replace vs := vs.mono bb
  replace vx := vx.mono bb
  replace B := below_trans B bb
  clear bb
  have sz2 := World.size_alloc ((w.alloc (.cells #[.int .i64 s.a, .int .i64 s.b, .int .i64 s.c, .int .i64 s.d] 23)).alloc (.cells #[.int .i64 0, .int .i64 0] 29)) (.cells #[.int .i64 0, .int .i64 0] 29)
  rw [sz] at sz2
  clear sz
  have sz := sz2
  clear sz2
  have vb := Vals.newL (((w.alloc (.cells #[.int .i64 s.a, .int .i64 s.b, .int .i64 s.c, .int .i64 s.d] 23)).alloc (.cells #[.int .i64 0, .int .i64 0] 29)).alloc (.cells #[.int .i64 0, .int .i64 0] 29)) (w.heap.size + 1 + 1 + 1) [.int .i64 1, .int .i64 1] 29 sz.symm
  have bb := below_alloc (((w.alloc (.cells #[.int .i64 s.a, .int .i64 s.b, .int .i64 s.c, .int .i64 s.d] 23)).alloc (.cells #[.int .i64 0, .int .i64 0] 29)).alloc (.cells #[.int .i64 0, .int .i64 0] 29)) (.cells #[.int .i64 1, .int .i64 1] 29)
  replace vs := vs.mono bb
  replace vx := vx.mono bb
  replace vy := vy.mono bb
  replace B := below_trans B bb
  clear bb
  have sz3 := World.size_alloc (((w.alloc (.cells #[.int .i64 s.a, .int .i64 s.b, .int .i64 s.c, .int .i64 s.d] 23)).alloc (.cells #[.int .i64 0, .int .i64 0] 29)).alloc (.cells #[.int .i64 0, .int .i64 0] 29)) (.cells #[.int .i64 1, .int .i64 1] 29)
  rw [sz] at sz3
  clear sz
  have sz := sz3
  clear sz3
  have va := Vals.newL ((((w.alloc (.cells #[.int .i64 s.a, .int .i64 s.b, .int .i64 s.c, .int .i64 s.d] 23)).alloc (.cells #[.int .i64 0, .int .i64 0] 29)).alloc (.cells #[.int .i64 0, .int .i64 0] 29)).alloc (.cells #[.int .i64 1, .int .i64 1] 29)) (w.heap.size + 1 + 1 + 1 + 1) [.int .i64 2, .int .i64 1] 29 sz.symm
  have bb := below_alloc ((((w.alloc (.cells #[.int .i64 s.a, .int .i64 s.b, .int .i64 s.c, .int .i64 s.d] 23)).alloc (.cells #[.int .i64 0, .int .i64 0] 29)).alloc (.cells #[.int .i64 0, .int .i64 0] 29)).alloc (.cells #[.int .i64 1, .int .i64 1] 29)) (.cells #[.int .i64 2, .int .i64 1] 29)
  replace vs := vs.mono bb
  replace vx := vx.mono bb
  replace vy := vy.mono bb
  replace vb := vb.mono bb
  replace B := below_trans B bb
  clear sz
  clear bb
  go_enter Tryd.func13, Tryd.ntmps13
  go_wp2_with fail
  generalize (((((w.alloc (.cells #[.int .i64 s.a, .int .i64 s.b, .int .i64 s.c, .int .i64 s.d] 23)).alloc (.cells #[.int .i64 0, .int .i64 0] 29)).alloc (.cells #[.int .i64 0, .int .i64 0] 29)).alloc (.cells #[.int .i64 1, .int .i64 1] 29)).alloc (.cells #[.int .i64 2, .int .i64 1] 29)) = w0 at *
  go_wp2
  go_loopw [8] (fun qv wr => ∃ q pb qb pa qa : Nat, q ≤ most ∧ qv = .int .i64 ((q : Int) + 1) ∧ SoFar (overN s.a s.b s.c) (underN s.a s.b s.c) s.d.toNat q pb qb pa qa ∧ pb ≤ 8192 ∧ pa ≤ 8192 ∧ Below w.heap.size w wr ∧ Vals wr w.heap.size [.int .i64 s.a, .int .i64 s.b, .int .i64 s.c, .int .i64 s.d] ∧ Vals wr (w.heap.size + 1) [.int .i64 0, .int .i64 0] ∧ Vals wr (w.heap.size + 1 + 1) [.int .i64 0, .int .i64 0] ∧ Vals wr (w.heap.size + 1 + 1 + 1) [.int .i64 (pb : Int), .int .i64 (qb : Int)] ∧ Vals wr (w.heap.size + 1 + 1 + 1 + 1) [.int .i64 (pa : Int), .int .i64 (qa : Int)])
    (fun qv _ => (most + 1 - intOf qv).toNat)
  case atStart => exact ⟨0, 1, 1, 2, 1, Nat.zero_le _, rfl, HS0.out, by omega, by omega, B, vs, vx, vy, vb, va⟩
  case round =>
    clear B vs vx vy vb va
    obtain ⟨q, pb, qb, pa, qa, hqm, rfl, hso, hpb, hpa, B, vs, vx, vy, vb, va⟩ := hrel
    have hqb := hso.b
    have hqa := hso.a
    have hqb1 := hso.best.b1
    have hqa1 := hso.best.a1
    have HSO := Lib.hid hso
    clear hso
    by_cases hend : q = most
    · skip
      have hend2 : ¬ ((q : Int) + 1 ≤ (most : Int)) := by omega
      have HE := Lib.hid hend
      clear hend
      go_upto_region 15 with (fail)
      have cvb0 := vb.cell (i := 0) (by simp)
      have cvb1 := vb.cell (i := 1) (by simp)
      simp only [List.getD_cons_zero, List.getD_cons_succ] at cvb0 cvb1
      have ltvb := vb.lt
      have cva0 := va.cell (i := 0) (by simp)
      have cva1 := va.cell (i := 1) (by simp)
      simp only [List.getD_cons_zero, List.getD_cons_succ] at cva0 cva1
      have ltva := va.lt
      have cvx0 := vx.cell (i := 0) (by simp)
      have cvx1 := vx.cell (i := 1) (by simp)
      simp only [List.getD_cons_zero, List.getD_cons_succ] at cvx0 cvx1
      have ltvx := vx.lt
      have fvx0 := vx.frozen 0
      have fvx1 := vx.frozen 1
      have cvy0 := vy.cell (i := 0) (by simp)
      have cvy1 := vy.cell (i := 1) (by simp)
      simp only [List.getD_cons_zero, List.getD_cons_succ] at cvy0 cvy1
      have ltvy := vy.lt
      have fvy0 := vy.frozen 0
      have fvy1 := vy.frozen 1
      go_region
      clear cvb0 cvb1 ltvb cva0 cva1 ltva cvx0 cvx1 ltvx fvx0 fvx1 cvy0 cvy1 ltvy fvy0 fvy1
      have x2 := ((vx.put2 (.int .i64 (pb : Int)) (.int .i64 (qb : Int))).off2 (g := w.heap.size + 1 + 1) (by omega) (.int .i64 (pa : Int)) (.int .i64 (qa : Int))).drew
      have y2 := ((vy.off2 (g := w.heap.size + 1) (by omega) (.int .i64 (pb : Int)) (.int .i64 (qb : Int))).put2 (.int .i64 (pa : Int)) (.int .i64 (qa : Int))).drew
      have bf := (below_put2 (below_put2 (b := w.heap.size + 1) B (by omega) (.int .i64 (pb : Int)) (.int .i64 (qb : Int))) (show w.heap.size ≤ w.heap.size + 1 + 1 by omega) (.int .i64 (pa : Int)) (.int .i64 (qa : Int))).drew
      generalize World.drew _ = W9 at *
      clear B vx vy
      go_wp2
      obtain ⟨te, hg⟩ := x2
      obtain ⟨tf, hg2⟩ := y2
      refine bodyPost_ret_by (results_cell_cell rfl _ _ (w.heap.size + 1) (w.heap.size + 1 + 1) te tf _ _ (0, 0) (0, 0) _ _ rfl rfl hg hg2 Tryd.underlying29 rfl (by kernel_rfl) Tryd.underlying29 rfl (by kernel_rfl)) rfl ?_
      exact ⟨pb, qb, pa, qa, HE.out ▸ HSO.out, rfl, bf⟩
    · skip
      have hlt : q < most := by omega
      have hend2 : (q : Int) + 1 ≤ (most : Int) := by omega
      obtain ⟨r, hr⟩ := freq_exists (q + 1) s HS.out
      have T := fun w : World => rtimesT_calls (q + 1) r s w (by omega) HS.out hr
      have hrlt := root_lt hr (by omega) H2.out
      have hup : upT (q + 1) s r ≤ r + 1 := by unfold upT; split <;> omega
      have hupe : upT (q + 1) s r = if exactT (q + 1) s r = true then r else r + 1 := rfl
      have HLE := Lib.hid (root_le hr)
      have HMX := Lib.hid (root_max hr hd1)
      have HUG := Lib.hid (up_ge hr hd1)
      have HUM := Lib.hid (up_min hr hd1 (by omega))
      have hrl : (limbs r).length ≤ 2 := limbs_bits (x := r) (k := 2) (by omega)
      have UI := fun (v : Value) (w : World) (h : Num w v r) => small_ok v r w h hrl
      have HUI := Lib.hid UI
      clear UI hrl hend hr
      rw [show ((q + 1 : Nat) : Int) = (q : Int) + 1 from rfl] at T
      generalize upT (q + 1) s r = t at *
      generalize exactT (q + 1) s r = ex at *
      have HT := Lib.hid T
      clear T
      have k1 : IntKind.u64.wrap ((q : Int) + 1) = (q : Int) + 1 := by rw [IntKind.wrap_u64]; omega
      have k2 : IntKind.i64.wrap (r : Int) = (r : Int) := IntWalk.i64_in _ (by omega)
      have m1 : r * qb ≤ 8192 * 4096 := Nat.mul_le_mul (by omega) (by omega)
      have m2 : pb * (q + 1) ≤ 8192 * 4096 := Nat.mul_le_mul (by omega) (by omega)
      have m4 : pa * (q + 1) ≤ 8192 * 4096 := Nat.mul_le_mul (by omega) (by omega)
      have e1 : IntKind.i64.wrap (((r : Int)) * (qb : Int)) = ((r * qb : Nat) : Int) := by rw [show ((r : Int)) * (qb : Int) = ((r * qb : Nat) : Int) by simp]; exact IntWalk.i64_in _ (by omega)
      have e2 : IntKind.i64.wrap (((pb : Int)) * ((q : Int) + 1)) = ((pb * (q + 1) : Nat) : Int) := by rw [show ((pb : Int)) * ((q : Int) + 1) = ((pb * (q + 1) : Nat) : Int) by simp]; exact IntWalk.i64_in _ (by omega)
      have e4 : IntKind.i64.wrap (((pa : Int)) * ((q : Int) + 1)) = ((pa * (q + 1) : Nat) : Int) := by rw [show ((pa : Int)) * ((q : Int) + 1) = ((pa * (q + 1) : Nat) : Int) by simp]; exact IntWalk.i64_in _ (by omega)
      have L1 := fun w : World => rlowest_calls r (q + 1) w (by omega) (by omega)
      rw [show ((q + 1 : Nat) : Int) = (q : Int) + 1 from rfl] at L1
      have d1 := Nat.div_le_self r (Nat.gcd r (q + 1))
      generalize hN1 : r * qb = N1 at *
      generalize hN2 : pb * (q + 1) = N2 at *
      generalize hN4 : pa * (q + 1) = N4 at *
      have HN1 := Lib.hid hN1
      have HN2 := Lib.hid hN2
      have HN4 := Lib.hid hN4
      clear hN1 hN2 hN4
      generalize hr1 : r / Nat.gcd r (q + 1) = r1 at *
      generalize hr2 : (q + 1) / Nat.gcd r (q + 1) = r2 at *
      have HR1 := Lib.hid hr1
      have HR2 := Lib.hid hr2
      have HL1 := Lib.hid L1
      clear L1 hr1 hr2
      have cvs0 := vs.cell (i := 0) (by simp)
      have cvs1 := vs.cell (i := 1) (by simp)
      have cvs2 := vs.cell (i := 2) (by simp)
      have cvs3 := vs.cell (i := 3) (by simp)
      simp only [List.getD_cons_zero, List.getD_cons_succ] at cvs0 cvs1 cvs2 cvs3
      have ltvs := vs.lt
      go_wp2_with fail
      clear cvs0 cvs1 cvs2 cvs3 ltvs
      refine (HT.out _).mono ?_
      rintro e x1 ⟨v1, rfl, hn1, bb⟩
      replace vs := vs.mono bb
      replace vx := vx.mono bb
      replace vy := vy.mono bb
      replace vb := vb.mono bb
      replace va := va.mono bb
      replace B := below_trans B bb
      clear bb
      go_wp2_with fail
      refine (HUI.out _ _ hn1).mono ?_
      rintro e xq ⟨rfl, rfl⟩
      clear hn1
      rcases ex with _ | _
      · skip
        obtain rfl : t = r + 1 := by simpa using hupe
        clear hupe
        have m3 : (r + 1) * qa ≤ 8193 * 4096 := Nat.mul_le_mul (by omega) (by omega)
        have e3 : IntKind.i64.wrap (((r : Int) + 1) * (qa : Int)) = (((r + 1) * qa : Nat) : Int) := by rw [show ((r : Int) + 1) * (qa : Int) = (((r + 1) * qa : Nat) : Int) by simp]; exact IntWalk.i64_in _ (by omega)
        have L2 := fun w : World => rlowest_calls (r + 1) (q + 1) w (by omega) (by omega)
        rw [show ((q + 1 : Nat) : Int) = (q : Int) + 1 from rfl] at L2
        have d2 := Nat.div_le_self (r + 1) (Nat.gcd (r + 1) (q + 1))
        rw [show ((r + 1 : Nat) : Int) = (r : Int) + 1 from rfl] at L2
        generalize hN3 : (r + 1) * qa = N3 at *
        have HN3 := Lib.hid hN3
        clear hN3
        generalize ht1 : (r + 1) / Nat.gcd (r + 1) (q + 1) = t1 at *
        generalize ht2 : (q + 1) / Nat.gcd (r + 1) (q + 1) = t2 at *
        have HT1 := Lib.hid ht1
        have HT2 := Lib.hid ht2
        have HL2 := Lib.hid L2
        clear L2 ht1 ht2
        by_cases hb : N2 < N1
        · skip
          have hbi : ((N2 : Nat) : Int) < ((N1 : Nat) : Int) := by omega
          have cvb0 := vb.cell (i := 0) (by simp)
          have cvb1 := vb.cell (i := 1) (by simp)
          simp only [List.getD_cons_zero, List.getD_cons_succ] at cvb0 cvb1
          have ltvb := vb.lt
          go_wp2_with fail
          clear cvb0 cvb1 ltvb
          refine (HL1.out _).mono ?_
          rintro e x2 ⟨rfl, bb⟩
          replace vs := vs.mono bb
          replace vx := vx.mono bb
          replace vy := vy.mono bb
          replace vb := vb.mono bb
          replace va := va.mono bb
          replace B := below_trans B bb
          clear bb
          have cvb0 := vb.cell (i := 0) (by simp)
          have cvb1 := vb.cell (i := 1) (by simp)
          simp only [List.getD_cons_zero, List.getD_cons_succ] at cvb0 cvb1
          have ltvb := vb.lt
          have fvb0 := vb.frozen 0
          have fvb1 := vb.frozen 1
          go_upto_region 13 with (fail)
          clear cvb0 cvb1 ltvb fvb0 fvb1
          replace vs := vs.off2 (g := w.heap.size + 1 + 1 + 1) (by omega) (.int .i64 ((r1 : Int))) (.int .i64 ((r2 : Int)))
          replace vx := vx.off2 (g := w.heap.size + 1 + 1 + 1) (by omega) (.int .i64 ((r1 : Int))) (.int .i64 ((r2 : Int)))
          replace vy := vy.off2 (g := w.heap.size + 1 + 1 + 1) (by omega) (.int .i64 ((r1 : Int))) (.int .i64 ((r2 : Int)))
          replace va := va.off2 (g := w.heap.size + 1 + 1 + 1) (by omega) (.int .i64 ((r1 : Int))) (.int .i64 ((r2 : Int)))
          replace vb := vb.put2 (.int .i64 ((r1 : Int))) (.int .i64 ((r2 : Int)))
          replace B := below_put2 (b := w.heap.size + 1 + 1 + 1) B (by omega) (.int .i64 ((r1 : Int))) (.int .i64 ((r2 : Int)))
          generalize (x2.setCell ⟨w.heap.size + 1 + 1 + 1, 0, none⟩ (.int .i64 ((r1 : Int)))).setCell ⟨w.heap.size + 1 + 1 + 1, 1, none⟩ (.int .i64 ((r2 : Int))) = y1 at *
          by_cases ha : N3 < N4
          · skip
            have hai : ((N3 : Nat) : Int) < ((N4 : Nat) : Int) := by omega
            have cva0 := va.cell (i := 0) (by simp)
            have cva1 := va.cell (i := 1) (by simp)
            simp only [List.getD_cons_zero, List.getD_cons_succ] at cva0 cva1
            have ltva := va.lt
            go_wp2_with fail
            clear cva0 cva1 ltva
            refine (HL2.out _).mono ?_
            rintro e x3 ⟨rfl, bb⟩
            replace vs := vs.mono bb
            replace vx := vx.mono bb
            replace vy := vy.mono bb
            replace vb := vb.mono bb
            replace va := va.mono bb
            replace B := below_trans B bb
            clear bb
            have cva0 := va.cell (i := 0) (by simp)
            have cva1 := va.cell (i := 1) (by simp)
            simp only [List.getD_cons_zero, List.getD_cons_succ] at cva0 cva1
            have ltva := va.lt
            have fva0 := va.frozen 0
            have fva1 := va.frozen 1
            go_upto_region 4 with (fail)
            clear cva0 cva1 ltva fva0 fva1
            replace vs := vs.off2 (g := w.heap.size + 1 + 1 + 1 + 1) (by omega) (.int .i64 ((t1 : Int))) (.int .i64 ((t2 : Int)))
            replace vx := vx.off2 (g := w.heap.size + 1 + 1 + 1 + 1) (by omega) (.int .i64 ((t1 : Int))) (.int .i64 ((t2 : Int)))
            replace vy := vy.off2 (g := w.heap.size + 1 + 1 + 1 + 1) (by omega) (.int .i64 ((t1 : Int))) (.int .i64 ((t2 : Int)))
            replace vb := vb.off2 (g := w.heap.size + 1 + 1 + 1 + 1) (by omega) (.int .i64 ((t1 : Int))) (.int .i64 ((t2 : Int)))
            replace va := va.put2 (.int .i64 ((t1 : Int))) (.int .i64 ((t2 : Int)))
            replace B := below_put2 (b := w.heap.size + 1 + 1 + 1 + 1) B (by omega) (.int .i64 ((t1 : Int))) (.int .i64 ((t2 : Int)))
            generalize (x3.setCell ⟨w.heap.size + 1 + 1 + 1 + 1, 0, none⟩ (.int .i64 ((t1 : Int)))).setCell ⟨w.heap.size + 1 + 1 + 1 + 1, 1, none⟩ (.int .i64 ((t2 : Int))) = y2 at *
            go_wp2
            go_roundw
            case rel => exact ⟨q + 1, r1, r2, t1, t2, by omega, rfl, best_more (by have := under_ne s.a s.b s.c; omega) hd1 HSO.out HLE.out HMX.out HUG.out HUM.out (.inl ⟨by rw [HN1.out, HN2.out]; exact hb, HR1.out.symm, HR2.out.symm⟩) (.inl ⟨by rw [HN3.out, HN4.out]; exact ha, HT1.out.symm, HT2.out.symm⟩), by omega, by omega, B, vs, vx, vy, vb, va⟩
            case measure => simp [intOf]; omega
          · skip
            have hai : ¬ ((N3 : Nat) : Int) < ((N4 : Nat) : Int) := by omega
            have cva0 := va.cell (i := 0) (by simp)
            have cva1 := va.cell (i := 1) (by simp)
            simp only [List.getD_cons_zero, List.getD_cons_succ] at cva0 cva1
            have ltva := va.lt
            go_upto_region 4 with (fail)
            clear cva0 cva1 ltva
            go_wp2
            go_roundw
            case rel => exact ⟨q + 1, r1, r2, pa, qa, by omega, rfl, best_more (by have := under_ne s.a s.b s.c; omega) hd1 HSO.out HLE.out HMX.out HUG.out HUM.out (.inl ⟨by rw [HN1.out, HN2.out]; exact hb, HR1.out.symm, HR2.out.symm⟩) (.inr ⟨by rw [HN3.out, HN4.out]; omega, rfl, rfl⟩), by omega, by omega, B, vs, vx, vy, vb, va⟩
            case measure => simp [intOf]; omega
        · skip
          have hbi : ¬ ((N2 : Nat) : Int) < ((N1 : Nat) : Int) := by omega
          have cvb0 := vb.cell (i := 0) (by simp)
          have cvb1 := vb.cell (i := 1) (by simp)
          simp only [List.getD_cons_zero, List.getD_cons_succ] at cvb0 cvb1
          have ltvb := vb.lt
          go_upto_region 13 with (fail)
          clear cvb0 cvb1 ltvb
          by_cases ha : N3 < N4
          · skip
            have hai : ((N3 : Nat) : Int) < ((N4 : Nat) : Int) := by omega
            have cva0 := va.cell (i := 0) (by simp)
            have cva1 := va.cell (i := 1) (by simp)
            simp only [List.getD_cons_zero, List.getD_cons_succ] at cva0 cva1
            have ltva := va.lt
            go_wp2_with fail
            clear cva0 cva1 ltva
            refine (HL2.out _).mono ?_
            rintro e x3 ⟨rfl, bb⟩
            replace vs := vs.mono bb
            replace vx := vx.mono bb
            replace vy := vy.mono bb
            replace vb := vb.mono bb
            replace va := va.mono bb
            replace B := below_trans B bb
            clear bb
            have cva0 := va.cell (i := 0) (by simp)
            have cva1 := va.cell (i := 1) (by simp)
            simp only [List.getD_cons_zero, List.getD_cons_succ] at cva0 cva1
            have ltva := va.lt
            have fva0 := va.frozen 0
            have fva1 := va.frozen 1
            go_upto_region 4 with (fail)
            clear cva0 cva1 ltva fva0 fva1
            replace vs := vs.off2 (g := w.heap.size + 1 + 1 + 1 + 1) (by omega) (.int .i64 ((t1 : Int))) (.int .i64 ((t2 : Int)))
            replace vx := vx.off2 (g := w.heap.size + 1 + 1 + 1 + 1) (by omega) (.int .i64 ((t1 : Int))) (.int .i64 ((t2 : Int)))
            replace vy := vy.off2 (g := w.heap.size + 1 + 1 + 1 + 1) (by omega) (.int .i64 ((t1 : Int))) (.int .i64 ((t2 : Int)))
            replace vb := vb.off2 (g := w.heap.size + 1 + 1 + 1 + 1) (by omega) (.int .i64 ((t1 : Int))) (.int .i64 ((t2 : Int)))
            replace va := va.put2 (.int .i64 ((t1 : Int))) (.int .i64 ((t2 : Int)))
            replace B := below_put2 (b := w.heap.size + 1 + 1 + 1 + 1) B (by omega) (.int .i64 ((t1 : Int))) (.int .i64 ((t2 : Int)))
            generalize (x3.setCell ⟨w.heap.size + 1 + 1 + 1 + 1, 0, none⟩ (.int .i64 ((t1 : Int)))).setCell ⟨w.heap.size + 1 + 1 + 1 + 1, 1, none⟩ (.int .i64 ((t2 : Int))) = y3 at *
            go_wp2
            go_roundw
            case rel => exact ⟨q + 1, pb, qb, t1, t2, by omega, rfl, best_more (by have := under_ne s.a s.b s.c; omega) hd1 HSO.out HLE.out HMX.out HUG.out HUM.out (.inr ⟨by rw [HN1.out, HN2.out]; omega, rfl, rfl⟩) (.inl ⟨by rw [HN3.out, HN4.out]; exact ha, HT1.out.symm, HT2.out.symm⟩), by omega, by omega, B, vs, vx, vy, vb, va⟩
            case measure => simp [intOf]; omega
          · skip
            have hai : ¬ ((N3 : Nat) : Int) < ((N4 : Nat) : Int) := by omega
            have cva0 := va.cell (i := 0) (by simp)
            have cva1 := va.cell (i := 1) (by simp)
            simp only [List.getD_cons_zero, List.getD_cons_succ] at cva0 cva1
            have ltva := va.lt
            go_upto_region 4 with (fail)
            clear cva0 cva1 ltva
            go_wp2
            go_roundw
            case rel => exact ⟨q + 1, pb, qb, pa, qa, by omega, rfl, best_more (by have := under_ne s.a s.b s.c; omega) hd1 HSO.out HLE.out HMX.out HUG.out HUM.out (.inr ⟨by rw [HN1.out, HN2.out]; omega, rfl, rfl⟩) (.inr ⟨by rw [HN3.out, HN4.out]; omega, rfl, rfl⟩), by omega, by omega, B, vs, vx, vy, vb, va⟩
            case measure => simp [intOf]; omega
      · skip
        obtain rfl : r = t := by simpa using hupe.symm
        clear hupe
        have m3 : r * qa ≤ 8193 * 4096 := Nat.mul_le_mul (by omega) (by omega)
        have e3 : IntKind.i64.wrap (((r : Int)) * (qa : Int)) = ((r * qa : Nat) : Int) := by rw [show ((r : Int)) * (qa : Int) = ((r * qa : Nat) : Int) by simp]; exact IntWalk.i64_in _ (by omega)
        have L2 := fun w : World => rlowest_calls r (q + 1) w (by omega) (by omega)
        rw [show ((q + 1 : Nat) : Int) = (q : Int) + 1 from rfl] at L2
        have d2 := Nat.div_le_self r (Nat.gcd r (q + 1))
        generalize hN3 : r * qa = N3 at *
        have HN3 := Lib.hid hN3
        clear hN3
        simp only [HR1.out, HR2.out] at L2 d2
        have HT1 := HR1
        have HT2 := HR2
        have HL2 := Lib.hid L2
        clear L2
        by_cases hb : N2 < N1
        · skip
          have hbi : ((N2 : Nat) : Int) < ((N1 : Nat) : Int) := by omega
          have cvb0 := vb.cell (i := 0) (by simp)
          have cvb1 := vb.cell (i := 1) (by simp)
          simp only [List.getD_cons_zero, List.getD_cons_succ] at cvb0 cvb1
          have ltvb := vb.lt
          go_wp2_with fail
          clear cvb0 cvb1 ltvb
          refine (HL1.out _).mono ?_
          rintro e x2 ⟨rfl, bb⟩
          replace vs := vs.mono bb
          replace vx := vx.mono bb
          replace vy := vy.mono bb
          replace vb := vb.mono bb
          replace va := va.mono bb
          replace B := below_trans B bb
          clear bb
          have cvb0 := vb.cell (i := 0) (by simp)
          have cvb1 := vb.cell (i := 1) (by simp)
          simp only [List.getD_cons_zero, List.getD_cons_succ] at cvb0 cvb1
          have ltvb := vb.lt
          have fvb0 := vb.frozen 0
          have fvb1 := vb.frozen 1
          go_upto_region 13 with (fail)
          clear cvb0 cvb1 ltvb fvb0 fvb1
          replace vs := vs.off2 (g := w.heap.size + 1 + 1 + 1) (by omega) (.int .i64 ((r1 : Int))) (.int .i64 ((r2 : Int)))
          replace vx := vx.off2 (g := w.heap.size + 1 + 1 + 1) (by omega) (.int .i64 ((r1 : Int))) (.int .i64 ((r2 : Int)))
          replace vy := vy.off2 (g := w.heap.size + 1 + 1 + 1) (by omega) (.int .i64 ((r1 : Int))) (.int .i64 ((r2 : Int)))
          replace va := va.off2 (g := w.heap.size + 1 + 1 + 1) (by omega) (.int .i64 ((r1 : Int))) (.int .i64 ((r2 : Int)))
          replace vb := vb.put2 (.int .i64 ((r1 : Int))) (.int .i64 ((r2 : Int)))
          replace B := below_put2 (b := w.heap.size + 1 + 1 + 1) B (by omega) (.int .i64 ((r1 : Int))) (.int .i64 ((r2 : Int)))
          generalize (x2.setCell ⟨w.heap.size + 1 + 1 + 1, 0, none⟩ (.int .i64 ((r1 : Int)))).setCell ⟨w.heap.size + 1 + 1 + 1, 1, none⟩ (.int .i64 ((r2 : Int))) = y4 at *
          by_cases ha : N3 < N4
          · skip
            have hai : ((N3 : Nat) : Int) < ((N4 : Nat) : Int) := by omega
            have cva0 := va.cell (i := 0) (by simp)
            have cva1 := va.cell (i := 1) (by simp)
            simp only [List.getD_cons_zero, List.getD_cons_succ] at cva0 cva1
            have ltva := va.lt
            go_wp2_with fail
            clear cva0 cva1 ltva
            refine (HL2.out _).mono ?_
            rintro e x3 ⟨rfl, bb⟩
            replace vs := vs.mono bb
            replace vx := vx.mono bb
            replace vy := vy.mono bb
            replace vb := vb.mono bb
            replace va := va.mono bb
            replace B := below_trans B bb
            clear bb
            have cva0 := va.cell (i := 0) (by simp)
            have cva1 := va.cell (i := 1) (by simp)
            simp only [List.getD_cons_zero, List.getD_cons_succ] at cva0 cva1
            have ltva := va.lt
            have fva0 := va.frozen 0
            have fva1 := va.frozen 1
            go_upto_region 4 with (fail)
            clear cva0 cva1 ltva fva0 fva1
            replace vs := vs.off2 (g := w.heap.size + 1 + 1 + 1 + 1) (by omega) (.int .i64 ((r1 : Int))) (.int .i64 ((r2 : Int)))
            replace vx := vx.off2 (g := w.heap.size + 1 + 1 + 1 + 1) (by omega) (.int .i64 ((r1 : Int))) (.int .i64 ((r2 : Int)))
            replace vy := vy.off2 (g := w.heap.size + 1 + 1 + 1 + 1) (by omega) (.int .i64 ((r1 : Int))) (.int .i64 ((r2 : Int)))
            replace vb := vb.off2 (g := w.heap.size + 1 + 1 + 1 + 1) (by omega) (.int .i64 ((r1 : Int))) (.int .i64 ((r2 : Int)))
            replace va := va.put2 (.int .i64 ((r1 : Int))) (.int .i64 ((r2 : Int)))
            replace B := below_put2 (b := w.heap.size + 1 + 1 + 1 + 1) B (by omega) (.int .i64 ((r1 : Int))) (.int .i64 ((r2 : Int)))
            generalize (x3.setCell ⟨w.heap.size + 1 + 1 + 1 + 1, 0, none⟩ (.int .i64 ((r1 : Int)))).setCell ⟨w.heap.size + 1 + 1 + 1 + 1, 1, none⟩ (.int .i64 ((r2 : Int))) = y5 at *
            go_wp2
            go_roundw
            case rel => exact ⟨q + 1, r1, r2, r1, r2, by omega, rfl, best_more (by have := under_ne s.a s.b s.c; omega) hd1 HSO.out HLE.out HMX.out HUG.out HUM.out (.inl ⟨by rw [HN1.out, HN2.out]; exact hb, HR1.out.symm, HR2.out.symm⟩) (.inl ⟨by rw [HN3.out, HN4.out]; exact ha, HT1.out.symm, HT2.out.symm⟩), by omega, by omega, B, vs, vx, vy, vb, va⟩
            case measure => simp [intOf]; omega
          · skip
            have hai : ¬ ((N3 : Nat) : Int) < ((N4 : Nat) : Int) := by omega
            have cva0 := va.cell (i := 0) (by simp)
            have cva1 := va.cell (i := 1) (by simp)
            simp only [List.getD_cons_zero, List.getD_cons_succ] at cva0 cva1
            have ltva := va.lt
            go_upto_region 4 with (fail)
            clear cva0 cva1 ltva
            go_wp2
            go_roundw
            case rel => exact ⟨q + 1, r1, r2, pa, qa, by omega, rfl, best_more (by have := under_ne s.a s.b s.c; omega) hd1 HSO.out HLE.out HMX.out HUG.out HUM.out (.inl ⟨by rw [HN1.out, HN2.out]; exact hb, HR1.out.symm, HR2.out.symm⟩) (.inr ⟨by rw [HN3.out, HN4.out]; omega, rfl, rfl⟩), by omega, by omega, B, vs, vx, vy, vb, va⟩
            case measure => simp [intOf]; omega
        · skip
          have hbi : ¬ ((N2 : Nat) : Int) < ((N1 : Nat) : Int) := by omega
          have cvb0 := vb.cell (i := 0) (by simp)
          have cvb1 := vb.cell (i := 1) (by simp)
          simp only [List.getD_cons_zero, List.getD_cons_succ] at cvb0 cvb1
          have ltvb := vb.lt
          go_upto_region 13 with (fail)
          clear cvb0 cvb1 ltvb
          by_cases ha : N3 < N4
          · skip
            have hai : ((N3 : Nat) : Int) < ((N4 : Nat) : Int) := by omega
            have cva0 := va.cell (i := 0) (by simp)
            have cva1 := va.cell (i := 1) (by simp)
            simp only [List.getD_cons_zero, List.getD_cons_succ] at cva0 cva1
            have ltva := va.lt
            go_wp2_with fail
            clear cva0 cva1 ltva
            refine (HL2.out _).mono ?_
            rintro e x3 ⟨rfl, bb⟩
            replace vs := vs.mono bb
            replace vx := vx.mono bb
            replace vy := vy.mono bb
            replace vb := vb.mono bb
            replace va := va.mono bb
            replace B := below_trans B bb
            clear bb
            have cva0 := va.cell (i := 0) (by simp)
            have cva1 := va.cell (i := 1) (by simp)
            simp only [List.getD_cons_zero, List.getD_cons_succ] at cva0 cva1
            have ltva := va.lt
            have fva0 := va.frozen 0
            have fva1 := va.frozen 1
            go_upto_region 4 with (fail)
            clear cva0 cva1 ltva fva0 fva1
            replace vs := vs.off2 (g := w.heap.size + 1 + 1 + 1 + 1) (by omega) (.int .i64 ((r1 : Int))) (.int .i64 ((r2 : Int)))
            replace vx := vx.off2 (g := w.heap.size + 1 + 1 + 1 + 1) (by omega) (.int .i64 ((r1 : Int))) (.int .i64 ((r2 : Int)))
            replace vy := vy.off2 (g := w.heap.size + 1 + 1 + 1 + 1) (by omega) (.int .i64 ((r1 : Int))) (.int .i64 ((r2 : Int)))
            replace vb := vb.off2 (g := w.heap.size + 1 + 1 + 1 + 1) (by omega) (.int .i64 ((r1 : Int))) (.int .i64 ((r2 : Int)))
            replace va := va.put2 (.int .i64 ((r1 : Int))) (.int .i64 ((r2 : Int)))
            replace B := below_put2 (b := w.heap.size + 1 + 1 + 1 + 1) B (by omega) (.int .i64 ((r1 : Int))) (.int .i64 ((r2 : Int)))
            generalize (x3.setCell ⟨w.heap.size + 1 + 1 + 1 + 1, 0, none⟩ (.int .i64 ((r1 : Int)))).setCell ⟨w.heap.size + 1 + 1 + 1 + 1, 1, none⟩ (.int .i64 ((r2 : Int))) = y6 at *
            go_wp2
            go_roundw
            case rel => exact ⟨q + 1, pb, qb, r1, r2, by omega, rfl, best_more (by have := under_ne s.a s.b s.c; omega) hd1 HSO.out HLE.out HMX.out HUG.out HUM.out (.inr ⟨by rw [HN1.out, HN2.out]; omega, rfl, rfl⟩) (.inl ⟨by rw [HN3.out, HN4.out]; exact ha, HT1.out.symm, HT2.out.symm⟩), by omega, by omega, B, vs, vx, vy, vb, va⟩
            case measure => simp [intOf]; omega
          · skip
            have hai : ¬ ((N3 : Nat) : Int) < ((N4 : Nat) : Int) := by omega
            have cva0 := va.cell (i := 0) (by simp)
            have cva1 := va.cell (i := 1) (by simp)
            simp only [List.getD_cons_zero, List.getD_cons_succ] at cva0 cva1
            have ltva := va.lt
            go_upto_region 4 with (fail)
            clear cva0 cva1 ltva
            go_wp2
            go_roundw
            case rel => exact ⟨q + 1, pb, qb, pa, qa, by omega, rfl, best_more (by have := under_ne s.a s.b s.c; omega) hd1 HSO.out HLE.out HMX.out HUG.out HUM.out (.inr ⟨by rw [HN1.out, HN2.out]; omega, rfl, rfl⟩) (.inr ⟨by rw [HN3.out, HN4.out]; omega, rfl, rfl⟩), by omega, by omega, B, vs, vx, vy, vb, va⟩
            case measure => simp [intOf]; omega

end Go.Proofs
