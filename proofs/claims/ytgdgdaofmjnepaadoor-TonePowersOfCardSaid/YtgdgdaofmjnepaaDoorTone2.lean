/- tone: reduce. -/
import Derived.Test.YtgdgdaofmjnepaaDoorTone1
open Go.RowKit Go.Deep
namespace Go.Proofs
set_option linter.unusedVariables false

/-- a struct and a number are returned -/
theorem results_cell_tmp {P : Program} {fn : Func} {p q : Tmp} {ty : TypeId} (h : fn.results = #[.cell p ty, .tmp q]) (tmps : Array Value) (w : World) (g : Nat) (t : TypeId) (cs : Array Value) (fr : Nat × Nat) (d : TypeDesc)
    (hp : tmps.getD p undef = .pointer (some ⟨g, 0, none⟩)) (hg : w.heap[g]? = some (.cells cs t fr))
    (hu : P.underlying ty = some d) (hd : (match d with | .struct _ | .array _ _ => true | _ => false) = true) (hi : (P.info? ty).map (·.size) = some cs.size) (v : Value) (hv : tmps.getD q undef = v) :
    (results fn tmps).run P w = .ok (.tuple #[.agg cs, v]) w := by
  have hp' : tmps[p]?.getD undef = .pointer (some ⟨g, 0, none⟩) := by simpa using hp
  have hv' : tmps[q]?.getD undef = v := by simpa using hv
  simp [results, h, hp', hv', asAddr, run_loadVar_row w g t ty cs fr d hg hu hd hi]

theorem Vals.set4 {w : World} {b : Nat} {v0 v1 v2 v3 : Value} (h : Vals w b [v0, v1, v2, v3]) (x y z t : Value) :
    Vals ((((w.setCell ⟨b, 0, none⟩ x).setCell ⟨b, 1, none⟩ y).setCell ⟨b, 2, none⟩ z).setCell ⟨b, 3, none⟩ t) b [x, y, z, t] :=
  (((h.set 0 x).set 1 y).set 2 z).set 3 t

theorem below_set4 {B b : Nat} {a w : World} (h : Below B a w) (hb : B ≤ b) (x y z t : Value) :
    Below B a ((((w.setCell ⟨b, 0, none⟩ x).setCell ⟨b, 1, none⟩ y).setCell ⟨b, 2, none⟩ z).setCell ⟨b, 3, none⟩ t) :=
  (((h.setCell (p := ⟨b, 0, none⟩) hb x).setCell (p := ⟨b, 1, none⟩) hb y).setCell (p := ⟨b, 2, none⟩) hb z).setCell (p := ⟨b, 3, none⟩) hb t

/-- a tone and an error are returned -/
def RetT (w : World) (r : T4 × Int) (e : Ending) (w' : World) : Prop :=
  e = .returned (.tuple #[.agg #[.int .i64 r.1.a, .int .i64 r.1.b, .int .i64 r.1.c, .int .i64 r.1.d], .int .i64 r.2]) ∧ Below w.heap.size w w'

def i64 (z : Int) : Prop := -9223372036854775808 ≤ z ∧ z ≤ 9223372036854775807

theorem tdiv_i64 {z : Int} {g : Nat} (h : i64 z) : i64 (z.tdiv g) := by
  have h1 := natAbs_tdiv' z g
  have h2 : z.natAbs / g ≤ z.natAbs := Nat.div_le_self _ _
  rw [tdiv_sgn]
  unfold sgnV i64 at *
  by_cases hz : z < 0
  · rw [decide_eq_true hz, if_pos rfl]; omega
  · rw [decide_eq_false hz, if_neg (by simp)]; omega

set_option maxRecDepth 100000 in
set_option maxHeartbeats 1000000 in
theorem reduce_calls (a b c d : Int) (w : World) (ha : i64 a) (hb : i64 b) (hc : i64 c) (hd : i64 d) (h1 : 1 ≤ d) :
    Calls Tryd.prog 65 #[.int .i64 a, .int .i64 b, .int .i64 c, .int .i64 d] w (RetT w (redT a b c d)) := by
  have hg1 : 1 ≤ gcd4 a b c d := gcdN_pos (by omega)
  have hg2 : gcd4 a b c d < 18446744073709551616 := by
    have h2 := Nat.le_of_dvd (by omega) (gcdN_dvd a.natAbs b.natAbs c.natAbs d.natAbs).2.2.2
    unfold gcd4
    unfold i64 at hd
    omega
  have G : ∀ (w1 : World) (n : Nat), n = w1.heap.size → Calls Tryd.prog 63 #[.slice (some ⟨n, 0, none⟩) 4 4] (w1.alloc (.cells #[.int .u64 (a.natAbs : Int), .int .u64 (b.natAbs : Int), .int .u64 (c.natAbs : Int), .int .u64 (d.natAbs : Int)] 59))
      fun e w' => e = .returned (.int .u64 ((gcd4 a b c d : Nat) : Int)) ∧ ∃ k, w' = (w1.alloc (.cells #[.int .u64 (a.natAbs : Int), .int .u64 (b.natAbs : Int), .int .u64 (c.natAbs : Int), .int .u64 (d.natAbs : Int)] 59)).drewN k := fun w1 n hn => by
    subst hn
    have h := gcd_calls w1.heap.size 4 4 [a.natAbs, b.natAbs, c.natAbs, d.natAbs] (w1.alloc (.cells #[.int .u64 (a.natAbs : Int), .int .u64 (b.natAbs : Int), .int .u64 (c.natAbs : Int), .int .u64 (d.natAbs : Int)] 59)) rfl (by simp)
      (four_lt (by unfold i64 at ha; omega) (by unfold i64 at hb; omega) (by unfold i64 at hc; omega) (by unfold i64 at hd; omega)) (cellU_new _ _ _ _ (by simp))
    rw [gcdTo_four] at h
    exact h
  have HG := Lib.hid G
  clear G
  have hred : redT a b c d = if validB (a.tdiv (gcd4 a b c d)) (b.tdiv (gcd4 a b c d)) (c.tdiv (gcd4 a b c d)) (d.tdiv (gcd4 a b c d)) = true then (⟨a.tdiv (gcd4 a b c d), b.tdiv (gcd4 a b c d), c.tdiv (gcd4 a b c d), d.tdiv (gcd4 a b c d)⟩, 0) else (⟨0, 0, 0, 0⟩, 5) := rfl
  rw [hred]
  clear hred
  have s1 : ∀ w : World, Calls Tryd.prog 64 #[.int .i64 a] w fun e w' => e = .returned (.int .u64 (a.natAbs : Int)) ∧ w' = w := fun w => size_calls a w ha
  have s2 : ∀ w : World, Calls Tryd.prog 64 #[.int .i64 b] w fun e w' => e = .returned (.int .u64 (b.natAbs : Int)) ∧ w' = w := fun w => size_calls b w hb
  have s3 : ∀ w : World, Calls Tryd.prog 64 #[.int .i64 c] w fun e w' => e = .returned (.int .u64 (c.natAbs : Int)) ∧ w' = w := fun w => size_calls c w hc
  have s4 : ∀ w : World, Calls Tryd.prog 64 #[.int .i64 d] w fun e w' => e = .returned (.int .u64 (d.natAbs : Int)) ∧ w' = w := fun w => size_calls d w hd
  have S1 := Lib.hid s1
  have S2 := Lib.hid s2
  have S3 := Lib.hid s3
  have S4 := Lib.hid s4
  clear s1 s2 s3 s4
  generalize gcd4 a b c d = g at *
  have PA := fun (b : Nat) (w : World) hc => tpart_calls a g b w ha hg1 hg2 hc
  have PB := fun (n : Nat) (w : World) hc => tpart_calls b g n w hb hg1 hg2 hc
  have PC := fun (n : Nat) (w : World) hn => tpart_calls c g n w hc hg1 hg2 hn
  have PD := fun (n : Nat) (w : World) hc => tpart_calls d g n w hd hg1 hg2 hc
  have V := tvalid_calls (a.tdiv g) (b.tdiv g) (c.tdiv g) (d.tdiv g)
  have V1 := fun w => V w (tdiv_i64 ha) (tdiv_i64 hb) (tdiv_i64 hc) (tdiv_i64 hd)
  have HV := Lib.hid V1
  clear V V1
  obtain ⟨x, ex⟩ : ∃ x, a.tdiv g = x := ⟨_, rfl⟩
  obtain ⟨y, ey⟩ : ∃ x, b.tdiv g = x := ⟨_, rfl⟩
  obtain ⟨z, ez⟩ : ∃ x, c.tdiv g = x := ⟨_, rfl⟩
  obtain ⟨t, et⟩ : ∃ x, d.tdiv g = x := ⟨_, rfl⟩
  rw [ex, ey, ez, et] at HV ⊢
  simp only [ex] at PA
  simp only [ey] at PB
  simp only [ez] at PC
  simp only [et] at PD
  have HPA := Lib.hid PA
  have HPB := Lib.hid PB
  have HPC := Lib.hid PC
  have HPD := Lib.hid PD
  clear PA PB PC PD ha hb hc hd h1 hg1 hg2 ex ey ez et
  have vr := Vals.newL w w.heap.size [.int .i64 0, .int .i64 0, .int .i64 0, .int .i64 0] 23 rfl
  have B := below_alloc w (.cells #[.int .i64 0, .int .i64 0, .int .i64 0, .int .i64 0] 23)
  have R1 : RetT w (if validB x y z t = true then (⟨x, y, z, t⟩, 0) else (⟨0, 0, 0, 0⟩, 5)) = RetT w (if validB x y z t = true then (⟨x, y, z, t⟩, 0) else (⟨0, 0, 0, 0⟩, 5)) := rfl
  cases hv : validB x y z t
  all_goals
    rw [hv] at HV
    simp only [Bool.false_eq_true, if_false, if_true]
    clear hv R1
    go_enter Tryd.func65, Tryd.ntmps65
    go_wp2_with fail
    refine (S1.out _).mono ?_
    rintro e wq ⟨rfl, rfl⟩
    go_wp2_with fail
    refine (S2.out _).mono ?_
    rintro e wq ⟨rfl, rfl⟩
    go_wp2_with fail
    refine (S3.out _).mono ?_
    rintro e wq ⟨rfl, rfl⟩
    go_wp2_with fail
    refine (S4.out _).mono ?_
    rintro e wq ⟨rfl, rfl⟩
    go_wp2_with fail
    have sz := World.size_alloc w (.cells #[.int .i64 0, .int .i64 0, .int .i64 0, .int .i64 0] 23)
    generalize w.alloc (.cells #[.int .i64 0, .int .i64 0, .int .i64 0, .int .i64 0] 23) = w1 at *
    refine (HG.out w1 _ sz.symm).mono ?_
    rintro e w2 ⟨rfl, k, rfl⟩
    have b2 := below_alloc w1 (.cells #[.int .u64 (a.natAbs : Int), .int .u64 (b.natAbs : Int), .int .u64 (c.natAbs : Int), .int .u64 (d.natAbs : Int)] 59)
    have sz2 : ((w1.alloc (.cells #[.int .u64 (a.natAbs : Int), .int .u64 (b.natAbs : Int), .int .u64 (c.natAbs : Int), .int .u64 (d.natAbs : Int)] 59)).drewN k).heap.size = w.heap.size + 1 + 1 := by
      rw [← sz]; exact World.size_alloc _ _
    replace vr := (vr.mono b2).drewN k
    replace B := below_drewN (below_trans B b2) k
    clear b2 sz
    generalize (w1.alloc (.cells #[.int .u64 (a.natAbs : Int), .int .u64 (b.natAbs : Int), .int .u64 (c.natAbs : Int), .int .u64 (d.natAbs : Int)] 59)).drewN k = w2 at *
    have vg := Vals.newL w2 w2.heap.size [.int .u64 (g : Int)] 59 rfl
    have b2 := below_alloc w2 (.cells #[.int .u64 (g : Int)] 59)
    replace vr := vr.mono b2
    replace B := below_trans B b2
    clear b2 sz2
    go_wp2_with fail
    generalize w2.alloc (.cells #[.int .u64 (g : Int)] 59) = w3 at *
    have cg : w3.cell? ⟨w2.heap.size, 0, none⟩ = some (.int .u64 (g : Int)) := vg.cell (i := 0) (by simp)
    refine (HPA.out _ w3 cg).mono ?_
    rintro e w4 ⟨rfl, k1, rfl⟩
    go_wp2_with fail
    refine (HPB.out _ _ (by exact cg)).mono ?_
    rintro e w4 ⟨rfl, k2, rfl⟩
    go_wp2_with fail
    refine (HPC.out _ _ (by exact cg)).mono ?_
    rintro e w4 ⟨rfl, k3, rfl⟩
    go_wp2_with fail
    refine (HPD.out _ _ (by exact cg)).mono ?_
    rintro e w4 ⟨rfl, k4, hw4⟩
    replace vr : Vals w4 w.heap.size [.int .i64 0, .int .i64 0, .int .i64 0, .int .i64 0] := by rw [hw4]; exact (vr.drewN _).drewN _
    replace B : Below w.heap.size w w4 := by rw [hw4]; exact below_drewN (below_drewN B _) _
    clear hw4 cg vg
    go_wp2_with fail
    have vz := Vals.newL w4 w4.heap.size [.int .i64 x, .int .i64 y, .int .i64 z, .int .i64 t] 23 rfl
    have b5 := below_alloc w4 (.cells #[.int .i64 x, .int .i64 y, .int .i64 z, .int .i64 t] 23)
    replace vr := vr.mono b5
    replace B := below_trans B b5
    clear b5
    generalize w4.alloc (.cells #[.int .i64 x, .int .i64 y, .int .i64 z, .int .i64 t] 23) = w5 at *
    refine (HV.out _).mono ?_
    rintro e w6 ⟨rfl, b6⟩
    replace vr := vr.mono b6
    replace vz := vz.mono b6
    replace B := below_trans B b6
    clear b6
    have cr0 := vr.cell (i := 0) (by simp)
    have cr1 := vr.cell (i := 1) (by simp)
    have cr2 := vr.cell (i := 2) (by simp)
    have cr3 := vr.cell (i := 3) (by simp)
    have cz0 := vz.cell (i := 0) (by simp)
    have cz1 := vz.cell (i := 1) (by simp)
    have cz2 := vz.cell (i := 2) (by simp)
    have cz3 := vz.cell (i := 3) (by simp)
    have fr0 := vr.frozen 0
    have fr1 := vr.frozen 1
    have fr2 := vr.frozen 2
    have fr3 := vr.frozen 3
    simp only [List.getD_cons_zero, List.getD_cons_succ] at cr0 cr1 cr2 cr3 cz0 cz1 cz2 cz3
    clear HPA HPB HPC HPD S1 S2 S3 S4 HG HV
    go_wp2_with fail
    clear cr0 cr1 cr2 cr3 cz0 cz1 cz2 cz3 fr0 fr1 fr2 fr3
  · obtain ⟨te, hg⟩ := vr.set4 (.int .i64 0) (.int .i64 0) (.int .i64 0) (.int .i64 0)
    refine bodyPost_ret_by (results_cell_tmp rfl _ _ w.heap.size te _ (0, 0) _ rfl hg Tryd.underlying23 rfl (by kernel_rfl) (.int .i64 5) rfl) rfl ?_
    exact ⟨rfl, below_set4 B (Nat.le_refl _) _ _ _ _⟩
  · obtain ⟨te, hg⟩ := vr.set4 (.int .i64 x) (.int .i64 y) (.int .i64 z) (.int .i64 t)
    refine bodyPost_ret_by (results_cell_tmp rfl _ _ w.heap.size te _ (0, 0) _ rfl hg Tryd.underlying23 rfl (by kernel_rfl) (.int .i64 0) rfl) rfl ?_
    exact ⟨rfl, below_set4 B (Nat.le_refl _) _ _ _ _⟩

end Go.Proofs
