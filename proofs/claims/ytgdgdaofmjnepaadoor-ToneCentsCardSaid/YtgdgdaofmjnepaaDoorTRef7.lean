/- The reference's Log; the law's one. -/
import Derived.Test.YtgdgdaofmjnepaaDoorTRef6
open Go.RowKit Go.Deep
namespace Go.Proofs
set_option linter.unusedVariables false

theorem abs_mul_den {a d : Int} (h1 : a.natAbs ≤ 960) (h2 : 1 ≤ d ∧ d ≤ 1200) : (a * d).natAbs ≤ 1200000 := by
  have := Nat.mul_le_mul h1 (show d.natAbs ≤ 1200 by omega)
  rw [← Int.natAbs_mul] at this
  omega

/-- what Log answers: a comparison of the tone to a power with a power of 2 -/
def logI (s : T4) (n d : Int) : Int := cmpInt (overN (s.a * d) (s.b * d) (s.c * d) * 2 ^ (-(n * s.d)).toNat) (underN (s.a * d) (s.b * d) (s.c * d) * 2 ^ (n * s.d).toNat)

theorem logI_ge (s : T4) (n d : Int) : 0 ≤ logI s n d ↔ n * s.d ≤ fl ⟨s.a * d, s.b * d, s.c * d⟩ := by
  unfold logI
  rw [← leP_cmp, leP_iff (over_ne _ _ _) (under_ne _ _ _)]
  rfl

theorem log_cents {s : T4} (hd : 1 ≤ s.d) (n : Int) : 0 ≤ logI s n 1200 ↔ n ≤ centsT s := by
  rw [logI_ge, Int.mul_comm s.a, Int.mul_comm s.b, Int.mul_comm s.c]
  unfold centsT
  rw [Int.le_ediv_iff_mul_le (by omega)]

set_option maxRecDepth 100000 in
theorem rlog_calls (s : T4) (n d r : Int) (w : World) (hs : validB s.a s.b s.c s.d = true) (hd : 1 ≤ d ∧ d ≤ 1200) (hn : n.natAbs ≤ 2000000) (hr : logI s n d = r) :
    Calls Tryd.prog 30 #[.agg #[.int .i64 s.a, .int .i64 s.b, .int .i64 s.c, .int .i64 s.d], .int .i64 n, .int .i64 d] w (RetInt w r) := by
  obtain ⟨p1, p2, p3, p4, p5, p6⟩ := validB_parts hs
  have hu1 := abs_mul_den p4 hd
  have hu2 := abs_mul_den p5 hd
  have hu3 := abs_mul_den p6 hd
  have hu4 : (n * s.d).natAbs ≤ 2000000 * 24 := by
    rw [Int.natAbs_mul]
    exact Nat.mul_le_mul hn (by omega)
  have R := fun w : World => rsides_calls (s.a * d) (s.b * d) (s.c * d) w hu1 hu2 hu3
  have l1 := over_len hu1 hu2 hu3
  have l2 := under_len hu1 hu2 hu3
  unfold logI at hr
  have C := fun (v1 v2 : Value) (w : World) (h1 : Num w v1 _) (h2 : Num w v2 _) => ragainst_calls v1 v2 (overN (s.a * d) (s.b * d) (s.c * d)) (underN (s.a * d) (s.b * d) (s.c * d)) (n * s.d) r w h1 h2 (by omega) (by omega) (by omega) hr
  generalize overN (s.a * d) (s.b * d) (s.c * d) = O at *
  generalize underN (s.a * d) (s.b * d) (s.c * d) = U at *
  have HR := Lib.hid R
  have HC := Lib.hid C
  have k1 : wrap64 (s.a * d) = s.a * d := wrap64_small (by omega)
  have k2 : wrap64 (s.b * d) = s.b * d := wrap64_small (by omega)
  have k3 : wrap64 (s.c * d) = s.c * d := wrap64_small (by omega)
  have k4 : wrap64 (n * s.d) = n * s.d := wrap64_small (by omega)
  have K1 := Lib.hid k1
  have K2 := Lib.hid k2
  have K3 := Lib.hid k3
  have K4 := Lib.hid k4
  clear R C hs hr hn hd k1 k2 k3 k4 p1 p2 p3 p4 p5 p6 hu1 hu2 hu3 hu4 l1 l2
  have vs := Vals.newL w (w.heap.size) [.int .i64 s.a, .int .i64 s.b, .int .i64 s.c, .int .i64 s.d] 23 rfl
  have bb := below_alloc w (.cells #[.int .i64 s.a, .int .i64 s.b, .int .i64 s.c, .int .i64 s.d] 23)
  have B := bb
  clear bb
  go_enter Tryd.func30, Tryd.ntmps30
  go_wp2_with fail
  generalize (w.alloc (.cells #[.int .i64 s.a, .int .i64 s.b, .int .i64 s.c, .int .i64 s.d] 23)) = w0 at *
  have cvs0 := vs.cell (i := 0) (by simp)
  have cvs1 := vs.cell (i := 1) (by simp)
  have cvs2 := vs.cell (i := 2) (by simp)
  have cvs3 := vs.cell (i := 3) (by simp)
  simp only [List.getD_cons_zero, List.getD_cons_succ] at cvs0 cvs1 cvs2 cvs3
  have ltvs := vs.lt
  try go_wp2_with fail
  clear cvs0 cvs1 cvs2 cvs3 ltvs
  rw [K1.out, K2.out, K3.out]
  refine (HR.out _).mono ?_
  rintro e w1 ⟨v1, v2, rfl, h5, h6, b1⟩
  replace vs := vs.mono b1
  replace B := below_trans B b1
  clear b1
  have cvs0 := vs.cell (i := 0) (by simp)
  have cvs1 := vs.cell (i := 1) (by simp)
  have cvs2 := vs.cell (i := 2) (by simp)
  have cvs3 := vs.cell (i := 3) (by simp)
  simp only [List.getD_cons_zero, List.getD_cons_succ] at cvs0 cvs1 cvs2 cvs3
  have ltvs := vs.lt
  try go_wp2_with fail
  clear cvs0 cvs1 cvs2 cvs3 ltvs
  rw [K4.out]
  refine (HC.out _ _ _ h5 h6).mono ?_
  rintro e w2 ⟨rfl, b2⟩
  replace vs := vs.mono b2
  replace h5 := h5.mono b2
  replace h6 := h6.mono b2
  replace B := below_trans B b2
  clear b2
  go_wp2
  go_ret
  exact ⟨rfl, B⟩

theorem one_calls (w : World) :
    Calls Tryd.prog 44 #[] w fun e w' => e = .returned (.agg #[.int .i64 0, .int .i64 0, .int .i64 0, .int .i64 1]) ∧ Below w.heap.size w w' := by
  have vr := Vals.newL w w.heap.size [.int .i64 0, .int .i64 0, .int .i64 0, .int .i64 1] 23 rfl
  have B := below_alloc w (.cells #[.int .i64 0, .int .i64 0, .int .i64 0, .int .i64 1] 23)
  go_enter Tryd.func44, Tryd.ntmps44
  go_wp2
  obtain ⟨te, hg⟩ := vr
  refine bodyPost_ret_by (results_cell_row rfl _ _ w.heap.size te _ (0, 0) _ rfl hg Tryd.underlying23 rfl (by kernel_rfl)) rfl ?_
  exact ⟨rfl, B⟩

end Go.Proofs
