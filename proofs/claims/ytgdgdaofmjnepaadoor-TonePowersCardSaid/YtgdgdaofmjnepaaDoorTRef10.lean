/- The reference's Power. -/
import Derived.Test.YtgdgdaofmjnepaaDoorTRef9
import Derived.Deep.RegionHeld3
open Go.RowKit Go.Deep
namespace Go.Proofs
set_option linter.unusedVariables false

theorem vals42 {w : World} {b c : Nat} {v0 v1 v2 v3 u0 u1 : Value} (h : Vals w b [v0, v1, v2, v3]) (k : Vals w c [u0, u1]) :
    w.cell? ⟨b, 0, none⟩ = some v0 ∧ w.cell? ⟨b, 1, none⟩ = some v1 ∧ w.cell? ⟨b, 2, none⟩ = some v2 ∧ w.cell? ⟨b, 3, none⟩ = some v3 ∧ w.cell? ⟨c, 0, none⟩ = some u0 ∧ w.cell? ⟨c, 1, none⟩ = some u1 :=
  ⟨h.cell (i := 0) (by simp), h.cell (i := 1) (by simp), h.cell (i := 2) (by simp), h.cell (i := 3) (by simp), k.cell (i := 0) (by simp), k.cell (i := 1) (by simp)⟩
theorem vals_off4 {w : World} {b g : Nat} {vs : List Value} (h : Vals w b vs) (hg : g ≠ b) (x y z t : Value) : Vals ((((w.setCell ⟨g, 0, none⟩ x).setCell ⟨g, 1, none⟩ y).setCell ⟨g, 2, none⟩ z).setCell ⟨g, 3, none⟩ t) b vs :=
  (((h.other ⟨g, 0, none⟩ hg x).other ⟨g, 1, none⟩ hg y).other ⟨g, 2, none⟩ hg z).other ⟨g, 3, none⟩ hg t

set_option maxRecDepth 100000 in
set_option maxHeartbeats 1000000 in
theorem rpowerT_ok (s : T4) (num den : Int) (w : World) (hs : validB s.a s.b s.c s.d = true) (hn : i64 num) (hd : i64 den) (hd1 : 1 ≤ den) :
    Calls Tryd.prog 25 #[.agg #[.int .i64 s.a, .int .i64 s.b, .int .i64 s.c, .int .i64 s.d], .int .i64 num, .int .i64 den] w (RetT w (powT s num den)) := by
  obtain ⟨p1, p2, p3, p4, p5, p6⟩ := validB_parts hs
  obtain ⟨i1, i2, i3, i4⟩ := validB_i64 hs
  have td : ¬ den < 1 := by omega
  have hdk : 1 ≤ s.d * den := prod_pos p2 hd1
  have la : ∀ z : Int, i64 z → (limbs z.natAbs).length ≤ 2 := fun z h => limbs_length_le (n := z.natAbs) (k := 2) (by unfold i64 at h; omega)
  have l1 := la _ i1
  have l2 := la _ i2
  have l3 := la _ i3
  have l4 := la _ i4
  have l5 := la _ hn
  have l6 := la _ hd
  have m1 := limbs_length_mul s.a.natAbs num.natAbs
  have m2 := limbs_length_mul s.b.natAbs num.natAbs
  have m3 := limbs_length_mul s.c.natAbs num.natAbs
  have m4 := limbs_length_mul s.d.natAbs den.natAbs
  have Oa := fun w : World => rbig_calls s.a w i1
  have Ob := fun w : World => rbig_calls s.b w i2
  have Oc := fun w : World => rbig_calls s.c w i3
  have Od := fun w : World => rbig_calls s.d w i4
  have On := fun w : World => rbig_calls num w hn
  have Ok := fun w : World => rbig_calls den w hd
  have T1 := fun (v u : Value) (w : World) (k1 : Num w v s.a.natAbs) (k2 : Num w u num.natAbs) => rbigmul_calls v u (decide (s.a < 0)) (decide (num < 0)) _ _ w k1 k2 (by omega) (by omega)
  have T2 := fun (v u : Value) (w : World) (k1 : Num w v s.b.natAbs) (k2 : Num w u num.natAbs) => rbigmul_calls v u (decide (s.b < 0)) (decide (num < 0)) _ _ w k1 k2 (by omega) (by omega)
  have T3 := fun (v u : Value) (w : World) (k1 : Num w v s.c.natAbs) (k2 : Num w u num.natAbs) => rbigmul_calls v u (decide (s.c < 0)) (decide (num < 0)) _ _ w k1 k2 (by omega) (by omega)
  have T4 := fun (v u : Value) (w : World) (k1 : Num w v s.d.natAbs) (k2 : Num w u den.natAbs) => rbigmul_calls v u (decide (s.d < 0)) (decide (den < 0)) _ _ w k1 k2 (by omega) (by omega)
  have R := fun (x1 x2 x3 x4 : Value) (w : World) (k1 : Num w x1 (s.a.natAbs * num.natAbs)) (k2 : Num w x2 (s.b.natAbs * num.natAbs)) (k3 : Num w x3 (s.c.natAbs * num.natAbs)) (k4 : Num w x4 (s.d.natAbs * den.natAbs)) =>
    rreduce_calls x1 x2 x3 x4 (decide (s.a < 0) != decide (num < 0)) (decide (s.b < 0) != decide (num < 0)) (decide (s.c < 0) != decide (num < 0)) (decide (s.d < 0) != decide (den < 0)) _ _ _ _ w k1 k2 k3 k4 (by omega) (by omega) (by omega) (by omega) (by rw [← Int.natAbs_mul]; omega)
  rw [redBig_mul hdk] at R
  have e0 : powT s num den = redT (s.a * num) (s.b * num) (s.c * num) (s.d * den) := rfl
  rw [e0]
  generalize redT (s.a * num) (s.b * num) (s.c * num) (s.d * den) = r at *
  obtain ⟨⟨x, y, z, u⟩, k⟩ := r
  generalize (decide (s.a < 0) != decide (num < 0)) = M1 at *
  generalize (decide (s.b < 0) != decide (num < 0)) = M2 at *
  generalize (decide (s.c < 0) != decide (num < 0)) = M3 at *
  generalize (decide (s.d < 0) != decide (den < 0)) = M4 at *
  generalize s.a.natAbs * num.natAbs = na' at *
  generalize s.b.natAbs * num.natAbs = nb' at *
  generalize s.c.natAbs * num.natAbs = nc' at *
  generalize s.d.natAbs * den.natAbs = nd' at *
  generalize decide (s.a < 0) = ma at *
  generalize decide (s.b < 0) = mb at *
  generalize decide (s.c < 0) = mc at *
  generalize decide (s.d < 0) = md at *
  generalize decide (num < 0) = mn at *
  generalize decide (den < 0) = mk at *
  generalize s.a.natAbs = na at *
  generalize s.b.natAbs = nb at *
  generalize s.c.natAbs = nc at *
  generalize s.d.natAbs = nd at *
  generalize num.natAbs = nn at *
  generalize den.natAbs = nk at *
  have HOa := Lib.hid Oa
  have HOb := Lib.hid Ob
  have HOc := Lib.hid Oc
  have HOd := Lib.hid Od
  have HOn := Lib.hid On
  have HOk := Lib.hid Ok
  have HT1 := Lib.hid T1
  have HT2 := Lib.hid T2
  have HT3 := Lib.hid T3
  have HT4 := Lib.hid T4
  have HR := Lib.hid R
  clear Oa Ob Oc Od On Ok T1 T2 T3 T4 R la l1 l2 l3 l4 l5 l6 m1 m2 m3 m4 i1 i2 i3 i4 p1 p2 p3 p4 p5 p6 hs hn hd hd1 hdk e0
  have vs := Vals.newL w (w.heap.size) [.int .i64 s.a, .int .i64 s.b, .int .i64 s.c, .int .i64 s.d] 23 rfl
  have bb := below_alloc w (.cells #[.int .i64 s.a, .int .i64 s.b, .int .i64 s.c, .int .i64 s.d] 23)
  have B := bb
  have sz0 := World.size_alloc w (.cells #[.int .i64 s.a, .int .i64 s.b, .int .i64 s.c, .int .i64 s.d] 23)
  have sz := sz0
  clear sz0
  clear bb
  have vr := Vals.newL (w.alloc (.cells #[.int .i64 s.a, .int .i64 s.b, .int .i64 s.c, .int .i64 s.d] 23)) (w.heap.size + 1) [.int .i64 0, .int .i64 0, .int .i64 0, .int .i64 0] 23 sz.symm
  have bb := below_alloc (w.alloc (.cells #[.int .i64 s.a, .int .i64 s.b, .int .i64 s.c, .int .i64 s.d] 23)) (.cells #[.int .i64 0, .int .i64 0, .int .i64 0, .int .i64 0] 23)
  replace vs := vs.mono bb
  replace B := below_trans B bb
  clear sz
  clear bb
  go_enter Tryd.func25, Tryd.ntmps25
  go_wp2_with fail
  generalize ((w.alloc (.cells #[.int .i64 s.a, .int .i64 s.b, .int .i64 s.c, .int .i64 s.d] 23)).alloc (.cells #[.int .i64 0, .int .i64 0, .int .i64 0, .int .i64 0] 23)) = w0 at *
  refine (HOn.out _).mono ?_
  rintro e w1 ⟨xn, rfl, hn, b1⟩
  replace vs := vs.mono b1
  replace vr := vr.mono b1
  replace B := below_trans B b1
  clear b1
  have bp : w.heap.size + 1 < w1.heap.size := vr.lt
  obtain ⟨adn, cn, rfl, sn⟩ := hn
  have hn : Num w1 (.slice adn (limbs nn).length cn) nn := ⟨_, _, rfl, sn⟩
  clear sn
  go_upto_region 4 with (fail)
  have vp := Vals.newL w1 w1.heap.size [.bool mn, .slice adn (limbs nn).length cn] 83 rfl
  have bb := below_alloc w1 (.cells #[.bool mn, .slice adn (limbs nn).length cn] 83)
  replace vs := vs.mono bb
  replace vr := vr.mono bb
  replace hn := hn.mono bb
  replace B := below_trans B bb
  clear bb
  generalize w1.alloc (.cells #[.bool mn, .slice adn (limbs nn).length cn] 83) = w2 at *
  replace hn := Num.drew'' hn
  go_region_held3 (fun w' => w'.cell? ⟨w.heap.size, 0, none⟩ = some (.int .i64 s.a) ∧ w'.cell? ⟨w.heap.size, 1, none⟩ = some (.int .i64 s.b) ∧ w'.cell? ⟨w.heap.size, 2, none⟩ = some (.int .i64 s.c) ∧ w'.cell? ⟨w.heap.size, 3, none⟩ = some (.int .i64 s.d) ∧ w'.cell? ⟨w1.heap.size, 0, none⟩ = some (.bool mn) ∧ w'.cell? ⟨w1.heap.size, 1, none⟩ = some (.slice adn (limbs nn).length cn))
    (first | exact vals42 vs vp | exact vals42 vs.drew vp.drew | exact vals42 (vals_off4 vs (show w.heap.size + 1 ≠ w.heap.size by omega) _ _ _ _) (vals_off4 vp (show w.heap.size + 1 ≠ w1.heap.size by omega) _ _ _ _))
    (first | (go_at_call 66; (with_reducible refine (HOa.out _ ).mono ?_); rintro e W0 ⟨ya, rfl, ka, c0⟩; replace hn := hn.mono c0; replace vs := vs.drew.mono c0; replace vr := vr.drew.mono c0; replace vp := vp.drew.mono c0; replace B := below_trans B.drew c0; clear c0)
           | (go_at_call 68; (with_reducible refine (HT1.out _ _ _ ka hn).mono ?_); rintro e W1 ⟨za, rfl, ta, c1⟩; replace hn := hn.mono c1; replace vs := vs.mono c1; replace vr := vr.mono c1; replace vp := vp.mono c1; replace B := below_trans B c1; clear c1 ka)
           | (go_at_call 66; (with_reducible refine (HOb.out _ ).mono ?_); rintro e W2 ⟨yb, rfl, kb, c2⟩; replace hn := hn.mono c2; replace ta := ta.mono c2; replace vs := vs.mono c2; replace vr := vr.mono c2; replace vp := vp.mono c2; replace B := below_trans B c2; clear c2)
           | (go_at_call 68; (with_reducible refine (HT2.out _ _ _ kb hn).mono ?_); rintro e W3 ⟨zb, rfl, tb, c3⟩; replace hn := hn.mono c3; replace ta := ta.mono c3; replace vs := vs.mono c3; replace vr := vr.mono c3; replace vp := vp.mono c3; replace B := below_trans B c3; clear c3 kb)
           | (go_at_call 66; (with_reducible refine (HOc.out _ ).mono ?_); rintro e W4 ⟨yc, rfl, kc, c4⟩; replace hn := hn.mono c4; replace ta := ta.mono c4; replace tb := tb.mono c4; replace vs := vs.mono c4; replace vr := vr.mono c4; replace vp := vp.mono c4; replace B := below_trans B c4; clear c4)
           | (go_at_call 68; (with_reducible refine (HT3.out _ _ _ kc hn).mono ?_); rintro e W5 ⟨zc, rfl, tc, c5⟩; replace ta := ta.mono c5; replace tb := tb.mono c5; replace vs := vs.mono c5; replace vr := vr.mono c5; replace vp := vp.mono c5; replace B := below_trans B c5; clear c5 kc hn)
           | (go_at_call 66; (with_reducible refine (HOd.out _ ).mono ?_); rintro e W6 ⟨yd, rfl, kd, c6⟩; replace ta := ta.mono c6; replace tb := tb.mono c6; replace tc := tc.mono c6; replace vs := vs.mono c6; replace vr := vr.mono c6; replace vp := vp.mono c6; replace B := below_trans B c6; clear c6)
           | (go_at_call 66; (with_reducible refine (HOk.out _ ).mono ?_); rintro e W7 ⟨yk, rfl, kk, c7⟩; replace ta := ta.mono c7; replace tb := tb.mono c7; replace tc := tc.mono c7; replace kd := kd.mono c7; replace vs := vs.mono c7; replace vr := vr.mono c7; replace vp := vp.mono c7; replace B := below_trans B c7; clear c7)
           | (go_at_call 68; (with_reducible refine (HT4.out _ _ _ kd kk).mono ?_); rintro e W8 ⟨zd, rfl, te, c8⟩; replace ta := ta.mono c8; replace tb := tb.mono c8; replace tc := tc.mono c8; replace vs := vs.mono c8; replace vr := vr.mono c8; replace vp := vp.mono c8; replace B := below_trans B c8; clear c8 kd kk)
           | (go_at_call 67; (with_reducible refine (HR.out _ _ _ _ _ ta tb tc te).mono ?_); rintro e W9 ⟨rfl, c9⟩; replace vs := vs.mono c9; replace vr := vr.mono c9; replace vp := vp.mono c9; replace B := below_trans B c9; clear c9 ta tb tc te; have ltr5 := vr.lt; have gr0 := vr.frozen 0; have gr1 := vr.frozen 1; have gr2 := vr.frozen 2; have gr3 := vr.frozen 3; have cr0 := vr.cell (i := 0) (by simp); have cr1 := vr.cell (i := 1) (by simp); have cr2 := vr.cell (i := 2) (by simp); have cr3 := vr.cell (i := 3) (by simp); simp only [List.getD_cons_zero, List.getD_cons_succ] at cr0 cr1 cr2 cr3))
  go_wp2
  obtain ⟨te, hg⟩ := vr.set4 (.int .i64 x) (.int .i64 y) (.int .i64 z) (.int .i64 u)
  refine bodyPost_ret_by (results_cell_tmp rfl _ _ (w.heap.size + 1) te _ (0, 0) _ rfl hg Tryd.underlying23 rfl (by kernel_rfl) (.int .i64 k) rfl) rfl ?_
  exact ⟨rfl, below_set4 B (by omega) _ _ _ _⟩

set_option maxRecDepth 100000 in
theorem rpowerT_arg (s : T4) (num den : Int) (w : World) (h1 : den < 1) :
    Calls Tryd.prog 25 #[.agg #[.int .i64 s.a, .int .i64 s.b, .int .i64 s.c, .int .i64 s.d], .int .i64 num, .int .i64 den] w (RetT w (⟨0, 0, 0, 0⟩, 1)) := by
  have vs := Vals.newL w (w.heap.size) [.int .i64 s.a, .int .i64 s.b, .int .i64 s.c, .int .i64 s.d] 23 rfl
  have bb := below_alloc w (.cells #[.int .i64 s.a, .int .i64 s.b, .int .i64 s.c, .int .i64 s.d] 23)
  have B := bb
  have sz0 := World.size_alloc w (.cells #[.int .i64 s.a, .int .i64 s.b, .int .i64 s.c, .int .i64 s.d] 23)
  have sz := sz0
  clear sz0
  clear bb
  have vr := Vals.newL (w.alloc (.cells #[.int .i64 s.a, .int .i64 s.b, .int .i64 s.c, .int .i64 s.d] 23)) (w.heap.size + 1) [.int .i64 0, .int .i64 0, .int .i64 0, .int .i64 0] 23 sz.symm
  have bb := below_alloc (w.alloc (.cells #[.int .i64 s.a, .int .i64 s.b, .int .i64 s.c, .int .i64 s.d] 23)) (.cells #[.int .i64 0, .int .i64 0, .int .i64 0, .int .i64 0] 23)
  replace vs := vs.mono bb
  replace B := below_trans B bb
  clear sz
  clear bb
  go_enter Tryd.func25, Tryd.ntmps25
  go_wp2_with fail
  generalize ((w.alloc (.cells #[.int .i64 s.a, .int .i64 s.b, .int .i64 s.c, .int .i64 s.d] 23)).alloc (.cells #[.int .i64 0, .int .i64 0, .int .i64 0, .int .i64 0] 23)) = w0 at *
  obtain ⟨te, hg⟩ := vr
  refine bodyPost_ret_by (results_cell_tmp rfl _ _ (w.heap.size + 1) te _ (0, 0) _ rfl hg Tryd.underlying23 rfl (by kernel_rfl) (.int .i64 1) rfl) rfl ?_
  exact ⟨rfl, B⟩

end Go.Proofs
