/- tone: Farey. -/
import Derived.Test.YtnogieknjcbchaaDoorTone11
import Derived.Test.YtnogieknjcbchaaDoorTFrac
open Go.RowKit Go.Deep
namespace Go.Proofs
set_option linter.unusedVariables false
set_option linter.unusedSimpArgs false

/-- how far the low side runs -/
theorem up_run {s : T4} {most pl ql ph qh : Nat} (h : Nb (overN s.a s.b s.c) (underN s.a s.b s.c) s.d.toNat pl ql ph qh) (hm : ql ≤ most) :
    ∃ c, c ≤ (most - ql) / qh ∧ (∀ k, k ≤ (most - ql) / qh → (0 ≤ aboveI s (pl + k * ph) (ql + k * qh) * 1 ↔ k ≤ c)) := by
  obtain ⟨c, h1, h2, h3⟩ := greatest_nat (fun k => leF (overN s.a s.b s.c) (underN s.a s.b s.c) s.d.toNat (pl + k * ph) (ql + k * qh)) (by rw [Nat.zero_mul, Nat.zero_mul]; exact h.lo) ((most - ql) / qh)
  refine ⟨c, h1, fun k hk => ?_⟩
  rw [Int.mul_one, aboveI_ge]
  constructor
  · intro hp
    by_cases hkc : k ≤ c
    · exact hkc
    · rcases h3 with h3 | h3
      · omega
      · exact absurd (up_falls h.l1 h.det hp (show c + 1 ≤ k by omega)) h3
  · exact fun hkc => up_falls h.l1 h.det h2 hkc
theorem down_run {s : T4} {most pl ql ph qh : Nat} (h : Nb (overN s.a s.b s.c) (underN s.a s.b s.c) s.d.toNat pl ql ph qh) (hm : qh ≤ most) :
    ∃ c, c ≤ (most - qh) / ql ∧ (∀ k, k ≤ (most - qh) / ql → (0 ≤ aboveI s (ph + k * pl) (qh + k * ql) * (-1) ↔ k ≤ c)) := by
  obtain ⟨c, h1, h2, h3⟩ := greatest_nat (fun k => geF (overN s.a s.b s.c) (underN s.a s.b s.c) s.d.toNat (ph + k * pl) (qh + k * ql)) (by rw [Nat.zero_mul, Nat.zero_mul]; exact nb_high h) ((most - qh) / ql)
  refine ⟨c, h1, fun k hk => ?_⟩
  rw [show (0 ≤ aboveI s (ph + k * pl) (qh + k * ql) * (-1) ↔ aboveI s (ph + k * pl) (qh + k * ql) ≤ 0) by omega, aboveI_le]
  constructor
  · intro hp
    by_cases hkc : k ≤ c
    · exact hkc
    · rcases h3 with h3 | h3
      · omega
      · exact absurd (down_falls h.h1 h.det hp (show c + 1 ≤ k by omega)) h3
  · exact fun hkc => down_falls h.h1 h.det h2 hkc

theorem run_room {most q d c : Nat} (hq : q ≤ most) (hd : 1 ≤ d) (hc : c ≤ (most - q) / d) : q + c * d ≤ most := by
  have := (Nat.le_div_iff_mul_le (show 0 < d by omega)).1 hc
  omega

set_option maxRecDepth 100000 in
set_option maxHeartbeats 1000000 in
theorem farey_bad (s : T4) (m : Int) (w : World) (hA : i64 s.a ∧ i64 s.b ∧ i64 s.c ∧ i64 s.d) (hs : validB s.a s.b s.c s.d = false) :
    Calls Tryd.prog 10 #[.agg #[.int .i64 s.a, .int .i64 s.b, .int .i64 s.c, .int .i64 s.d], .int .i64 m] w (RetF w 0 0 0 0 2) := by
  have VA := fun w : World => tvalid_calls s.a s.b s.c s.d w hA.1 hA.2.1 hA.2.2.1 hA.2.2.2
  rw [hs] at VA
  have HA := Lib.hid VA
  clear VA hs hA
  have vs := Vals.newL w (w.heap.size) [.int .i64 s.a, .int .i64 s.b, .int .i64 s.c, .int .i64 s.d] 23 rfl
  have bb := below_alloc w (.cells #[.int .i64 s.a, .int .i64 s.b, .int .i64 s.c, .int .i64 s.d] 23)
  have B := bb
  have sz0 := World.size_alloc w (.cells #[.int .i64 s.a, .int .i64 s.b, .int .i64 s.c, .int .i64 s.d] 23)
  have sz := sz0
  clear sz0
  clear bb
  have vm := Vals.newL (w.alloc (.cells #[.int .i64 s.a, .int .i64 s.b, .int .i64 s.c, .int .i64 s.d] 23)) (w.heap.size + 1) [.int .i64 m] 3 sz.symm
  have bb := below_alloc (w.alloc (.cells #[.int .i64 s.a, .int .i64 s.b, .int .i64 s.c, .int .i64 s.d] 23)) (.cells #[.int .i64 m] 3)
  replace vs := vs.mono bb
  replace B := below_trans B bb
  clear bb
  have sz1 := World.size_alloc (w.alloc (.cells #[.int .i64 s.a, .int .i64 s.b, .int .i64 s.c, .int .i64 s.d] 23)) (.cells #[.int .i64 m] 3)
  rw [sz] at sz1
  clear sz
  have sz := sz1
  clear sz1
  have vx := Vals.newL ((w.alloc (.cells #[.int .i64 s.a, .int .i64 s.b, .int .i64 s.c, .int .i64 s.d] 23)).alloc (.cells #[.int .i64 m] 3)) (w.heap.size + 1 + 1) [.int .i64 0, .int .i64 0] 29 sz.symm
  have bb := below_alloc ((w.alloc (.cells #[.int .i64 s.a, .int .i64 s.b, .int .i64 s.c, .int .i64 s.d] 23)).alloc (.cells #[.int .i64 m] 3)) (.cells #[.int .i64 0, .int .i64 0] 29)
  replace vs := vs.mono bb
  replace vm := vm.mono bb
  replace B := below_trans B bb
  clear bb
  have sz2 := World.size_alloc ((w.alloc (.cells #[.int .i64 s.a, .int .i64 s.b, .int .i64 s.c, .int .i64 s.d] 23)).alloc (.cells #[.int .i64 m] 3)) (.cells #[.int .i64 0, .int .i64 0] 29)
  rw [sz] at sz2
  clear sz
  have sz := sz2
  clear sz2
  have vy := Vals.newL (((w.alloc (.cells #[.int .i64 s.a, .int .i64 s.b, .int .i64 s.c, .int .i64 s.d] 23)).alloc (.cells #[.int .i64 m] 3)).alloc (.cells #[.int .i64 0, .int .i64 0] 29)) (w.heap.size + 1 + 1 + 1) [.int .i64 0, .int .i64 0] 29 sz.symm
  have bb := below_alloc (((w.alloc (.cells #[.int .i64 s.a, .int .i64 s.b, .int .i64 s.c, .int .i64 s.d] 23)).alloc (.cells #[.int .i64 m] 3)).alloc (.cells #[.int .i64 0, .int .i64 0] 29)) (.cells #[.int .i64 0, .int .i64 0] 29)
  replace vs := vs.mono bb
  replace vm := vm.mono bb
  replace vx := vx.mono bb
  replace B := below_trans B bb
  clear sz
  clear bb
  go_enter Tryd.func10, Tryd.ntmps10
  go_wp2_with fail
  generalize ((((w.alloc (.cells #[.int .i64 s.a, .int .i64 s.b, .int .i64 s.c, .int .i64 s.d] 23)).alloc (.cells #[.int .i64 m] 3)).alloc (.cells #[.int .i64 0, .int .i64 0] 29)).alloc (.cells #[.int .i64 0, .int .i64 0] 29)) = w0 at *
  refine (HA.out _).mono ?_
  rintro e w1 ⟨rfl, b1⟩
  replace vs := vs.mono b1
  replace vm := vm.mono b1
  replace vx := vx.mono b1
  replace vy := vy.mono b1
  replace B := below_trans B b1
  clear b1
  have cvx0 := vx.cell (i := 0) (by simp)
  have cvx1 := vx.cell (i := 1) (by simp)
  simp only [List.getD_cons_zero, List.getD_cons_succ] at cvx0 cvx1
  have ltvx := vx.lt
  have fvx0 := vx.frozen 0
  have fvx1 := vx.frozen 1
  have cvy0 := vy.cell (i := 0) (by simp)
  have cvy1 := vy.cell (i := 1) (by simp)
  simp only [List.getD_cons_zero, List.getD_cons_succ] at cvy0 cvy1
  have ltvy := vy.lt
  have fvy0 := vy.frozen 0
  have fvy1 := vy.frozen 1
  go_wp2
  clear cvx0 cvx1 ltvx fvx0 fvx1 cvy0 cvy1 ltvy fvy0 fvy1
  have x2 := (vx.put2 (.int .i64 0) (.int .i64 0)).off2 (g := w.heap.size + 1 + 1 + 1) (by omega) (.int .i64 0) (.int .i64 0)
  have y2 := (vy.off2 (g := w.heap.size + 1 + 1) (by omega) (.int .i64 0) (.int .i64 0)).put2 (.int .i64 0) (.int .i64 0)
  obtain ⟨te, hg⟩ := x2
  obtain ⟨tf, hg2⟩ := y2
  refine bodyPost_ret_by (results_cell_cell_tmp rfl _ _ (w.heap.size + 1 + 1) (w.heap.size + 1 + 1 + 1) te tf _ _ (0, 0) (0, 0) _ _ rfl rfl hg hg2 Tryd.underlying29 rfl (by kernel_rfl) Tryd.underlying29 rfl (by kernel_rfl) (.int .i64 2) rfl) rfl ?_
  exact ⟨rfl, below_put2 (below_put2 B (by omega) _ _) (by omega) _ _⟩

set_option maxRecDepth 100000 in
set_option maxHeartbeats 1000000 in
theorem farey_low (s : T4) (m : Int) (w : World) (hs : validB s.a s.b s.c s.d = true) (hm : m < 1) :
    Calls Tryd.prog 10 #[.agg #[.int .i64 s.a, .int .i64 s.b, .int .i64 s.c, .int .i64 s.d], .int .i64 m] w (RetF w 0 0 0 0 1) := by
  have VA := fun w : World => tvalid_calls s.a s.b s.c s.d w (validB_i64 hs).1 (validB_i64 hs).2.1 (validB_i64 hs).2.2.1 (validB_i64 hs).2.2.2
  rw [hs] at VA
  have HA := Lib.hid VA
  clear VA
  clear hs
  have vs := Vals.newL w (w.heap.size) [.int .i64 s.a, .int .i64 s.b, .int .i64 s.c, .int .i64 s.d] 23 rfl
  have bb := below_alloc w (.cells #[.int .i64 s.a, .int .i64 s.b, .int .i64 s.c, .int .i64 s.d] 23)
  have B := bb
  have sz0 := World.size_alloc w (.cells #[.int .i64 s.a, .int .i64 s.b, .int .i64 s.c, .int .i64 s.d] 23)
  have sz := sz0
  clear sz0
  clear bb
  have vm := Vals.newL (w.alloc (.cells #[.int .i64 s.a, .int .i64 s.b, .int .i64 s.c, .int .i64 s.d] 23)) (w.heap.size + 1) [.int .i64 m] 3 sz.symm
  have bb := below_alloc (w.alloc (.cells #[.int .i64 s.a, .int .i64 s.b, .int .i64 s.c, .int .i64 s.d] 23)) (.cells #[.int .i64 m] 3)
  replace vs := vs.mono bb
  replace B := below_trans B bb
  clear bb
  have sz1 := World.size_alloc (w.alloc (.cells #[.int .i64 s.a, .int .i64 s.b, .int .i64 s.c, .int .i64 s.d] 23)) (.cells #[.int .i64 m] 3)
  rw [sz] at sz1
  clear sz
  have sz := sz1
  clear sz1
  have vx := Vals.newL ((w.alloc (.cells #[.int .i64 s.a, .int .i64 s.b, .int .i64 s.c, .int .i64 s.d] 23)).alloc (.cells #[.int .i64 m] 3)) (w.heap.size + 1 + 1) [.int .i64 0, .int .i64 0] 29 sz.symm
  have bb := below_alloc ((w.alloc (.cells #[.int .i64 s.a, .int .i64 s.b, .int .i64 s.c, .int .i64 s.d] 23)).alloc (.cells #[.int .i64 m] 3)) (.cells #[.int .i64 0, .int .i64 0] 29)
  replace vs := vs.mono bb
  replace vm := vm.mono bb
  replace B := below_trans B bb
  clear bb
  have sz2 := World.size_alloc ((w.alloc (.cells #[.int .i64 s.a, .int .i64 s.b, .int .i64 s.c, .int .i64 s.d] 23)).alloc (.cells #[.int .i64 m] 3)) (.cells #[.int .i64 0, .int .i64 0] 29)
  rw [sz] at sz2
  clear sz
  have sz := sz2
  clear sz2
  have vy := Vals.newL (((w.alloc (.cells #[.int .i64 s.a, .int .i64 s.b, .int .i64 s.c, .int .i64 s.d] 23)).alloc (.cells #[.int .i64 m] 3)).alloc (.cells #[.int .i64 0, .int .i64 0] 29)) (w.heap.size + 1 + 1 + 1) [.int .i64 0, .int .i64 0] 29 sz.symm
  have bb := below_alloc (((w.alloc (.cells #[.int .i64 s.a, .int .i64 s.b, .int .i64 s.c, .int .i64 s.d] 23)).alloc (.cells #[.int .i64 m] 3)).alloc (.cells #[.int .i64 0, .int .i64 0] 29)) (.cells #[.int .i64 0, .int .i64 0] 29)
  replace vs := vs.mono bb
  replace vm := vm.mono bb
  replace vx := vx.mono bb
  replace B := below_trans B bb
  clear sz
  clear bb
  go_enter Tryd.func10, Tryd.ntmps10
  go_wp2_with fail
  generalize ((((w.alloc (.cells #[.int .i64 s.a, .int .i64 s.b, .int .i64 s.c, .int .i64 s.d] 23)).alloc (.cells #[.int .i64 m] 3)).alloc (.cells #[.int .i64 0, .int .i64 0] 29)).alloc (.cells #[.int .i64 0, .int .i64 0] 29)) = w0 at *
  refine (HA.out _).mono ?_
  rintro e w1 ⟨rfl, b1⟩
  replace vs := vs.mono b1
  replace vm := vm.mono b1
  replace vx := vx.mono b1
  replace vy := vy.mono b1
  replace B := below_trans B b1
  clear b1
  have cvm0 := vm.cell (i := 0) (by simp)
  simp only [List.getD_cons_zero, List.getD_cons_succ] at cvm0
  have ltvm := vm.lt
  have cvx0 := vx.cell (i := 0) (by simp)
  have cvx1 := vx.cell (i := 1) (by simp)
  simp only [List.getD_cons_zero, List.getD_cons_succ] at cvx0 cvx1
  have ltvx := vx.lt
  have fvx0 := vx.frozen 0
  have fvx1 := vx.frozen 1
  have cvy0 := vy.cell (i := 0) (by simp)
  have cvy1 := vy.cell (i := 1) (by simp)
  simp only [List.getD_cons_zero, List.getD_cons_succ] at cvy0 cvy1
  have ltvy := vy.lt
  have fvy0 := vy.frozen 0
  have fvy1 := vy.frozen 1
  go_wp2
  clear cvm0 ltvm cvx0 cvx1 ltvx fvx0 fvx1 cvy0 cvy1 ltvy fvy0 fvy1
  have x2 := (vx.put2 (.int .i64 0) (.int .i64 0)).off2 (g := w.heap.size + 1 + 1 + 1) (by omega) (.int .i64 0) (.int .i64 0)
  have y2 := (vy.off2 (g := w.heap.size + 1 + 1) (by omega) (.int .i64 0) (.int .i64 0)).put2 (.int .i64 0) (.int .i64 0)
  obtain ⟨te, hg⟩ := x2
  obtain ⟨tf, hg2⟩ := y2
  refine bodyPost_ret_by (results_cell_cell_tmp rfl _ _ (w.heap.size + 1 + 1) (w.heap.size + 1 + 1 + 1) te tf _ _ (0, 0) (0, 0) _ _ rfl rfl hg hg2 Tryd.underlying29 rfl (by kernel_rfl) Tryd.underlying29 rfl (by kernel_rfl) (.int .i64 1) rfl) rfl ?_
  exact ⟨rfl, below_put2 (below_put2 B (by omega) _ _) (by omega) _ _⟩

set_option maxRecDepth 100000 in
set_option maxHeartbeats 1000000 in
theorem farey_high (s : T4) (m : Int) (w : World) (hs : validB s.a s.b s.c s.d = true) (hm : 4096 < m) :
    Calls Tryd.prog 10 #[.agg #[.int .i64 s.a, .int .i64 s.b, .int .i64 s.c, .int .i64 s.d], .int .i64 m] w (RetF w 0 0 0 0 1) := by
  have VA := fun w : World => tvalid_calls s.a s.b s.c s.d w (validB_i64 hs).1 (validB_i64 hs).2.1 (validB_i64 hs).2.2.1 (validB_i64 hs).2.2.2
  rw [hs] at VA
  have HA := Lib.hid VA
  clear VA
  have hm2 : ¬ m < 1 := by omega
  clear hs
  have vs := Vals.newL w (w.heap.size) [.int .i64 s.a, .int .i64 s.b, .int .i64 s.c, .int .i64 s.d] 23 rfl
  have bb := below_alloc w (.cells #[.int .i64 s.a, .int .i64 s.b, .int .i64 s.c, .int .i64 s.d] 23)
  have B := bb
  have sz0 := World.size_alloc w (.cells #[.int .i64 s.a, .int .i64 s.b, .int .i64 s.c, .int .i64 s.d] 23)
  have sz := sz0
  clear sz0
  clear bb
  have vm := Vals.newL (w.alloc (.cells #[.int .i64 s.a, .int .i64 s.b, .int .i64 s.c, .int .i64 s.d] 23)) (w.heap.size + 1) [.int .i64 m] 3 sz.symm
  have bb := below_alloc (w.alloc (.cells #[.int .i64 s.a, .int .i64 s.b, .int .i64 s.c, .int .i64 s.d] 23)) (.cells #[.int .i64 m] 3)
  replace vs := vs.mono bb
  replace B := below_trans B bb
  clear bb
  have sz1 := World.size_alloc (w.alloc (.cells #[.int .i64 s.a, .int .i64 s.b, .int .i64 s.c, .int .i64 s.d] 23)) (.cells #[.int .i64 m] 3)
  rw [sz] at sz1
  clear sz
  have sz := sz1
  clear sz1
  have vx := Vals.newL ((w.alloc (.cells #[.int .i64 s.a, .int .i64 s.b, .int .i64 s.c, .int .i64 s.d] 23)).alloc (.cells #[.int .i64 m] 3)) (w.heap.size + 1 + 1) [.int .i64 0, .int .i64 0] 29 sz.symm
  have bb := below_alloc ((w.alloc (.cells #[.int .i64 s.a, .int .i64 s.b, .int .i64 s.c, .int .i64 s.d] 23)).alloc (.cells #[.int .i64 m] 3)) (.cells #[.int .i64 0, .int .i64 0] 29)
  replace vs := vs.mono bb
  replace vm := vm.mono bb
  replace B := below_trans B bb
  clear bb
  have sz2 := World.size_alloc ((w.alloc (.cells #[.int .i64 s.a, .int .i64 s.b, .int .i64 s.c, .int .i64 s.d] 23)).alloc (.cells #[.int .i64 m] 3)) (.cells #[.int .i64 0, .int .i64 0] 29)
  rw [sz] at sz2
  clear sz
  have sz := sz2
  clear sz2
  have vy := Vals.newL (((w.alloc (.cells #[.int .i64 s.a, .int .i64 s.b, .int .i64 s.c, .int .i64 s.d] 23)).alloc (.cells #[.int .i64 m] 3)).alloc (.cells #[.int .i64 0, .int .i64 0] 29)) (w.heap.size + 1 + 1 + 1) [.int .i64 0, .int .i64 0] 29 sz.symm
  have bb := below_alloc (((w.alloc (.cells #[.int .i64 s.a, .int .i64 s.b, .int .i64 s.c, .int .i64 s.d] 23)).alloc (.cells #[.int .i64 m] 3)).alloc (.cells #[.int .i64 0, .int .i64 0] 29)) (.cells #[.int .i64 0, .int .i64 0] 29)
  replace vs := vs.mono bb
  replace vm := vm.mono bb
  replace vx := vx.mono bb
  replace B := below_trans B bb
  clear sz
  clear bb
  go_enter Tryd.func10, Tryd.ntmps10
  go_wp2_with fail
  generalize ((((w.alloc (.cells #[.int .i64 s.a, .int .i64 s.b, .int .i64 s.c, .int .i64 s.d] 23)).alloc (.cells #[.int .i64 m] 3)).alloc (.cells #[.int .i64 0, .int .i64 0] 29)).alloc (.cells #[.int .i64 0, .int .i64 0] 29)) = w0 at *
  refine (HA.out _).mono ?_
  rintro e w1 ⟨rfl, b1⟩
  replace vs := vs.mono b1
  replace vm := vm.mono b1
  replace vx := vx.mono b1
  replace vy := vy.mono b1
  replace B := below_trans B b1
  clear b1
  have cvm0 := vm.cell (i := 0) (by simp)
  simp only [List.getD_cons_zero, List.getD_cons_succ] at cvm0
  have ltvm := vm.lt
  have cvx0 := vx.cell (i := 0) (by simp)
  have cvx1 := vx.cell (i := 1) (by simp)
  simp only [List.getD_cons_zero, List.getD_cons_succ] at cvx0 cvx1
  have ltvx := vx.lt
  have fvx0 := vx.frozen 0
  have fvx1 := vx.frozen 1
  have cvy0 := vy.cell (i := 0) (by simp)
  have cvy1 := vy.cell (i := 1) (by simp)
  simp only [List.getD_cons_zero, List.getD_cons_succ] at cvy0 cvy1
  have ltvy := vy.lt
  have fvy0 := vy.frozen 0
  have fvy1 := vy.frozen 1
  go_wp2
  clear cvm0 ltvm cvx0 cvx1 ltvx fvx0 fvx1 cvy0 cvy1 ltvy fvy0 fvy1
  have x2 := (vx.put2 (.int .i64 0) (.int .i64 0)).off2 (g := w.heap.size + 1 + 1 + 1) (by omega) (.int .i64 0) (.int .i64 0)
  have y2 := (vy.off2 (g := w.heap.size + 1 + 1) (by omega) (.int .i64 0) (.int .i64 0)).put2 (.int .i64 0) (.int .i64 0)
  obtain ⟨te, hg⟩ := x2
  obtain ⟨tf, hg2⟩ := y2
  refine bodyPost_ret_by (results_cell_cell_tmp rfl _ _ (w.heap.size + 1 + 1) (w.heap.size + 1 + 1 + 1) te tf _ _ (0, 0) (0, 0) _ _ rfl rfl hg hg2 Tryd.underlying29 rfl (by kernel_rfl) Tryd.underlying29 rfl (by kernel_rfl) (.int .i64 1) rfl) rfl ?_
  exact ⟨rfl, below_put2 (below_put2 B (by omega) _ _) (by omega) _ _⟩

set_option maxRecDepth 100000 in
set_option maxHeartbeats 1000000 in
theorem farey_below (s : T4) (m : Int) (w : World) (hs : validB s.a s.b s.c s.d = true) (hm : 1 ≤ m) (hm2 : m ≤ 4096) (h1 : aboveI s 1 1 = -1) :
    Calls Tryd.prog 10 #[.agg #[.int .i64 s.a, .int .i64 s.b, .int .i64 s.c, .int .i64 s.d], .int .i64 m] w (RetF w 0 0 0 0 5) := by
  have VA := fun w : World => tvalid_calls s.a s.b s.c s.d w (validB_i64 hs).1 (validB_i64 hs).2.1 (validB_i64 hs).2.2.1 (validB_i64 hs).2.2.2
  rw [hs] at VA
  have HA := Lib.hid VA
  clear VA
  have A11 : ∀ w : World, Calls Tryd.prog 26 #[.agg #[.int .i64 s.a, .int .i64 s.b, .int .i64 s.c, .int .i64 s.d], .int .i64 1, .int .i64 1] w fun e w' => e = .returned (.int .i64 (aboveI s 1 1)) ∧ Below w.heap.size w w' := fun w => above_calls s 1 1 w hs (by omega) (by omega)
  rw [h1] at A11
  have H11 := Lib.hid A11
  clear A11 h1 hs
  have vs := Vals.newL w (w.heap.size) [.int .i64 s.a, .int .i64 s.b, .int .i64 s.c, .int .i64 s.d] 23 rfl
  have bb := below_alloc w (.cells #[.int .i64 s.a, .int .i64 s.b, .int .i64 s.c, .int .i64 s.d] 23)
  have B := bb
  have sz0 := World.size_alloc w (.cells #[.int .i64 s.a, .int .i64 s.b, .int .i64 s.c, .int .i64 s.d] 23)
  have sz := sz0
  clear sz0
  clear bb
  have vm := Vals.newL (w.alloc (.cells #[.int .i64 s.a, .int .i64 s.b, .int .i64 s.c, .int .i64 s.d] 23)) (w.heap.size + 1) [.int .i64 m] 3 sz.symm
  have bb := below_alloc (w.alloc (.cells #[.int .i64 s.a, .int .i64 s.b, .int .i64 s.c, .int .i64 s.d] 23)) (.cells #[.int .i64 m] 3)
  replace vs := vs.mono bb
  replace B := below_trans B bb
  clear bb
  have sz1 := World.size_alloc (w.alloc (.cells #[.int .i64 s.a, .int .i64 s.b, .int .i64 s.c, .int .i64 s.d] 23)) (.cells #[.int .i64 m] 3)
  rw [sz] at sz1
  clear sz
  have sz := sz1
  clear sz1
  have vx := Vals.newL ((w.alloc (.cells #[.int .i64 s.a, .int .i64 s.b, .int .i64 s.c, .int .i64 s.d] 23)).alloc (.cells #[.int .i64 m] 3)) (w.heap.size + 1 + 1) [.int .i64 0, .int .i64 0] 29 sz.symm
  have bb := below_alloc ((w.alloc (.cells #[.int .i64 s.a, .int .i64 s.b, .int .i64 s.c, .int .i64 s.d] 23)).alloc (.cells #[.int .i64 m] 3)) (.cells #[.int .i64 0, .int .i64 0] 29)
  replace vs := vs.mono bb
  replace vm := vm.mono bb
  replace B := below_trans B bb
  clear bb
  have sz2 := World.size_alloc ((w.alloc (.cells #[.int .i64 s.a, .int .i64 s.b, .int .i64 s.c, .int .i64 s.d] 23)).alloc (.cells #[.int .i64 m] 3)) (.cells #[.int .i64 0, .int .i64 0] 29)
  rw [sz] at sz2
  clear sz
  have sz := sz2
  clear sz2
  have vy := Vals.newL (((w.alloc (.cells #[.int .i64 s.a, .int .i64 s.b, .int .i64 s.c, .int .i64 s.d] 23)).alloc (.cells #[.int .i64 m] 3)).alloc (.cells #[.int .i64 0, .int .i64 0] 29)) (w.heap.size + 1 + 1 + 1) [.int .i64 0, .int .i64 0] 29 sz.symm
  have bb := below_alloc (((w.alloc (.cells #[.int .i64 s.a, .int .i64 s.b, .int .i64 s.c, .int .i64 s.d] 23)).alloc (.cells #[.int .i64 m] 3)).alloc (.cells #[.int .i64 0, .int .i64 0] 29)) (.cells #[.int .i64 0, .int .i64 0] 29)
  replace vs := vs.mono bb
  replace vm := vm.mono bb
  replace vx := vx.mono bb
  replace B := below_trans B bb
  clear sz
  clear bb
  go_enter Tryd.func10, Tryd.ntmps10
  go_wp2_with fail
  generalize ((((w.alloc (.cells #[.int .i64 s.a, .int .i64 s.b, .int .i64 s.c, .int .i64 s.d] 23)).alloc (.cells #[.int .i64 m] 3)).alloc (.cells #[.int .i64 0, .int .i64 0] 29)).alloc (.cells #[.int .i64 0, .int .i64 0] 29)) = w0 at *
  refine (HA.out _).mono ?_
  rintro e w1 ⟨rfl, b1⟩
  replace vs := vs.mono b1
  replace vm := vm.mono b1
  replace vx := vx.mono b1
  replace vy := vy.mono b1
  replace B := below_trans B b1
  clear b1
  have cvm0 := vm.cell (i := 0) (by simp)
  simp only [List.getD_cons_zero, List.getD_cons_succ] at cvm0
  have ltvm := vm.lt
  have cvs0 := vs.cell (i := 0) (by simp)
  have cvs1 := vs.cell (i := 1) (by simp)
  have cvs2 := vs.cell (i := 2) (by simp)
  have cvs3 := vs.cell (i := 3) (by simp)
  simp only [List.getD_cons_zero, List.getD_cons_succ] at cvs0 cvs1 cvs2 cvs3
  have ltvs := vs.lt
  go_wp2_with fail
  clear cvm0 ltvm cvs0 cvs1 cvs2 cvs3 ltvs
  refine (H11.out _).mono ?_
  rintro e w2 ⟨rfl, b2⟩
  replace vs := vs.mono b2
  replace vm := vm.mono b2
  replace vx := vx.mono b2
  replace vy := vy.mono b2
  replace B := below_trans B b2
  clear b2
  have cvx0 := vx.cell (i := 0) (by simp)
  have cvx1 := vx.cell (i := 1) (by simp)
  simp only [List.getD_cons_zero, List.getD_cons_succ] at cvx0 cvx1
  have ltvx := vx.lt
  have fvx0 := vx.frozen 0
  have fvx1 := vx.frozen 1
  have cvy0 := vy.cell (i := 0) (by simp)
  have cvy1 := vy.cell (i := 1) (by simp)
  simp only [List.getD_cons_zero, List.getD_cons_succ] at cvy0 cvy1
  have ltvy := vy.lt
  have fvy0 := vy.frozen 0
  have fvy1 := vy.frozen 1
  go_wp2
  clear cvx0 cvx1 ltvx fvx0 fvx1 cvy0 cvy1 ltvy fvy0 fvy1
  have x2 := (vx.put2 (.int .i64 0) (.int .i64 0)).off2 (g := w.heap.size + 1 + 1 + 1) (by omega) (.int .i64 0) (.int .i64 0)
  have y2 := (vy.off2 (g := w.heap.size + 1 + 1) (by omega) (.int .i64 0) (.int .i64 0)).put2 (.int .i64 0) (.int .i64 0)
  obtain ⟨te, hg⟩ := x2
  obtain ⟨tf, hg2⟩ := y2
  refine bodyPost_ret_by (results_cell_cell_tmp rfl _ _ (w.heap.size + 1 + 1) (w.heap.size + 1 + 1 + 1) te tf _ _ (0, 0) (0, 0) _ _ rfl rfl hg hg2 Tryd.underlying29 rfl (by kernel_rfl) Tryd.underlying29 rfl (by kernel_rfl) (.int .i64 5) rfl) rfl ?_
  exact ⟨rfl, below_put2 (below_put2 B (by omega) _ _) (by omega) _ _⟩

set_option maxRecDepth 100000 in
set_option maxHeartbeats 1000000 in
theorem farey_two0 (s : T4) (m : Int) (w : World) (hs : validB s.a s.b s.c s.d = true) (hm : 1 ≤ m) (hm2 : m ≤ 4096) (h1 : aboveI s 1 1 = 0) (h2 : aboveI s 2 1 = 0) :
    Calls Tryd.prog 10 #[.agg #[.int .i64 s.a, .int .i64 s.b, .int .i64 s.c, .int .i64 s.d], .int .i64 m] w (RetF w 0 0 0 0 5) := by
  have VA := fun w : World => tvalid_calls s.a s.b s.c s.d w (validB_i64 hs).1 (validB_i64 hs).2.1 (validB_i64 hs).2.2.1 (validB_i64 hs).2.2.2
  rw [hs] at VA
  have HA := Lib.hid VA
  clear VA
  have A11 : ∀ w : World, Calls Tryd.prog 26 #[.agg #[.int .i64 s.a, .int .i64 s.b, .int .i64 s.c, .int .i64 s.d], .int .i64 1, .int .i64 1] w fun e w' => e = .returned (.int .i64 (aboveI s 1 1)) ∧ Below w.heap.size w w' := fun w => above_calls s 1 1 w hs (by omega) (by omega)
  rw [h1] at A11
  have A21 : ∀ w : World, Calls Tryd.prog 26 #[.agg #[.int .i64 s.a, .int .i64 s.b, .int .i64 s.c, .int .i64 s.d], .int .i64 2, .int .i64 1] w fun e w' => e = .returned (.int .i64 (aboveI s 2 1)) ∧ Below w.heap.size w w' := fun w => above_calls s 2 1 w hs (by omega) (by omega)
  rw [h2] at A21
  have H21 := Lib.hid A21
  clear A21 h2
  have H11 := Lib.hid A11
  clear A11 h1 hs
  have vs := Vals.newL w (w.heap.size) [.int .i64 s.a, .int .i64 s.b, .int .i64 s.c, .int .i64 s.d] 23 rfl
  have bb := below_alloc w (.cells #[.int .i64 s.a, .int .i64 s.b, .int .i64 s.c, .int .i64 s.d] 23)
  have B := bb
  have sz0 := World.size_alloc w (.cells #[.int .i64 s.a, .int .i64 s.b, .int .i64 s.c, .int .i64 s.d] 23)
  have sz := sz0
  clear sz0
  clear bb
  have vm := Vals.newL (w.alloc (.cells #[.int .i64 s.a, .int .i64 s.b, .int .i64 s.c, .int .i64 s.d] 23)) (w.heap.size + 1) [.int .i64 m] 3 sz.symm
  have bb := below_alloc (w.alloc (.cells #[.int .i64 s.a, .int .i64 s.b, .int .i64 s.c, .int .i64 s.d] 23)) (.cells #[.int .i64 m] 3)
  replace vs := vs.mono bb
  replace B := below_trans B bb
  clear bb
  have sz1 := World.size_alloc (w.alloc (.cells #[.int .i64 s.a, .int .i64 s.b, .int .i64 s.c, .int .i64 s.d] 23)) (.cells #[.int .i64 m] 3)
  rw [sz] at sz1
  clear sz
  have sz := sz1
  clear sz1
  have vx := Vals.newL ((w.alloc (.cells #[.int .i64 s.a, .int .i64 s.b, .int .i64 s.c, .int .i64 s.d] 23)).alloc (.cells #[.int .i64 m] 3)) (w.heap.size + 1 + 1) [.int .i64 0, .int .i64 0] 29 sz.symm
  have bb := below_alloc ((w.alloc (.cells #[.int .i64 s.a, .int .i64 s.b, .int .i64 s.c, .int .i64 s.d] 23)).alloc (.cells #[.int .i64 m] 3)) (.cells #[.int .i64 0, .int .i64 0] 29)
  replace vs := vs.mono bb
  replace vm := vm.mono bb
  replace B := below_trans B bb
  clear bb
  have sz2 := World.size_alloc ((w.alloc (.cells #[.int .i64 s.a, .int .i64 s.b, .int .i64 s.c, .int .i64 s.d] 23)).alloc (.cells #[.int .i64 m] 3)) (.cells #[.int .i64 0, .int .i64 0] 29)
  rw [sz] at sz2
  clear sz
  have sz := sz2
  clear sz2
  have vy := Vals.newL (((w.alloc (.cells #[.int .i64 s.a, .int .i64 s.b, .int .i64 s.c, .int .i64 s.d] 23)).alloc (.cells #[.int .i64 m] 3)).alloc (.cells #[.int .i64 0, .int .i64 0] 29)) (w.heap.size + 1 + 1 + 1) [.int .i64 0, .int .i64 0] 29 sz.symm
  have bb := below_alloc (((w.alloc (.cells #[.int .i64 s.a, .int .i64 s.b, .int .i64 s.c, .int .i64 s.d] 23)).alloc (.cells #[.int .i64 m] 3)).alloc (.cells #[.int .i64 0, .int .i64 0] 29)) (.cells #[.int .i64 0, .int .i64 0] 29)
  replace vs := vs.mono bb
  replace vm := vm.mono bb
  replace vx := vx.mono bb
  replace B := below_trans B bb
  clear sz
  clear bb
  go_enter Tryd.func10, Tryd.ntmps10
  go_wp2_with fail
  generalize ((((w.alloc (.cells #[.int .i64 s.a, .int .i64 s.b, .int .i64 s.c, .int .i64 s.d] 23)).alloc (.cells #[.int .i64 m] 3)).alloc (.cells #[.int .i64 0, .int .i64 0] 29)).alloc (.cells #[.int .i64 0, .int .i64 0] 29)) = w0 at *
  refine (HA.out _).mono ?_
  rintro e w1 ⟨rfl, b1⟩
  replace vs := vs.mono b1
  replace vm := vm.mono b1
  replace vx := vx.mono b1
  replace vy := vy.mono b1
  replace B := below_trans B b1
  clear b1
  have cvm0 := vm.cell (i := 0) (by simp)
  simp only [List.getD_cons_zero, List.getD_cons_succ] at cvm0
  have ltvm := vm.lt
  have cvs0 := vs.cell (i := 0) (by simp)
  have cvs1 := vs.cell (i := 1) (by simp)
  have cvs2 := vs.cell (i := 2) (by simp)
  have cvs3 := vs.cell (i := 3) (by simp)
  simp only [List.getD_cons_zero, List.getD_cons_succ] at cvs0 cvs1 cvs2 cvs3
  have ltvs := vs.lt
  go_wp2_with fail
  clear cvm0 ltvm cvs0 cvs1 cvs2 cvs3 ltvs
  refine (H11.out _).mono ?_
  rintro e w2 ⟨rfl, b2⟩
  replace vs := vs.mono b2
  replace vm := vm.mono b2
  replace vx := vx.mono b2
  replace vy := vy.mono b2
  replace B := below_trans B b2
  clear b2
  have cvs0 := vs.cell (i := 0) (by simp)
  have cvs1 := vs.cell (i := 1) (by simp)
  have cvs2 := vs.cell (i := 2) (by simp)
  have cvs3 := vs.cell (i := 3) (by simp)
  simp only [List.getD_cons_zero, List.getD_cons_succ] at cvs0 cvs1 cvs2 cvs3
  have ltvs := vs.lt
  go_wp2_with fail
  clear cvs0 cvs1 cvs2 cvs3 ltvs
  refine (H21.out _).mono ?_
  rintro e w3 ⟨rfl, b3⟩
  replace vs := vs.mono b3
  replace vm := vm.mono b3
  replace vx := vx.mono b3
  replace vy := vy.mono b3
  replace B := below_trans B b3
  clear b3
  have cvx0 := vx.cell (i := 0) (by simp)
  have cvx1 := vx.cell (i := 1) (by simp)
  simp only [List.getD_cons_zero, List.getD_cons_succ] at cvx0 cvx1
  have ltvx := vx.lt
  have fvx0 := vx.frozen 0
  have fvx1 := vx.frozen 1
  have cvy0 := vy.cell (i := 0) (by simp)
  have cvy1 := vy.cell (i := 1) (by simp)
  simp only [List.getD_cons_zero, List.getD_cons_succ] at cvy0 cvy1
  have ltvy := vy.lt
  have fvy0 := vy.frozen 0
  have fvy1 := vy.frozen 1
  go_wp2
  clear cvx0 cvx1 ltvx fvx0 fvx1 cvy0 cvy1 ltvy fvy0 fvy1
  have x2 := (vx.put2 (.int .i64 0) (.int .i64 0)).off2 (g := w.heap.size + 1 + 1 + 1) (by omega) (.int .i64 0) (.int .i64 0)
  have y2 := (vy.off2 (g := w.heap.size + 1 + 1) (by omega) (.int .i64 0) (.int .i64 0)).put2 (.int .i64 0) (.int .i64 0)
  obtain ⟨te, hg⟩ := x2
  obtain ⟨tf, hg2⟩ := y2
  refine bodyPost_ret_by (results_cell_cell_tmp rfl _ _ (w.heap.size + 1 + 1) (w.heap.size + 1 + 1 + 1) te tf _ _ (0, 0) (0, 0) _ _ rfl rfl hg hg2 Tryd.underlying29 rfl (by kernel_rfl) Tryd.underlying29 rfl (by kernel_rfl) (.int .i64 5) rfl) rfl ?_
  exact ⟨rfl, below_put2 (below_put2 B (by omega) _ _) (by omega) _ _⟩

set_option maxRecDepth 100000 in
set_option maxHeartbeats 1000000 in
theorem farey_two1 (s : T4) (m : Int) (w : World) (hs : validB s.a s.b s.c s.d = true) (hm : 1 ≤ m) (hm2 : m ≤ 4096) (h1 : aboveI s 1 1 = 1) (h2 : aboveI s 2 1 = 0) :
    Calls Tryd.prog 10 #[.agg #[.int .i64 s.a, .int .i64 s.b, .int .i64 s.c, .int .i64 s.d], .int .i64 m] w (RetF w 0 0 0 0 5) := by
  have VA := fun w : World => tvalid_calls s.a s.b s.c s.d w (validB_i64 hs).1 (validB_i64 hs).2.1 (validB_i64 hs).2.2.1 (validB_i64 hs).2.2.2
  rw [hs] at VA
  have HA := Lib.hid VA
  clear VA
  have A11 : ∀ w : World, Calls Tryd.prog 26 #[.agg #[.int .i64 s.a, .int .i64 s.b, .int .i64 s.c, .int .i64 s.d], .int .i64 1, .int .i64 1] w fun e w' => e = .returned (.int .i64 (aboveI s 1 1)) ∧ Below w.heap.size w w' := fun w => above_calls s 1 1 w hs (by omega) (by omega)
  rw [h1] at A11
  have A21 : ∀ w : World, Calls Tryd.prog 26 #[.agg #[.int .i64 s.a, .int .i64 s.b, .int .i64 s.c, .int .i64 s.d], .int .i64 2, .int .i64 1] w fun e w' => e = .returned (.int .i64 (aboveI s 2 1)) ∧ Below w.heap.size w w' := fun w => above_calls s 2 1 w hs (by omega) (by omega)
  rw [h2] at A21
  have H21 := Lib.hid A21
  clear A21 h2
  have H11 := Lib.hid A11
  clear A11 h1 hs
  have vs := Vals.newL w (w.heap.size) [.int .i64 s.a, .int .i64 s.b, .int .i64 s.c, .int .i64 s.d] 23 rfl
  have bb := below_alloc w (.cells #[.int .i64 s.a, .int .i64 s.b, .int .i64 s.c, .int .i64 s.d] 23)
  have B := bb
  have sz0 := World.size_alloc w (.cells #[.int .i64 s.a, .int .i64 s.b, .int .i64 s.c, .int .i64 s.d] 23)
  have sz := sz0
  clear sz0
  clear bb
  have vm := Vals.newL (w.alloc (.cells #[.int .i64 s.a, .int .i64 s.b, .int .i64 s.c, .int .i64 s.d] 23)) (w.heap.size + 1) [.int .i64 m] 3 sz.symm
  have bb := below_alloc (w.alloc (.cells #[.int .i64 s.a, .int .i64 s.b, .int .i64 s.c, .int .i64 s.d] 23)) (.cells #[.int .i64 m] 3)
  replace vs := vs.mono bb
  replace B := below_trans B bb
  clear bb
  have sz1 := World.size_alloc (w.alloc (.cells #[.int .i64 s.a, .int .i64 s.b, .int .i64 s.c, .int .i64 s.d] 23)) (.cells #[.int .i64 m] 3)
  rw [sz] at sz1
  clear sz
  have sz := sz1
  clear sz1
  have vx := Vals.newL ((w.alloc (.cells #[.int .i64 s.a, .int .i64 s.b, .int .i64 s.c, .int .i64 s.d] 23)).alloc (.cells #[.int .i64 m] 3)) (w.heap.size + 1 + 1) [.int .i64 0, .int .i64 0] 29 sz.symm
  have bb := below_alloc ((w.alloc (.cells #[.int .i64 s.a, .int .i64 s.b, .int .i64 s.c, .int .i64 s.d] 23)).alloc (.cells #[.int .i64 m] 3)) (.cells #[.int .i64 0, .int .i64 0] 29)
  replace vs := vs.mono bb
  replace vm := vm.mono bb
  replace B := below_trans B bb
  clear bb
  have sz2 := World.size_alloc ((w.alloc (.cells #[.int .i64 s.a, .int .i64 s.b, .int .i64 s.c, .int .i64 s.d] 23)).alloc (.cells #[.int .i64 m] 3)) (.cells #[.int .i64 0, .int .i64 0] 29)
  rw [sz] at sz2
  clear sz
  have sz := sz2
  clear sz2
  have vy := Vals.newL (((w.alloc (.cells #[.int .i64 s.a, .int .i64 s.b, .int .i64 s.c, .int .i64 s.d] 23)).alloc (.cells #[.int .i64 m] 3)).alloc (.cells #[.int .i64 0, .int .i64 0] 29)) (w.heap.size + 1 + 1 + 1) [.int .i64 0, .int .i64 0] 29 sz.symm
  have bb := below_alloc (((w.alloc (.cells #[.int .i64 s.a, .int .i64 s.b, .int .i64 s.c, .int .i64 s.d] 23)).alloc (.cells #[.int .i64 m] 3)).alloc (.cells #[.int .i64 0, .int .i64 0] 29)) (.cells #[.int .i64 0, .int .i64 0] 29)
  replace vs := vs.mono bb
  replace vm := vm.mono bb
  replace vx := vx.mono bb
  replace B := below_trans B bb
  clear sz
  clear bb
  go_enter Tryd.func10, Tryd.ntmps10
  go_wp2_with fail
  generalize ((((w.alloc (.cells #[.int .i64 s.a, .int .i64 s.b, .int .i64 s.c, .int .i64 s.d] 23)).alloc (.cells #[.int .i64 m] 3)).alloc (.cells #[.int .i64 0, .int .i64 0] 29)).alloc (.cells #[.int .i64 0, .int .i64 0] 29)) = w0 at *
  refine (HA.out _).mono ?_
  rintro e w1 ⟨rfl, b1⟩
  replace vs := vs.mono b1
  replace vm := vm.mono b1
  replace vx := vx.mono b1
  replace vy := vy.mono b1
  replace B := below_trans B b1
  clear b1
  have cvm0 := vm.cell (i := 0) (by simp)
  simp only [List.getD_cons_zero, List.getD_cons_succ] at cvm0
  have ltvm := vm.lt
  have cvs0 := vs.cell (i := 0) (by simp)
  have cvs1 := vs.cell (i := 1) (by simp)
  have cvs2 := vs.cell (i := 2) (by simp)
  have cvs3 := vs.cell (i := 3) (by simp)
  simp only [List.getD_cons_zero, List.getD_cons_succ] at cvs0 cvs1 cvs2 cvs3
  have ltvs := vs.lt
  go_wp2_with fail
  clear cvm0 ltvm cvs0 cvs1 cvs2 cvs3 ltvs
  refine (H11.out _).mono ?_
  rintro e w2 ⟨rfl, b2⟩
  replace vs := vs.mono b2
  replace vm := vm.mono b2
  replace vx := vx.mono b2
  replace vy := vy.mono b2
  replace B := below_trans B b2
  clear b2
  have cvs0 := vs.cell (i := 0) (by simp)
  have cvs1 := vs.cell (i := 1) (by simp)
  have cvs2 := vs.cell (i := 2) (by simp)
  have cvs3 := vs.cell (i := 3) (by simp)
  simp only [List.getD_cons_zero, List.getD_cons_succ] at cvs0 cvs1 cvs2 cvs3
  have ltvs := vs.lt
  go_wp2_with fail
  clear cvs0 cvs1 cvs2 cvs3 ltvs
  refine (H21.out _).mono ?_
  rintro e w3 ⟨rfl, b3⟩
  replace vs := vs.mono b3
  replace vm := vm.mono b3
  replace vx := vx.mono b3
  replace vy := vy.mono b3
  replace B := below_trans B b3
  clear b3
  have cvx0 := vx.cell (i := 0) (by simp)
  have cvx1 := vx.cell (i := 1) (by simp)
  simp only [List.getD_cons_zero, List.getD_cons_succ] at cvx0 cvx1
  have ltvx := vx.lt
  have fvx0 := vx.frozen 0
  have fvx1 := vx.frozen 1
  have cvy0 := vy.cell (i := 0) (by simp)
  have cvy1 := vy.cell (i := 1) (by simp)
  simp only [List.getD_cons_zero, List.getD_cons_succ] at cvy0 cvy1
  have ltvy := vy.lt
  have fvy0 := vy.frozen 0
  have fvy1 := vy.frozen 1
  go_wp2
  clear cvx0 cvx1 ltvx fvx0 fvx1 cvy0 cvy1 ltvy fvy0 fvy1
  have x2 := (vx.put2 (.int .i64 0) (.int .i64 0)).off2 (g := w.heap.size + 1 + 1 + 1) (by omega) (.int .i64 0) (.int .i64 0)
  have y2 := (vy.off2 (g := w.heap.size + 1 + 1) (by omega) (.int .i64 0) (.int .i64 0)).put2 (.int .i64 0) (.int .i64 0)
  obtain ⟨te, hg⟩ := x2
  obtain ⟨tf, hg2⟩ := y2
  refine bodyPost_ret_by (results_cell_cell_tmp rfl _ _ (w.heap.size + 1 + 1) (w.heap.size + 1 + 1 + 1) te tf _ _ (0, 0) (0, 0) _ _ rfl rfl hg hg2 Tryd.underlying29 rfl (by kernel_rfl) Tryd.underlying29 rfl (by kernel_rfl) (.int .i64 5) rfl) rfl ?_
  exact ⟨rfl, below_put2 (below_put2 B (by omega) _ _) (by omega) _ _⟩

set_option maxRecDepth 100000 in
set_option maxHeartbeats 1000000 in
theorem farey_two2 (s : T4) (m : Int) (w : World) (hs : validB s.a s.b s.c s.d = true) (hm : 1 ≤ m) (hm2 : m ≤ 4096) (h1 : aboveI s 1 1 = 1) (h2 : aboveI s 2 1 = 1) :
    Calls Tryd.prog 10 #[.agg #[.int .i64 s.a, .int .i64 s.b, .int .i64 s.c, .int .i64 s.d], .int .i64 m] w (RetF w 0 0 0 0 5) := by
  have VA := fun w : World => tvalid_calls s.a s.b s.c s.d w (validB_i64 hs).1 (validB_i64 hs).2.1 (validB_i64 hs).2.2.1 (validB_i64 hs).2.2.2
  rw [hs] at VA
  have HA := Lib.hid VA
  clear VA
  have A11 : ∀ w : World, Calls Tryd.prog 26 #[.agg #[.int .i64 s.a, .int .i64 s.b, .int .i64 s.c, .int .i64 s.d], .int .i64 1, .int .i64 1] w fun e w' => e = .returned (.int .i64 (aboveI s 1 1)) ∧ Below w.heap.size w w' := fun w => above_calls s 1 1 w hs (by omega) (by omega)
  rw [h1] at A11
  have A21 : ∀ w : World, Calls Tryd.prog 26 #[.agg #[.int .i64 s.a, .int .i64 s.b, .int .i64 s.c, .int .i64 s.d], .int .i64 2, .int .i64 1] w fun e w' => e = .returned (.int .i64 (aboveI s 2 1)) ∧ Below w.heap.size w w' := fun w => above_calls s 2 1 w hs (by omega) (by omega)
  rw [h2] at A21
  have H21 := Lib.hid A21
  clear A21 h2
  have H11 := Lib.hid A11
  clear A11 h1 hs
  have vs := Vals.newL w (w.heap.size) [.int .i64 s.a, .int .i64 s.b, .int .i64 s.c, .int .i64 s.d] 23 rfl
  have bb := below_alloc w (.cells #[.int .i64 s.a, .int .i64 s.b, .int .i64 s.c, .int .i64 s.d] 23)
  have B := bb
  have sz0 := World.size_alloc w (.cells #[.int .i64 s.a, .int .i64 s.b, .int .i64 s.c, .int .i64 s.d] 23)
  have sz := sz0
  clear sz0
  clear bb
  have vm := Vals.newL (w.alloc (.cells #[.int .i64 s.a, .int .i64 s.b, .int .i64 s.c, .int .i64 s.d] 23)) (w.heap.size + 1) [.int .i64 m] 3 sz.symm
  have bb := below_alloc (w.alloc (.cells #[.int .i64 s.a, .int .i64 s.b, .int .i64 s.c, .int .i64 s.d] 23)) (.cells #[.int .i64 m] 3)
  replace vs := vs.mono bb
  replace B := below_trans B bb
  clear bb
  have sz1 := World.size_alloc (w.alloc (.cells #[.int .i64 s.a, .int .i64 s.b, .int .i64 s.c, .int .i64 s.d] 23)) (.cells #[.int .i64 m] 3)
  rw [sz] at sz1
  clear sz
  have sz := sz1
  clear sz1
  have vx := Vals.newL ((w.alloc (.cells #[.int .i64 s.a, .int .i64 s.b, .int .i64 s.c, .int .i64 s.d] 23)).alloc (.cells #[.int .i64 m] 3)) (w.heap.size + 1 + 1) [.int .i64 0, .int .i64 0] 29 sz.symm
  have bb := below_alloc ((w.alloc (.cells #[.int .i64 s.a, .int .i64 s.b, .int .i64 s.c, .int .i64 s.d] 23)).alloc (.cells #[.int .i64 m] 3)) (.cells #[.int .i64 0, .int .i64 0] 29)
  replace vs := vs.mono bb
  replace vm := vm.mono bb
  replace B := below_trans B bb
  clear bb
  have sz2 := World.size_alloc ((w.alloc (.cells #[.int .i64 s.a, .int .i64 s.b, .int .i64 s.c, .int .i64 s.d] 23)).alloc (.cells #[.int .i64 m] 3)) (.cells #[.int .i64 0, .int .i64 0] 29)
  rw [sz] at sz2
  clear sz
  have sz := sz2
  clear sz2
  have vy := Vals.newL (((w.alloc (.cells #[.int .i64 s.a, .int .i64 s.b, .int .i64 s.c, .int .i64 s.d] 23)).alloc (.cells #[.int .i64 m] 3)).alloc (.cells #[.int .i64 0, .int .i64 0] 29)) (w.heap.size + 1 + 1 + 1) [.int .i64 0, .int .i64 0] 29 sz.symm
  have bb := below_alloc (((w.alloc (.cells #[.int .i64 s.a, .int .i64 s.b, .int .i64 s.c, .int .i64 s.d] 23)).alloc (.cells #[.int .i64 m] 3)).alloc (.cells #[.int .i64 0, .int .i64 0] 29)) (.cells #[.int .i64 0, .int .i64 0] 29)
  replace vs := vs.mono bb
  replace vm := vm.mono bb
  replace vx := vx.mono bb
  replace B := below_trans B bb
  clear sz
  clear bb
  go_enter Tryd.func10, Tryd.ntmps10
  go_wp2_with fail
  generalize ((((w.alloc (.cells #[.int .i64 s.a, .int .i64 s.b, .int .i64 s.c, .int .i64 s.d] 23)).alloc (.cells #[.int .i64 m] 3)).alloc (.cells #[.int .i64 0, .int .i64 0] 29)).alloc (.cells #[.int .i64 0, .int .i64 0] 29)) = w0 at *
  refine (HA.out _).mono ?_
  rintro e w1 ⟨rfl, b1⟩
  replace vs := vs.mono b1
  replace vm := vm.mono b1
  replace vx := vx.mono b1
  replace vy := vy.mono b1
  replace B := below_trans B b1
  clear b1
  have cvm0 := vm.cell (i := 0) (by simp)
  simp only [List.getD_cons_zero, List.getD_cons_succ] at cvm0
  have ltvm := vm.lt
  have cvs0 := vs.cell (i := 0) (by simp)
  have cvs1 := vs.cell (i := 1) (by simp)
  have cvs2 := vs.cell (i := 2) (by simp)
  have cvs3 := vs.cell (i := 3) (by simp)
  simp only [List.getD_cons_zero, List.getD_cons_succ] at cvs0 cvs1 cvs2 cvs3
  have ltvs := vs.lt
  go_wp2_with fail
  clear cvm0 ltvm cvs0 cvs1 cvs2 cvs3 ltvs
  refine (H11.out _).mono ?_
  rintro e w2 ⟨rfl, b2⟩
  replace vs := vs.mono b2
  replace vm := vm.mono b2
  replace vx := vx.mono b2
  replace vy := vy.mono b2
  replace B := below_trans B b2
  clear b2
  have cvs0 := vs.cell (i := 0) (by simp)
  have cvs1 := vs.cell (i := 1) (by simp)
  have cvs2 := vs.cell (i := 2) (by simp)
  have cvs3 := vs.cell (i := 3) (by simp)
  simp only [List.getD_cons_zero, List.getD_cons_succ] at cvs0 cvs1 cvs2 cvs3
  have ltvs := vs.lt
  go_wp2_with fail
  clear cvs0 cvs1 cvs2 cvs3 ltvs
  refine (H21.out _).mono ?_
  rintro e w3 ⟨rfl, b3⟩
  replace vs := vs.mono b3
  replace vm := vm.mono b3
  replace vx := vx.mono b3
  replace vy := vy.mono b3
  replace B := below_trans B b3
  clear b3
  have cvx0 := vx.cell (i := 0) (by simp)
  have cvx1 := vx.cell (i := 1) (by simp)
  simp only [List.getD_cons_zero, List.getD_cons_succ] at cvx0 cvx1
  have ltvx := vx.lt
  have fvx0 := vx.frozen 0
  have fvx1 := vx.frozen 1
  have cvy0 := vy.cell (i := 0) (by simp)
  have cvy1 := vy.cell (i := 1) (by simp)
  simp only [List.getD_cons_zero, List.getD_cons_succ] at cvy0 cvy1
  have ltvy := vy.lt
  have fvy0 := vy.frozen 0
  have fvy1 := vy.frozen 1
  go_wp2
  clear cvx0 cvx1 ltvx fvx0 fvx1 cvy0 cvy1 ltvy fvy0 fvy1
  have x2 := (vx.put2 (.int .i64 0) (.int .i64 0)).off2 (g := w.heap.size + 1 + 1 + 1) (by omega) (.int .i64 0) (.int .i64 0)
  have y2 := (vy.off2 (g := w.heap.size + 1 + 1) (by omega) (.int .i64 0) (.int .i64 0)).put2 (.int .i64 0) (.int .i64 0)
  obtain ⟨te, hg⟩ := x2
  obtain ⟨tf, hg2⟩ := y2
  refine bodyPost_ret_by (results_cell_cell_tmp rfl _ _ (w.heap.size + 1 + 1) (w.heap.size + 1 + 1 + 1) te tf _ _ (0, 0) (0, 0) _ _ rfl rfl hg hg2 Tryd.underlying29 rfl (by kernel_rfl) Tryd.underlying29 rfl (by kernel_rfl) (.int .i64 5) rfl) rfl ?_
  exact ⟨rfl, below_put2 (below_put2 B (by omega) _ _) (by omega) _ _⟩

set_option maxRecDepth 100000 in
set_option maxHeartbeats 1000000 in
theorem farey_two3 (s : T4) (m : Int) (w : World) (hs : validB s.a s.b s.c s.d = true) (hm : 1 ≤ m) (hm2 : m ≤ 4096) (h1 : aboveI s 1 1 = 0) (h2 : aboveI s 2 1 = 1) :
    Calls Tryd.prog 10 #[.agg #[.int .i64 s.a, .int .i64 s.b, .int .i64 s.c, .int .i64 s.d], .int .i64 m] w (RetF w 0 0 0 0 5) := by
  have VA := fun w : World => tvalid_calls s.a s.b s.c s.d w (validB_i64 hs).1 (validB_i64 hs).2.1 (validB_i64 hs).2.2.1 (validB_i64 hs).2.2.2
  rw [hs] at VA
  have HA := Lib.hid VA
  clear VA
  have A11 : ∀ w : World, Calls Tryd.prog 26 #[.agg #[.int .i64 s.a, .int .i64 s.b, .int .i64 s.c, .int .i64 s.d], .int .i64 1, .int .i64 1] w fun e w' => e = .returned (.int .i64 (aboveI s 1 1)) ∧ Below w.heap.size w w' := fun w => above_calls s 1 1 w hs (by omega) (by omega)
  rw [h1] at A11
  have A21 : ∀ w : World, Calls Tryd.prog 26 #[.agg #[.int .i64 s.a, .int .i64 s.b, .int .i64 s.c, .int .i64 s.d], .int .i64 2, .int .i64 1] w fun e w' => e = .returned (.int .i64 (aboveI s 2 1)) ∧ Below w.heap.size w w' := fun w => above_calls s 2 1 w hs (by omega) (by omega)
  rw [h2] at A21
  have H21 := Lib.hid A21
  clear A21 h2
  have H11 := Lib.hid A11
  clear A11 h1 hs
  have vs := Vals.newL w (w.heap.size) [.int .i64 s.a, .int .i64 s.b, .int .i64 s.c, .int .i64 s.d] 23 rfl
  have bb := below_alloc w (.cells #[.int .i64 s.a, .int .i64 s.b, .int .i64 s.c, .int .i64 s.d] 23)
  have B := bb
  have sz0 := World.size_alloc w (.cells #[.int .i64 s.a, .int .i64 s.b, .int .i64 s.c, .int .i64 s.d] 23)
  have sz := sz0
  clear sz0
  clear bb
  have vm := Vals.newL (w.alloc (.cells #[.int .i64 s.a, .int .i64 s.b, .int .i64 s.c, .int .i64 s.d] 23)) (w.heap.size + 1) [.int .i64 m] 3 sz.symm
  have bb := below_alloc (w.alloc (.cells #[.int .i64 s.a, .int .i64 s.b, .int .i64 s.c, .int .i64 s.d] 23)) (.cells #[.int .i64 m] 3)
  replace vs := vs.mono bb
  replace B := below_trans B bb
  clear bb
  have sz1 := World.size_alloc (w.alloc (.cells #[.int .i64 s.a, .int .i64 s.b, .int .i64 s.c, .int .i64 s.d] 23)) (.cells #[.int .i64 m] 3)
  rw [sz] at sz1
  clear sz
  have sz := sz1
  clear sz1
  have vx := Vals.newL ((w.alloc (.cells #[.int .i64 s.a, .int .i64 s.b, .int .i64 s.c, .int .i64 s.d] 23)).alloc (.cells #[.int .i64 m] 3)) (w.heap.size + 1 + 1) [.int .i64 0, .int .i64 0] 29 sz.symm
  have bb := below_alloc ((w.alloc (.cells #[.int .i64 s.a, .int .i64 s.b, .int .i64 s.c, .int .i64 s.d] 23)).alloc (.cells #[.int .i64 m] 3)) (.cells #[.int .i64 0, .int .i64 0] 29)
  replace vs := vs.mono bb
  replace vm := vm.mono bb
  replace B := below_trans B bb
  clear bb
  have sz2 := World.size_alloc ((w.alloc (.cells #[.int .i64 s.a, .int .i64 s.b, .int .i64 s.c, .int .i64 s.d] 23)).alloc (.cells #[.int .i64 m] 3)) (.cells #[.int .i64 0, .int .i64 0] 29)
  rw [sz] at sz2
  clear sz
  have sz := sz2
  clear sz2
  have vy := Vals.newL (((w.alloc (.cells #[.int .i64 s.a, .int .i64 s.b, .int .i64 s.c, .int .i64 s.d] 23)).alloc (.cells #[.int .i64 m] 3)).alloc (.cells #[.int .i64 0, .int .i64 0] 29)) (w.heap.size + 1 + 1 + 1) [.int .i64 0, .int .i64 0] 29 sz.symm
  have bb := below_alloc (((w.alloc (.cells #[.int .i64 s.a, .int .i64 s.b, .int .i64 s.c, .int .i64 s.d] 23)).alloc (.cells #[.int .i64 m] 3)).alloc (.cells #[.int .i64 0, .int .i64 0] 29)) (.cells #[.int .i64 0, .int .i64 0] 29)
  replace vs := vs.mono bb
  replace vm := vm.mono bb
  replace vx := vx.mono bb
  replace B := below_trans B bb
  clear sz
  clear bb
  go_enter Tryd.func10, Tryd.ntmps10
  go_wp2_with fail
  generalize ((((w.alloc (.cells #[.int .i64 s.a, .int .i64 s.b, .int .i64 s.c, .int .i64 s.d] 23)).alloc (.cells #[.int .i64 m] 3)).alloc (.cells #[.int .i64 0, .int .i64 0] 29)).alloc (.cells #[.int .i64 0, .int .i64 0] 29)) = w0 at *
  refine (HA.out _).mono ?_
  rintro e w1 ⟨rfl, b1⟩
  replace vs := vs.mono b1
  replace vm := vm.mono b1
  replace vx := vx.mono b1
  replace vy := vy.mono b1
  replace B := below_trans B b1
  clear b1
  have cvm0 := vm.cell (i := 0) (by simp)
  simp only [List.getD_cons_zero, List.getD_cons_succ] at cvm0
  have ltvm := vm.lt
  have cvs0 := vs.cell (i := 0) (by simp)
  have cvs1 := vs.cell (i := 1) (by simp)
  have cvs2 := vs.cell (i := 2) (by simp)
  have cvs3 := vs.cell (i := 3) (by simp)
  simp only [List.getD_cons_zero, List.getD_cons_succ] at cvs0 cvs1 cvs2 cvs3
  have ltvs := vs.lt
  go_wp2_with fail
  clear cvm0 ltvm cvs0 cvs1 cvs2 cvs3 ltvs
  refine (H11.out _).mono ?_
  rintro e w2 ⟨rfl, b2⟩
  replace vs := vs.mono b2
  replace vm := vm.mono b2
  replace vx := vx.mono b2
  replace vy := vy.mono b2
  replace B := below_trans B b2
  clear b2
  have cvs0 := vs.cell (i := 0) (by simp)
  have cvs1 := vs.cell (i := 1) (by simp)
  have cvs2 := vs.cell (i := 2) (by simp)
  have cvs3 := vs.cell (i := 3) (by simp)
  simp only [List.getD_cons_zero, List.getD_cons_succ] at cvs0 cvs1 cvs2 cvs3
  have ltvs := vs.lt
  go_wp2_with fail
  clear cvs0 cvs1 cvs2 cvs3 ltvs
  refine (H21.out _).mono ?_
  rintro e w3 ⟨rfl, b3⟩
  replace vs := vs.mono b3
  replace vm := vm.mono b3
  replace vx := vx.mono b3
  replace vy := vy.mono b3
  replace B := below_trans B b3
  clear b3
  have cvx0 := vx.cell (i := 0) (by simp)
  have cvx1 := vx.cell (i := 1) (by simp)
  simp only [List.getD_cons_zero, List.getD_cons_succ] at cvx0 cvx1
  have ltvx := vx.lt
  have fvx0 := vx.frozen 0
  have fvx1 := vx.frozen 1
  have cvy0 := vy.cell (i := 0) (by simp)
  have cvy1 := vy.cell (i := 1) (by simp)
  simp only [List.getD_cons_zero, List.getD_cons_succ] at cvy0 cvy1
  have ltvy := vy.lt
  have fvy0 := vy.frozen 0
  have fvy1 := vy.frozen 1
  go_wp2
  clear cvx0 cvx1 ltvx fvx0 fvx1 cvy0 cvy1 ltvy fvy0 fvy1
  have x2 := (vx.put2 (.int .i64 0) (.int .i64 0)).off2 (g := w.heap.size + 1 + 1 + 1) (by omega) (.int .i64 0) (.int .i64 0)
  have y2 := (vy.off2 (g := w.heap.size + 1 + 1) (by omega) (.int .i64 0) (.int .i64 0)).put2 (.int .i64 0) (.int .i64 0)
  obtain ⟨te, hg⟩ := x2
  obtain ⟨tf, hg2⟩ := y2
  refine bodyPost_ret_by (results_cell_cell_tmp rfl _ _ (w.heap.size + 1 + 1) (w.heap.size + 1 + 1 + 1) te tf _ _ (0, 0) (0, 0) _ _ rfl rfl hg hg2 Tryd.underlying29 rfl (by kernel_rfl) Tryd.underlying29 rfl (by kernel_rfl) (.int .i64 5) rfl) rfl ?_
  exact ⟨rfl, below_put2 (below_put2 B (by omega) _ _) (by omega) _ _⟩

set_option maxRecDepth 100000 in
set_option maxHeartbeats 1000000 in
theorem farey_one (s : T4) (m : Int) (w : World) (hs : validB s.a s.b s.c s.d = true) (hm : 1 ≤ m) (hm2 : m ≤ 4096) (h1 : aboveI s 1 1 = 0) (h2 : aboveI s 2 1 = -1) :
    Calls Tryd.prog 10 #[.agg #[.int .i64 s.a, .int .i64 s.b, .int .i64 s.c, .int .i64 s.d], .int .i64 m] w (RetF w 1 1 1 1 0) := by
  have VA := fun w : World => tvalid_calls s.a s.b s.c s.d w (validB_i64 hs).1 (validB_i64 hs).2.1 (validB_i64 hs).2.2.1 (validB_i64 hs).2.2.2
  rw [hs] at VA
  have HA := Lib.hid VA
  clear VA
  have A11 : ∀ w : World, Calls Tryd.prog 26 #[.agg #[.int .i64 s.a, .int .i64 s.b, .int .i64 s.c, .int .i64 s.d], .int .i64 1, .int .i64 1] w fun e w' => e = .returned (.int .i64 (aboveI s 1 1)) ∧ Below w.heap.size w w' := fun w => above_calls s 1 1 w hs (by omega) (by omega)
  have A21 : ∀ w : World, Calls Tryd.prog 26 #[.agg #[.int .i64 s.a, .int .i64 s.b, .int .i64 s.c, .int .i64 s.d], .int .i64 2, .int .i64 1] w fun e w' => e = .returned (.int .i64 (aboveI s 2 1)) ∧ Below w.heap.size w w' := fun w => above_calls s 2 1 w hs (by omega) (by omega)
  rw [h1] at A11
  rw [h2] at A21
  have H21 := Lib.hid A21
  have H11 := Lib.hid A11
  clear A11 A21
  have vs := Vals.newL w (w.heap.size) [.int .i64 s.a, .int .i64 s.b, .int .i64 s.c, .int .i64 s.d] 23 rfl
  have bb := below_alloc w (.cells #[.int .i64 s.a, .int .i64 s.b, .int .i64 s.c, .int .i64 s.d] 23)
  have B := bb
  have sz0 := World.size_alloc w (.cells #[.int .i64 s.a, .int .i64 s.b, .int .i64 s.c, .int .i64 s.d] 23)
  have sz := sz0
  clear sz0
  clear bb
  have vm := Vals.newL (w.alloc (.cells #[.int .i64 s.a, .int .i64 s.b, .int .i64 s.c, .int .i64 s.d] 23)) (w.heap.size + 1) [.int .i64 m] 3 sz.symm
  have bb := below_alloc (w.alloc (.cells #[.int .i64 s.a, .int .i64 s.b, .int .i64 s.c, .int .i64 s.d] 23)) (.cells #[.int .i64 m] 3)
  replace vs := vs.mono bb
  replace B := below_trans B bb
  clear bb
  have sz1 := World.size_alloc (w.alloc (.cells #[.int .i64 s.a, .int .i64 s.b, .int .i64 s.c, .int .i64 s.d] 23)) (.cells #[.int .i64 m] 3)
  rw [sz] at sz1
  clear sz
  have sz := sz1
  clear sz1
  have vx := Vals.newL ((w.alloc (.cells #[.int .i64 s.a, .int .i64 s.b, .int .i64 s.c, .int .i64 s.d] 23)).alloc (.cells #[.int .i64 m] 3)) (w.heap.size + 1 + 1) [.int .i64 0, .int .i64 0] 29 sz.symm
  have bb := below_alloc ((w.alloc (.cells #[.int .i64 s.a, .int .i64 s.b, .int .i64 s.c, .int .i64 s.d] 23)).alloc (.cells #[.int .i64 m] 3)) (.cells #[.int .i64 0, .int .i64 0] 29)
  replace vs := vs.mono bb
  replace vm := vm.mono bb
  replace B := below_trans B bb
  clear bb
  have sz2 := World.size_alloc ((w.alloc (.cells #[.int .i64 s.a, .int .i64 s.b, .int .i64 s.c, .int .i64 s.d] 23)).alloc (.cells #[.int .i64 m] 3)) (.cells #[.int .i64 0, .int .i64 0] 29)
  rw [sz] at sz2
  clear sz
  have sz := sz2
  clear sz2
  have vy := Vals.newL (((w.alloc (.cells #[.int .i64 s.a, .int .i64 s.b, .int .i64 s.c, .int .i64 s.d] 23)).alloc (.cells #[.int .i64 m] 3)).alloc (.cells #[.int .i64 0, .int .i64 0] 29)) (w.heap.size + 1 + 1 + 1) [.int .i64 0, .int .i64 0] 29 sz.symm
  have bb := below_alloc (((w.alloc (.cells #[.int .i64 s.a, .int .i64 s.b, .int .i64 s.c, .int .i64 s.d] 23)).alloc (.cells #[.int .i64 m] 3)).alloc (.cells #[.int .i64 0, .int .i64 0] 29)) (.cells #[.int .i64 0, .int .i64 0] 29)
  replace vs := vs.mono bb
  replace vm := vm.mono bb
  replace vx := vx.mono bb
  replace B := below_trans B bb
  clear sz
  clear bb
  go_enter Tryd.func10, Tryd.ntmps10
  go_wp2_with fail
  generalize ((((w.alloc (.cells #[.int .i64 s.a, .int .i64 s.b, .int .i64 s.c, .int .i64 s.d] 23)).alloc (.cells #[.int .i64 m] 3)).alloc (.cells #[.int .i64 0, .int .i64 0] 29)).alloc (.cells #[.int .i64 0, .int .i64 0] 29)) = w0 at *
  refine (HA.out _).mono ?_
  rintro e w1 ⟨rfl, b1⟩
  replace vs := vs.mono b1
  replace vm := vm.mono b1
  replace vx := vx.mono b1
  replace vy := vy.mono b1
  replace B := below_trans B b1
  clear b1
  have cvm0 := vm.cell (i := 0) (by simp)
  simp only [List.getD_cons_zero, List.getD_cons_succ] at cvm0
  have ltvm := vm.lt
  have cvs0 := vs.cell (i := 0) (by simp)
  have cvs1 := vs.cell (i := 1) (by simp)
  have cvs2 := vs.cell (i := 2) (by simp)
  have cvs3 := vs.cell (i := 3) (by simp)
  simp only [List.getD_cons_zero, List.getD_cons_succ] at cvs0 cvs1 cvs2 cvs3
  have ltvs := vs.lt
  go_wp2_with fail
  clear cvm0 ltvm cvs0 cvs1 cvs2 cvs3 ltvs
  refine (H11.out _).mono ?_
  rintro e w2 ⟨rfl, b2⟩
  replace vs := vs.mono b2
  replace vm := vm.mono b2
  replace vx := vx.mono b2
  replace vy := vy.mono b2
  replace B := below_trans B b2
  clear b2
  have cvs0 := vs.cell (i := 0) (by simp)
  have cvs1 := vs.cell (i := 1) (by simp)
  have cvs2 := vs.cell (i := 2) (by simp)
  have cvs3 := vs.cell (i := 3) (by simp)
  simp only [List.getD_cons_zero, List.getD_cons_succ] at cvs0 cvs1 cvs2 cvs3
  have ltvs := vs.lt
  go_wp2_with fail
  clear cvs0 cvs1 cvs2 cvs3 ltvs
  refine (H21.out _).mono ?_
  rintro e w3 ⟨rfl, b3⟩
  replace vs := vs.mono b3
  replace vm := vm.mono b3
  replace vx := vx.mono b3
  replace vy := vy.mono b3
  replace B := below_trans B b3
  clear b3
  have cvs0 := vs.cell (i := 0) (by simp)
  have cvs1 := vs.cell (i := 1) (by simp)
  have cvs2 := vs.cell (i := 2) (by simp)
  have cvs3 := vs.cell (i := 3) (by simp)
  simp only [List.getD_cons_zero, List.getD_cons_succ] at cvs0 cvs1 cvs2 cvs3
  have ltvs := vs.lt
  go_wp2_with fail
  clear cvs0 cvs1 cvs2 cvs3 ltvs
  have hsz : w.heap.size + 1 + 1 + 1 < w3.heap.size := vy.lt
  have sz0 := World.size_alloc w3 (.cells #[.int .i64 1, .int .i64 1] 29)
  have v7 := Vals.newL w3 w3.heap.size [.int .i64 1, .int .i64 1] 29 rfl
  have bb := below_alloc w3 (.cells #[.int .i64 1, .int .i64 1] 29)
  have v8 := Vals.newL (w3.alloc (.cells #[.int .i64 1, .int .i64 1] 29)) (w3.heap.size + 1) [.int .i64 2, .int .i64 1] 29 sz0.symm
  have bc := below_alloc (w3.alloc (.cells #[.int .i64 1, .int .i64 1] 29)) (.cells #[.int .i64 2, .int .i64 1] 29)
  have bd := below_trans bb bc
  replace v7 := v7.mono bc
  replace vs := vs.mono bd
  replace vm := vm.mono bd
  replace vx := vx.mono bd
  replace vy := vy.mono bd
  replace B := below_trans B bd
  clear bb bc bd sz0
  generalize (w3.alloc (.cells #[.int .i64 1, .int .i64 1] 29)).alloc (.cells #[.int .i64 2, .int .i64 1] 29) = W0 at *
  generalize w3.heap.size = b7 at *
  refine (H11.out _).mono ?_
  rintro e w4 ⟨rfl, b4⟩
  replace vs := vs.mono b4
  replace vm := vm.mono b4
  replace vx := vx.mono b4
  replace vy := vy.mono b4
  replace v7 := v7.mono b4
  replace v8 := v8.mono b4
  replace B := below_trans B b4
  clear b4
  go_upto_region 9 with (fail)
  have cv70 := v7.cell (i := 0) (by simp)
  have cv71 := v7.cell (i := 1) (by simp)
  simp only [List.getD_cons_zero, List.getD_cons_succ] at cv70 cv71
  have ltv7 := v7.lt
  have cvx0 := vx.cell (i := 0) (by simp)
  have cvx1 := vx.cell (i := 1) (by simp)
  simp only [List.getD_cons_zero, List.getD_cons_succ] at cvx0 cvx1
  have ltvx := vx.lt
  have fvx0 := vx.frozen 0
  have fvx1 := vx.frozen 1
  have cvy0 := vy.cell (i := 0) (by simp)
  have cvy1 := vy.cell (i := 1) (by simp)
  simp only [List.getD_cons_zero, List.getD_cons_succ] at cvy0 cvy1
  have ltvy := vy.lt
  have fvy0 := vy.frozen 0
  have fvy1 := vy.frozen 1
  go_region
  clear cv70 cv71 ltv7 cvx0 cvx1 ltvx fvx0 fvx1 cvy0 cvy1 ltvy fvy0 fvy1
  have x2 := ((vx.put2 (.int .i64 (1 : Int)) (.int .i64 (1 : Int))).off2 (g := w.heap.size + 1 + 1 + 1) (by omega) (.int .i64 (1 : Int)) (.int .i64 (1 : Int))).drew
  have y2 := ((vy.off2 (g := w.heap.size + 1 + 1) (by omega) (.int .i64 (1 : Int)) (.int .i64 (1 : Int))).put2 (.int .i64 (1 : Int)) (.int .i64 (1 : Int))).drew
  have bf := (below_put2 (below_put2 (b := w.heap.size + 1 + 1) B (by omega) (.int .i64 (1 : Int)) (.int .i64 (1 : Int))) (show w.heap.size ≤ w.heap.size + 1 + 1 + 1 by omega) (.int .i64 (1 : Int)) (.int .i64 (1 : Int))).drew
  generalize World.drew _ = W9 at *
  clear B vx vy
  go_wp2
  obtain ⟨te, hg⟩ := x2
  obtain ⟨tf, hg2⟩ := y2
  refine bodyPost_ret_by (results_cell_cell_tmp rfl _ _ (w.heap.size + 1 + 1) (w.heap.size + 1 + 1 + 1) te tf _ _ (0, 0) (0, 0) _ _ rfl rfl hg hg2 Tryd.underlying29 rfl (by kernel_rfl) Tryd.underlying29 rfl (by kernel_rfl) (.int .i64 0) rfl) rfl ?_
  exact ⟨rfl, bf⟩

/-- the fractions next to a tone are returned -/
def RetFarey (w : World) (s : T4) (most : Nat) (e : Ending) (w' : World) : Prop :=
  ∃ pl ql ph qh : Nat, FareyRes (overN s.a s.b s.c) (underN s.a s.b s.c) s.d.toNat most pl ql ph qh ∧ RetF w pl ql ph qh 0 e w'

set_option maxRecDepth 100000 in
set_option maxHeartbeats 6000000 in
theorem farey_main (s : T4) (most : Nat) (w : World) (hs : validB s.a s.b s.c s.d = true) (hm : 1 ≤ most) (hm2 : most ≤ 4096) (h1 : aboveI s 1 1 = 1) (h2 : aboveI s 2 1 = -1) :
    Calls Tryd.prog 10 #[.agg #[.int .i64 s.a, .int .i64 s.b, .int .i64 s.c, .int .i64 s.d], .int .i64 (most : Int)] w (RetFarey w s most) := by
  have hs0 := hs
  have nb0 : Nb (overN s.a s.b s.c) (underN s.a s.b s.c) s.d.toNat 1 1 2 1 := ⟨by omega, by omega, rfl, (aboveI_ge s 1 1).1 (by omega), fun h => by have := (aboveI_le s 1 1).2 h; omega, fun h => by have := (aboveI_ge s 2 1).2 h; omega⟩
  have HNB0 := Lib.hid nb0
  clear nb0
  have VA := fun w : World => tvalid_calls s.a s.b s.c s.d w (validB_i64 hs).1 (validB_i64 hs).2.1 (validB_i64 hs).2.2.1 (validB_i64 hs).2.2.2
  rw [hs] at VA
  have HA := Lib.hid VA
  clear VA
  have A11 : ∀ w : World, Calls Tryd.prog 26 #[.agg #[.int .i64 s.a, .int .i64 s.b, .int .i64 s.c, .int .i64 s.d], .int .i64 1, .int .i64 1] w fun e w' => e = .returned (.int .i64 (aboveI s 1 1)) ∧ Below w.heap.size w w' := fun w => above_calls s 1 1 w hs (by omega) (by omega)
  have A21 : ∀ w : World, Calls Tryd.prog 26 #[.agg #[.int .i64 s.a, .int .i64 s.b, .int .i64 s.c, .int .i64 s.d], .int .i64 2, .int .i64 1] w fun e w' => e = .returned (.int .i64 (aboveI s 2 1)) ∧ Below w.heap.size w w' := fun w => above_calls s 2 1 w hs (by omega) (by omega)
  rw [h1] at A11
  rw [h2] at A21
  have H21 := Lib.hid A21
  have H11 := Lib.hid A11
  clear A11 A21
  have vs := Vals.newL w (w.heap.size) [.int .i64 s.a, .int .i64 s.b, .int .i64 s.c, .int .i64 s.d] 23 rfl
  have bb := below_alloc w (.cells #[.int .i64 s.a, .int .i64 s.b, .int .i64 s.c, .int .i64 s.d] 23)
  have B := bb
  have sz0 := World.size_alloc w (.cells #[.int .i64 s.a, .int .i64 s.b, .int .i64 s.c, .int .i64 s.d] 23)
  have sz := sz0
  clear sz0
  clear bb
  have vm := Vals.newL (w.alloc (.cells #[.int .i64 s.a, .int .i64 s.b, .int .i64 s.c, .int .i64 s.d] 23)) (w.heap.size + 1) [.int .i64 (most : Int)] 3 sz.symm
  have bb := below_alloc (w.alloc (.cells #[.int .i64 s.a, .int .i64 s.b, .int .i64 s.c, .int .i64 s.d] 23)) (.cells #[.int .i64 (most : Int)] 3)
  replace vs := vs.mono bb
  replace B := below_trans B bb
  clear bb
  have sz1 := World.size_alloc (w.alloc (.cells #[.int .i64 s.a, .int .i64 s.b, .int .i64 s.c, .int .i64 s.d] 23)) (.cells #[.int .i64 (most : Int)] 3)
  rw [sz] at sz1
  clear sz
  have sz := sz1
  clear sz1
  have vx := Vals.newL ((w.alloc (.cells #[.int .i64 s.a, .int .i64 s.b, .int .i64 s.c, .int .i64 s.d] 23)).alloc (.cells #[.int .i64 (most : Int)] 3)) (w.heap.size + 1 + 1) [.int .i64 0, .int .i64 0] 29 sz.symm
  have bb := below_alloc ((w.alloc (.cells #[.int .i64 s.a, .int .i64 s.b, .int .i64 s.c, .int .i64 s.d] 23)).alloc (.cells #[.int .i64 (most : Int)] 3)) (.cells #[.int .i64 0, .int .i64 0] 29)
  replace vs := vs.mono bb
  replace vm := vm.mono bb
  replace B := below_trans B bb
  clear bb
  have sz2 := World.size_alloc ((w.alloc (.cells #[.int .i64 s.a, .int .i64 s.b, .int .i64 s.c, .int .i64 s.d] 23)).alloc (.cells #[.int .i64 (most : Int)] 3)) (.cells #[.int .i64 0, .int .i64 0] 29)
  rw [sz] at sz2
  clear sz
  have sz := sz2
  clear sz2
  have vy := Vals.newL (((w.alloc (.cells #[.int .i64 s.a, .int .i64 s.b, .int .i64 s.c, .int .i64 s.d] 23)).alloc (.cells #[.int .i64 (most : Int)] 3)).alloc (.cells #[.int .i64 0, .int .i64 0] 29)) (w.heap.size + 1 + 1 + 1) [.int .i64 0, .int .i64 0] 29 sz.symm
  have bb := below_alloc (((w.alloc (.cells #[.int .i64 s.a, .int .i64 s.b, .int .i64 s.c, .int .i64 s.d] 23)).alloc (.cells #[.int .i64 (most : Int)] 3)).alloc (.cells #[.int .i64 0, .int .i64 0] 29)) (.cells #[.int .i64 0, .int .i64 0] 29)
  replace vs := vs.mono bb
  replace vm := vm.mono bb
  replace vx := vx.mono bb
  replace B := below_trans B bb
  clear sz
  clear bb
  go_enter Tryd.func10, Tryd.ntmps10
  go_wp2_with fail
  generalize ((((w.alloc (.cells #[.int .i64 s.a, .int .i64 s.b, .int .i64 s.c, .int .i64 s.d] 23)).alloc (.cells #[.int .i64 (most : Int)] 3)).alloc (.cells #[.int .i64 0, .int .i64 0] 29)).alloc (.cells #[.int .i64 0, .int .i64 0] 29)) = w0 at *
  refine (HA.out _).mono ?_
  rintro e w1 ⟨rfl, b1⟩
  replace vs := vs.mono b1
  replace vm := vm.mono b1
  replace vx := vx.mono b1
  replace vy := vy.mono b1
  replace B := below_trans B b1
  clear b1
  have cvm0 := vm.cell (i := 0) (by simp)
  simp only [List.getD_cons_zero, List.getD_cons_succ] at cvm0
  have ltvm := vm.lt
  have cvs0 := vs.cell (i := 0) (by simp)
  have cvs1 := vs.cell (i := 1) (by simp)
  have cvs2 := vs.cell (i := 2) (by simp)
  have cvs3 := vs.cell (i := 3) (by simp)
  simp only [List.getD_cons_zero, List.getD_cons_succ] at cvs0 cvs1 cvs2 cvs3
  have ltvs := vs.lt
  go_wp2_with fail
  clear cvm0 ltvm cvs0 cvs1 cvs2 cvs3 ltvs
  refine (H11.out _).mono ?_
  rintro e w2 ⟨rfl, b2⟩
  replace vs := vs.mono b2
  replace vm := vm.mono b2
  replace vx := vx.mono b2
  replace vy := vy.mono b2
  replace B := below_trans B b2
  clear b2
  have cvs0 := vs.cell (i := 0) (by simp)
  have cvs1 := vs.cell (i := 1) (by simp)
  have cvs2 := vs.cell (i := 2) (by simp)
  have cvs3 := vs.cell (i := 3) (by simp)
  simp only [List.getD_cons_zero, List.getD_cons_succ] at cvs0 cvs1 cvs2 cvs3
  have ltvs := vs.lt
  go_wp2_with fail
  clear cvs0 cvs1 cvs2 cvs3 ltvs
  refine (H21.out _).mono ?_
  rintro e w3 ⟨rfl, b3⟩
  replace vs := vs.mono b3
  replace vm := vm.mono b3
  replace vx := vx.mono b3
  replace vy := vy.mono b3
  replace B := below_trans B b3
  clear b3
  have cvs0 := vs.cell (i := 0) (by simp)
  have cvs1 := vs.cell (i := 1) (by simp)
  have cvs2 := vs.cell (i := 2) (by simp)
  have cvs3 := vs.cell (i := 3) (by simp)
  simp only [List.getD_cons_zero, List.getD_cons_succ] at cvs0 cvs1 cvs2 cvs3
  have ltvs := vs.lt
  go_wp2_with fail
  clear cvs0 cvs1 cvs2 cvs3 ltvs
  have hsz : w.heap.size + 1 + 1 + 1 < w3.heap.size := vy.lt
  have sz0 := World.size_alloc w3 (.cells #[.int .i64 1, .int .i64 1] 29)
  have v7 := Vals.newL w3 w3.heap.size [.int .i64 1, .int .i64 1] 29 rfl
  have bb := below_alloc w3 (.cells #[.int .i64 1, .int .i64 1] 29)
  have v8 := Vals.newL (w3.alloc (.cells #[.int .i64 1, .int .i64 1] 29)) (w3.heap.size + 1) [.int .i64 2, .int .i64 1] 29 sz0.symm
  have bc := below_alloc (w3.alloc (.cells #[.int .i64 1, .int .i64 1] 29)) (.cells #[.int .i64 2, .int .i64 1] 29)
  have bd := below_trans bb bc
  replace v7 := v7.mono bc
  replace vs := vs.mono bd
  replace vm := vm.mono bd
  replace vx := vx.mono bd
  replace vy := vy.mono bd
  replace B := below_trans B bd
  clear bb bc bd sz0
  generalize (w3.alloc (.cells #[.int .i64 1, .int .i64 1] 29)).alloc (.cells #[.int .i64 2, .int .i64 1] 29) = W0 at *
  generalize w3.heap.size = b7 at *
  refine (H11.out _).mono ?_
  rintro e w4 ⟨rfl, b4⟩
  replace vs := vs.mono b4
  replace vm := vm.mono b4
  replace vx := vx.mono b4
  replace vy := vy.mono b4
  replace v7 := v7.mono b4
  replace v8 := v8.mono b4
  replace B := below_trans B b4
  clear b4
  clear h1 h2 H11 H21 HA
  go_wp2
  go_loopw [10] (fun nv wr => ∃ pl ql ph qh : Nat, Nb (overN s.a s.b s.c) (underN s.a s.b s.c) s.d.toNat pl ql ph qh ∧ pl ≤ 2 * ql ∧ ph ≤ 2 * qh ∧ ql ≤ most ∧ qh ≤ most ∧ Below w.heap.size w wr ∧ Vals wr w.heap.size [.int .i64 s.a, .int .i64 s.b, .int .i64 s.c, .int .i64 s.d] ∧ Vals wr (w.heap.size + 1) [.int .i64 (most : Int)] ∧ Vals wr (w.heap.size + 1 + 1) [.int .i64 0, .int .i64 0] ∧ Vals wr (w.heap.size + 1 + 1 + 1) [.int .i64 0, .int .i64 0] ∧ Vals wr b7 [.int .i64 (pl : Int), .int .i64 (ql : Int)] ∧ Vals wr (b7 + 1) [.int .i64 (ph : Int), .int .i64 (qh : Int)])
    (fun _ wr => (2 * 4096 + 1 - (cellZ wr b7 1 + cellZ wr (b7 + 1) 1)).toNat)
  case atStart => exact ⟨1, 1, 2, 1, HNB0.out, by omega, by omega, by omega, by omega, B, vs, vm, vx, vy, v7, v8⟩
  case round =>
    clear B vs vm vx vy v7 v8
    obtain ⟨pl, ql, ph, qh, hnb, hpl, hph, hql, hqh, B, vs, vm, vx, vy, v7, v8⟩ := hrel
    have l1 := hnb.l1
    have g1 := hnb.h1
    have HNB := Lib.hid hnb
    clear hnb
    have HC7 := Lib.hid (cellZ_of v7)
    have HC8 := Lib.hid (cellZ_of v8)
    by_cases hA : ql + qh ≤ most
    · skip
      obtain ⟨c1, hc1, hP1⟩ := up_run HNB.out hql
      have room1 := run_room hql g1 hc1
      have pb1 : c1 * ph ≤ 2 * (c1 * qh) := by
        have := Nat.mul_le_mul_left c1 hph
        rw [Nat.mul_left_comm] at this
        exact this
      have lo1 := (hP1 c1 hc1).2 (Nat.le_refl _)
      rw [Int.mul_one] at lo1
      have hA' : (ql : Int) + (qh : Int) ≤ (most : Int) := by omega
      have one1 : c1 = 0 → ¬ 0 ≤ aboveI s (pl + ph) (ql + qh) := by
        intro h0 hp
        have hk : 1 ≤ (most - ql) / qh := (Nat.le_div_iff_mul_le (by omega)).2 (by omega)
        have := (hP1 1 hk).1 (by rw [Nat.one_mul, Nat.one_mul, Int.mul_one]; exact hp)
        omega
      have det1 := det_up c1 HNB.out.det
      have q1 : pl ≤ 8192 := by omega
      have q2 : ph ≤ 8192 := by omega
      have q3 : pl ≤ 100000000 := by omega
      have q4 : ql ≤ 100000000 := by omega
      have q5 : c1 * ph ≤ 100000000 := by omega
      have q6 : c1 * qh ≤ 100000000 := by omega
      have q7 : pl + c1 * ph < 4294967296 := by omega
      have q8 : ql + c1 * qh < 4294967296 := by omega
      have q9 : pl + c1 * ph ≤ 2 * (ql + c1 * qh) := by omega
      have q10 : ql ≤ ql + c1 * qh := by omega
      have R1 := fun (w1 : World) (hcm : w1.cell? ⟨w.heap.size + 1, 0, none⟩ = some (.int .i64 (most : Int))) (hva : Vals w1 w.heap.size [.int .i64 s.a, .int .i64 s.b, .int .i64 s.c, .int .i64 s.d]) => run_up s most pl ql ph qh c1 (w.heap.size + 1) w.heap.size w1 hs0 ⟨hm, hm2⟩ hql ⟨g1, hqh⟩ q1 q2 hc1 hP1 hcm hva
      have A1 := fun w : World => above_calls s (pl + c1 * ph) (ql + c1 * qh) w hs0 q7 q8
      have W1 := Lib.hid (wrap_lin q3 q5)
      have W2 := Lib.hid (wrap_lin q4 q6)
      have HR1 := Lib.hid R1
      have HA1 := Lib.hid A1
      have HLO := Lib.hid lo1
      have HONE := Lib.hid one1
      have HDET := Lib.hid det1
      have more1 : c1 ≠ 0 → ql + 1 ≤ ql + c1 * qh := by
        intro h0
        have := Nat.mul_le_mul (show 1 ≤ c1 by omega) g1
        omega
      have c1n : ql + c1 * qh = ql ∧ pl + c1 * ph = pl ∨ c1 ≠ 0 := by
        by_cases h0 : c1 = 0
        · left; subst h0; simp
        · exact .inr h0
      have HC1N := Lib.hid c1n
      have HMORE := Lib.hid more1
      clear R1 A1 lo1 one1 det1 hP1 hc1 pb1 q1 q2 q3 q4 q5 q6 c1n more1
      generalize hX1 : pl + c1 * ph = X1 at *
      generalize hY1 : ql + c1 * qh = Y1 at *
      have HX1 := Lib.hid hX1
      have HY1 := Lib.hid hY1
      clear hX1 hY1
      generalize hmv : decide (0 < c1) = mv1 at *
      have HMV := Lib.hid hmv
      clear hmv
      have cv70 := v7.cell (i := 0) (by simp)
      have cv71 := v7.cell (i := 1) (by simp)
      simp only [List.getD_cons_zero, List.getD_cons_succ] at cv70 cv71
      have ltv7 := v7.lt
      have cv80 := v8.cell (i := 0) (by simp)
      have cv81 := v8.cell (i := 1) (by simp)
      simp only [List.getD_cons_zero, List.getD_cons_succ] at cv80 cv81
      have ltv8 := v8.lt
      have cvm0 := vm.cell (i := 0) (by simp)
      simp only [List.getD_cons_zero, List.getD_cons_succ] at cvm0
      have ltvm := vm.lt
      go_wp2_with fail
      clear cv70 cv71 ltv7 cv80 cv81 ltv8 cvm0 ltvm
      refine (HR1.out _ (vm.cell (i := 0) (by simp)) vs).mono ?_
      rintro e x5 ⟨rfl, bb⟩
      replace vs := vs.mono bb
      replace vm := vm.mono bb
      replace vx := vx.mono bb
      replace vy := vy.mono bb
      replace v7 := v7.mono bb
      replace v8 := v8.mono bb
      replace B := below_trans B bb
      clear bb
      have cv70 := v7.cell (i := 0) (by simp)
      have cv71 := v7.cell (i := 1) (by simp)
      simp only [List.getD_cons_zero, List.getD_cons_succ] at cv70 cv71
      have ltv7 := v7.lt
      have fv70 := v7.frozen 0
      have fv71 := v7.frozen 1
      have cv80 := v8.cell (i := 0) (by simp)
      have cv81 := v8.cell (i := 1) (by simp)
      simp only [List.getD_cons_zero, List.getD_cons_succ] at cv80 cv81
      have ltv8 := v8.lt
      go_upto_region 14 with (fail)
      clear cv70 cv71 ltv7 fv70 fv71 cv80 cv81 ltv8
      rw [W1.out, W2.out]
      replace vs := vs.off2 (g := b7) (by omega) (.int .i64 ((X1 : Int))) (.int .i64 ((Y1 : Int)))
      replace vm := vm.off2 (g := b7) (by omega) (.int .i64 ((X1 : Int))) (.int .i64 ((Y1 : Int)))
      replace vx := vx.off2 (g := b7) (by omega) (.int .i64 ((X1 : Int))) (.int .i64 ((Y1 : Int)))
      replace vy := vy.off2 (g := b7) (by omega) (.int .i64 ((X1 : Int))) (.int .i64 ((Y1 : Int)))
      replace v8 := v8.off2 (g := b7) (by omega) (.int .i64 ((X1 : Int))) (.int .i64 ((Y1 : Int)))
      replace v7 := v7.put2 (.int .i64 ((X1 : Int))) (.int .i64 ((Y1 : Int)))
      replace B := below_put2 (b := b7) B (by omega) (.int .i64 ((X1 : Int))) (.int .i64 ((Y1 : Int)))
      generalize (x5.setCell ⟨b7, 0, none⟩ (.int .i64 ((X1 : Int)))).setCell ⟨b7, 1, none⟩ (.int .i64 ((Y1 : Int))) = x6 at *
      have cvs0 := vs.cell (i := 0) (by simp)
      have cvs1 := vs.cell (i := 1) (by simp)
      have cvs2 := vs.cell (i := 2) (by simp)
      have cvs3 := vs.cell (i := 3) (by simp)
      simp only [List.getD_cons_zero, List.getD_cons_succ] at cvs0 cvs1 cvs2 cvs3
      have ltvs := vs.lt
      have cv70 := v7.cell (i := 0) (by simp)
      have cv71 := v7.cell (i := 1) (by simp)
      simp only [List.getD_cons_zero, List.getD_cons_succ] at cv70 cv71
      have ltv7 := v7.lt
      go_wp2_with fail
      clear cvs0 cvs1 cvs2 cvs3 ltvs cv70 cv71 ltv7
      have hv := aboveI_cases s X1 Y1
      have lov := HLO.out
      have leX : leF (overN s.a s.b s.c) (underN s.a s.b s.c) s.d.toNat X1 Y1 := (aboveI_ge s X1 Y1).1 lov
      have geX := aboveI_le s X1 Y1
      have HLE := Lib.hid leX
      have HGE := Lib.hid geX
      have HA1' := HA1.out
      clear HA1 leX geX
      generalize aboveI s X1 Y1 = v at *
      rcases hv with hv | hv | hv
      · exact absurd lov (by omega)
      · skip
        subst hv
        have HA1 := Lib.hid HA1'
        clear HA1' lov
        have res : FareyRes (overN s.a s.b s.c) (underN s.a s.b s.c) s.d.toNat most X1 Y1 X1 Y1 := ⟨⟨by omega, room1, by omega, room1⟩, .inl ⟨HLE.out, HGE.out.1 (by omega), (det_gcd HDET.out).1, rfl, rfl⟩⟩
        have HRES := Lib.hid res
        clear res
        refine (HA1.out _).mono ?_
        rintro e x7 ⟨rfl, bb⟩
        replace vs := vs.mono bb
        replace vm := vm.mono bb
        replace vx := vx.mono bb
        replace vy := vy.mono bb
        replace v7 := v7.mono bb
        replace v8 := v8.mono bb
        replace B := below_trans B bb
        clear bb
        clear HNB hpl hph hql hqh l1 g1 hA hA' room1 q7 q8 q9 q10 W1 W2 HMORE HLO HDET HC1N HX1 HY1 HR1 HMV HONE HLE HGE vs vm v8 HNB0 hm hm2 HA1
        go_upto_region 15 with (fail)
        have cv70 := v7.cell (i := 0) (by simp)
        have cv71 := v7.cell (i := 1) (by simp)
        simp only [List.getD_cons_zero, List.getD_cons_succ] at cv70 cv71
        have ltv7 := v7.lt
        have cvx0 := vx.cell (i := 0) (by simp)
        have cvx1 := vx.cell (i := 1) (by simp)
        simp only [List.getD_cons_zero, List.getD_cons_succ] at cvx0 cvx1
        have ltvx := vx.lt
        have fvx0 := vx.frozen 0
        have fvx1 := vx.frozen 1
        have cvy0 := vy.cell (i := 0) (by simp)
        have cvy1 := vy.cell (i := 1) (by simp)
        simp only [List.getD_cons_zero, List.getD_cons_succ] at cvy0 cvy1
        have ltvy := vy.lt
        have fvy0 := vy.frozen 0
        have fvy1 := vy.frozen 1
        go_region
        clear cv70 cv71 ltv7 cvx0 cvx1 ltvx fvx0 fvx1 cvy0 cvy1 ltvy fvy0 fvy1
        have x2 := ((vx.put2 (.int .i64 (X1 : Int)) (.int .i64 (Y1 : Int))).off2 (g := w.heap.size + 1 + 1 + 1) (by omega) (.int .i64 (X1 : Int)) (.int .i64 (Y1 : Int))).drew
        have y2 := ((vy.off2 (g := w.heap.size + 1 + 1) (by omega) (.int .i64 (X1 : Int)) (.int .i64 (Y1 : Int))).put2 (.int .i64 (X1 : Int)) (.int .i64 (Y1 : Int))).drew
        have bf := (below_put2 (below_put2 (b := w.heap.size + 1 + 1) B (by omega) (.int .i64 (X1 : Int)) (.int .i64 (Y1 : Int))) (show w.heap.size ≤ w.heap.size + 1 + 1 + 1 by omega) (.int .i64 (X1 : Int)) (.int .i64 (Y1 : Int))).drew
        generalize World.drew _ = W9 at *
        clear B vx vy
        go_wp2
        obtain ⟨te, hg⟩ := x2
        obtain ⟨tf, hg2⟩ := y2
        refine bodyPost_ret_by (results_cell_cell_tmp rfl _ _ (w.heap.size + 1 + 1) (w.heap.size + 1 + 1 + 1) te tf _ _ (0, 0) (0, 0) _ _ rfl rfl hg hg2 Tryd.underlying29 rfl (by kernel_rfl) Tryd.underlying29 rfl (by kernel_rfl) (.int .i64 0) rfl) rfl ?_
        exact ⟨X1, Y1, X1, Y1, HRES.out, rfl, bf⟩
      · skip
        subst hv
        have HA1 := Lib.hid HA1'
        clear HA1' lov
        have nbx : Nb (overN s.a s.b s.c) (underN s.a s.b s.c) s.d.toNat X1 Y1 ph qh := ⟨by omega, g1, HDET.out, HLE.out, fun h => by have := HGE.out.2 h; omega, HNB.out.nh⟩
        have HNB2 := Lib.hid nbx
        clear nbx
        refine (HA1.out _).mono ?_
        rintro e x8 ⟨rfl, bb⟩
        replace vs := vs.mono bb
        replace vm := vm.mono bb
        replace vx := vx.mono bb
        replace vy := vy.mono bb
        replace v7 := v7.mono bb
        replace v8 := v8.mono bb
        replace B := below_trans B bb
        clear bb
        by_cases hC : Y1 + qh ≤ most
        · skip
          obtain ⟨c2, hc2, hP2⟩ := down_run HNB2.out hqh
          have l2 : 1 ≤ Y1 := by omega
          have room2 := run_room hqh l2 hc2
          have pb2 : c2 * X1 ≤ 2 * (c2 * Y1) := by
            have := Nat.mul_le_mul_left c2 q9
            rw [Nat.mul_left_comm] at this
            exact this
          have lo2 := (hP2 c2 hc2).2 (Nat.le_refl _)
          have hC' : ¬ ((most : Int) < (Y1 : Int) + (qh : Int)) := by omega
          have one2 : c2 = 0 → ¬ aboveI s (ph + X1) (qh + Y1) ≤ 0 := by
            intro h0 hp
            have hk : 1 ≤ (most - qh) / Y1 := (Nat.le_div_iff_mul_le (by omega)).2 (by omega)
            have := (hP2 1 hk).1 (by rw [Nat.one_mul, Nat.one_mul]; omega)
            omega
          have det2 := det_down c2 HNB2.out.det
          have q1 : X1 ≤ 8192 := by omega
          have q2 : ph ≤ 8192 := by omega
          have q3 : ph ≤ 100000000 := by omega
          have q4 : qh ≤ 100000000 := by omega
          have q5 : c2 * X1 ≤ 100000000 := by omega
          have q6 : c2 * Y1 ≤ 100000000 := by omega
          have q7 : ph + c2 * X1 < 4294967296 := by omega
          have q8 : qh + c2 * Y1 < 4294967296 := by omega
          have q11 : ph + c2 * X1 ≤ 2 * (qh + c2 * Y1) := by omega
          have q12 : qh ≤ qh + c2 * Y1 := by omega
          have R2 := fun (w1 : World) (hcm : w1.cell? ⟨w.heap.size + 1, 0, none⟩ = some (.int .i64 (most : Int))) (hva : Vals w1 w.heap.size [.int .i64 s.a, .int .i64 s.b, .int .i64 s.c, .int .i64 s.d]) => run_down s most ph qh X1 Y1 c2 (w.heap.size + 1) w.heap.size w1 hs0 ⟨hm, hm2⟩ hqh ⟨l2, room1⟩ q2 q1 hc2 hP2 hcm hva
          have A2 := fun w : World => above_calls s (ph + c2 * X1) (qh + c2 * Y1) w hs0 q7 q8
          have W3 := Lib.hid (wrap_lin q3 q5)
          have W4 := Lib.hid (wrap_lin q4 q6)
          have HR2 := Lib.hid R2
          have HA2 := Lib.hid A2
          have HLO2 := Lib.hid lo2
          have HONE2 := Lib.hid one2
          have HDET2 := Lib.hid det2
          have more2 : c2 ≠ 0 → qh + 1 ≤ qh + c2 * Y1 := by
            intro h0
            have := Nat.mul_le_mul (show 1 ≤ c2 by omega) l2
            omega
          have HMORE2 := Lib.hid more2
          clear R2 A2 lo2 one2 det2 hP2 hc2 pb2 q1 q2 q3 q4 q5 q6 more2
          generalize ph + c2 * X1 = X2 at *
          generalize qh + c2 * Y1 = Y2 at *
          generalize hmv : decide (0 < c2) = mv2 at *
          have HMV2 := Lib.hid hmv
          clear hmv
          have cv70 := v7.cell (i := 0) (by simp)
          have cv71 := v7.cell (i := 1) (by simp)
          simp only [List.getD_cons_zero, List.getD_cons_succ] at cv70 cv71
          have ltv7 := v7.lt
          have cv80 := v8.cell (i := 0) (by simp)
          have cv81 := v8.cell (i := 1) (by simp)
          simp only [List.getD_cons_zero, List.getD_cons_succ] at cv80 cv81
          have ltv8 := v8.lt
          have cvm0 := vm.cell (i := 0) (by simp)
          simp only [List.getD_cons_zero, List.getD_cons_succ] at cvm0
          have ltvm := vm.lt
          go_wp2_with fail
          clear cv70 cv71 ltv7 cv80 cv81 ltv8 cvm0 ltvm
          refine (HR2.out _ (vm.cell (i := 0) (by simp)) vs).mono ?_
          rintro e x9 ⟨rfl, bb⟩
          replace vs := vs.mono bb
          replace vm := vm.mono bb
          replace vx := vx.mono bb
          replace vy := vy.mono bb
          replace v7 := v7.mono bb
          replace v8 := v8.mono bb
          replace B := below_trans B bb
          clear bb
          have cv80 := v8.cell (i := 0) (by simp)
          have cv81 := v8.cell (i := 1) (by simp)
          simp only [List.getD_cons_zero, List.getD_cons_succ] at cv80 cv81
          have ltv8 := v8.lt
          have fv80 := v8.frozen 0
          have fv81 := v8.frozen 1
          have cv70 := v7.cell (i := 0) (by simp)
          have cv71 := v7.cell (i := 1) (by simp)
          simp only [List.getD_cons_zero, List.getD_cons_succ] at cv70 cv71
          have ltv7 := v7.lt
          go_upto_region 19 with (fail)
          clear cv80 cv81 ltv8 fv80 fv81 cv70 cv71 ltv7
          rw [W3.out, W4.out]
          replace vs := vs.off2 (g := b7 + 1) (by omega) (.int .i64 ((X2 : Int))) (.int .i64 ((Y2 : Int)))
          replace vm := vm.off2 (g := b7 + 1) (by omega) (.int .i64 ((X2 : Int))) (.int .i64 ((Y2 : Int)))
          replace vx := vx.off2 (g := b7 + 1) (by omega) (.int .i64 ((X2 : Int))) (.int .i64 ((Y2 : Int)))
          replace vy := vy.off2 (g := b7 + 1) (by omega) (.int .i64 ((X2 : Int))) (.int .i64 ((Y2 : Int)))
          replace v7 := v7.off2 (g := b7 + 1) (by omega) (.int .i64 ((X2 : Int))) (.int .i64 ((Y2 : Int)))
          replace v8 := v8.put2 (.int .i64 ((X2 : Int))) (.int .i64 ((Y2 : Int)))
          replace B := below_put2 (b := b7 + 1) B (by omega) (.int .i64 ((X2 : Int))) (.int .i64 ((Y2 : Int)))
          generalize (x9.setCell ⟨b7 + 1, 0, none⟩ (.int .i64 ((X2 : Int)))).setCell ⟨b7 + 1, 1, none⟩ (.int .i64 ((Y2 : Int))) = x10 at *
          have cvs0 := vs.cell (i := 0) (by simp)
          have cvs1 := vs.cell (i := 1) (by simp)
          have cvs2 := vs.cell (i := 2) (by simp)
          have cvs3 := vs.cell (i := 3) (by simp)
          simp only [List.getD_cons_zero, List.getD_cons_succ] at cvs0 cvs1 cvs2 cvs3
          have ltvs := vs.lt
          have cv80 := v8.cell (i := 0) (by simp)
          have cv81 := v8.cell (i := 1) (by simp)
          simp only [List.getD_cons_zero, List.getD_cons_succ] at cv80 cv81
          have ltv8 := v8.lt
          go_wp2_with fail
          clear cvs0 cvs1 cvs2 cvs3 ltvs cv80 cv81 ltv8
          have hv := aboveI_cases s X2 Y2
          have lov : aboveI s X2 Y2 ≤ 0 := by have := HLO2.out; omega
          have geX : geF (overN s.a s.b s.c) (underN s.a s.b s.c) s.d.toNat X2 Y2 := (aboveI_le s X2 Y2).1 lov
          have leX := aboveI_ge s X2 Y2
          have HGE2 := Lib.hid geX
          have HLE2 := Lib.hid leX
          have HA2' := HA2.out
          clear HA2 geX leX HLO2
          generalize aboveI s X2 Y2 = v at *
          rcases hv with hv | hv | hv
          · skip
            subst hv
            have HA2 := Lib.hid HA2'
            clear HA2' lov
            have nb3 : Nb (overN s.a s.b s.c) (underN s.a s.b s.c) s.d.toNat X1 Y1 X2 Y2 := ⟨by omega, by omega, HDET2.out, HNB2.out.lo, HNB2.out.nl, fun h => by have := HLE2.out.2 h; omega⟩
            have HNB3 := Lib.hid nb3
            clear nb3
            have ways : c1 ≠ 0 ∨ c2 ≠ 0 := by
              by_cases h1 : c1 = 0
              · right
                intro h2
                have e1 := HONE.out h1
                have e2 := HONE2.out h2
                rcases HC1N.out with ⟨f1, f2⟩ | f1
                · rw [f1, f2, Nat.add_comm ph, Nat.add_comm qh] at e2
                  first | exact e1 (Int.le_of_lt e2) | exact absurd e2 (Int.not_lt.2 (Int.le_of_lt e1)) | exact e2 (by omega)
                · exact f1 h1
              · exact .inl h1
            have dec : ql + qh + 1 ≤ Y1 + Y2 := by
              rcases ways with h | h
              · have := HMORE.out h; omega
              · have := HMORE2.out h; omega
            have mvs : mv1 = true ∨ (mv1 = false ∧ mv2 = true) := by
              have a := HMV.out
              have b := HMV2.out
              by_cases h1 : c1 = 0
              · right
                refine ⟨by rw [← a]; exact decide_eq_false (by omega), by rw [← b]; exact decide_eq_true (by omega)⟩
              · left
                rw [← a]; exact decide_eq_true (by omega)
            clear HMV HMV2
            refine (HA2.out _).mono ?_
            rintro e x11 ⟨rfl, bb⟩
            replace vs := vs.mono bb
            replace vm := vm.mono bb
            replace vx := vx.mono bb
            replace vy := vy.mono bb
            replace v7 := v7.mono bb
            replace v8 := v8.mono bb
            replace B := below_trans B bb
            clear bb
            rcases mvs with rfl | ⟨rfl, rfl⟩
            · skip
              go_wp2
              go_roundw
              case rel => exact ⟨X1, Y1, X2, Y2, HNB3.out, q9, q11, room1, room2, B, vs, vm, vx, vy, v7, v8⟩
              case measure =>
                have m1 := HC7.out
                have m2 := HC8.out
                clear HC7 HC8
                rw [cellZ_of v7, cellZ_of v8, m1, m2]
                clear m1 m2
                omega
            · skip
              go_wp2
              go_roundw
              case rel => exact ⟨X1, Y1, X2, Y2, HNB3.out, q9, q11, room1, room2, B, vs, vm, vx, vy, v7, v8⟩
              case measure =>
                have m1 := HC7.out
                have m2 := HC8.out
                clear HC7 HC8
                rw [cellZ_of v7, cellZ_of v8, m1, m2]
                clear m1 m2
                omega
          · skip
            subst hv
            have HA2 := Lib.hid HA2'
            clear HA2' lov
            have res : FareyRes (overN s.a s.b s.c) (underN s.a s.b s.c) s.d.toNat most X2 Y2 X2 Y2 := ⟨⟨by omega, room2, by omega, room2⟩, .inl ⟨HLE2.out.1 (by omega), HGE2.out, (det_gcd HDET2.out).2, rfl, rfl⟩⟩
            have HRES := Lib.hid res
            clear res
            refine (HA2.out _).mono ?_
            rintro e x12 ⟨rfl, bb⟩
            replace vs := vs.mono bb
            replace vm := vm.mono bb
            replace vx := vx.mono bb
            replace vy := vy.mono bb
            replace v7 := v7.mono bb
            replace v8 := v8.mono bb
            replace B := below_trans B bb
            clear bb
            clear HNB hpl hph hql hqh l1 g1 hA hA' room1 q7 q8 q9 q10 W1 W2 HMORE HLO HDET HC1N HX1 HY1 HR1 HMV HONE HLE HGE vs vm v7 HNB0 hm hm2 HA2 HA1 HNB2 hC hC' l2 room2 q11 q12 W3 W4 HR2 HONE2 HDET2 HMORE2 HMV2 HGE2 HLE2
            go_upto_region 20 with (fail)
            have cv80 := v8.cell (i := 0) (by simp)
            have cv81 := v8.cell (i := 1) (by simp)
            simp only [List.getD_cons_zero, List.getD_cons_succ] at cv80 cv81
            have ltv8 := v8.lt
            have cvx0 := vx.cell (i := 0) (by simp)
            have cvx1 := vx.cell (i := 1) (by simp)
            simp only [List.getD_cons_zero, List.getD_cons_succ] at cvx0 cvx1
            have ltvx := vx.lt
            have fvx0 := vx.frozen 0
            have fvx1 := vx.frozen 1
            have cvy0 := vy.cell (i := 0) (by simp)
            have cvy1 := vy.cell (i := 1) (by simp)
            simp only [List.getD_cons_zero, List.getD_cons_succ] at cvy0 cvy1
            have ltvy := vy.lt
            have fvy0 := vy.frozen 0
            have fvy1 := vy.frozen 1
            go_region
            clear cv80 cv81 ltv8 cvx0 cvx1 ltvx fvx0 fvx1 cvy0 cvy1 ltvy fvy0 fvy1
            have x2 := ((vx.put2 (.int .i64 (X2 : Int)) (.int .i64 (Y2 : Int))).off2 (g := w.heap.size + 1 + 1 + 1) (by omega) (.int .i64 (X2 : Int)) (.int .i64 (Y2 : Int))).drew
            have y2 := ((vy.off2 (g := w.heap.size + 1 + 1) (by omega) (.int .i64 (X2 : Int)) (.int .i64 (Y2 : Int))).put2 (.int .i64 (X2 : Int)) (.int .i64 (Y2 : Int))).drew
            have bf := (below_put2 (below_put2 (b := w.heap.size + 1 + 1) B (by omega) (.int .i64 (X2 : Int)) (.int .i64 (Y2 : Int))) (show w.heap.size ≤ w.heap.size + 1 + 1 + 1 by omega) (.int .i64 (X2 : Int)) (.int .i64 (Y2 : Int))).drew
            generalize World.drew _ = W9 at *
            clear B vx vy
            go_wp2
            obtain ⟨te, hg⟩ := x2
            obtain ⟨tf, hg2⟩ := y2
            refine bodyPost_ret_by (results_cell_cell_tmp rfl _ _ (w.heap.size + 1 + 1) (w.heap.size + 1 + 1 + 1) te tf _ _ (0, 0) (0, 0) _ _ rfl rfl hg hg2 Tryd.underlying29 rfl (by kernel_rfl) Tryd.underlying29 rfl (by kernel_rfl) (.int .i64 0) rfl) rfl ?_
            exact ⟨X2, Y2, X2, Y2, HRES.out, rfl, bf⟩
          · exact absurd lov (by omega)
        · skip
          have hC' : (most : Int) < (Y1 : Int) + (qh : Int) := by omega
          have HRES := Lib.hid (show FareyRes (overN s.a s.b s.c) (underN s.a s.b s.c) s.d.toNat most X1 Y1 ph qh from ⟨⟨by omega, room1, g1, hqh⟩, .inr ⟨HNB2.out, by omega⟩⟩)
          clear HNB hpl hph hql l1 g1 hA hA' q7 q8 q9 q10 W1 W2 HMORE HLO HDET HC1N HX1 HY1 HR1 HMV HONE HLE HGE HA1 HNB2 vs HNB0 HC7 HC8
          have cv70 := v7.cell (i := 0) (by simp)
          have cv71 := v7.cell (i := 1) (by simp)
          simp only [List.getD_cons_zero, List.getD_cons_succ] at cv70 cv71
          have ltv7 := v7.lt
          have cv80 := v8.cell (i := 0) (by simp)
          have cv81 := v8.cell (i := 1) (by simp)
          simp only [List.getD_cons_zero, List.getD_cons_succ] at cv80 cv81
          have ltv8 := v8.lt
          have cvm0 := vm.cell (i := 0) (by simp)
          simp only [List.getD_cons_zero, List.getD_cons_succ] at cvm0
          have ltvm := vm.lt
          go_upto_region 22 with (fail)
          have cvx0 := vx.cell (i := 0) (by simp)
          have cvx1 := vx.cell (i := 1) (by simp)
          simp only [List.getD_cons_zero, List.getD_cons_succ] at cvx0 cvx1
          have ltvx := vx.lt
          have fvx0 := vx.frozen 0
          have fvx1 := vx.frozen 1
          have cvy0 := vy.cell (i := 0) (by simp)
          have cvy1 := vy.cell (i := 1) (by simp)
          simp only [List.getD_cons_zero, List.getD_cons_succ] at cvy0 cvy1
          have ltvy := vy.lt
          have fvy0 := vy.frozen 0
          have fvy1 := vy.frozen 1
          go_region
          clear cv70 cv71 ltv7 cv80 cv81 ltv8 cvm0 ltvm cvx0 cvx1 ltvx fvx0 fvx1 cvy0 cvy1 ltvy fvy0 fvy1
          have x2 := ((vx.put2 (.int .i64 (X1 : Int)) (.int .i64 (Y1 : Int))).off2 (g := w.heap.size + 1 + 1 + 1) (by omega) (.int .i64 (ph : Int)) (.int .i64 (qh : Int))).drew
          have y2 := ((vy.off2 (g := w.heap.size + 1 + 1) (by omega) (.int .i64 (X1 : Int)) (.int .i64 (Y1 : Int))).put2 (.int .i64 (ph : Int)) (.int .i64 (qh : Int))).drew
          have bf := (below_put2 (below_put2 (b := w.heap.size + 1 + 1) B (by omega) (.int .i64 (X1 : Int)) (.int .i64 (Y1 : Int))) (show w.heap.size ≤ w.heap.size + 1 + 1 + 1 by omega) (.int .i64 (ph : Int)) (.int .i64 (qh : Int))).drew
          generalize World.drew _ = W9 at *
          clear B vx vy
          go_wp2
          obtain ⟨te, hg⟩ := x2
          obtain ⟨tf, hg2⟩ := y2
          refine bodyPost_ret_by (results_cell_cell_tmp rfl _ _ (w.heap.size + 1 + 1) (w.heap.size + 1 + 1 + 1) te tf _ _ (0, 0) (0, 0) _ _ rfl rfl hg hg2 Tryd.underlying29 rfl (by kernel_rfl) Tryd.underlying29 rfl (by kernel_rfl) (.int .i64 0) rfl) rfl ?_
          exact ⟨X1, Y1, ph, qh, HRES.out, rfl, bf⟩
    · skip
      have hA' : ¬ ((ql : Int) + (qh : Int) ≤ (most : Int)) := by omega
      have HRES := Lib.hid (show FareyRes (overN s.a s.b s.c) (underN s.a s.b s.c) s.d.toNat most pl ql ph qh from ⟨⟨l1, hql, g1, hqh⟩, .inr ⟨HNB.out, by omega⟩⟩)
      clear HNB hpl hph vs HNB0 HC7 HC8
      have cv70 := v7.cell (i := 0) (by simp)
      have cv71 := v7.cell (i := 1) (by simp)
      simp only [List.getD_cons_zero, List.getD_cons_succ] at cv70 cv71
      have ltv7 := v7.lt
      have cv80 := v8.cell (i := 0) (by simp)
      have cv81 := v8.cell (i := 1) (by simp)
      simp only [List.getD_cons_zero, List.getD_cons_succ] at cv80 cv81
      have ltv8 := v8.lt
      have cvm0 := vm.cell (i := 0) (by simp)
      simp only [List.getD_cons_zero, List.getD_cons_succ] at cvm0
      have ltvm := vm.lt
      go_upto_region 22 with (fail)
      have cvx0 := vx.cell (i := 0) (by simp)
      have cvx1 := vx.cell (i := 1) (by simp)
      simp only [List.getD_cons_zero, List.getD_cons_succ] at cvx0 cvx1
      have ltvx := vx.lt
      have fvx0 := vx.frozen 0
      have fvx1 := vx.frozen 1
      have cvy0 := vy.cell (i := 0) (by simp)
      have cvy1 := vy.cell (i := 1) (by simp)
      simp only [List.getD_cons_zero, List.getD_cons_succ] at cvy0 cvy1
      have ltvy := vy.lt
      have fvy0 := vy.frozen 0
      have fvy1 := vy.frozen 1
      go_region
      clear cv70 cv71 ltv7 cv80 cv81 ltv8 cvm0 ltvm cvx0 cvx1 ltvx fvx0 fvx1 cvy0 cvy1 ltvy fvy0 fvy1
      have x2 := ((vx.put2 (.int .i64 (pl : Int)) (.int .i64 (ql : Int))).off2 (g := w.heap.size + 1 + 1 + 1) (by omega) (.int .i64 (ph : Int)) (.int .i64 (qh : Int))).drew
      have y2 := ((vy.off2 (g := w.heap.size + 1 + 1) (by omega) (.int .i64 (pl : Int)) (.int .i64 (ql : Int))).put2 (.int .i64 (ph : Int)) (.int .i64 (qh : Int))).drew
      have bf := (below_put2 (below_put2 (b := w.heap.size + 1 + 1) B (by omega) (.int .i64 (pl : Int)) (.int .i64 (ql : Int))) (show w.heap.size ≤ w.heap.size + 1 + 1 + 1 by omega) (.int .i64 (ph : Int)) (.int .i64 (qh : Int))).drew
      generalize World.drew _ = W9 at *
      clear B vx vy
      go_wp2
      obtain ⟨te, hg⟩ := x2
      obtain ⟨tf, hg2⟩ := y2
      refine bodyPost_ret_by (results_cell_cell_tmp rfl _ _ (w.heap.size + 1 + 1) (w.heap.size + 1 + 1 + 1) te tf _ _ (0, 0) (0, 0) _ _ rfl rfl hg hg2 Tryd.underlying29 rfl (by kernel_rfl) Tryd.underlying29 rfl (by kernel_rfl) (.int .i64 0) rfl) rfl ?_
      exact ⟨pl, ql, ph, qh, HRES.out, rfl, bf⟩

end Go.Proofs
