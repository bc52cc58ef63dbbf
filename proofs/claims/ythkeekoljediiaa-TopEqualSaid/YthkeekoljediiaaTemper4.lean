/- slices.Sort of twelve numbers: the insertion sort. -/
import Derived.Test.YthkeekoljediiaaTemper3
import Derived.Deep.QuietTactic
import Derived.BigQuiet
open Go.RowKit Go.Deep
namespace Go.Proofs
set_option linter.unusedVariables false
set_option linter.unusedSimpArgs false

/-- cells of 64 bits that can be read and written -/
def CellQ (w : World) (g : Nat) (xs : List Nat) : Prop := ∀ i, i < xs.length → w.cell? ⟨g, i, none⟩ = some (.int .u64 ((xs.getD i 0 : Nat) : Int)) ∧ w.frozen? ⟨g, i, none⟩ = false
theorem getQ_set_eq (ys : List Nat) {i : Nat} (v : Nat) (h : i < ys.length) : (ys.set i v).getD i 0 = v := by simp [List.getD, h]
theorem getQ_set_ne (ys : List Nat) {i j : Nat} (v : Nat) (h : i ≠ j) : (ys.set i v).getD j 0 = ys.getD j 0 := by simp [List.getD, List.getElem?_set, h]
theorem CellQ.set {w : World} {g : Nat} {xs : List Nat} (h : CellQ w g xs) (i v : Nat) (hi : i < xs.length) : CellQ (w.setCell ⟨g, i, none⟩ (.int .u64 (v : Int))) g (xs.set i v) := by
  intro j hj
  rw [List.length_set] at hj
  have hcj := h j hj
  constructor
  · by_cases e : j = i
    · subst e
      rw [getQ_set_eq _ _ hj]
      exact World.cell?_setCell_same _ _ _ (h j hj).1
    · rw [getQ_set_ne _ _ (Ne.symm e), ← hcj.1]
      exact World.cell?_setCell_other w ⟨g, i, none⟩ ⟨g, j, none⟩ _ (by intro h; apply e; injection h with h1 h2; omega)
  · rw [World.frozen?_setCell]
    exact hcj.2
theorem CellQ.drewN {w : World} {g : Nat} {xs : List Nat} (h : CellQ w g xs) (n : Nat) : CellQ (w.drewN n) g xs := h
theorem CellQ.swap {w : World} {g : Nat} {ys : List Nat} (h : CellQ w g ys) {i j x y : Nat} (hi : i < ys.length) (hj : j < ys.length) :
    CellQ ((w.setCell ⟨g, i, none⟩ (.int .u64 (y : Int))).setCell ⟨g, j, none⟩ (.int .u64 (x : Int))).drew g ((ys.set i y).set j x) :=
  ((h.set i y hi).set j x (by rw [List.length_set]; exact hj))

theorem nan_calls (x : Int) (w : World) : Calls Try.prog 97 #[.int .u64 x] w fun e w' => e = .returned (.bool false) ∧ w = w' := by
  have t : ((x : Int) == x) = true := by simp
  have t2 : ((x : Int) != x) = false := by simp
  go_enter Try.func97, Try.ntmps97
  go_wp2
  go_ret
  exact ⟨rfl, rfl⟩

theorem less_calls (x y : Int) (w : World) : Calls Try.prog 79 #[.int .u64 x, .int .u64 y] w fun e w' => e = .returned (.bool (decide (x < y))) ∧ w = w' := by
  have HN := Lib.hid (nan_calls x w)
  go_enter Try.func79, Try.ntmps79
  go_wp2_with fail
  refine HN.out.mono ?_
  rintro e w' ⟨rfl, rfl⟩
  go_wp2
  go_ret
  exact ⟨rfl, rfl⟩

theorem len64_calls (w : World) : Calls Try.prog 83 #[.int .u64 12] w fun e w' => e = .returned (.int .i64 4) ∧ w = w' := by
  go_enter Try.func83, Try.ntmps83
  go_wp2
  go_ret
  exact ⟨by kernel_rfl, rfl⟩

theorem len12_calls (w : World) : Calls Try.prog 55 #[.int .u64 12] w fun e w' => e = .returned (.int .i64 4) ∧ w = w' := by
  have H := Lib.hid (len64_calls w)
  go_enter Try.func55, Try.ntmps55
  go_wp2_with fail
  refine H.out.mono ?_
  rintro e w' ⟨rfl, rfl⟩
  go_wp2
  go_ret
  exact ⟨rfl, rfl⟩


/-- a row in order -/
def SortedTo (ys : List Nat) (n : Nat) : Prop := ∀ a b, a < b → b < n → ys.getD a 0 ≤ ys.getD b 0

set_option maxRecDepth 100000 in
set_option maxHeartbeats 1000000 in
theorem ins_calls (B g cap n : Nat) (xs : List Nat) (w : World) (hn : xs.length = n) (hm : n ≤ 12) (hB : B ≤ g) (hc : CellQ w g xs) : Calls Try.prog 73 #[.slice (some ⟨g, 0, none⟩) n cap, .int .i64 0, .int .i64 n] w fun e w' =>
    e = .returned (.tuple #[]) ∧ ∃ ys : List Nat, ys.Perm xs ∧ SortedTo ys n ∧ CellQ w' g ys ∧ Below B w w' := by
  have HL := Lib.hid (fun (x y : Int) (w : World) => (less_calls x y w).mono fun _ _ ⟨he, hm⟩ => And.intro he hm.symm)
  go_enter Try.func73, Try.ntmps73
  go_wp2
  go_loopw [6] (fun iv wr => ∃ (i : Nat) (ys : List Nat), 1 ≤ i ∧ i ≤ 13 ∧ iv = .int .i64 (i : Int) ∧ ys.Perm xs ∧ SortedTo ys (min i n) ∧ CellQ wr g ys ∧ Below B w wr) (fun iv _ => (13 - intOf iv).toNat)
  case atStart => exact ⟨1, xs, by omega, by omega, rfl, List.Perm.refl _, fun a b h1 h2 => by omega, hc, Below.refl _ _⟩
  case round =>
    obtain ⟨i, ys, hi1, hi2, rfl, hp, hso, hcy, hb⟩ := hrel
    have HS := Lib.hid hso
    have HP := Lib.hid hp
    have HC := Lib.hid hcy
    have HBB := Lib.hid hb
    clear hso hp hcy hb hc
    by_cases hlt : i < n
    · have t1 : (i : Int) < (n : Int) := by omega
      go_wp2
      go_loopw [7] (fun jv wr => ∃ (j : Nat) (ys : List Nat), j ≤ i ∧ jv = .int .i64 (j : Int) ∧ ys.Perm xs ∧ InsInv ys i j ∧ CellQ wr g ys ∧ Below B w wr) (fun jv _ => (intOf jv).toNat)
      case atStart =>
        refine ⟨i, ys, by omega, rfl, HP.out, ?_, HC.out, HBB.out⟩
        have := HS.out
        rw [Nat.min_eq_left (by omega)] at this
        exact ins_start this
      case round =>
        clear HS HP HC HBB
        obtain ⟨j, zs, hj, rfl, hp, hv, hcy, hb⟩ := hrel
        have hzl : zs.length = n := hp.length_eq.trans hn
        have HV := Lib.hid hv
        have HP := Lib.hid hp
        have HC := Lib.hid hcy
        have HBB := Lib.hid hb
        clear hv hp hcy hb
        by_cases hj0 : j = 0
        · subst hj0
          have d0 : decide (((0 : Nat) : Int) > 0) = false := by decide
          go_upto_region 4 with (fail)
          go_quiet (fail)
          go_wp2
          go_roundw
          case rel => exact ⟨i + 1, zs, by omega, by omega, by go_num, HP.out, (by rw [Nat.min_eq_left (by omega)]; exact ins_stop HV.out hj (.inl rfl)), HC.out.drewN _, below_drewN HBB.out _⟩
          case measure => simp [intOf]; omega
        · obtain ⟨k, hk⟩ : ∃ k, j = k + 1 := ⟨j - 1, by omega⟩
          obtain ⟨c1, f1⟩ := HC.out j (by omega)
          obtain ⟨c0, f0⟩ := HC.out k (by omega)
          obtain ⟨x, ex⟩ : ∃ x, zs.getD j 0 = x := ⟨_, rfl⟩
          obtain ⟨y, ey⟩ : ∃ y, zs.getD k 0 = y := ⟨_, rfl⟩
          rw [ex] at c1
          rw [ey] at c0
          have EX := Lib.hid ex
          have EY := Lib.hid ey
          have hzl2 := Lib.hid hzl
          have q1 : (j : Int) < (n : Int) := by omega
          have q2 : (k : Int) < (n : Int) := by omega
          have q3 : 0 < j := by omega
          have q5 : k < j := by omega
          have q6 : j ≠ k := by omega
          have q4 : IntKind.i64.wrap ((j : Int) - 1) = (k : Int) := by rw [IntWalk.i64_in _ (by omega)]; omega
          have HK := Lib.hid hk
          clear ex ey hzl hk hj0
          by_cases hxy : (x : Int) < (y : Int)
          · go_upto_region 4 with (fail)
            go_quiet ((go_at_call 79; exact Calls.quiet_of_same (HL.out _ _ _)))
            go_wp2
            go_region
            go_wp2
            have hlt2 : zs.getD (k + 1) 0 < zs.getD k 0 := by rw [← HK.out, EX.out, EY.out]; omega
            have hv2 := ins_swap (HK.out ▸ HV.out) (by rw [hzl2.out]; omega) (by omega) hlt2
            have hp2 := (swap_perm zs (k + 1) k (by rw [hzl2.out]; omega) (by omega)).trans HP.out
            rw [← HK.out, EX.out, EY.out] at hv2 hp2
            have hc2 : CellQ (((wr.drewN (nq + 1)).setCell ⟨g, j, none⟩ (.int .u64 (y : Int))).setCell ⟨g, k, none⟩ (.int .u64 (x : Int))) g ((zs.set j y).set k x) := (HC.out.drewN _).swap (by rw [hzl2.out]; omega) (by rw [hzl2.out]; omega)
            go_roundw
            case rel => exact ⟨k, (zs.set j y).set k x, by omega, by congr 1, hp2, hv2, hc2, ((below_drewN HBB.out _).setCell hB _).setCell hB _⟩
            case measure => simp [intOf]; omega
          · go_upto_region 4 with (fail)
            go_quiet ((go_at_call 79; exact Calls.quiet_of_same (HL.out _ _ _)))
            go_wp2
            go_roundw
            case rel => exact ⟨i + 1, zs, by omega, by omega, by go_num, HP.out, (by rw [Nat.min_eq_left (by omega)]; exact ins_stop HV.out hj (.inr (by rw [HK.out, Nat.add_sub_cancel, EY.out, ← HK.out, EX.out]; omega))), HC.out.drewN _, below_drewN HBB.out _⟩
            case measure => simp [intOf]; omega
    · have h1 := HS.out
      rw [Nat.min_eq_right (by omega)] at h1
      have H1 := Lib.hid h1
      clear h1 HS
      go_wp2
      go_end0
      exact ⟨rfl, ys, HP.out, H1.out, HC.out, HBB.out⟩

theorem pdq_calls (B g cap : Nat) (xs : List Nat) (w : World) (hn : xs.length = 12) (hB : B ≤ g) (hc : CellQ w g xs) : Calls Try.prog 54 #[.slice (some ⟨g, 0, none⟩) 12 cap, .int .i64 0, .int .i64 12, .int .i64 4] w fun e w' =>
    e = .returned (.tuple #[]) ∧ ∃ ys : List Nat, ys.Perm xs ∧ SortedTo ys 12 ∧ CellQ w' g ys ∧ Below B w w' := by
  have H := Lib.hid (ins_calls B g cap 12 xs w hn (by omega) hB hc)
  go_enter Try.func54, Try.ntmps54
  go_wp2
  go_loopw [1, 2, 3, 8, 9] (fun x1 x2 x3 av bv wr => x1 = .int .i64 0 ∧ x2 = .int .i64 12 ∧ x3 = .int .i64 4 ∧ av = .bool true ∧ bv = .bool true ∧ wr = w) (fun _ _ _ _ _ _ => 0)
  case atStart => exact ⟨rfl, rfl, rfl, rfl, rfl, rfl⟩
  case round =>
    obtain ⟨rfl, rfl, rfl, rfl, rfl, rfl⟩ := hrel
    go_wp2_with fail
    refine H.out.mono ?_
    rintro e w' ⟨rfl, h⟩
    have HH := Lib.hid h
    clear h
    go_wp2
    refine bodyPost_ret (results_none rfl _ _ _) rfl ?_
    exact ⟨rfl, HH.out⟩

theorem sort_calls (B g cap : Nat) (xs : List Nat) (w : World) (hn : xs.length = 12) (hB : B ≤ g) (hc : CellQ w g xs) : Calls Try.prog 31 #[.slice (some ⟨g, 0, none⟩) 12 cap] w fun e w' =>
    e = .returned (.tuple #[]) ∧ ∃ ys : List Nat, ys.Perm xs ∧ SortedTo ys 12 ∧ CellQ w' g ys ∧ Below B w w' := by
  have H := Lib.hid (pdq_calls B g cap xs w hn hB hc)
  have HL := Lib.hid (len12_calls w)
  go_enter Try.func31, Try.ntmps31
  go_wp2_with fail
  refine HL.out.mono ?_
  rintro e w' ⟨rfl, rfl⟩
  go_wp2_with fail
  refine H.out.mono ?_
  rintro e w' ⟨rfl, h⟩
  have HH := Lib.hid h
  clear h
  go_wp2
  go_end0
  exact ⟨rfl, HH.out⟩

end Go.Proofs
