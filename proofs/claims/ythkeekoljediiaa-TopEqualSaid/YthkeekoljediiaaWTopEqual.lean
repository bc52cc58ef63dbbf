/- The walk of TopEqual: whatever comes in, it returns true and changes nothing that was there. -/
import Derived.Test.YthkeekoljediiaaTemper5
import Derived.Test.YthkeekoljediiaaTempers
open Go.RowKit Go.Deep
namespace Go.Proofs
set_option linter.unusedVariables false
set_option linter.unusedSimpArgs false

theorem CellQ.mono {w w' : World} {g : Nat} {xs : List Nat} (h : CellQ w g xs) (hb : Below w.heap.size w w') : CellQ w' g xs := by
  intro i hi
  have hl : g < w.heap.size := cell_ltV (a := ⟨g, i, none⟩) (h i hi).1
  exact ⟨(hb.cell (p := ⟨g, i, none⟩) hl).trans (h i hi).1, (hb.frozen (p := ⟨g, i, none⟩) hl).trans (h i hi).2⟩

set_option maxRecDepth 100000 in
set_option maxHeartbeats 1000000 in
theorem walk_tequal (a0 : Int) (w : World) (h0 : 0 ≤ a0) (h1 : a0 < 18446744073709551616) : Calls Try.prog 4 #[.int .u64 a0] w (RetTrueQ w) := by
  obtain ⟨n, hn⟩ : ∃ n : Nat, a0 / 256 + 1 = (n : Int) := ⟨(a0 / 256 + 1).toNat, by omega⟩
  have hn1 : 1 ≤ n := by omega
  have hn2 : n ≤ 72057594037927936 := by omega
  have ex : ∀ k, ∃ r, k < 12 → IsRoot (freqQ n (tq k)) (tq k).d.toNat r := fun k => by
    by_cases hk : k < 12
    · obtain ⟨r, hr⟩ := freq_exists n (tq k) (tq_valid k hk)
      exact ⟨r, fun _ => hr⟩
    · exact ⟨0, fun h => absurd h hk⟩
  obtain ⟨F, hF⟩ : ∃ F : Nat → Nat, ∀ k, k < 12 → IsRoot (freqQ n (tq k)) (tq k).d.toNat (F k) := ⟨fun k => (ex k).choose, fun k hk => (ex k).choose_spec hk⟩
  have small : ∀ k, k < 12 → F k < 9223372036854775808 := fun k hk => root_small (by omega) hk (hF k hk)
  have HF : ∀ k, k < 12 → ∀ W : World, Calls Try.prog 14 #[.int .u64 (n : Int), .agg #[.int .i64 (tq k).a, .int .i64 (tq k).b, .int .i64 (tq k).c, .int .i64 (tq k).d]] W fun e w' => e = .returned (.tuple #[.int .u64 (F k : Int), .int .i64 0]) ∧ Below W.heap.size W w' :=
    fun k hk W => freq_ok n (F k) (tq k) W (by omega) (tq_valid k hk) (hF k hk) (small k hk)
  have hm : ∀ j k, j ≤ k → k < 12 → F j ≤ F k := fun j k hj hk => root_mono hk hj (hF j (by omega)) (hF k hk)
  have SC := fun (b : Nat) (w : World) (hv : Twelve w b 1) => scale_calls (n : Int) F b w (by simp; omega) (by omega) hv HF hm
  have q1 : IntKind.u64.wrap (a0 / 256 + 1) = (n : Int) := by rw [← hn]; simp [IntKind.wrap, IntKind.bits, IntKind.signed]; omega
  have q2 : ¬ (1152921504606846976 ≤ (n : Int)) := by omega
  obtain ⟨bz, hbz⟩ : ∃ bz : Int, (n : Int) = bz := ⟨_, rfl⟩
  rw [hbz] at SC HF q1 q2
  have d2 : decide (1152921504606846976 ≤ bz) = false := decide_eq_false q2
  have d3 : decide (bz ≥ 1152921504606846976) = false := decide_eq_false q2
  have HSC := Lib.hid SC
  have HFR := Lib.hid HF
  have HTE := Lib.hid (fun w : World => tempers_calls w)
  have T1 := Lib.hid (show Twelve (w.alloc (.cells #[.int .i64 1, .int .i64 1, .int .i64 1, .int .i64 1, .int .i64 1, .int .i64 1, .int .i64 1, .int .i64 1, .int .i64 1, .int .i64 1, .int .i64 1, .int .i64 1] 3)) w.heap.size 1 from (twelve_new w 1 3).1)
  have B1 := Lib.hid (below_alloc w (.cells #[.int .i64 1, .int .i64 1, .int .i64 1, .int .i64 1, .int .i64 1, .int .i64 1, .int .i64 1, .int .i64 1, .int .i64 1, .int .i64 1, .int .i64 1, .int .i64 1] 3))
  clear ex hF small HF hm hn hbz SC q2 hn1 hn2
  go_enter Try.func4, Try.ntmps4
  go_wp2_with fail
  generalize w.alloc (.cells #[.int .i64 1, .int .i64 1, .int .i64 1, .int .i64 1, .int .i64 1, .int .i64 1, .int .i64 1, .int .i64 1, .int .i64 1, .int .i64 1, .int .i64 1, .int .i64 1] 3) = w1 at *
  refine (HSC.out _ _ T1.out).mono ?_
  rintro e w2 ⟨g, c, rfl, hc, hg, hq, b2⟩
  have HQ2 := Lib.hid hq
  have B2 := Lib.hid (below_trans B1.out b2)
  clear hq b2 T1 B1 HSC
  go_wp2_with fail
  refine (HTE.out _).mono ?_
  rintro e w3 ⟨rfl, b3⟩
  have HQ3 := Lib.hid (HQ2.out.mono b3)
  have B3 := Lib.hid (below_trans B2.out b3)
  have hg3 : g < w3.heap.size := Nat.lt_of_lt_of_le hg b3.size
  clear HQ2 B2 b3 hg HTE
  go_wp2
  go_loopw [5] (fun kv wr => ∃ k : Nat, k ≤ 12 ∧ kv = .int .i64 (k : Int) ∧ CellQ wr g ((List.range 12).map F) ∧ g < wr.heap.size ∧ Below w.heap.size w wr) (fun kv _ => (12 - intOf kv).toNat)
  case atStart => exact ⟨0, by omega, rfl, HQ3.out, hg3, B3.out⟩
  case round =>
    clear HQ3 B3 hg3
    obtain ⟨k, hk, rfl, hq, hgr, hb⟩ := hrel
    by_cases h12 : k < 12
    · have t1 : (k : Int) < 12 := by omega
      have MK := fun w : World => make_ok (k : Int) 0 0 12 w (by unfold i64; omega) (by unfold i64; omega) (by unfold i64; omega) (by unfold i64; omega) (by omega)
      rw [tq_make k h12] at MK
      have FR := HFR.out k h12
      obtain ⟨⟨xa, xb, xc, xd⟩, hx⟩ : ∃ t, tq k = t := ⟨_, rfl⟩
      rw [hx] at MK FR
      obtain ⟨r, hr⟩ : ∃ r, F k = r := ⟨_, rfl⟩
      rw [hr] at FR
      have cq := (hq k (by simp; omega)).1
      rw [show ((List.range 12).map F).getD k 0 = r from by simp [List.getD, h12, hr]] at cq
      dsimp only at MK FR
      have HMK := Lib.hid MK
      have HFK := Lib.hid FR
      have HQ := Lib.hid hq
      have HB := Lib.hid hb
      clear MK FR hx hr hq hb HFR
      go_wp2_with fail
      refine (HMK.out _).mono ?_
      rintro e w5 ⟨rfl, b5⟩
      have HQ5 := Lib.hid (HQ.out.mono b5)
      have HB5 := Lib.hid (below_trans HB.out b5)
      replace cq := (b5.cell (p := ⟨g, k, none⟩) hgr).trans cq
      have hg5 : g < w5.heap.size := Nat.lt_of_lt_of_le hgr b5.size
      clear HQ HB b5 hgr
      dsimp only
      go_wp2_with fail
      have b6 := below_alloc w5 (.cells #[.int .i64 xa, .int .i64 xb, .int .i64 xc, .int .i64 xd] 37)
      have HQ6 := Lib.hid (HQ5.out.mono b6)
      have HB6 := Lib.hid (below_trans HB5.out b6)
      replace cq := (b6.cell (p := ⟨g, k, none⟩) hg5).trans cq
      have hg6 : g < (w5.alloc (.cells #[.int .i64 xa, .int .i64 xb, .int .i64 xc, .int .i64 xd] 37)).heap.size := Nat.lt_of_lt_of_le hg5 b6.size
      clear HQ5 HB5 b6 hg5
      generalize w5.alloc (.cells #[.int .i64 xa, .int .i64 xb, .int .i64 xc, .int .i64 xd] 37) = w6 at *
      refine (HFK.out _).mono ?_
      rintro e w7 ⟨rfl, b7⟩
      have HQ7 := Lib.hid (HQ6.out.mono b7)
      have HB7 := Lib.hid (below_trans HB6.out b7)
      replace cq := (b7.cell (p := ⟨g, k, none⟩) hg6).trans cq
      have hg7 : g < w7.heap.size := Nat.lt_of_lt_of_le hg6 b7.size
      clear HQ6 HB6 b7 hg6
      dsimp only
      go_wp2
      go_roundw
      case rel => exact ⟨k + 1, by omega, by go_num, HQ7.out, hg7, HB7.out⟩
      case measure => simp [intOf]; omega
    · obtain rfl : k = 12 := by omega
      go_wp2
      go_ret
      exact ⟨rfl, hb⟩

end Go.Proofs
