/- The law's comparison of two slices of fractions. -/
import Derived.Test.YtnogieknjcbchaaDoorFracs
import Derived.Test.YtnogieknjcbchaaDoorTRef
open Go.RowKit Go.Deep
namespace Go.Proofs
set_option linter.unusedVariables false
set_option linter.unusedSimpArgs false

theorem run_neq_frac (a b : Int) (w : World) : (binOp .neq 29 (.agg #[.int .i64 a, .int .i64 b]) (.agg #[.int .i64 a, .int .i64 b])).run Tryd.prog w = .ok (.bool false) w := by
  rw [run_neq_struct, show (10000 : Nat) = 9999 + 1 from rfl, run_equalIn_agg w 9999 29 _ _ (by kernel_rfl) (by kernel_rfl)]
  go_simp

set_option maxRecDepth 100000 in
theorem fracs_calls (v1 v2 : Value) (L : List (Int × Int)) (w : World) (h1 : InF w v1 L) (h2 : InF w v2 L) (hl : L.length ≤ 1000000) :
    Calls Tryd.prog 18 #[v1, v2] w fun e w' => e = .returned (.bool true) ∧ Below w.heap.size w w' := by
  obtain ⟨ad1, c1, rfl, r1⟩ := h1
  obtain ⟨ad2, c2, rfl, r2⟩ := h2
  have hb := Below.refl w.heap.size w
  go_enter Tryd.func18, Tryd.ntmps18
  go_wp2
  go_loopw [5] (fun iv wr => ∃ i : Nat, iv = .int .i64 (i : Int) ∧ i ≤ L.length ∧ Below w.heap.size w wr)
    (fun iv _ => L.length - (intOf iv).toNat)
  case atStart => exact ⟨0, rfl, Nat.zero_le _, hb⟩
  case round =>
    clear hb
    obtain ⟨i, rfl, hi, hb⟩ := hrel
    by_cases hlt : i < L.length
    · rcases r1.mono hb with ⟨_, h0⟩ | ⟨g1, rfl, k1⟩
      · rw [h0] at hlt; exact absurd hlt (by simp)
      rcases r2.mono hb with ⟨_, h0⟩ | ⟨g2, rfl, k2⟩
      · rw [h0] at hlt; exact absurd hlt (by simp)
      obtain ⟨k11, k12⟩ := k1 i hlt
      obtain ⟨k21, k22⟩ := k2 i hlt
      clear k1 k2 r1 r2
      generalize (L.getD i (0, 0)).1 = x at *
      generalize (L.getD i (0, 0)).2 = y at *
      have q := fun w => run_neq_frac x y w
      rw [Nat.mul_comm] at k11 k12 k21 k22
      go_wp2
      go_quiet (fail)
      go_wp2
      go_roundw
      case rel => exact ⟨i + 1, by go_num, by omega, below_drewN hb nq⟩
      case measure => simp [intOf]; omega
    · obtain rfl : i = L.length := by omega
      go_wp2
      go_ret
      exact ⟨rfl, hb⟩

end Go.Proofs
