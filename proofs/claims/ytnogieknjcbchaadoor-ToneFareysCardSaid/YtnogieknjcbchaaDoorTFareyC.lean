/- tone: what Farey returns, all ways. -/
import Derived.Test.YtnogieknjcbchaaDoorTone12
open Go.RowKit Go.Deep
namespace Go.Proofs
set_option linter.unusedVariables false
set_option linter.unusedSimpArgs false

theorem above_two_one {s : T4} (h : 0 ≤ aboveI s 2 1) : 0 ≤ aboveI s 1 1 := by
  rw [aboveI_ge] at *
  exact leF_mono (n' := 2) (d' := 1) (by omega) (by omega) h
theorem farey_range (s : T4) (m : Int) (w : World) (hs : validB s.a s.b s.c s.d = true) (hm : 1 ≤ m) (hm2 : m ≤ 4096) (h : aboveI s 1 1 < 0 ∨ 0 ≤ aboveI s 2 1) :
    Calls Tryd.prog 10 #[.agg #[.int .i64 s.a, .int .i64 s.b, .int .i64 s.c, .int .i64 s.d], .int .i64 m] w (RetF w 0 0 0 0 5) := by
  rcases aboveI_cases s 1 1 with a | a | a <;> rcases aboveI_cases s 2 1 with b | b | b
  · exact farey_below s m w hs hm hm2 a
  · exact farey_below s m w hs hm hm2 a
  · exact farey_below s m w hs hm hm2 a
  · omega
  · exact farey_two0 s m w hs hm hm2 a b
  · exact farey_two3 s m w hs hm hm2 a b
  · omega
  · exact farey_two1 s m w hs hm hm2 a b
  · exact farey_two2 s m w hs hm hm2 a b
theorem farey_ok (s : T4) (most : Nat) (w : World) (hs : validB s.a s.b s.c s.d = true) (hm : 1 ≤ most) (hm2 : most ≤ 4096) (h1 : ¬ aboveI s 1 1 < 0) (h2 : ¬ 0 ≤ aboveI s 2 1) :
    Calls Tryd.prog 10 #[.agg #[.int .i64 s.a, .int .i64 s.b, .int .i64 s.c, .int .i64 s.d], .int .i64 (most : Int)] w (RetFarey w s most) := by
  have c2 : aboveI s 2 1 = -1 := by rcases aboveI_cases s 2 1 with b | b | b <;> omega
  by_cases c1 : aboveI s 1 1 = 0
  · refine (farey_one s most w hs (by omega) (by omega) c1 c2).mono ?_
    intro e w1 hr
    refine ⟨1, 1, 1, 1, ⟨⟨by omega, hm, by omega, hm⟩, .inl ⟨(aboveI_ge s 1 1).1 (by omega), (aboveI_le s 1 1).1 (by omega), rfl, rfl, rfl⟩⟩, hr⟩
  · exact farey_main s most w hs hm hm2 (by rcases aboveI_cases s 1 1 with b | b | b <;> omega) c2
theorem cmp_one (s : T4) : cmpT s ⟨0, 0, 0, 1⟩ = aboveI s 1 1 := by
  unfold cmpT sg dif aboveI ov un
  simp
theorem cmp_two (s : T4) (hd : 1 ≤ s.d) : cmpT s ⟨1, 0, 0, 1⟩ = aboveI s 2 1 := by
  have e : dif s ⟨1, 0, 0, 1⟩ = (s.h).add ⟨-s.d, 0, 0⟩ := by
    unfold dif H3.add T4.h
    apply H3.ext' <;> dsimp only <;> omega
  unfold cmpT
  rw [e, sg_add]
  unfold aboveI ov un overN underN T4.h
  have z : (-s.d).toNat = 0 := by omega
  dsimp only
  rw [z, Int.neg_neg]
  simp [Nat.mul_comm]
theorem run_eql_frac (a b c d : Int) (w : World) : (binOp .eql 29 (.agg #[.int .i64 a, .int .i64 b]) (.agg #[.int .i64 c, .int .i64 d])).run Tryd.prog w = .ok (.bool (decide (a = c) && decide (b = d))) w := by
  rw [run_eql_struct, show (10000 : Nat) = 9999 + 1 from rfl, run_equalIn_agg w 9999 29 _ _ (by kernel_rfl) (by kernel_rfl)]
  by_cases h1 : a = c
  · subst h1
    by_cases h2 : b = d
    · subst h2; go_simp
    · go_simp
  · go_simp

end Go.Proofs
