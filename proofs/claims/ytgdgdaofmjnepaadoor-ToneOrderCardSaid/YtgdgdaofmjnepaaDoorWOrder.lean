/- The walk of ToneOrder: whatever comes in, it returns true and changes nothing that was there. -/
import Derived.Test.YtgdgdaofmjnepaaDoorWOrderA
import Derived.Test.YtgdgdaofmjnepaaDoorWOrderB
import Derived.Test.YtgdgdaofmjnepaaDoorTRef
import Derived.Test.YtgdgdaofmjnepaaDoorTone8
import Derived.Test.YtgdgdaofmjnepaaDoorToneB
open Go.RowKit Go.Deep
namespace Go.Proofs
set_option linter.unusedVariables false

set_option maxRecDepth 100000 in
set_option maxHeartbeats 1000000 in
theorem walk_order (s t u : T4) (w : World) (hS : i64 s.a ∧ i64 s.b ∧ i64 s.c ∧ i64 s.d) (hT : i64 t.a ∧ i64 t.b ∧ i64 t.c ∧ i64 t.d) (hU : i64 u.a ∧ i64 u.b ∧ i64 u.c ∧ i64 u.d) (ht : Tab w)  :
    Calls Tryd.prog 13 #[.agg #[.int .i64 s.a, .int .i64 s.b, .int .i64 s.c, .int .i64 s.d], .agg #[.int .i64 t.a, .int .i64 t.b, .int .i64 t.c, .int .i64 t.d], .agg #[.int .i64 u.a, .int .i64 u.b, .int .i64 u.c, .int .i64 u.d]] w (RetTrue w) := by
  cases h1 : validB s.a s.b s.c s.d
  · exact order_stop0 s t u w hS hT hU ht h1
  cases h2 : validB t.a t.b t.c t.d
  · exact order_stop1 s t u w hS hT hU ht h1 h2
  cases h3 : validB u.a u.b u.c u.d
  · exact order_stop2 s t u w hS hT hU ht h1 h2 h3
  by_cases g1 : -60 ≤ s.a ∧ s.a ≤ 60 ∧ -60 ≤ s.b ∧ s.b ≤ 60 ∧ -60 ≤ s.c ∧ s.c ≤ 60
  case neg => exact order_stop3 s t u w hS hT hU ht h1 h2 h3 g1
  by_cases g2 : -60 ≤ t.a ∧ t.a ≤ 60 ∧ -60 ≤ t.b ∧ t.b ≤ 60 ∧ -60 ≤ t.c ∧ t.c ≤ 60
  case neg => exact order_stop4 s t u w hS hT hU ht h1 h2 h3 g1 g2
  by_cases g3 : -60 ≤ u.a ∧ u.a ≤ 60 ∧ -60 ≤ u.b ∧ u.b ≤ 60 ∧ -60 ≤ u.c ∧ u.c ≤ 60
  case neg => exact order_stop5 s t u w hS hT hU ht h1 h2 h3 g1 g2 g3
  have d1 := (okT_d h1).1
  have d2 := (okT_d h2).1
  have d3 := (okT_d h3).1
  have tr1 : 0 ≤ cmpT s t → 0 ≤ cmpT t u → 0 ≤ cmpT s u := fun x y => cmpT_trans d1 d2 d3 x y
  have tr2 : cmpT s t ≤ 0 → cmpT t u ≤ 0 → cmpT s u ≤ 0 := fun x y => by
    have := cmpT_trans d3 d2 d1 (show 0 ≤ cmpT u t by rw [cmpT_swap t u]; omega) (show 0 ≤ cmpT t s by rw [cmpT_swap s t]; omega)
    rw [cmpT_swap s u] at this
    omega
  have cc := sg_cases (dif t u)
  change cmpT t u = -1 ∨ cmpT t u = 0 ∨ cmpT t u = 1 at cc
  have ca := sg_cases (dif s t)
  change cmpT s t = -1 ∨ cmpT s t = 0 ∨ cmpT s t = 1 at ca
  have fins : (((mulT s u).2 = 0) ∧ ((mulT t u).2 = 0)) ∨ ((mulT s u).2 != 0) = true ∨ (((mulT s u).2 != 0) = false ∧ ((mulT t u).2 != 0) = true) := by
    simp only [bne_iff_ne, bne_eq_false_iff_eq]
    omega
  rcases ca with ha | ha | ha
  · skip
    by_cases hc0 : cmpT t u ≤ 0
    · skip
      rcases fins with ⟨hk, hm⟩ | hk | ⟨hk, hm⟩
      · exact order_0ok s t u w hS hT hU ht h1 h2 h3 g1 g2 g3 ha (by simp only [decide_eq_true_eq, decide_eq_false_iff_not]; omega) (by simp only [decide_eq_true_eq, decide_eq_false_iff_not]; omega) hk hm
      · exact order_0e1 s t u w hS hT hU ht h1 h2 h3 g1 g2 g3 ha (by simp only [decide_eq_true_eq, decide_eq_false_iff_not]; omega) (by simp only [decide_eq_true_eq, decide_eq_false_iff_not]; omega) hk
      · exact order_0e2 s t u w hS hT hU ht h1 h2 h3 g1 g2 g3 ha (by simp only [decide_eq_true_eq, decide_eq_false_iff_not]; omega) (by simp only [decide_eq_true_eq, decide_eq_false_iff_not]; omega) hk hm
    · skip
      rcases fins with ⟨hk, hm⟩ | hk | ⟨hk, hm⟩
      · exact order_1ok s t u w hS hT hU ht h1 h2 h3 g1 g2 g3 ha (by simp only [decide_eq_true_eq, decide_eq_false_iff_not]; omega) hk hm
      · exact order_1e1 s t u w hS hT hU ht h1 h2 h3 g1 g2 g3 ha (by simp only [decide_eq_true_eq, decide_eq_false_iff_not]; omega) hk
      · exact order_1e2 s t u w hS hT hU ht h1 h2 h3 g1 g2 g3 ha (by simp only [decide_eq_true_eq, decide_eq_false_iff_not]; omega) hk hm
  · skip
    by_cases hc2 : cmpT t u < 0
    · skip
      rcases fins with ⟨hk, hm⟩ | hk | ⟨hk, hm⟩
      · exact order_2ok s t u w hS hT hU ht h1 h2 h3 g1 g2 g3 ha (by simp only [decide_eq_true_eq, decide_eq_false_iff_not]; omega) (by simp only [decide_eq_true_eq, decide_eq_false_iff_not]; omega) (by simp only [decide_eq_true_eq, decide_eq_false_iff_not]; omega) hk hm
      · exact order_2e1 s t u w hS hT hU ht h1 h2 h3 g1 g2 g3 ha (by simp only [decide_eq_true_eq, decide_eq_false_iff_not]; omega) (by simp only [decide_eq_true_eq, decide_eq_false_iff_not]; omega) (by simp only [decide_eq_true_eq, decide_eq_false_iff_not]; omega) hk
      · exact order_2e2 s t u w hS hT hU ht h1 h2 h3 g1 g2 g3 ha (by simp only [decide_eq_true_eq, decide_eq_false_iff_not]; omega) (by simp only [decide_eq_true_eq, decide_eq_false_iff_not]; omega) (by simp only [decide_eq_true_eq, decide_eq_false_iff_not]; omega) hk hm
    · skip
      by_cases hc3 : cmpT t u = 0
      · skip
        rcases fins with ⟨hk, hm⟩ | hk | ⟨hk, hm⟩
        · exact order_3ok s t u w hS hT hU ht h1 h2 h3 g1 g2 g3 ha (by simp only [decide_eq_true_eq, decide_eq_false_iff_not]; omega) (by simp only [decide_eq_true_eq, decide_eq_false_iff_not]; omega) (by simp only [decide_eq_true_eq, decide_eq_false_iff_not]; omega) (by simp only [decide_eq_true_eq, decide_eq_false_iff_not]; omega) hk hm
        · exact order_3e1 s t u w hS hT hU ht h1 h2 h3 g1 g2 g3 ha (by simp only [decide_eq_true_eq, decide_eq_false_iff_not]; omega) (by simp only [decide_eq_true_eq, decide_eq_false_iff_not]; omega) (by simp only [decide_eq_true_eq, decide_eq_false_iff_not]; omega) (by simp only [decide_eq_true_eq, decide_eq_false_iff_not]; omega) hk
        · exact order_3e2 s t u w hS hT hU ht h1 h2 h3 g1 g2 g3 ha (by simp only [decide_eq_true_eq, decide_eq_false_iff_not]; omega) (by simp only [decide_eq_true_eq, decide_eq_false_iff_not]; omega) (by simp only [decide_eq_true_eq, decide_eq_false_iff_not]; omega) (by simp only [decide_eq_true_eq, decide_eq_false_iff_not]; omega) hk hm
      · skip
        rcases fins with ⟨hk, hm⟩ | hk | ⟨hk, hm⟩
        · exact order_4ok s t u w hS hT hU ht h1 h2 h3 g1 g2 g3 ha (by simp only [decide_eq_true_eq, decide_eq_false_iff_not]; omega) (by simp only [decide_eq_true_eq, decide_eq_false_iff_not]; omega) (by simp only [decide_eq_true_eq, decide_eq_false_iff_not]; omega) hk hm
        · exact order_4e1 s t u w hS hT hU ht h1 h2 h3 g1 g2 g3 ha (by simp only [decide_eq_true_eq, decide_eq_false_iff_not]; omega) (by simp only [decide_eq_true_eq, decide_eq_false_iff_not]; omega) (by simp only [decide_eq_true_eq, decide_eq_false_iff_not]; omega) hk
        · exact order_4e2 s t u w hS hT hU ht h1 h2 h3 g1 g2 g3 ha (by simp only [decide_eq_true_eq, decide_eq_false_iff_not]; omega) (by simp only [decide_eq_true_eq, decide_eq_false_iff_not]; omega) (by simp only [decide_eq_true_eq, decide_eq_false_iff_not]; omega) hk hm
  · skip
    by_cases hc5 : 0 ≤ cmpT t u
    · skip
      rcases fins with ⟨hk, hm⟩ | hk | ⟨hk, hm⟩
      · exact order_5ok s t u w hS hT hU ht h1 h2 h3 g1 g2 g3 ha (by simp only [decide_eq_true_eq, decide_eq_false_iff_not]; omega) (by simp only [decide_eq_true_eq, decide_eq_false_iff_not]; omega) hk hm
      · exact order_5e1 s t u w hS hT hU ht h1 h2 h3 g1 g2 g3 ha (by simp only [decide_eq_true_eq, decide_eq_false_iff_not]; omega) (by simp only [decide_eq_true_eq, decide_eq_false_iff_not]; omega) hk
      · exact order_5e2 s t u w hS hT hU ht h1 h2 h3 g1 g2 g3 ha (by simp only [decide_eq_true_eq, decide_eq_false_iff_not]; omega) (by simp only [decide_eq_true_eq, decide_eq_false_iff_not]; omega) hk hm
    · skip
      rcases fins with ⟨hk, hm⟩ | hk | ⟨hk, hm⟩
      · exact order_6ok s t u w hS hT hU ht h1 h2 h3 g1 g2 g3 ha (by simp only [decide_eq_true_eq, decide_eq_false_iff_not]; omega) hk hm
      · exact order_6e1 s t u w hS hT hU ht h1 h2 h3 g1 g2 g3 ha (by simp only [decide_eq_true_eq, decide_eq_false_iff_not]; omega) hk
      · exact order_6e2 s t u w hS hT hU ht h1 h2 h3 g1 g2 g3 ha (by simp only [decide_eq_true_eq, decide_eq_false_iff_not]; omega) hk hm

end Go.Proofs
