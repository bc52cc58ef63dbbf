/- Comma of the program and of the reference. The reference's size, gcd, Valid; the law's form, large, one. The law's large, form, one; two tones against each other. -/
import Derived.Test.YthkeekoljediiaaToneA
open Go.RowKit Go.Deep
namespace Go.Proofs
set_option linter.unusedVariables false
set_option linter.unusedSimpArgs false

def commaT (z : Int) : T4 × Int :=
  if z = 0 then (⟨-19, 12, 0, 1⟩, 0) else if z = 1 then (⟨-4, 4, -1, 1⟩, 0) else if z = 2 then (⟨-15, 8, 1, 1⟩, 0) else if z = 3 then (⟨7, 0, -3, 1⟩, 0) else (⟨0, 0, 0, 0⟩, 1)

theorem comma_calls (z : Int) (w : World) : Calls Try.prog 69 #[.int .i64 z] w (RetT w (commaT z)) := by
  unfold commaT
  by_cases h0 : z = 0
  · rw [if_pos h0]; exact comma_0 z w h0
  rw [if_neg h0]
  by_cases h1 : z = 1
  · rw [if_pos h1]; exact comma_1 z w h1
  rw [if_neg h1]
  by_cases h2 : z = 2
  · rw [if_pos h2]; exact comma_2 z w h2
  rw [if_neg h2]
  by_cases h3 : z = 3
  · rw [if_pos h3]; exact comma_3 z w h3
  rw [if_neg h3]
  exact comma_4 z w (by omega)

end Go.Proofs

open Go.RowKit Go.Deep
namespace Go.Proofs
set_option linter.unusedVariables false
set_option linter.unusedSimpArgs false

theorem rsize_neg (n : Nat) (h1 : 1 ≤ n) (h2 : n ≤ 9223372036854775808) : IntKind.u64.wrap (IntKind.u64.wrap (wrap64 (-(wrap64 (-(n : Int) + 1)))) + 1) = (n : Int) := by
  rw [IntKind.wrap_u64, IntKind.wrap_u64]; unfold wrap64; omega

theorem gcd_le_max (a b : Nat) (ha : a ≤ 960) (hb : b ≤ 960) : Nat.gcd a b ≤ 960 := by
  by_cases h : a = 0
  · subst h; rw [Nat.gcd_zero_left]; exact hb
  · exact Nat.le_trans (Nat.gcd_le_left _ (by omega)) ha

end Go.Proofs

open Go.RowKit Go.Deep
namespace Go.Proofs
set_option linter.unusedVariables false
set_option linter.unusedSimpArgs false

/-- the same four numbers -/
def eqB (s t : T4) : Bool := s.a == t.a && (s.b == t.b && (s.c == t.c && s.d == t.d))
theorem eqB_iff (s t : T4) : eqB s t = true ↔ s = t := by
  obtain ⟨a, b, c, d⟩ := s
  obtain ⟨x, y, z, u⟩ := t
  simp [eqB]

theorem run_eql_tone (s t : T4) (w : World) : (binOp .eql 37 (.agg #[.int .i64 s.a, .int .i64 s.b, .int .i64 s.c, .int .i64 s.d]) (.agg #[.int .i64 t.a, .int .i64 t.b, .int .i64 t.c, .int .i64 t.d])).run Try.prog w = .ok (.bool (eqB s t)) w := by
  rw [run_eql_struct, show (10000 : Nat) = 9999 + 1 from rfl, run_equalIn_agg w 9999 37 _ _ (by kernel_rfl) (by kernel_rfl)]
  obtain ⟨a, b, c, d⟩ := s
  obtain ⟨x, y, z, u⟩ := t
  unfold eqB
  dsimp only
  by_cases h1 : a = x
  · subst h1
    by_cases h2 : b = y
    · subst h2
      by_cases h3 : c = z
      · subst h3
        by_cases h4 : d = u
        · subst h4; go_simp
        · go_simp
      · go_simp
    · go_simp
  · go_simp

end Go.Proofs
