/- plain facts: the fractions next to a tone and the tone's multiples. -/
import Derived.Test.YtnogieknjcbchaaDoorTRef12
namespace Go.Proofs
set_option linter.unusedVariables false
set_option linter.unusedSimpArgs false

theorem and_127 (z : Int) (z0 : -9223372036854775808 ≤ z) (z1 : z < 9223372036854775808) : ∃ k : Nat, k < 128 ∧ bits BinOp.and IntKind.i64 z 127 = (k : Int) := by
  refine ⟨(BitVec.ofInt 64 z).toNat &&& 127, Nat.lt_of_le_of_lt Nat.and_le_right (by omega), ?_⟩
  have hlt : (BitVec.ofInt 64 z).toNat &&& 127 < 128 := Nat.lt_of_le_of_lt Nat.and_le_right (by omega)
  have e : (BitVec.ofInt 64 z &&& BitVec.ofInt 64 127).toNat = (BitVec.ofInt 64 z).toNat &&& 127 := by
    rw [BitVec.toNat_and]
    rfl
  show IntKind.i64.wrap ((BitVec.ofInt 64 z &&& BitVec.ofInt 64 127).toNat : Int) = _
  rw [e, IntKind.wrap_i64]
  omega

theorem next_facts {s : T4} {most pl ql ph qh r t : Nat} (hD : 1 ≤ s.d.toNat) (h : FareyRes (overN s.a s.b s.c) (underN s.a s.b s.c) s.d.toNat most pl ql ph qh)
    (hr : IsRoot (freqQ ql s) s.d.toNat r) (ht : IsRoot (freqQ qh s) s.d.toNat t) :
    (ph = pl ∧ qh = ql ∧ r = pl ∧ exactT ql s r = true) ∨ (ph * ql = pl * qh + 1 ∧ r = pl ∧ exactT ql s r = false ∧ exactT qh s t = false ∧ ph = t + 1) := by
  have n2 := under_ne s.a s.b s.c
  have hU : 1 ≤ underN s.a s.b s.c := by omega
  obtain ⟨⟨l1, l2, l3, l4⟩, ⟨k1, k2, k3, rfl, rfl⟩ | ⟨⟨g1, g2, det, lo, nl, nh⟩, k2⟩⟩ := h
  · left
    have a1 := root_max hr hD _ k1
    have a2 := le_ge_order hU hD l1 l1 (root_le hr) k2
    have a3 := Nat.le_of_mul_le_mul_right a2 (show 0 < qh by omega)
    have a4 : r = ph := by omega
    subst a4
    exact ⟨rfl, rfl, rfl, (root_exact hr).2 k2⟩
  · right
    have a1 := root_max hr hD _ lo
    have a2 : r * qh < ph * ql := by
      by_cases hx : r * qh < ph * ql
      · exact hx
      · exact absurd (leF_mono l1 (by omega) (root_le hr)) nh
    have a3 : r * qh ≤ pl * qh := by omega
    have a4 := Nat.le_of_mul_le_mul_right a3 (show 0 < qh by omega)
    have a5 : r = pl := by omega
    subst a5
    have a6 : t < ph := by
      by_cases hx : t < ph
      · exact hx
      · exact absurd (leF_mono l3 (Nat.mul_le_mul_right qh (by omega)) (root_le ht)) nh
    have a7 : r * qh < (t + 1) * ql := by
      by_cases hx : r * qh < (t + 1) * ql
      · exact hx
      · have := root_max ht hD (t + 1) (leF_mono l1 (by omega) lo)
        omega
    have a8 : ph * ql ≤ (t + 1) * ql := by omega
    have a9 := Nat.le_of_mul_le_mul_right a8 (show 0 < ql by omega)
    have a10 : ph = t + 1 := by omega
    refine ⟨det, rfl, ?_, ?_, a10⟩
    · cases hx : exactT ql s r
      · rfl
      · exact absurd ((root_exact hr).1 hx) nl
    · cases hx : exactT qh s t
      · rfl
      · exfalso
        have b1 := (root_exact ht).1 hx
        have b2 : r * qh < t * ql := by
          by_cases hy : r * qh < t * ql
          · exact hy
          · exact absurd (geF_mono g2 (by omega) b1) nl
        have b3 : ph * ql ≤ t * ql := by omega
        have b4 := Nat.le_of_mul_le_mul_right b3 (show 0 < ql by omega)
        omega
theorem next_small {s : T4} {most q r : Nat} (hr : IsRoot (freqQ q s) s.d.toNat r) (hq : 1 ≤ q) (h2 : aboveI s 2 1 = -1) (hm : q ≤ 128) (hM : most ≤ 128) : r < 256 := by
  have := root_lt hr hq h2
  omega

end Go.Proofs
