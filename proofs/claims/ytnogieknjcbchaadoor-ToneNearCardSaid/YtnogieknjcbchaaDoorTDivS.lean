/- plain facts: the program's search for the fractions next to a tone's logarithm, step by step. -/
import Derived.Test.YtnogieknjcbchaaDoorTDiv
namespace Go.Proofs
set_option linter.unusedVariables false
set_option linter.unusedSimpArgs false

theorem three_five_le (b c E : Nat) (hb : b ≤ E) (hc : c ≤ E) : 3 ^ b * 5 ^ c ≤ 2 ^ (4 * E) := by
  have h1 : 3 ^ b ≤ 3 ^ E := Nat.pow_le_pow_right (by omega) hb
  have h2 : 5 ^ c ≤ 5 ^ E := Nat.pow_le_pow_right (by omega) hc
  have h3 : 3 ^ E * 5 ^ E ≤ 16 ^ E := by rw [← Nat.mul_pow]; exact Nat.pow_le_pow_left (by omega) _
  have h4 : (16 : Nat) ^ E = 2 ^ (4 * E) := by rw [Nat.pow_mul]
  have h5 := Nat.mul_le_mul h1 h2
  omega

theorem octT_le {s : T4} (hd : 1 ≤ s.d) (E : Nat) (ha : s.a.natAbs ≤ E) (hb : s.b.natAbs ≤ E) (hc : s.c.natAbs ≤ E) : octT s ≤ 5 * E := by
  by_cases h : octT s ≤ 5 * E
  · exact h
  · exfalso
    have k := (oct_iff hd (5 * E + 1)).1 (by omega)
    rw [sg_ge] at k
    have m : (5 * (E : Int) + 1) * 1 ≤ (5 * (E : Int) + 1) * s.d := Int.mul_le_mul_of_nonneg_left hd (by omega)
    generalize (5 * (E : Int) + 1) * s.d = kd at *
    have e1 : (s.a - kd).toNat = 0 := by omega
    have e2 : 4 * E + 1 ≤ (-(s.a - kd)).toNat := by omega
    have l1 : ov ⟨s.a - kd, s.b, s.c⟩ ≤ 2 ^ (4 * E) := by
      unfold ov overN
      dsimp only
      rw [e1, Nat.pow_zero, Nat.one_mul]
      exact three_five_le _ _ _ (by omega) (by omega)
    have l2 : 2 ^ (4 * E + 1) ≤ un ⟨s.a - kd, s.b, s.c⟩ := by
      unfold un underN
      dsimp only
      have p1 : 2 ^ (4 * E + 1) ≤ 2 ^ (-(s.a - kd)).toNat := Nat.pow_le_pow_right (by omega) e2
      have p2 : 1 ≤ 3 ^ (-s.b).toNat * 5 ^ (-s.c).toNat := Nat.mul_pos (Nat.pow_pos (by omega)) (Nat.pow_pos (by omega))
      exact Nat.le_trans p1 (Nat.le_mul_of_pos_right _ p2)
    have e3 : 2 ^ (4 * E + 1) = 2 * 2 ^ (4 * E) := by rw [Nat.pow_succ]; omega
    have := Nat.two_pow_pos (4 * E)
    omega

/-- where the program's search for fractions stands -/
def DSt (s : T4) (most : Int) (full : List (Int × Int)) (p0 q0 p1 q1 σ : Int) (pre : List (Int × Int)) : Prop :=
  (pre = [] ∧ p0 = 0 ∧ q0 = 1 ∧ p1 = 1 ∧ q1 = 0 ∧ σ = 1) ∨
  (pre ≠ [] ∧ DInv s most (octT s + 1) p0 q0 p1 q1 σ ∧ lg s p1 q1 ≠ 0 ∧ ∃ L, Chain s most p0 q0 p1 q1 σ L ∧ full = pre ++ L)

/-- how often the one step fits into the other, at most -/
def dlim (most q0 q1 : Int) (pre : List (Int × Int)) : Int := if pre = [] then 7680 else (most - q0) / q1 + 1

theorem onSide_first {s : T4} (hd : 1 ≤ s.d) (k : Int) : onSide s 0 1 1 0 1 k ↔ k ≤ octT s := by
  rw [oct_lg hd]
  unfold onSide
  rw [lg_eq (p' := k) (q' := 1) (by omega) (by omega)]

/-- the bounds of the numbers that a step computes -/
structure DBnd (most p0 q0 p1 q1 σ lim : Int) : Prop where
  sign : σ = 1 ∨ σ = -1
  hq0 : 0 ≤ q0 ∧ q0 ≤ most
  hq1 : 0 ≤ q1 ∧ q1 ≤ most
  hp0 : 0 ≤ p0 ∧ p0 ≤ 121 * 64
  hp1 : 0 ≤ p1 ∧ p1 ≤ 121 * 64
  hlim : 0 ≤ lim ∧ lim ≤ 7680
  all : ∀ k, 0 ≤ k → k ≤ lim → 0 ≤ k * p1 ∧ k * p1 ≤ 121 * 128 ∧ 0 ≤ k * q1 ∧ k * q1 ≤ 128

theorem dst_bounds {s : T4} {most : Int} {full pre : List (Int × Int)} {p0 q0 p1 q1 σ : Int} (hd : 1 ≤ s.d) (hE : octT s ≤ 120) (hm : 1 ≤ most ∧ most ≤ 64)
    (h : DSt s most full p0 q0 p1 q1 σ pre) : DBnd most p0 q0 p1 q1 σ (dlim most q0 q1 pre) := by
  unfold dlim
  rcases h with ⟨rfl, rfl, rfl, rfl, rfl, rfl⟩ | ⟨h0, h1, h2, h3⟩
  · rw [if_pos rfl]
    exact ⟨.inl rfl, by omega, by omega, by omega, by omega, by omega, fun k hk1 hk2 => by omega⟩
  · rw [if_neg h0]
    obtain ⟨sign, hq0, hq1, hp0, hp1, det, s1, sd⟩ := h1
    have b1 : (octT s + 1) * q0 ≤ 121 * q0 := Int.mul_le_mul_of_nonneg_right (by omega) hq0.1
    have b2 : (octT s + 1) * q1 ≤ 121 * q1 := Int.mul_le_mul_of_nonneg_right (by omega) (by omega)
    generalize (octT s + 1) * q0 = B0 at *
    generalize (octT s + 1) * q1 = B1 at *
    have d1 : (most - q0) / q1 * q1 ≤ most - q0 := Int.ediv_mul_le _ (by omega)
    have d2 : 0 ≤ (most - q0) / q1 := Int.ediv_nonneg (by omega) (by omega)
    have d3 : (most - q0) / q1 * 1 ≤ (most - q0) / q1 * q1 := Int.mul_le_mul_of_nonneg_left hq1.1 d2
    generalize (most - q0) / q1 = m at *
    refine ⟨sign, hq0, by omega, by omega, by omega, by omega, fun k hk1 hk2 => ?_⟩
    have e1 : 0 ≤ k * p1 := Int.mul_nonneg hk1 hp1.1
    have e2 : k * p1 ≤ k * (121 * q1) := Int.mul_le_mul_of_nonneg_left (by omega) hk1
    have e3 : 0 ≤ k * q1 := Int.mul_nonneg hk1 (by omega)
    have e4 : k * q1 ≤ (m + 1) * q1 := Int.mul_le_mul_of_nonneg_right hk2 (by omega)
    have e5 : (m + 1) * q1 = m * q1 + q1 := by grind
    have e6 : k * (121 * q1) = 121 * (k * q1) := by grind
    omega

theorem dst_often {s : T4} {most : Int} {full pre : List (Int × Int)} {p0 q0 p1 q1 σ : Int} (hd : 1 ≤ s.d) (h01 : 0 < lg s 0 1) (hE : octT s ≤ 120) (hm : 1 ≤ most ∧ most ≤ 64)
    (h : DSt s most full p0 q0 p1 q1 σ pre) :
    ∃ c : Nat, (c : Int) ≤ dlim most q0 q1 pre ∧ onSide s p0 q0 p1 q1 σ c ∧ (c = dlim most q0 q1 pre ∨ ¬ onSide s p0 q0 p1 q1 σ (c + 1)) ∧
      ∀ k : Nat, (k : Int) ≤ dlim most q0 q1 pre → (onSide s p0 q0 p1 q1 σ k ↔ k ≤ c) := by
  have hb := (dst_bounds hd hE hm h).hlim
  have ho : 0 ≤ octT s := (oct_lg hd 0).2 (by omega)
  have key : ∃ c : Nat, (c : Int) ≤ dlim most q0 q1 pre ∧ onSide s p0 q0 p1 q1 σ c ∧ (c = dlim most q0 q1 pre ∨ ¬ onSide s p0 q0 p1 q1 σ (c + 1)) := by
    rcases h with ⟨rfl, rfl, rfl, rfl, rfl, rfl⟩ | ⟨h0, h1, h2, h3⟩
    · refine ⟨(octT s).toNat, ?_, ?_, .inr ?_⟩
      · unfold dlim; rw [if_pos rfl]; omega
      · rw [onSide_first hd]; omega
      · rw [onSide_first hd]; omega
    · obtain ⟨c, c1, c2, c3, c4⟩ := greatest_upto (onSide s p0 q0 p1 q1 σ) (onSide_down h1.s1 h1.sd (by omega)) (dlim most q0 q1 pre).toNat
      obtain ⟨n, rfl⟩ : ∃ n : Nat, c = n := ⟨c.toNat, by omega⟩
      exact ⟨n, by omega, c3, by rcases c4 with c4 | c4; exact .inl (by omega); exact .inr c4⟩
  obtain ⟨c, c1, c2, c3⟩ := key
  refine ⟨c, c1, c2, c3, fun k hk => ⟨fun h4 => ?_, fun h4 => ?_⟩⟩
  · by_cases h5 : k ≤ c
    · exact h5
    · exfalso
      rcases c3 with c3 | c3
      · omega
      · refine c3 ?_
        rcases h with ⟨rfl, rfl, rfl, rfl, rfl, rfl⟩ | ⟨h0, h1, h2, h3⟩
        · rw [onSide_first hd] at *; omega
        · exact onSide_down h1.s1 h4 (by omega)
  · rcases h with ⟨rfl, rfl, rfl, rfl, rfl, rfl⟩ | ⟨h0, h1, h2, h3⟩
    · rw [onSide_first hd] at *; omega
    · exact onSide_down h1.s1 c2 (by omega)

theorem dst_step {s : T4} {most : Int} {full pre L0 : List (Int × Int)} {p0 q0 p1 q1 σ : Int} {c : Nat} (hd : 1 ≤ s.d) (h01 : 0 < lg s 0 1) (hE : octT s ≤ 120) (hm : 1 ≤ most ∧ most ≤ 64)
    (hf : full = (octT s, 1) :: L0) (hL : Chain s most 1 0 (octT s) 1 (-1) L0) (h : DSt s most full p0 q0 p1 q1 σ pre)
    (c1 : (c : Int) ≤ dlim most q0 q1 pre) (c2 : onSide s p0 q0 p1 q1 σ c) (c3 : c = dlim most q0 q1 pre ∨ ¬ onSide s p0 q0 p1 q1 σ (c + 1)) :
    (most < q0 + c * q1 → full = pre) ∧
    (q0 + c * q1 ≤ most → (∃ L, full = pre ++ (p0 + c * p1, q0 + c * q1) :: L) ∧ (lg s (p0 + c * p1) (q0 + c * q1) = 0 → full = pre ++ [(p0 + c * p1, q0 + c * q1)]) ∧
      (lg s (p0 + c * p1) (q0 + c * q1) ≠ 0 → DSt s most full p1 q1 (p0 + c * p1) (q0 + c * q1) (-σ) (pre ++ [(p0 + c * p1, q0 + c * q1)]))) := by
  have ho : 0 ≤ octT s := (oct_lg hd 0).2 (by omega)
  rcases h with ⟨rfl, rfl, rfl, rfl, rfl, rfl⟩ | ⟨h0, h1, h2, L, h3, h4⟩
  · have e : (c : Int) = octT s := by
      rw [onSide_first hd] at c2
      rcases c3 with c3 | c3
      · unfold dlim at c3; rw [if_pos rfl] at c3; omega
      · rw [onSide_first hd] at c3; omega
    rw [e, show 0 + octT s * 1 = octT s by omega, show 1 + octT s * 0 = 1 by omega]
    refine ⟨fun h => by omega, fun h => ⟨⟨L0, hf⟩, fun h5 => ?_, fun h5 => ?_⟩⟩
    · rw [hf, chain_zero hL h5]; rfl
    · exact .inr ⟨by simp, dinv_first hd hm.1 h01, h5, L0, hL, hf⟩
  · have c4 : q0 + c * q1 ≤ most → ¬ onSide s p0 q0 p1 q1 σ (c + 1) := by
      intro h5
      rcases c3 with c3 | c3
      · exfalso
        unfold dlim at c3
        rw [if_neg h0] at c3
        have hq := h1.hq1
        have d1 := Int.lt_ediv_add_one_mul_self (most - q0) (show 0 < q1 by omega)
        rw [← c3] at d1
        omega
      · exact c3
    refine ⟨fun h5 => ?_, fun h5 => ?_⟩
    · rw [h4, chain_full h1 h3 h2 c2 h5, List.append_nil]
    · obtain ⟨l, hl, hc⟩ := chain_found h1 h3 h2 c2 (c4 h5) h5
      refine ⟨⟨l, by rw [h4, hl]⟩, fun h6 => ?_, fun h6 => ?_⟩
      · rw [h4, hl, chain_zero hc h6]
      · exact .inr ⟨by simp, (dinv_next h1 c2 (c4 h5) h5).2, h6, l, hc, by rw [h4, hl]; simp⟩

/-- the exponents of a step -/
theorem hid_step (s : T4) (p0 q0 p1 q1 σ k : Int) : (hidT s (σ * p0) (σ * q0)).add ((hidT s (-σ * p1) (-σ * q1)).mul (-k)) = hidT s (σ * (p0 + k * p1)) (σ * (q0 + k * q1)) := by
  rw [hid_mul, hid_add]
  congr 1 <;> grind

/-- how many fractions there are -/
theorem chain_length {s : T4} {most B p0 q0 p1 q1 σ : Int} {L : List (Int × Int)} (hL : Chain s most p0 q0 p1 q1 σ L) (h : DInv s most B p0 q0 p1 q1 σ) : L.length ≤ (most - q1).toNat + (if q0 = 0 then 1 else 0) := by
  induction hL with
  | zero h1 => simp
  | stop h1 h2 h3 => simp
  | step h1 h2 h3 h4 h5 ih =>
    rename_i p0 q0 p1 q1 σ c l
    obtain ⟨c1, hd⟩ := dinv_next h h2 h3 h4
    have := ih hd
    have hq0 := h.hq0
    have hq1 := h.hq1
    have m1 : q1 ≤ c * q1 := by
      have := Int.mul_le_mul_of_nonneg_right c1 (show 0 ≤ q1 by omega)
      omega
    rw [if_neg (show ¬ q1 = 0 by omega)] at this
    rw [List.length_cons]
    split <;> omega
theorem full_length {s : T4} {m : Int} {full L0 : List (Int × Int)} (hd : 1 ≤ s.d) (h01 : 0 < lg s 0 1) (hm : 1 ≤ m ∧ m ≤ 64) (hf : full = (octT s, 1) :: L0) (hL : Chain s m 1 0 (octT s) 1 (-1) L0) : full.length ≤ 66 := by
  have := chain_length hL (dinv_first hd hm.1 h01)
  rw [hf, List.length_cons]
  simp at this
  omega

end Go.Proofs
