/- The guess of a quotient's limb (Knuth, algorithm D): plain arithmetic. -/
namespace Go.Proofs

/-- The parts of the numbers that the guess looks at: P is a power of the base, u0 u1 u2 and v1 v2 the leading limbs. -/
structure Lead (P U V u0 u1 u2 v1 v2 : Nat) : Prop where
  u : P * (u2 + 4294967296 * (u0 * 4294967296 + u1)) ≤ U
  u' : U < P * (u2 + 4294967296 * (u0 * 4294967296 + u1)) + P
  v : P * (v2 + 4294967296 * v1) ≤ V
  v' : V < P * (v2 + 4294967296 * v1) + P
  lt : U < 4294967296 * V
  b0 : u0 < 4294967296
  b1 : u1 < 4294967296
  b2 : u2 < 4294967296
  c1 : v1 < 4294967296
  c2 : v2 < 4294967296
  top : 2147483648 ≤ v1

variable {P U V u0 u1 u2 v1 v2 : Nat}

theorem Lead.ppos (h : Lead P U V u0 u1 u2 v1 v2) : 0 < P := by
  have h1 := h.v; have h2 := h.v'
  omega

theorem Lead.vpos (h : Lead P U V u0 u1 u2 v1 v2) : 0 < V := by
  have h1 := h.v
  have h2 := h.ppos
  have h3 := h.top
  have : 0 < P * (v2 + 4294967296 * v1) := Nat.mul_pos h2 (by omega)
  omega

theorem Lead.first (h : Lead P U V u0 u1 u2 v1 v2) : u0 ≤ v1 := by
  rcases Nat.lt_or_ge v1 u0 with hlt | hge
  · exfalso
    have h1 := h.u; have h2 := h.v'; have h3 := h.lt; have h4 := h.c2
    have e1 : P * (4294967296 * ((v1 + 1) * 4294967296)) ≤ P * (u2 + 4294967296 * (u0 * 4294967296 + u1)) := Nat.mul_le_mul_left P (by omega)
    have e2 : P * (v2 + 4294967296 * v1) + P ≤ P * (4294967296 * (v1 + 1)) := by
      have := Nat.mul_le_mul_left P (show v2 + 4294967296 * v1 + 1 ≤ 4294967296 * (v1 + 1) by omega)
      rw [Nat.mul_add P _ 1, Nat.mul_one] at this
      exact this
    have e3 : 4294967296 * V < 4294967296 * (P * (4294967296 * (v1 + 1))) := by omega
    have e4 : 4294967296 * (P * (4294967296 * (v1 + 1))) = P * (4294967296 * ((v1 + 1) * 4294967296)) := by grind
    omega
  · exact hge

theorem Lead.quo (h : Lead P U V u0 u1 u2 v1 v2) : U / V < 4294967296 := Nat.div_lt_of_lt_mul (by rw [Nat.mul_comm]; exact h.lt)

/-- the first guess is not less than the quotient -/
theorem Lead.init (h : Lead P U V u0 u1 u2 v1 v2) : U / V ≤ (u0 * 4294967296 + u1) / v1 := by
  have hq : U / V * V ≤ U := Nat.div_mul_le_self U V
  have h2 := h.u'; have h3 := h.v; have h4 := h.b2; have h5 := h.top
  generalize U / V = q at *
  generalize u0 * 4294967296 + u1 = t at *
  refine (Nat.le_div_iff_mul_le (by omega)).2 ?_
  rcases Nat.lt_or_ge t (q * v1) with hlt | hge
  · exfalso
    have e1 : q * (P * (v2 + 4294967296 * v1)) ≤ q * V := Nat.mul_le_mul_left q h3
    have e2 : P * (4294967296 * (t + 1)) ≤ P * (4294967296 * (q * v1)) := Nat.mul_le_mul_left P (by omega)
    have e3 : q * (P * (v2 + 4294967296 * v1)) = q * P * v2 + P * (4294967296 * (q * v1)) := by grind
    have e4 : P * (u2 + 4294967296 * t) + P ≤ P * (4294967296 * (t + 1)) := by
      have := Nat.mul_le_mul_left P (show u2 + 4294967296 * t + 1 ≤ 4294967296 * (t + 1) by omega)
      rw [Nat.mul_add P _ 1, Nat.mul_one] at this
      exact this
    omega
  · exact hge

theorem Lead.init_le (h : Lead P U V u0 u1 u2 v1 v2) : (u0 * 4294967296 + u1) / v1 ≤ 4294967297 := by
  have h0 := h.first; have h1 := h.b1; have h5 := h.top
  have e : u0 * 4294967296 + u1 < v1 * 4294967298 := by omega
  have : (u0 * 4294967296 + u1) / v1 < 4294967298 := Nat.div_lt_of_lt_mul e
  omega

/-- a guess that is too great for two limbs is too great -/
theorem Lead.down (h : Lead P U V u0 u1 u2 v1 v2) {g r t : Nat} (ht : u0 * 4294967296 + u1 = t) (he : g * v1 + r = t) (hg : r * 4294967296 + u2 < g * v2) : U / V < g := by
  rcases Nat.lt_or_ge (U / V) g with hlt | hge
  · exact hlt
  · exfalso
    have hq : U / V * V ≤ U := Nat.div_mul_le_self U V
    have h1 : g * V ≤ U := Nat.le_trans (Nat.mul_le_mul_right V hge) hq
    have h2 := h.u'; have h3 := h.v
    rw [ht] at h2
    have e1 : g * (P * (v2 + 4294967296 * v1)) ≤ g * V := Nat.mul_le_mul_left g h3
    have e2 : g * (P * (v2 + 4294967296 * v1)) = P * (g * v2 + 4294967296 * (g * v1)) := by grind
    have e3 : P * (u2 + 4294967296 * t + 1) ≤ P * (g * v2 + 4294967296 * (g * v1)) := Nat.mul_le_mul_left P (by omega)
    rw [Nat.mul_add P _ 1, Nat.mul_one] at e3
    omega

/-- a guess that is right for two limbs is at most one too great -/
theorem Lead.near (h : Lead P U V u0 u1 u2 v1 v2) {g r t : Nat} (ht : u0 * 4294967296 + u1 = t) (he : g * v1 + r = t) (hg : g * v2 ≤ r * 4294967296 + u2) (hw : g ≤ 4294967296) : g ≤ U / V + 1 := by
  have h2 := h.u; have h3 := h.v'; have h3' := h.v; have h5 := h.top; have hp := h.ppos; have hv := h.vpos
  rw [ht] at h2
  have e1 : P * (g * v2 + 4294967296 * (g * v1)) ≤ P * (u2 + 4294967296 * t) := Nat.mul_le_mul_left P (by omega)
  obtain ⟨v0, hv0⟩ : ∃ v0, V = P * (v2 + 4294967296 * v1) + v0 := ⟨V - P * (v2 + 4294967296 * v1), by omega⟩
  have hv1 : v0 < P := by omega
  have e2 : g * V = P * (g * v2 + 4294967296 * (g * v1)) + g * v0 := by rw [hv0]; grind
  have e3 : g * v0 < V := by
    have a1 : g * v0 ≤ 4294967296 * v0 := Nat.mul_le_mul_right v0 hw
    have a2 : P * 4294967296 ≤ P * (v2 + 4294967296 * v1) := Nat.mul_le_mul_left P (by omega)
    omega
  rcases Nat.eq_zero_or_pos g with h0 | h0
  · rw [h0]; exact Nat.zero_le _
  · obtain ⟨k, rfl⟩ : ∃ k, g = k + 1 := ⟨g - 1, by omega⟩
    have : k ≤ U / V := (Nat.le_div_iff_mul_le hv).2 (by rw [Nat.add_mul, Nat.one_mul] at e2; omega)
    exact Nat.succ_le_succ this

/-- where the loop is left because the remainder has no room any more -/
theorem Lead.left (h : Lead P U V u0 u1 u2 v1 v2) {g r t : Nat} (ht : u0 * 4294967296 + u1 = t) (he : g * v1 + r = t) (hr : 4294967296 ≤ r) : g < 4294967296 ∧ g * v2 ≤ r * 4294967296 + u2 := by
  have h0 := h.first; have h1 := h.b1; have h2 := h.c2
  have hg : g < 4294967296 := by
    rcases Nat.lt_or_ge g 4294967296 with hlt | hge
    · exact hlt
    · exfalso
      have : 4294967296 * v1 ≤ g * v1 := Nat.mul_le_mul_right v1 hge
      omega
  refine ⟨hg, ?_⟩
  have : g * v2 ≤ 4294967296 * 4294967296 := Nat.mul_le_mul (by omega) (by omega)
  omega

/-- taking the guess's multiple away: no borrow tells that the guess is right -/
theorem sub_right {U V g D Wn : Nat} (hv : 0 < V) (h : D + g * V = U) (h1 : U / V ≤ g) : U / V = g ∧ U % V = D := by
  have hle : g ≤ U / V := (Nat.le_div_iff_mul_le hv).2 (by omega)
  have e : U / V = g := by omega
  have := Nat.div_add_mod U V
  rw [e, Nat.mul_comm] at this
  exact ⟨e, by omega⟩

/-- a borrow tells that it is one too great -/
theorem sub_wrong {U V g D Wn : Nat} (hv : 0 < V) (h : D + g * V = U + Wn) (hD : D < Wn) (h1 : g ≤ U / V + 1) : U / V + 1 = g ∧ D + V = U % V + Wn := by
  have hlt : ¬ g ≤ U / V := by
    intro hle
    have := Nat.mul_le_mul_right V hle
    have := Nat.div_mul_le_self U V
    omega
  have e : U / V + 1 = g := by omega
  have hd := Nat.div_add_mod U V
  rw [← e, Nat.add_mul, Nat.one_mul, Nat.mul_comm (U / V)] at h
  exact ⟨e, by omega⟩

end Go.Proofs
