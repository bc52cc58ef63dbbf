/- The law's helpers: cut copies at most n limbs; is is true of a result that is the wanted one; lives is true. -/
import Derived.Test.YtbpkobjiinkpoaaRCheck
import Derived.Test.YtbpkobjiinkpoaaNatD
open Go.RowKit
namespace Go.Proofs
set_option linter.unusedVariables false
set_option linter.unusedSimpArgs false

/-- a new slice of limbs, perhaps malformed -/
def RetRaw (w : World) (xs : List Nat) (e : Ending) (w' : World) : Prop :=
  ∃ v, e = .returned v ∧ Raw w' v xs ∧ Fresh w.heap.size v ∧ Below w.heap.size w w'

/-- what came in: a slice of limbs, of which only the elements are known -/
def In (w : World) (v : Value) (xs : List Nat) : Prop := ∃ ad c, v = .slice ad xs.length c ∧ Rd w ad c xs

theorem Raw.toIn {w v xs} (h : Raw w v xs) : In w v xs := by
  obtain ⟨ad, c, rfl, hs⟩ := h
  exact ⟨ad, c, rfl, hs.rd⟩

theorem lt_cell {w : World} {a : Addr} {v : Value} (h : w.cell? a = some v) : a.block < w.heap.size := by
  by_cases hb : a.block < w.heap.size
  · exact hb
  · have e : w.heap[a.block]? = none := by simp; omega
    simp [World.cell?, e] at h

theorem In.mono {w w' v xs} (h : In w v xs) (hb : Below w.heap.size w w') : In w' v xs := by
  obtain ⟨ad, c, rfl, h1, h2, h3, h4⟩ := h
  refine ⟨ad, c, rfl, h1, h2, h3, ?_⟩
  rcases h4 with h4 | ⟨x, rfl, hc⟩
  · exact .inl h4
  · refine .inr ⟨x, rfl, fun i hi => ?_⟩
    have h5 := hc i hi
    exact (hb.cell (p := x.add i) (lt_cell h5)).trans h5

theorem in_of_row {w : World} {a : Option Addr} {len cap : Nat} {zs : List Int}
    (h : (a = none ∧ len = 0 ∧ cap = 0 ∧ zs = []) ∨
      ∃ x, a = some x ∧ len ≤ cap ∧ cap ≤ maxLen ∧ zs.length = cap ∧ (∀ i, i < zs.length → w.cell? (x.add i) = some (.int .u32 (zs.getD i 0))) ∧ ∀ n ∈ zs, (Lit.int .u32 n).wf = true) :
    ∃ xs, In w (.slice a len cap) xs := by
  rcases h with ⟨rfl, rfl, rfl, rfl⟩ | ⟨x, rfl, hl, hm, hz, hc, hw⟩
  · exact ⟨[], none, 0, rfl, Nat.le_refl _, Nat.zero_le _, (by intro x hx; cases hx), .inl ⟨rfl, rfl⟩⟩
  · have hb : ∀ n ∈ zs, 0 ≤ n ∧ n < 4294967296 := by
      intro n hn
      have h := hw n hn
      simp [Lit.wf, IntKind.min, IntKind.max, IntKind.signed, IntKind.bits] at h
      omega
    have hlen : ((zs.take len).map Int.toNat).length = len := by simp; omega
    refine ⟨(zs.take len).map Int.toNat, some x, cap, by rw [hlen], by rw [hlen]; exact hl, hm, ?_, .inr ⟨x, rfl, ?_⟩⟩
    · intro y hy
      obtain ⟨n, hn, rfl⟩ := List.mem_map.1 hy
      have := hb n (List.mem_of_mem_take hn)
      omega
    · intro i hi
      rw [hlen] at hi
      have hi2 : i < zs.length := by omega
      rw [hc i hi2]
      have hbi := hb zs[i] (List.getElem_mem hi2)
      have e : ((zs.take len).map Int.toNat).getD i 0 = zs[i].toNat := by
        simp [List.getD, hi, hi2]
      rw [e]
      have e2 : zs.getD i 0 = zs[i] := by simp [List.getD, hi2]
      rw [e2, Int.toNat_of_nonneg hbi.1]

theorem i64_wf {n : Int} (h : (Lit.int .i64 n).wf = true) : -9223372036854775808 ≤ n ∧ n < 9223372036854775808 := by
  simp [Lit.wf, IntKind.min, IntKind.max, IntKind.signed, IntKind.bits] at h
  omega
theorem u64_wf {n : Int} (h : (Lit.int .u64 n).wf = true) : 0 ≤ n ∧ n < 18446744073709551616 := by
  simp [Lit.wf, IntKind.min, IntKind.max, IntKind.signed, IntKind.bits] at h
  omega
theorem u32_wf {n : Int} (h : (Lit.int .u32 n).wf = true) : 0 ≤ n ∧ n < 4294967296 := by
  simp [Lit.wf, IntKind.min, IntKind.max, IntKind.signed, IntKind.bits] at h
  omega

theorem cut_calls (v : Value) (xs : List Nat) (n : Nat) (z : Int) (w : World) (hv : In w v xs) (hz : z = (n : Int)) (hn : n ≤ 1000000) :
    Calls Try.prog 7 #[v, .int .i64 z] w (RetRaw w (xs.take n)) := by
  subst hz
  obtain ⟨ad, c, rfl, hs⟩ := hv
  have hc := hs.1
  have hcm := hs.2.1
  unfold maxLen at hcm
  have hmade := own_made w
  have hb0 := below_alloc w (.cells #[] 24)
  by_cases hl : n < xs.length
  · obtain ⟨h1, h2, h3, h4⟩ := hs
    rcases h4 with ⟨_, h5⟩ | ⟨x, rfl, hcell⟩
    · omega
    obtain ⟨b, o, rfl⟩ : ∃ b o, x = ⟨b, o, none⟩ := by
      have h5 := hcell 0 (by omega)
      obtain ⟨b, o, spot⟩ := x
      have h6 : spot = none := by simpa [Addr.add] using World.cell?_spot h5
      subst h6
      exact ⟨b, o, rfl⟩
    have hlen : (xs.take n).length = n := by rw [List.length_take, Nat.min_eq_left (by omega)]
    have ht : Rd (w.alloc (.cells #[] 24)) (some ⟨b, o, none⟩) c (xs.take n) := by
      refine ⟨by rw [hlen]; omega, h2, fun x hx => h3 x (List.mem_of_mem_take hx), .inr ⟨_, rfl, fun i hi => ?_⟩⟩
      rw [hlen] at hi
      have h5 := hcell i (by omega)
      rw [hb0.cell (p := (Addr.mk b o none).add i) (lt_cell h5), h5]
      simp [List.getD, hi]
    go_enter Try.func7, Try.ntmps7
    go_wp2_with (at_builtin; refine wpList_append_rd rfl (.tmp 12) (.tmp 13) _ rfl Try.underlying23 info32 w.heap.size _ _ rfl hmade hb0.size _ _ _ _ rfl hlen.symm ht (by rw [hlen]; simp; omega) ?_; intro v3 w3 hown3 hb3)
    go_ret
    obtain ⟨ad', c', rfl, hs', hf⟩ := hown3.sl
    rw [List.nil_append] at hs' ⊢
    exact ⟨_, rfl, ⟨_, _, rfl, hs'⟩, fresh_of hf, hb0.trans hb3⟩
  · have ht : Rd (w.alloc (.cells #[] 24)) ad c xs := by
      obtain ⟨ad', c', e, h⟩ := In.mono (v := .slice ad xs.length c) ⟨ad, c, rfl, hs⟩ hb0
      cases e
      exact h
    have e : xs.take n = xs := List.take_of_length_le (by omega)
    rw [e]
    clear e
    go_enter Try.func7, Try.ntmps7
    go_wp2_with (at_builtin; refine wpList_append_rd rfl (.tmp 12) (.tmp 13) _ rfl Try.underlying23 info32 w.heap.size _ _ rfl hmade hb0.size _ _ _ _ rfl rfl ht (by simp; omega) ?_; intro v3 w3 hown3 hb3)
    go_ret
    obtain ⟨ad', c', rfl, hs', hf⟩ := hown3.sl
    rw [List.nil_append] at hs' ⊢
    exact ⟨_, rfl, ⟨_, _, rfl, hs'⟩, fresh_of hf, hb0.trans hb3⟩

/-- the law's verdict is true, and nothing that was there is changed -/
def RetTrue (w : World) (e : Ending) (w' : World) : Prop := e = .returned (.bool true) ∧ Below w.heap.size w w'

theorem is_num (v1 v2 : Value) (n : Nat) (w : World) (h1 : Num w v1 n) (h2 : Num w v2 n) :
    Calls Try.prog 20 #[v1, .int .i64 0, v2, .int .i64 0] w (RetTrue w) := by
  go_enter Try.func20, Try.ntmps20
  go_wp2_with fail
  refine (same_calls v1 v2 (limbs n) _ h1.raw h2.raw).mono ?_
  rintro e w' ⟨rfl, hb⟩
  go_wp2
  go_ret
  exact ⟨rfl, hb⟩

theorem is_err (v1 v2 : Value) (er : Int) (w : World) (h1 : Num w v1 0) (he : er ≠ 0) :
    Calls Try.prog 20 #[v1, .int .i64 er, v2, .int .i64 er] w (RetTrue w) := by
  obtain ⟨ad, c, rfl, hs⟩ := h1
  have t1 : (er != 0) = true := by rw [bne_iff_ne]; exact he
  clear he
  rw [limbs_zero]
  go_enter Try.func20, Try.ntmps20
  go_wp2
  go_ret
  exact ⟨rfl, Below.refl _ _⟩

theorem limbs_small {x : Nat} (h0 : x ≠ 0) (h : x < 4294967296) : limbs x = [x] := by
  rw [limbs_pos h0, Nat.mod_eq_of_lt h, Nat.div_eq_of_lt h, limbs_zero]

theorem num_small (w : World) (e x : Nat) (z : Int) (hz : z = (x : Int)) (h0 : x ≠ 0) (h : x < 4294967296) : Num (w.alloc (.cells #[Value.int .u32 z] e)) (.slice (some ⟨w.heap.size, 0, none⟩) 1 1) x := by
  have := sl_one w x z hz h e
  refine ⟨_, 1, by rw [limbs_small h0 h]; rfl, ?_⟩
  rw [limbs_small h0 h]
  exact this

theorem limbs_lives : limbs (4294967295 * 4294967295) = [1, 4294967294] := by
  rw [limbs_pos (by decide), limbs_pos (by decide)]
  rw [show 4294967295 * 4294967295 / 4294967296 / 4294967296 = 0 by decide, limbs_zero]

theorem size_alloc (w : World) (o : Obj) : (w.alloc o).heap.size = w.heap.size + 1 := by simp [World.alloc_eq]

theorem limbs_prod : limbs 18446744065119617025 = [1, 4294967294] := by
  rw [limbs_pos (by decide), limbs_pos (by decide)]
  rw [show 18446744065119617025 / 4294967296 / 4294967296 = 0 by decide, limbs_zero]

set_option maxRecDepth 100000 in
theorem lives_calls (w : World) : Calls Try.prog 12 #[] w (RetTrue w) := by
  have n1 := num_small w 24 4294967295 4294967295 rfl (by decide) (by decide)
  have b1 := below_alloc w (.cells #[Value.int .u32 4294967295] 24)
  have n2 := num_small (w.alloc (.cells #[Value.int .u32 4294967295] 24)) 24 4294967295 4294967295 rfl (by decide) (by decide)
  have b2 := below_alloc (w.alloc (.cells #[Value.int .u32 4294967295] 24)) (.cells #[Value.int .u32 4294967295] 24)
  have k1 := n1.mono b2
  have b12 := below_trans b1 b2
  rw [size_alloc] at n2
  have hl1 : (limbs 4294967295).length = 1 := by rw [limbs_small (by decide) (by decide)]; rfl
  have hl27 : (limbs 27).length = 1 := by rw [limbs_small (by decide) (by decide)]; rfl
  go_enter Try.func12, Try.ntmps12
  go_wp2_with fail
  refine (mul_ok _ _ 4294967295 4294967295 _ k1 n2 (by rw [hl1]; decide)).mono ?_
  rintro e w3 ⟨vp, rfl, hp, _, b3⟩
  rw [show 4294967295 * 4294967295 = 18446744065119617025 by decide] at hp
  have b13 := below_trans b12 b3
  clear n1 n2 k1 b1 b2 b12 b3
  go_wp2_with fail
  refine (of_calls 27 27 _ rfl (by decide)).mono ?_
  rintro e w4 ⟨va, rfl, ha, _, b4⟩
  have hp4 := hp.mono b4
  go_wp2_with fail
  refine (root_ok _ 27 3 3 3 _ ha rfl (by decide) (by decide) (by rw [hl27]; decide) ⟨by decide, by decide⟩).mono ?_
  rintro e w5 ⟨vr, rfl, hr, _, b5⟩
  have hp5 := hp4.mono b5
  have b15 := below_trans (below_trans b13 b4) b5
  clear hp hp4 ha b4 b5 b13
  have s1 := (row_two w5 1 4294967294 24 (by decide) (by decide)).whole (by simp [maxLen])
  have b6 := below_alloc w5 (.cells #[Value.int .u32 1, Value.int .u32 4294967294] 24)
  have hp6 := (hp5.mono b6).raw
  have hr6 := hr.mono b6
  rw [limbs_prod] at hp6
  go_wp2_with fail
  refine (same_calls _ _ [1, 4294967294] _ hp6 ⟨_, _, rfl, s1⟩).mono ?_
  rintro e w7 ⟨rfl, b7⟩
  have hr7 := hr6.mono b7
  have b17 := below_trans b15 (below_trans b6 b7)
  clear b6 b7 hp6 s1 b15 hr6 hp5 hr
  have s2 := num_small w7 24 3 3 rfl (by decide) (by decide)
  have b8 := below_alloc w7 (.cells #[Value.int .u32 3] 24)
  have hr8 := hr7.mono b8
  go_wp2_with fail
  refine (same_calls _ _ (limbs 3) _ hr8.raw s2.raw).mono ?_
  rintro e w9 ⟨rfl, b9⟩
  go_wp2
  go_ret
  exact ⟨rfl, below_trans b17 (below_trans b8 b9)⟩

end Go.Proofs
