/- the reference: Digits. -/
import Derived.Test.YtbpkobjiinkpoaaDigits
import Derived.Test.YtbpkobjiinkpoaaRefA
import Derived.Test.YtbpkobjiinkpoaaApp
open Go.RowKit
namespace Go.Proofs
set_option linter.unusedVariables false
set_option linter.unusedSimpArgs false

/-- append: one limb, to what the call made -/
theorem wpList_append_lim {P : Program} {w : World} {ops : Array Oper} {rest : List Oper} {o : Oper} {a : Act} {Q : Exit → Act → World → Prop} (hgd : o.guard = none) (s x : Operand) (t : TypeId)
    (ho : o.op = .call { callee := .builtin .append, args := #[s, x], argTypes := #[t, t] })
    (ht : P.underlying t = some (.slice 24)) (h2 : (P.info? 24).map (fun i => (i.zero, i.size, i.bytes)) = some (some (.int .u32 0), 1, 4))
    (B : Nat) (v : Value) (xs : List Nat) (hv : a.eval s = v) (hown : Own B w v xs) (hB : B ≤ w.heap.size)
    (g c d : Nat) (hx : a.eval x = .slice (some ⟨g, 0, none⟩) 1 c) (hs : Sl w (some ⟨g, 0, none⟩) c [d]) (hl : xs.length + 1 ≤ 1099511627776)
    (h : ∀ v' w', Own B w' v' (xs ++ [d]) → Below B w w' → w.grownBy w' v.ownBlock → (v'.ownBlock = v.ownBlock ∨ v'.ownBlock = some w.heap.size) → wpList P ops Q rest (a.put o.dst v') w') : wpList P ops Q (o :: rest) a w := by
  obtain ⟨i, hi, z0, z1, z2⟩ := info_parts h2
  have hd := hs.lt 0
  simp only [List.getD_cons_zero] at hd
  obtain ⟨b, o', e, _, hc, _⟩ := hs.open (i := 0) (by simp)
  injection e with e
  injection e with e1 e2 e3
  subst e1 e2
  simp only [List.getD_cons_zero, Nat.add_zero] at hc
  refine wpList_append_at hgd s _ t ho B 24 i (.int .u32 0) 4 ht hi z0 z1 z2 rfl v xs.length (lims xs) hv hown.1
    ⟨g, 0, none⟩ 1 c [.int .u32 (d : Int)] hx (by simp) (fun j u hj => ?_) (fun u hu => ?_) (by unfold maxLen; omega) (by omega) hB ?_
  · have hj0 : j = 0 := by
      have := (List.getElem?_eq_some_iff.1 hj).1
      simpa using this
    subst hj0
    simp at hj
    subst hj
    exact hc
  · simp at hu
    subst hu
    rfl
  · intro v' w' hown' hgrow hat
    have e : lims xs ++ [.int .u32 (d : Int)] = lims (xs ++ [d]) := by simp [lims]
    rw [e] at hown'
    refine h v' w' ⟨?_, ?_⟩ ((Below.refl _ _).grown hgrow hB ?_) hgrow hat
    · show World.ownsRow _ _ _ _ _ _ _
      rw [List.length_append]
      exact hown'
    · intro y hy
      rcases List.mem_append.1 hy with hy | hy
      · exact hown.2 y hy
      · rw [List.mem_singleton.1 hy]; exact hd
    · intro k hk
      exact (hown.block k hk).1

set_option maxRecDepth 100000 in
theorem rdigits_calls (v : Value) (m d : Nat) (w : World) (hv : Num w v m) (hd : 2 ≤ d) (hd2 : d < 4294967296) (hl : (limbs m).length ≤ 1000) :
    Calls Try.prog 9 #[v, .int .u32 (d : Int)] w fun e w' => ∃ v', e = .returned v' ∧ Raw w' v' (dign d m) ∧ Fresh w.heap.size v' ∧ Below w.heap.size w w' := by
  have hroom := digs_room d m 1000 hl
  have hown0 := own_made w
  have hb0 := below_alloc w (.cells #[] 24)
  have hv0 := hv.mono hb0
  go_enter Try.func9, Try.ntmps9
  go_wp2
  go_loopw [0, 5] (fun xv ov wr => ∃ (r : Nat) (pre : List Nat), Num wr xv r ∧ Own w.heap.size wr ov pre ∧ dign d m = pre ++ dign d r ∧ (limbs r).length ≤ 1000 ∧ Below w.heap.size w wr)
    (fun xv _ wr => numOf wr xv)
  case atStart => exact ⟨m, [], hv0, hown0, rfl, hl, hb0⟩
  case round =>
    obtain ⟨r, pre, hr, hown, hD, hlr, hbel⟩ := hrel
    have HD := Lib.hid hD
    clear hD
    have hr0 := hr
    obtain ⟨ad, c, rfl, hs⟩ := hr0
    by_cases h0 : r = 0
    · have t1 : ¬ 0 < (limbs r).length := by rw [h0, limbs_zero]; simp
      have hz : dign d m = pre := by rw [HD.out, h0]; simp [dign, digs_zero]
      have HZ := Lib.hid hz
      obtain ⟨ad2, c2, rfl, hs2, hf2⟩ := hown.sl
      clear hz h0 hs
      go_wp2
      go_ret
      exact ⟨_, rfl, by rw [HZ.out]; exact ⟨_, _, rfl, hs2⟩, fresh_of hf2, hbel⟩
    · have t1 : 0 < (limbs r).length := by
        by_cases h : (limbs r).length = 0
        · exact absurd (limbs_eq_nil.mp (List.eq_nil_of_length_eq_zero h)) h0
        · omega
      have hDn : dign d m = (pre ++ [r % d]) ++ dign d (r / d) := by rw [HD.out]; simp [dign, digs_pos h0 hd]
      have hlen : pre.length ≤ 32000 := by
        have h1 := congrArg List.length hDn
        simp only [dign, List.length_append, List.length_map] at h1
        omega
      have HDn := Lib.hid hDn
      have hmea : r / d < r := Nat.div_lt_self (by omega) (by omega)
      have Hmea := Lib.hid hmea
      have hlq := limbs_length_mono (Nat.div_le_self r d)
      have hmod := Nat.mod_lt r (show 0 < d by omega)
      have hpos : 0 < d := by omega
      clear hDn hmea hs
      go_wp2_with fail
      refine (rover_calls _ r d _ wr hr rfl hpos hd2 (by omega)).mono ?_
      rintro e w1 ⟨vq, rfl, hq, hf, hb⟩
      have hown1 := hown.mono hb
      have hown2 := hown1.mono (below_alloc w1 (.cells #[Value.int .u32 ((r % d : Nat) : Int)] 24))
      have hsl2 := sl_one w1 (r % d) _ rfl (by omega) 24
      have hbel1 := below_trans hbel hb
      have hbel2 := below_trans hbel1 (below_alloc w1 (.cells #[Value.int .u32 ((r % d : Nat) : Int)] 24))
      rw [Int.natCast_emod] at hown2 hsl2 hbel2
      have hcl := Clear.fresh hf (fun k hk => (hown.block k hk).2)
      have hq2 := hq.mono (below_alloc w1 (.cells #[Value.int .u32 ((r % d : Nat) : Int)] 24))
      rw [Int.natCast_emod] at hq2
      have HCL := Lib.hid hcl
      have HQ2 := Lib.hid hq2
      clear hcl hq2
      go_wp2_with (at_builtin; refine wpList_append_lim rfl (.tmp 18) (.tmp 20) _ rfl Try.underlying22 info32 w.heap.size _ _ rfl hown2 hbel2.size _ 1 _ rfl hsl2 (by omega) ?_; intro v3 w3 hown3 hb3 hg3 _)
      have hq3 := HQ2.out.grownBy hg3 HCL.out
      go_roundw
      case rel => exact ⟨r / d, pre ++ [r % d], hq3, hown3, HDn.out, by omega, hbel2.trans hb3⟩
      case measure => rw [numOf_eq hq3, numOf_eq hr]; exact Hmea.out

end Go.Proofs
