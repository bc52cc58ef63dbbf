/- What NatLimits needs beyond the contracts: numbers of just MaxLimbs limbs and above; texts of nines; made slices of bytes. -/
import Derived.Test.YtbpkobjiinkpoaaText
import Derived.Test.YtbpkobjiinkpoaaTextLaw
import Derived.Test.YtbpkobjiinkpoaaMore
open Go.RowKit
namespace Go.Proofs
set_option linter.unusedVariables false
set_option linter.unusedSimpArgs false

theorem limbs_whole {xs : List Nat} (hl : xs.length ≤ 262144) (hz : xs.getLast? ≠ some 0) (hlt : ∀ x ∈ xs, x < 4294967296) : limbs (val xs) = xs :=
  (chk_num (by unfold chk; rw [if_neg (by omega), if_neg hz]) hlt).1
theorem top_limbs (k r : Nat) (hr : r < 32) (hk : k < 262144) : limbs (2 ^ (32 * k + r)) = List.replicate k 0 ++ [2 ^ r] := by
  have h2 : 0 < 2 ^ r := Nat.pow_pos (by omega)
  have h3 : 2 ^ r < 4294967296 := by
    have := Nat.pow_lt_pow_right (show 1 < 2 by omega) hr
    exact this
  have e : val (List.replicate k 0 ++ [2 ^ r]) = 2 ^ (32 * k + r) := by
    rw [val_snoc, val_replicate, List.length_replicate, Nat.zero_add, show (4294967296 : Nat) = 2 ^ 32 from rfl, ← Nat.pow_mul, ← Nat.pow_add]
  rw [← e]
  refine limbs_whole (by rw [List.length_append, List.length_replicate, List.length_singleton]; omega) ?_ ?_
  · rw [List.getLast?_concat]
    intro h
    have h4 := Option.some.inj h
    omega
  · intro x hx
    rcases List.mem_append.1 hx with h | h
    · rw [(List.mem_replicate.1 h).2]; omega
    · rw [List.mem_singleton.1 h]; exact h3
theorem val_full : ∀ k : Nat, val (List.replicate k 4294967295) + 1 = 4294967296 ^ k
  | 0 => rfl
  | k + 1 => by
    have h := val_full k
    rw [List.replicate_succ, val, Nat.pow_succ, ← h]
    omega
theorem full_limbs (k : Nat) (hk : k ≤ 262144) : limbs (val (List.replicate k 4294967295)) = List.replicate k 4294967295 := by
  refine limbs_whole (by rw [List.length_replicate]; exact hk) ?_ (fun x hx => by rw [(List.mem_replicate.1 hx).2]; omega)
  intro h
  have := (List.mem_replicate.1 (List.mem_of_getLast? h)).2
  omega
theorem over_full {n k : Nat} (h : val (List.replicate k 4294967295) < n) : k < (limbs n).length := by
  rcases Nat.lt_or_ge k (limbs n).length with h1 | h1
  · exact h1
  · have h2 := limbs_length_le_iff.1 h1
    have h3 := val_full k
    omega
theorem dec_nines (s : ByteArray) : ∀ k : Nat, (∀ i, i < k → byteAt s i = 57) → dec s k + 1 = 10 ^ k
  | 0, _ => rfl
  | k + 1, h => by
    have h1 := dec_nines s k (fun i hi => h i (by omega))
    rw [dec, h k (by omega), Nat.pow_succ, ← h1]
    omega
theorem lt_pow_lows : ∀ m : Nat, m < 10 ^ (lows m).length := by
  intro m
  induction m using Nat.strongRecOn with
  | _ m ih =>
    by_cases h : m = 0
    · subst h; rw [lows_zero]; decide
    · have h1 := ih (m / 10) (by omega)
      rw [lows_pos h, List.length_cons, Nat.pow_succ]
      omega
theorem lows_many {m k : Nat} (h : 10 ^ k ≤ m) : k < (lows m).length := by
  rcases Nat.lt_or_ge k (lows m).length with h1 | h1
  · exact h1
  · have h2 := lt_pow_lows m
    have h3 : 10 ^ (lows m).length ≤ 10 ^ k := Nat.pow_le_pow_right (by omega) h1
    omega
theorem CellB.mono {W W' : World} {g : Nat} {xs : List Nat} (h : CellB W g xs) (hb : Below W.heap.size W W') (hg : g < W.heap.size) : CellB W' g xs :=
  fun i hi => ⟨(hb.cell (p := ⟨g, i, none⟩) hg).trans (h i hi).1, (hb.frozen (p := ⟨g, i, none⟩) hg).trans (h i hi).2⟩
theorem cells_made8 (w : World) (n k : Nat) (e : TypeId) (hk : k = n) : CellB (w.alloc (.cells (madeCells (Value.int .u8 0).cells k) e)) w.heap.size (List.replicate n 0) := by
  subst hk
  intro j hj
  rw [List.length_replicate] at hj
  have hg : (List.replicate k 0).getD j 0 = 0 := by simp [List.getD, hj]
  rw [hg]
  unfold World.cell? World.frozen?
  simp only [heap_alloc_new]
  constructor
  · simp [madeCells, size_madeCells, Value.cells, Nat.mod_one, hj]
  · simp
theorem wpList_make_bytes {P : Program} (w : World) {ops : Array Oper} {rest : List Oper} {o : Oper} {a : Act} {Q : Exit → Act → World → Prop}
    (hg : o.guard = none) (l c : Operand) (t : TypeId) (hop : o.op = Op.makeSlice t l c)
    (e : TypeId) (h1 : P.underlying t = some (.slice e)) (h2 : (P.info? e).map (fun i => (i.zero, i.size, i.bytes)) = some (some (.int .u8 0), 1, 1))
    (kl kc : IntKind) (L C : Int) (n : Nat) (hl : a.eval l = .int kl L) (hc : a.eval c = .int kc C) (hL : L = (n : Int)) (hC : C = (n : Int)) (hn : n ≤ 1000000)
    (hK : ∀ w', CellB w' w.heap.size (List.replicate n 0) → Below w.heap.size w w' → w.heap.size < w'.heap.size → wpList P ops Q rest (a.put o.dst (.slice (some ⟨w.heap.size, 0, none⟩) n n)) w') :
    wpList P ops Q (o :: rest) a w := by
  refine wpList_plain hg fun K hK' => ?_
  obtain ⟨i, hi, z0, z1, z2⟩ := info_parts h2
  subst hL
  subst hC
  have hr := run_make (P := P) w t e i _ h1 hi z0 kl kc n n (by omega) (Int.le_refl _) (by rw [z2]; omega) (by omega)
  simp only [Int.toNat_natCast] at hr
  unfold Oper.wp
  simp [execOp, hop, hl, hc, hr, Result.andThen]
  exact hK' _ _ (hK _ (cells_made8 _ _ _ _ (by rw [z1, Nat.mul_one])) (below_alloc _ _) (by simp))

set_option maxRecDepth 100000 in
theorem add_long (v1 v2 : Value) (a b : Nat) (w : World) (h1 : Num w v1 a) (h2 : Num w v2 b) (hl : (limbs a).length ≤ 262144 ∧ (limbs b).length ≤ 262144 ∧ 262144 < (limbs (a + b)).length) :
    Calls Try.prog 23 #[v1, v2] w (Got w 0 3) := by
  have t1 : (firstErr [limbs a, limbs b] != 0) = false := by rw [bne_eq_false_iff_eq]; exact ok_two a b (by omega) (by omega)
  have k1 := h1.mono (below_alloc w (.cells #[v1, v2] 23))
  have k2 := h2.mono (below_alloc w (.cells #[v1, v2] 23))
  have hb1 := below_alloc w (.cells #[v1, v2] 23)
  have g1 := h1
  have g2 := h2
  obtain ⟨ad1, c1, rfl, s1⟩ := g1
  obtain ⟨ad2, c2, rfl, s2⟩ := g2
  go_enter Try.func23, Try.ntmps23
  go_wp2_with (go_at_call 32; refine (valid2 _ _ (limbs a) (limbs b) w h1.raw h2.raw).mono ?_; rintro e w' ⟨rfl, rfl⟩)
  refine (plus_calls _ _ a b _ k1 k2 (by omega) (by omega)).mono ?_
  rintro e w1 ⟨v, rfl, hv, hf, hb⟩
  go_wp2_with fail
  refine (short_calls v (a + b) _ _ hv hf).mono ?_
  rw [if_pos (by omega), if_pos (by omega)]
  rintro e w2 ⟨v', rfl, hv', hf', rfl⟩
  go_wp2
  go_ret2
  exact ⟨_, rfl, hv', hf'.mono hb1.size, below_trans hb1 hb⟩

set_option maxRecDepth 100000 in
set_option maxHeartbeats 1000000 in
theorem text_long (v : Value) (m : Nat) (w : World) (hv : Num w v m) (hl : (limbs m).length ≤ 2077) (hn : 20000 < (lows m).length ∧ (lows m).length ≤ 30000) :
    Calls Try.prog 22 #[v] w fun e w' => e = .returned (.tuple #[.string ⟨#[]⟩, .int .i64 3]) ∧ Below w.heap.size w w' := by
  have t1 : (firstErr [limbs m] != 0) = false := by
    rw [bne_eq_false_iff_eq]
    exact ok_one m (by omega)
  have hb0 := below_alloc w (.cells #[v] 23)
  have V := valid1 v (limbs m) w hv.raw
  replace hv := hv.mono hb0
  obtain ⟨ad, c, rfl, hs⟩ := hv
  have hv : Num _ (.slice ad (limbs m).length c) m := ⟨_, _, rfl, hs⟩
  have t2 : ¬ (2077 : Int) < ((limbs m).length : Int) := by omega
  clear hs
  go_enter Try.func22, Try.ntmps22
  go_wp2_with fail
  refine V.mono ?_
  rintro e w' ⟨rfl, rfl⟩
  clear V
  go_wp2
  generalize w.alloc (.cells #[.slice ad (limbs m).length c] 23) = w0 at *
  go_loopw [5, 6] (fun bv rv wr => ∃ (pre : List Nat) (r : Nat), Num wr rv r ∧ OwnB w.heap.size wr bv pre ∧ lows m = pre ++ lows r ∧ (limbs r).length ≤ 2077 ∧ Below w.heap.size w wr)
    (fun _ rv wr => numOf wr rv)
  case atStart => exact ⟨[], m, hv, OwnB.nil _ _, rfl, hl, hb0⟩
  case round =>
    obtain ⟨pre, r, hr, hown, hD, hlr, hbel⟩ := hrel
    have HD := Lib.hid hD
    clear hD
    have hr0 := hr
    obtain ⟨ad1, c1, rfl, hs⟩ := hr0
    by_cases h0 : r = 0
    · have t3 : ¬ 0 < (limbs r).length := by rw [h0, limbs_zero]; simp
      have hz : lows m = pre := by rw [HD.out, h0, lows_zero, List.append_nil]
      have HZ := Lib.hid hz
      have hlen : 20000 < pre.length ∧ pre.length ≤ 30000 := by rw [← hz]; exact hn
      clear hz h0 hs hr hlr
      have hp0 : pre ≠ [] := fun h => by rw [h] at hlen; exact absurd hlen.1 (by decide)
      rcases hown.open with ⟨_, h1⟩ | ⟨g, cap, rfl, hg1, hg2, hcap, hcells⟩
      · exact absurd h1 hp0
      obtain ⟨n, en⟩ : ∃ n, pre.length = n := ⟨_, rfl⟩
      rw [en] at hlen hcap ⊢
      clear hp0 hown HD HZ en hcells
      have k1 : (20000 : Int) < (n : Int) := by omega
      go_wp2
      go_ret2
      exact ⟨rfl, hbel⟩
    · have t3 : 0 < (limbs r).length := by
        by_cases h : (limbs r).length = 0
        · exact absurd (limbs_eq_nil.mp (List.eq_nil_of_length_eq_zero h)) h0
        · omega
      have hdm := Nat.div_add_mod r 1000000000
      have hmod := Nat.mod_lt r (show 0 < 1000000000 by omega)
      have hlq := limbs_length_mono (Nat.div_le_self r 1000000000)
      have hlt : r / 1000000000 < r := Nat.div_lt_self (by omega) (by omega)
      have hDr : lows m = pre ++ lows (r / 1000000000 * 10 ^ 9 + r % 1000000000) := by
        rw [HD.out]
        congr 2
        have e9 : (10 : Nat) ^ 9 = 1000000000 := by decide
        rw [e9]; omega
      have hnr := numOf_eq hr
      have Hnr := Lib.hid hnr
      have Hr := Lib.hid (show r ≠ 0 from h0)
      clear hnr
      have HDr := Lib.hid hDr
      have Hlt := Lib.hid hlt
      have Hmod := Lib.hid hmod
      clear hdm hmod hDr hlt h0 hs
      go_wp2_with fail
      refine (byWord_calls _ r 1000000000 _ wr hr rfl (by omega) (by omega) (by omega)).mono ?_
      rintro e w1 ⟨vq, rfl, hq, hfq, hb⟩
      have hcl := Clear.fresh hfq (fun k hk => (hown.block k hk).2)
      replace hown := hown.mono hb
      replace hr := hr.mono hb
      replace hbel := below_trans hbel hb
      have hq0 := hq
      obtain ⟨ad2, c2, rfl, hs2⟩ := hq0
      clear hs2 hb
      go_wp2_with fail
      go_loopw [5, 8, 9] (fun bv rv iv wi => ∃ (ds : List Nat) (x i : Nat), i ≤ 9 ∧ iv = .int .i64 i ∧ rv = .int .u32 (x : Int) ∧ x < 10 ^ (9 - i) ∧ OwnB w.heap.size wi bv ds ∧ lows m = ds ++ lows (r / 1000000000 * 10 ^ (9 - i) + x) ∧
          Num wi (.slice ad2 (limbs (r / 1000000000)).length c2) (r / 1000000000) ∧ Clear bv.ownBlock (.slice ad2 (limbs (r / 1000000000)).length c2) ∧ Below w.heap.size w wi)
        (fun _ _ iv _ => 9 - (intOf iv).toNat)
      case atStart => exact ⟨pre, r % 1000000000, 0, by omega, rfl, rfl, Hmod.out, hown, HDr.out, hq, hcl, hbel⟩
      case round =>
        obtain ⟨ds, x, i, hi, rfl, rfl, hx, hown2, hD2, hq2, hcl2, hbel2⟩ := hrel
        have HD2 := Lib.hid hD2
        have Hx := Lib.hid hx
        clear hD2 hx hq hown hr hbel hcl hfq
        obtain ⟨q, eq⟩ : ∃ q, r / 1000000000 = q := ⟨_, rfl⟩
        rw [eq] at HD2 hq2 hcl2 hlq Hlt ⊢
        have Eq := Lib.hid eq
        clear eq
        by_cases hi9 : i = 9
        · subst hi9
          have hx0 : x = 0 := by have := Hx.out; simpa using this
          have hfin : lows m = ds ++ lows q := by rw [HD2.out, hx0]; simp
          have Hfin := Lib.hid hfin
          have k1 : ¬ ((9 : Nat) : Int) < 9 := by omega
          clear hfin hx0
          go_wp2
          go_roundw
          case rel => exact ⟨ds, q, hq2, hown2, Hfin.out, by omega, hbel2⟩
          case measure => rw [numOf_eq hq2, Hnr.out]; exact Hlt.out
        · have k1 : (i : Int) < 9 := by omega
          by_cases hz : q * 10 ^ (9 - i) + x = 0
          · have hx0 : x = 0 := by omega
            have hq0 : q = 0 := by
              have h1 : q * 10 ^ (9 - i) = 0 := by omega
              rcases Nat.mul_eq_zero.1 h1 with h | h
              · exact h
              · have := Nat.pow_pos (n := 9 - i) (show 0 < 10 by omega); omega
            have hfin : lows m = ds ++ lows q := by rw [HD2.out, hz, hq0]
            have Hfin := Lib.hid hfin
            have k2 : ¬ 0 < (limbs q).length := by rw [hq0, limbs_zero]; simp
            have k3 : ¬ (0 : Int) < (x : Int) := by omega
            clear hfin hz hx0 hq0
            go_wp2
            go_roundw
            case rel => exact ⟨ds, q, hq2, hown2, Hfin.out, by omega, hbel2⟩
            case measure => rw [numOf_eq hq2, Hnr.out]; exact Hlt.out
          · have hstep := lows_step q (8 - i) x (by rw [show 8 - i + 1 = 9 - i by omega]; exact hz)
            rw [show 8 - i + 1 = 9 - i by omega] at hstep
            have hnew : lows m = (ds ++ [x % 10 + 48]) ++ lows (q * 10 ^ (8 - i) + x / 10) := by rw [HD2.out, hstep, List.append_assoc]; rfl
            have hx10 : x / 10 < 10 ^ (8 - i) := by
              have h1 := Hx.out
              rw [show 9 - i = 8 - i + 1 by omega, Nat.pow_succ] at h1
              omega
            have hx32 : x < 4294967296 := by
              have h1 := Hx.out
              have h2 : 10 ^ (9 - i) ≤ 10 ^ 9 := Nat.pow_le_pow_right (by omega) (by omega)
              have h3 : (10 : Nat) ^ 9 = 1000000000 := by decide
              omega
            have hdl : ds.length ≤ 30000 := by
              have h1 := congrArg List.length HD2.out
              rw [List.length_append] at h1
              omega
            have Hx10 := Lib.hid hx10
            have ways : 0 < (limbs q).length ∨ (¬ 0 < (limbs q).length ∧ (0 : Int) < (x : Int)) := by
              by_cases h : q = 0
              · refine .inr ⟨by rw [h, limbs_zero]; simp, ?_⟩
                rw [h, Nat.zero_mul] at hz
                omega
              · refine .inl ?_
                by_cases h2 : (limbs q).length = 0
                · exact absurd (limbs_eq_nil.mp (List.eq_nil_of_length_eq_zero h2)) h
                · omega
            obtain ⟨b, eb⟩ : ∃ b, x % 10 + 48 = b := ⟨_, rfl⟩
            have hwrap : IntKind.u8.wrap (48 + (x : Int) % 10) = (b : Int) := by rw [IntKind.wrap_u8]; omega
            rw [eb] at hnew
            have Hnew := Lib.hid hnew
            have hb8 := below_alloc wr (.cells #[Value.int .u8 (b : Int)] 5)
            have hown3 := hown2.mono hb8
            have hbel3 := below_trans hbel2 hb8
            have hcell : (wr.alloc (.cells #[Value.int .u8 (b : Int)] 5)).cell? ⟨wr.heap.size, 0, none⟩ = some (.int .u8 (b : Int)) := cells_one wr (.int .u8 (b : Int)) 5 0 (by omega)
            have hqf := hq2.mono hb8
            clear hstep hnew hx10 hz eb
            rcases ways with k2 | ⟨k2, k3⟩
            all_goals
              go_wp2_with (at_builtin; refine wpList_append_byte rfl (.tmp 43) (.tmp 48) _ rfl Try.underlying46 info8 w.heap.size _ ds rfl hown3 hbel3.size wr.heap.size b rfl hcell (by omega) ?_; intro v3 w3 hown4 hb3 hgb hat)
              have hcl4 := Clear.next hqf hcl2 hat
              have hq4 := hqf.grownBy hgb hcl2
              go_roundw
              case rel => exact ⟨ds ++ [b], x / 10, i + 1, by omega, by go_num, by go_num, by rw [show 9 - (i + 1) = 8 - i by omega]; exact Hx10.out, hown4, by rw [show 9 - (i + 1) = 8 - i by omega]; exact Hnew.out, hq4, hcl4, hbel3.trans hb3⟩
              case measure => simp [intOf]; omega

end Go.Proofs
