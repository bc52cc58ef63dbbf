/- The walk of NatOwn: whatever comes in, it returns true and changes nothing that was there. -/
import Derived.Test.YtbpkobjiinkpoaaBank
import Derived.Deep.RegionHeld3
open Go.RowKit
namespace Go.Proofs
set_option linter.unusedVariables false
set_option linter.unusedSimpArgs false

theorem and_three (z : Int) (z0 : -9223372036854775808 ≤ z) (z1 : z < 9223372036854775808) : ∃ k : Nat, k < 4 ∧ bits BinOp.and IntKind.i64 z 3 = (k : Int) := by
  refine ⟨(BitVec.ofInt 64 z).toNat &&& 3, Nat.lt_of_le_of_lt Nat.and_le_right (by omega), ?_⟩
  have hlt : (BitVec.ofInt 64 z).toNat &&& 3 < 4 := Nat.lt_of_le_of_lt Nat.and_le_right (by omega)
  have e : (BitVec.ofInt 64 z &&& BitVec.ofInt 64 3).toNat = (BitVec.ofInt 64 z).toNat &&& 3 := by
    rw [BitVec.toNat_and]
    rfl
  show IntKind.i64.wrap ((BitVec.ofInt 64 z &&& BitVec.ofInt 64 3).toNat : Int) = _
  rw [e, IntKind.wrap_i64]
  omega
def dI : Value × List Nat := (.slice none 0 0, [])
theorem bank_cells {lo n c : Nat} {W : World} {ad : Option Addr} {L : List (Value × List Nat)} (h : Bank lo W (.slice ad n c) L) (hn : L.length = n) (h0 : 0 < n) :
    ∃ b, ad = some ⟨b, 0, none⟩ ∧ lo ≤ b ∧ b < W.heap.size ∧ n ≤ c ∧ c ≤ maxLen ∧ ∀ i, i < n → W.cell? ⟨b, i, none⟩ = some (L.getD i dI).1 := by
  obtain ⟨hl, h1⟩ := h.own
  rcases h1 with ⟨e, h2⟩ | ⟨g, cap, cur, e, hg, hh, hnc, hm, hs, ht⟩
  · omega
  · cases e
    refine ⟨g, rfl, hg, (Array.getElem?_eq_some_iff.1 hh).1, by omega, hm, fun i hi => ?_⟩
    have h3 : (L.map (·.1))[i]? = some (L.getD i dI).1 := by
      rw [List.getElem?_map, List.getElem?_eq_getElem (by omega)]
      simp [List.getD, List.getElem?_eq_getElem (show i < L.length by omega)]
    rw [← ht, List.getElem?_take] at h3
    split at h3
    · simp only [World.cell?, hh]
      simpa using h3
    · cases h3
theorem bank_at {lo : Nat} {W : World} {row : Value} {L : List (Value × List Nat)} (h : Bank lo W row L) {i : Nat} (hi : i < L.length) :
    Raw W (L.getD i dI).1 (L.getD i dI).2 ∧ Fresh lo (L.getD i dI).1 ∧ Disj row (L.getD i dI).1 := by
  have hm : L.getD i dI ∈ L := by
    simp only [List.getD, List.getElem?_eq_getElem hi, Option.getD_some]
    exact List.getElem_mem hi
  exact ⟨h.raw _ hm, h.fresh _ hm, h.off _ hm⟩
theorem bank_pair {lo : Nat} {W : World} {row : Value} {L : List (Value × List Nat)} (h : Bank lo W row L) {i j : Nat} (hi : i < L.length) (hj : j < L.length) (hne : i ≠ j) : Disj (L.getD i dI).1 (L.getD j dI).1 := by
  have h1 := List.pairwise_iff_getElem.1 h.pair
  simp only [List.getD, List.getElem?_eq_getElem hi, List.getElem?_eq_getElem hj, Option.getD_some]
  rcases Nat.lt_or_ge i j with h2 | h2
  · exact h1 i j hi hj h2
  · exact (h1 j i hj hi (by omega)).symm
theorem getD_snd {L K : List (Value × List Nat)} (h : K.map (·.2) = L.map (·.2)) (j : Nat) : (K.getD j dI).2 = (L.getD j dI).2 := by
  have e : ∀ M : List (Value × List Nat), (M.getD j dI).2 = (M.map (·.2)).getD j [] := by
    intro M
    simp only [List.getD, List.getElem?_map]
    cases M[j]? <;> rfl
  rw [e, e, h]
/-- what the rounds over the results keep: those behind number i read as before, and so do all copies -/
structure St (w4 : World) (br bk : Nat) (L K : List (Value × List Nat)) (i : Nat) (W : World) : Prop where
  bel : Below w4.heap.size w4 W
  raws : ∀ j, i ≤ j → j < 10 → Raw W (L.getD j dI).1 (L.getD j dI).2
  rawk : ∀ j, j < 10 → Raw W (K.getD j dI).1 (L.getD j dI).2
  cellr : ∀ j, j < 10 → W.cell? ⟨br, j, none⟩ = some (L.getD j dI).1
  cellk : ∀ j, j < 10 → W.cell? ⟨bk, j, none⟩ = some (K.getD j dI).1
structure Stat (w4 : World) (br bk : Nat) (L K : List (Value × List Nat)) : Prop where
  fresh : ∀ j, j < 10 → Fresh w4.heap.size (L.getD j dI).1
  pair : ∀ i j, i < 10 → j < 10 → i ≠ j → Disj (L.getD i dI).1 (L.getD j dI).1
  copy : ∀ i j, i < 10 → j < 10 → Disj (L.getD i dI).1 (K.getD j dI).1
  offr : ∀ j, j < 10 → (L.getD j dI).1.ownBlock ≠ some br
  offk : ∀ j, j < 10 → (L.getD j dI).1.ownBlock ≠ some bk
theorem St.next {w4 : World} {br bk : Nat} {L K : List (Value × List Nat)} {i : Nat} {W : World} (h : St w4 br bk L K i W) : St w4 br bk L K (i + 1) W :=
  ⟨h.bel, fun j h1 h2 => h.raws j (by omega) h2, h.rawk, h.cellr, h.cellk⟩
theorem St.mono {w4 : World} {br bk : Nat} {L K : List (Value × List Nat)} {i : Nat} {W W' : World} (h : St w4 br bk L K i W) (hb : Below W.heap.size W W') : St w4 br bk L K i W' :=
  ⟨h.bel.trans (hb.mono h.bel.size), fun j h1 h2 => (h.raws j h1 h2).mono hb, fun j h1 => (h.rawk j h1).mono hb, fun j h1 => (hb.cell (cell_ltV (h.cellr j h1))).trans (h.cellr j h1), fun j h1 => (hb.cell (cell_ltV (h.cellk j h1))).trans (h.cellk j h1)⟩
theorem St.drew {w4 : World} {br bk : Nat} {L K : List (Value × List Nat)} {i : Nat} {W : World} (h : St w4 br bk L K i W) : St w4 br bk L K i W.drew :=
  ⟨h.bel.drew, h.raws, h.rawk, h.cellr, h.cellk⟩
theorem raw_set {W : World} {v : Value} {xs : List Nat} (h : Raw W v xs) (p : Addr) (hne : v.ownBlock ≠ some p.block) (u : Value) : Raw (W.setCell p u) v xs :=
  h.kept (by simp [World.setCell]) fun b hb => Below.heap_setCell _ _ _ _ (fun e => hne (by rw [hb, e]))
theorem St.set {w4 : World} {br bk : Nat} {L K : List (Value × List Nat)} {i : Nat} {W : World} (h : St w4 br bk L K (i + 1) W) (s : Stat w4 br bk L K) (hi : i < 10) (p : Addr) (hp : (L.getD i dI).1.ownBlock = some p.block) (u : Value) :
    St w4 br bk L K (i + 1) (W.setCell p u) := by
  have hlo := (s.fresh i hi).le _ hp
  refine ⟨h.bel.setCell hlo u, fun j h1 h2 => raw_set (h.raws j h1 h2) p (s.pair i j hi h2 (by omega) _ hp) u, fun j h1 => raw_set (h.rawk j h1) p (s.copy i j hi h1 _ hp) u, fun j h1 => ?_, fun j h1 => ?_⟩
  · rw [World.cell?_setCell_far _ _ _ _ (fun e => s.offr i hi (by rw [hp, e]))]
    exact h.cellr j h1
  · rw [World.cell?_setCell_far _ _ _ _ (fun e => s.offk i hi (by rw [hp, e]))]
    exact h.cellk j h1
theorem stat_of {w4 w6 : World} {lo2 c c2 br bk : Nat} {L K : List (Value × List Nat)} (hL : Bank w4.heap.size w6 (.slice (some ⟨br, 0, none⟩) 10 c) L) (hl : L.length = 10) (hK : Bank lo2 w6 (.slice (some ⟨bk, 0, none⟩) 10 c2) K) (hk : K.length = 10)
    (hlo : ∀ j, j < 10 → ∀ b, (L.getD j dI).1.ownBlock = some b → b < lo2) (hbk : lo2 ≤ bk) : Stat w4 br bk L K :=
  ⟨fun j hj => (bank_at hL (by omega)).2.1, fun i j hi hj hne => bank_pair hL (by omega) (by omega) hne,
    fun i j hi hj b hb he => by have h1 := hlo i hi b hb; have h2 := ((bank_at hK (i := j) (by omega)).2.1).le b he; omega,
    fun j hj => (bank_at hL (i := j) (by omega)).2.2 br rfl, fun j hj e => by have := hlo j hj bk e; omega⟩

set_option maxRecDepth 100000 in
set_option maxHeartbeats 4000000 in
theorem walk_own (v1 v2 : Value) (xs ys : List Nat) (n : Int) (w : World) (hx : In w v1 xs) (hy : In w v2 ys) (hn : -9223372036854775808 ≤ n ∧ n < 9223372036854775808) :
    Calls Try.prog 6 #[v1, v2, .int .i64 n] w (RetTrue w) := by
  obtain ⟨k, hk, ek⟩ := and_three n hn.1 hn.2
  have hxl := whole_calls v1 xs 20 20 w hx rfl (by omega)
  have HY := Lib.hid (fun (W : World) (hb : Below w.heap.size w W) => whole_calls v2 ys 20 20 W (hy.mono hb) rfl (by omega))
  have lenof : ∀ zs : List Nat, (∃ W v, In W v zs) → (limbs (val (zs.take 20))).length ≤ 20 := by
    rintro zs ⟨W, v, ad, c, rfl, hs⟩
    exact Nat.le_trans (limbs_length_val _ (fun x hx => hs.2.2.1 x (List.mem_of_mem_take hx))) (by rw [List.length_take]; omega)
  obtain ⟨ma, hma⟩ : ∃ m, val (xs.take 20) = m := ⟨_, rfl⟩
  obtain ⟨mb, hmb⟩ : ∃ m, val (ys.take 20) = m := ⟨_, rfl⟩
  have la : (limbs ma).length ≤ 20 := by rw [← hma]; exact lenof xs ⟨w, v1, hx⟩
  have lb : (limbs mb).length ≤ 20 := by rw [← hmb]; exact lenof ys ⟨w, v2, hy⟩
  rw [hma] at hxl
  rw [hmb] at HY
  have HX := Lib.hid hxl
  clear hxl lenof hma hmb
  obtain ⟨adx, cx, rfl, -⟩ := hx
  obtain ⟨ady, cy, rfl, -⟩ := hy
  obtain ⟨nx, hnx⟩ : ∃ n, xs.length = n := ⟨_, rfl⟩
  obtain ⟨ny, hny⟩ : ∃ n, ys.length = n := ⟨_, rfl⟩
  rw [hnx] at HX ⊢
  rw [hny] at HY ⊢
  clear hnx hny hn
  go_enter Try.func6, Try.ntmps6
  go_wp2_with fail
  refine HX.out.mono ?_
  rintro e w1 ⟨va, rfl, ha, fa, b1⟩
  go_wp2_with fail
  refine (HY.out _ b1).mono ?_
  rintro e w2 ⟨vb, rfl, hb, fb, b2⟩
  replace ha := ha.mono b2
  have B := below_trans b1 b2
  clear b1 b2 fa fb HX HY
  obtain ⟨ada, ca, rfl, sa⟩ := ha
  obtain ⟨adb, cb, rfl, sb⟩ := hb
  have HNA := Lib.hid (show Num w2 (.slice ada (limbs ma).length ca) ma from ⟨_, _, rfl, sa⟩)
  have HNB := Lib.hid (show Num w2 (.slice adb (limbs mb).length cb) mb from ⟨_, _, rfl, sb⟩)
  clear sa sb
  obtain ⟨xa, hxa⟩ : ∃ l, limbs ma = l := ⟨_, rfl⟩
  obtain ⟨xb, hxb⟩ : ∃ l, limbs mb = l := ⟨_, rfl⟩
  obtain ⟨na, hna⟩ : ∃ n, xa.length = n := ⟨_, rfl⟩
  obtain ⟨nb, hnb⟩ : ∃ n, xb.length = n := ⟨_, rfl⟩
  have HRA := Lib.hid (show Raw w2 (.slice ada na ca) xa by have := HNA.out.raw; rw [hxa, hna] at this; exact this)
  have HRB := Lib.hid (show Raw w2 (.slice adb nb cb) xb by have := HNB.out.raw; rw [hxb, hnb] at this; exact this)
  rw [hxa, hna] at HNA ⊢
  rw [hxb, hnb] at HNB ⊢
  have lxa : na ≤ 20 := by rw [← hna, ← hxa]; exact la
  have lxb : nb ≤ 20 := by rw [← hnb, ← hxb]; exact lb
  have RDA : ∀ W, Below w2.heap.size w2 W → Rd W ada ca xa ∧ xa.length = na := fun W hW => by
    obtain ⟨ad', c', e, s⟩ := HRA.out.mono hW
    cases e
    exact ⟨s.rd, hna⟩
  have RDB : ∀ W, Below w2.heap.size w2 W → Rd W adb cb xb ∧ xb.length = nb := fun W hW => by
    obtain ⟨ad', c', e, s⟩ := HRB.out.mono hW
    cases e
    exact ⟨s.rd, hnb⟩
  have HDA := Lib.hid RDA
  have HDB := Lib.hid RDB
  have HA20 := Lib.hid la
  have HB20 := Lib.hid lb
  clear RDA RDB hxa hxb hna hnb la lb
  have bz := below_alloc w2 (.cells #[] 24)
  go_wp2_with (first
    | (at_builtin; refine wpList_append_rd rfl (.tmp 40) (.tmp 41) _ rfl Try.underlying23 info32 w2.heap.size _ _ rfl (own_made w2) bz.size _ _ _ _ rfl (HDA.out _ bz).2.symm (HDA.out _ bz).1 (by rw [(HDA.out _ bz).2]; simp; omega) ?_; intro vc w3 hc3 b3; have bz2 := bz.trans b3; obtain ⟨adc, cc, rfl, sc, fc⟩ := hc3.sl; have HRC := Lib.hid (show Raw w3 (.slice adc ([] ++ xa).length cc) xa from ⟨adc, cc, rfl, sc⟩); rw [List.nil_append, (HDA.out _ bz).2] at HRC ⊢; have bz3 := bz2.trans ((below_alloc w3 (.cells #[] 24)).mono bz2.size); clear sc fc hc3 b3)
    | (at_builtin; refine wpList_append_rd rfl (.tmp 43) (.tmp 44) _ rfl Try.underlying23 info32 w3.heap.size _ _ rfl (own_made w3) (below_alloc w3 (.cells #[] 24)).size _ _ _ _ rfl (HDB.out _ bz3).2.symm (HDB.out _ bz3).1 (by rw [(HDB.out _ bz3).2]; simp; omega) ?_; intro vd w4 hd4 b4; have bz4 := (below_alloc w3 (.cells #[] 24)).trans b4; obtain ⟨add, cd, rfl, sd, fd⟩ := hd4.sl; have HRD := Lib.hid (show Raw w4 (.slice add ([] ++ xb).length cd) xb from ⟨add, cd, rfl, sd⟩); rw [List.nil_append, (HDB.out _ bz3).2] at HRD ⊢; clear sd fd hd4 b4))
  have bel4 := bz2.trans (bz4.mono bz2.size)
  have HRC4 := Lib.hid (HRC.out.mono bz4)
  have HRA4 := Lib.hid (HRA.out.mono bel4)
  have HRB4 := Lib.hid (HRB.out.mono bel4)
  clear bz bz2 bz3 bz4 HRC HDA HDB
  have HB0 := Lib.hid (bank_nil w4)
  have bel0 := below_alloc w4 (.cells #[] 22)
  have na4 := HNA.out.mono bel4
  have nb4 := HNB.out.mono bel4
  have HNA4 := Lib.hid na4
  have HNB4 := Lib.hid nb4
  have B4 := below_trans B bel4
  have hL0 : ([] : List (Value × List Nat)).length = 0 := rfl
  clear HNA HNB na4 nb4 B
  generalize w4.alloc (.cells #[] 22) = y0 at *
  obtain ⟨L0, hL0e⟩ : ∃ L : List (Value × List Nat), [] = L := ⟨_, rfl⟩
  rw [hL0e] at hL0 HB0
  clear hL0e
  go_wp2_with fail
  refine (some_add _ _ ma mb _ (HNA4.out.mono bel0) (HNB4.out.mono bel0) HA20.out HB20.out).mono ?_
  rintro e u0 ⟨v, er, zs, rfl, hz, hv, hf, bb⟩
  obtain ⟨adv, cv, rfl, sv⟩ := hv
  have HV := Lib.hid (show Raw u0 (.slice adv zs.length cv) zs from ⟨_, _, rfl, sv⟩)
  obtain ⟨lv, hlv⟩ : ∃ n, zs.length = n := ⟨_, rfl⟩
  rw [hlv] at HV hf ⊢
  have HZ := Lib.hid hz
  clear sv hlv hz
  have HOW := Lib.hid (show y0.ownsRow w4.heap.size 22 1 (.slice (some ⟨w4.heap.size, 0, none⟩) 0 0) 0 (L0.map (·.1)) by have := HB0.out.own; rw [hL0] at this; exact this)
  have belu := bel0.trans (bb.mono bel0.size)
  have hsz := belu.size
  go_wp2_with (at_builtin; refine wpList_append_rv rfl (.tmp 55) (.tmp 57) _ rfl w4.heap.size 22 _ 1 24 Try.underlying50 info_su rfl (by decide) _ 0 _ rfl (ownsRow_mono HOW.out (below_trans bb (below_alloc u0 (.cells #[.slice adv lv cv] 22)))) _ 1 1 [.slice adv lv cv] rfl (Vals.rdN (Vals.newL u0 u0.heap.size [.slice adv lv cv] 22 rfl) 1 rfl (by unfold maxLen; omega)) (by intro u hu; simp only [List.mem_cons, List.not_mem_nil, or_false] at hu; first | (subst hu; rfl) | (rcases hu with rfl | rfl <;> rfl)) (by unfold maxLen; omega) (by omega) (by rw [World.size_alloc]; omega) 1 rfl _ rfl ?_; intro adr1 cr1 y1 hown hg hn3 hb3 hk3)
  have bel1 := (belu.trans ((below_alloc u0 (.cells #[.slice adv lv cv] 22)).mono belu.size)).trans hb3
  obtain ⟨L1, hLe⟩ : ∃ L, L0 ++ [(.slice adv lv cv, zs)] = L := ⟨_, rfl⟩
  have hL1 : L1.length = 1 := by rw [← hLe, List.length_append, hL0]; rfl
  have HB1 := Lib.hid (show Bank w4.heap.size y1 _ L1 by rw [← hLe]; exact HB0.out.push1 bb bel0.size HV.out HZ.out hf (by rw [hL0]; exact hown) hg hk3)
  clear hLe HB0 hL0 bel0 bb hown hg hn3 hb3 hk3 HOW belu hsz HV HZ hf 
  go_wp2_with fail
  refine (some_sub _ _ ma mb _ (HNA4.out.mono bel1) (HNB4.out.mono bel1) HA20.out HB20.out).mono ?_
  rintro e u1 ⟨v, er, zs, rfl, hz, hv, hf, bb⟩
  obtain ⟨adv, cv, rfl, sv⟩ := hv
  have HV := Lib.hid (show Raw u1 (.slice adv zs.length cv) zs from ⟨_, _, rfl, sv⟩)
  obtain ⟨lv, hlv⟩ : ∃ n, zs.length = n := ⟨_, rfl⟩
  rw [hlv] at HV hf ⊢
  have HZ := Lib.hid hz
  clear sv hlv hz
  have HOW := Lib.hid (show y1.ownsRow w4.heap.size 22 1 (.slice adr1 1 cr1) 1 (L1.map (·.1)) by have := HB1.out.own; rw [hL1] at this; exact this)
  have belu := bel1.trans (bb.mono bel1.size)
  have hsz := belu.size
  go_wp2_with (at_builtin; refine wpList_append_rv rfl (.tmp 65) (.tmp 67) _ rfl w4.heap.size 22 _ 1 24 Try.underlying50 info_su rfl (by decide) _ 1 _ rfl (ownsRow_mono HOW.out (below_trans bb (below_alloc u1 (.cells #[.slice adv lv cv] 22)))) _ 1 1 [.slice adv lv cv] rfl (Vals.rdN (Vals.newL u1 u1.heap.size [.slice adv lv cv] 22 rfl) 1 rfl (by unfold maxLen; omega)) (by intro u hu; simp only [List.mem_cons, List.not_mem_nil, or_false] at hu; first | (subst hu; rfl) | (rcases hu with rfl | rfl <;> rfl)) (by unfold maxLen; omega) (by omega) (by rw [World.size_alloc]; omega) 2 rfl _ rfl ?_; intro adr2 cr2 y2 hown hg hn3 hb3 hk3)
  have bel2 := (belu.trans ((below_alloc u1 (.cells #[.slice adv lv cv] 22)).mono belu.size)).trans hb3
  obtain ⟨L2, hLe⟩ : ∃ L, L1 ++ [(.slice adv lv cv, zs)] = L := ⟨_, rfl⟩
  have hL2 : L2.length = 2 := by rw [← hLe, List.length_append, hL1]; rfl
  have HB2 := Lib.hid (show Bank w4.heap.size y2 _ L2 by rw [← hLe]; exact HB1.out.push1 bb bel1.size HV.out HZ.out hf (by rw [hL1]; exact hown) hg hk3)
  clear hLe HB1 hL1 bel1 bb hown hg hn3 hb3 hk3 HOW belu hsz HV HZ hf 
  go_wp2_with fail
  refine (some_mul _ _ ma mb _ (HNA4.out.mono bel2) (HNB4.out.mono bel2) HA20.out HB20.out).mono ?_
  rintro e u2 ⟨v, er, zs, rfl, hz, hv, hf, bb⟩
  obtain ⟨adv, cv, rfl, sv⟩ := hv
  have HV := Lib.hid (show Raw u2 (.slice adv zs.length cv) zs from ⟨_, _, rfl, sv⟩)
  obtain ⟨lv, hlv⟩ : ∃ n, zs.length = n := ⟨_, rfl⟩
  rw [hlv] at HV hf ⊢
  have HZ := Lib.hid hz
  clear sv hlv hz
  have HOW := Lib.hid (show y2.ownsRow w4.heap.size 22 1 (.slice adr2 2 cr2) 2 (L2.map (·.1)) by have := HB2.out.own; rw [hL2] at this; exact this)
  have belu := bel2.trans (bb.mono bel2.size)
  have hsz := belu.size
  go_wp2_with (at_builtin; refine wpList_append_rv rfl (.tmp 75) (.tmp 77) _ rfl w4.heap.size 22 _ 1 24 Try.underlying50 info_su rfl (by decide) _ 2 _ rfl (ownsRow_mono HOW.out (below_trans bb (below_alloc u2 (.cells #[.slice adv lv cv] 22)))) _ 1 1 [.slice adv lv cv] rfl (Vals.rdN (Vals.newL u2 u2.heap.size [.slice adv lv cv] 22 rfl) 1 rfl (by unfold maxLen; omega)) (by intro u hu; simp only [List.mem_cons, List.not_mem_nil, or_false] at hu; first | (subst hu; rfl) | (rcases hu with rfl | rfl <;> rfl)) (by unfold maxLen; omega) (by omega) (by rw [World.size_alloc]; omega) 3 rfl _ rfl ?_; intro adr3 cr3 y3 hown hg hn3 hb3 hk3)
  have bel3 := (belu.trans ((below_alloc u2 (.cells #[.slice adv lv cv] 22)).mono belu.size)).trans hb3
  obtain ⟨L3, hLe⟩ : ∃ L, L2 ++ [(.slice adv lv cv, zs)] = L := ⟨_, rfl⟩
  have hL3 : L3.length = 3 := by rw [← hLe, List.length_append, hL2]; rfl
  have HB3 := Lib.hid (show Bank w4.heap.size y3 _ L3 by rw [← hLe]; exact HB2.out.push1 bb bel2.size HV.out HZ.out hf (by rw [hL2]; exact hown) hg hk3)
  clear hLe HB2 hL2 bel2 bb hown hg hn3 hb3 hk3 HOW belu hsz HV HZ hf 
  go_wp2_with fail
  refine (some_divmod _ _ ma mb _ (HNA4.out.mono bel3) (HNB4.out.mono bel3) HA20.out HB20.out).mono ?_
  rintro e u3 ⟨v, v2, er, zs, zs2, rfl, hz, hz2, hv, hv2, hf, hf2, hsep, bb⟩
  obtain ⟨adv, cv, rfl, sv⟩ := hv
  have HV := Lib.hid (show Raw u3 (.slice adv zs.length cv) zs from ⟨_, _, rfl, sv⟩)
  obtain ⟨lv, hlv⟩ : ∃ n, zs.length = n := ⟨_, rfl⟩
  rw [hlv] at HV hf hsep ⊢
  have HZ := Lib.hid hz
  clear sv hlv hz
  obtain ⟨adv2, cv2, rfl, sv⟩ := hv2
  have HV2 := Lib.hid (show Raw u3 (.slice adv2 zs2.length cv2) zs2 from ⟨_, _, rfl, sv⟩)
  obtain ⟨lv2, hlv⟩ : ∃ n, zs2.length = n := ⟨_, rfl⟩
  rw [hlv] at HV2 hf2 hsep ⊢
  have HZ2 := Lib.hid hz2
  clear sv hlv hz2
  have HOW := Lib.hid (show y3.ownsRow w4.heap.size 22 1 (.slice adr3 3 cr3) 3 (L3.map (·.1)) by have := HB3.out.own; rw [hL3] at this; exact this)
  have belu := bel3.trans (bb.mono bel3.size)
  have hsz := belu.size
  go_wp2_with (at_builtin; refine wpList_append_rv rfl (.tmp 86) (.tmp 89) _ rfl w4.heap.size 22 _ 1 24 Try.underlying50 info_su rfl (by decide) _ 3 _ rfl (ownsRow_mono HOW.out (below_trans bb (below_alloc u3 (.cells #[.slice adv lv cv, .slice adv2 lv2 cv2] 22)))) _ 2 2 [.slice adv lv cv, .slice adv2 lv2 cv2] rfl (Vals.rdN (Vals.newL u3 u3.heap.size [.slice adv lv cv, .slice adv2 lv2 cv2] 22 rfl) 2 rfl (by unfold maxLen; omega)) (by intro u hu; simp only [List.mem_cons, List.not_mem_nil, or_false] at hu; first | (subst hu; rfl) | (rcases hu with rfl | rfl <;> rfl)) (by unfold maxLen; omega) (by omega) (by rw [World.size_alloc]; omega) 5 rfl _ rfl ?_; intro adr5 cr5 y5 hown hg hn3 hb3 hk3)
  have bel5 := (belu.trans ((below_alloc u3 (.cells #[.slice adv lv cv, .slice adv2 lv2 cv2] 22)).mono belu.size)).trans hb3
  obtain ⟨L5, hLe⟩ : ∃ L, L3 ++ [(.slice adv lv cv, zs), (.slice adv2 lv2 cv2, zs2)] = L := ⟨_, rfl⟩
  have hL5 : L5.length = 5 := by rw [← hLe, List.length_append, hL3]; rfl
  have HB5 := Lib.hid (show Bank w4.heap.size y5 _ L5 by rw [← hLe]; exact HB3.out.push2 bb bel3.size HV.out HV2.out HZ.out HZ2.out hf hf2 hsep (by rw [hL3]; exact hown) hg hk3)
  clear hLe HB3 hL3 bel3 bb hown hg hn3 hb3 hk3 HOW belu hsz HV HZ hf HV2 HZ2 hf2 hsep
  go_wp2_with fail
  refine (some_shift _ ma k _ _ (HNA4.out.mono bel5) HA20.out (by omega) (by omega)).mono ?_
  rintro e u5 ⟨v, er, zs, rfl, hz, hv, hf, bb⟩
  obtain ⟨adv, cv, rfl, sv⟩ := hv
  have HV := Lib.hid (show Raw u5 (.slice adv zs.length cv) zs from ⟨_, _, rfl, sv⟩)
  obtain ⟨lv, hlv⟩ : ∃ n, zs.length = n := ⟨_, rfl⟩
  rw [hlv] at HV hf ⊢
  have HZ := Lib.hid hz
  clear sv hlv hz
  have HOW := Lib.hid (show y5.ownsRow w4.heap.size 22 1 (.slice adr5 5 cr5) 5 (L5.map (·.1)) by have := HB5.out.own; rw [hL5] at this; exact this)
  have belu := bel5.trans (bb.mono bel5.size)
  have hsz := belu.size
  go_wp2_with (at_builtin; refine wpList_append_rv rfl (.tmp 98) (.tmp 100) _ rfl w4.heap.size 22 _ 1 24 Try.underlying50 info_su rfl (by decide) _ 5 _ rfl (ownsRow_mono HOW.out (below_trans bb (below_alloc u5 (.cells #[.slice adv lv cv] 22)))) _ 1 1 [.slice adv lv cv] rfl (Vals.rdN (Vals.newL u5 u5.heap.size [.slice adv lv cv] 22 rfl) 1 rfl (by unfold maxLen; omega)) (by intro u hu; simp only [List.mem_cons, List.not_mem_nil, or_false] at hu; first | (subst hu; rfl) | (rcases hu with rfl | rfl <;> rfl)) (by unfold maxLen; omega) (by omega) (by rw [World.size_alloc]; omega) 6 rfl _ rfl ?_; intro adr6 cr6 y6 hown hg hn3 hb3 hk3)
  have bel6 := (belu.trans ((below_alloc u5 (.cells #[.slice adv lv cv] 22)).mono belu.size)).trans hb3
  obtain ⟨L6, hLe⟩ : ∃ L, L5 ++ [(.slice adv lv cv, zs)] = L := ⟨_, rfl⟩
  have hL6 : L6.length = 6 := by rw [← hLe, List.length_append, hL5]; rfl
  have HB6 := Lib.hid (show Bank w4.heap.size y6 _ L6 by rw [← hLe]; exact HB5.out.push1 bb bel5.size HV.out HZ.out hf (by rw [hL5]; exact hown) hg hk3)
  clear hLe HB5 hL5 bel5 bb hown hg hn3 hb3 hk3 HOW belu hsz HV HZ hf 
  go_wp2_with fail
  refine (some_pow _ ma k _ _ (HNA4.out.mono bel6) HA20.out (by omega) (by omega)).mono ?_
  rintro e u6 ⟨v, er, zs, rfl, hz, hv, hf, bb⟩
  obtain ⟨adv, cv, rfl, sv⟩ := hv
  have HV := Lib.hid (show Raw u6 (.slice adv zs.length cv) zs from ⟨_, _, rfl, sv⟩)
  obtain ⟨lv, hlv⟩ : ∃ n, zs.length = n := ⟨_, rfl⟩
  rw [hlv] at HV hf ⊢
  have HZ := Lib.hid hz
  clear sv hlv hz
  have HOW := Lib.hid (show y6.ownsRow w4.heap.size 22 1 (.slice adr6 6 cr6) 6 (L6.map (·.1)) by have := HB6.out.own; rw [hL6] at this; exact this)
  have belu := bel6.trans (bb.mono bel6.size)
  have hsz := belu.size
  go_wp2_with (at_builtin; refine wpList_append_rv rfl (.tmp 108) (.tmp 110) _ rfl w4.heap.size 22 _ 1 24 Try.underlying50 info_su rfl (by decide) _ 6 _ rfl (ownsRow_mono HOW.out (below_trans bb (below_alloc u6 (.cells #[.slice adv lv cv] 22)))) _ 1 1 [.slice adv lv cv] rfl (Vals.rdN (Vals.newL u6 u6.heap.size [.slice adv lv cv] 22 rfl) 1 rfl (by unfold maxLen; omega)) (by intro u hu; simp only [List.mem_cons, List.not_mem_nil, or_false] at hu; first | (subst hu; rfl) | (rcases hu with rfl | rfl <;> rfl)) (by unfold maxLen; omega) (by omega) (by rw [World.size_alloc]; omega) 7 rfl _ rfl ?_; intro adr7 cr7 y7 hown hg hn3 hb3 hk3)
  have bel7 := (belu.trans ((below_alloc u6 (.cells #[.slice adv lv cv] 22)).mono belu.size)).trans hb3
  obtain ⟨L7, hLe⟩ : ∃ L, L6 ++ [(.slice adv lv cv, zs)] = L := ⟨_, rfl⟩
  have hL7 : L7.length = 7 := by rw [← hLe, List.length_append, hL6]; rfl
  have HB7 := Lib.hid (show Bank w4.heap.size y7 _ L7 by rw [← hLe]; exact HB6.out.push1 bb bel6.size HV.out HZ.out hf (by rw [hL6]; exact hown) hg hk3)
  clear hLe HB6 hL6 bel6 bb hown hg hn3 hb3 hk3 HOW belu hsz HV HZ hf 
  go_wp2_with fail
  refine (some_gcd _ _ ma mb _ (HNA4.out.mono bel7) (HNB4.out.mono bel7) HA20.out HB20.out).mono ?_
  rintro e u7 ⟨v, er, zs, rfl, hz, hv, hf, bb⟩
  obtain ⟨adv, cv, rfl, sv⟩ := hv
  have HV := Lib.hid (show Raw u7 (.slice adv zs.length cv) zs from ⟨_, _, rfl, sv⟩)
  obtain ⟨lv, hlv⟩ : ∃ n, zs.length = n := ⟨_, rfl⟩
  rw [hlv] at HV hf ⊢
  have HZ := Lib.hid hz
  clear sv hlv hz
  have HOW := Lib.hid (show y7.ownsRow w4.heap.size 22 1 (.slice adr7 7 cr7) 7 (L7.map (·.1)) by have := HB7.out.own; rw [hL7] at this; exact this)
  have belu := bel7.trans (bb.mono bel7.size)
  have hsz := belu.size
  go_wp2_with (at_builtin; refine wpList_append_rv rfl (.tmp 118) (.tmp 120) _ rfl w4.heap.size 22 _ 1 24 Try.underlying50 info_su rfl (by decide) _ 7 _ rfl (ownsRow_mono HOW.out (below_trans bb (below_alloc u7 (.cells #[.slice adv lv cv] 22)))) _ 1 1 [.slice adv lv cv] rfl (Vals.rdN (Vals.newL u7 u7.heap.size [.slice adv lv cv] 22 rfl) 1 rfl (by unfold maxLen; omega)) (by intro u hu; simp only [List.mem_cons, List.not_mem_nil, or_false] at hu; first | (subst hu; rfl) | (rcases hu with rfl | rfl <;> rfl)) (by unfold maxLen; omega) (by omega) (by rw [World.size_alloc]; omega) 8 rfl _ rfl ?_; intro adr8 cr8 y8 hown hg hn3 hb3 hk3)
  have bel8 := (belu.trans ((below_alloc u7 (.cells #[.slice adv lv cv] 22)).mono belu.size)).trans hb3
  obtain ⟨L8, hLe⟩ : ∃ L, L7 ++ [(.slice adv lv cv, zs)] = L := ⟨_, rfl⟩
  have hL8 : L8.length = 8 := by rw [← hLe, List.length_append, hL7]; rfl
  have HB8 := Lib.hid (show Bank w4.heap.size y8 _ L8 by rw [← hLe]; exact HB7.out.push1 bb bel7.size HV.out HZ.out hf (by rw [hL7]; exact hown) hg hk3)
  clear hLe HB7 hL7 bel7 bb hown hg hn3 hb3 hk3 HOW belu hsz HV HZ hf 
  go_wp2_with fail
  refine (some_lcm _ _ ma mb _ (HNA4.out.mono bel8) (HNB4.out.mono bel8) HA20.out HB20.out).mono ?_
  rintro e u8 ⟨v, er, zs, rfl, hz, hv, hf, bb⟩
  obtain ⟨adv, cv, rfl, sv⟩ := hv
  have HV := Lib.hid (show Raw u8 (.slice adv zs.length cv) zs from ⟨_, _, rfl, sv⟩)
  obtain ⟨lv, hlv⟩ : ∃ n, zs.length = n := ⟨_, rfl⟩
  rw [hlv] at HV hf ⊢
  have HZ := Lib.hid hz
  clear sv hlv hz
  have HOW := Lib.hid (show y8.ownsRow w4.heap.size 22 1 (.slice adr8 8 cr8) 8 (L8.map (·.1)) by have := HB8.out.own; rw [hL8] at this; exact this)
  have belu := bel8.trans (bb.mono bel8.size)
  have hsz := belu.size
  go_wp2_with (at_builtin; refine wpList_append_rv rfl (.tmp 128) (.tmp 130) _ rfl w4.heap.size 22 _ 1 24 Try.underlying50 info_su rfl (by decide) _ 8 _ rfl (ownsRow_mono HOW.out (below_trans bb (below_alloc u8 (.cells #[.slice adv lv cv] 22)))) _ 1 1 [.slice adv lv cv] rfl (Vals.rdN (Vals.newL u8 u8.heap.size [.slice adv lv cv] 22 rfl) 1 rfl (by unfold maxLen; omega)) (by intro u hu; simp only [List.mem_cons, List.not_mem_nil, or_false] at hu; first | (subst hu; rfl) | (rcases hu with rfl | rfl <;> rfl)) (by unfold maxLen; omega) (by omega) (by rw [World.size_alloc]; omega) 9 rfl _ rfl ?_; intro adr9 cr9 y9 hown hg hn3 hb3 hk3)
  have bel9 := (belu.trans ((below_alloc u8 (.cells #[.slice adv lv cv] 22)).mono belu.size)).trans hb3
  obtain ⟨L9, hLe⟩ : ∃ L, L8 ++ [(.slice adv lv cv, zs)] = L := ⟨_, rfl⟩
  have hL9 : L9.length = 9 := by rw [← hLe, List.length_append, hL8]; rfl
  have HB9 := Lib.hid (show Bank w4.heap.size y9 _ L9 by rw [← hLe]; exact HB8.out.push1 bb bel8.size HV.out HZ.out hf (by rw [hL8]; exact hown) hg hk3)
  clear hLe HB8 hL8 bel8 bb hown hg hn3 hb3 hk3 HOW belu hsz HV HZ hf 
  go_wp2_with fail
  refine (some_root _ ma k _ _ (HNA4.out.mono bel9) HA20.out (by omega) (by omega)).mono ?_
  rintro e u9 ⟨v, er, zs, rfl, hz, hv, hf, bb⟩
  obtain ⟨adv, cv, rfl, sv⟩ := hv
  have HV := Lib.hid (show Raw u9 (.slice adv zs.length cv) zs from ⟨_, _, rfl, sv⟩)
  obtain ⟨lv, hlv⟩ : ∃ n, zs.length = n := ⟨_, rfl⟩
  rw [hlv] at HV hf ⊢
  have HZ := Lib.hid hz
  clear sv hlv hz
  have HOW := Lib.hid (show y9.ownsRow w4.heap.size 22 1 (.slice adr9 9 cr9) 9 (L9.map (·.1)) by have := HB9.out.own; rw [hL9] at this; exact this)
  have belu := bel9.trans (bb.mono bel9.size)
  have hsz := belu.size
  go_wp2_with (at_builtin; refine wpList_append_rv rfl (.tmp 139) (.tmp 141) _ rfl w4.heap.size 22 _ 1 24 Try.underlying50 info_su rfl (by decide) _ 9 _ rfl (ownsRow_mono HOW.out (below_trans bb (below_alloc u9 (.cells #[.slice adv lv cv] 22)))) _ 1 1 [.slice adv lv cv] rfl (Vals.rdN (Vals.newL u9 u9.heap.size [.slice adv lv cv] 22 rfl) 1 rfl (by unfold maxLen; omega)) (by intro u hu; simp only [List.mem_cons, List.not_mem_nil, or_false] at hu; first | (subst hu; rfl) | (rcases hu with rfl | rfl <;> rfl)) (by unfold maxLen; omega) (by omega) (by rw [World.size_alloc]; omega) 10 rfl _ rfl ?_; intro adr10 cr10 y10 hown hg hn3 hb3 hk3)
  have bel10 := (belu.trans ((below_alloc u9 (.cells #[.slice adv lv cv] 22)).mono belu.size)).trans hb3
  obtain ⟨L10, hLe⟩ : ∃ L, L9 ++ [(.slice adv lv cv, zs)] = L := ⟨_, rfl⟩
  have hL10 : L10.length = 10 := by rw [← hLe, List.length_append, hL9]; rfl
  have HB10 := Lib.hid (show Bank w4.heap.size y10 _ L10 by rw [← hLe]; exact HB9.out.push1 bb bel9.size HV.out HZ.out hf (by rw [hL9]; exact hown) hg hk3)
  clear hLe HB9 hL9 bel9 bb hown hg hn3 hb3 hk3 HOW belu hsz HV HZ hf 
  clear HNA4 HNB4 HA20 HB20
  go_wp2_with fail
  refine (same_calls _ _ xa _ (HRA4.out.mono bel10) (HRC4.out.mono bel10)).mono ?_
  rintro e y11 ⟨rfl, bb⟩
  have bel11 := bel10.trans (bb.mono bel10.size)
  have HB11 := Lib.hid (HB10.out.mono bb)
  clear bel10 HB10 bb
  go_wp2_with fail
  refine (same_calls _ _ xb _ (HRB4.out.mono bel11) (HRD.out.mono bel11)).mono ?_
  rintro e y12 ⟨rfl, bb⟩
  have bel12 := bel11.trans (bb.mono bel11.size)
  have HB12 := Lib.hid (HB11.out.mono bb)
  clear bel11 HB11 bb
  go_wp2_with fail
  refine (lives_calls _).mono ?_
  rintro e y13 ⟨rfl, bb⟩
  have bel13 := bel12.trans (bb.mono bel12.size)
  have HB13 := Lib.hid (HB12.out.mono bb)
  clear bel12 HB12 bb
  obtain ⟨br, rfl, hbr0, hbr1, hcr, hcr2, hcells⟩ := bank_cells HB13.out hL10 (by omega)
  have HCR := Lib.hid hcells
  clear hcells
  unfold maxLen at hcr2
  go_wp2
  go_loopw [31, 32] (fun kv iv wr => ∃ (i : Nat) (K : List (Value × List Nat)), i ≤ 10 ∧ iv = .int .i64 (i : Int) ∧ K.length = i ∧ K.map (·.2) = (L10.take i).map (·.2) ∧ Bank y13.heap.size wr kv K ∧ Below y13.heap.size y13 wr) (fun _ iv _ => (10 - intOf iv).toNat)
  case atStart => exact ⟨0, [], by omega, rfl, rfl, rfl, bank_nil y13, below_alloc _ _⟩
  case round =>
    obtain ⟨i, K, hi, rfl, hKl, hKm, hBK, hBy⟩ := hrel
    have hown0 := hBK.own
    rw [hKl] at hown0
    obtain ⟨adk, ck, rfl⟩ := ownsRow_form hown0
    have HKB := Lib.hid hBK
    have HKM := Lib.hid hKm
    have HKL := Lib.hid hKl
    have HOW := Lib.hid hown0
    clear hBK hKm hKl hown0
    by_cases h10 : i < 10
    · have t1 : (i : Int) < 10 := by omega
      have ce := (hBy.cell (p := ⟨br, i, none⟩) hbr1).trans (HCR.out i h10)
      obtain ⟨hr, hf, hd⟩ := bank_at HB13.out (i := i) (by rw [hL10]; exact h10)
      have hlen : (L10.getD i dI).2.length ≤ 1000 := by
        refine HB13.out.len _ ?_
        simp only [List.getD, List.getElem?_eq_getElem (show i < L10.length by omega), Option.getD_some]
        exact List.getElem_mem _
      obtain ⟨⟨vi, xi⟩, hvi⟩ : ∃ p, L10.getD i dI = p := ⟨_, rfl⟩
      rw [hvi] at hr ce hlen
      dsimp only at hr ce hlen
      have HVI := Lib.hid hvi
      obtain ⟨adi, ci, rfl, si⟩ := hr.mono hBy
      have bzr := below_alloc wr (.cells #[] 24)
      have HRI := Lib.hid (show Rd (wr.alloc (.cells #[] 24)) adi ci xi from (si.mono (Nat.le_refl _) bzr).rd)
      obtain ⟨ni, hni⟩ : ∃ n, xi.length = n := ⟨_, rfl⟩
      have HNI := Lib.hid hni
      rw [hni] at ce
      have hni2 : ni ≤ 1000 := by omega
      have hby := hBy.size
      have hbw : br < wr.heap.size := by omega
      clear hr hf hd si hvi hlen hni
      go_wp2_with (first
        | (at_builtin; refine wpList_append_rd rfl (.tmp 165) (.tmp 169) _ rfl Try.underlying22 info32 wr.heap.size _ _ rfl (own_made wr) bzr.size _ _ _ _ rfl HNI.out.symm HRI.out (by rw [HNI.out]; simp; omega) ?_; intro vq wq hq bq; have bb := bzr.trans bq; obtain ⟨adq, cq, rfl, sq, fq⟩ := hq.sl; have HRQ := Lib.hid (show Raw wq (.slice adq ([] ++ xi).length cq) xi from ⟨adq, cq, rfl, sq⟩); have hfq := fresh_of (n := ([] ++ xi).length) (c := cq) fq; rw [List.nil_append, HNI.out] at HRQ hfq ⊢; clear sq fq hq bq)
        | (at_builtin; refine wpList_append_rv rfl (.tmp 164) (.tmp 171) _ rfl y13.heap.size 22 _ 1 24 Try.underlying50 info_su rfl (by decide) _ i _ rfl (ownsRow_mono HOW.out (below_trans bb (below_alloc wq (.cells #[.slice adq ni cq] 22)))) _ 1 1 [.slice adq ni cq] rfl (Vals.rdN (Vals.newL wq wq.heap.size [.slice adq ni cq] 22 rfl) 1 rfl (by unfold maxLen; omega)) (by intro u hu; simp only [List.mem_cons, List.not_mem_nil, or_false] at hu; subst hu; rfl) (by unfold maxLen; omega) (by omega) (by have := bb.size; rw [World.size_alloc]; omega) (i + 1) rfl _ rfl ?_; intro adk2 ck2 wk hown hg hn3 hb3 hk3))
      go_roundw
      case rel => exact ⟨i + 1, K ++ [(.slice adq ni cq, xi)], by omega, by go_num, by rw [List.length_append, HKL.out]; rfl, by
          rw [List.map_append, HKM.out, List.take_add_one, List.map_append, List.getElem?_eq_getElem (show i < L10.length by omega)]
          have e := HVI.out
          simp only [List.getD, List.getElem?_eq_getElem (show i < L10.length by omega), Option.getD_some] at e
          rw [e]
          rfl, HKB.out.push1 bb hBy.size HRQ.out (by rw [HNI.out]; exact hni2) hfq (by rw [HKL.out]; exact hown) hg hk3, ((hBy.trans (bb.mono hBy.size)).trans ((below_alloc wq (.cells #[.slice adq ni cq] 22)).mono (Nat.le_trans hBy.size bb.size))).trans hb3⟩
      case measure => simp [intOf]; omega
    · obtain rfl : i = 10 := by omega
      have hKl10 := HKL.out
      have hKsnd : K.map (·.2) = L10.map (·.2) := by rw [HKM.out, List.take_of_length_le (by omega)]
      obtain ⟨bk, ebk, hbk0, hbk1, hck, hck2, hkcells⟩ := bank_cells HKB.out hKl10 (by omega)
      subst ebk
      have hBL := HB13.out.mono hBy
      have hst : Stat w4 br bk L10 K := stat_of hBL hL10 HKB.out hKl10 (fun j hj b hb => (bank_at HB13.out (i := j) (by omega)).1.lt b hb) hbk0
      have hs0 : St w4 br bk L10 K 0 wr := ⟨bel13.trans (hBy.mono bel13.size), fun j _ hj => (bank_at hBL (by omega)).1, fun j hj => by rw [← getD_snd hKsnd j]; exact (bank_at HKB.out (by omega)).1, fun j hj => (hBy.cell (p := ⟨br, j, none⟩) hbr1).trans (HCR.out j hj), hkcells⟩
      have HST := Lib.hid hst
      have HLEN := Lib.hid (show ∀ j, j < 10 → (L10.getD j dI).2.length ≤ 1000 from fun j hj => by
        refine HB13.out.len _ ?_
        simp only [List.getD, List.getElem?_eq_getElem (show j < L10.length by omega), Option.getD_some]
        exact List.getElem_mem _)
      unfold maxLen at hck2
      clear hKl10 hKsnd hkcells hBL hst HKB HKM HKL HOW hBy HCR HB13 bel13
      go_wp2
      go_loopw [33] (fun iv wq => ∃ i : Nat, i ≤ 10 ∧ iv = .int .i64 (i : Int) ∧ St w4 br bk L10 K i wq) (fun iv _ => (10 - intOf iv).toNat)
      case atStart => exact ⟨0, by omega, rfl, hs0⟩
      case round =>
        obtain ⟨i, hi, rfl, hs⟩ := hrel
        clear hs0
        by_cases h10 : i < 10
        · have t1 : (i : Int) < 10 := by omega
          have hr := hs.raws i (Nat.le_refl _) h10
          have hcr0 := fun (W : World) (h : St w4 br bk L10 K (i + 1) W) => h.cellr i h10
          have hl1 := HLEN.out i h10
          have hset := fun (W : World) (h : St w4 br bk L10 K (i + 1) W) (p : Addr) (hp : (L10.getD i dI).1.ownBlock = some p.block) (u : Value) => h.set HST.out h10 p hp u
          obtain ⟨⟨vi, xi⟩, hvi⟩ : ∃ p, L10.getD i dI = p := ⟨_, rfl⟩
          rw [hvi] at hr hcr0 hl1 hset
          dsimp only at hr hcr0 hl1 hset
          obtain ⟨ni, hni⟩ : ∃ n, xi.length = n := ⟨_, rfl⟩
          obtain ⟨adi, ci, evi, si⟩ := hr
          rw [hni] at evi hl1
          subst evi
          have HCR0 := Lib.hid hcr0
          have HSET := Lib.hid hset
          have hcim := si.2.1
          have hnic := si.1
          rw [hni] at hnic
          unfold maxLen at hcim
          have HS := Lib.hid hs.next
          have HSI := Lib.hid si
          have HNI := Lib.hid hni
          clear hs hvi hcr0 hset si hni
          go_wp2
          go_loopw [34] (fun kv wz => ∃ (q : Nat) (zs : List Nat), q ≤ ni ∧ kv = .int .i64 (q : Int) ∧ St w4 br bk L10 K (i + 1) wz ∧ Sl wz adi ci zs ∧ zs.length = ni) (fun kv _ => ((ni : Int) - intOf kv).toNat)
          case atStart => exact ⟨0, xi, by omega, rfl, HS.out, HSI.out, HNI.out⟩
          case round =>
            obtain ⟨q, zs, hq, rfl, hs, hsl, hzl⟩ := hrel
            have ce := HCR0.out _ hs
            have HS2 := Lib.hid hs
            by_cases hqn : q < ni
            · have t2 : (q : Int) < (ni : Int) := by omega
              obtain ⟨bi, oi, ebi, hbi, cz, fz⟩ := hsl.open (i := q) (by omega)
              subst ebi
              have hlt := hsl.lt q
              obtain ⟨z, hz⟩ : ∃ z, zs.getD q 0 = z := ⟨_, rfl⟩
              rw [hz] at cz hlt
              have wv : IntKind.u32.wrap ((z : Int) + 1) = (((z + 1) % 4294967296 : Nat) : Int) := by rw [IntKind.wrap_u32]; omega
              have hn1 := hsl.set q ((z + 1) % 4294967296) (by omega) (Nat.mod_lt _ (by omega)) _ rfl
              have hn2 := HSET.out _ hs ⟨bi, oi + q, none⟩ rfl (.int .u32 (((z + 1) % 4294967296 : Nat) : Int))
              have HN1 := Lib.hid hn1
              have HN2 := Lib.hid hn2
              clear hs hsl hz hn1 hn2
              obtain ⟨z', hz'⟩ : ∃ n, (z + 1) % 4294967296 = n := ⟨_, rfl⟩
              rw [hz'] at HN1 HN2 wv
              clear hz'
              go_wp2
              go_roundw
              case rel => exact ⟨q + 1, zs.set q z', by omega, by go_num, HN2.out, HN1.out, by rw [List.length_set]; exact hzl⟩
              case measure => simp [intOf]; omega
            · obtain rfl : q = ni := by omega
              clear hs hsl
              go_wp2
              go_loopw [35] (fun kv wz => ∃ r : Nat, r ≤ 10 ∧ i + 1 ≤ r ∧ kv = .int .i64 (r : Int) ∧ St w4 br bk L10 K (i + 1) wz) (fun kv _ => (10 - intOf kv).toNat)
              case atStart => exact ⟨i + 1, by omega, Nat.le_refl _, by go_num, HS2.out⟩
              case round =>
                obtain ⟨r, hr1, hr2, rfl, hs⟩ := hrel
                by_cases hr10 : r < 10
                · have t3 : (r : Int) < 10 := by omega
                  have hsd := hs.drew
                  have c1 := hsd.cellr r hr10
                  have c2 := hsd.cellk r hr10
                  have q1 := hsd.raws r hr2 hr10
                  have q2 := hsd.rawk r hr10
                  obtain ⟨vL, hvL⟩ : ∃ v, (L10.getD r dI).1 = v := ⟨_, rfl⟩
                  obtain ⟨vK, hvK⟩ : ∃ v, (K.getD r dI).1 = v := ⟨_, rfl⟩
                  obtain ⟨xL, hxL⟩ : ∃ v, (L10.getD r dI).2 = v := ⟨_, rfl⟩
                  rw [hvL] at c1
                  rw [hvK] at c2
                  rw [hvL, hxL] at q1
                  rw [hvK, hxL] at q2
                  have HSM := Lib.hid (show St w4 br bk L10 K (i + 1) _ from hsd)
                  clear hs hsd hvL hvK hxL
                  have t4 : (0 : Int) ≤ (r : Int) := by omega
                  go_wp2
                  go_region_held3 (fun w' => w'.cell? ⟨br, r, none⟩ = some vL ∧ w'.cell? ⟨bk, r, none⟩ = some vK) (exact ⟨c1, c2⟩)
                    ((go_at_call 11; (with_reducible refine (same_calls _ _ xL _ q1 q2).mono ?_); rintro e z ⟨rfl, bb⟩; replace c1 := (bb.cell (p := ⟨br, r, none⟩) (cell_ltV c1)).trans c1; replace c2 := (bb.cell (p := ⟨bk, r, none⟩) (cell_ltV c2)).trans c2; replace HSM := Lib.hid (HSM.out.mono bb); clear q1 q2 bb))
                  go_wp2
                  refine ⟨⟨_, .int .i64 ((r : Int) + 1), _, _, _, _, _, _, _, _, _, _, _, _, _, _, _, _, ?rel, rfl⟩, ?measure⟩
                  case rel => exact ⟨r + 1, by omega, by omega, by go_num, HSM.out⟩
                  case measure => simp [intOf]; omega
                · obtain rfl : r = 10 := by omega
                  go_wp2
                  go_roundw
                  case rel => exact ⟨i + 1, by omega, by go_num, hs⟩
                  case measure => simp [intOf]; omega
        · obtain rfl : i = 10 := by omega
          have bel := hs.bel
          clear hs
          go_wp2_with fail
          refine (same_calls _ _ xa _ (HRA4.out.mono bel) (HRC4.out.mono bel)).mono ?_
          rintro e z1 ⟨rfl, bb⟩
          have bel2 := bel.trans (bb.mono bel.size)
          clear bel bb
          go_wp2_with fail
          refine (same_calls _ _ xb _ (HRB4.out.mono bel2) (HRD.out.mono bel2)).mono ?_
          rintro e z2 ⟨rfl, bb⟩
          have bel3 := bel2.trans (bb.mono bel2.size)
          go_wp2
          go_ret
          exact ⟨rfl, below_trans B4 bel3⟩
end Go.Proofs
