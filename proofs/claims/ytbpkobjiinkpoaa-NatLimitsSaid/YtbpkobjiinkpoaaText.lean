/- nat.Text: the decimal text of a number. -/
import Derived.Test.YtbpkobjiinkpoaaBytes
import Derived.Test.YtbpkobjiinkpoaaDigs
import Derived.Test.YtbpkobjiinkpoaaNatA
import Derived.Test.YtbpkobjiinkpoaaNatD
import Derived.Test.YtbpkobjiinkpoaaRootLaw
open Go.RowKit
namespace Go.Proofs
set_option linter.unusedVariables false
set_option linter.unusedSimpArgs false

/-- the bytes of the decimal text, the least digit first -/
def lows (m : Nat) : List Nat := (dign 10 m).map (· + 48)
theorem lows_zero : lows 0 = [] := by rw [lows, dign_zero]; rfl
theorem lows_pos {m : Nat} (h : m ≠ 0) : lows m = (m % 10 + 48) :: lows (m / 10) := by rw [lows, dign_pos h (by omega)]; rfl
/-- the decimal text -/
def text (m : Nat) : List Nat := if m = 0 then [48] else (lows m).reverse

theorem lows_step (q k r : Nat) (h : q * 10 ^ (k + 1) + r ≠ 0) : lows (q * 10 ^ (k + 1) + r) = (r % 10 + 48) :: lows (q * 10 ^ k + r / 10) := by
  have e : q * 10 ^ (k + 1) = 10 * (q * 10 ^ k) := by rw [Nat.pow_succ, Nat.mul_comm (10 ^ k) 10, Nat.mul_left_comm]
  rw [lows_pos h, e]
  have h1 : (10 * (q * 10 ^ k) + r) % 10 = r % 10 := by omega
  have h2 : (10 * (q * 10 ^ k) + r) / 10 = q * 10 ^ k + r / 10 := by omega
  rw [h1, h2]

theorem CellB.set {w : World} {g : Nat} {xs : List Nat} (h : CellB w g xs) (i v : Nat) (z : Int) (hz : z = (v : Int)) (hi : i < xs.length) : CellB (w.setCell ⟨g, i, none⟩ (.int .u8 z)) g (xs.set i v) := by
  subst hz
  intro j hj
  rw [List.length_set] at hj
  have hcj := h j hj
  constructor
  · by_cases e : j = i
    · subst e
      rw [getD_set_eq _ _ hj]
      exact World.cell?_setCell_same _ _ _ (h j hj).1
    · rw [getD_set_ne _ _ (Ne.symm e), ← hcj.1]
      exact World.cell?_setCell_other w ⟨g, i, none⟩ ⟨g, j, none⟩ _ (by intro h; apply e; injection h with h1 h2; omega)
  · rw [World.frozen?_setCell]
    exact hcj.2

theorem CellB.drew {w : World} {g : Nat} {xs : List Nat} (h : CellB w g xs) : CellB w.drew g xs := h

theorem swap_cells {w : World} {g : Nat} {ys : List Nat} (h : CellB w g ys) {i j x y : Nat} (hi : i < ys.length) (hj : j < ys.length) (hx : ys.getD i 0 = x) (hy : ys.getD j 0 = y) :
    CellB ((w.setCell ⟨g, i, none⟩ (.int .u8 (y : Int))).setCell ⟨g, j, none⟩ (.int .u8 (x : Int))).drew g ((ys.set i y).set j x) :=
  ((h.set i y _ rfl hi).set j x _ rfl (by rw [List.length_set]; exact hj)).drew

theorem swap_reads {pre ys : List Nat} {i j n x y : Nat} (hij : i + j + 1 = n) (hlt : i < j) (hl : ys.length = n)
    (h : ∀ k, k < n → ys.getD k 0 = if k < i ∨ j < k then pre.getD (n - 1 - k) 0 else pre.getD k 0) (hx : ys.getD i 0 = x) (hy : ys.getD j 0 = y) :
    ∀ k, k < n → ((ys.set i y).set j x).getD k 0 = if k < i + 1 ∨ j - 1 < k then pre.getD (n - 1 - k) 0 else pre.getD k 0 := by
  intro k hk
  have hi := h i (by omega)
  have hj := h j (by omega)
  rw [if_neg (by omega), hx] at hi
  rw [if_neg (by omega), hy] at hj
  by_cases e1 : k = j
  · subst e1
    rw [getD_set_eq _ _ (by rw [List.length_set]; omega), if_pos (by omega), hi]
    congr 1
    omega
  · rw [getD_set_ne _ _ (Ne.symm e1)]
    by_cases e2 : k = i
    · subst e2
      rw [getD_set_eq _ _ (by omega), if_pos (by omega), hj]
      congr 1
      omega
    · rw [getD_set_ne _ _ (Ne.symm e2), h k hk]
      by_cases c : k < i ∨ j < k
      · rw [if_pos c, if_pos (by omega)]
      · rw [if_neg c, if_neg (by omega)]

theorem swap_done {pre ys : List Nat} {i j n : Nat} (hij : i + j + 1 = n) (hge : j ≤ i) (hl : ys.length = n) (hp : pre.length = n)
    (h : ∀ k, k < n → ys.getD k 0 = if k < i ∨ j < k then pre.getD (n - 1 - k) 0 else pre.getD k 0) : ys = pre.reverse := by
  refine List.ext_getElem (by rw [List.length_reverse]; omega) fun k h1 h2 => ?_
  rw [List.getElem_reverse]
  have h3 := h k (by omega)
  have e1 : ys.getD k 0 = ys[k] := by simp [List.getD, h1]
  have e2 : pre.getD (n - 1 - k) 0 = pre[pre.length - 1 - k]'(by omega) := by
    have : n - 1 - k < pre.length := by omega
    subst hp
    simp [List.getD, this]
  rw [← e1, ← e2, h3]
  by_cases c : k < i ∨ j < k
  · rw [if_pos c]
  · rw [if_neg c]
    congr 1
    omega

set_option maxRecDepth 100000 in
set_option maxHeartbeats 1000000 in
theorem text_ok (v : Value) (m : Nat) (w : World) (hv : Num w v m) (hl : (limbs m).length ≤ 2077) (hn : (lows m).length ≤ 20000) :
    Calls Try.prog 22 #[v] w fun e w' => e = .returned (.tuple #[.string (strOf (text m)), .int .i64 0]) ∧ Below w.heap.size w w' := by
  have t1 : (firstErr [limbs m] != 0) = false := by
    rw [bne_eq_false_iff_eq]
    exact ok_one m (by omega)
  have hb0 := below_alloc w (.cells #[v] 23)
  have V := valid1 v (limbs m) w hv.raw
  replace hv := hv.mono hb0
  obtain ⟨ad, c, rfl, hs⟩ := hv
  have hv : Num _ (.slice ad (limbs m).length c) m := ⟨_, _, rfl, hs⟩
  have t2 : ¬ (2077 : Int) < ((limbs m).length : Int) := by omega
  clear hs
  go_enter Try.func22, Try.ntmps22
  go_wp2_with fail
  refine V.mono ?_
  rintro e w' ⟨rfl, rfl⟩
  clear V
  go_wp2
  generalize w.alloc (.cells #[.slice ad (limbs m).length c] 23) = w0 at *
  go_loopw [5, 6] (fun bv rv wr => ∃ (pre : List Nat) (r : Nat), Num wr rv r ∧ OwnB w.heap.size wr bv pre ∧ lows m = pre ++ lows r ∧ (limbs r).length ≤ 2077 ∧ Below w.heap.size w wr)
    (fun _ rv wr => numOf wr rv)
  case atStart => exact ⟨[], m, hv, OwnB.nil _ _, rfl, hl, hb0⟩
  case round =>
    obtain ⟨pre, r, hr, hown, hD, hlr, hbel⟩ := hrel
    have HD := Lib.hid hD
    clear hD
    have hr0 := hr
    obtain ⟨ad1, c1, rfl, hs⟩ := hr0
    by_cases h0 : r = 0
    · have t3 : ¬ 0 < (limbs r).length := by rw [h0, limbs_zero]; simp
      have hz : lows m = pre := by rw [HD.out, h0, lows_zero, List.append_nil]
      have HZ := Lib.hid hz
      have hlen : pre.length ≤ 20000 := by rw [← hz]; exact hn
      clear hz h0 hs hr hlr
      by_cases hp0 : pre = []
      · have htx : text m = [48] := by
          rw [text]
          by_cases hm : m = 0
          · rw [if_pos hm]
          · have h1 := HZ.out
            rw [hp0, lows_pos hm] at h1
            cases h1
        have Htx := Lib.hid htx
        have hl0 : pre.length = 0 := by rw [hp0]; rfl
        clear htx
        rcases hown.open with ⟨rfl, _⟩ | ⟨g, cap, rfl, _⟩
        all_goals
          clear hown
          go_wp2
          go_ret2
          exact ⟨by rw [Htx.out]; rfl, hbel⟩
      · have htx : text m = pre.reverse := by
          rw [text, if_neg, HZ.out]
          intro hm
          exact hp0 (by rw [← HZ.out, hm, lows_zero])
        have Htx := Lib.hid htx
        have hpos : 0 < pre.length := List.length_pos_iff.2 hp0
        rcases hown.open with ⟨_, h1⟩ | ⟨g, cap, rfl, hg1, hg2, hcap, hcells⟩
        · exact absurd h1 hp0
        clear htx hp0 hown HD HZ
        have hb2 := hbel
        obtain ⟨n, en⟩ : ∃ n, pre.length = n := ⟨_, rfl⟩
        rw [en] at hlen hpos hcap ⊢
        have En := Lib.hid en
        clear en
        have k1 : ¬ (20000 : Int) < (n : Int) := by omega
        have k2 : ((n : Int) == 0) = false := by rw [beq_eq_false_iff_ne]; omega
        go_wp2
        go_loopw [10, 11] (fun iv jv wi => ∃ (i j : Nat) (ys : List Nat), i + j + 1 = n ∧ i ≤ j + 1 ∧ iv = .int .i64 i ∧ jv = .int .i64 j ∧ ys.length = n ∧
            (∀ k, k < n → ys.getD k 0 = if k < i ∨ j < k then pre.getD (n - 1 - k) 0 else pre.getD k 0) ∧ CellB wi g ys ∧ Below w.heap.size w wi)
          (fun iv _ _ => n - (intOf iv).toNat)
        case atStart => exact ⟨0, n - 1, pre, by omega, by omega, by go_num, by go_num, En.out, fun k hk => by rw [if_neg (by omega)], hcells, hbel⟩
        case round =>
          obtain ⟨i, j, ys, hij, hij2, rfl, rfl, hyl, hys, hcy, hbi⟩ := hrel
          have Hys := Lib.hid hys
          have Hcy := Lib.hid hcy
          clear hys hcy hcells hbel hb2
          by_cases hlt : i < j
          · have q1 : (i : Int) < (j : Int) := by omega
            have ci := Hcy.out i (by omega)
            have cj := Hcy.out j (by omega)
            obtain ⟨x, ex⟩ : ∃ x, ys.getD i 0 = x := ⟨_, rfl⟩
            obtain ⟨y, ey⟩ : ∃ y, ys.getD j 0 = y := ⟨_, rfl⟩
            rw [ex] at ci
            rw [ey] at cj
            have Ex := Lib.hid ex
            have Ey := Lib.hid ey
            obtain ⟨ci1, ci2⟩ := ci
            obtain ⟨cj1, cj2⟩ := cj
            have q2 : (i : Int) < (n : Int) := by omega
            have q3 : (j : Int) < (n : Int) := by omega
            have q4 : IntKind.i64.wrap ((j : Int) - 1) = ((j - 1 : Nat) : Int) := by rw [IntWalk.i64_in _ (by omega)]; omega
            clear ex ey
            go_wp2
            go_region
            go_wp2
            have hc2 := swap_cells Hcy.out (by omega) (by omega) Ex.out Ey.out
            have hsw := swap_reads (pre := pre) hij hlt hyl Hys.out Ex.out Ey.out
            go_roundw
            case rel => exact ⟨i + 1, j - 1, _, by omega, by omega, by go_num, by go_num, by rw [List.length_set, List.length_set]; exact hyl, hsw, hc2, ((hbi.setCell hg1 _).setCell hg1 _).drew⟩
            case measure => simp [intOf]; omega
          · have q1 : ¬ (i : Int) < (j : Int) := by omega
            have hrev : ys = pre.reverse := swap_done hij (by omega) hyl En.out Hys.out
            have Hrev := Lib.hid hrev
            have kc := (Hcy.out).string 46 Try.underlying46 n cap hyl.symm 9 Try.underlying9
            clear hrev
            go_wp2
            go_ret2
            exact ⟨by rw [Htx.out, ← Hrev.out]; rfl, hbi⟩
    · have t3 : 0 < (limbs r).length := by
        by_cases h : (limbs r).length = 0
        · exact absurd (limbs_eq_nil.mp (List.eq_nil_of_length_eq_zero h)) h0
        · omega
      have hdm := Nat.div_add_mod r 1000000000
      have hmod := Nat.mod_lt r (show 0 < 1000000000 by omega)
      have hlq := limbs_length_mono (Nat.div_le_self r 1000000000)
      have hlt : r / 1000000000 < r := Nat.div_lt_self (by omega) (by omega)
      have hDr : lows m = pre ++ lows (r / 1000000000 * 10 ^ 9 + r % 1000000000) := by
        rw [HD.out]
        congr 2
        have e9 : (10 : Nat) ^ 9 = 1000000000 := by decide
        rw [e9]; omega
      have hnr := numOf_eq hr
      have Hnr := Lib.hid hnr
      have Hr := Lib.hid (show r ≠ 0 from h0)
      clear hnr
      have HDr := Lib.hid hDr
      have Hlt := Lib.hid hlt
      have Hmod := Lib.hid hmod
      clear hdm hmod hDr hlt h0 hs
      go_wp2_with fail
      refine (byWord_calls _ r 1000000000 _ wr hr rfl (by omega) (by omega) (by omega)).mono ?_
      rintro e w1 ⟨vq, rfl, hq, hfq, hb⟩
      have hcl := Clear.fresh hfq (fun k hk => (hown.block k hk).2)
      replace hown := hown.mono hb
      replace hr := hr.mono hb
      replace hbel := below_trans hbel hb
      have hq0 := hq
      obtain ⟨ad2, c2, rfl, hs2⟩ := hq0
      clear hs2 hb
      go_wp2_with fail
      go_loopw [5, 8, 9] (fun bv rv iv wi => ∃ (ds : List Nat) (x i : Nat), i ≤ 9 ∧ iv = .int .i64 i ∧ rv = .int .u32 (x : Int) ∧ x < 10 ^ (9 - i) ∧ OwnB w.heap.size wi bv ds ∧ lows m = ds ++ lows (r / 1000000000 * 10 ^ (9 - i) + x) ∧
          Num wi (.slice ad2 (limbs (r / 1000000000)).length c2) (r / 1000000000) ∧ Clear bv.ownBlock (.slice ad2 (limbs (r / 1000000000)).length c2) ∧ Below w.heap.size w wi)
        (fun _ _ iv _ => 9 - (intOf iv).toNat)
      case atStart => exact ⟨pre, r % 1000000000, 0, by omega, rfl, rfl, Hmod.out, hown, HDr.out, hq, hcl, hbel⟩
      case round =>
        obtain ⟨ds, x, i, hi, rfl, rfl, hx, hown2, hD2, hq2, hcl2, hbel2⟩ := hrel
        have HD2 := Lib.hid hD2
        have Hx := Lib.hid hx
        clear hD2 hx hq hown hr hbel hcl hfq
        obtain ⟨q, eq⟩ : ∃ q, r / 1000000000 = q := ⟨_, rfl⟩
        rw [eq] at HD2 hq2 hcl2 hlq Hlt ⊢
        have Eq := Lib.hid eq
        clear eq
        by_cases hi9 : i = 9
        · subst hi9
          have hx0 : x = 0 := by have := Hx.out; simpa using this
          have hfin : lows m = ds ++ lows q := by rw [HD2.out, hx0]; simp
          have Hfin := Lib.hid hfin
          have k1 : ¬ ((9 : Nat) : Int) < 9 := by omega
          clear hfin hx0
          go_wp2
          go_roundw
          case rel => exact ⟨ds, q, hq2, hown2, Hfin.out, by omega, hbel2⟩
          case measure => rw [numOf_eq hq2, Hnr.out]; exact Hlt.out
        · have k1 : (i : Int) < 9 := by omega
          by_cases hz : q * 10 ^ (9 - i) + x = 0
          · have hx0 : x = 0 := by omega
            have hq0 : q = 0 := by
              have h1 : q * 10 ^ (9 - i) = 0 := by omega
              rcases Nat.mul_eq_zero.1 h1 with h | h
              · exact h
              · have := Nat.pow_pos (n := 9 - i) (show 0 < 10 by omega); omega
            have hfin : lows m = ds ++ lows q := by rw [HD2.out, hz, hq0]
            have Hfin := Lib.hid hfin
            have k2 : ¬ 0 < (limbs q).length := by rw [hq0, limbs_zero]; simp
            have k3 : ¬ (0 : Int) < (x : Int) := by omega
            clear hfin hz hx0 hq0
            go_wp2
            go_roundw
            case rel => exact ⟨ds, q, hq2, hown2, Hfin.out, by omega, hbel2⟩
            case measure => rw [numOf_eq hq2, Hnr.out]; exact Hlt.out
          · have hstep := lows_step q (8 - i) x (by rw [show 8 - i + 1 = 9 - i by omega]; exact hz)
            rw [show 8 - i + 1 = 9 - i by omega] at hstep
            have hnew : lows m = (ds ++ [x % 10 + 48]) ++ lows (q * 10 ^ (8 - i) + x / 10) := by rw [HD2.out, hstep, List.append_assoc]; rfl
            have hx10 : x / 10 < 10 ^ (8 - i) := by
              have h1 := Hx.out
              rw [show 9 - i = 8 - i + 1 by omega, Nat.pow_succ] at h1
              omega
            have hx32 : x < 4294967296 := by
              have h1 := Hx.out
              have h2 : 10 ^ (9 - i) ≤ 10 ^ 9 := Nat.pow_le_pow_right (by omega) (by omega)
              have h3 : (10 : Nat) ^ 9 = 1000000000 := by decide
              omega
            have hdl : ds.length ≤ 20000 := by
              have h1 := congrArg List.length HD2.out
              rw [List.length_append] at h1
              omega
            have Hx10 := Lib.hid hx10
            have ways : 0 < (limbs q).length ∨ (¬ 0 < (limbs q).length ∧ (0 : Int) < (x : Int)) := by
              by_cases h : q = 0
              · refine .inr ⟨by rw [h, limbs_zero]; simp, ?_⟩
                rw [h, Nat.zero_mul] at hz
                omega
              · refine .inl ?_
                by_cases h2 : (limbs q).length = 0
                · exact absurd (limbs_eq_nil.mp (List.eq_nil_of_length_eq_zero h2)) h
                · omega
            obtain ⟨b, eb⟩ : ∃ b, x % 10 + 48 = b := ⟨_, rfl⟩
            have hwrap : IntKind.u8.wrap (48 + (x : Int) % 10) = (b : Int) := by rw [IntKind.wrap_u8]; omega
            rw [eb] at hnew
            have Hnew := Lib.hid hnew
            have hb8 := below_alloc wr (.cells #[Value.int .u8 (b : Int)] 5)
            have hown3 := hown2.mono hb8
            have hbel3 := below_trans hbel2 hb8
            have hcell : (wr.alloc (.cells #[Value.int .u8 (b : Int)] 5)).cell? ⟨wr.heap.size, 0, none⟩ = some (.int .u8 (b : Int)) := cells_one wr (.int .u8 (b : Int)) 5 0 (by omega)
            have hqf := hq2.mono hb8
            clear hstep hnew hx10 hz eb
            rcases ways with k2 | ⟨k2, k3⟩
            all_goals
              go_wp2_with (at_builtin; refine wpList_append_byte rfl (.tmp 43) (.tmp 48) _ rfl Try.underlying46 info8 w.heap.size _ ds rfl hown3 hbel3.size wr.heap.size b rfl hcell (by omega) ?_; intro v3 w3 hown4 hb3 hgb hat)
              have hcl4 := Clear.next hqf hcl2 hat
              have hq4 := hqf.grownBy hgb hcl2
              go_roundw
              case rel => exact ⟨ds ++ [b], x / 10, i + 1, by omega, by go_num, by go_num, by rw [show 9 - (i + 1) = 8 - i by omega]; exact Hx10.out, hown4, by rw [show 9 - (i + 1) = 8 - i by omega]; exact Hnew.out, hq4, hcl4, hbel3.trans hb3⟩
              case measure => simp [intOf]; omega

theorem text_err (v1 : Value) (x1 : List Nat) (w : World) (h1 : Raw w v1 x1) (he : firstErr [x1] ≠ 0) :
    Calls Try.prog 22 #[v1] w fun e w' => e = .returned (.tuple #[.string { data := #[] }, .int .i64 (firstErr [x1])]) ∧ Below w.heap.size w w' := by
  have t1 : (firstErr [x1] != 0) = true := by rw [bne_iff_ne]; exact he
  clear he
  have g1 := h1
  obtain ⟨ad1, c1, rfl, s1⟩ := g1
  go_enter Try.func22, Try.ntmps22
  go_wp2_with fail
  refine (valid1 _ x1 w h1).mono ?_
  rintro e w' ⟨rfl, rfl⟩
  go_wp2
  go_ret2
  exact ⟨rfl, below_alloc _ _⟩

end Go.Proofs
