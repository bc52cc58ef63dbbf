/- slices of ints: what comes in, the law's copy, the tests on pieces. -/
import Derived.Test.YtmnalmmffphnpaaDoorCoils
import Derived.Test.YtmnalmmffphnpaaDoorGrow
import Derived.Test.YtmnalmmffphnpaaDoorRIn
open Go.RowKit Go.Deep
namespace Go.Proofs
set_option linter.unusedVariables false
set_option linter.unusedSimpArgs false

def zints (zs : List Int) : List Value := zs.map (Value.int .i64)
theorem zints_length (zs : List Int) : (zints zs).length = zs.length := by simp [zints]
theorem zints_getD (zs : List Int) {i : Nat} (h : i < zs.length) : (zints zs).getD i undef = .int .i64 (zs.getD i 0) := by
  simp [zints, List.getD, h]

/-- a row of ints at the head of block b -/
def CellZ (w : World) (b : Nat) (zs : List Int) : Prop := ∃ vs, Vals w b vs ∧ vs.take zs.length = zints zs
theorem CellZ.lt {w b zs} (h : CellZ w b zs) : b < w.heap.size := by
  obtain ⟨vs, hv, ht⟩ := h
  exact hv.lt
theorem CellZ.mono {w w' : World} {b zs} (h : CellZ w b zs) (hb : Below w.heap.size w w') : CellZ w' b zs := by
  obtain ⟨vs, hv, ht⟩ := h
  exact ⟨vs, hv.mono hb, ht⟩
theorem CellZ.cell {w b zs} (h : CellZ w b zs) {i : Nat} (hi : i < zs.length) : w.cell? ⟨b, i, none⟩ = some (.int .i64 (zs.getD i 0)) := by
  obtain ⟨vs, hv, ht⟩ := h
  have hl : i < vs.length := by
    have := congrArg List.length ht
    rw [List.length_take, zints_length] at this
    omega
  rw [hv.cell hl]
  have : vs.getD i undef = (zints zs).getD i undef := by
    rw [← ht]
    simp [List.getD, List.getElem?_take, hi]
  rw [this, zints_getD zs hi]
theorem CellZ.frozen {w b zs} (h : CellZ w b zs) (i : Nat) : w.frozen? ⟨b, i, none⟩ = false := by
  obtain ⟨vs, hv, ht⟩ := h
  exact hv.frozen i
theorem CellZ.set {w b zs} (h : CellZ w b zs) (i : Nat) (z : Int) : CellZ (w.setCell ⟨b, i, none⟩ (.int .i64 z)) b (zs.set i z) := by
  obtain ⟨vs, hv, ht⟩ := h
  refine ⟨_, hv.set i _, ?_⟩
  rw [List.length_set, List.take_set, ht]
  simp [zints, List.map_set]
theorem CellZ.other {w b zs} (h : CellZ w b zs) (p : Addr) (hp : p.block ≠ b) (u : Value) : CellZ (w.setCell p u) b zs := by
  obtain ⟨vs, hv, ht⟩ := h
  exact ⟨vs, hv.other p hp u, ht⟩
theorem cellZ_new (w : World) (zs : List Int) (vs : Array Value) (e : TypeId) (hv : vs = (zints zs).toArray) : CellZ (w.alloc (.cells vs e)) w.heap.size zs :=
  ⟨zints zs, Vals.new w _ _ _ e rfl hv, by rw [← zints_length, List.take_length]⟩

/-- what can be read at a slice: ints, or nothing -/
def RdZ (w : World) (ad : Option Addr) (c : Nat) (zs : List Int) : Prop :=
  zs.length ≤ c ∧ c ≤ maxLen ∧ ((ad = none ∧ c = 0) ∨ ∃ x, ad = some x ∧ ∀ i, i < zs.length → w.cell? (x.add i) = some (.int .i64 (zs.getD i 0)))
def InZ (w : World) (v : Value) (zs : List Int) : Prop := ∃ ad c, v = .slice ad zs.length c ∧ RdZ w ad c zs

theorem cell_lt {w : World} {a : Addr} {v : Value} (h : w.cell? a = some v) : a.block < w.heap.size := by
  by_cases hb : a.block < w.heap.size
  · exact hb
  · have e : w.heap[a.block]? = none := by simp; omega
    simp [World.cell?, e] at h

theorem RdZ.mono {w w' : World} {ad c zs} (h : RdZ w ad c zs) (hb : Below w.heap.size w w') : RdZ w' ad c zs := by
  obtain ⟨h1, h2, h3⟩ := h
  refine ⟨h1, h2, ?_⟩
  rcases h3 with h3 | ⟨x, rfl, h3⟩
  · exact .inl h3
  · exact .inr ⟨x, rfl, fun i hi => (hb.cell (cell_lt (h3 i hi))).trans (h3 i hi)⟩
theorem InZ.mono {w w' : World} {v zs} (h : InZ w v zs) (hb : Below w.heap.size w w') : InZ w' v zs := by
  obtain ⟨ad, c, rfl, h⟩ := h
  exact ⟨ad, c, rfl, h.mono hb⟩
theorem CellZ.rd {w b zs} (h : CellZ w b zs) {c : Nat} (hc : zs.length ≤ c) (hm : c ≤ maxLen) : RdZ w (some ⟨b, 0, none⟩) c zs :=
  ⟨hc, hm, .inr ⟨_, rfl, fun i hi => by rw [add_off, Nat.zero_add]; exact h.cell hi⟩⟩

theorem inz_of_row {w : World} {a : Option Addr} {len cap : Nat} {zs : List Int}
    (h : (a = none ∧ len = 0 ∧ cap = 0 ∧ zs = []) ∨ ∃ x, a = some x ∧ len ≤ cap ∧ cap ≤ maxLen ∧ zs.length = cap ∧ (∀ i, i < zs.length → w.cell? (x.add i) = some (.int .i64 (zs.getD i 0))) ∧ ∀ n ∈ zs, (Lit.int .i64 n).wf = true) :
    ∃ xs : List Int, InZ w (.slice a len cap) xs ∧ ∀ z ∈ xs, -9223372036854775808 ≤ z ∧ z < 9223372036854775808 := by
  rcases h with ⟨rfl, rfl, rfl, rfl⟩ | ⟨x, rfl, h1, h2, h3, h4, h5⟩
  · exact ⟨[], ⟨none, 0, rfl, by simp, by simp, .inl ⟨rfl, rfl⟩⟩, by simp⟩
  · have hl : (zs.take len).length = len := by rw [List.length_take]; omega
    refine ⟨zs.take len, ⟨some x, cap, by rw [hl], by rw [hl]; exact h1, h2, .inr ⟨x, rfl, fun i hi => ?_⟩⟩, fun z hz => ?_⟩
    · rw [hl] at hi
      rw [h4 i (by omega)]
      simp [List.getD, hi]
    · have := h5 z (List.mem_of_mem_take hz)
      simp [Lit.wf, IntKind.min, IntKind.max, IntKind.signed, IntKind.bits] at this
      omega

theorem ownsRow_cellZ {B : Nat} {w : World} {v : Value} {zs : List Int} (h : w.ownsRow B 3 1 v zs.length (zints zs)) (h0 : v ≠ .slice none 0 0) :
    ∃ g c, v = .slice (some ⟨g, 0, none⟩) zs.length c ∧ B ≤ g ∧ zs.length ≤ c ∧ c ≤ maxLen ∧ CellZ w g zs := by
  obtain ⟨hl, h⟩ := h
  rcases h with ⟨rfl, h1⟩ | ⟨g, cap, cur, rfl, hg, hh, h1, h2, h3, h4⟩
  · exact absurd rfl h0
  · rw [Nat.mul_one] at h4
    exact ⟨g, cap, rfl, hg, h1, h2, cur.toList, ⟨_, by rw [hh]⟩, h4⟩

theorem owns_made (w : World) : (w.alloc (.cells #[] 3)).ownsRow w.heap.size 3 1 (.slice (some ⟨w.heap.size, 0, none⟩) 0 0) ([] : List Int).length (zints []) :=
  ⟨rfl, .inr ⟨w.heap.size, 0, #[], rfl, Nat.le_refl _, by rw [heap_alloc_new], Nat.le_refl _, Nat.zero_le _, rfl, rfl⟩⟩

theorem owns_one (w : World) (z : Int) : (w.alloc (.cells #[.int .i64 z] 3)).ownsRow w.heap.size 3 1 (.slice (some ⟨w.heap.size, 0, none⟩) 1 1) ([z] : List Int).length (zints [z]) :=
  ⟨rfl, .inr ⟨w.heap.size, 1, #[.int .i64 z], rfl, Nat.le_refl _, by rw [heap_alloc_new], Nat.le_refl _, by unfold maxLen; omega, rfl, rfl⟩⟩

/-- append of ints to what the call itself made -/
theorem wpList_append_ints {P : Program} {w : World} {ops : Array Oper} {rest : List Oper} {o : Oper} {a : Act} {Q : Exit → Act → World → Prop} (hgd : o.guard = none) (s x : Operand) (t : TypeId)
    (ho : o.op = .call { callee := .builtin .append, args := #[s, x], argTypes := #[t, t] })
    (ht : P.underlying t = some (.slice 3)) (h2 : (P.info? 3).map (fun i => (i.zero, i.size, i.bytes)) = some (some (.int .i64 0), 1, 8))
    (B : Nat) (v : Value) (xs : List Int) (hv : a.eval s = v) (h0 : v ≠ .slice none 0 0) (hown : w.ownsRow B 3 1 v xs.length (zints xs)) (hB : B ≤ w.heap.size)
    (ad : Option Addr) (m c : Nat) (ys : List Int) (hx : a.eval x = .slice ad m c) (hm : m = ys.length) (hs : RdZ w ad c ys) (hl : xs.length + ys.length ≤ 1099511627776) (k : Nat) (hk : k = xs.length + ys.length)
    (h : ∀ g c' w', B ≤ g → (xs ++ ys).length ≤ c' → c' ≤ maxLen → CellZ w' g (xs ++ ys) → Below B w w' → wpList P ops Q rest (a.put o.dst (.slice (some ⟨g, 0, none⟩) k c')) w') : wpList P ops Q (o :: rest) a w := by
  subst hm
  rw [← List.length_append] at hk
  subst hk
  obtain ⟨i, hi, z0, z1, z2⟩ := info_parts h2
  rcases hs.2.2 with ⟨rfl, rfl⟩ | ⟨x, rfl, hc⟩
  · have e0 : ys = [] := List.eq_nil_of_length_eq_zero (by have := hs.1; omega)
    subst e0
    refine wpList_append_own_none hgd s x t ho B 3 i 1 ht hi v xs.length (zints xs) hv hown hx ?_
    obtain ⟨g, c', rfl, hg, h3, h4, hz⟩ := ownsRow_cellZ hown h0
    rw [List.append_nil] at h
    exact h g c' w hg h3 h4 hz (Below.refl _ _)
  · refine wpList_append_own w hgd s _ t ho B 3 i (.int .i64 0) 1 8 ht hi z0 z1 z2 rfl (by decide) v xs.length (zints xs) hv hown
      x ys.length c (zints ys) hx (by rw [zints_length, Nat.mul_one]) (fun j u hj => ?_) (fun u hu => ?_) (by unfold maxLen; omega) (by omega) hB ?_
    · have hj' : j < ys.length := by
        have := (List.getElem?_eq_some_iff.1 hj).1
        rwa [zints_length] at this
      have hv : u = .int .i64 (ys.getD j 0) := by
        simp [zints, hj'] at hj
        simp [List.getD, hj', ← hj]
      rw [hv]
      exact hc j hj'
    · obtain ⟨y, _, rfl⟩ := List.mem_map.1 hu
      rfl
    · intro v' w' hown' hgrow hne
      have e : zints xs ++ zints ys = zints (xs ++ ys) := by simp [zints]
      rw [e, ← List.length_append] at hown'
      obtain ⟨g, c', rfl, hg, h3, h4, hz⟩ := ownsRow_cellZ hown' (fun e => h0 (hne.1 e).1)
      refine h g c' w' hg h3 h4 hz ((Below.refl _ _).grown hgrow hB ?_)
      intro k hk
      obtain ⟨g0, c0, rfl, hg0, _⟩ := ownsRow_cellZ hown h0
      cases hk
      exact hg0

/-- a fresh row of ints is returned -/
def RetZ (w : World) (zs : List Int) (e : Ending) (w' : World) : Prop :=
  ∃ g c, e = .returned (.slice (some ⟨g, 0, none⟩) zs.length c) ∧ w.heap.size ≤ g ∧ zs.length ≤ c ∧ c ≤ maxLen ∧ CellZ w' g zs ∧ Below w.heap.size w w'

theorem cutz_calls (v : Value) (zs : List Int) (n : Nat) (z : Int) (w : World) (hv : InZ w v zs) (hz : z = (n : Int)) (hn : n ≤ 1000000) :
    Calls Tryd.prog 14 #[v, .int .i64 z] w (RetZ w (zs.take n)) := by
  subst hz
  obtain ⟨ad, c, rfl, hs⟩ := hv
  have hc := hs.1
  have hcm := hs.2.1
  unfold maxLen at hcm
  have hmade := owns_made w
  have hb0 := below_alloc w (.cells #[] 3)
  by_cases hl : n < zs.length
  · obtain ⟨h1, h2, h4⟩ := hs
    rcases h4 with ⟨_, h5⟩ | ⟨x, rfl, hcell⟩
    · omega
    obtain ⟨b, o, rfl⟩ : ∃ b o, x = ⟨b, o, none⟩ := by
      have h5 := hcell 0 (by omega)
      obtain ⟨b, o, spot⟩ := x
      have h6 : spot = none := by simpa [Addr.add] using World.cell?_spot h5
      subst h6
      exact ⟨b, o, rfl⟩
    have hlen : (zs.take n).length = n := by rw [List.length_take, Nat.min_eq_left (by omega)]
    have ht : RdZ (w.alloc (.cells #[] 3)) (some ⟨b, o, none⟩) c (zs.take n) := by
      refine ⟨by rw [hlen]; omega, h2, .inr ⟨_, rfl, fun i hi => ?_⟩⟩
      rw [hlen] at hi
      have h5 := hcell i (by omega)
      rw [hb0.cell (p := (Addr.mk b o none).add i) (cell_lt h5), h5]
      simp [List.getD, hi]
    go_enter Tryd.func14, Tryd.ntmps14
    go_wp2_with (at_builtin; refine wpList_append_ints rfl (.tmp 12) (.tmp 13) _ rfl Tryd.underlying24 info_int w.heap.size (.slice (some ⟨w.heap.size, 0, none⟩) 0 0) [] rfl (by simp) hmade hb0.size _ _ _ _ rfl hlen.symm ht (by rw [hlen]; simp; omega) (zs.take n).length (by simp) ?_; intro g c' w3 hg hgc hgm hz hb3)
    go_ret
    rw [List.nil_append] at hz hgc
    exact ⟨g, c', by rw [hlen]; rfl, hg, hgc, hgm, hz, hb0.trans hb3⟩
  · have ht : RdZ (w.alloc (.cells #[] 3)) ad c zs := hs.mono hb0
    have e : zs.take n = zs := List.take_of_length_le (by omega)
    rw [e]
    clear e
    go_enter Tryd.func14, Tryd.ntmps14
    go_wp2_with (at_builtin; refine wpList_append_ints rfl (.tmp 12) (.tmp 13) _ rfl Tryd.underlying24 info_int w.heap.size (.slice (some ⟨w.heap.size, 0, none⟩) 0 0) [] rfl (by simp) hmade hb0.size _ _ _ _ rfl rfl ht (by simp; omega) zs.length (by simp) ?_; intro g c' w3 hg hgc hgm hz hb3)
    go_ret
    rw [List.nil_append] at hz hgc
    exact ⟨g, c', rfl, hg, hgc, hgm, hz, hb0.trans hb3⟩

def okTo (zs : List Int) : Nat → Bool
  | 0 => true
  | i + 1 => okTo zs i && inR (zs.getD i 0) 1000000000
def longTo (zs : List Int) (C : Int) : Nat → Bool
  | 0 => false
  | i + 1 => longTo zs C i || decide (C < zs.getD i 0)
/-- why pieces cannot be cut -/
def codeZ (zs : List Int) (C : Int) : Int :=
  if (decide (zs.length ≤ 14) && inR C 1000000000 && okTo zs zs.length) = true then (if longTo zs C zs.length = true then 3 else 0) else 1

theorem okTo_all {zs : List Int} : ∀ {n : Nat}, okTo zs n = true → ∀ i, i < n → inR (zs.getD i 0) 1000000000 = true
  | 0, _, i, hi => by omega
  | n + 1, h, i, hi => by
    simp only [okTo, Bool.and_eq_true] at h
    rcases Nat.lt_or_ge i n with h1 | h1
    · exact okTo_all h.1 i h1
    · obtain rfl : i = n := by omega
      exact h.2
theorem okTo_false {zs : List Int} {i : Nat} : ∀ {n : Nat}, i < n → inR (zs.getD i 0) 1000000000 = false → okTo zs n = false := by
  intro n h1 h2
  cases h : okTo zs n with
  | false => rfl
  | true => rw [okTo_all h i h1] at h2; cases h2
theorem longTo_none {zs : List Int} {C : Int} : ∀ {n : Nat}, longTo zs C n = false → ∀ i, i < n → zs.getD i 0 ≤ C
  | 0, _, i, hi => by omega
  | n + 1, h, i, hi => by
    simp only [longTo, Bool.or_eq_false_iff, decide_eq_false_iff_not] at h
    rcases Nat.lt_or_ge i n with h1 | h1
    · exact longTo_none h.1 i h1
    · obtain rfl : i = n := by omega
      omega
theorem longTo_true {zs : List Int} {C : Int} {i : Nat} : ∀ {n : Nat}, i < n → C < zs.getD i 0 → longTo zs C n = true := by
  intro n h1 h2
  cases h : longTo zs C n with
  | true => rfl
  | false => have := longTo_none h i h1; omega
theorem codeZ_zero {zs : List Int} {C : Int} (h : codeZ zs C = 0) : zs.length ≤ 14 ∧ (1 ≤ C ∧ C ≤ 1000000000) ∧ ∀ i, i < zs.length → 1 ≤ zs.getD i 0 ∧ zs.getD i 0 ≤ C := by
  unfold codeZ at h
  split at h
  · rename_i h1
    simp only [Bool.and_eq_true, decide_eq_true_eq] at h1
    split at h
    · simp at h
    · rename_i h2
      have h2 : longTo zs C zs.length = false := by simpa using h2
      refine ⟨h1.1.1, ?_, fun i hi => ?_⟩
      · have := h1.1.2
        simp [inR] at this
        exact this
      · have h3 := okTo_all h1.2 i hi
        have h4 := longTo_none h2 i hi
        simp only [inR, Bool.and_eq_true, decide_eq_true_eq] at h3
        omega
  · simp at h

set_option maxRecDepth 100000 in
theorem wcut_calls (g c n : Nat) (zs : List Int) (C : Int) (w : World) (hn : n = zs.length) (hl : n ≤ 1000000) (h : CellZ w g zs) :
    Calls Tryd.prog 37 #[.slice (some ⟨g, 0, none⟩) n c, .int .i64 C] w fun e w' => e = .returned (.int .i64 (codeZ zs C)) ∧ Below w.heap.size w w' := by
  obtain ⟨st, est, ways⟩ : ∃ st : Bool, (decide (zs.length ≤ 14) && inR C 1000000000) = st ∧ ((n ≤ 14 ∧ inR C 1000000000 = true ∧ st = true) ∨ (n ≤ 14 ∧ inR C 1000000000 = false ∧ st = false) ∨ (¬ n ≤ 14 ∧ st = false)) := by
    refine ⟨_, rfl, ?_⟩
    rw [← hn]
    by_cases h1 : n ≤ 14 <;> cases h2 : inR C 1000000000 <;> simp [h1]
  have hcode : codeZ zs C = if (st && okTo zs n) = true then (if longTo zs C n = true then 3 else 0) else 1 := by rw [codeZ, est, ← hn]
  have HC := Lib.hid hcode
  have HN := Lib.hid hn
  clear hcode est hn
  generalize codeZ zs C = R at *
  rcases ways with ⟨h1, h2, h3⟩ | ⟨h1, h2, h3⟩ | ⟨h1, h3⟩
  all_goals
    have HS := Lib.hid h3
    first
      | (have t14 : (n : Int) ≤ 14 := by omega)
      | (have t14 : ¬ (n : Int) ≤ 14 := by omega)
    clear h1 h3
    go_enter Tryd.func37, Tryd.ntmps37
    go_wp2_with (go_at_call 30; refine (within_calls _ _ _).mono ?_; rintro e w' ⟨rfl, rfl⟩)
    go_loopw [5, 6, 18] (fun ov lv iv wr => ∃ (i : Nat) (b l : Bool), i ≤ n ∧ iv = .int .i64 i ∧ ov = .bool b ∧ lv = .bool l ∧ b = (st && okTo zs i) ∧ l = longTo zs C i ∧ CellZ wr g zs ∧ Below w.heap.size w wr) (fun _ _ iv _ => n - (intOf iv).toNat)
    case atStart => exact ⟨0, _, _, by omega, rfl, rfl, rfl, by rw [HS.out]; rfl, rfl, h, Below.refl _ _⟩
    case round =>
      obtain ⟨i, b, l, hi, rfl, rfl, rfl, hb1, hl1, hz, hbel⟩ := hrel
      by_cases hlt : i < n
      · have hcell := hz.cell (i := i) (by have := HN.out; omega)
        have e1 : okTo zs (i + 1) = (okTo zs i && inR (zs.getD i 0) 1000000000) := rfl
        have e2 : longTo zs C (i + 1) = (longTo zs C i || decide (C < zs.getD i 0)) := rfl
        obtain ⟨p, ep⟩ : ∃ p, zs.getD i 0 = p := ⟨_, rfl⟩
        rw [ep] at hcell e1 e2
        have E1 := Lib.hid e1
        have E2 := Lib.hid e2
        have HB := Lib.hid hb1
        have HL := Lib.hid hl1
        have t1 : (i : Int) < (n : Int) := by omega
        clear e1 e2 ep hb1 hl1 hlt
        cases b <;> cases l
        all_goals
          by_cases hp : C < p
          all_goals
            go_wp2_with (go_at_call 30; refine (within_calls _ _ _).mono ?_; rintro e w' ⟨rfl, rfl⟩)
            go_roundw
            case rel => exact ⟨i + 1, _, _, by omega, by go_num, rfl, rfl, by rw [E1.out, ← Bool.and_assoc, ← HB.out]; first | rfl | simp, by rw [E2.out, ← HL.out]; simp [hp], hz, hbel⟩
            case measure => simp [intOf]; omega
      · obtain rfl : i = n := by omega
        have t1 : ¬ (i : Int) < (i : Int) := by omega
        have HB := Lib.hid hb1
        have HL := Lib.hid hl1
        clear hlt hb1 hl1
        cases b <;> cases l
        all_goals
          go_wp2
          go_ret
          exact ⟨by rw [HC.out, ← HB.out, ← HL.out]; rfl, hbel⟩


end Go.Proofs
