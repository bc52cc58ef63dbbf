/- temper: Best. -/
import Derived.Test.YthkeekoljediiaaCircG
import Derived.Test.YthkeekoljediiaaRound
import Derived.Shelf.Abstract
open Go.RowKit Go.Shelf Go.Deep
namespace Go.Proofs
set_option linter.unusedVariables false
set_option linter.unusedSimpArgs false
attribute [local go_sem] Oper.semAt_some

set_option maxRecDepth 100000 in
theorem beginnings_calls (R : Rg) (fv tv : Value) (w : World) : Calls Try.prog 16 #[.agg #[.int .i64 12, .int .i64 (R.sp : Int), .int .i64 (R.lo : Int), .int .i64 ((R.lo : Int) + 2), .int .i64 (R.tot : Int), .int .i64 (R.pu : Int), .int .i64 (R.wo : Int), fv, tv]] w fun e w' =>
    e = .returned (.func (.func 40) #[] #[.pointer (some ⟨w.heap.size, 0, none⟩)]) ∧ Vals w' w.heap.size (rgl R fv tv) ∧ Below w.heap.size w w' := by
  have vr := Vals.newL w w.heap.size (rgl R fv tv) 24 rfl
  have bb := below_alloc w (.cells (rgl R fv tv).toArray 24)
  have HV := Lib.hid (And.intro vr bb)
  clear vr bb
  simp only [rgl] at *
  go_enter Try.func16, Try.ntmps16
  go_wp2
  go_ret
  exact ⟨rfl, HV.out.1, HV.out.2⟩

/-- a turn of a block that holds no cells leaves the cells -/
theorem grown_block {W W' : World} {row : Option Nat} {B : Nat} (hg : W.grownBy W' row) (hr : ∀ r, row = some r → B ≤ r ∧ ∃ o : Obj, W.heap[r]? = some o ∧ o.isCells = false) {b : Nat} {o : Obj} (hb : W.heap[b]? = some o) (hc : o.isCells = true) : W'.heap[b]? = some o :=
  (hg.block b (Array.getElem?_eq_some_iff.1 hb).1 (fun e => by
    obtain ⟨_, o', h1, h2⟩ := hr b e.symm
    rw [hb] at h1
    cases h1
    rw [hc] at h2
    cases h2)).trans hb
theorem grown_vals {W W' : World} {row : Option Nat} {B : Nat} (hg : W.grownBy W' row) (hr : ∀ r, row = some r → B ≤ r ∧ ∃ o : Obj, W.heap[r]? = some o ∧ o.isCells = false) {b : Nat} {vs : List Value} (h : Vals W b vs) : Vals W' b vs := by
  obtain ⟨e, h⟩ := h
  exact ⟨e, grown_block hg hr h rfl⟩
theorem grown_cell {W W' : World} {row : Option Nat} {B : Nat} (hg : W.grownBy W' row) (hr : ∀ r, row = some r → B ≤ r ∧ ∃ o : Obj, W.heap[r]? = some o ∧ o.isCells = false) {p : Addr} {v : Value} (h : W.cell? p = some v) : W'.cell? p = some v := by
  obtain ⟨o, ho, hc⟩ := cells_of_cell (a := p) h
  have e := grown_block hg hr ho hc
  unfold World.cell? at h ⊢
  rw [e, ← ho]
  exact h
theorem grown_owns {W W' : World} {row : Option Nat} {B : Nat} (hg : W.grownBy W' row) (hr : ∀ r, row = some r → B ≤ r ∧ ∃ o : Obj, W.heap[r]? = some o ∧ o.isCells = false) {BS e k n : Nat} {v : Value} {cs : List Value} (h : W.ownsRow BS e k v n cs) : W'.ownsRow BS e k v n cs := by
  obtain ⟨hl, h1⟩ := h
  refine ⟨hl, ?_⟩
  rcases h1 with h1 | ⟨g, cap, cur, h0, hg0, hh, hrest⟩
  · exact .inl h1
  · exact .inr ⟨g, cap, cur, h0, hg0, grown_block hg hr hh rfl, hrest⟩
theorem owns_wide {W : World} {BS BT e k n : Nat} {v : Value} {cs : List Value} (h : W.ownsRow BS e k v n cs) (hB : BT ≤ BS) : W.ownsRow BT e k v n cs := by
  obtain ⟨hl, h1⟩ := h
  refine ⟨hl, ?_⟩
  rcases h1 with h1 | ⟨g, cap, cur, h0, hg0, hrest⟩
  · exact .inl h1
  · exact .inr ⟨g, cap, cur, h0, Nat.le_trans hB hg0, hrest⟩
/-- out through the one mark of a range over a function -/
theorem leave_one {F : Fence} {n : Nat} {P : Program} {fn : Func} {tmps : Array Value} {R : Ending → World → Prop} {lo D : Nat} {W : World} (hlo : lo ≤ D) (hK : W.heap[D]? = some (.deferred (some [])))
    (hR : ∀ W', Below lo W W' → (∀ (k : Nat) (o : Obj), W.heap[k]? = some o → o.isCells = true → W'.heap[k]? = some o) → LeavesInM F n P fn tmps R [] .returning W') :
    LeavesInM F n P fn tmps R [{ target := .collected D, args := #[] }] .returning W := by
  refine ⟨by simp, .inl ⟨_, _, rfl, run_takeDeferred hK, ?_⟩⟩
  have hD := (Array.getElem?_eq_some_iff.1 hK).1
  refine hR _ ((Below.refl lo W).grown (grownBy_putObj' W D _) (by omega) (fun k e => by cases e; omega)) (fun k o hk hc => ?_)
  by_cases e : k = D
  · subst e; rw [hK] at hk; cases hk; cases hc
  · exact (World.putObj_heap_other e).trans hk

theorem onlyEnd_mkC {K : Act → World → Prop} {a : Act} {w : World} (h : K a w) : OnlyEnd K .normal a w := h
theorem codeE_lt {R : Rg} (hR : RgOk R) {e : Nat → Nat} (h : ∀ i, i + 1 < R.sp → StOk R (e i)) : codeE R e (R.sp - 1) < cds R := by
  unfold codeE cds
  rcases hR.sp with q | q
  · rw [if_pos q, q]
    have := (h 0 (by omega)).2
    show e 0 - R.lo < 4
    omega
  · rw [if_neg (by omega), q]
    have := (h 0 (by omega)).2
    have := (h 1 (by omega)).2
    show (e 0 - R.lo) * 4 + (e 1 - R.lo) < 16
    omega
theorem PF_bound {R : Rg} (hR : RgOk R) {e : Nat → Nat} (n : Nat) (hn : n ≤ 12) (h : ∀ i, i < n → StOk R (e i)) : 0 ≤ PF R e n ∧ PF R e n ≤ 9000 * (n : Int) := by
  induction n with
  | zero => exact ⟨Int.le_refl _, by show (0 : Int) ≤ _; omega⟩
  | succ n ih =>
    obtain ⟨h1, h2⟩ := ih (by omega) (fun i hi => h i (by omega))
    obtain ⟨b1, b2⟩ := sq_bound (z := (e n : Int)) (m := 3) (hR.F n (by omega)) (by omega) (by have := (h n (by omega)).le hR; omega) (by omega)
    unfold PF
    omega
theorem way_start {R : Rg} (hR : RgOk R) {e : Nat → Nat} (h : ∀ i, i + 1 < R.sp → StOk R (e i)) (hrt : 0 ≤ RT R e 12 (codeE R e (R.sp - 1)) (sumE R e (R.sp - 1))) :
    Way R e e (R.sp - 1) (codeE R e (R.sp - 1)) (sumE R e (R.sp - 1)) (PF R e (R.sp - 1) + RT R e 12 (codeE R e (R.sp - 1)) (sumE R e (R.sp - 1))) := by
  have h3 := hR.s2
  have e1 : 11 + R.sp - (R.sp - 1) = 12 := by omega
  have e2 : min (R.sp - 1) 12 = R.sp - 1 := by omega
  have e3 : R.sp - 1 + 1 - R.sp = 0 := by omega
  refine ⟨Nat.le_refl _, by omega, fun i hi => h i (by omega), by rw [e2], rfl, by rw [e1]; exact hrt, fun i hi => by omega, ?_⟩
  rw [e1, e2, e3]
  show _ + 0 + _ = _
  rw [Int.add_zero]
theorem keepsFrom_below {B : Nat} {W W' : World} (h : Below W.heap.size W W') : KeepsFrom B W W' := ⟨h.size, fun k o _ hk _ => (h.block k (Array.getElem?_eq_some_iff.1 hk).1).trans hk⟩

/-- the state of the search: nothing found, or the cheapest steps so far -/
def Found (R : Rg) (BS : Nat) (W : World) (bs bl : Nat) : Prop := ∃ (sv : Value) (lv : Int), Vals W bs [sv] ∧ Vals W bl [.int .i64 lv] ∧
  ((sv = .slice none 0 0 ∧ lv = -1) ∨ ∃ ad c e, sv = .slice ad 12 c ∧ W.ownsRow BS 3 1 (.slice ad 12 c) 12 (stepsL e 12) ∧ Fine R e lv ∧ 0 ≤ lv)

set_option maxRecDepth 100000 in
set_option maxHeartbeats 4000000 in
theorem rbest_calls (R : Rg) (fv tv : Value) (w : World) (hR : RgOk R) (hI : InRg w fv tv R) : Calls Try.prog 5 #[.agg #[.int .i64 12, .int .i64 (R.sp : Int), .int .i64 (R.lo : Int), .int .i64 ((R.lo : Int) + 2), .int .i64 (R.tot : Int), .int .i64 (R.pu : Int), .int .i64 (R.wo : Int), fv, tv]] w fun e w' =>
    (e = .returned (.tuple #[.slice none 0 0, .int .i64 0, .int .i64 6]) ∨ ∃ ad c st lv, e = .returned (.tuple #[.slice ad 12 c, .int .i64 lv, .int .i64 0]) ∧ w'.ownsRow w.heap.size 3 1 (.slice ad 12 c) 12 (stepsL st 12) ∧ Fine R st lv) ∧ Below w.heap.size w w' := by
  have HCH := Lib.hid (fun (w1 : World) (hb : Below w.heap.size w w1) => rcheck_calls R fv tv w1 hR (hI.mono hb))
  have HBG := Lib.hid (fun (w1 : World) => beginnings_calls R fv tv w1)
  obtain ⟨⟨gf, cf, rfl, hgf, hcf⟩, ⟨gt, ct, rfl, hgt, hct⟩⟩ := id hI
  have v0 := Vals.newL w w.heap.size (rgl R (.slice (some ⟨gf, 0, none⟩) 12 cf) (.slice (some ⟨gt, 0, none⟩) 12 ct)) 24 rfl
  have b0 := below_alloc w (.cells (rgl R (.slice (some ⟨gf, 0, none⟩) 12 cf) (.slice (some ⟨gt, 0, none⟩) 12 ct)).toArray 24)
  have HV0 := Lib.hid (And.intro v0 b0)
  clear hcf hct v0 b0
  simp only [rgl] at HV0
  refine (callsIn_wide (n := 9)).1 ?_
  refine callsIn_of_wp_marks Try.func5 rfl trivial ?_ rfl
  simp only [Try.ntmps5, List.size_toArray, List.length_cons, List.length_nil, Nat.reduceAdd, Nat.reduceSub, Array.replicate_succ, Array.replicate_zero, List.push_toArray, List.append_toArray, List.nil_append, List.cons_append]
  refine wpIn_wide.2 ?_
  go_wp2_with fail
  generalize w.alloc (.cells #[.int .i64 12, .int .i64 (R.sp : Int), .int .i64 (R.lo : Int), .int .i64 ((R.lo : Int) + 2), .int .i64 (R.tot : Int), .int .i64 (R.pu : Int), .int .i64 (R.wo : Int), .slice (some ⟨gf, 0, none⟩) 12 cf, .slice (some ⟨gt, 0, none⟩) 12 ct] 24) = w0 at *
  refine (HCH.out w0 HV0.out.2).mono ?_
  rintro e w1 ⟨rfl, b1⟩
  have v1 := HV0.out.1.mono b1
  have B1 := below_trans HV0.out.2 b1
  have c0 := v1.cell (i := 0) (by simp)
  have c1 := v1.cell (i := 1) (by simp)
  have c2 := v1.cell (i := 2) (by simp)
  have c3 := v1.cell (i := 3) (by simp)
  have c4 := v1.cell (i := 4) (by simp)
  have c5 := v1.cell (i := 5) (by simp)
  have c6 := v1.cell (i := 6) (by simp)
  have c7 := v1.cell (i := 7) (by simp)
  have c8 := v1.cell (i := 8) (by simp)
  simp only [List.getD_cons_zero, List.getD_cons_succ] at c0 c1 c2 c3 c4 c5 c6 c7 c8
  have hl1 := v1.lt
  obtain ⟨rq0, hrq0⟩ : ∃ q, w.heap.size = q := ⟨_, rfl⟩
  rw [hrq0] at v1 c0 c1 c2 c3 c4 c5 c6 c7 c8 hl1 ⊢
  have va := Vals.newL w1 w1.heap.size [.slice none 0 0] 22 rfl
  have ba := below_alloc w1 (.cells #[.slice none 0 0] 22)
  have vb := Vals.newL (w1.alloc (.cells #[.slice none 0 0] 22)) (w1.heap.size + 1) [.int .i64 (-1)] 3 (World.size_alloc _ _).symm
  have bb := below_alloc (w1.alloc (.cells #[.slice none 0 0] 22)) (.cells #[.int .i64 (-1)] 3)
  have HV1 := Lib.hid (And.intro ((v1.mono ba).mono bb) (And.intro (va.mono bb) (And.intro vb (B1.trans ((below_trans ba bb).mono B1.size)))))
  have HRQ := Lib.hid hrq0
  clear v1 b1 B1 va ba vb bb HV0 HCH hrq0
  go_wp2_with fail
  clear c0 c1 c2 c3 c4 c5 c6 c7 c8
  have hsz2 : ((w1.alloc (.cells #[.slice none 0 0] 22)).alloc (.cells #[.int .i64 (-1)] 3)).heap.size = w1.heap.size + 2 := by simp
  generalize (w1.alloc (.cells #[.slice none 0 0] 22)).alloc (.cells #[.int .i64 (-1)] 3) = w2 at *
  obtain ⟨bs, hbs⟩ : ∃ q, w1.heap.size = q := ⟨_, rfl⟩
  obtain ⟨bl, hbl⟩ : ∃ q, w1.heap.size + 1 = q := ⟨_, rfl⟩
  have hsl : bs ≠ bl := by omega
  have hsz3 : bl < w2.heap.size ∧ bs < w2.heap.size := by omega
  rw [hbl, hbs] at HV1
  rw [hbl, hbs]
  have hb0 : rq0 < bs ∧ rq0 < bl := by omega
  clear hbs hbl hsz2 hl1
  refine (HBG.out w2).mono ?_
  rintro e w3 ⟨rfl, vq, b3⟩
  have HV3 := Lib.hid (And.intro (HV1.out.1.mono b3) (And.intro (HV1.out.2.1.mono b3) (And.intro (HV1.out.2.2.1.mono b3) (HV1.out.2.2.2.trans (b3.mono HV1.out.2.2.2.size)))))
  have hbq : bs < w2.heap.size ∧ bl < w2.heap.size := by omega
  have HVQ := Lib.hid vq
  have hq3 := vq.lt
  obtain ⟨rq, hrq⟩ : ∃ q, w2.heap.size = q := ⟨_, rfl⟩
  rw [hrq] at HVQ hbq hq3 ⊢
  clear HV1 HBG vq b3 hsz3 hrq
  go_wp2_with fail

  obtain ⟨m, hm⟩ : ∃ m, R.sp - 1 = m := ⟨_, rfl⟩
  have HM := Lib.hid hm
  have h3 := hR.s2
  have hlo := hR.lo
  have hm2 : 1 ≤ m ∧ m ≤ 2 := by omega
  clear hm
  have HRR := Lib.hid hR
  have HII := Lib.hid hI
  obtain ⟨k3, hk3⟩ : ∃ k, w3.heap.size = k := ⟨_, rfl⟩
  have hq3' : rq < k3 := by omega
  have HK3 := Lib.hid hk3
  have hlt0 : w.heap.size ≤ rq0 := by have := HRQ.out; omega
  clear hk3 hq3
  refine (wpIn_wide (n := 9)).1 ?_
  refine' wpIn_rangeSeen (α := Beg) (lb := #[.pointer (some ⟨rq, 0, none⟩)]) rfl (enters_of Try.func40 (by kernel_rfl) rfl) (fun x : Beg => #[.slice (some ⟨x.g, 0, none⟩) (R.sp - 1) x.c]) (fun _ => rfl) (fun k => k = bs ∨ k = bl) (begG R (w3.heap.size + 2))
    (fun W => Vals W rq0 (rgl R (.slice (some ⟨gf, 0, none⟩) 12 cf) (.slice (some ⟨gt, 0, none⟩) 12 ct)) ∧ Below w.heap.size w W ∧ w3.heap.size ≤ W.heap.size ∧ Found R (w3.heap.size + 3) W bs bl) ?_ ?_ ?_ ?_ ?_ (fun x => { tmps := #[.agg #[.int .i64 12, .int .i64 (R.sp : Int), .int .i64 (R.lo : Int), .int .i64 ((R.lo : Int) + 2), .int .i64 (R.tot : Int), .int .i64 (R.pu : Int), .int .i64 (R.wo : Int), .slice (some ⟨gf, 0, none⟩) 12 cf, .slice (some ⟨gt, 0, none⟩) 12 ct], .pointer (some ⟨rq0, 0, none⟩), .slice none 0 0, .int .i64 0, .int .i64 0, .int .i64 0, .pointer (some ⟨bs, 0, none⟩), .pointer (some ⟨bl, 0, none⟩), .slice (some ⟨x.g, 0, none⟩) (R.sp - 1) x.c, undef, undef, undef, undef, .agg #[.int .i64 12, .int .i64 (R.sp : Int), .int .i64 (R.lo : Int), .int .i64 ((R.lo : Int) + 2), .int .i64 (R.tot : Int), .int .i64 (R.pu : Int), .int .i64 (R.wo : Int), .slice (some ⟨gf, 0, none⟩) 12 cf, .slice (some ⟨gt, 0, none⟩) 12 ct], .int .i64 0, .int .i64 0, .bool false, undef, .agg #[.int .i64 12, .int .i64 (R.sp : Int), .int .i64 (R.lo : Int), .int .i64 ((R.lo : Int) + 2), .int .i64 (R.tot : Int), .int .i64 (R.pu : Int), .int .i64 (R.wo : Int), .slice (some ⟨gf, 0, none⟩) 12 cf, .slice (some ⟨gt, 0, none⟩) 12 ct], .func (.func 40) #[] #[.pointer (some ⟨rq, 0, none⟩)], .slice (some ⟨x.g, 0, none⟩) (R.sp - 1) x.c, undef, undef, undef, undef, undef, undef, undef, undef, undef, undef, undef, undef, undef, undef, undef, undef, undef, undef, undef, undef, undef, undef, undef, undef, undef, undef, undef, undef, undef, undef, undef, undef, undef, undef, undef, undef, undef, undef, undef, undef, undef, undef, undef, undef, undef, undef, undef, undef, undef, undef], defers := [] }) ?_ ?_ ?_
  case refine'_1 =>
    rintro x s W W' row ⟨⟨g, c, e1, ⟨h1, h2, h2'⟩, h4⟩, h5, h6⟩ hg hr
    refine ⟨⟨g, c, e1, ⟨Nat.lt_of_lt_of_le h1 hg.size, h2, h2'⟩, fun i hi => (grown_cell hg hr (h4 i hi))⟩, h5, Nat.lt_of_lt_of_le h6 hg.size⟩
  case refine'_2 =>
    rintro s W W' row ⟨h1, h2, h3, sv, lv, v1, v2, h4⟩ hg hr
    refine ⟨grown_vals hg hr h1, h2.grown hg h2.size (fun k e => by have := (hr k e).1; have := HK3.out; have := HRQ.out; omega), Nat.le_trans h3 hg.size, sv, lv, grown_vals hg hr v1, grown_vals hg hr v2, ?_⟩
    rcases h4 with h4 | ⟨ad, c, e, h5, h6, h7⟩
    · exact .inl h4
    · exact .inr ⟨ad, c, e, h5, grown_owns hg hr h6, h7⟩
  case refine'_3 =>
    rintro W p u hp ⟨h1, h2, h3, sv, lv, v1, v2, h4⟩
    have hk := HK3.out
    refine ⟨h1.other p (by omega) u, h2.setCell (by omega) u, by simpa [World.setCell] using h3, sv, lv, v1.other p (by omega) u, v2.other p (by omega) u, ?_⟩
    rcases h4 with h4 | ⟨ad, c, e, h5, h6, h7⟩
    · exact .inl h4
    · exact .inr ⟨ad, c, e, h5, ownsRow_other h6 p (fun e => by have := (ownsRow_block h6 _ e).1; omega) u, h7⟩
  case refine'_4 => exact ⟨HV3.out.1, HV3.out.2.2.2, Nat.le_refl _, _, _, HV3.out.2.1, HV3.out.2.2.1, .inl ⟨rfl, rfl⟩⟩
  case refine'_5 =>
    rintro l J W hb hsz hJ hY h0
    rw [← hsz] at hJ hY
    exact beg_in R _ _ rq l _ J W HRR.out (HVQ.out.mono hb) (fun h => by rcases h with h | h <;> omega) (fun k hk h => by have := HK3.out; rcases h with h | h <;> omega) hJ hY h0
  case refine'_6 =>
    rintro l x W K hK
    gi_wp2
    exact hK
  case refine'_7 =>
    rintro l x W ⟨hv0, hbw, hszw, sv, lv, vs, vl, hst⟩ ⟨hF, hxs, hfb⟩
    have HIW := Lib.hid (HII.out.mono hbw)
    have BG := Lib.hid (cbegin_calls R _ _ _ x.e W HRR.out HIW.out hxs hF)
    have HXS := Lib.hid hxs
    have HFF := Lib.hid hF
    have c0 := hv0.cell (i := 0) (by simp [rgl])
    have c1 := hv0.cell (i := 1) (by simp [rgl])
    have c2 := hv0.cell (i := 2) (by simp [rgl])
    have c3 := hv0.cell (i := 3) (by simp [rgl])
    have c4 := hv0.cell (i := 4) (by simp [rgl])
    have c5 := hv0.cell (i := 5) (by simp [rgl])
    have c6 := hv0.cell (i := 6) (by simp [rgl])
    have c7 := hv0.cell (i := 7) (by simp [rgl])
    have c8 := hv0.cell (i := 8) (by simp [rgl])
    simp only [rgl, List.getD_cons_zero, List.getD_cons_succ] at c0 c1 c2 c3 c4 c5 c6 c7 c8
    have hl0 := hv0.lt
    have HV0 := Lib.hid hv0
    have HBW := Lib.hid hbw
    have HVV := Lib.hid (And.intro vs (And.intro vl hst))
    clear hF hxs hv0 hbw vs vl hst
    gi_wp2_with fail
    refine ⟨trivial, ?_⟩
    refine ((callsIn_wide.2 BG.out).inRound _).mono ?_
    rintro e w4 ⟨cb, rb, rfl, F⟩
    have b4 := F.below

    have HF4 := Lib.hid F
    have k11 := F.cc.cell (i := 11) (by simp [ccl9])
    have k12 := F.cc.cell (i := 12) (by simp [ccl9])
    simp only [ccl9, List.getD_cons_zero, List.getD_cons_succ] at k11 k12
    have hcb := F.cc.lt
    obtain ⟨tb, cap, l1, l2, l3, l4⟩ := F.lv 12 (by omega)
    rw [show 11 + R.sp - 12 = m by have := HM.out; omega] at l1
    have hKC := codeE_lt HRR.out HXS.out
    have hPB := PF_bound HRR.out (e := x.e) (R.sp - 1) (by omega) (fun i hi => HXS.out i (by omega))
    have hUB := sumE_le (R := R) (e := x.e) (R.sp - 1) (fun i hi => HXS.out i (by omega))
    have ABV := Lib.hid (fun (w5 : World) (hb : Below W.heap.size W w5) => above_calls R (.slice (some ⟨gf, 0, none⟩) 12 cf) (.slice (some ⟨gt, 0, none⟩) 12 ct) (.slice (some ⟨x.g, 0, none⟩) (R.sp - 1) x.c) x.e w5 HRR.out HXS.out (HFF.out.mono hb))
    have FOL := Lib.hid (fun (w5 : World) (hb : Below w4.heap.size w4 w5) (hrt : 0 ≤ RT R x.e 12 (codeE R x.e (R.sp - 1)) (sumE R x.e (R.sp - 1))) => follow_calls W w5 cb rb R (.slice (some ⟨gf, 0, none⟩) 12 cf) (.slice (some ⟨gt, 0, none⟩) 12 ct) (.slice (some ⟨x.g, 0, none⟩) (R.sp - 1) x.c) x.e _ _ HRR.out HIW.out HXS.out HFF.out (HF4.out.call hb) (way_start HRR.out HXS.out hrt))
    have hMB := RT_bound HRR.out HXS.out 12 (Nat.le_refl _) (codeE R x.e (R.sp - 1)) (sumE R x.e (R.sp - 1))
    have hC16 : cds R ≤ 16 := by have := HRR.out.cds; omega
    obtain ⟨KC, hKC'⟩ : ∃ z, codeE R x.e (R.sp - 1) = z := ⟨_, rfl⟩
    obtain ⟨P, hP⟩ : ∃ z, PF R x.e (R.sp - 1) = z := ⟨_, rfl⟩
    obtain ⟨U, hU⟩ : ∃ z, sumE R x.e (R.sp - 1) = z := ⟨_, rfl⟩
    rw [hKC', hU] at hMB FOL
    rw [hKC'] at hKC
    rw [hU] at hUB ABV
    rw [hP] at hPB FOL
    have hU37 : U < 37 := by omega
    have l5 := l4 KC U hKC hU37
    obtain ⟨M, hM⟩ : ∃ z, RT R x.e 12 KC U = z := ⟨_, rfl⟩
    rw [hM] at hMB FOL l5
    obtain ⟨IX, hIX⟩ : ∃ z, KC * 37 + U = z := ⟨_, rfl⟩
    obtain ⟨CL, hCL⟩ : ∃ z, cds R * 37 = z := ⟨_, rfl⟩
    obtain ⟨E1, hE1⟩ : ∃ z, 12 + R.sp = z := ⟨_, rfl⟩
    rw [hIX] at l5
    rw [hCL] at l1
    rw [hE1] at k12
    have hIXl : IX < CL := by omega
    have q1 : IntKind.i64.wrap ((KC : Int) * 37) = (KC : Int) * 37 := IntWalk.i64_in _ (by omega)
    have q2 : IntKind.i64.wrap ((KC : Int) * 37 + (U : Int)) = (IX : Int) := by rw [IntWalk.i64_in _ (by omega)]; omega
    have x0 : (0 : Int) ≤ (IX : Int) := by omega
    have x1 : (IX : Int) < (CL : Int) := by omega
    have x2 : (0 : Int) ≤ (m : Int) := by omega
    have x3 : (m : Int) < (E1 : Int) := by omega
    have p1 : P ≤ 30000 := by omega
    have p0 : 0 ≤ P := hPB.1
    have m0 : -1 ≤ M := hMB.1
    have m1 : M ≤ 144000 := by omega
    have hl4 : rq0 < w4.heap.size := Nat.lt_of_lt_of_le hl0 b4.size
    have HSS := Lib.hid (fun (w5 : World) (hb : Below w4.heap.size w4 w5) => (show w5.cell? ⟨cb, 12, none⟩ = some (.slice (some ⟨rb, 0, none⟩) E1 E1) ∧ w5.cell? ⟨cb, 11, none⟩ = some (.int .i64 37) ∧ w5.cell? ⟨rb, m, none⟩ = some (.slice (some ⟨tb, 0, none⟩) CL cap) ∧ w5.cell? ⟨tb, IX, none⟩ = some (.int .i64 M) ∧ w5.cell? ⟨rq0, 0, none⟩ = some (.int .i64 12) ∧ w5.cell? ⟨rq0, 1, none⟩ = some (.int .i64 (R.sp : Int)) ∧ w5.cell? ⟨rq0, 2, none⟩ = some (.int .i64 (R.lo : Int)) ∧ w5.cell? ⟨rq0, 3, none⟩ = some (.int .i64 ((R.lo : Int) + 2)) ∧ w5.cell? ⟨rq0, 4, none⟩ = some (.int .i64 (R.tot : Int)) ∧ w5.cell? ⟨rq0, 5, none⟩ = some (.int .i64 (R.pu : Int)) ∧ w5.cell? ⟨rq0, 6, none⟩ = some (.int .i64 (R.wo : Int)) ∧ w5.cell? ⟨rq0, 7, none⟩ = some (.slice (some ⟨gf, 0, none⟩) 12 cf) ∧ w5.cell? ⟨rq0, 8, none⟩ = some (.slice (some ⟨gt, 0, none⟩) 12 ct) from
      ⟨(hb.cell (p := ⟨cb, 12, none⟩) hcb).trans k12, (hb.cell (p := ⟨cb, 11, none⟩) hcb).trans k11, (hb.cell (p := ⟨rb, m, none⟩) (Nat.lt_trans l2 l3)).trans l1, (hb.cell (p := ⟨tb, IX, none⟩) l3).trans l5,
        ((b4.trans (hb.mono b4.size)).cell (p := ⟨rq0, 0, none⟩) hl0).trans c0, ((b4.trans (hb.mono b4.size)).cell (p := ⟨rq0, 1, none⟩) hl0).trans c1, ((b4.trans (hb.mono b4.size)).cell (p := ⟨rq0, 2, none⟩) hl0).trans c2, ((b4.trans (hb.mono b4.size)).cell (p := ⟨rq0, 3, none⟩) hl0).trans c3, ((b4.trans (hb.mono b4.size)).cell (p := ⟨rq0, 4, none⟩) hl0).trans c4, ((b4.trans (hb.mono b4.size)).cell (p := ⟨rq0, 5, none⟩) hl0).trans c5, ((b4.trans (hb.mono b4.size)).cell (p := ⟨rq0, 6, none⟩) hl0).trans c6, ((b4.trans (hb.mono b4.size)).cell (p := ⟨rq0, 7, none⟩) hl0).trans c7, ((b4.trans (hb.mono b4.size)).cell (p := ⟨rq0, 8, none⟩) hl0).trans c8⟩))
    rw [hKC', hP, HM.out]
    rw [HM.out] at ABV
    have HB4 := Lib.hid b4
    have HPM := Lib.hid hPB
    clear hKC' hP hU hM hIX hCL hE1 l1 l5 l4 k11 k12 c0 c1 c2 c3 c4 c5 c6 c7 c8 hPB hUB hKC hMB b4 F hC16
    gi_wp2
    refine wpIn_region_held (S := fun w' => w'.cell? ⟨cb, 12, none⟩ = some (.slice (some ⟨rb, 0, none⟩) E1 E1) ∧ w'.cell? ⟨cb, 11, none⟩ = some (.int .i64 37) ∧ w'.cell? ⟨rb, m, none⟩ = some (.slice (some ⟨tb, 0, none⟩) CL cap) ∧ w'.cell? ⟨tb, IX, none⟩ = some (.int .i64 M) ∧ w'.cell? ⟨rq0, 0, none⟩ = some (.int .i64 12) ∧ w'.cell? ⟨rq0, 1, none⟩ = some (.int .i64 (R.sp : Int)) ∧ w'.cell? ⟨rq0, 2, none⟩ = some (.int .i64 (R.lo : Int)) ∧ w'.cell? ⟨rq0, 3, none⟩ = some (.int .i64 ((R.lo : Int) + 2)) ∧ w'.cell? ⟨rq0, 4, none⟩ = some (.int .i64 (R.tot : Int)) ∧ w'.cell? ⟨rq0, 5, none⟩ = some (.int .i64 (R.pu : Int)) ∧ w'.cell? ⟨rq0, 6, none⟩ = some (.int .i64 (R.wo : Int)) ∧ w'.cell? ⟨rq0, 7, none⟩ = some (.slice (some ⟨gf, 0, none⟩) 12 cf) ∧ w'.cell? ⟨rq0, 8, none⟩ = some (.slice (some ⟨gt, 0, none⟩) 12 ct)) (by kernel_rfl) (by kernel_rfl) (HSS.out _ ((Below.refl _ _).drew)) (fun hHeld => ?_)
    refine wpAnyH_take (i := 0) (v := ?vq0) rfl (by kernel_rfl) (by kernel_rfl) (by kernel_rfl) (fun _ _ _ h => h) (Or.inl ⟨by rfl, ?hyq0⟩) (by assumption) ?_
    case hyq0 => (intro w hSw; (try dsimp only at hSw); (go_simp) <;> (with_reducible rfl))
    try simp only [Act.put, List.getElem_toArray, List.getElem_cons_zero, List.getElem_cons_succ, List.setIfInBounds_toArray, List.set_cons_zero, List.set_cons_succ]
    refine wpAnyH_take (i := 1) (v := ?vq1) rfl (by kernel_rfl) (by kernel_rfl) (by kernel_rfl) (fun _ _ _ h => h) (Or.inl ⟨by rfl, ?hyq1⟩) (by assumption) ?_
    case hyq1 => (intro w hSw; (try dsimp only at hSw); (go_simp) <;> (with_reducible rfl))
    try simp only [Act.put, List.getElem_toArray, List.getElem_cons_zero, List.getElem_cons_succ, List.setIfInBounds_toArray, List.set_cons_zero, List.set_cons_succ]
    refine wpAnyH_take (i := 2) (v := ?vq2) rfl (by kernel_rfl) (by kernel_rfl) (by kernel_rfl) (fun _ _ _ h => h) (Or.inl ⟨by rfl, ?hyq2⟩) (by assumption) ?_
    case hyq2 => (intro w hSw; (try dsimp only at hSw); (go_simp) <;> (with_reducible rfl))
    try simp only [Act.put, List.getElem_toArray, List.getElem_cons_zero, List.getElem_cons_succ, List.setIfInBounds_toArray, List.set_cons_zero, List.set_cons_succ]
    refine wpAnyH_take (i := 3) (v := ?vq3) rfl (by kernel_rfl) (by kernel_rfl) (by kernel_rfl) (fun _ _ _ h => h) (Or.inl ⟨by rfl, ?hyq3⟩) (by assumption) ?_
    case hyq3 => (intro w hSw; (try dsimp only at hSw); (go_simp) <;> (with_reducible rfl))
    try simp only [Act.put, List.getElem_toArray, List.getElem_cons_zero, List.getElem_cons_succ, List.setIfInBounds_toArray, List.set_cons_zero, List.set_cons_succ]
    refine wpAnyH_take (i := 4) (v := ?vq4) rfl (by kernel_rfl) (by kernel_rfl) (by kernel_rfl) (fun _ _ _ h => h) (Or.inl ⟨by rfl, ?hyq4⟩) (by assumption) ?_
    case hyq4 => (intro w hSw; (try dsimp only at hSw); (go_simp) <;> (with_reducible rfl))
    try simp only [Act.put, List.getElem_toArray, List.getElem_cons_zero, List.getElem_cons_succ, List.setIfInBounds_toArray, List.set_cons_zero, List.set_cons_succ]
    refine wpAnyH_take (i := 5) (v := ?vq5) rfl (by kernel_rfl) (by kernel_rfl) (by kernel_rfl) (fun _ _ _ h => h) (Or.inl ⟨by rfl, ?hyq5⟩) (by assumption) ?_
    case hyq5 => (intro w hSw; (try dsimp only at hSw); (go_simp) <;> (with_reducible rfl))
    try simp only [Act.put, List.getElem_toArray, List.getElem_cons_zero, List.getElem_cons_succ, List.setIfInBounds_toArray, List.set_cons_zero, List.set_cons_succ]
    refine wpAnyH_take (i := 6) (v := ?vq6) rfl (by kernel_rfl) (by kernel_rfl) (by kernel_rfl) (fun _ _ _ h => h) (Or.inl ⟨by rfl, ?hyq6⟩) (by assumption) ?_
    case hyq6 => (intro w hSw; (try dsimp only at hSw); (go_simp) <;> (with_reducible rfl))
    try simp only [Act.put, List.getElem_toArray, List.getElem_cons_zero, List.getElem_cons_succ, List.setIfInBounds_toArray, List.set_cons_zero, List.set_cons_succ]
    refine wpAnyH_take (i := 7) (v := ?vq7) rfl (by kernel_rfl) (by kernel_rfl) (by kernel_rfl) (fun _ _ _ h => h) (Or.inl ⟨by rfl, ?hyq7⟩) (by assumption) ?_
    case hyq7 => (intro w hSw; (try dsimp only at hSw); (go_simp) <;> (with_reducible rfl))
    try simp only [Act.put, List.getElem_toArray, List.getElem_cons_zero, List.getElem_cons_succ, List.setIfInBounds_toArray, List.set_cons_zero, List.set_cons_succ]
    refine wpAnyH_take (i := 8) (v := ?vq8) rfl (by kernel_rfl) (by kernel_rfl) (by kernel_rfl) (fun _ _ _ h => h) (Or.inl ⟨by rfl, ?hyq8⟩) (by assumption) ?_
    case hyq8 => (intro w hSw; (try dsimp only at hSw); (go_simp) <;> (with_reducible rfl))
    try simp only [Act.put, List.getElem_toArray, List.getElem_cons_zero, List.getElem_cons_succ, List.setIfInBounds_toArray, List.set_cons_zero, List.set_cons_succ]
    refine wpAnyH_take (i := 9) (v := ?vq9) rfl (by kernel_rfl) (by kernel_rfl) (by kernel_rfl) (fun _ _ _ h => h) (Or.inl ⟨by rfl, ?hyq9⟩) (by assumption) ?_
    case hyq9 => (intro w hSw; (try dsimp only at hSw); (go_simp) <;> (with_reducible rfl))
    try simp only [Act.put, List.getElem_toArray, List.getElem_cons_zero, List.getElem_cons_succ, List.setIfInBounds_toArray, List.set_cons_zero, List.set_cons_succ]
    refine wpAnyH_take (i := 10) (v := ?vq10) rfl (by kernel_rfl) (by kernel_rfl) (by kernel_rfl) (fun _ _ _ h => h) (Or.inl ⟨by rfl, ?hyq10⟩) (by assumption) ?_
    case hyq10 => (intro w hSw; (try dsimp only at hSw); (go_simp) <;> (with_reducible rfl))
    try simp only [Act.put, List.getElem_toArray, List.getElem_cons_zero, List.getElem_cons_succ, List.setIfInBounds_toArray, List.set_cons_zero, List.set_cons_succ]
    refine wpAnyH_take (i := 11) (v := ?vq11) rfl (by kernel_rfl) (by kernel_rfl) (by kernel_rfl) (fun _ _ _ h => h) (Or.inl ⟨by rfl, ?hyq11⟩) (by assumption) ?_
    case hyq11 => (intro w hSw; (try dsimp only at hSw); (go_simp) <;> (with_reducible rfl))
    try simp only [Act.put, List.getElem_toArray, List.getElem_cons_zero, List.getElem_cons_succ, List.setIfInBounds_toArray, List.set_cons_zero, List.set_cons_succ]
    refine wpAnyH_take (i := 12) (v := ?vq12) rfl (by kernel_rfl) (by kernel_rfl) (by kernel_rfl) (fun _ _ _ h => h) (Or.inl ⟨by rfl, ?hyq12⟩) (by assumption) ?_
    case hyq12 => (intro w hSw; (try dsimp only at hSw); (go_simp) <;> (with_reducible rfl))
    try simp only [Act.put, List.getElem_toArray, List.getElem_cons_zero, List.getElem_cons_succ, List.setIfInBounds_toArray, List.set_cons_zero, List.set_cons_succ]
    refine wpAnyH_take (i := 13) (v := ?vq13) rfl (by kernel_rfl) (by kernel_rfl) (by kernel_rfl) (fun _ _ _ h => h) (Or.inl ⟨by rfl, ?hyq13⟩) (by assumption) ?_
    case hyq13 => (intro w hSw; (try dsimp only at hSw); (go_simp) <;> (with_reducible rfl))
    try simp only [Act.put, List.getElem_toArray, List.getElem_cons_zero, List.getElem_cons_succ, List.setIfInBounds_toArray, List.set_cons_zero, List.set_cons_succ]
    refine wpAnyH_take (i := 14) (v := ?vq14) rfl (by kernel_rfl) (by kernel_rfl) (by kernel_rfl) (fun _ _ _ h => h) (Or.inl ⟨by rfl, ?hyq14⟩) (by assumption) ?_
    case hyq14 => (intro w hSw; (try dsimp only at hSw); (go_simp) <;> (with_reducible rfl))
    try simp only [Act.put, List.getElem_toArray, List.getElem_cons_zero, List.getElem_cons_succ, List.setIfInBounds_toArray, List.set_cons_zero, List.set_cons_succ]
    refine wpAnyH_take (i := 15) (v := ?vq15) rfl (by kernel_rfl) (by kernel_rfl) (by kernel_rfl) (fun _ _ _ h => h) (Or.inl ⟨by rfl, ?hyq15⟩) (by assumption) ?_
    case hyq15 => (intro w hSw; (try dsimp only at hSw); (go_simp) <;> (with_reducible rfl))
    try simp only [Act.put, List.getElem_toArray, List.getElem_cons_zero, List.getElem_cons_succ, List.setIfInBounds_toArray, List.set_cons_zero, List.set_cons_succ]
    refine wpAnyH_ready (rs := [16]) (by kernel_rfl) (by simp) ?_
    refine AllReadyH.cons rfl (fun K hK => ?_) AllReadyH.nil
    go_simp
    go_at_call 18
    refine (ABV.out _ HB4.out.drew).mono ?_
    rintro e w5 ⟨rfl, b5⟩
    have b5' : Below w4.heap.size w4 w5 := ((Below.refl w4.heap.size w4).drew).trans b5
    have HB5 := Lib.hid b5'
    clear b5 b5'
    go_wp2_with fail
    refine hK.out _ _ (HSS.out _ HB5.out) (fun hHeld => ?_)
    clear hK K
    try simp only [Act.put, List.getElem_toArray, List.getElem_cons_zero, List.getElem_cons_succ, List.setIfInBounds_toArray, List.set_cons_zero, List.set_cons_succ]
    refine wpAnyH_take (i := 17) (v := ?vq17) rfl (by kernel_rfl) (by kernel_rfl) (by kernel_rfl) (fun _ _ _ h => h) (Or.inl ⟨by rfl, ?hyq17⟩) (by assumption) ?_
    case hyq17 => (intro w hSw; (try dsimp only at hSw); (go_simp) <;> (with_reducible rfl))
    try simp only [Act.put, List.getElem_toArray, List.getElem_cons_zero, List.getElem_cons_succ, List.setIfInBounds_toArray, List.set_cons_zero, List.set_cons_succ]
    refine wpAnyH_take (i := 18) (v := ?vq18) rfl (by kernel_rfl) (by kernel_rfl) (by kernel_rfl) (fun _ _ _ h => h) (Or.inl ⟨by rfl, ?hyq18⟩) (by assumption) ?_
    case hyq18 => (intro w hSw; (try dsimp only at hSw); (go_simp) <;> (with_reducible rfl))
    try simp only [Act.put, List.getElem_toArray, List.getElem_cons_zero, List.getElem_cons_succ, List.setIfInBounds_toArray, List.set_cons_zero, List.set_cons_succ]
    refine wpAnyH_take (i := 19) (v := ?vq19) rfl (by kernel_rfl) (by kernel_rfl) (by kernel_rfl) (fun _ _ _ h => h) (Or.inl ⟨by rfl, ?hyq19⟩) (by assumption) ?_
    case hyq19 => (intro w hSw; (try dsimp only at hSw); (go_simp) <;> (with_reducible rfl))
    try simp only [Act.put, List.getElem_toArray, List.getElem_cons_zero, List.getElem_cons_succ, List.setIfInBounds_toArray, List.set_cons_zero, List.set_cons_succ]
    refine wpAnyH_take (i := 20) (v := ?vq20) rfl (by kernel_rfl) (by kernel_rfl) (by kernel_rfl) (fun _ _ _ h => h) (Or.inl ⟨by rfl, ?hyq20⟩) (by assumption) ?_
    case hyq20 => (intro w hSw; (try dsimp only at hSw); (go_simp) <;> (with_reducible rfl))
    try simp only [Act.put, List.getElem_toArray, List.getElem_cons_zero, List.getElem_cons_succ, List.setIfInBounds_toArray, List.set_cons_zero, List.set_cons_succ]
    refine wpAnyH_done (by kernel_rfl) (onlyEnd_mkC ?_) _
    clear hHeld HSS ABV
    have BW5 := Lib.hid (HB4.out.trans (HB5.out.mono HB4.out.size))
    have hV := HVV.out
    have vs5 := hV.1.mono BW5.out
    have vl5 := hV.2.1.mono BW5.out
    have cl := vl5.cell (i := 0) (by simp)
    have cs := vs5.cell (i := 0) (by simp)
    simp only [List.getD_cons_zero] at cl cs
    have fs5 := vs5.frozen 0
    have fl5 := vl5.frozen 0
    have hls5 := vs5.lt
    have hll5 := vl5.lt
    have q3 : IntKind.i64.wrap (P + M) = P + M := IntWalk.i64_in _ (by omega)
    have hk3 := HK3.out
    have STAY := Lib.hid (show KeepsFrom w3.heap.size W w5 ∧ KeepC (fun k => k = bs ∨ k = bl) W w5 ∧ (Vals w5 rq0 (rgl R (.slice (some ⟨gf, 0, none⟩) 12 cf) (.slice (some ⟨gt, 0, none⟩) 12 ct)) ∧ Below w.heap.size w w5 ∧ w3.heap.size ≤ w5.heap.size ∧ Found R (w3.heap.size + 3) w5 bs bl) from
      ⟨keepsFrom_below BW5.out, KeepC.of_below BW5.out, HV0.out.mono BW5.out, HBW.out.trans (BW5.out.mono HBW.out.size), Nat.le_trans hszw BW5.out.size, sv, lv, vs5, vl5, by
        rcases hV.2.2 with h | ⟨ad, c, e, h5, h6, h7⟩
        · exact .inl h
        · exact .inr ⟨ad, c, e, h5, ownsRow_mono h6 BW5.out, h7⟩⟩)
    have FND := Lib.hid (fun (w6 : World) (b6 : Below w5.heap.size w5 w6) (ad : Option Addr) (c : Nat) (st : Nat → Nat) (cst : Int) (h0 : 0 ≤ cst) (hown : w6.ownsRow w5.heap.size 3 1 (.slice ad 12 c) 12 (stepsL st 12)) (hf : Fine R st cst) =>
      (show KeepsFrom w3.heap.size W ((w6.setCell ⟨bs, 0, none⟩ (.slice ad 12 c)).setCell ⟨bl, 0, none⟩ (.int .i64 cst)) ∧ KeepC (fun k => k = bs ∨ k = bl) W ((w6.setCell ⟨bs, 0, none⟩ (.slice ad 12 c)).setCell ⟨bl, 0, none⟩ (.int .i64 cst)) ∧ (Vals ((w6.setCell ⟨bs, 0, none⟩ (.slice ad 12 c)).setCell ⟨bl, 0, none⟩ (.int .i64 cst)) rq0 (rgl R (.slice (some ⟨gf, 0, none⟩) 12 cf) (.slice (some ⟨gt, 0, none⟩) 12 ct)) ∧ Below w.heap.size w ((w6.setCell ⟨bs, 0, none⟩ (.slice ad 12 c)).setCell ⟨bl, 0, none⟩ (.int .i64 cst)) ∧ w3.heap.size ≤ ((w6.setCell ⟨bs, 0, none⟩ (.slice ad 12 c)).setCell ⟨bl, 0, none⟩ (.int .i64 cst)).heap.size ∧ Found R (w3.heap.size + 3) ((w6.setCell ⟨bs, 0, none⟩ (.slice ad 12 c)).setCell ⟨bl, 0, none⟩ (.int .i64 cst)) bs bl) from by
        have BW6 := BW5.out.trans (b6.mono BW5.out.size)
        have hs5 := BW5.out.size
        have hs6 := b6.size
        have hbl : bl ≠ bs := fun h => hsl h.symm
        refine ⟨((keepsFrom_below BW6).trans ((KeepsOthers.setCell _ _ _).from _)).trans ((KeepsOthers.setCell _ _ _).from _), ((KeepC.of_below BW6).trans (KeepC.set _ ⟨bs, 0, none⟩ (.inl rfl) _)).trans (KeepC.set _ ⟨bl, 0, none⟩ (.inr rfl) _), ?_, ?_, ?_, _, _, ?_, ?_, .inr ⟨ad, c, st, rfl, ?_, hf, h0⟩⟩
        · exact ((HV0.out.mono BW6).other _ (by dsimp only; omega) _).other _ (by dsimp only; omega) _
        · exact ((HBW.out.trans (BW6.mono HBW.out.size)).setCell (by dsimp only; omega) _).setCell (by dsimp only; omega) _
        · simp only [size_set]; omega
        · exact ((vs5.mono b6).set 0 (.slice ad 12 c)).other ⟨bl, 0, none⟩ hbl _
        · exact ((vl5.mono b6).other ⟨bs, 0, none⟩ hsl _).set 0 _
        · have ho := owns_wide hown (BT := w3.heap.size + 3) (by omega)
          have ho2 := ownsRow_other ho ⟨bs, 0, none⟩ (fun e => by have := (ownsRow_block ho _ e).1; dsimp only at this; omega) (.slice ad 12 c)
          exact ownsRow_other ho2 ⟨bl, 0, none⟩ (fun e => by have := (ownsRow_block ho2 _ e).1; dsimp only at this; omega) (.int .i64 cst)))
    clear hV vs5 vl5 HVV HV0 HBW hk3
    by_cases hm0 : 0 ≤ M
    · by_cases hlv : lv < 0
      · skip
        gi_wp2_with fail
        refine ⟨trivial, ?_⟩
        refine ((callsIn_wide.2 (FOL.out _ HB5.out hm0)).inRound _).mono ?_
        rintro e w6 ⟨ad, c, st, rfl, hown, hf, b6⟩
        have RES := Lib.hid (FND.out w6 b6 ad c st (P + M) (by omega) hown hf)
        have fs6 : w6.frozen? ⟨bs, 0, none⟩ = false := (b6.frozen (p := ⟨bs, 0, none⟩) hls5).trans fs5
        have fl6 : w6.frozen? ⟨bl, 0, none⟩ = false := (b6.frozen (p := ⟨bl, 0, none⟩) hll5).trans fl5
        have cs6 := (b6.cell (p := ⟨bs, 0, none⟩) hls5).trans cs
        have cl6 := (b6.cell (p := ⟨bl, 0, none⟩) hll5).trans cl
        have hls6 := Nat.lt_of_lt_of_le hls5 b6.size
        have hll6 := Nat.lt_of_lt_of_le hll5 b6.size
        clear hown hf b6 fs5 fl5 cs cl FND STAY FOL
        gi_wp2
        exact ⟨RES.out.1, RES.out.2.1, RES.out.2.2.1, RES.out.2.2.2.1, Nat.le_trans RES.out.2.2.2.2.1 (Nat.le_of_eq (by simp only [size_set])), RES.out.2.2.2.2.2⟩
      · by_cases hlm : P + M < lv
        · skip
          gi_wp2_with fail
          refine ⟨trivial, ?_⟩
          refine ((callsIn_wide.2 (FOL.out _ HB5.out hm0)).inRound _).mono ?_
          rintro e w6 ⟨ad, c, st, rfl, hown, hf, b6⟩
          have RES := Lib.hid (FND.out w6 b6 ad c st (P + M) (by omega) hown hf)
          have fs6 : w6.frozen? ⟨bs, 0, none⟩ = false := (b6.frozen (p := ⟨bs, 0, none⟩) hls5).trans fs5
          have fl6 : w6.frozen? ⟨bl, 0, none⟩ = false := (b6.frozen (p := ⟨bl, 0, none⟩) hll5).trans fl5
          have cs6 := (b6.cell (p := ⟨bs, 0, none⟩) hls5).trans cs
          have cl6 := (b6.cell (p := ⟨bl, 0, none⟩) hll5).trans cl
          have hls6 := Nat.lt_of_lt_of_le hls5 b6.size
          have hll6 := Nat.lt_of_lt_of_le hll5 b6.size
          clear hown hf b6 fs5 fl5 cs cl FND STAY FOL
          gi_wp2
          exact ⟨RES.out.1, RES.out.2.1, RES.out.2.2.1, RES.out.2.2.2.1, Nat.le_trans RES.out.2.2.2.2.1 (Nat.le_of_eq (by simp only [size_set])), RES.out.2.2.2.2.2⟩
        · clear cs fs5 fl5 FOL FND
          gi_wp2
          exact STAY.out
    · clear cs fs5 fl5 FOL FND
      gi_wp2
      exact STAY.out
  case refine'_8 =>
    rintro D W hD ⟨h1, h2, h3, sv, lv, v1, v2, h4⟩ hK
    have cs := v1.cell (i := 0) (by simp)
    have cl := v2.cell (i := 0) (by simp)
    simp only [List.getD_cons_zero] at cs cl
    have hls := v1.lt
    have hll := v2.lt
    have hwD : w.heap.size ≤ D := by have := HK3.out; omega
    have HKK := Lib.hid hK
    have H2 := Lib.hid h2
    rcases h4 with ⟨rfl, rfl⟩ | ⟨ad, c, st, rfl, hown, hfine, hl0⟩
    · clear h1 v1 v2 hK h2
      dsimp only
      go_wp2
      refine leave_one (lo := w.heap.size) hwD HKK.out (fun W2 hb hc => ?_)
      exact ⟨_, results_tmp3 rfl _ _ _, .inl rfl, H2.out.trans hb⟩
    · have HO := Lib.hid hown
      have hl1 : ¬ lv < 0 := by omega
      have hk3 := HK3.out
      have HH := Lib.hid (show W.drew.cell? ⟨bs, 0, none⟩ = some (.slice ad 12 c) ∧ W.drew.cell? ⟨bl, 0, none⟩ = some (.int .i64 lv) from ⟨cs, cl⟩)
      clear h1 v1 v2 hK h2 hown
      dsimp only
      go_upto_region 14 with (fail)
      go_region_held3 (fun w' => w'.cell? ⟨bs, 0, none⟩ = some (.slice ad 12 c) ∧ w'.cell? ⟨bl, 0, none⟩ = some (.int .i64 lv)) (exact HH.out) (fail)
      go_wp2
      refine leave_one (lo := w.heap.size) (W := W.drew) hwD HKK.out (fun W2 hb hc => ?_)
      refine ⟨_, results_tmp3 rfl _ _ _, .inr ⟨ad, c, st, lv, rfl, ?_, hfine⟩, H2.out.drew.trans hb⟩
      have hO := HO.out
      obtain ⟨hl, h1⟩ := hO
      refine ⟨hl, ?_⟩
      rcases h1 with h1 | ⟨g, cap, cur, h0, hg0, hh, hrest⟩
      · exact .inl h1
      · exact .inr ⟨g, cap, cur, h0, by omega, hc g _ hh rfl, hrest⟩

end Go.Proofs
