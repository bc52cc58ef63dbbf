/- temper: the circle's fill. -/
import Derived.Test.YthkeekoljediiaaCircC
open Go.RowKit Go.Deep
namespace Go.Proofs
set_option linter.unusedVariables false
set_option linter.unusedSimpArgs false

/-- the blocks from lo to hi are as they were -/
def Same (lo hi : Nat) (w w' : World) : Prop := ∀ k, lo ≤ k → k < hi → w'.heap[k]? = w.heap[k]?
theorem Same.refl (lo hi : Nat) (w : World) : Same lo hi w w := fun _ _ _ => rfl
theorem Same.trans {lo hi : Nat} {a b c : World} (h : Same lo hi a b) (k : Same lo hi b c) : Same lo hi a c := fun i h1 h2 => (k i h1 h2).trans (h i h1 h2)
theorem Same.weak {lo hi lo' hi' : Nat} {a b : World} (h : Same lo hi a b) (h1 : lo ≤ lo') (h2 : hi' ≤ hi) : Same lo' hi' a b := fun i k1 k2 => h i (by omega) (by omega)
theorem Same.of_below {lo hi B : Nat} {a b : World} (h : Below B a b) (hB : hi ≤ B) : Same lo hi a b := fun i h1 h2 => h.block i (by omega)
theorem Same.setCell {lo hi : Nat} {a b : World} (h : Same lo hi a b) (p : Addr) (hp : p.block < lo ∨ hi ≤ p.block) (u : Value) : Same lo hi a (b.setCell p u) := fun i h1 h2 => by
  rw [Below.heap_setCell _ _ _ _ (show i ≠ p.block by omega)]
  exact h i h1 h2
theorem Same.alloc {lo hi : Nat} {a b : World} (h : Same lo hi a b) (hb : hi ≤ b.heap.size) (o : Obj) : Same lo hi a (b.alloc o) := h.trans (Same.of_below (below_alloc b o) hb)
theorem Same.drew {lo hi : Nat} {a b : World} (h : Same lo hi a b) : Same lo hi a b.drew := h
theorem Same.cell {lo hi : Nat} {w w' : World} (h : Same lo hi w w') {p : Addr} {v : Value} (hc : w.cell? p = some v) (h1 : lo ≤ p.block) (h2 : p.block < hi) : w'.cell? p = some v := by
  unfold World.cell? at hc ⊢
  rw [h p.block h1 h2]
  exact hc
theorem Same.frozen {lo hi : Nat} {w w' : World} (h : Same lo hi w w') {p : Addr} (h1 : lo ≤ p.block) (h2 : p.block < hi) : w'.frozen? p = w.frozen? p := by
  unfold World.frozen?
  rw [h p.block h1 h2]
theorem Vals.same {lo hi : Nat} {w w' : World} {b : Nat} {vs : List Value} (h : Vals w b vs) (hs : Same lo hi w w') (h1 : lo ≤ b) (h2 : b < hi) : Vals w' b vs := by
  obtain ⟨e, h⟩ := h
  exact ⟨e, (hs b h1 h2).trans h⟩

theorem made_vals (v : Value) (n : Nat) : madeCells #[v] n = (List.replicate n v).toArray := by
  apply Array.ext
  · simp [madeCells]
  · intro i h1 h2
    simp [madeCells, Nat.mod_one]
theorem run_make_vals {P : Program} (t e : TypeId) (z : Value) (bytes : Nat) (ht : P.underlying t = some (.slice e)) (h2 : (P.info? e).map (fun i => (i.zero, i.size, i.bytes)) = some (some z, 1, bytes)) (hz1 : z.cells = #[z]) (n : Nat) (hn : n * bytes ≤ 281474976710656) (hn' : n ≤ 1099511627776) :
    ∀ w : World, (Instr.makeSlice t (.int .i64 (n : Int)) (.int .i64 (n : Int))).run P w = .ok (.slice (some ⟨w.heap.size, 0, none⟩) n n) (w.alloc (.cells (Array.replicate n z) e)) := by
  intro w
  obtain ⟨i, hi, z0, z1, z2⟩ := info_parts h2
  obtain ⟨X, hX⟩ : ∃ X, n * bytes = X := ⟨_, rfl⟩
  have hr := run_make (P := P) w t e i _ ht hi z0 .i64 .i64 n n (by omega) (Int.le_refl _) (by rw [z2, ← Int.natCast_mul, Nat.mul_comm, hX]; omega) (by omega)
  rw [hz1, z1, Nat.mul_one] at hr
  simp only [Int.toNat_natCast] at hr
  rw [made_vals, List.toArray_replicate] at hr
  exact hr
theorem Vals.newA (w : World) (b : Nat) (v : Value) (n : Nat) (e : TypeId) (hb : b = w.heap.size) : Vals (w.alloc (.cells (Array.replicate n v) e)) b (List.replicate n v) := Vals.new w b _ _ e hb (by rw [List.toArray_replicate])

theorem size_set (w : World) (p : Addr) (u : Value) : (w.setCell p u).heap.size = w.heap.size := by simp [World.setCell]
theorem info_intC : (Try.prog.info? 3).map (fun i => (i.zero, i.size, i.bytes)) = some (some (.int .i64 0), 1, 8) := by kernel_rfl
theorem info_rowC : (Try.prog.info? 22).map (fun i => (i.zero, i.size, i.bytes)) = some (some (.slice none 0 0), 1, 24) := by kernel_rfl

/-- a level of the table whose first k costs are done -/
def tabL (f : Nat → Nat → Int) (m k : Nat) : List Value := (List.range m).map fun i => .int .i64 (if i < k then f (i / 37) (i % 37) else 0)
theorem tabL_len (f : Nat → Nat → Int) (m k : Nat) : (tabL f m k).length = m := by simp [tabL]
theorem tabL_zero (f : Nat → Nat → Int) (m : Nat) : tabL f m 0 = List.replicate m (.int .i64 0) := by
  refine List.ext_getElem (by simp [tabL]) fun i h1 h2 => ?_
  simp [tabL]
theorem tabL_set (f : Nat → Nat → Int) (m k : Nat) : (tabL f m k).set k (.int .i64 (f (k / 37) (k % 37))) = tabL f m (k + 1) := by
  refine List.ext_getElem (by simp [tabL]) fun i h1 h2 => ?_
  simp only [tabL, List.getElem_set, List.getElem_map, List.getElem_range]
  by_cases h : k = i
  · subst h
    rw [if_pos rfl, if_pos (by omega)]
  · rw [if_neg h]
    by_cases h3 : i < k
    · rw [if_pos h3, if_pos (by omega)]
    · rw [if_neg h3, if_neg (by omega)]
theorem tabL_get (f : Nat → Nat → Int) (C c s : Nat) (hc : c < C) (hs : s < 37) : (tabL f (C * 37) (C * 37)).getD (c * 37 + s) undef = .int .i64 (f c s) := by
  have h : c * 37 + s < C * 37 := by omega
  simp only [tabL, List.getD, List.getElem?_map]
  rw [List.getElem?_range h]
  simp only [Option.map_some, Option.getD_some]
  rw [if_pos h, show (c * 37 + s) / 37 = c by omega, show (c * 37 + s) % 37 = s by omega]

/-- the circle while its table is filled: n levels are done -/
structure FSt (W0 w : World) (cb rb : Nat) (R : Rg) (fv tv fs : Value) (first : Nat → Nat) (n : Nat) : Prop where
  below : Below W0.heap.size W0 w
  h1 : W0.heap.size ≤ cb
  h2 : cb < rb
  cc : Vals w cb (ccl9 R fv tv fs (.slice (some ⟨rb, 0, none⟩) (12 + R.sp) (12 + R.sp)))
  rows : ∃ rows, Vals w rb rows ∧ rows.length = 12 + R.sp
  lv : ∀ k, k < n → Lvl w w.heap.size rb (11 + R.sp - k) (cds R) (RT R first k)
/-- the same while a level is filled: k costs of level n are done -/
structure GSt (W0 w : World) (cb rb tb : Nat) (R : Rg) (fv tv fs : Value) (first : Nat → Nat) (n k : Nat) : Prop where
  below : Below W0.heap.size W0 w
  h1 : W0.heap.size ≤ cb
  h2 : cb < rb
  h3 : rb < tb
  cc : Vals w cb (ccl9 R fv tv fs (.slice (some ⟨rb, 0, none⟩) (12 + R.sp) (12 + R.sp)))
  rows : ∃ rows, Vals w rb rows ∧ rows.length = 12 + R.sp
  here : w.cell? ⟨rb, 11 + R.sp - n, none⟩ = some (.slice (some ⟨tb, 0, none⟩) (cds R * 37) (cds R * 37))
  lv : ∀ k, k < n → Lvl w tb rb (11 + R.sp - k) (cds R) (RT R first k)
  vt : Vals w tb (tabL (RT R first n) (cds R * 37) k)
theorem FSt.drew {W0 w cb rb R fv tv fs first n} (h : FSt W0 w cb rb R fv tv fs first n) : FSt W0 w.drew cb rb R fv tv fs first n :=
  ⟨h.below.drew, h.h1, h.h2, h.cc, h.rows, h.lv⟩
theorem GSt.drew {W0 w cb rb tb R fv tv fs first n k} (h : GSt W0 w cb rb tb R fv tv fs first n k) : GSt W0 w.drew cb rb tb R fv tv fs first n k :=
  ⟨h.below.drew, h.h1, h.h2, h.h3, h.cc, h.rows, h.here, h.lv, h.vt⟩
theorem GSt.call {W0 w w' cb rb tb R fv tv fs first n k} (h : GSt W0 w cb rb tb R fv tv fs first n k) (hb : Below w.heap.size w w') : GSt W0 w' cb rb tb R fv tv fs first n k := by
  have l1 := h.vt.lt
  have l2 := h.h3
  obtain ⟨rows, r1, r2⟩ := h.rows
  exact ⟨below_trans h.below hb, h.h1, h.h2, h.h3, h.cc.mono hb, ⟨rows, r1.mono hb, r2⟩, (hb.cell (p := ⟨rb, _, none⟩) (by dsimp only; omega)).trans h.here, fun k hk => (h.lv k hk).mono (hb.mono (by omega)), h.vt.mono hb⟩
theorem GSt.put {W0 w cb rb tb R fv tv fs first n k} (h : GSt W0 w cb rb tb R fv tv fs first n k) {v : Int} (hv : v = RT R first n (k / 37) (k % 37)) : GSt W0 (w.setCell ⟨tb, k, none⟩ (.int .i64 v)) cb rb tb R fv tv fs first n (k + 1) := by
  subst hv
  have l2 := h.h3
  have l3 := h.h2
  have l4 := h.h1
  obtain ⟨rows, r1, r2⟩ := h.rows
  have e := h.vt.set k (.int .i64 (RT R first n (k / 37) (k % 37)))
  rw [tabL_set] at e
  refine ⟨h.below.setCell (by dsimp only; omega) _, h.h1, h.h2, h.h3, h.cc.other _ (by dsimp only; omega) _, ⟨rows, r1.other _ (by dsimp only; omega) _, r2⟩, ?_, fun j hj => (h.lv j hj).mono ((Below.refl tb w).setCell (p := ⟨tb, k, none⟩) (Nat.le_refl _) _), e⟩
  rw [World.cell?_setCell_far _ _ _ _ (by dsimp only; omega)]
  exact h.here
theorem GSt.done {W0 w cb rb tb R fv tv fs first n} (h : GSt W0 w cb rb tb R fv tv fs first n (cds R * 37)) : FSt W0 w cb rb R fv tv fs first (n + 1) := by
  have l1 := h.vt.lt
  have l2 := h.h3
  refine ⟨h.below, h.h1, h.h2, h.cc, h.rows, fun k hk => ?_⟩
  by_cases e : k = n
  · subst e
    refine ⟨tb, _, h.here, l2, l1, fun c s hc hs => ?_⟩
    rw [h.vt.cell (by rw [tabL_len]; omega), tabL_get _ _ _ _ hc hs]
  · exact (h.lv k (by omega)).wide (by omega)
theorem FSt.make {W0 w cb rb R fv tv fs first n} (h : FSt W0 w cb rb R fv tv fs first n) (hn : n ≤ 12) (hs : 2 ≤ R.sp) (e : TypeId) :
    GSt W0 ((w.setCell ⟨rb, 11 + R.sp - n, none⟩ (.slice (some ⟨w.heap.size, 0, none⟩) (cds R * 37) (cds R * 37))).alloc (.cells (Array.replicate (cds R * 37) (.int .i64 0)) e)) cb rb w.heap.size R fv tv fs first n 0 := by
  obtain ⟨rows, r1, r2⟩ := h.rows
  have l1 := r1.lt
  have l2 := h.h2
  have l3 := h.h1
  have hsz := size_set w ⟨rb, 11 + R.sp - n, none⟩ (.slice (some ⟨w.heap.size, 0, none⟩) (cds R * 37) (cds R * 37))
  have ba := below_alloc (w.setCell ⟨rb, 11 + R.sp - n, none⟩ (.slice (some ⟨w.heap.size, 0, none⟩) (cds R * 37) (cds R * 37))) (.cells (Array.replicate (cds R * 37) (.int .i64 0)) e)
  have r3 := r1.set (11 + R.sp - n) (.slice (some ⟨w.heap.size, 0, none⟩) (cds R * 37) (cds R * 37))
  refine ⟨(h.below.setCell (by dsimp only; omega) _).trans (ba.mono (by rw [hsz]; omega)), h.h1, h.h2, l1, (h.cc.other _ (by dsimp only; omega) _).mono ba, ⟨_, r3.mono ba, by rw [List.length_set]; exact r2⟩, ?_, fun k hk => ?_, ?_⟩
  · rw [(r3.mono ba).cell (by rw [List.length_set, r2]; omega)]
    simp [List.getD, r2, show 11 + R.sp - n < 12 + R.sp by omega]
  · obtain ⟨t2, cap, a1, a2, a3, a4⟩ := h.lv k hk
    have b1 : ∀ q o, q < w.heap.size → (q ≠ rb ∨ o ≠ 11 + R.sp - n) → ((w.setCell ⟨rb, 11 + R.sp - n, none⟩ (.slice (some ⟨w.heap.size, 0, none⟩) (cds R * 37) (cds R * 37))).alloc (.cells (Array.replicate (cds R * 37) (.int .i64 0)) e)).cell? ⟨q, o, none⟩ = w.cell? ⟨q, o, none⟩ := by
      intro q o hq hne
      rw [ba.cell (p := ⟨q, o, none⟩) (by rw [hsz]; exact hq)]
      by_cases hh : q = rb
      · subst hh
        have hne : 11 + R.sp - n ≠ o := by omega
        obtain ⟨ee, hblk⟩ := r1
        simp only [World.cell?, heap_setCell_same w q _ _ ee _ hblk, hblk, Array.getElem?_setIfInBounds, if_neg hne]
      · rw [World.cell?_setCell_far _ _ _ _ (by dsimp only; omega)]
    have hkn : 11 + R.sp - k ≠ 11 + R.sp - n := by omega
    have hrt : t2 ≠ rb := by omega
    exact ⟨t2, cap, (b1 _ _ l1 (.inr hkn)).trans a1, a2, a3, fun c s hc hs => (b1 _ _ a3 (.inl hrt)).trans (a4 c s hc hs)⟩
  · rw [tabL_zero]
    exact Vals.newA _ _ _ _ _ hsz.symm

set_option maxRecDepth 100000 in
set_option maxHeartbeats 4000000 in
theorem cfill_calls (W0 : World) (R : Rg) (fv tv fs : Value) (first : Nat → Nat) (cb : Nat) (w : World) (hR : RgOk R) (hI : InRg W0 fv tv R) (hst : ∀ i, i + 1 < R.sp → StOk R (first i)) (hF : InF W0 fs R first) (hB : Below W0.heap.size W0 w) (h1 : W0.heap.size ≤ cb)
    (hc : Vals w cb (ccl9 R fv tv fs (.slice none 0 0))) :
    Calls Try.prog 42 #[.pointer (some ⟨cb, 0, none⟩)] w fun e w' => e = .returned (.tuple #[]) ∧ ∃ rb, FSt W0 w' cb rb R fv tv fs first 13 := by
  have hlt := hc.lt
  have h3 := hR.s2
  have hlo := hR.lo
  have M1 := run_make_vals (P := Try.prog) 59 22 (.slice none 0 0) 24 Try.underlying59 info_rowC rfl (12 + R.sp) (by omega) (by omega)
  have hC0 : cds R ≤ 16 := by have := hR.cds; omega
  have M2 := run_make_vals (P := Try.prog) 22 3 (.int .i64 0) 8 Try.underlying22 info_intC rfl (cds R * 37) (by omega) (by omega)
  have HBEST := Lib.hid (fun (w1 : World) (rb tb n k c s : Nat) (G : GSt W0 w1 cb rb tb R fv tv fs first (n + 1) k) (hn : n + 1 ≤ 12) (hc : c < cds R) (hs : s < 37) => (show Calls Try.prog 43 #[.pointer (some ⟨cb, 0, none⟩), .int .i64 (c : Int), .int .i64 (s : Int), .int .i64 ((11 + R.sp - (n + 1) : Nat) : Int)] w1 fun e w' => ∃ z : Nat, e = .returned (.tuple #[.int .i64 (RT R first (n + 1) c s), .int .i64 (z : Int)]) ∧ Below w1.heap.size w1 w' from
    (cbest_calls R fv tv fs first (RT R first n) cb rb (12 + R.sp) c s (11 + R.sp - (n + 1)) w1 hR (hI.mono G.below) hst (hF.mono G.below) G.cc hc hs (by omega) (by omega) (by rw [show 11 + R.sp - (n + 1) + 1 = 11 + R.sp - n by omega]; exact (G.lv n (Nat.lt_succ_self _)).wide (Nat.le_of_lt G.vt.lt)) (fun c u => by have := RT_bound hR hst n (by omega) c u; omega)).mono
      (by rintro e w' ⟨rfl, hb⟩; exact ⟨_, rfl, hb⟩)))
  have c0 := hc.cell (i := 0) (by simp [ccl9])
  have c1 := hc.cell (i := 1) (by simp [ccl9])
  simp only [ccl9, List.getD_cons_zero, List.getD_cons_succ] at c0 c1
  have f12 := hc.frozen 12
  obtain ⟨E, hE⟩ : ∃ E, 11 + R.sp = E := ⟨_, rfl⟩
  obtain ⟨E1, hE1⟩ : ∃ E1, 12 + R.sp = E1 := ⟨_, rfl⟩
  rw [hE1] at M1
  have q0 : IntKind.i64.wrap (12 + (R.sp : Int)) = (E1 : Int) := by rw [IntWalk.i64_in _ (by omega)]; omega
  have q1 : IntKind.i64.wrap ((E1 : Int) - 1) = (E : Int) := by rw [IntWalk.i64_in _ (by omega)]; omega
  have q2 : IntKind.i64.wrap ((E : Int) + 1) = (E1 : Int) := by rw [IntWalk.i64_in _ (by omega)]; omega
  have HH := Lib.hid (show w.drew.cell? ⟨cb, 0, none⟩ = some (.int .i64 12) ∧ w.drew.cell? ⟨cb, 1, none⟩ = some (.int .i64 (R.sp : Int)) from ⟨c0, c1⟩)
  have HE := Lib.hid (And.intro hE hE1)
  have HM1 := Lib.hid M1
  have HM2 := Lib.hid M2
  have HCC := Lib.hid hc
  clear c0 c1 M2 hE hE1 hc
  go_enter Try.func42, Try.ntmps42
  go_upto_region 0 with (fail)
  go_region_held3 (fun w' => w'.cell? ⟨cb, 0, none⟩ = some (.int .i64 12) ∧ w'.cell? ⟨cb, 1, none⟩ = some (.int .i64 (R.sp : Int))) (exact HH.out) (fail)
  have HB1 := Lib.hid hB.drew
  have HCD := Lib.hid HCC.out.drew
  have cl := hlt
  have c12 := HCD.out.cell (i := 12) (by simp [ccl9])
  have f12 := HCD.out.frozen 12
  simp only [ccl9, List.getD_cons_zero, List.getD_cons_succ] at c12
  clear HH HCC hB f12
  have f12 := HCD.out.frozen 12
  have hlt1 := HCD.out.lt
  obtain ⟨w1, hw1⟩ : ∃ z, z = w.drew := ⟨_, rfl⟩
  rw [← hw1] at HB1 HCD c12 f12 hlt1 ⊢
  clear hw1
  have M1 := HM1.out
  go_upto_region 2 with (fail)
  clear M1 c12 f12
  have hsz := size_set w1 ⟨cb, 12, none⟩ (.slice (some ⟨w1.heap.size, 0, none⟩) E1 E1)
  have ba := below_alloc (w1.setCell ⟨cb, 12, none⟩ (.slice (some ⟨w1.heap.size, 0, none⟩) E1 E1)) (.cells (Array.replicate E1 (.slice none 0 0)) 22)
  have FS : FSt W0 ((w1.setCell ⟨cb, 12, none⟩ (.slice (some ⟨w1.heap.size, 0, none⟩) E1 E1)).alloc (.cells (Array.replicate E1 (.slice none 0 0)) 22)) cb w1.heap.size R fv tv fs first 0 := by
    have hv := HCD.out.set 12 (.slice (some ⟨w1.heap.size, 0, none⟩) E1 E1)
    simp only [ccl9, List.set_cons_succ, List.set_cons_zero] at hv
    refine ⟨(HB1.out.setCell (by dsimp only; omega) _).trans (ba.mono (by rw [hsz]; exact HB1.out.size)), h1, hlt1, ?_, ⟨_, Vals.newA _ _ _ _ _ hsz.symm, by rw [List.length_replicate]; exact HE.out.2.symm⟩, fun k hk => by omega⟩
    rw [HE.out.2]
    exact hv.mono ba
  clear hsz ba HB1 HCD hlt1 hlt cl
  generalize (w1.setCell ⟨cb, 12, none⟩ (.slice (some ⟨w1.heap.size, 0, none⟩) E1 E1)).alloc (.cells (Array.replicate E1 (.slice none 0 0)) 22) = w2 at *
  generalize w1.heap.size = rb at *
  go_wp2
  go_loopw [3] (fun av wr => ∃ n : Nat, n ≤ 13 ∧ av = .int .i64 ((E : Int) - (n : Int)) ∧ FSt W0 wr cb rb R fv tv fs first n) (fun av _ => (intOf av + 2).toNat)
  case atStart => exact ⟨0, by omega, by rw [show (E : Int) - ((0 : Nat) : Int) = (E : Int) by omega], FS⟩
  case round =>
    clear FS
    obtain ⟨n, hn, rfl, F⟩ := hrel
    have c1 := F.cc.cell (i := 1) (by simp [ccl9])
    simp only [ccl9, List.getD_cons_zero, List.getD_cons_succ] at c1
    have hlt := F.cc.lt
    have qs : IntKind.i64.wrap ((R.sp : Int) - 1) = (R.sp : Int) - 1 := IntWalk.i64_in _ (by omega)
    by_cases hn12 : n ≤ 12
    · have t1 : (R.sp : Int) - 1 ≤ (E : Int) - (n : Int) := by have := HE.out.1; omega
      obtain ⟨A, hA⟩ : ∃ A, 11 + R.sp - n = A := ⟨_, rfl⟩
      have eA : (E : Int) - (n : Int) = (A : Int) := by have := HE.out.1; omega
      rw [eA] at t1 ⊢
      have hAE : A < E1 := by have := HE.out.1; have := HE.out.2; omega
      have x2 : (0 : Int) ≤ (A : Int) := by omega
      have x3 : (A : Int) < (E1 : Int) := by omega
      have qA1 : IntKind.i64.wrap ((A : Int) - 1) = (A : Int) - 1 := IntWalk.i64_in _ (by have := HE.out.2; omega)
      obtain ⟨C, hC⟩ : ∃ C, cds R = C := ⟨_, rfl⟩
      obtain ⟨CL, hCL⟩ : ∃ C, cds R * 37 = C := ⟨_, rfl⟩
      have hCL2 : CL = C * 37 := by rw [← hCL, hC]
      have c10 := F.cc.cell (i := 10) (by simp [ccl9])
      have c11 := F.cc.cell (i := 11) (by simp [ccl9])
      have c12 := F.cc.cell (i := 12) (by simp [ccl9])
      simp only [ccl9, List.getD_cons_zero, List.getD_cons_succ] at c10 c11 c12
      rw [hC] at c10 hC0
      rw [HE.out.2] at c12
      obtain ⟨rows, r1, r2⟩ := F.rows
      have cr := r1.cell (i := A) (by rw [r2]; have := HE.out.2; omega)
      have fr := r1.frozen A
      have hrb := r1.lt
      have hcr := F.h2
      have G0 := F.make hn12 h3.1 3
      rw [hA, hCL] at G0
      have HA := Lib.hid hA
      have HCL := Lib.hid hCL
      have HC := Lib.hid hC
      have HEA := Lib.hid eA
      have M2 := HM2.out
      rw [hCL] at M2
      have q3 : IntKind.i64.wrap ((C : Int) * 37) = (CL : Int) := by rw [IntWalk.i64_in _ (by omega)]; omega
      have HCL2 := Lib.hid hCL2
      have HS := Lib.hid (fun (W : World) (hs : Same cb (cb + 1) wr W) => And.intro (hs.cell c12 (Nat.le_refl _) (Nat.lt_succ_self _)) (And.intro (hs.cell c10 (Nat.le_refl _) (Nat.lt_succ_self _)) (hs.cell c11 (Nat.le_refl _) (Nat.lt_succ_self _))))
      clear F c10 c11 c12 hA hCL hC eA r1 r2 hCL2
      go_upto_region 5 with (fail)
      clear c1 qs t1
      go_region_held3 (fun W => W.cell? ⟨cb, 12, none⟩ = some (.slice (some ⟨rb, 0, none⟩) E1 E1) ∧ W.cell? ⟨cb, 10, none⟩ = some (.int .i64 (C : Int)) ∧ W.cell? ⟨cb, 11, none⟩ = some (.int .i64 37)) (first | exact HS.out _ (Same.refl _ _ _) | exact HS.out _ ((Same.refl _ _ wr).alloc (by omega) _) | exact HS.out _ (((Same.refl _ _ wr).setCell _ (by dsimp only; omega) _).alloc (by rw [size_set]; omega) _)) (fail)
      replace G0 := G0.drew
      clear M2 HS cr fr hrb hlt
      generalize ((wr.setCell ⟨rb, A, none⟩ (.slice (some ⟨wr.heap.size, 0, none⟩) CL CL)).alloc (.cells (Array.replicate CL (.int .i64 0)) 3)).drew = w3 at *
      generalize wr.heap.size = tb at *
      have c10 := G0.cc.cell (i := 10) (by simp [ccl9])
      simp only [ccl9, List.getD_cons_zero, List.getD_cons_succ] at c10
      rw [HC.out] at c10
      have hlt := G0.cc.lt
      go_wp2
      clear c10 hlt
      go_loopw [56] (fun cv wr => ∃ c : Nat, c ≤ C ∧ cv = .int .i64 (c : Int) ∧ GSt W0 wr cb rb tb R fv tv fs first n (c * 37)) (fun cv _ => ((C : Int) - intOf cv).toNat)
      case atStart => exact ⟨0, by omega, rfl, by rw [Nat.zero_mul]; exact G0⟩
      case round =>
        clear G0
        obtain ⟨c, hc, rfl, G⟩ := hrel
        by_cases hcC : c < C
        · have t2 : (c : Int) < (C : Int) := by omega
          have c11 := G.cc.cell (i := 11) (by simp [ccl9])
          simp only [ccl9, List.getD_cons_zero, List.getD_cons_succ] at c11
          have hlt := G.cc.lt
          go_wp2
          clear c11 hlt
          go_loopw [63] (fun sv wr => ∃ s : Nat, s ≤ 37 ∧ sv = .int .i64 (s : Int) ∧ GSt W0 wr cb rb tb R fv tv fs first n (c * 37 + s)) (fun sv _ => ((37 : Int) - intOf sv).toNat)
          case atStart => exact ⟨0, by omega, rfl, G⟩
          case round =>
            clear G
            obtain ⟨s, hs, rfl, G⟩ := hrel
            by_cases hs37 : s < 37
            · have t3 : (s : Int) < 37 := by omega
              obtain ⟨X, hX⟩ : ∃ X, c * 37 + s = X := ⟨_, rfl⟩
              have hXl : X < CL := by have := HCL2.out; omega
              have q4 : IntKind.i64.wrap ((c : Int) * 37) = (c : Int) * 37 := IntWalk.i64_in _ (by omega)
              have q5 : IntKind.i64.wrap ((c : Int) * 37 + (s : Int)) = (X : Int) := by rw [IntWalk.i64_in _ (by omega)]; omega
              have y0 : (0 : Int) ≤ (X : Int) := by omega
              have y1 : (X : Int) < (CL : Int) := by omega
              have HX := Lib.hid hX
              have HX2 := Lib.hid (show (c * 37 + s) / 37 = c ∧ (c * 37 + s) % 37 = s by omega)
              have hG := G.cc.lt
              clear hX
              cases n with
              | zero =>
                have t4 : ¬ (A : Int) < (E : Int) := by have := HA.out; have := HE.out.1; omega
                have b0 := G.cc.cell (i := 0) (by simp [ccl9])
                have b2 := G.cc.cell (i := 2) (by simp [ccl9])
                have b4 := G.cc.cell (i := 4) (by simp [ccl9])
                simp only [ccl9, List.getD_cons_zero, List.getD_cons_succ] at b0 b2 b4
                have ht2 := hR.t2
                obtain ⟨Z1, hZ1⟩ : ∃ z : Int, 12 * (R.lo : Int) = z := ⟨_, rfl⟩
                obtain ⟨Z2, hZ2⟩ : ∃ z : Int, (R.tot : Int) - Z1 = z := ⟨_, rfl⟩
                have r1 : IntKind.i64.wrap (12 * (R.lo : Int)) = Z1 := by rw [IntWalk.i64_in _ (by omega)]; exact hZ1
                have r2 : IntKind.i64.wrap ((R.tot : Int) - Z1) = Z2 := by rw [IntWalk.i64_in _ (by omega)]; exact hZ2
                have HK := Lib.hid (show wr.drew.cell? ⟨cb, 4, none⟩ = some (.int .i64 (R.tot : Int)) ∧ wr.drew.cell? ⟨cb, 0, none⟩ = some (.int .i64 12) ∧ wr.drew.cell? ⟨cb, 2, none⟩ = some (.int .i64 (R.lo : Int)) from ⟨b4, b0, b2⟩)
                clear b0 b2 b4
                by_cases hz : s + 12 * R.lo = R.tot
                · have tz : ((s : Int) == Z2) = true := by rw [beq_iff_eq]; omega
                  have eR := Lib.hid (show (0 : Int) = RT R first 0 c s by unfold RT; rw [if_pos hz])
                  clear hZ1 hZ2
                  go_upto_region 15 with (fail)
                  go_region_held3 (fun w' => w'.cell? ⟨cb, 4, none⟩ = some (.int .i64 (R.tot : Int)) ∧ w'.cell? ⟨cb, 0, none⟩ = some (.int .i64 12) ∧ w'.cell? ⟨cb, 2, none⟩ = some (.int .i64 (R.lo : Int))) (exact HK.out) (fail)
                  replace G := G.drew
                  clear HK
                  generalize wr.drew = w4 at *
                  have c12 := G.cc.cell (i := 12) (by simp [ccl9])
                  have c11 := G.cc.cell (i := 11) (by simp [ccl9])
                  simp only [ccl9, List.getD_cons_zero, List.getD_cons_succ] at c12 c11
                  rw [HE.out.2] at c12
                  have ch := G.here
                  rw [HA.out, HCL.out] at ch
                  have cx := G.vt.cell (i := c * 37 + s) (by rw [tabL_len, HCL.out, HX.out]; exact hXl)
                  have fx := G.vt.frozen (c * 37 + s)
                  have hltx := G.vt.lt
                  rw [HX.out] at cx fx
                  have HH := Lib.hid (show w4.drew.cell? ⟨cb, 12, none⟩ = some (.slice (some ⟨rb, 0, none⟩) E1 E1) ∧ w4.drew.cell? ⟨rb, A, none⟩ = some (.slice (some ⟨tb, 0, none⟩) CL CL) ∧ w4.drew.cell? ⟨cb, 11, none⟩ = some (.int .i64 37) from ⟨c12, ch, c11⟩)
                  have htr := G.h3
                  have hcr2 := G.h2
                  have HSS := Lib.hid (fun (o : Nat) (u : Value) => (show (w4.setCell ⟨tb, o, none⟩ u).drew.cell? ⟨cb, 12, none⟩ = some (.slice (some ⟨rb, 0, none⟩) E1 E1) ∧ (w4.setCell ⟨tb, o, none⟩ u).drew.cell? ⟨rb, A, none⟩ = some (.slice (some ⟨tb, 0, none⟩) CL CL) ∧ (w4.setCell ⟨tb, o, none⟩ u).drew.cell? ⟨cb, 11, none⟩ = some (.int .i64 37) from
                    ⟨(World.cell?_setCell_far w4 _ _ _ (by dsimp only; omega)).trans c12, (World.cell?_setCell_far w4 _ _ _ (by dsimp only; omega)).trans ch, (World.cell?_setCell_far w4 _ _ _ (by dsimp only; omega)).trans c11⟩))
                  clear c12 c11 ch
                  go_upto_region 17 with (fail)
                  go_region_held3 (fun w' => w'.cell? ⟨cb, 12, none⟩ = some (.slice (some ⟨rb, 0, none⟩) E1 E1) ∧ w'.cell? ⟨rb, A, none⟩ = some (.slice (some ⟨tb, 0, none⟩) CL CL) ∧ w'.cell? ⟨cb, 11, none⟩ = some (.int .i64 37)) (first | exact HH.out | exact HSS.out _ _) (fail)
                  go_wp2
                  go_roundw
                  case rel => exact ⟨s + 1, by omega, by go_num, by rw [← HX.out]; exact (GSt.put G (by rw [HX2.out.1, HX2.out.2]; exact eR.out)).drew⟩
                  case measure => simp [intOf]; omega
                · have tz : ((s : Int) == Z2) = false := by rw [beq_eq_false_iff_ne]; omega
                  have eR := Lib.hid (show (-1 : Int) = RT R first 0 c s by unfold RT; rw [if_neg hz])
                  clear hZ1 hZ2
                  go_upto_region 15 with (fail)
                  go_region_held3 (fun w' => w'.cell? ⟨cb, 4, none⟩ = some (.int .i64 (R.tot : Int)) ∧ w'.cell? ⟨cb, 0, none⟩ = some (.int .i64 12) ∧ w'.cell? ⟨cb, 2, none⟩ = some (.int .i64 (R.lo : Int))) (exact HK.out) (fail)
                  replace G := G.drew
                  clear HK
                  generalize wr.drew = w4 at *
                  have c12 := G.cc.cell (i := 12) (by simp [ccl9])
                  have c11 := G.cc.cell (i := 11) (by simp [ccl9])
                  simp only [ccl9, List.getD_cons_zero, List.getD_cons_succ] at c12 c11
                  rw [HE.out.2] at c12
                  have ch := G.here
                  rw [HA.out, HCL.out] at ch
                  have cx := G.vt.cell (i := c * 37 + s) (by rw [tabL_len, HCL.out, HX.out]; exact hXl)
                  have fx := G.vt.frozen (c * 37 + s)
                  have hltx := G.vt.lt
                  rw [HX.out] at cx fx
                  have HH := Lib.hid (show w4.drew.cell? ⟨cb, 12, none⟩ = some (.slice (some ⟨rb, 0, none⟩) E1 E1) ∧ w4.drew.cell? ⟨rb, A, none⟩ = some (.slice (some ⟨tb, 0, none⟩) CL CL) ∧ w4.drew.cell? ⟨cb, 11, none⟩ = some (.int .i64 37) from ⟨c12, ch, c11⟩)
                  have htr := G.h3
                  have hcr2 := G.h2
                  have HSS := Lib.hid (fun (o : Nat) (u : Value) => (show (w4.setCell ⟨tb, o, none⟩ u).drew.cell? ⟨cb, 12, none⟩ = some (.slice (some ⟨rb, 0, none⟩) E1 E1) ∧ (w4.setCell ⟨tb, o, none⟩ u).drew.cell? ⟨rb, A, none⟩ = some (.slice (some ⟨tb, 0, none⟩) CL CL) ∧ (w4.setCell ⟨tb, o, none⟩ u).drew.cell? ⟨cb, 11, none⟩ = some (.int .i64 37) from
                    ⟨(World.cell?_setCell_far w4 _ _ _ (by dsimp only; omega)).trans c12, (World.cell?_setCell_far w4 _ _ _ (by dsimp only; omega)).trans ch, (World.cell?_setCell_far w4 _ _ _ (by dsimp only; omega)).trans c11⟩))
                  clear c12 c11 ch
                  go_upto_region 17 with (fail)
                  go_region_held3 (fun w' => w'.cell? ⟨cb, 12, none⟩ = some (.slice (some ⟨rb, 0, none⟩) E1 E1) ∧ w'.cell? ⟨rb, A, none⟩ = some (.slice (some ⟨tb, 0, none⟩) CL CL) ∧ w'.cell? ⟨cb, 11, none⟩ = some (.int .i64 37)) (first | exact HH.out | exact HSS.out _ _) (fail)
                  go_wp2
                  go_roundw
                  case rel => exact ⟨s + 1, by omega, by go_num, by rw [← HX.out]; exact (GSt.put G (by rw [HX2.out.1, HX2.out.2]; exact eR.out)).drew⟩
                  case measure => simp [intOf]; omega
              | succ n =>
                have t4 : (A : Int) < (E : Int) := by have := HA.out; have := HE.out.1; omega
                have BE := HBEST.out wr rb tb n (c * 37 + s) c s G hn12 (by rw [HC.out]; exact hcC) hs37
                rw [HA.out] at BE
                obtain ⟨V, hV⟩ : ∃ V, RT R first (n + 1) c s = V := ⟨_, rfl⟩
                rw [hV] at BE
                have HV := Lib.hid hV.symm
                have HBE := Lib.hid BE
                clear BE hV
                go_wp2_with fail
                refine HBE.out.mono ?_
                rintro e w4 ⟨z, rfl, b4⟩
                replace G := G.call b4
                clear b4 HBE
                have c12 := G.cc.cell (i := 12) (by simp [ccl9])
                have c11 := G.cc.cell (i := 11) (by simp [ccl9])
                simp only [ccl9, List.getD_cons_zero, List.getD_cons_succ] at c12 c11
                rw [HE.out.2] at c12
                have ch := G.here
                rw [HA.out, HCL.out] at ch
                have cx := G.vt.cell (i := c * 37 + s) (by rw [tabL_len, HCL.out, HX.out]; exact hXl)
                have fx := G.vt.frozen (c * 37 + s)
                have hltx := G.vt.lt
                rw [HX.out] at cx fx
                have HH := Lib.hid (show w4.drew.cell? ⟨cb, 12, none⟩ = some (.slice (some ⟨rb, 0, none⟩) E1 E1) ∧ w4.drew.cell? ⟨rb, A, none⟩ = some (.slice (some ⟨tb, 0, none⟩) CL CL) ∧ w4.drew.cell? ⟨cb, 11, none⟩ = some (.int .i64 37) from ⟨c12, ch, c11⟩)
                have htr := G.h3
                have hcr2 := G.h2
                have HSS := Lib.hid (fun (o : Nat) (u : Value) => (show (w4.setCell ⟨tb, o, none⟩ u).drew.cell? ⟨cb, 12, none⟩ = some (.slice (some ⟨rb, 0, none⟩) E1 E1) ∧ (w4.setCell ⟨tb, o, none⟩ u).drew.cell? ⟨rb, A, none⟩ = some (.slice (some ⟨tb, 0, none⟩) CL CL) ∧ (w4.setCell ⟨tb, o, none⟩ u).drew.cell? ⟨cb, 11, none⟩ = some (.int .i64 37) from
                  ⟨(World.cell?_setCell_far w4 _ _ _ (by dsimp only; omega)).trans c12, (World.cell?_setCell_far w4 _ _ _ (by dsimp only; omega)).trans ch, (World.cell?_setCell_far w4 _ _ _ (by dsimp only; omega)).trans c11⟩))
                clear c12 c11 ch
                go_upto_region 17 with (fail)
                go_region_held3 (fun w' => w'.cell? ⟨cb, 12, none⟩ = some (.slice (some ⟨rb, 0, none⟩) E1 E1) ∧ w'.cell? ⟨rb, A, none⟩ = some (.slice (some ⟨tb, 0, none⟩) CL CL) ∧ w'.cell? ⟨cb, 11, none⟩ = some (.int .i64 37)) (first | exact HH.out | exact HSS.out _ _) (fail)
                go_wp2
                go_roundw
                case rel => exact ⟨s + 1, by omega, by go_num, by rw [← HX.out]; exact (GSt.put G (by rw [HX2.out.1, HX2.out.2]; exact HV.out)).drew⟩
                case measure => simp [intOf]; omega
            · obtain rfl : s = 37 := by omega
              go_wp2
              go_roundw
              case rel => exact ⟨c + 1, by omega, by go_num, by rw [Nat.add_mul, Nat.one_mul]; exact G⟩
              case measure => simp [intOf]; omega
        · obtain rfl : c = C := by omega
          have F2 := (show GSt W0 wr cb rb tb R fv tv fs first n (cds R * 37) from by rw [HC.out]; exact G).done
          go_wp2
          go_roundw
          case rel => exact ⟨n + 1, by omega, by rw [show (E : Int) - ((n + 1 : Nat) : Int) = (A : Int) - 1 by have := HEA.out; omega], F2⟩
          case measure => simp [intOf]; omega
    · obtain rfl : n = 13 := by omega
      have t1 : ¬ (R.sp : Int) - 1 ≤ (E : Int) - ((13 : Nat) : Int) := by have := HE.out.1; omega
      go_wp2
      go_end0
      exact ⟨rfl, rb, F⟩

end Go.Proofs
