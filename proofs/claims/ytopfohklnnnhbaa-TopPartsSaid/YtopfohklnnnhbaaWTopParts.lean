/- The walk of TopParts: whatever comes in, it returns true and changes nothing that was there. -/
import Derived.Test.YtopfohklnnnhbaaPanBest
import Derived.Deep.CutBlock
import Derived.Test.YtopfohklnnnhbaaPanOpen
open Go.RowKit Go.Shelf Go.Deep
namespace Go.Proofs
set_option linter.unusedVariables false
set_option linter.unusedSimpArgs false

theorem pmask_3 (z : Int) : ∃ k : Nat, k ≤ 3 ∧ bits BinOp.and IntKind.i64 z 3 = (k : Int) := by
  refine ⟨(BitVec.ofInt 64 z).toNat &&& 3, Nat.and_le_right, ?_⟩
  have hlt : (BitVec.ofInt 64 z).toNat &&& 3 ≤ 3 := Nat.and_le_right
  have e : (BitVec.ofInt 64 z &&& BitVec.ofInt 64 3).toNat = (BitVec.ofInt 64 z).toNat &&& 3 := by
    rw [BitVec.toNat_and]
    rfl
  show IntKind.i64.wrap ((BitVec.ofInt 64 z &&& BitVec.ofInt 64 3).toNat : Int) = _
  rw [e, IntKind.wrap_i64]
  omega
theorem pmask_7 (z : Int) : ∃ k : Nat, k ≤ 7 ∧ bits BinOp.and IntKind.i64 z 7 = (k : Int) := by
  refine ⟨(BitVec.ofInt 64 z).toNat &&& 7, Nat.and_le_right, ?_⟩
  have hlt : (BitVec.ofInt 64 z).toNat &&& 7 ≤ 7 := Nat.and_le_right
  have e : (BitVec.ofInt 64 z &&& BitVec.ofInt 64 7).toNat = (BitVec.ofInt 64 z).toNat &&& 7 := by
    rw [BitVec.toNat_and]
    rfl
  show IntKind.i64.wrap ((BitVec.ofInt 64 z &&& BitVec.ofInt 64 7).toNat : Int) = _
  rw [e, IntKind.wrap_i64]
  omega
theorem pmask_15 (z : Int) : ∃ k : Nat, k ≤ 15 ∧ bits BinOp.and IntKind.i64 z 15 = (k : Int) := by
  refine ⟨(BitVec.ofInt 64 z).toNat &&& 15, Nat.and_le_right, ?_⟩
  have hlt : (BitVec.ofInt 64 z).toNat &&& 15 ≤ 15 := Nat.and_le_right
  have e : (BitVec.ofInt 64 z &&& BitVec.ofInt 64 15).toNat = (BitVec.ofInt 64 z).toNat &&& 15 := by
    rw [BitVec.toNat_and]
    rfl
  show IntKind.i64.wrap ((BitVec.ofInt 64 z &&& BitVec.ofInt 64 15).toNat : Int) = _
  rw [e, IntKind.wrap_i64]
  omega
theorem pmask_65535 (z : Int) : ∃ k : Nat, k ≤ 65535 ∧ bits BinOp.and IntKind.i64 z 65535 = (k : Int) := by
  refine ⟨(BitVec.ofInt 64 z).toNat &&& 65535, Nat.and_le_right, ?_⟩
  have hlt : (BitVec.ofInt 64 z).toNat &&& 65535 ≤ 65535 := Nat.and_le_right
  have e : (BitVec.ofInt 64 z &&& BitVec.ofInt 64 65535).toNat = (BitVec.ofInt 64 z).toNat &&& 65535 := by
    rw [BitVec.toNat_and]
    rfl
  show IntKind.i64.wrap ((BitVec.ofInt 64 z &&& BitVec.ofInt 64 65535).toNat : Int) = _
  rw [e, IntKind.wrap_i64]
  omega

theorem info_shape : (Try.prog.info? 25).map (fun i => (i.zero, i.size, i.bytes)) = some (some (.agg #[.int .i64 0, .int .i64 0, .int .i64 0, .bool false]), 4, 32) := by kernel_rfl
theorem example_20 : VV 1 [⟨2, 3, 10, false⟩] 5 3 = 20 := by decide +kernel
theorem Vals.rd4 {w : World} {b : Nat} {v0 v1 v2 v3 : Value} (h : Vals w b [v0, v1, v2, v3]) : RdV w (some ⟨b, 0, none⟩) 1 1 4 [v0, v1, v2, v3] := by
  refine ⟨rfl, Nat.le_refl _, by unfold maxLen; omega, .inr ⟨b, 0, rfl, fun j u hj => ?_⟩⟩
  have hj2 := (List.getElem?_eq_some_iff.1 hj).1
  have e := h.cell hj2
  rw [Nat.zero_add, e, getD_of hj]
/-- the masked shapes of the law -/
def MskOk (s : Shp) : Prop := 1 ≤ s.w ∧ s.w ≤ 8 ∧ 1 ≤ s.h ∧ s.h ≤ 8 ∧ 0 ≤ s.v ∧ s.v ≤ 65535
theorem MskOk.shp {s : Shp} (h : MskOk s) : ShpOk s := by obtain ⟨h1, h2, h3, h4, h5, h6⟩ := h; exact ⟨h1, by omega, h3, by omega, h5, by omega⟩
theorem shapes_of {w : World} {B : Nat} {av : Option Addr} {i cv : Nat} {sh : List Shp} (h : w.ownsRow B 25 4 (.slice av i cv) i (flat scl sh)) (hl : sh.length = i) (hm : ∀ s ∈ sh, MskOk s) (hi : i ≤ 6) : Shapes w av i cv sh :=
  ⟨hl, (ownsRow_rds h).1, fun s hs => (hm s hs).shp, by omega⟩
theorem run_neq_cut (a b : Int) (w : World) : (binOp .neq 35 (.agg #[.int .i64 a, .int .i64 b]) (.agg #[.int .i64 a, .int .i64 b])).run Try.prog w = .ok (.bool false) w := by
  rw [run_neq_struct, show (10000 : Nat) = 9999 + 1 from rfl, run_equalIn_agg w 9999 35 _ _ (by kernel_rfl) (by kernel_rfl)]
  go_simp
/-- cuts that can be read -/
def Cuts (w : World) (g : Nat) (L : List (Nat × Nat)) : Prop := ∀ j, j < L.length → w.cell? ⟨g, j * 2, none⟩ = some (.int .i64 ((L.getD j (0, 0)).1 : Int)) ∧ w.cell? ⟨g, j * 2 + 1, none⟩ = some (.int .i64 ((L.getD j (0, 0)).2 : Int))
theorem cuts_of {w : World} {B : Nat} {av : Option Addr} {k c : Nat} {L : List (Nat × Nat)} (h : w.ownsRow B 35 2 (.slice av k c) k (flat ccl L)) (hk : k = L.length) (h0 : 0 < k) : ∃ g, av = some ⟨g, 0, none⟩ ∧ g < w.heap.size ∧ Cuts w g L := by
  obtain ⟨g, hg, _, h2, hc⟩ := ownsRow_at h h0
  refine ⟨g, hg, h2, fun j hj => ⟨?_, ?_⟩⟩
  · exact hc _ _ ((flat_get ccl_len (0, 0) L j hj 0 (by omega)).trans rfl)
  · exact hc _ _ ((flat_get ccl_len (0, 0) L j hj 1 (by omega)).trans rfl)
theorem Cuts.mono {w w' : World} {g L} (h : Cuts w g L) (hg : g < w.heap.size) (hb : Below w.heap.size w w') : Cuts w' g L := fun j hj =>
  ⟨(hb.cell (p := ⟨g, j * 2, none⟩) hg).trans (h j hj).1, (hb.cell (p := ⟨g, j * 2 + 1, none⟩) hg).trans (h j hj).2⟩
theorem vals_2 (w : World) (x y : List Value) (e f : TypeId) :
    Vals ((w.alloc (.cells x.toArray e)).alloc (.cells y.toArray f)) w.heap.size x ∧ Vals ((w.alloc (.cells x.toArray e)).alloc (.cells y.toArray f)) (w.heap.size + 1) y ∧
      Below w.heap.size w ((w.alloc (.cells x.toArray e)).alloc (.cells y.toArray f)) := by
  have b1 := below_alloc w (.cells x.toArray e)
  have b2 := below_alloc (w.alloc (.cells x.toArray e)) (.cells y.toArray f)
  exact ⟨(Vals.newL w w.heap.size x e rfl).mono b2, Vals.newL (w.alloc (.cells x.toArray e)) (w.heap.size + 1) y f (World.size_alloc w _).symm, below_trans b1 b2⟩
theorem one_shape (w : World) : Shapes (w.alloc (.cells #[.int .i64 2, .int .i64 3, .int .i64 10, .bool false] 25)) (some ⟨w.heap.size, 0, none⟩) 1 1 [⟨2, 3, 10, false⟩] :=
  ⟨rfl, (Vals.newL w w.heap.size [.int .i64 2, .int .i64 3, .int .i64 10, .bool false] 25 rfl).rd4, fun s hs => by rw [List.mem_singleton.1 hs]; unfold ShpOk; decide, by omega⟩
theorem two_sets {w : World} {f s : Nat} (hfs : f ≠ s) {a b c d : Value} (vf : Vals w f [a, b]) (vs : Vals w s [c, d]) (x y z t : Value) :
    Vals ((((w.setCell ⟨f, 0, none⟩ x).setCell ⟨f, 1, none⟩ y).setCell ⟨s, 0, none⟩ z).setCell ⟨s, 1, none⟩ t) f [x, y] ∧ Vals ((((w.setCell ⟨f, 0, none⟩ x).setCell ⟨f, 1, none⟩ y).setCell ⟨s, 0, none⟩ z).setCell ⟨s, 1, none⟩ t) s [z, t] ∧
    (∀ q l, q ≠ f → q ≠ s → Vals w q l → Vals ((((w.setCell ⟨f, 0, none⟩ x).setCell ⟨f, 1, none⟩ y).setCell ⟨s, 0, none⟩ z).setCell ⟨s, 1, none⟩ t) q l) ∧
    (∀ q L, q ≠ f → q ≠ s → Cuts w q L → Cuts ((((w.setCell ⟨f, 0, none⟩ x).setCell ⟨f, 1, none⟩ y).setCell ⟨s, 0, none⟩ z).setCell ⟨s, 1, none⟩ t) q L) ∧
    ((((w.setCell ⟨f, 0, none⟩ x).setCell ⟨f, 1, none⟩ y).setCell ⟨s, 0, none⟩ z).setCell ⟨s, 1, none⟩ t).heap.size = w.heap.size ∧
    (∀ B w0, B ≤ f → B ≤ s → Below B w0 w → Below B w0 ((((w.setCell ⟨f, 0, none⟩ x).setCell ⟨f, 1, none⟩ y).setCell ⟨s, 0, none⟩ z).setCell ⟨s, 1, none⟩ t)) := by
  refine ⟨(((vf.set 0 x).set 1 y).other ⟨s, 0, none⟩ (Ne.symm hfs) z).other ⟨s, 1, none⟩ (Ne.symm hfs) t, (((vs.other ⟨f, 0, none⟩ hfs x).other ⟨f, 1, none⟩ hfs y).set 0 z).set 1 t, fun q l h1 h2 h => ?_, fun q L h1 h2 h j hj => ?_, by simp [World.setCell], fun B w0 h1 h2 h => (((h.setCell (p := ⟨f, 0, none⟩) h1 x).setCell (p := ⟨f, 1, none⟩) h1 y).setCell (p := ⟨s, 0, none⟩) h2 z).setCell (p := ⟨s, 1, none⟩) h2 t⟩
  · exact (((h.other ⟨f, 0, none⟩ (Ne.symm h1) x).other ⟨f, 1, none⟩ (Ne.symm h1) y).other ⟨s, 0, none⟩ (Ne.symm h2) z).other ⟨s, 1, none⟩ (Ne.symm h2) t
  · have far : ∀ o, ((((w.setCell ⟨f, 0, none⟩ x).setCell ⟨f, 1, none⟩ y).setCell ⟨s, 0, none⟩ z).setCell ⟨s, 1, none⟩ t).cell? ⟨q, o, none⟩ = w.cell? ⟨q, o, none⟩ := fun o => by
      rw [World.cell?_setCell_far _ _ _ _ (Ne.symm h2), World.cell?_setCell_far _ _ _ _ (Ne.symm h2), World.cell?_setCell_far _ _ _ _ (Ne.symm h1), World.cell?_setCell_far _ _ _ _ (Ne.symm h1)]
    rw [far, far]
    exact h j hj
/-- the law's call returned true, and changed nothing that was there -/
def RetTrueP (w : World) (e : Ending) (w' : World) : Prop := e = .returned (.bool true) ∧ Below w.heap.size w w'

set_option maxRecDepth 100000 in
set_option maxHeartbeats 8000000 in
theorem walk_parts (a0 b0 b1 : Int) (ad : Option Addr) (len cap : Nat) (sh0 : List Shp) (w : World) (hl0 : sh0.length = len) (hrd0 : RdV w ad cap len 4 (flat scl sh0)) :
    Calls Try.prog 3 #[.int .i64 a0, .agg #[.int .i64 b0, .int .i64 b1], .slice ad len cap] w (RetTrueP w) := by
  obtain ⟨kw, hkw, ew⟩ := pmask_15 a0
  obtain ⟨kh, hkh, eh⟩ := pmask_15 b0
  obtain ⟨kf, hkf, ek⟩ := pmask_3 b1
  obtain ⟨W, hW⟩ : ∃ W : Nat, kw + 1 = W := ⟨_, rfl⟩
  obtain ⟨H, hH⟩ : ∃ H : Nat, kh + 1 = H := ⟨_, rfl⟩
  have qw : IntKind.i64.wrap ((kw : Int) + 1) = (W : Int) := by rw [IntWalk.i64_in _ (by omega)]; omega
  have qh : IntKind.i64.wrap ((kh : Int) + 1) = (H : Int) := by rw [IntWalk.i64_in _ (by omega)]; omega
  have hW1 : 1 ≤ W ∧ W ≤ 16 := by omega
  have hH1 : 1 ≤ H ∧ H ≤ 16 := by omega
  have v4 := Vals.newL w w.heap.size [.int .i64 b0, .int .i64 b1] 22 rfl
  have bb := below_alloc w (.cells #[.int .i64 b0, .int .i64 b1] 22)
  have HRD := Lib.hid (hrd0.mono bb)
  have HB := Lib.hid bb
  have c0 := v4.cell (i := 0) (by simp)
  have c1 := v4.cell (i := 1) (by simp)
  simp only [List.getD_cons_zero, List.getD_cons_succ] at c0 c1
  have HC := Lib.hid (show (w.alloc (.cells #[.int .i64 b0, .int .i64 b1] 22)).drew.cell? ⟨w.heap.size, 0, none⟩ = some (.int .i64 b0) ∧ (w.alloc (.cells #[.int .i64 b0, .int .i64 b1] 22)).drew.cell? ⟨w.heap.size, 1, none⟩ = some (.int .i64 b1) from ⟨c0, c1⟩)
  have HL0 := Lib.hid hl0
  clear hW hH hkw hkh v4 bb hrd0 c0 c1 hl0
  go_enter Try.func3, Try.ntmps3
  go_upto_region 1 with (fail)
  go_region_held3 (fun w' => w'.cell? ⟨w.heap.size, 0, none⟩ = some (.int .i64 b0) ∧ w'.cell? ⟨w.heap.size, 1, none⟩ = some (.int .i64 b1)) (exact HC.out) (fail)
  have HB1 := Lib.hid HB.out.drew
  have HRD1 := Lib.hid HRD.out.drew
  clear HC HB HRD ew eh ek qw qh
  generalize (w.alloc (.cells #[.int .i64 b0, .int .i64 b1] 22)).drew = w1 at *
  have bm := below_alloc w1 (.cells #[] 25)
  have HOWN0 := Lib.hid (ownsRow_made w1 25 4)
  have BM := Lib.hid bm
  clear bm
  go_upto_block 0 with (fail)
  generalize w1.alloc (.cells #[] 25) = w2 at *
  go_cut [10] from 11 (fun ov wx => ∃ (n : Nat) (av : Option Addr) (cv : Nat) (sh : List Shp), ov = .slice av n cv ∧ Shapes wx av n cv sh ∧ (∀ s ∈ sh, s.v ≤ 65535) ∧ Below w.heap.size w wx)
  case rest =>
    as_aux_lemma =>
      clear HRD1 HB1 HOWN0 BM HL0
      obtain ⟨n, av, cv, sh, rfl, hS, hms, hB⟩ := hcut
      have HMS := Lib.hid hms
      clear hms
      obtain ⟨wz, hwz⟩ : ∃ z, z = wc := ⟨_, rfl⟩
      subst hwz
      have PB := Lib.hid (fun (w1 : World) (hb : Below wz.heap.size wz w1) (X Y : Nat) (hX : 1 ≤ X ∧ X ≤ 64) (hY : 1 ≤ Y ∧ Y ≤ 64) => pbest_calls X Y kf av n cv sh w1 hX hY (by omega) (hS.mono hb))
      have PT := Lib.hid (fun (w1 : World) (hb : Below wz.heap.size wz w1) => ptable_calls W H kf av n cv sh w1 (by omega) (by omega) (by omega) (hS.mono hb))
      have EX := Lib.hid (fun (w1 : World) => (show Calls Try.prog 4 #[.int .i64 5, .int .i64 3, .int .i64 1, .slice (some ⟨w1.heap.size, 0, none⟩) 1 1] (w1.alloc (.cells #[.int .i64 2, .int .i64 3, .int .i64 10, .bool false] 25)) (fun e w' => ∃ (av : Option Addr) (cv k : Nat), e = .returned (.tuple #[.slice av k cv, .int .i64 20, .int .i64 0]) ∧ Below (w1.alloc (.cells #[.int .i64 2, .int .i64 3, .int .i64 10, .bool false] 25)).heap.size (w1.alloc (.cells #[.int .i64 2, .int .i64 3, .int .i64 10, .bool false] 25)) w') from
        (pbest_calls 5 3 1 _ 1 1 _ _ (by omega) (by omega) (by omega) (one_shape w1)).mono (by rintro e w' ⟨av, cv, k, _, rfl, _, hb⟩; exact ⟨av, cv, k, by rw [example_20], hb⟩)))
      obtain ⟨x, hxf, hxm, hxv⟩ := first_way (kf := kf) (sh := sh) hW1.1 hH1.1
      have hplan := planV_eq hW1.1 hH1.1 hxf hxm
      have hmw := mem_ways hxm
      obtain ⟨V, hV⟩ : ∃ V, VV kf sh W H = V := ⟨_, rfl⟩
      rw [hV] at hxv
      obtain ⟨PL, hPL⟩ : ∃ l, planV kf sh W H = l := ⟨_, rfl⟩
      rw [hPL] at hplan
      obtain ⟨W1, hW1'⟩ : ∃ q, q + 1 = W := ⟨W - 1, by omega⟩
      obtain ⟨H1, hH1'⟩ : ∃ q, q + 1 = H := ⟨H - 1, by omega⟩
      have qW : IntKind.i64.wrap ((W : Int) - 1) = (W1 : Int) := by rw [IntWalk.i64_in _ (by omega)]; omega
      have qH : IntKind.i64.wrap ((H : Int) - 1) = (H1 : Int) := by rw [IntWalk.i64_in _ (by omega)]; omega
      have tW : (W1 : Int) < (W : Int) := by omega
      have tH : (H1 : Int) < (H : Int) := by omega
      have hlk1 : 1 ≤ PL.length := by rw [hplan]; simp
      have HXM := Lib.hid hmw
      have HXV := Lib.hid hxv
      have HPL := Lib.hid hplan
      have HVV := Lib.hid hV
      have HPP := Lib.hid hPL
      have HB := Lib.hid hB
      have HLK1 := Lib.hid hlk1
      have HWH := Lib.hid (And.intro hW1' hH1')
      have HBC := Lib.hid (Below.refl wz.heap.size wz)
      clear hS hB hxf hxm hxv hplan hmw hV hPL hW1' hH1' hlk1
      go_wp2_with fail
      refine (PB.out _ HBC.out W H (by omega) (by omega)).mono ?_
      rintro e w3 ⟨la, lc, lk, hlk, rfl, hlo, b3⟩
      as_aux_lemma =>
        rw [HPP.out] at hlk hlo
        rw [HVV.out]
        have hlk0 : 0 < lk := by have := HLK1.out; omega
        obtain ⟨gl, rfl, hgl, hcl⟩ := cuts_of hlo hlk hlk0
        have HCL := Lib.hid hcl
        have HLK := Lib.hid hlk
        have B3 := Lib.hid b3
        clear hlo hcl hlk b3 HBC HLK1
        go_wp2_with fail
        refine (PT.out _ B3.out).mono ?_
        rintro e w4 ⟨g, cg, r, cr, rfl, hg, hr, b4⟩
        as_aux_lemma =>
          rw [HVV.out] at hr
          rw [show W - 1 = W1 by have := HWH.out.1; omega] at hg
          rw [show H - 1 = H1 by have := HWH.out.2; omega] at hr
          have hgs := cell_ltV hg
          have hrs := cell_ltV hr
          dsimp only at hgs hrs
          have B4 := Lib.hid (below_trans B3.out b4)
          have HCL4 := Lib.hid (HCL.out.mono hgl b4)
          have hgl4 : gl < w4.heap.size := Nat.lt_of_lt_of_le hgl b4.size
          clear b4 PT HCL hgl
          go_wp2_with fail
          have bb := below_alloc w4 (.cells #[.int .i64 2, .int .i64 3, .int .i64 10, .bool false] 25)
          refine (EX.out _).mono ?_
          rintro e w5 ⟨xa, xc, xk, rfl, b5⟩
          as_aux_lemma =>
            have B45 := Lib.hid (below_trans bb b5)
            replace hg := (B45.out.cell (p := ⟨g, W1, none⟩) hgs).trans hg
            replace hr := (B45.out.cell (p := ⟨r, H1, none⟩) hrs).trans hr
            have HCL5 := Lib.hid (HCL4.out.mono hgl4 B45.out)
            have hgl5 : gl < w5.heap.size := Nat.lt_of_lt_of_le hgl4 B45.out.size
            have B5 := Lib.hid (below_trans B4.out B45.out)
            clear bb b5 B45 B4 HCL4 hgl4 hgs hrs EX B3
            have tl : ((lk : Int) == 0) = false := by simp; omega
            have tl2 : (0 : Int) < (lk : Int) := by omega
            obtain ⟨K, hK⟩ : ∃ K : Int, (x.k : Int) = K := ⟨_, rfl⟩
            obtain ⟨P, hP⟩ : ∃ P : Nat, x.p = P := ⟨_, rfl⟩
            obtain ⟨e0, e1⟩ := HCL5.out 0 (by rw [← HLK.out]; exact hlk0)
            rw [HPL.out, List.getD_cons_zero, Nat.zero_mul] at e0 e1
            dsimp only at e0 e1
            rw [hK] at e0
            rw [hP] at e1
            have HK := Lib.hid hK
            have HP := Lib.hid hP
            have HCC := Lib.hid (show ccl (x.k, x.p) = [Value.int .i64 K, Value.int .i64 (P : Int)] by
              show [Value.int .i64 (x.k : Int), Value.int .i64 (x.p : Int)] = _
              rw [hK, hP])
            clear hK hP
            go_upto_region 14 with (fail)
            have vc := Vals.newL w5 w5.heap.size [.int .i64 K, .int .i64 (P : Int)] 35 rfl
            have bb := below_alloc w5 (.cells #[.int .i64 K, .int .i64 (P : Int)] 35)
            have HCL6 := Lib.hid (HCL5.out.mono hgl5 bb)
            have hgl6 : gl < (w5.alloc (.cells #[.int .i64 K, .int .i64 (P : Int)] 35)).heap.size := Nat.lt_of_lt_of_le hgl5 bb.size
            have B6 := Lib.hid (below_trans B5.out bb)
            have hbc : w5.heap.size < (w5.alloc (.cells #[.int .i64 K, .int .i64 (P : Int)] 35)).heap.size := vc.lt
            clear bb HCL5 hgl5 B5 hg hr e0 e1
            obtain ⟨bc, hbce⟩ : ∃ q, w5.heap.size = q := ⟨_, rfl⟩
            rw [hbce] at vc hbc ⊢
            clear hbce
            generalize w5.alloc (.cells #[.int .i64 K, .int .i64 (P : Int)] 35) = w6 at *
            have c0 := vc.cell (i := 0) (by simp)
            have c1 := vc.cell (i := 1) (by simp)
            simp only [List.getD_cons_zero, List.getD_cons_succ] at c0 c1
            obtain ⟨Z1, hZ1⟩ : ∃ z : Int, IntKind.i64.wrap ((W : Int) - (P : Int)) = z := ⟨_, rfl⟩
            obtain ⟨Z, hZ⟩ : ∃ z : Int, IntKind.i64.wrap (Z1 - (kf : Int)) = z := ⟨_, rfl⟩
            go_cut [22, 23] from 33 (fun xv yv wx => ∃ f s : Nat, xv = .pointer (some ⟨f, 0, none⟩) ∧ yv = .pointer (some ⟨s, 0, none⟩) ∧ f ≠ s ∧ w6.heap.size ≤ f ∧ w6.heap.size ≤ s ∧ Vals wx f [.int .i64 (P : Int), .int .i64 (H : Int)] ∧ Vals wx s [.int .i64 Z, .int .i64 (H : Int)] ∧ Below w6.heap.size w6 wx)
            case first =>
              have hhd := Lib.hid (show w6.drew.cell? ⟨bc, 1, none⟩ = some (.int .i64 (P : Int)) from c1)
              go_region_held3 (fun w' => w'.cell? ⟨bc, 1, none⟩ = some (.int .i64 (P : Int))) (first | exact hhd.out | go_keep) (fail)
              all_goals (go_wp2; go_meet)
              · obtain ⟨x1, x2, x3⟩ := vals_2 w6.drew [.int .i64 (P : Int), .int .i64 (H : Int)] [.int .i64 Z, .int .i64 (H : Int)] 22 22
                exact ⟨_, _, rfl, rfl, by omega, Nat.le_refl _, Nat.le_succ _, x1, x2, (Below.refl _ _).drew.trans x3⟩
              · obtain ⟨x1, x2, x3⟩ := vals_2 w6.drew [.int .i64 Z, .int .i64 (H : Int)] [.int .i64 (P : Int), .int .i64 (H : Int)] 22 22
                exact ⟨_, _, rfl, rfl, by omega, Nat.le_succ _, Nat.le_refl _, x2, x1, (Below.refl _ _).drew.trans x3⟩
            case rest =>
              as_aux_lemma =>
                obtain ⟨f, s, rfl, rfl, hfs, hf6, hs6, vf, vs, b7⟩ := hcut
                clear c0 c1
                replace vc := vc.mono b7
                have HCL7 := Lib.hid (HCL6.out.mono hgl6 b7)
                have hgl7 : gl < wc.heap.size := Nat.lt_of_lt_of_le hgl6 b7.size
                have B7 := Lib.hid (below_trans B6.out b7)
                have hbf : bc < f := by omega
                have hgf : gl < f := by omega
                have hgs : gl < s := by omega
                have hzf : wz.heap.size ≤ f := Nat.le_trans B6.out.size hf6
                have hzs : wz.heap.size ≤ s := Nat.le_trans B6.out.size hs6
                have hbs : bc < s := by omega
                clear b7 HCL6 hgl6 B6 hbc hf6 hs6
                have c0 := vc.cell (i := 0) (by simp)
                have c1 := vc.cell (i := 1) (by simp)
                simp only [List.getD_cons_zero, List.getD_cons_succ] at c0 c1
                rcases HXM.out with ⟨xk, _⟩ | ⟨xk, _⟩ | ⟨xk, xp1, xp2, xv⟩ | ⟨xk, xp1, xp2, xv⟩

                · as_aux_lemma =>
                  have n3 : x.k ≠ 3 := by rw [xk]; decide
                  have n4 : x.k ≠ 4 := by rw [xk]; decide
                  have k3 : (K == 3) = false := beq_false_of_ne (by have := HK.out; omega)
                  have k4 : (K == 4) = false := beq_false_of_ne (by have := HK.out; omega)
                  have k3' : (K != 3) = true := by simp only [bne, k3]; rfl
                  have k4' : (K != 4) = true := by simp only [bne, k4]; rfl
                  have hl1 : lk = 1 := by
                    rw [HLK.out, HPL.out]
                    unfold restV
                    rw [if_neg n3, if_neg n4]
                    rfl
                  have tk : ((lk : Int) == 1) = true := by rw [hl1]; rfl
                  have BF := Lib.hid (below_trans HB.out B7.out)
                  clear n3 n4 hl1 xk vf vs HXM
                  go_wp2
                  go_ret
                  exact ⟨rfl, BF.out⟩
                · as_aux_lemma =>
                  have n3 : x.k ≠ 3 := by rcases xk with a | a <;> (rw [a]; decide)
                  have n4 : x.k ≠ 4 := by rcases xk with a | a <;> (rw [a]; decide)
                  have k3 : (K == 3) = false := beq_false_of_ne (by have := HK.out; omega)
                  have k4 : (K == 4) = false := beq_false_of_ne (by have := HK.out; omega)
                  have k3' : (K != 3) = true := by simp only [bne, k3]; rfl
                  have k4' : (K != 4) = true := by simp only [bne, k4]; rfl
                  have hl1 : lk = 1 := by
                    rw [HLK.out, HPL.out]
                    unfold restV
                    rw [if_neg n3, if_neg n4]
                    rfl
                  have tk : ((lk : Int) == 1) = true := by rw [hl1]; rfl
                  have BF := Lib.hid (below_trans HB.out B7.out)
                  clear n3 n4 hl1 xk vf vs HXM
                  go_wp2
                  go_ret
                  exact ⟨rfl, BF.out⟩
                · as_aux_lemma =>
                  have k3 : (K == 3) = true := by rw [← HK.out, xk]; rfl
                  have k4 : (K == 4) = false := by rw [← HK.out, xk]; rfl
                  have k3' : (K != 3) = false := by simp only [bne, k3]; rfl
                  have k4' : (K != 4) = true := by simp only [bne, k4]; rfl
                  rw [HP.out] at xp1 xp2 xv
                  have XK := Lib.hid xk
                  have XV := Lib.hid (xv.symm.trans HXV.out)
                  have hP16 : P ≤ 16 := by omega
                  clear xk xv HXM
                  have hZ0 : Z = (W : Int) - (P : Int) - (kf : Int) := by
                    rw [← hZ, ← hZ1, IntWalk.i64_in ((W : Int) - (P : Int)) (by omega), IntWalk.i64_in _ (by omega)]
                  obtain ⟨wk, hwk⟩ : ∃ q, q = wc := ⟨_, rfl⟩
                  subst hwk
                  have HZ0 := Lib.hid hZ0
                  clear hZ hZ1 hZ0
                  have f0 := vf.cell (i := 0) (by simp)
                  have f1 := vf.cell (i := 1) (by simp)
                  have s0 := vs.cell (i := 0) (by simp)
                  have s1 := vs.cell (i := 1) (by simp)
                  simp only [List.getD_cons_zero, List.getD_cons_succ] at f0 f1 s0 s1
                  go_wp2_with fail
                  refine (PB.out _ B7.out P H (by omega) (by omega)).mono ?_
                  rintro e w8 ⟨aa, ac, ak, hak, rfl, hao, b8⟩
                  as_aux_lemma =>
                    replace vc := vc.mono b8
                    replace vs := vs.mono b8
                    have HCL8 := Lib.hid (HCL7.out.mono hgl7 b8)
                    have hgl8 : gl < w8.heap.size := Nat.lt_of_lt_of_le hgl7 b8.size
                    have B8 := Lib.hid (below_trans B7.out b8)
                    have hpl := planV_len kf sh (P + H) P H (Nat.le_refl _) (by omega) (by omega)
                    have hmul : P * H ≤ 16 * 16 := Nat.mul_le_mul (by omega) (by omega)
                    have hakb : ak ≤ 1000 := by omega
                    have vlt : bc < w8.heap.size := vc.lt
                    have slt : s < w8.heap.size := vs.lt
                    obtain ⟨m, hm⟩ : ∃ m, VV kf sh P H = m := ⟨_, rfl⟩
                    rw [hm]
                    have HM := Lib.hid hm
                    clear f0 f1 s0 s1 c0 c1 b8 HCL7 hgl7 B7 vf hm
                    have c0 := vc.cell (i := 0) (by simp)
                    have c1 := vc.cell (i := 1) (by simp)
                    have s0 := vs.cell (i := 0) (by simp)
                    have s1 := vs.cell (i := 1) (by simp)
                    simp only [List.getD_cons_zero, List.getD_cons_succ] at c0 c1 s0 s1
                    have bb9 := below_alloc w8 (.cells #[.int .i64 K, .int .i64 (P : Int)] 35)
                    have OWN9 := Lib.hid (ownsRow_lit w8 35 2 1 [.int .i64 K, .int .i64 (P : Int)] _ rfl rfl (by unfold maxLen; omega))
                    have RD9 := Lib.hid ((ownsRow_rds hao).1.mono bb9)
                    have LE9 := Lib.hid bb9.size
                    have S9 := Lib.hid (And.intro ((bb9.cell (p := ⟨s, 0, none⟩) slt).trans s0) ((bb9.cell (p := ⟨s, 1, none⟩) slt).trans s1))
                    have BB9 := Lib.hid bb9
                    have HAK := Lib.hid hak
                    clear hao bb9 hak vs vc hpl
                    have hZ0 := HZ0.out
                    by_cases hr : 1 ≤ W - P - kf

                    · as_aux_lemma =>
                      obtain ⟨r, hr0⟩ : ∃ r, W - P - kf = r := ⟨_, rfl⟩
                      have hr1 : 1 ≤ r := by omega
                      have hr16 : r ≤ 16 := by omega
                      obtain rfl : Z = (r : Int) := by omega
                      have tr : (0 : Int) < (r : Int) := by omega
                      have tw : (0 : Int) < (W : Int) := by omega
                      have th : (0 : Int) < (H : Int) := by omega
                      have hpl2 := planV_len kf sh (P + H + r + 16) r H (by omega) (by omega) (by omega)
                      have hmul2 : r * H ≤ 16 * 16 := Nat.mul_le_mul (by omega) (by omega)
                      have hPLe : PL = (x.k, x.p) :: (planV kf sh P H ++ planV kf sh r H) := by
                        rw [HPL.out]; unfold restV
                        simp [XK.out, HP.out, hr0, hr1]
                      have hsum := XV.out
                      rw [HM.out, hr0] at hsum
                      have HSUM := Lib.hid hsum
                      have HPLE := Lib.hid hPLe
                      clear hsum hPLe hr hZ0
                      go_wp2_with (at_builtin; refine wpList_append_rv rfl (.tmp 200) (.tmp 201) _ rfl w8.heap.size 35 _ 2 16 Try.underlying26 info_cut rfl (by decide) _ 1 [.int .i64 K, .int .i64 (P : Int)] rfl OWN9.out _ ak ac (flat ccl (planV kf sh P H)) rfl RD9.out (by intro u hu; exact flat_one (fun c u hu => by simp only [ccl, List.mem_cons, List.not_mem_nil, or_false] at hu; rcases hu with rfl | rfl <;> rfl) _ u hu) (by unfold maxLen; omega) (by omega) LE9.out (1 + ak) rfl _ rfl ?_; intro pa pc w10 hown10 hg10 hn10 hb10 hk10; have O10 := Lib.hid hown10; have b89 := Lib.hid (BB9.out.trans hb10); have s0' := (b89.out.cell (p := ⟨s, 0, none⟩) slt).trans s0; have s1' := (b89.out.cell (p := ⟨s, 1, none⟩) slt).trans s1; clear hown10 hg10 hn10 hb10 hk10)
                      refine (PB.out _ (below_trans B8.out b89.out) r H (by omega) (by omega)).mono ?_
                      rintro e w11 ⟨ba, bcp, bk, hbk, rfl, hbo, b11⟩
                      as_aux_lemma =>
                        have hbkb : bk ≤ 1000 := by omega
                        have OWN11 := Lib.hid (ownsRow_mono O10.out b11)
                        have RD11 := Lib.hid (ownsRow_rds hbo).1
                        have HBK := Lib.hid hbk
                        have b811 := Lib.hid (below_trans b89.out b11)
                        obtain ⟨m2, hm2⟩ : ∃ m, VV kf sh r H = m := ⟨_, rfl⟩
                        rw [hm2]
                        have hS := HSUM.out
                        rw [hm2] at hS
                        obtain ⟨v1, v2⟩ := VV_bound (kf := kf) (sh := sh) (M := 65535) (by omega) HMS.out (P + H) P H (Nat.le_refl _)
                        obtain ⟨v3, v4⟩ := VV_bound (kf := kf) (sh := sh) (M := 65535) (by omega) HMS.out (P + H + r + 16) r H (by omega)
                        rw [HM.out] at v1 v2
                        rw [hm2] at v3 v4
                        have H63 := Lib.hid (show (1 + ak) + bk ≤ maxLen by unfold maxLen; omega)
                        have HBY := Lib.hid (show ((1 + ak) + bk) * 16 ≤ 140737488355328 by omega)
                        have qs : IntKind.i64.wrap (m + m2) = V := by rw [hS]; exact IntWalk.i64_in _ (by omega)
                        have qv : (V != V) = false := by simp
                        have hlkq : lk = 1 + ak + bk := by
                          rw [HLK.out, HPLE.out, HAK.out, HBK.out]
                          simp only [List.length_cons, List.length_append]
                          omega
                        have HALL := Lib.hid (show flat ccl PL = ([.int .i64 K, .int .i64 (P : Int)] ++ flat ccl (planV kf sh P H)) ++ flat ccl (planV kf sh r H) by
                          rw [HPLE.out]
                          show ccl (x.k, x.p) ++ flat ccl (planV kf sh P H ++ planV kf sh r H) = _
                          rw [flat_append, HCC.out, List.append_assoc])
                        have W11 := Lib.hid (Nat.le_trans b89.out.size b11.size)
                        have HLKQ := Lib.hid hlkq
                        have n1 : 1 + ak + bk ≤ 3000 := by omega
                        have hlkb : lk ≤ 3000 := by omega
                        clear hbo b11 hbk hS v1 v2 v3 v4 hm2 s0 s1 s0' s1' hlkq
                        go_wp2_with (at_builtin; refine wpList_append_rv rfl (.tmp 225) (.tmp 226) _ rfl w8.heap.size 35 _ 2 16 Try.underlying26 info_cut rfl (by decide) _ (1 + ak) _ rfl OWN11.out _ bk bcp (flat ccl (planV kf sh r H)) rfl RD11.out (by intro u hu; exact flat_one (fun c u hu => by simp only [ccl, List.mem_cons, List.not_mem_nil, or_false] at hu; rcases hu with rfl | rfl <;> rfl) _ u hu) H63.out HBY.out W11.out lk HLKQ.out (flat ccl PL) HALL.out ?_; intro pb pd w12 hown12 hg12 hn12 hb12 hk12; have O12 := Lib.hid hown12; have b812 := Lib.hid (b811.out.trans hb12); have HCL12 := Lib.hid (HCL8.out.mono hgl8 b812.out); have hgl12 : gl < w12.heap.size := Nat.lt_of_lt_of_le hgl8 b812.out.size; have BF := Lib.hid (below_trans HB.out (below_trans B8.out b812.out)); clear hown12 hg12 hn12 hb12 hk12)
                        clear qs
                        obtain ⟨gp, rfl, hgp, hcp⟩ := cuts_of O12.out HLK.out hlk0
                        have HCP := Lib.hid hcp
                        clear hcp
                        go_loopw [32] (fun kv wr => ∃ q : Nat, q ≤ lk ∧ kv = .int .i64 (q : Int) ∧ Below w12.heap.size w12 wr) (fun kv _ => ((lk : Int) - intOf kv).toNat)
                        case atStart => exact ⟨0, Nat.zero_le _, rfl, Below.refl _ _⟩
                        case round =>
                          as_aux_lemma =>
                            obtain ⟨q, hq, rfl, hbq⟩ := hrel
                            by_cases hql : q < lk
                            · have t1 : (q : Int) < (lk : Int) := by omega
                              have hqL : q < PL.length := by rw [← HLK.out]; exact hql
                              obtain ⟨x0, x1⟩ := HCL12.out.mono hgl12 hbq q hqL
                              obtain ⟨y0, y1⟩ := HCP.out.mono hgp hbq q hqL
                              obtain ⟨⟨ka, kb⟩, hkk⟩ : ∃ c, PL.getD q (0, 0) = c := ⟨_, rfl⟩
                              rw [hkk] at x0 x1 y0 y1
                              dsimp only at x0 x1 y0 y1
                              have rn := run_neq_cut (ka : Int) (kb : Int)
                              have hhd := Lib.hid (show wr.drew.cell? ⟨gl, q * 2, none⟩ = some (.int .i64 (ka : Int)) ∧ wr.drew.cell? ⟨gl, q * 2 + 1, none⟩ = some (.int .i64 (kb : Int)) ∧ wr.drew.cell? ⟨gp, q * 2, none⟩ = some (.int .i64 (ka : Int)) ∧ wr.drew.cell? ⟨gp, q * 2 + 1, none⟩ = some (.int .i64 (kb : Int)) from ⟨x0, x1, y0, y1⟩)
                              have BQ := Lib.hid hbq
                              clear hkk x0 x1 y0 y1 hbq
                              go_upto_region 31 with (fail)
                              go_region_held3 (fun w' => w'.cell? ⟨gl, q * 2, none⟩ = some (.int .i64 (ka : Int)) ∧ w'.cell? ⟨gl, q * 2 + 1, none⟩ = some (.int .i64 (kb : Int)) ∧ w'.cell? ⟨gp, q * 2, none⟩ = some (.int .i64 (ka : Int)) ∧ w'.cell? ⟨gp, q * 2 + 1, none⟩ = some (.int .i64 (kb : Int))) (exact hhd.out) (fail)
                              go_wp2
                              refine ⟨⟨q + 1, by omega, by go_num, BQ.out.drew⟩, ?_⟩
                              simp [intOf]
                              omega
                            · obtain rfl : q = lk := by omega
                              go_wp2
                              go_ret
                              exact ⟨rfl, BF.out.trans (hbq.mono BF.out.size)⟩
                    · as_aux_lemma =>
                      have tr : ¬ ((0 : Int) < Z) := by omega
                      have tw : (0 : Int) < (W : Int) := by omega
                      have th : (0 : Int) < (H : Int) := by omega
                      have hPLe : PL = (x.k, x.p) :: planV kf sh P H := by
                        rw [HPL.out]; unfold restV
                        simp [XK.out, HP.out, hr]
                      have hsum := XV.out
                      rw [HM.out, VV_zero (by omega), Int.add_zero] at hsum
                      have hlkq : lk = 1 + ak := by
                        rw [HLK.out, hPLe, HAK.out, List.length_cons]
                        omega
                      have HALL := Lib.hid (show flat ccl PL = [.int .i64 K, .int .i64 (P : Int)] ++ flat ccl (planV kf sh P H) by
                        rw [hPLe]
                        show ccl (x.k, x.p) ++ flat ccl (planV kf sh P H) = _
                        rw [HCC.out])
                      have HLKQ := Lib.hid hlkq
                      have hlkb : lk ≤ 3000 := by omega
                      have qv : (V != V) = false := by simp
                      rw [hsum]
                      clear hPLe hlkq hr hsum hZ0
                      go_wp2_with (at_builtin; refine wpList_append_rv rfl (.tmp 200) (.tmp 201) _ rfl w8.heap.size 35 _ 2 16 Try.underlying26 info_cut rfl (by decide) _ 1 [.int .i64 K, .int .i64 (P : Int)] rfl OWN9.out _ ak ac (flat ccl (planV kf sh P H)) rfl RD9.out (by intro u hu; exact flat_one (fun c u hu => by simp only [ccl, List.mem_cons, List.not_mem_nil, or_false] at hu; rcases hu with rfl | rfl <;> rfl) _ u hu) (by unfold maxLen; omega) (by omega) LE9.out lk HLKQ.out (flat ccl PL) HALL.out ?_; intro pb pd w12 hown12 hg12 hn12 hb12 hk12; have O12 := Lib.hid hown12; have b812 := Lib.hid (BB9.out.trans hb12); have s0' := (b812.out.cell (p := ⟨s, 0, none⟩) slt).trans s0; have s1' := (b812.out.cell (p := ⟨s, 1, none⟩) slt).trans s1; have HCL12 := Lib.hid (HCL8.out.mono hgl8 b812.out); have hgl12 : gl < w12.heap.size := Nat.lt_of_lt_of_le hgl8 b812.out.size; have BF := Lib.hid (below_trans HB.out (below_trans B8.out b812.out)); clear hown12 hg12 hn12 hb12 hk12)
                      obtain ⟨gp, rfl, hgp, hcp⟩ := cuts_of O12.out HLK.out hlk0
                      have HCP := Lib.hid hcp
                      clear hcp
                      go_loopw [32] (fun kv wr => ∃ q : Nat, q ≤ lk ∧ kv = .int .i64 (q : Int) ∧ Below w12.heap.size w12 wr) (fun kv _ => ((lk : Int) - intOf kv).toNat)
                      case atStart => exact ⟨0, Nat.zero_le _, rfl, Below.refl _ _⟩
                      case round =>
                        as_aux_lemma =>
                          obtain ⟨q, hq, rfl, hbq⟩ := hrel
                          by_cases hql : q < lk
                          · have t1 : (q : Int) < (lk : Int) := by omega
                            have hqL : q < PL.length := by rw [← HLK.out]; exact hql
                            obtain ⟨x0, x1⟩ := HCL12.out.mono hgl12 hbq q hqL
                            obtain ⟨y0, y1⟩ := HCP.out.mono hgp hbq q hqL
                            obtain ⟨⟨ka, kb⟩, hkk⟩ : ∃ c, PL.getD q (0, 0) = c := ⟨_, rfl⟩
                            rw [hkk] at x0 x1 y0 y1
                            dsimp only at x0 x1 y0 y1
                            have rn := run_neq_cut (ka : Int) (kb : Int)
                            have hhd := Lib.hid (show wr.drew.cell? ⟨gl, q * 2, none⟩ = some (.int .i64 (ka : Int)) ∧ wr.drew.cell? ⟨gl, q * 2 + 1, none⟩ = some (.int .i64 (kb : Int)) ∧ wr.drew.cell? ⟨gp, q * 2, none⟩ = some (.int .i64 (ka : Int)) ∧ wr.drew.cell? ⟨gp, q * 2 + 1, none⟩ = some (.int .i64 (kb : Int)) from ⟨x0, x1, y0, y1⟩)
                            have BQ := Lib.hid hbq
                            clear hkk x0 x1 y0 y1 hbq
                            go_upto_region 31 with (fail)
                            go_region_held3 (fun w' => w'.cell? ⟨gl, q * 2, none⟩ = some (.int .i64 (ka : Int)) ∧ w'.cell? ⟨gl, q * 2 + 1, none⟩ = some (.int .i64 (kb : Int)) ∧ w'.cell? ⟨gp, q * 2, none⟩ = some (.int .i64 (ka : Int)) ∧ w'.cell? ⟨gp, q * 2 + 1, none⟩ = some (.int .i64 (kb : Int))) (exact hhd.out) (fail)
                            go_wp2
                            refine ⟨⟨q + 1, by omega, by go_num, BQ.out.drew⟩, ?_⟩
                            simp [intOf]
                            omega
                          · obtain rfl : q = lk := by omega
                            go_wp2
                            go_ret
                            exact ⟨rfl, BF.out.trans (hbq.mono BF.out.size)⟩
                · as_aux_lemma =>
                  have k3 : (K == 3) = false := by rw [← HK.out, xk]; rfl
                  have k4 : (K == 4) = true := by rw [← HK.out, xk]; rfl
                  have k3' : (K != 3) = true := by simp only [bne, k3]; rfl
                  have k4' : (K != 4) = false := by simp only [bne, k4]; rfl
                  rw [HP.out] at xp1 xp2 xv
                  have XK := Lib.hid xk
                  have XV := Lib.hid (xv.symm.trans HXV.out)
                  have hP16 : P ≤ 16 := by omega
                  clear xk xv HXM
                  obtain ⟨Y1, hY1⟩ : ∃ z : Int, IntKind.i64.wrap ((H : Int) - (P : Int)) = z := ⟨_, rfl⟩
                  obtain ⟨Y, hY⟩ : ∃ z : Int, IntKind.i64.wrap (Y1 - (kf : Int)) = z := ⟨_, rfl⟩
                  have hY0 : Y = (H : Int) - (P : Int) - (kf : Int) := by
                    rw [← hY, ← hY1, IntWalk.i64_in ((H : Int) - (P : Int)) (by omega), IntWalk.i64_in _ (by omega)]
                  have HY0 := Lib.hid hY0
                  clear hY0
                  go_upto_region 16 with (fail)
                  go_cut [22] from 33 (fun xv wx => xv = .pointer (some ⟨f, 0, none⟩) ∧ Vals wx f [.int .i64 (W : Int), .int .i64 (P : Int)] ∧ Vals wx s [.int .i64 (W : Int), .int .i64 Y] ∧ Vals wx bc [.int .i64 K, .int .i64 (P : Int)] ∧ Cuts wx gl PL ∧ gl < wx.heap.size ∧ Below wz.heap.size wz wx)
                  case first =>
                    have f0 := vf.cell (i := 0) (by simp)
                    have f1 := vf.cell (i := 1) (by simp)
                    have s0 := vs.cell (i := 0) (by simp)
                    have s1 := vs.cell (i := 1) (by simp)
                    simp only [List.getD_cons_zero, List.getD_cons_succ] at f0 f1 s0 s1
                    have r0 := vf.frozen 0
                    have r1 := vf.frozen 1
                    have r2 := vs.frozen 0
                    have r3 := vs.frozen 1
                    have ltf := vf.lt
                    have lts := vs.lt
                    have nfb : f ≠ bc := by omega
                    have nsb : s ≠ bc := by omega
                    have nbf : bc ≠ f := by omega
                    have nbs : bc ≠ s := by omega
                    have nsf : s ≠ f := fun e => hfs e.symm
                    have HZF := Lib.hid hzf
                    have HZS := Lib.hid hzs
                    have HG1 := Lib.hid (show gl ≠ f by omega)
                    have HG2 := Lib.hid (show gl ≠ s by omega)
                    have hhd := Lib.hid (show wc.drew.cell? ⟨bc, 1, none⟩ = some (.int .i64 (P : Int)) from c1)
                    have hc1 : wc.cell? ⟨bc, 1, none⟩ = some (.int .i64 (P : Int)) := c1
                    have KF := Lib.hid (fun (x y : Value) => (show ((wc.setCell ⟨f, 0, none⟩ x).setCell ⟨f, 1, none⟩ y).drew.cell? ⟨bc, 1, none⟩ = some (.int .i64 (P : Int)) from by
                      show ((wc.setCell ⟨f, 0, none⟩ x).setCell ⟨f, 1, none⟩ y).cell? ⟨bc, 1, none⟩ = _
                      rw [World.cell?_setCell_far _ _ _ _ nfb, World.cell?_setCell_far _ _ _ _ nfb]; exact hc1))
                    have KS := Lib.hid (fun (x y z t : Value) => (show ((((wc.setCell ⟨f, 0, none⟩ x).setCell ⟨f, 1, none⟩ y).setCell ⟨s, 0, none⟩ z).setCell ⟨s, 1, none⟩ t).drew.cell? ⟨bc, 1, none⟩ = some (.int .i64 (P : Int)) from by
                      show ((((wc.setCell ⟨f, 0, none⟩ x).setCell ⟨f, 1, none⟩ y).setCell ⟨s, 0, none⟩ z).setCell ⟨s, 1, none⟩ t).cell? ⟨bc, 1, none⟩ = _
                      rw [World.cell?_setCell_far _ _ _ _ nsb, World.cell?_setCell_far _ _ _ _ nsb, World.cell?_setCell_far _ _ _ _ nfb, World.cell?_setCell_far _ _ _ _ nfb]; exact hc1))
                    clear tl tl2 tW tH hZ hZ1 qW qH hlk0 hP16 xp1 xp2 hgf hgs hzf hzs hkf
                    go_region_held3 (fun w' => w'.cell? ⟨bc, 1, none⟩ = some (.int .i64 (P : Int))) (first | (with_reducible exact hhd.out) | (with_reducible exact KF.out _ _) | (with_reducible exact KS.out _ _ _ _)) (fail)
                    go_wp2
                    go_meet
                    obtain ⟨x1, x2, x3, x4, x5, x6⟩ := two_sets hfs vf vs (.int .i64 (W : Int)) (.int .i64 (P : Int)) (.int .i64 (W : Int)) (.int .i64 Y)
                    exact ⟨rfl, x1, x2, x3 bc [.int .i64 K, .int .i64 (P : Int)] nbf nbs vc, x4 gl PL HG1.out HG2.out HCL7.out, Nat.lt_of_lt_of_eq hgl7 x5.symm, (x6 _ _ HZF.out HZS.out B7.out).drew⟩
                  case rest =>
                    as_aux_lemma =>
                      clear vf vs vc HCL7 B7 hgl7 c0 c1
                      obtain ⟨rfl, vf, vs, vc, hcl7, hgl7, b7⟩ := hcut
                      have HCL7 := Lib.hid hcl7
                      have B7 := Lib.hid b7
                      clear hcl7 b7 hZ hZ1
                      have c0 := vc.cell (i := 0) (by simp)
                      have c1 := vc.cell (i := 1) (by simp)
                      simp only [List.getD_cons_zero, List.getD_cons_succ] at c0 c1
                      obtain ⟨wk, hwk⟩ : ∃ q, q = wc := ⟨_, rfl⟩
                      subst hwk
                      clear hY hY1
                      have f0 := vf.cell (i := 0) (by simp)
                      have f1 := vf.cell (i := 1) (by simp)
                      have s0 := vs.cell (i := 0) (by simp)
                      have s1 := vs.cell (i := 1) (by simp)
                      simp only [List.getD_cons_zero, List.getD_cons_succ] at f0 f1 s0 s1
                      go_wp2_with fail
                      refine (PB.out _ B7.out W P (by omega) (by omega)).mono ?_
                      rintro e w8 ⟨aa, ac, ak, hak, rfl, hao, b8⟩
                      as_aux_lemma =>
                        replace vc := vc.mono b8
                        replace vs := vs.mono b8
                        have HCL8 := Lib.hid (HCL7.out.mono hgl7 b8)
                        have hgl8 : gl < w8.heap.size := Nat.lt_of_lt_of_le hgl7 b8.size
                        have B8 := Lib.hid (below_trans B7.out b8)
                        have hpl := planV_len kf sh (W + P) W P (Nat.le_refl _) (by omega) (by omega)
                        have hmul : W * P ≤ 16 * 16 := Nat.mul_le_mul (by omega) (by omega)
                        have hakb : ak ≤ 1000 := by omega
                        have vlt : bc < w8.heap.size := vc.lt
                        have slt : s < w8.heap.size := vs.lt
                        obtain ⟨m, hm⟩ : ∃ m, VV kf sh W P = m := ⟨_, rfl⟩
                        rw [hm]
                        have HM := Lib.hid hm
                        clear f0 f1 s0 s1 c0 c1 b8 HCL7 hgl7 B7 vf hm
                        have c0 := vc.cell (i := 0) (by simp)
                        have c1 := vc.cell (i := 1) (by simp)
                        have s0 := vs.cell (i := 0) (by simp)
                        have s1 := vs.cell (i := 1) (by simp)
                        simp only [List.getD_cons_zero, List.getD_cons_succ] at c0 c1 s0 s1
                        have bb9 := below_alloc w8 (.cells #[.int .i64 K, .int .i64 (P : Int)] 35)
                        have OWN9 := Lib.hid (ownsRow_lit w8 35 2 1 [.int .i64 K, .int .i64 (P : Int)] _ rfl rfl (by unfold maxLen; omega))
                        have RD9 := Lib.hid ((ownsRow_rds hao).1.mono bb9)
                        have LE9 := Lib.hid bb9.size
                        have S9 := Lib.hid (And.intro ((bb9.cell (p := ⟨s, 0, none⟩) slt).trans s0) ((bb9.cell (p := ⟨s, 1, none⟩) slt).trans s1))
                        have BB9 := Lib.hid bb9
                        have HAK := Lib.hid hak
                        clear hao bb9 hak vs vc hpl
                        have hY0 := HY0.out
                        by_cases hr : 1 ≤ H - P - kf

                        · as_aux_lemma =>
                          obtain ⟨r, hr0⟩ : ∃ r, H - P - kf = r := ⟨_, rfl⟩
                          have hr1 : 1 ≤ r := by omega
                          have hr16 : r ≤ 16 := by omega
                          obtain rfl : Y = (r : Int) := by omega
                          have tr : (0 : Int) < (r : Int) := by omega
                          have tw : (0 : Int) < (W : Int) := by omega
                          have th : (0 : Int) < (H : Int) := by omega
                          have hpl2 := planV_len kf sh (W + P + r + 16) W r (by omega) (by omega) (by omega)
                          have hmul2 : W * r ≤ 16 * 16 := Nat.mul_le_mul (by omega) (by omega)
                          have hPLe : PL = (x.k, x.p) :: (planV kf sh W P ++ planV kf sh W r) := by
                            rw [HPL.out]; unfold restV
                            simp [XK.out, HP.out, hr0, hr1]
                          have hsum := XV.out
                          rw [HM.out, hr0] at hsum
                          have HSUM := Lib.hid hsum
                          have HPLE := Lib.hid hPLe
                          clear hsum hPLe hr hY0
                          go_wp2_with (at_builtin; refine wpList_append_rv rfl (.tmp 200) (.tmp 201) _ rfl w8.heap.size 35 _ 2 16 Try.underlying26 info_cut rfl (by decide) _ 1 [.int .i64 K, .int .i64 (P : Int)] rfl OWN9.out _ ak ac (flat ccl (planV kf sh W P)) rfl RD9.out (by intro u hu; exact flat_one (fun c u hu => by simp only [ccl, List.mem_cons, List.not_mem_nil, or_false] at hu; rcases hu with rfl | rfl <;> rfl) _ u hu) (by unfold maxLen; omega) (by omega) LE9.out (1 + ak) rfl _ rfl ?_; intro pa pc w10 hown10 hg10 hn10 hb10 hk10; have O10 := Lib.hid hown10; have b89 := Lib.hid (BB9.out.trans hb10); have s0' := (b89.out.cell (p := ⟨s, 0, none⟩) slt).trans s0; have s1' := (b89.out.cell (p := ⟨s, 1, none⟩) slt).trans s1; clear hown10 hg10 hn10 hb10 hk10)
                          refine (PB.out _ (below_trans B8.out b89.out) W r (by omega) (by omega)).mono ?_
                          rintro e w11 ⟨ba, bcp, bk, hbk, rfl, hbo, b11⟩
                          as_aux_lemma =>
                            have hbkb : bk ≤ 1000 := by omega
                            have OWN11 := Lib.hid (ownsRow_mono O10.out b11)
                            have RD11 := Lib.hid (ownsRow_rds hbo).1
                            have HBK := Lib.hid hbk
                            have b811 := Lib.hid (below_trans b89.out b11)
                            obtain ⟨m2, hm2⟩ : ∃ m, VV kf sh W r = m := ⟨_, rfl⟩
                            rw [hm2]
                            have hS := HSUM.out
                            rw [hm2] at hS
                            obtain ⟨v1, v2⟩ := VV_bound (kf := kf) (sh := sh) (M := 65535) (by omega) HMS.out (W + P) W P (Nat.le_refl _)
                            obtain ⟨v3, v4⟩ := VV_bound (kf := kf) (sh := sh) (M := 65535) (by omega) HMS.out (W + P + r + 16) W r (by omega)
                            rw [HM.out] at v1 v2
                            rw [hm2] at v3 v4
                            have H63 := Lib.hid (show (1 + ak) + bk ≤ maxLen by unfold maxLen; omega)
                            have HBY := Lib.hid (show ((1 + ak) + bk) * 16 ≤ 140737488355328 by omega)
                            have qs : IntKind.i64.wrap (m + m2) = V := by rw [hS]; exact IntWalk.i64_in _ (by omega)
                            have qv : (V != V) = false := by simp
                            have hlkq : lk = 1 + ak + bk := by
                              rw [HLK.out, HPLE.out, HAK.out, HBK.out]
                              simp only [List.length_cons, List.length_append]
                              omega
                            have HALL := Lib.hid (show flat ccl PL = ([.int .i64 K, .int .i64 (P : Int)] ++ flat ccl (planV kf sh W P)) ++ flat ccl (planV kf sh W r) by
                              rw [HPLE.out]
                              show ccl (x.k, x.p) ++ flat ccl (planV kf sh W P ++ planV kf sh W r) = _
                              rw [flat_append, HCC.out, List.append_assoc])
                            have W11 := Lib.hid (Nat.le_trans b89.out.size b11.size)
                            have HLKQ := Lib.hid hlkq
                            have n1 : 1 + ak + bk ≤ 3000 := by omega
                            have hlkb : lk ≤ 3000 := by omega
                            clear hbo b11 hbk hS v1 v2 v3 v4 hm2 s0 s1 s0' s1' hlkq
                            go_wp2_with (at_builtin; refine wpList_append_rv rfl (.tmp 225) (.tmp 226) _ rfl w8.heap.size 35 _ 2 16 Try.underlying26 info_cut rfl (by decide) _ (1 + ak) _ rfl OWN11.out _ bk bcp (flat ccl (planV kf sh W r)) rfl RD11.out (by intro u hu; exact flat_one (fun c u hu => by simp only [ccl, List.mem_cons, List.not_mem_nil, or_false] at hu; rcases hu with rfl | rfl <;> rfl) _ u hu) H63.out HBY.out W11.out lk HLKQ.out (flat ccl PL) HALL.out ?_; intro pb pd w12 hown12 hg12 hn12 hb12 hk12; have O12 := Lib.hid hown12; have b812 := Lib.hid (b811.out.trans hb12); have HCL12 := Lib.hid (HCL8.out.mono hgl8 b812.out); have hgl12 : gl < w12.heap.size := Nat.lt_of_lt_of_le hgl8 b812.out.size; have BF := Lib.hid (below_trans HB.out (below_trans B8.out b812.out)); clear hown12 hg12 hn12 hb12 hk12)
                            clear qs
                            obtain ⟨gp, rfl, hgp, hcp⟩ := cuts_of O12.out HLK.out hlk0
                            have HCP := Lib.hid hcp
                            clear hcp
                            go_loopw [32] (fun kv wr => ∃ q : Nat, q ≤ lk ∧ kv = .int .i64 (q : Int) ∧ Below w12.heap.size w12 wr) (fun kv _ => ((lk : Int) - intOf kv).toNat)
                            case atStart => exact ⟨0, Nat.zero_le _, rfl, Below.refl _ _⟩
                            case round =>
                              as_aux_lemma =>
                                obtain ⟨q, hq, rfl, hbq⟩ := hrel
                                by_cases hql : q < lk
                                · have t1 : (q : Int) < (lk : Int) := by omega
                                  have hqL : q < PL.length := by rw [← HLK.out]; exact hql
                                  obtain ⟨x0, x1⟩ := HCL12.out.mono hgl12 hbq q hqL
                                  obtain ⟨y0, y1⟩ := HCP.out.mono hgp hbq q hqL
                                  obtain ⟨⟨ka, kb⟩, hkk⟩ : ∃ c, PL.getD q (0, 0) = c := ⟨_, rfl⟩
                                  rw [hkk] at x0 x1 y0 y1
                                  dsimp only at x0 x1 y0 y1
                                  have rn := run_neq_cut (ka : Int) (kb : Int)
                                  have hhd := Lib.hid (show wr.drew.cell? ⟨gl, q * 2, none⟩ = some (.int .i64 (ka : Int)) ∧ wr.drew.cell? ⟨gl, q * 2 + 1, none⟩ = some (.int .i64 (kb : Int)) ∧ wr.drew.cell? ⟨gp, q * 2, none⟩ = some (.int .i64 (ka : Int)) ∧ wr.drew.cell? ⟨gp, q * 2 + 1, none⟩ = some (.int .i64 (kb : Int)) from ⟨x0, x1, y0, y1⟩)
                                  have BQ := Lib.hid hbq
                                  clear hkk x0 x1 y0 y1 hbq
                                  go_upto_region 31 with (fail)
                                  go_region_held3 (fun w' => w'.cell? ⟨gl, q * 2, none⟩ = some (.int .i64 (ka : Int)) ∧ w'.cell? ⟨gl, q * 2 + 1, none⟩ = some (.int .i64 (kb : Int)) ∧ w'.cell? ⟨gp, q * 2, none⟩ = some (.int .i64 (ka : Int)) ∧ w'.cell? ⟨gp, q * 2 + 1, none⟩ = some (.int .i64 (kb : Int))) (exact hhd.out) (fail)
                                  go_wp2
                                  refine ⟨⟨q + 1, by omega, by go_num, BQ.out.drew⟩, ?_⟩
                                  simp [intOf]
                                  omega
                                · obtain rfl : q = lk := by omega
                                  go_wp2
                                  go_ret
                                  exact ⟨rfl, BF.out.trans (hbq.mono BF.out.size)⟩
                        · as_aux_lemma =>
                          have tr : ¬ ((0 : Int) < Y) := by omega
                          have tw : (0 : Int) < (W : Int) := by omega
                          have th : (0 : Int) < (H : Int) := by omega
                          have hPLe : PL = (x.k, x.p) :: planV kf sh W P := by
                            rw [HPL.out]; unfold restV
                            simp [XK.out, HP.out, hr]
                          have hsum := XV.out
                          rw [HM.out, VV_zero (by omega), Int.add_zero] at hsum
                          have hlkq : lk = 1 + ak := by
                            rw [HLK.out, hPLe, HAK.out, List.length_cons]
                            omega
                          have HALL := Lib.hid (show flat ccl PL = [.int .i64 K, .int .i64 (P : Int)] ++ flat ccl (planV kf sh W P) by
                            rw [hPLe]
                            show ccl (x.k, x.p) ++ flat ccl (planV kf sh W P) = _
                            rw [HCC.out])
                          have HLKQ := Lib.hid hlkq
                          have hlkb : lk ≤ 3000 := by omega
                          have qv : (V != V) = false := by simp
                          rw [hsum]
                          clear hPLe hlkq hr hsum hY0
                          go_wp2_with (at_builtin; refine wpList_append_rv rfl (.tmp 200) (.tmp 201) _ rfl w8.heap.size 35 _ 2 16 Try.underlying26 info_cut rfl (by decide) _ 1 [.int .i64 K, .int .i64 (P : Int)] rfl OWN9.out _ ak ac (flat ccl (planV kf sh W P)) rfl RD9.out (by intro u hu; exact flat_one (fun c u hu => by simp only [ccl, List.mem_cons, List.not_mem_nil, or_false] at hu; rcases hu with rfl | rfl <;> rfl) _ u hu) (by unfold maxLen; omega) (by omega) LE9.out lk HLKQ.out (flat ccl PL) HALL.out ?_; intro pb pd w12 hown12 hg12 hn12 hb12 hk12; have O12 := Lib.hid hown12; have b812 := Lib.hid (BB9.out.trans hb12); have s0' := (b812.out.cell (p := ⟨s, 0, none⟩) slt).trans s0; have s1' := (b812.out.cell (p := ⟨s, 1, none⟩) slt).trans s1; have HCL12 := Lib.hid (HCL8.out.mono hgl8 b812.out); have hgl12 : gl < w12.heap.size := Nat.lt_of_lt_of_le hgl8 b812.out.size; have BF := Lib.hid (below_trans HB.out (below_trans B8.out b812.out)); clear hown12 hg12 hn12 hb12 hk12)
                          obtain ⟨gp, rfl, hgp, hcp⟩ := cuts_of O12.out HLK.out hlk0
                          have HCP := Lib.hid hcp
                          clear hcp
                          go_loopw [32] (fun kv wr => ∃ q : Nat, q ≤ lk ∧ kv = .int .i64 (q : Int) ∧ Below w12.heap.size w12 wr) (fun kv _ => ((lk : Int) - intOf kv).toNat)
                          case atStart => exact ⟨0, Nat.zero_le _, rfl, Below.refl _ _⟩
                          case round =>
                            as_aux_lemma =>
                              obtain ⟨q, hq, rfl, hbq⟩ := hrel
                              by_cases hql : q < lk
                              · have t1 : (q : Int) < (lk : Int) := by omega
                                have hqL : q < PL.length := by rw [← HLK.out]; exact hql
                                obtain ⟨x0, x1⟩ := HCL12.out.mono hgl12 hbq q hqL
                                obtain ⟨y0, y1⟩ := HCP.out.mono hgp hbq q hqL
                                obtain ⟨⟨ka, kb⟩, hkk⟩ : ∃ c, PL.getD q (0, 0) = c := ⟨_, rfl⟩
                                rw [hkk] at x0 x1 y0 y1
                                dsimp only at x0 x1 y0 y1
                                have rn := run_neq_cut (ka : Int) (kb : Int)
                                have hhd := Lib.hid (show wr.drew.cell? ⟨gl, q * 2, none⟩ = some (.int .i64 (ka : Int)) ∧ wr.drew.cell? ⟨gl, q * 2 + 1, none⟩ = some (.int .i64 (kb : Int)) ∧ wr.drew.cell? ⟨gp, q * 2, none⟩ = some (.int .i64 (ka : Int)) ∧ wr.drew.cell? ⟨gp, q * 2 + 1, none⟩ = some (.int .i64 (kb : Int)) from ⟨x0, x1, y0, y1⟩)
                                have BQ := Lib.hid hbq
                                clear hkk x0 x1 y0 y1 hbq
                                go_upto_region 31 with (fail)
                                go_region_held3 (fun w' => w'.cell? ⟨gl, q * 2, none⟩ = some (.int .i64 (ka : Int)) ∧ w'.cell? ⟨gl, q * 2 + 1, none⟩ = some (.int .i64 (kb : Int)) ∧ w'.cell? ⟨gp, q * 2, none⟩ = some (.int .i64 (ka : Int)) ∧ w'.cell? ⟨gp, q * 2 + 1, none⟩ = some (.int .i64 (kb : Int))) (exact hhd.out) (fail)
                                go_wp2
                                refine ⟨⟨q + 1, by omega, by go_num, BQ.out.drew⟩, ?_⟩
                                simp [intOf]
                                omega
                              · obtain rfl : q = lk := by omega
                                go_wp2
                                go_ret
                                exact ⟨rfl, BF.out.trans (hbq.mono BF.out.size)⟩
  case first =>
  as_aux_lemma =>
    go_wp2
    go_loopw [10, 11] (fun ov iv wr => ∃ (i : Nat) (av : Option Addr) (cv : Nat) (sh : List Shp), i ≤ 6 ∧ i ≤ len ∧ iv = .int .i64 (i : Int) ∧ ov = .slice av i cv ∧ wr.ownsRow w1.heap.size 25 4 (.slice av i cv) i (flat scl sh) ∧ sh.length = i ∧ (∀ s ∈ sh, MskOk s) ∧ Below w1.heap.size w1 wr) (fun _ iv _ => ((len : Int) - intOf iv).toNat)
    case atStart => exact ⟨0, _, _, [], by omega, Nat.zero_le _, rfl, rfl, HOWN0.out, rfl, fun s hs => (by cases hs), BM.out⟩
    case round =>
      as_aux_lemma =>
        obtain ⟨i, av, cv, sh, hi6, hil, rfl, rfl, hown, hsl, hsm, hB⟩ := hrel
        by_cases h1 : i < len
        · have t1 : (i : Int) < (len : Int) := by omega
          by_cases h2 : i < 6
          · have t2 : (i : Int) < 6 := by omega
            have hix : i < sh0.length := by rw [HL0.out]; exact h1
            obtain ⟨bl, ol, hbl, hc⟩ := (HRD1.out.mono hB).at scl_len (by omega) s0 hix
            subst hbl
            obtain ⟨⟨sw, sv, sx, st⟩, hx⟩ : ∃ z, sh0.getD i s0 = z := ⟨_, rfl⟩
            rw [hx] at hc
            have c0 : wr.cell? ⟨bl, ol + i * 4, none⟩ = some (.int .i64 sw) := hc 0 _ rfl
            have c1 : wr.cell? ⟨bl, ol + i * 4 + 1, none⟩ = some (.int .i64 sv) := hc 1 _ rfl
            have c2 : wr.cell? ⟨bl, ol + i * 4 + 2, none⟩ = some (.int .i64 sx) := hc 2 _ rfl
            have c3 : wr.cell? ⟨bl, ol + i * 4 + 3, none⟩ = some (.bool st) := hc 3 _ rfl
            obtain ⟨k1, hk1, e1⟩ := pmask_7 sw
            obtain ⟨k2, hk2, e2⟩ := pmask_7 sv
            obtain ⟨k3, hk3, e3⟩ := pmask_65535 sx
            obtain ⟨x1, hx1⟩ : ∃ z : Int, (k1 : Int) + 1 = z := ⟨_, rfl⟩
            obtain ⟨x2, hx2⟩ : ∃ z : Int, (k2 : Int) + 1 = z := ⟨_, rfl⟩
            have q1 : IntKind.i64.wrap ((k1 : Int) + 1) = x1 := by rw [← hx1]; exact IntWalk.i64_in _ (by omega)
            have q2 : IntKind.i64.wrap ((k2 : Int) + 1) = x2 := by rw [← hx2]; exact IntWalk.i64_in _ (by omega)
            have v := Vals.newL wr wr.heap.size [.int .i64 sw, .int .i64 sv, .int .i64 sx, .bool st] 25 rfl
            have bb := below_alloc wr (.cells #[.int .i64 sw, .int .i64 sv, .int .i64 sx, .bool st] 25)
            have d0 := v.cell (i := 0) (by simp)
            have d1 := v.cell (i := 1) (by simp)
            have d2 := v.cell (i := 2) (by simp)
            have d3 := v.cell (i := 3) (by simp)
            simp only [List.getD_cons_zero, List.getD_cons_succ] at d0 d1 d2 d3
            have bb2 := below_alloc (wr.alloc (.cells #[.int .i64 sw, .int .i64 sv, .int .i64 sx, .bool st] 25)) (.cells #[.int .i64 x1, .int .i64 x2, .int .i64 (k3 : Int), .bool st] 25)
            have OWN := Lib.hid (ownsRow_mono (ownsRow_mono hown bb) bb2)
            have RD4 := Lib.hid (Vals.newL (wr.alloc (.cells #[.int .i64 sw, .int .i64 sv, .int .i64 sx, .bool st] 25)) (wr.heap.size + 1) [.int .i64 x1, .int .i64 x2, .int .i64 (k3 : Int), .bool st] 25 (World.size_alloc _ _).symm).rd4
            have HB3 := Lib.hid (hB.trans ((bb.mono hB.size).trans (bb2.mono (Nat.le_trans hB.size bb.size))))
            have hszz : w1.heap.size ≤ ((wr.alloc (.cells #[.int .i64 sw, .int .i64 sv, .int .i64 sx, .bool st] 25)).alloc (.cells #[.int .i64 x1, .int .i64 x2, .int .i64 (k3 : Int), .bool st] 25)).heap.size := Nat.le_trans hB.size (Nat.le_trans bb.size bb2.size)
            have HSM := Lib.hid hsm
            have HX := Lib.hid (And.intro hx1 hx2)
            clear hown hB bb bb2 hc hx hx1 hx2 v hsm
            go_wp2_with (at_builtin; refine wpList_append_rv rfl (.tmp 58) (.tmp 73) _ rfl w1.heap.size 25 _ 4 32 Try.underlying23 info_shape rfl (by decide) _ i (flat scl sh) rfl OWN.out _ 1 1 [.int .i64 x1, .int .i64 x2, .int .i64 (k3 : Int), .bool st] rfl RD4.out (by intro u hu; simp only [List.mem_cons, List.not_mem_nil, or_false] at hu; rcases hu with rfl | rfl | rfl | rfl <;> rfl) (by unfold maxLen; omega) (by omega) hszz (i + 1) rfl _ rfl ?_; intro ad2 c2' w7 hown7 hg7 hn7 hb7 hk7; have O7 := Lib.hid hown7; have B7 := Lib.hid hb7; clear hown7 hg7 hn7 hb7 hk7)
            have hfl : flat scl (sh ++ [⟨x1, x2, (k3 : Int), st⟩]) = flat scl sh ++ [.int .i64 x1, .int .i64 x2, .int .i64 (k3 : Int), .bool st] := by rw [flat_append]; rfl
            have hsm2 : ∀ s ∈ sh ++ [⟨x1, x2, (k3 : Int), st⟩], MskOk s := by
              intro s hs
              rcases List.mem_append.1 hs with hs | hs
              · exact HSM.out s hs
              · rw [List.mem_singleton.1 hs]
                obtain ⟨y1, y2⟩ := HX.out
                exact ⟨by show 1 ≤ x1; omega, by show x1 ≤ 8; omega, by show 1 ≤ x2; omega, by show x2 ≤ 8; omega, by show 0 ≤ (k3 : Int); omega, by show (k3 : Int) ≤ 65535; omega⟩
            go_roundw
            case rel => exact ⟨i + 1, ad2, c2', sh ++ [⟨x1, x2, (k3 : Int), st⟩], by omega, by omega, by go_num, rfl, by rw [hfl]; exact O7.out, by rw [List.length_append, hsl]; rfl, hsm2, HB3.out.trans B7.out⟩
            case measure => simp [intOf]; omega
          · have t2 : ¬ ((i : Int) < 6) := by omega
            have HS := Lib.hid (shapes_of hown hsl hsm hi6)
            have HMS := Lib.hid hsm
            have HB := Lib.hid (below_trans HB1.out hB)
            have hn6 := hi6
            clear hown hB hsm hsl HRD1 HB1 HOWN0 BM HL0 h1 h2
            go_wp2
            go_meet
            exact ⟨_, _, _, _, rfl, HS.out, fun s hs => (HMS.out s hs).2.2.2.2.2, HB.out⟩
        · have t1 : ¬ ((i : Int) < (len : Int)) := by omega
          have HS := Lib.hid (shapes_of hown hsl hsm hi6)
          have HMS := Lib.hid hsm
          have HB := Lib.hid (below_trans HB1.out hB)
          clear hown hB hsm hsl HRD1 HB1 HOWN0 BM HL0 h1
          go_wp2
          go_meet
          exact ⟨_, _, _, _, rfl, HS.out, fun s hs => (HMS.out s hs).2.2.2.2.2, HB.out⟩

end Go.Proofs
