/- The reference's Needs. -/
import Derived.Test.YtmnalmmffphnpaaDoorNeedsLaw
import Derived.Test.YtmnalmmffphnpaaDoorNumText
import Derived.Test.YtmnalmmffphnpaaDoorWRef
import Derived.Test.YtmnalmmffphnpaaDoorWShort
import Derived.Deep.RegionHeld3
import Derived.Deep.Cut
open Go.RowKit Go.Deep
namespace Go.Proofs
set_option linter.unusedVariables false
set_option linter.unusedSimpArgs false

theorem lotK_at {S : Scl} {P : List Pk} {tail : Int} {m g : Nat} (hg : g < S.gs.length) : lotK S P tail (m * S.gs.length + g) = ⟨itemB (m : Int) (S.gs.getD g 0), sumN S P tail ⟨(m : Int), (g : Int)⟩ P.length⟩ := by
  have e1 : (m * S.gs.length + g) / S.gs.length = m := by
    rw [Nat.mul_comm, Nat.mul_add_div (by omega), Nat.div_eq_of_lt hg]; rfl
  have e2 : (m * S.gs.length + g) % S.gs.length = g := by
    rw [Nat.mul_comm, Nat.mul_add_mod, Nat.mod_eq_of_lt hg]
  unfold lotK pkK
  rw [e1, e2]

theorem gs_pos {S : Scl} (hs : sclOk S = true) {g : Nat} (hg : g < S.gs.length) : 1 ≤ S.gs.getD g 0 ∧ S.gs.getD g 0 ≤ 2000 := by
  have h := sclOk_g hs hg
  unfold inR at h
  exact of_decide_eq_true h

set_option maxRecDepth 100000 in
set_option maxHeartbeats 4000000 in
theorem rneeds_calls (S : Scl) (P : List Pk) (tail : Int) (cv mv gv pv : Value) (w : World) (hS : InS w cv mv gv S) (hP : InP w pv P) (hI : SclI S) (hs : sclOk S = true) (ht : 0 ≤ tail ∧ tail ≤ 100000) (hf : fitsB S P = true) :
    Calls Tryd.prog 12 #[.agg #[cv, mv, gv, .int .i64 S.sf, .int .i64 S.ch], pv, .int .i64 tail] w fun e w' => ∃ v, e = .returned v ∧ InL w' v (needs S P tail (S.ms.length * S.gs.length)) ∧ Below w.heap.size w w' := by
  obtain ⟨hl96, hl4, hl16, _, hch⟩ := headOk_lens (headOk_of hs)
  have SB := fun (p : Pk) (i : Nat) (hi : i ≤ S.cs.length) => sumN_bd hs (P := P) ht p i hi
  have SC := fun (i : Nat) (hi : i < S.cs.length) => (crs_facts (sclOk_c hs hi)).1
  have hpl := (fits_parts hf).1
  have hg1 := hl16.1
  clear hf
  obtain ⟨⟨adc, cc, rfl, rc⟩, ⟨adm, cm, rfl, rm⟩, ⟨adg, cg, rfl, rg⟩⟩ := hS
  obtain ⟨adp, cp, rfl, rp⟩ := hP
  obtain ⟨nc, hnc⟩ : ∃ n, S.cs.length = n := ⟨_, rfl⟩
  obtain ⟨nm, hnm⟩ : ∃ n, S.ms.length = n := ⟨_, rfl⟩
  obtain ⟨ng, hng⟩ : ∃ n, S.gs.length = n := ⟨_, rfl⟩
  obtain ⟨np, hnp⟩ : ∃ n, P.length = n := ⟨_, rfl⟩
  rw [hnc, hnm, hng, hnp]
  rw [hnc] at hl96
  rw [hnm] at hl4
  rw [hng] at hl16
  have HNC := Lib.hid hnc
  have HNM := Lib.hid hnm
  have HNG := Lib.hid hng
  have HNP := Lib.hid hnp
  have HSB := Lib.hid SB
  have HSC := Lib.hid SC
  have Hhpl := Lib.hid hpl
  have HhI := Lib.hid hI
  clear hpl
  have HSZ := Lib.hid (World.size_alloc w (.cells #[.slice adc nc cc, .slice adm nm cm, .slice adg ng cg, .int .i64 S.sf, .int .i64 S.ch] 26))
  have HGP := Lib.hid (fun (g : Nat) (hg : g < S.gs.length) => gs_pos hs hg)
  clear SB SC hI hs hnc hnm hng hnp
  have vs := Vals.newL w (w.heap.size) [.slice adc nc cc, .slice adm nm cm, .slice adg ng cg, .int .i64 S.sf, .int .i64 S.ch] 26 rfl
  have bb := below_alloc w (.cells #[.slice adc nc cc, .slice adm nm cm, .slice adg ng cg, .int .i64 S.sf, .int .i64 S.ch] 26)
  have B := bb
  clear bb
  go_enter Tryd.func12, Tryd.ntmps12
  go_upto_region 1 with (fail)
  generalize (w.alloc (.cells #[.slice adc nc cc, .slice adm nm cm, .slice adg ng cg, .int .i64 S.sf, .int .i64 S.ch] 26)) = w0 at *
  replace rc := rc.mono B
  replace rm := rm.mono B
  replace rg := rg.mono B
  replace rp := rp.mono B
  have hmade := ownsRow_made w0 42 3
  have BM := below_alloc w0 (.cells #[] 42)
  go_wp2
  go_loopw [8, 7] (fun mv ov wr => ∃ m : Nat, mv = .int .i64 (m : Int) ∧ m ≤ nm ∧ (∃ ad c, ov = .slice ad (needs S P tail (m * ng)).length c) ∧ wr.ownsRow w0.heap.size 42 3 ov (needs S P tail (m * ng)).length (flat lcl (needs S P tail (m * ng))) ∧ Below w0.heap.size w0 wr)
    (fun mv _ _ => nm - (intOf mv).toNat)
  case atStart => exact ⟨0, rfl, Nat.zero_le _, ⟨_, _, by rw [Nat.zero_mul]; rfl⟩, by rw [Nat.zero_mul]; exact hmade, BM⟩
  case round =>
    clear hmade BM
    obtain ⟨m, rfl, hm, ⟨ad, c, rfl⟩, hown, BW⟩ := hrel
    obtain ⟨LL, hLL⟩ : ∃ L, needs S P tail (m * ng) = L := ⟨_, rfl⟩
    rw [hLL] at hown ⊢
    have HLL := Lib.hid hLL
    clear hLL
    have BX := BW
    have vsx := vs.mono BX
    have cs0 := vsx.cell (i := 0) (by simp)
    have cs1 := vsx.cell (i := 1) (by simp)
    have cs2 := vsx.cell (i := 2) (by simp)
    simp only [List.getD_cons_zero, List.getD_cons_succ] at cs0 cs1 cs2
    have lsx := vsx.lt
    by_cases hmt : m < nm
    · have m1 : (0 : Int) ≤ (m : Int) := by omega
      have m2 : (m : Int) < (nm : Int) := by omega
      have hnl2 := needs_len S P tail (m * ng)
      rw [HLL.out] at hnl2
      obtain ⟨nl0, hnl0⟩ : ∃ n, LL.length = n := ⟨_, rfl⟩
      have HOW := Lib.hid hown
      have HBW := Lib.hid BW
      clear hown hnl2
      go_wp2
      clear cs0 cs1 cs2 lsx vsx
      clear BX BW
      go_loopw [9, 7] (fun gv ov wr => ∃ g : Nat, gv = .int .i64 (g : Int) ∧ g ≤ ng ∧ (∃ ad c, ov = .slice ad (needs S P tail (m * ng + g)).length c) ∧ wr.ownsRow w0.heap.size 42 3 ov (needs S P tail (m * ng + g)).length (flat lcl (needs S P tail (m * ng + g))) ∧ Below w0.heap.size w0 wr)
        (fun gv _ _ => ng - (intOf gv).toNat)
      case atStart => exact ⟨0, rfl, Nat.zero_le _, ⟨_, _, by rw [show needs S P tail (m * ng + 0) = LL from HLL.out]⟩, by rw [show needs S P tail (m * ng + 0) = LL from HLL.out]; exact HOW.out, HBW.out⟩
      case round =>
        clear HOW HBW HLL hnl0
        obtain ⟨g, rfl, hg, ⟨ad, c, rfl⟩, hown, BW⟩ := hrel
        obtain ⟨nl, hnl⟩ : ∃ n, (needs S P tail (m * ng + g)).length = n := ⟨_, rfl⟩
        have hnl2 := needs_len S P tail (m * ng + g)
        rw [hnl] at hown hnl2 ⊢
        have HNL := Lib.hid hnl
        clear hnl
        have BX := BW
        have vsx := vs.mono BX
        have cs0 := vsx.cell (i := 0) (by simp)
        have cs1 := vsx.cell (i := 1) (by simp)
        have cs2 := vsx.cell (i := 2) (by simp)
        simp only [List.getD_cons_zero, List.getD_cons_succ] at cs0 cs1 cs2
        have lsx := vsx.lt
        by_cases hgt : g < ng
        · have g1 : (0 : Int) ≤ (g : Int) := by omega
          have g2 : (g : Int) < (ng : Int) := by omega
          have hmul := Nat.mul_le_mul hl4.2 hl16.2
          have hmg : m * ng + g < nm * ng := by
            have := Nat.mul_le_mul_right ng (show m + 1 ≤ nm by omega)
            rw [Nat.succ_mul] at this
            omega
          have hmg2 := Nat.mul_le_mul hl4.2 hl16.2
          have hnl3 : nl ≤ 64 := by omega
          clear hmul hmg hmg2 hnl2
          have HOW := Lib.hid hown
          have HBW := Lib.hid BW
          obtain ⟨p, hp⟩ : ∃ p : Pk, (⟨(m : Int), (g : Int)⟩ : Pk) = p := ⟨_, rfl⟩
          have HP := Lib.hid hp
          have HS0 := Lib.hid (show sumN S P tail p 0 = 0 from rfl)
          clear hown hp
          go_wp2
          clear cs0 cs1 cs2 lsx vsx
          clear BX BW
          go_loopw [12, 10, 11] (fun iv sv uv wx => ∃ i : Nat, iv = .int .i64 (i : Int) ∧ i ≤ np ∧ sv = .int .i64 (sumN S P tail p i) ∧ uv = .bool (decide (0 < sumN S P tail p i)) ∧ wx = wr)
            (fun iv _ _ _ => np - (intOf iv).toNat)
          case atStart => exact ⟨0, rfl, Nat.zero_le _, by rw [HS0.out], by rw [HS0.out]; rfl, rfl⟩
          case round =>
            obtain ⟨i, rfl, hi, rfl, rfl, rfl⟩ := hrel
            have BX := HBW.out
            have vsx := vs.mono BX
            have cs0 := vsx.cell (i := 0) (by simp)
            have cs1 := vsx.cell (i := 1) (by simp)
            have cs2 := vsx.cell (i := 2) (by simp)
            simp only [List.getD_cons_zero, List.getD_cons_succ] at cs0 cs1 cs2
            have lsx := vsx.lt
            obtain ⟨s, hs⟩ : ∃ s, sumN S P tail p i = s := ⟨_, rfl⟩
            have hsb := HSB.out p i (by rw [← Hhpl.out, HNP.out]; exact hi)
            rw [hs] at hsb ⊢
            have HSS := Lib.hid hs
            clear hs
            by_cases hil : i < np
            · have i1 : (0 : Int) ≤ (i : Int) := by omega
              have i2 : (i : Int) < (np : Int) := by omega
              have hip : i < P.length := by rw [HNP.out]; exact hil
              have hic : i < S.cs.length := by rw [← Hhpl.out]; exact hip
              have i3 : (i : Int) < (nc : Int) := by have := HNC.out; omega
              obtain ⟨bq, oq, rfl, q1, q2⟩ := (rp.mono BX).at hip
              obtain ⟨bc, oc, rfl, y0, y1, y2, y3⟩ := (rc.mono BX).at hic
              have hcl := HSC.out i hic
              obtain ⟨X, hX⟩ : ∃ X, P.getD i p0 = X := ⟨_, rfl⟩
              obtain ⟨C, hC⟩ : ∃ X, S.cs.getD i c0 = X := ⟨_, rfl⟩
              rw [hX] at q1 q2
              rw [hC] at y0 y1 y2 y3 hcl
              clear y1 y2 y3
              have hpm : p.m = (m : Int) := by rw [← HP.out]
              have hpg : p.g = (g : Int) := by rw [← HP.out]
              by_cases e1 : X.m = (m : Int)
              · have t1 : (X.m == (m : Int)) = true := by rw [beq_iff_eq]; exact e1
                by_cases e2 : X.g = (g : Int)
                · have t2 : (X.g == (g : Int)) = true := by rw [beq_iff_eq]; exact e2
                  have HN := Lib.hid (show sumN S P tail p (i + 1) = s + C.l + tail by rw [sumN, if_pos (by rw [hX, hpm, hpg]; exact ⟨e1.symm, e2.symm⟩), HSS.out, hC, Int.add_assoc])
                  have HU := Lib.hid (show decide (0 < s + C.l + tail) = true from decide_eq_true (by omega))
                  clear e1 e2 hX hC hpm hpg
                  go_wp2
                  go_roundw
                  case rel => exact ⟨i + 1, by go_num, by omega, by rw [HN.out], by rw [HN.out, HU.out], by first | rfl | trivial⟩
                  case measure => simp [intOf]; omega
                · have t2 : (X.g == (g : Int)) = false := by rw [beq_eq_false_iff_ne]; exact e2
                  have HN := Lib.hid (show sumN S P tail p (i + 1) = s by rw [sumN, if_neg (by rw [hX, hpm, hpg]; exact fun h => e2 h.2.symm), HSS.out])
                  clear e1 e2 hX hC hpm hpg
                  go_wp2
                  go_roundw
                  case rel => exact ⟨i + 1, by go_num, by omega, by rw [HN.out], by rw [HN.out], by first | rfl | trivial⟩
                  case measure => simp [intOf]; omega
              · have t1 : (X.m == (m : Int)) = false := by rw [beq_eq_false_iff_ne]; exact e1
                have HN := Lib.hid (show sumN S P tail p (i + 1) = s by rw [sumN, if_neg (by rw [hX, hpm, hpg]; exact fun h => e1 h.1.symm), HSS.out])
                clear e1 hX hC hpm hpg
                go_wp2
                go_roundw
                case rel => exact ⟨i + 1, by go_num, by omega, by rw [HN.out], by rw [HN.out], by first | rfl | trivial⟩
                case measure => simp [intOf]; omega
            · have hinp : i = np := by omega
              have hlot : lotK S P tail (m * ng + g) = ⟨itemB (m : Int) (S.gs.getD g 0), s⟩ := by
                rw [← HNG.out, lotK_at (by rw [HNG.out]; exact hgt), HP.out, HNP.out, ← hinp, HSS.out]
              have HLT := Lib.hid hlot
              have HINP := Lib.hid hinp
              clear hlot hinp
              by_cases h0 : 0 < s
              · have u0 : decide (0 < s) = true := decide_eq_true h0
                have hbl : g < S.gs.length := by rw [HNG.out]; exact hgt
                obtain ⟨G, hG⟩ : ∃ G, S.gs.getD g 0 = G := ⟨_, rfl⟩
                obtain ⟨bg, og, rfl, cg1⟩ := rg.at hbl
                have cgb := (BX.cell (cell_lt (cg1 g hbl))).trans (cg1 g hbl)
                have hGz : zI G := by
                  rw [← hG, List.getD_eq_getElem?_getD, List.getElem?_eq_getElem hbl]
                  exact HhI.out.gs _ (List.getElem_mem hbl)
                have hG0 := HGP.out g hbl
                rw [hG] at cgb hG0
                obtain ⟨Gn, rfl⟩ : ∃ n : Nat, G = (n : Int) := ⟨G.toNat, by omega⟩
                have hG' := hG
                have haz : zI (m : Int) := by unfold zI; omega
                obtain ⟨ja, hja⟩ : ∃ j, itB (m : Int) = j := ⟨_, rfl⟩
                obtain ⟨jb, hjb⟩ : ∃ j, itB (Gn : Int) = j := ⟨_, rfl⟩
                have za := itB_size _ haz
                have zb := itB_size _ hGz
                have I1 := fun (W : World) => number_calls m W (by omega)
                have I2 := fun (W : World) => number_calls Gn W (by have := hGz.2; omega)
                rw [hja] at za I1
                rw [hjb] at zb I2
                have d1 : ¬ (1 + ja.size > 9223372036854775807) := by omega
                have d2 : ¬ (1 + ja.size + 1 > 9223372036854775807) := by omega
                have d3 : ¬ (1 + ja.size + 1 + jb.size > 9223372036854775807) := by omega
                obtain ⟨st, hst⟩ : ∃ st : ByteArray, ({ data := #[109] } ++ ja ++ { data := #[103] } ++ jb : ByteArray) = st := ⟨_, rfl⟩
                have HND := Lib.hid (show needs S P tail (m * ng + g + 1) = needs S P tail (m * ng + g) ++ [⟨st, s⟩] by
                  rw [needs, HLT.out, if_pos h0, hG]
                  unfold itemB
                  rw [hja, hjb, ← hst]
                  rfl)
                have HI1 := Lib.hid I1
                have HI2 := Lib.hid I2
                have cz2 := vs.cell (i := 2) (by simp)
                have cgz := cg1 g hbl
                simp only [List.getD_cons_zero, List.getD_cons_succ] at cz2
                rw [hG'] at cgz
                have HS := Lib.hid (show ∀ W, Below w0.heap.size w0 W → W.cell? ⟨w.heap.size, 2, none⟩ = some (.slice (some ⟨bg, og, none⟩) ng cg) ∧ W.cell? ⟨bg, og + g, none⟩ = some (.int .i64 (Gn : Int)) from fun W hW =>
                  ⟨(hW.cell (cell_lt cz2)).trans cz2, (hW.cell (cell_lt cgz)).trans cgz⟩)
                have hown := HOW.out
                have hbz : w0.heap.size ≤ wr.heap.size := HBW.out.size
                clear cg1 hG hG' hGz haz hja hjb za zb I1 I2 cs0 cs1 cs2 cgb hG0 cz2 cgz
                have HST := Lib.hid hst
                clear hst
                go_upto_region 15 with (fail)
                go_region_held3 (fun W => W.cell? ⟨w.heap.size, 2, none⟩ = some (.slice (some ⟨bg, og, none⟩) ng cg) ∧ W.cell? ⟨bg, og + g, none⟩ = some (.int .i64 (Gn : Int)))
                  (first | exact HS.out _ BX.drew | exact HS.out _ BX | exact HS.out _ B5 | exact HS.out _ B6 | exact HS.out _ (below_trans B6 (below_alloc _ _)) | exact HS.out _ B8)
                  (first | (go_at_call_of 29 (Value.int .i64 (m : Int)); (with_reducible refine (HI1.out _).mono ?_); rintro e w5 ⟨rfl, b5⟩; have B5 := below_trans BX (below_trans (bel0 wr) b5); have O5 := ownsRow_mono hown (below_trans (bel0 wr) b5); clear b5) | (go_at_call_of 29 (Value.int .i64 (Gn : Int)); (with_reducible refine (HI2.out _).mono ?_); rintro e w6 ⟨rfl, b6⟩; have B6 := below_trans B5 b6; have O6 := ownsRow_mono O5 b6; clear b6) | (refine step_append_rv (by rfl) (.tmp 61) (.tmp 75) _ (by rfl) w0.heap.size 42 _ 3 40 Tryd.underlying30 info_lot (by rfl) (by decide) _ nl _ (by rfl) (ownsRow_mono O6 (below_alloc _ _)) _ 1 1 [.string ⟨#[119, 105, 114, 101]⟩, .string (({ data := #[109] } : ByteArray) ++ ja ++ ({ data := #[103] } : ByteArray) ++ jb), .int .i64 s] (by rfl) (Vals.rd (Vals.newL w6 w6.heap.size [.string ⟨#[119, 105, 114, 101]⟩, .string (({ data := #[109] } : ByteArray) ++ ja ++ ({ data := #[103] } : ByteArray) ++ jb), .int .i64 s] 42 rfl) 1 3 rfl 1 (by omega) (by unfold maxLen; omega)) (lcl_one ⟨(({ data := #[109] } : ByteArray) ++ ja ++ ({ data := #[103] } : ByteArray) ++ jb), s⟩) (by unfold maxLen; omega) (by omega) (Nat.le_trans B6.size (below_alloc _ _).size) (nl + 1) rfl _ rfl ?_; intro ad3 c3 w8 hown3 hg3 hn3 hb3 hk3; have B8 := B6.trans (((below_alloc w6 (.cells #[.string ⟨#[119, 105, 114, 101]⟩, .string (({ data := #[109] } : ByteArray) ++ ja ++ ({ data := #[103] } : ByteArray) ++ jb), .int .i64 s] 42)).mono B6.size).trans hb3)))
                go_wp2
                go_roundw
                case rel => exact ⟨g + 1, by go_num, by omega, ⟨ad3, c3, by rw [← Nat.add_assoc, HND.out, List.length_append, HNL.out]; rfl⟩, by rw [← Nat.add_assoc, HND.out, List.length_append, HNL.out, flat_append, ← HST.out]; exact hown3, B8⟩
                case measure => simp [intOf]; omega
              · have HND := Lib.hid (show needs S P tail (m * ng + g + 1) = needs S P tail (m * ng + g) by rw [needs, HLT.out, if_neg h0])
                have u0 : decide (0 < s) = false := decide_eq_false h0
                have h0' : ¬ (0 < s) := h0
                go_wp2
                go_roundw
                case rel => exact ⟨g + 1, by go_num, by omega, ⟨ad, c, by rw [← Nat.add_assoc, HND.out, HNL.out]⟩, by rw [← Nat.add_assoc, HND.out, HNL.out]; exact HOW.out, BX⟩
                case measure => simp [intOf]; omega
        · have hgn : g = ng := by omega
          have HGN := Lib.hid (show m * ng + g = (m + 1) * ng by rw [hgn, Nat.succ_mul])
          clear hgn hnl2
          rw [HGN.out] at hown
          have HNL2 := Lib.hid (show (needs S P tail ((m + 1) * ng)).length = nl by rw [← HGN.out]; exact HNL.out)
          go_wp2
          go_roundw
          case rel => exact ⟨m + 1, by go_num, by omega, ⟨ad, c, by rw [HNL2.out]⟩, by rw [HNL2.out]; exact hown, BW⟩
          case measure => simp [intOf]; omega
    · obtain rfl : m = nm := by omega
      have hrd := ownsRow_rds hown
      go_wp2
      go_ret
      refine ⟨_, rfl, ⟨ad, c, by rw [HLL.out]; rfl, by rw [HLL.out]; exact hrd.1⟩, below_trans B BW⟩

end Go.Proofs
