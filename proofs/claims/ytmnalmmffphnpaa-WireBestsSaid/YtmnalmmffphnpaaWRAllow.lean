/- The reference's Allowed. -/
import Derived.Test.YtmnalmmffphnpaaWRSum
open Go.RowKit Go.Deep
namespace Go.Proofs
set_option linter.unusedVariables false
set_option linter.unusedSimpArgs false

/-- Holds at the numbers of a course and a pick -/
theorem rstrong_calls (S : Scl) (c : Crs) (p : Pk) (hs : sclOk S = true) (hp : pkOk S p = true) (hc : crsOk c = true) (w : World) :
    Calls Try.prog 45 #[.int .i64 (metOf S p).d, .int .i64 ((metOf S p).st.getD p.g.toNat 0), .int .i64 c.l, .int .i64 c.f, .int .i64 S.sf] w fun e w' => e = .returned (.bool (strongB S c p)) ∧ Below w.heap.size w w' := by
  obtain ⟨⟨p1, p2⟩, ⟨p3, p4⟩⟩ := pk_facts hp
  obtain ⟨c1, c2, c3, c4⟩ := crs_facts hc
  obtain ⟨m1, m2, m3⟩ := met_facts (sclOk_met hs (i := p.m.toNat) (by omega))
  have m4 := m3 p.g.toNat (by omega)
  obtain ⟨s1, s2, s3, s4, s5⟩ := headOk_lens (headOk_of hs)
  have e1 : (metOf S p).d = ((metOf S p).d.toNat : Int) := by unfold metOf; omega
  have e2 : (metOf S p).st.getD p.g.toNat 0 = (((metOf S p).st.getD p.g.toNat 0).toNat : Int) := by unfold metOf; omega
  have e3 : c.l = (c.l.toNat : Int) := by omega
  have e4 : c.f = (c.f.toNat : Int) := by omega
  have e5 : S.sf = (S.sf.toNat : Int) := by omega
  have h := rholds_calls (metOf S p).d.toNat ((metOf S p).st.getD p.g.toNat 0).toNat c.l.toNat c.f.toNat S.sf.toNat w (by unfold metOf; omega) (by unfold metOf; omega) (by omega) (by omega) (by omega)
  rw [← e1, ← e2, ← e3, ← e4, ← e5] at h
  exact h
theorem RdM.at2 {w : World} {ad c L} (h : RdM w ad c L) {i : Nat} (hi : i < L.length) {D : Met} (hD : L.getD i m0 = D) {n : Nat} (hn : D.st.length = n) {j : Nat} (hj : j < n) : ∃ b o bs os cs, ad = some ⟨b, o, none⟩ ∧
    w.cell? ⟨b, o + i * 2, none⟩ = some (.int .i64 D.d) ∧ w.cell? ⟨b, o + i * 2 + 1, none⟩ = some (.slice (some ⟨bs, os, none⟩) n cs) ∧ w.cell? ⟨bs, os + j, none⟩ = some (.int .i64 (D.st.getD j 0)) := by
  obtain ⟨b, o, v, rfl, a0, a1, ads, cs, rfl, hz⟩ := h.at hi
  rw [hD] at a0 a1 hz
  obtain ⟨bs, os, rfl, css⟩ := hz.at (i := j) (by omega)
  rw [hn] at a1
  exact ⟨b, o, bs, os, cs, rfl, a0, a1, css j (by omega)⟩
theorem pk_nat {S : Scl} {p : Pk} (h : pkOk S p = true) : ∃ a b : Nat, p = ⟨(a : Int), (b : Int)⟩ ∧ a < S.ms.length ∧ b < S.gs.length := by
  obtain ⟨⟨p1, p2⟩, ⟨p3, p4⟩⟩ := pk_facts h
  refine ⟨p.m.toNat, p.g.toNat, ?_, by omega, by omega⟩
  obtain ⟨m, g⟩ := p
  simp only [Pk.mk.injEq]
  dsimp only at p1 p3
  omega
theorem allowed_split {S : Scl} {P : List Pk} (h : ∀ j, j < P.length → okAt S P j = true) : allowedB S P = decide ((chTo P P.length : Int) ≤ S.ch) := by
  unfold allowedB; rw [allTo_iff.2 h, Bool.true_and]

theorem bel0 (w : World) : Below w.heap.size w w.drew := (Below.refl _ _).drew
theorem bel1 (w : World) (a : Obj) : Below w.heap.size w (w.alloc a).drew := (below_alloc w a).drew
theorem bel2' (w : World) (a b : Obj) : Below w.heap.size w ((w.alloc a).alloc b) := below_trans (below_alloc w a) (below_alloc _ b)
theorem vals_two (w : World) (l1 l2 : List Value) (t1 t2 : Nat) : Vals ((w.alloc (.cells l1.toArray t1)).alloc (.cells l2.toArray t2)).drew w.heap.size l1 ∧ Vals ((w.alloc (.cells l1.toArray t1)).alloc (.cells l2.toArray t2)).drew (w.heap.size + 1) l2 ∧ Below w.heap.size w ((w.alloc (.cells l1.toArray t1)).alloc (.cells l2.toArray t2)).drew :=
  ⟨((Vals.newL w w.heap.size l1 t1 rfl).alloc _).drew, (Vals.newL (w.alloc (.cells l1.toArray t1)) (w.heap.size + 1) l2 t2 (by simp)).drew, (bel2' w _ _).drew⟩
theorem bcells {w : World} {b1 bc bm bz oz i bs os j : Nat} {x0 x1 x2 x3 x4 y0 y1 y2 y3 z0 z1 m0 m1 st : Value} (vs : Vals w b1 [x0, x1, x2, x3, x4]) (vc : Vals w bc [y0, y1, y2, y3]) (vm : Vals w bm [m0, m1]) (cp : w.cell? ⟨bz, oz + i * 2, none⟩ = some z0 ∧ w.cell? ⟨bz, oz + i * 2 + 1, none⟩ = some z1) (cs : w.cell? ⟨bs, os + j, none⟩ = some st) :
    w.cell? ⟨b1, 3, none⟩ = some x3 ∧ w.cell? ⟨bc, 0, none⟩ = some y0 ∧ w.cell? ⟨bc, 1, none⟩ = some y1 ∧ w.cell? ⟨bm, 0, none⟩ = some m0 ∧ w.cell? ⟨bm, 1, none⟩ = some m1 ∧ w.cell? ⟨bz, oz + i * 2 + 1, none⟩ = some z1 ∧ w.cell? ⟨bs, os + j, none⟩ = some st := by
  have s3 := vs.cell (i := 3) (by simp)
  have c0 := vc.cell (i := 0) (by simp)
  have c1 := vc.cell (i := 1) (by simp)
  have d0 := vm.cell (i := 0) (by simp)
  have d1 := vm.cell (i := 1) (by simp)
  exact ⟨s3, c0, c1, d0, d1, cp.2, cs⟩
theorem bel2 (w : World) (a b : Obj) : Below w.heap.size w ((w.alloc a).alloc b).drew := (bel2' w a b).drew

theorem acells {w : World} {b1 bc oc bz oz bm om i a : Nat} {x0 x1 x2 x3 x4 y0 y1 y2 y3 z0 z1 m0 m1 : Value} (vs : Vals w b1 [x0, x1, x2, x3, x4]) (hc : w.cell? ⟨bc, oc + i * 4, none⟩ = some y0 ∧ w.cell? ⟨bc, oc + i * 4 + 1, none⟩ = some y1 ∧ w.cell? ⟨bc, oc + i * 4 + 2, none⟩ = some y2 ∧ w.cell? ⟨bc, oc + i * 4 + 3, none⟩ = some y3)
    (ca : w.cell? ⟨bz, oz + i * 2, none⟩ = some z0) (cb : w.cell? ⟨bz, oz + i * 2 + 1, none⟩ = some z1) (cm : w.cell? ⟨bm, om + a * 2, none⟩ = some m0) (cn : w.cell? ⟨bm, om + a * 2 + 1, none⟩ = some m1) :
    w.cell? ⟨b1, 0, none⟩ = some x0 ∧ w.cell? ⟨b1, 1, none⟩ = some x1 ∧ w.cell? ⟨bc, oc + i * 4, none⟩ = some y0 ∧ w.cell? ⟨bc, oc + i * 4 + 1, none⟩ = some y1 ∧ w.cell? ⟨bc, oc + i * 4 + 2, none⟩ = some y2 ∧ w.cell? ⟨bc, oc + i * 4 + 3, none⟩ = some y3 ∧
    w.cell? ⟨bz, oz + i * 2, none⟩ = some z0 ∧ w.cell? ⟨bz, oz + i * 2 + 1, none⟩ = some z1 ∧ w.cell? ⟨bm, om + a * 2, none⟩ = some m0 ∧ w.cell? ⟨bm, om + a * 2 + 1, none⟩ = some m1 := by
  have s0 := vs.cell (i := 0) (by simp)
  have s1 := vs.cell (i := 1) (by simp)
  exact ⟨s0, s1, hc.1, hc.2.1, hc.2.2.1, hc.2.2.2, ca, cb, cm, cn⟩
set_option maxRecDepth 100000 in
set_option maxHeartbeats 1000000 in
theorem rallowed_calls (S : Scl) (P : List Pk) (cv mv gv pv : Value) (w : World) (hS : InS w cv mv gv S) (hP : InP w pv P) (hs : sclOk S = true) (hf : fitsB S P = true) :
    Calls Try.prog 17 #[.agg #[cv, mv, gv, .int .i64 S.sf, .int .i64 S.ch], pv] w fun e w' => e = .returned (.bool (allowedB S P)) ∧ Below w.heap.size w w' := by
  obtain ⟨fl, fp⟩ := fits_parts hf
  obtain ⟨hl96, hl4, hl16, _, hch⟩ := headOk_lens (headOk_of hs)
  obtain ⟨R, hR⟩ : ∃ r, allowedB S P = r := ⟨_, rfl⟩
  rw [hR]
  have HR := Lib.hid hR
  clear hR
  obtain ⟨⟨adc, cc, rfl, rc⟩, ⟨adm, cm, rfl, rm⟩, ⟨adg, cg, rfl, rg⟩⟩ := hS
  obtain ⟨adp, cp, rfl, rp⟩ := hP
  have LP := rp.1
  have LP2 := rp.2.1
  unfold maxLen at LP2
  obtain ⟨nc, hnc⟩ : ∃ n, S.cs.length = n := ⟨_, rfl⟩
  obtain ⟨nm, hnm⟩ : ∃ n, S.ms.length = n := ⟨_, rfl⟩
  obtain ⟨ng, hng⟩ : ∃ n, S.gs.length = n := ⟨_, rfl⟩
  obtain ⟨np, hnp⟩ : ∃ n, P.length = n := ⟨_, rfl⟩
  rw [hnc, hnm, hng, hnp]
  rw [hnp] at LP
  have HNC := Lib.hid hnc
  have HNM := Lib.hid hnm
  have HNG := Lib.hid hng
  have HNP := Lib.hid hnp
  rw [hnp] at fl
  rw [hnc] at fl hl96
  rw [hnm] at hl4
  rw [hng] at hl16
  have HFP := Lib.hid fp
  have HOKS := Lib.hid hs
  clear hnc hnm hng hnp fp hs hf
  subst fl
  have vs := Vals.newL w (w.heap.size) [.slice adc np cc, .slice adm nm cm, .slice adg ng cg, .int .i64 S.sf, .int .i64 S.ch] 26 rfl
  have bb := below_alloc w (.cells #[.slice adc np cc, .slice adm nm cm, .slice adg ng cg, .int .i64 S.sf, .int .i64 S.ch] 26)
  have B := bb
  have bb0 := B
  clear bb
  go_enter Try.func17, Try.ntmps17
  go_upto_region 1 with (fail)
  generalize (w.alloc (.cells #[.slice adc np cc, .slice adm nm cm, .slice adg ng cg, .int .i64 S.sf, .int .i64 S.ch] 26)) = w0 at *
  replace rc := rc.mono bb0
  replace rm := rm.mono bb0
  replace rg := rg.mono bb0
  replace rp := rp.mono bb0
  clear bb0
  go_wp2
  go_loopw [6, 5] (fun iv hv wr => ∃ i : Nat, iv = .int .i64 (i : Int) ∧ i ≤ np ∧ hv = .int .i64 ((chTo P i : Nat) : Int) ∧ (∀ j, j < i → okAt S P j = true) ∧ Below w.heap.size w wr ∧ Vals wr w.heap.size [.slice adc np cc, .slice adm nm cm, .slice adg ng cg, .int .i64 S.sf, .int .i64 S.ch] ∧ RdC wr adc cc S.cs ∧ RdM wr adm cm S.ms ∧ RdZ wr adg cg S.gs ∧ RdP wr adp cp P)
    (fun iv _ _ => np - (intOf iv).toNat)
  case atStart => exact ⟨0, rfl, Nat.zero_le _, rfl, fun j hj => by omega, B, vs, rc, rm, rg, rp⟩
  case round =>
    clear B vs rc rm rg rp
    obtain ⟨i, rfl, hi, rfl, hall, B, vs, rc, rm, rg, rp⟩ := hrel
    by_cases hlt : i < np
    · have hil : i < P.length := by rw [HNP.out]; exact hlt
      have hic : i < S.cs.length := by rw [HNC.out]; exact hlt
      obtain ⟨bz, oz, rfl, ca, cb⟩ := rp.at hil
      obtain ⟨a, b, hM, ha, hb⟩ := pk_nat (HFP.out i hil)
      have hpm := HFP.out i hil
      rw [hM] at ca cb hpm
      dsimp only at ca cb
      obtain ⟨C, hC⟩ : ∃ C, S.cs.getD i c0 = C := ⟨_, rfl⟩
      have hcc := sclOk_c HOKS.out hic
      rw [hC] at hcc
      obtain ⟨bk, ok, rfl, _⟩ := rc.at hic
      have cc4 := rc.at2 hic hC
      obtain ⟨D, hD⟩ : ∃ D, S.ms.getD a m0 = D := ⟨_, rfl⟩
      have hmf := met_facts (sclOk_met HOKS.out ha)
      rw [hD, HNG.out] at hmf
      obtain ⟨bm, om, bs, os, cs, rfl, cm0, cm1, cst⟩ := rm.at2 ha hD hmf.2.1 (j := b) (by rw [← HNG.out]; exact hb)
      rw [HNM.out] at ha
      rw [HNG.out] at hb
      have HO := rstrong_calls S C ⟨(a : Int), (b : Int)⟩ HOKS.out hpm hcc
      have hmo : metOf S ⟨(a : Int), (b : Int)⟩ = D := by unfold metOf; dsimp only; rw [Int.toNat_natCast]; exact hD
      rw [hmo] at HO
      dsimp only at HO
      rw [Int.toNat_natCast] at HO
      obtain ⟨sv, hsv⟩ : ∃ s, D.st.getD b 0 = s := ⟨_, rfl⟩
      rw [hsv] at HO cst
      obtain ⟨sb, hsb⟩ : ∃ s, strongB S C ⟨(a : Int), (b : Int)⟩ = s := ⟨_, rfl⟩
      rw [hsb] at HO
      have ok1 : okAt S P i = (monoAt P i && sb) := by unfold okAt; rw [hC, hM, hsb]
      have HOK1 := Lib.hid ok1
      have HHO := Lib.hid HO
      have HALL := Lib.hid hall
      have HMM := Lib.hid hM
      have HCC := Lib.hid hC
      have chl := chTo_le P i
      clear ok1 HO hsb hsv hmo hmf hD hcc hC hpm hM hall
      have i1 : (0 : Int) ≤ (i : Int) := by omega
      have i2 : (i : Int) < (np : Int) := by omega
      have a1 : (0 : Int) ≤ (a : Int) := by omega
      have a2 : (a : Int) < (nm : Int) := by omega
      have b1 : (0 : Int) ≤ (b : Int) := by omega
      have b2 : (b : Int) < (ng : Int) := by omega
      go_upto_region 5 with (fail)
      have HS := fun (w' : World) (hb : Below wr.heap.size wr w') => acells (vs.mono hb) ((rc.mono hb).at2 hic HCC.out) ((hb.cell (cell_lt ca)).trans ca) ((hb.cell (cell_lt cb)).trans cb) ((hb.cell (cell_lt cm0)).trans cm0) ((hb.cell (cell_lt cm1)).trans cm1)
      go_cut [7, 8] from 15 to 28 (fun pc pm wx => ∃ bc bm, pc = .pointer (some ⟨bc, 0, none⟩) ∧ pm = .pointer (some ⟨bm, 0, none⟩) ∧ Vals wx bc [.int .i64 C.l, .int .i64 C.f, .int .i64 C.t, .int .i64 C.w] ∧ Vals wx bm [.int .i64 D.d, .slice (some ⟨bs, os, none⟩) ng cs] ∧ Below wr.heap.size wr wx)
      case first =>
        go_region_held3 (fun w' => w'.cell? ⟨w.heap.size, 0, none⟩ = some (.slice (some ⟨bk, ok, none⟩) np cc) ∧ w'.cell? ⟨w.heap.size, 1, none⟩ = some (.slice (some ⟨bm, om, none⟩) nm cm) ∧ w'.cell? ⟨bk, ok + i * 4, none⟩ = some (.int .i64 C.l) ∧ w'.cell? ⟨bk, ok + i * 4 + 1, none⟩ = some (.int .i64 C.f) ∧ w'.cell? ⟨bk, ok + i * 4 + 2, none⟩ = some (.int .i64 C.t) ∧ w'.cell? ⟨bk, ok + i * 4 + 3, none⟩ = some (.int .i64 C.w) ∧ w'.cell? ⟨bz, oz + i * 2, none⟩ = some (.int .i64 (a : Int)) ∧ w'.cell? ⟨bz, oz + i * 2 + 1, none⟩ = some (.int .i64 (b : Int)) ∧ w'.cell? ⟨bm, om + a * 2, none⟩ = some (.int .i64 D.d) ∧ w'.cell? ⟨bm, om + a * 2 + 1, none⟩ = some (.slice (some ⟨bs, os, none⟩) ng cs))
          (first | exact HS _ (Below.refl _ _) | exact HS _ (bel0 _) | exact HS _ (bel1 _ _) | exact HS _ (bel2 _ _ _) | exact HS _ (below_alloc _ _) | exact HS _ (bel2' _ _ _))
          (fail)
        · go_wp2
          go_meet
          obtain ⟨x1, x2, x3⟩ := vals_two wr [.int .i64 C.l, .int .i64 C.f, .int .i64 C.t, .int .i64 C.w] [.int .i64 D.d, .slice (some ⟨bs, os, none⟩) ng cs] 49 44
          exact ⟨_, _, rfl, rfl, x1, x2, x3⟩
        · go_wp2
          go_meet
          obtain ⟨x1, x2, x3⟩ := vals_two wr [.int .i64 D.d, .slice (some ⟨bs, os, none⟩) ng cs] [.int .i64 C.l, .int .i64 C.f, .int .i64 C.t, .int .i64 C.w] 44 49
          exact ⟨_, _, rfl, rfl, x2, x1, x3⟩
      case rest =>
        obtain ⟨bc, bm2, rfl, rfl, vc, vm, b5⟩ := hcut
        clear HS ca cb cm0 cm1 cc4
        replace vs := vs.mono b5
        replace rc := rc.mono b5
        replace rm := rm.mono b5
        replace rg := rg.mono b5
        replace rp := rp.mono b5
        replace cst := (b5.cell (cell_lt cst)).trans cst
        replace B := below_trans B b5
        clear b5
        have HS := fun (w' : World) (hb : Below wc.heap.size wc w') => bcells (vs.mono hb) (vc.mono hb) (vm.mono hb) ((rp.mono hb).at2 hil HMM.out) ((hb.cell (cell_lt cst)).trans cst)
        have HHS := Lib.hid HS
        clear HS
        go_upto_region 6 with (fail)
        go_region_held3 (fun w' => w'.cell? ⟨w.heap.size, 3, none⟩ = some (.int .i64 S.sf) ∧ w'.cell? ⟨bc, 0, none⟩ = some (.int .i64 C.l) ∧ w'.cell? ⟨bc, 1, none⟩ = some (.int .i64 C.f) ∧ w'.cell? ⟨bm2, 0, none⟩ = some (.int .i64 D.d) ∧ w'.cell? ⟨bm2, 1, none⟩ = some (.slice (some ⟨bs, os, none⟩) ng cs) ∧ w'.cell? ⟨bz, oz + i * 2 + 1, none⟩ = some (.int .i64 (b : Int)) ∧ w'.cell? ⟨bs, os + b, none⟩ = some (.int .i64 sv))
          (first | exact HHS.out _ (Below.refl _ _) | exact HHS.out _ (bel0 _))
          (first | (go_at_call 45; (with_reducible refine (HHO.out _).mono ?_); rintro e z1 ⟨rfl, b5⟩; have b6 := below_trans (bel0 wc) b5; clear b5; have HS2 := Lib.hid (fun (w' : World) (hb : Below z1.heap.size z1 w') => HHS.out w' (below_trans b6 hb)); clear HHS; have HHS := HS2; clear HS2))
        clear HHS HHO
        replace vs := vs.mono b6
        replace rc := rc.mono b6
        replace rm := rm.mono b6
        replace rg := rg.mono b6
        replace rp := rp.mono b6
        replace B := below_trans B b6
        clear b6 vc vm cst
        cases sb with
        | false =>
          have HNO := Lib.hid (show allowedB S P = false from allowed_no hil (by rw [HOK1.out, Bool.and_false]))
          go_wp2
          go_ret
          exact ⟨by rw [← HR.out, HNO.out]; rfl, B⟩
        | true =>
          have e2 : chTo P (i + 1) = chTo P i + (if i = 0 then 0 else if samePk (P.getD i p0) (P.getD (i - 1) p0) then 0 else 1) := rfl
          rw [HMM.out] at e2
          have m2 : monoAt P i = (decide (i = 0) || (decide ((P.getD (i - 1) p0).m ≤ (a : Int)) && decide ((P.getD (i - 1) p0).g ≤ (b : Int)))) := by unfold monoAt; rw [HMM.out]
          obtain ⟨L, hL⟩ : ∃ M, P.getD (i - 1) p0 = M := ⟨_, rfl⟩
          rw [hL] at e2 m2
          have HLL := Lib.hid hL
          clear hL
          obtain ⟨ch, hch2⟩ : ∃ s, chTo P i = s := ⟨_, rfl⟩
          rw [hch2] at e2 chl ⊢
          clear hch2
          by_cases h0 : i = 0
          · have HE3 := Lib.hid (show chTo P (i + 1) = ch by rw [e2, if_pos h0]; rfl)
            have HAL2 := Lib.hid (show ∀ j, j < i + 1 → okAt S P j = true from fun j hj => (Nat.lt_or_ge j i).elim (HALL.out j) (fun h => by rw [show j = i by omega, HOK1.out, m2, decide_eq_true h0]; rfl))
            have t0 : ((i : Int) == 0) = true := by rw [beq_iff_eq]; omega
            clear e2 m2 h0
            go_wp2
            go_roundw
            case rel => exact ⟨i + 1, by go_num, by omega, by rw [HE3.out], HAL2.out, B, vs, rc, rm, rg, rp⟩
            case measure => simp [intOf]; omega
          have hi0 : 0 < i := by omega
          have hil1 : i - 1 < P.length := by rw [HNP.out]; omega
          obtain ⟨j, hj⟩ : ∃ j, i - 1 = j := ⟨_, rfl⟩
          obtain ⟨ca, cb⟩ := rp.at2 hil HMM.out
          obtain ⟨la, lb⟩ := rp.at2 hil1 HLL.out
          rw [hj] at la lb
          dsimp only at ca cb
          have kj : IntKind.i64.wrap ((i : Int) - 1) = (j : Int) := by rw [IntWalk.i64_in _ (by omega)]; omega
          have kc : IntKind.i64.wrap ((ch : Int) + 1) = ((ch + 1 : Nat) : Int) := by rw [IntWalk.i64_in _ (by omega)]; omega
          have j1 : (0 : Int) ≤ (j : Int) := by omega
          have j2 : (j : Int) < (np : Int) := by omega
          rw [if_neg h0] at e2
          rw [decide_eq_false h0, Bool.false_or] at m2
          have t0 : ((i : Int) == 0) = false := by rw [beq_eq_false_iff_ne]; omega
          have HE2 := Lib.hid e2
          have HM2 := Lib.hid m2
          have hrc := Lib.hid rc
          have hrm := Lib.hid rm
          have hrg := Lib.hid rg
          have hrp := Lib.hid rp
          clear e2 m2 h0 hj rc rm rg rp
          go_upto_region 9 with (fail)
          by_cases c1 : (a : Int) < L.m
          · have d1 : decide ((a : Int) < L.m) = true := decide_eq_true c1
            have HNO := Lib.hid (show allowedB S P = false from allowed_no hil (by rw [HOK1.out, HM2.out, decide_eq_false (show ¬ L.m ≤ (a : Int) by omega)]; rfl))
            clear c1
            go_quiet (fail)
            go_wp2
            go_ret
            exact ⟨by rw [← HR.out, HNO.out]; rfl, below_drewN B nq⟩
          have d1 : decide ((a : Int) < L.m) = false := decide_eq_false c1
          by_cases c2 : (b : Int) < L.g
          · have d2 : decide ((b : Int) < L.g) = true := decide_eq_true c2
            have HNO := Lib.hid (show allowedB S P = false from allowed_no hil (by rw [HOK1.out, HM2.out, decide_eq_false (show ¬ L.g ≤ (b : Int) by omega), Bool.and_false]; rfl))
            clear c1 c2
            go_quiet (fail)
            go_wp2
            go_ret
            exact ⟨by rw [← HR.out, HNO.out]; rfl, below_drewN B nq⟩
          have d2 : decide ((b : Int) < L.g) = false := decide_eq_false c2
          have HAL2 := Lib.hid (show ∀ j, j < i + 1 → okAt S P j = true from fun j hj => (Nat.lt_or_ge j i).elim (HALL.out j) (fun h => by rw [show j = i by omega, HOK1.out, HM2.out, decide_eq_true (show L.m ≤ (a : Int) by omega), decide_eq_true (show L.g ≤ (b : Int) by omega)]; rfl))
          clear c1 c2
          go_quiet (fail)
          by_cases c3 : samePk ⟨(a : Int), (b : Int)⟩ L = true
          · have HE4 := Lib.hid (show chTo P (i + 1) = ch by rw [HE2.out, if_pos c3]; rfl)
            have rn := run_neq_pk (a : Int) (b : Int) L.m L.g
            have hn : (!(decide ((a : Int) = L.m) && decide ((b : Int) = L.g))) = false := by unfold samePk at c3; dsimp only at c3; rw [c3]; rfl
            simp only [hn] at rn
            clear hn c3 HE2
            go_upto_region 11 with (fail)
            go_quiet (fail)
            go_wp2
            go_roundw
            case rel => exact ⟨i + 1, by go_num, by omega, by rw [HE4.out], HAL2.out, below_drewN B _, vs, hrc.out, hrm.out, hrg.out, hrp.out⟩
            case measure => simp [intOf]; omega
          · have c3 := Bool.eq_false_iff.2 c3
            have HE4 := Lib.hid (show chTo P (i + 1) = ch + 1 by rw [HE2.out, c3]; rfl)
            have rn := run_neq_pk (a : Int) (b : Int) L.m L.g
            have hn : (!(decide ((a : Int) = L.m) && decide ((b : Int) = L.g))) = true := by unfold samePk at c3; dsimp only at c3; rw [c3]; rfl
            simp only [hn] at rn
            clear hn c3 HE2
            go_upto_region 11 with (fail)
            go_quiet (fail)
            go_wp2
            go_roundw
            case rel => exact ⟨i + 1, by go_num, by omega, by rw [HE4.out, Int.natCast_add]; rfl, HAL2.out, below_drewN B _, vs, hrc.out, hrm.out, hrg.out, hrp.out⟩
            case measure => simp [intOf]; omega
    · obtain rfl : i = np := by omega
      have cv4 := vs.cell (i := 4) (by simp)
      simp only [List.getD_cons_zero, List.getD_cons_succ] at cv4
      have ltv := vs.lt
      have al := allowed_split (S := S) (P := P) (by rw [HNP.out]; exact hall)
      rw [HNP.out] at al
      by_cases hgt : ((chTo P i : Nat) : Int) ≤ S.ch
      · rw [decide_eq_true hgt] at al
        have HNO := Lib.hid al
        clear al hall
        go_wp2
        go_ret
        exact ⟨by rw [← HR.out, HNO.out]; rfl, B⟩
      · rw [decide_eq_false hgt] at al
        have HNO := Lib.hid al
        clear al hall
        go_wp2
        go_ret
        exact ⟨by rw [← HR.out, HNO.out]; rfl, B⟩

end Go.Proofs
