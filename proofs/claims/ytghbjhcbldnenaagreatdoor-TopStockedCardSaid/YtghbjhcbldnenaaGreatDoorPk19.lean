/- wire.Best. What wire.Best returns is the cheapest, and of several the lexicographically least: plain law. -/
import Derived.Test.YtghbjhcbldnenaaGreatDoorPk17
import Derived.Deep.QuietTactic
import Derived.BigQuiet

section
open Go.RowKit Go.Deep
namespace Go.Proofs
set_option linter.unusedVariables false
set_option linter.unusedSimpArgs false

/-- what Best computes -/
def bestR (S : Scl) (i : Nat) : Nat → Nat → Int := restJ (folN S.gs.length) (S.ms.length * S.gs.length) (prT S) S.cs.length (S.cs.length - 1 - i)
def bestF (S : Scl) (k : Nat) : Int := bestR S 0 k S.ch.toNat
def bestV (S : Scl) : Int × Nat := amin (bestF S) (S.ms.length * S.gs.length)
def bestQ (S : Scl) (i : Nat) : Nat × Nat := road (folN S.gs.length) (S.ms.length * S.gs.length) (prT S) S.cs.length (bestV S).2 S.ch.toNat i
def pkAt (ng k : Nat) : Pk := ⟨((k / ng : Nat) : Int), ((k % ng : Nat) : Int)⟩
def bestP (S : Scl) : List Pk := (List.range S.cs.length).map fun i => pkAt S.gs.length (bestQ S i).1
def BestRet (w : World) (S : Scl) (e : Ending) (w' : World) : Prop := ∃ v, e = .returned (.tuple #[v, .int .i64 (bestV S).1, .int .i64 0]) ∧ InP w' v (bestP S) ∧ Below w.heap.size w w'

theorem road_left {fol : Nat → Nat → Bool} {K : Nat} {pr : Nat → Nat → Int} {n k0 ch : Nat} : ∀ i, (road fol K pr n k0 ch i).2 ≤ ch
  | 0 => Nat.le_refl _
  | i + 1 => by
    have := road_left (fol := fol) (K := K) (pr := pr) (n := n) (k0 := k0) (ch := ch) i
    rw [road]
    dsimp only
    split <;> omega
theorem prT_bd {S : Scl} (hs : sclOk S = true) (i k : Nat) : -1 ≤ prT S i k ∧ prT S i k ≤ 4000000000000000 := by
  unfold prT
  split
  · rename_i h
    simp only [Bool.and_eq_true, decide_eq_true_eq] at h
    have := priceN_le hs (sclOk_c hs h.1.1) (pk_ok h.1.2)
    omega
  · omega
theorem best_steps {S : Scl} (hv : (bestV S).1 ≠ -1) : bestQ S 0 = ((bestV S).2, S.ch.toNat) ∧ (∀ i, i < S.cs.length → (bestQ S i).1 < S.ms.length * S.gs.length ∧ (bestQ S i).2 ≤ S.ch.toNat) ∧
    ∀ i, i + 1 < S.cs.length → (onw (folN S.gs.length) (S.ms.length * S.gs.length) (bestR S (i + 1)) (bestQ S i).1 (bestQ S i).2).2 = (bestQ S (i + 1)).1 ∧
      (if (bestQ S (i + 1)).1 = (bestQ S i).1 then (bestQ S (i + 1)).2 = (bestQ S i).2 else (bestQ S i).2 ≠ 0 ∧ (bestQ S (i + 1)).2 = (bestQ S i).2 - 1) := by
  obtain ⟨s1, s2, s3⟩ := amin_some hv
  have h0 : restJ (folN S.gs.length) (S.ms.length * S.gs.length) (prT S) S.cs.length (S.cs.length - 1) (bestV S).2 S.ch.toNat ≠ -1 := by
    have : bestF S (bestV S).2 = (bestV S).1 := s2
    rw [← this] at hv
    exact hv
  have hval := fun i hi => road_val (fol := folN S.gs.length) (pr := prT S) (n := S.cs.length) h0 s1 i hi
  refine ⟨rfl, fun i hi => ⟨(hval i hi).2, road_left i⟩, fun i hi => ⟨rfl, ?_⟩⟩
  exact (road_step hi (hval i (by omega)).1).2.2.2.1
theorem map_succ {α : Type} (f : Nat → α) (i : Nat) : (List.range (i + 1)).map f = (List.range i).map f ++ [f i] := by simp [List.range_succ]

/-- what is known of the search once it is filled -/
def BInv (w wr : World) (bx br N M n K L : Nat) (SV VS : List Value) (pv : Value) (PL : List Pk) (R : Nat → Nat → Nat → Int) (RV : List Value) : Prop :=
  Below w.heap.size w wr ∧ Vals wr w.heap.size SV ∧ Vals wr bx VS ∧ PickIn wr (bx + 1) M pv PL ∧ RestP wr (br + 1) N br 0 n K L R RV ∧ w.heap.size < bx ∧ bx < M ∧ M ≤ br ∧ br < N ∧ N ≤ wr.heap.size
theorem BInv.mono {w wr wx : World} {bx br N M n K L : Nat} {SV VS : List Value} {pv : Value} {PL : List Pk} {R : Nat → Nat → Nat → Int} {RV : List Value} (a : BInv w wr bx br N M n K L SV VS pv PL R RV) (hb : Below N wr wx) : BInv w wx bx br N M n K L SV VS pv PL R RV := by
  obtain ⟨a1, a2, a3, a4, a5, a6, a7, a8, a9, a10⟩ := a
  exact ⟨a1.trans (hb.mono (by omega)), a2.below hb (by omega), a3.below hb (by omega), a4.same (Same.of_below hb (by omega)), a5.same (Same.of_below hb (Nat.le_refl _)) (Nat.lt_succ_self _) (by omega), a6, a7, a8, a9, Nat.le_trans a10 hb.size⟩
theorem BInv.drewN {w wr : World} {bx br N M n K L : Nat} {SV VS : List Value} {pv : Value} {PL : List Pk} {R : Nat → Nat → Nat → Int} {RV : List Value} (a : BInv w wr bx br N M n K L SV VS pv PL R RV) (q : Nat) : BInv w (wr.drewN q) bx br N M n K L SV VS pv PL R RV :=
  ⟨below_drewN a.1 q, a.2⟩
theorem BInv.row {w wr : World} {bx br N M n K L : Nat} {SV VS : List Value} {pv : Value} {PL : List Pk} {R : Nat → Nat → Nat → Int} {RV : List Value} (a : BInv w wr bx br N M n K L SV VS pv PL R RV) {i : Nat} (hi : i < n) :
    ∃ b, wr.cell? ⟨br, i, none⟩ = some (.slice (some ⟨b, 0, none⟩) K K) ∧ ∀ k, k < K → ∃ h, wr.cell? ⟨b, k, none⟩ = some (.slice (some ⟨h, 0, none⟩) L L) ∧ ∀ l, l < L → wr.cell? ⟨h, l, none⟩ = some (.int .i64 (R i k l)) := by
  obtain ⟨a1, a2, a3, a4, a5, a6⟩ := a
  obtain ⟨b, e, _, _, hr⟩ := a5.2.2 i (Nat.zero_le _) hi
  refine ⟨b, by rw [a5.1.cell (by rw [a5.2.1]; exact hi), e], fun k hk => ?_⟩
  obtain ⟨g, _, _, g1, g2⟩ := hr k hk
  exact ⟨g, g1, g2⟩

set_option maxRecDepth 100000 in
theorem wbest_bad (S : Scl) (cv mv gv : Value) (w : World) (hS : InS w cv mv gv S) (hI : SclI S) (hs : sclOk S = false) :
    Calls Tryz.prog 7 #[.agg #[cv, mv, gv, .int .i64 S.sf, .int .i64 S.ch]] w fun e w' => e = .returned (.tuple #[.slice none 0 0, .int .i64 0, .int .i64 1]) ∧ Below w.heap.size w w' := by
  have CK := fun (cv mv gv : Value) (W : World) (h : InS W cv mv gv S) => scheck_calls S cv mv gv W h hI
  rw [hs] at CK
  simp only [Bool.false_eq_true, if_false] at CK
  obtain ⟨⟨adc, cc, rfl, rc⟩, ⟨adm, cm, rfl, rm⟩, ⟨adg, cg, rfl, rg⟩⟩ := hS
  obtain ⟨nc, hnc⟩ : ∃ n, S.cs.length = n := ⟨_, rfl⟩
  obtain ⟨nm, hnm⟩ : ∃ n, S.ms.length = n := ⟨_, rfl⟩
  obtain ⟨ng, hng⟩ : ∃ n, S.gs.length = n := ⟨_, rfl⟩
  have HNC := Lib.hid hnc
  have HNM := Lib.hid hnm
  have HNG := Lib.hid hng
  have HCK := Lib.hid CK
  rw [hnc, hnm, hng]
  clear hnc hnm hng CK hI hs
  have vs := Vals.newL w (w.heap.size) [.slice adc nc cc, .slice adm nm cm, .slice adg ng cg, .int .i64 S.sf, .int .i64 S.ch] 26 rfl
  have bb := below_alloc w (.cells #[.slice adc nc cc, .slice adm nm cm, .slice adg ng cg, .int .i64 S.sf, .int .i64 S.ch] 26)
  have B := bb
  have bb0 := B
  clear bb
  go_enter Tryz.func7, Tryz.ntmps7
  go_upto_region 1 with (fail)
  generalize (w.alloc (.cells #[.slice adc nc cc, .slice adm nm cm, .slice adg ng cg, .int .i64 S.sf, .int .i64 S.ch] 26)) = w0 at *
  replace rc := rc.mono bb0
  replace rm := rm.mono bb0
  replace rg := rg.mono bb0
  clear bb0
  have cvs0 := vs.cell (i := 0) (by simp)
  have cvs1 := vs.cell (i := 1) (by simp)
  have cvs2 := vs.cell (i := 2) (by simp)
  have cvs3 := vs.cell (i := 3) (by simp)
  have cvs4 := vs.cell (i := 4) (by simp)
  simp only [List.getD_cons_zero, List.getD_cons_succ] at cvs0 cvs1 cvs2 cvs3 cvs4
  have ltvs := vs.lt
  go_wp2_with fail
  clear cvs0 cvs1 cvs2 cvs3 cvs4 ltvs
  refine (HCK.out _ _ _ _ ⟨⟨adc, cc, by rw [HNC.out], rc⟩, ⟨adm, cm, by rw [HNM.out], rm⟩, ⟨adg, cg, by rw [HNG.out], rg⟩⟩).mono ?_
  rintro e w1 ⟨rfl, b1⟩
  replace vs := vs.mono b1
  replace rc := rc.mono b1
  replace rm := rm.mono b1
  replace rg := rg.mono b1
  replace B := below_trans B b1
  clear b1
  go_wp2
  go_ret3
  exact ⟨rfl, B⟩

set_option maxRecDepth 100000 in
set_option maxHeartbeats 4000000 in
theorem wbest_none (S : Scl) (cv mv gv : Value) (w : World) (hS : InS w cv mv gv S) (hI : SclI S) (hs : sclOk S = true) (hv : (bestV S).1 = -1) :
    Calls Tryz.prog 7 #[.agg #[cv, mv, gv, .int .i64 S.sf, .int .i64 S.ch]] w fun e w' => e = .returned (.tuple #[.slice none 0 0, .int .i64 0, .int .i64 6]) ∧ Below w.heap.size w w' := by
  have CK := fun (cv mv gv : Value) (W : World) (h : InS W cv mv gv S) => scheck_calls S cv mv gv W h hI
  rw [hs] at CK
  simp only [if_true] at CK
  have LOO := fun (cv mv gv : Value) (W : World) (h : InS W cv mv gv S) => look_calls S cv mv gv W h hs
  obtain ⟨hl96, hl4, hl16, _, hch⟩ := headOk_lens (headOk_of hs)
  obtain ⟨ch, hce⟩ : ∃ c : Nat, S.ch = (c : Int) := ⟨S.ch.toNat, by omega⟩
  have hpb := fun i k => prT_bd hs i k
  obtain ⟨⟨adc, cc, rfl, rc⟩, ⟨adm, cm, rfl, rm⟩, ⟨adg, cg, rfl, rg⟩⟩ := hS
  obtain ⟨nc, hnc⟩ : ∃ n, S.cs.length = n := ⟨_, rfl⟩
  obtain ⟨nm, hnm⟩ : ∃ n, S.ms.length = n := ⟨_, rfl⟩
  obtain ⟨ng, hng⟩ : ∃ n, S.gs.length = n := ⟨_, rfl⟩
  have LC := rc.1
  have LC2 := rc.2.1
  rw [hnc] at LC
  unfold maxLen at LC2
  rw [hnc, hnm, hng, hce]
  obtain ⟨K, hK⟩ : ∃ K, nm * ng = K := ⟨_, rfl⟩
  rw [hnc] at hl96
  rw [hnm] at hl4
  rw [hng] at hl16
  have hk1 := Nat.mul_le_mul hl4.2 hl16.2
  have hk2 := Nat.mul_le_mul hl4.1 hl16.1
  rw [hK] at hk1 hk2
  have HNC := Lib.hid hnc
  have HNM := Lib.hid hnm
  have HNG := Lib.hid hng
  rw [hce] at CK LOO
  have HCK := Lib.hid CK
  have HLOO := Lib.hid LOO
  have hk : 1 ≤ K ∧ K ≤ 64 := by omega
  have hch2 : ch ≤ 96 := by omega
  obtain ⟨L, hL⟩ : ∃ L, ch + 1 = L := ⟨_, rfl⟩
  obtain ⟨R, hR⟩ : ∃ R : Nat → Nat → Nat → Int, (fun i => restJ (folN ng) K (prT S) nc (nc - 1 - i)) = R := ⟨_, rfl⟩
  have hR0 : ∀ k, bestF S k = R 0 k ch := fun k => by rw [← hR]; unfold bestF bestR; rw [hnc, hnm, hng, hK, hce]; rfl
  have hbv : bestV S = amin (fun k => R 0 k ch) K := by unfold bestV; rw [hnm, hng, hK]; congr 1; funext k; exact hR0 k
  have FIL := fun (bx : Nat) (pv tv : Value) (W : World) (vx : Vals W bx [.slice adc nc cc, .slice adm nm cm, .slice adg ng cg, .int .i64 S.sf, .int .i64 (ch : Int), pv, tv, .slice none 0 0]) (hp : PickIn W (bx + 1) W.heap.size pv (allPk nm ng)) (ht : TabIn W (bx + 1) W.heap.size tv nc K (prT S)) =>
    fill_calls bx nc K ng nm ch cc adc (.slice adm nm cm) (.slice adg ng cg) (.int .i64 S.sf) pv tv (prT S) W vx hp ht hK hl96 hk hch2 LC (by omega) hpb
  rw [hR, hL] at FIL
  have HFIL := Lib.hid FIL
  have HR := Lib.hid hR
  have HBV := Lib.hid hbv
  have HK := Lib.hid hK
  have HCE := Lib.hid hce
  have hL1 : L ≤ 97 := by omega
  have hLc : ch < L := by omega
  have HL := Lib.hid hL
  clear hL
  clear CK LOO hch hk1 hk2 hl4 hl16 hI hce hK FIL hR hR0 hbv hnc hnm hng hpb hs
  have vs := Vals.newL w (w.heap.size) [.slice adc nc cc, .slice adm nm cm, .slice adg ng cg, .int .i64 S.sf, .int .i64 (ch : Int)] 26 rfl
  have bb := below_alloc w (.cells #[.slice adc nc cc, .slice adm nm cm, .slice adg ng cg, .int .i64 S.sf, .int .i64 (ch : Int)] 26)
  have B := bb
  have bb0 := B
  clear bb
  go_enter Tryz.func7, Tryz.ntmps7
  go_upto_region 1 with (fail)
  generalize (w.alloc (.cells #[.slice adc nc cc, .slice adm nm cm, .slice adg ng cg, .int .i64 S.sf, .int .i64 (ch : Int)] 26)) = w0 at *
  replace rc := rc.mono bb0
  replace rm := rm.mono bb0
  replace rg := rg.mono bb0
  clear bb0
  have cvs0 := vs.cell (i := 0) (by simp)
  have cvs1 := vs.cell (i := 1) (by simp)
  have cvs2 := vs.cell (i := 2) (by simp)
  have cvs3 := vs.cell (i := 3) (by simp)
  have cvs4 := vs.cell (i := 4) (by simp)
  simp only [List.getD_cons_zero, List.getD_cons_succ] at cvs0 cvs1 cvs2 cvs3 cvs4
  have ltvs := vs.lt
  go_wp2_with fail
  clear cvs0 cvs1 cvs2 cvs3 cvs4 ltvs
  refine (HCK.out _ _ _ _ ⟨⟨adc, cc, by rw [HNC.out], rc⟩, ⟨adm, cm, by rw [HNM.out], rm⟩, ⟨adg, cg, by rw [HNG.out], rg⟩⟩).mono ?_
  rintro e w1 ⟨rfl, b1⟩
  replace vs := vs.mono b1
  replace rc := rc.mono b1
  replace rm := rm.mono b1
  replace rg := rg.mono b1
  replace B := below_trans B b1
  clear b1
  clear HCK
  have cvs0 := vs.cell (i := 0) (by simp)
  have cvs1 := vs.cell (i := 1) (by simp)
  have cvs2 := vs.cell (i := 2) (by simp)
  have cvs3 := vs.cell (i := 3) (by simp)
  have cvs4 := vs.cell (i := 4) (by simp)
  simp only [List.getD_cons_zero, List.getD_cons_succ] at cvs0 cvs1 cvs2 cvs3 cvs4
  have ltvs := vs.lt
  go_wp2_with fail
  clear cvs0 cvs1 cvs2 cvs3 cvs4 ltvs
  refine (HLOO.out _ _ _ _ ⟨⟨adc, cc, by rw [HNC.out], rc⟩, ⟨adm, cm, by rw [HNM.out], rm⟩, ⟨adg, cg, by rw [HNG.out], rg⟩⟩).mono ?_
  rintro e w2 ⟨bx, pv, tv, rfl, hbx, vx, hp, ht, b2⟩
  rw [HNM.out, HNG.out] at hp ht
  rw [HNC.out, HK.out] at ht
  rw [HCE.out] at vx
  have hws := vs.lt
  replace vs := vs.mono b2
  replace B := below_trans B b2
  have hM := vx.lt
  clear b2 HLOO rc rm rg
  go_wp2_with fail
  refine (HFIL.out bx pv tv _ vx hp ht).mono ?_
  rintro e w3 ⟨rfl, br, RV, hbr, hbr2, vx3, hR3, ho⟩
  have hp3 := hp.same (ho.same _ _ (Nat.lt_succ_self _) (Nat.le_refl _))
  obtain ⟨pb, po, pc, rfl, hpc⟩ := hp
  clear hpc
  rw [allPk_len, HK.out] at hp3 vx3
  simp only [List.cons_append, List.nil_append] at vx3
  have vs3 : Vals w3 w.heap.size [.slice adc nc cc, .slice adm nm cm, .slice adg ng cg, .int .i64 S.sf, .int .i64 (ch : Int)] := by
    obtain ⟨te, h⟩ := vs
    exact ⟨te, (ho.block _ (lt_of_block h) (by omega)).trans h⟩
  have B3 := below_only B ho (by omega) B.size
  have BI : BInv w w3 bx br w3.heap.size w2.heap.size nc K L [.slice adc nc cc, .slice adm nm cm, .slice adg ng cg, .int .i64 S.sf, .int .i64 (ch : Int)] [.slice adc nc cc, .slice adm nm cm, .slice adg ng cg, .int .i64 S.sf, .int .i64 (ch : Int), .slice (some ⟨pb, po, none⟩) K pc, tv, .slice (some ⟨br, 0, none⟩) nc nc] (.slice (some ⟨pb, po, none⟩) K pc) (allPk nm ng) R RV :=
    ⟨B3, vs3, vx3, hp3, hR3, by omega, hM, hbr, hbr2, Nat.le_refl _⟩
  obtain ⟨M, hMe⟩ : ∃ M, w2.heap.size = M := ⟨_, rfl⟩
  rw [hMe] at BI
  obtain ⟨N, hNe⟩ : ∃ M, w3.heap.size = M := ⟨_, rfl⟩
  rw [hNe] at BI
  clear B3 vs3 vx3 hp3 hR3 vs vx ht B ho hbr hbr2 HFIL hMe hNe hM
  obtain ⟨f, hf⟩ : ∃ f : Nat → Int, (fun k => R 0 k ch) = f := ⟨_, rfl⟩
  have HFV := Lib.hid (show ∀ k, f k = R 0 k ch from fun k => by rw [← hf])
  have hbv := HBV.out
  rw [hf] at hbv
  have HBV2 := Lib.hid hbv
  clear hf hbv HBV
  have c5 := (xcells BI.2.2.1).2.2.1
  go_wp2_with fail
  clear c5
  go_loopw [30, 7, 8] (fun kv av bv wr => ∃ k : Nat, kv = .int .i64 (k : Int) ∧ k ≤ K ∧ av = .int .i64 (amin f k).1 ∧ bv = .int .i64 ((amin f k).2 : Int) ∧ BInv w wr bx br N M nc K L [.slice adc nc cc, .slice adm nm cm, .slice adg ng cg, .int .i64 S.sf, .int .i64 (ch : Int)] [.slice adc nc cc, .slice adm nm cm, .slice adg ng cg, .int .i64 S.sf, .int .i64 (ch : Int), .slice (some ⟨pb, po, none⟩) K pc, tv, .slice (some ⟨br, 0, none⟩) nc nc] (.slice (some ⟨pb, po, none⟩) K pc) (allPk nm ng) R RV)
    (fun kv _ _ _ => K - (intOf kv).toNat)
  case atStart => exact ⟨0, rfl, Nat.zero_le _, rfl, rfl, BI⟩
  case round =>
    clear BI
    obtain ⟨k, rfl, hkk, rfl, rfl, BI⟩ := hrel
    obtain ⟨lv, hlv⟩ : ∃ v, (amin f k).1 = v := ⟨_, rfl⟩
    obtain ⟨wv, hwv⟩ : ∃ v, (amin f k).2 = v := ⟨_, rfl⟩
    rw [hlv, hwv]
    have HLV := Lib.hid hlv
    have HWV := Lib.hid hwv
    clear hlv hwv
    by_cases hkl : k < K
    · have k1 : (0 : Int) ≤ (k : Int) := by omega
      have k2 : (k : Int) < (K : Int) := by omega
      have k3 : (0 : Int) ≤ (ch : Int) := by omega
      have k4 : (ch : Int) < (L : Int) := by omega
      have k5 : (0 : Int) < (nc : Int) := by omega
      have k6 : 0 < nc := by omega
      obtain ⟨b0, r0, rk⟩ := BI.row (i := 0) k6
      obtain ⟨h, c1, c2⟩ := rk k hkl
      have cv := c2 ch (by omega)
      have c7 := (xcells BI.2.2.1).2.2.2.2
      have cs4 := BI.2.1.cell (i := 4) (by simp)
      simp only [List.getD_cons_zero, List.getD_cons_succ] at cs4
      have lts := BI.2.1.lt
      obtain ⟨c, hcv⟩ : ∃ c, R 0 k ch = c := ⟨_, rfl⟩
      rw [hcv] at cv
      have HF := Lib.hid (show f k = c by rw [HFV.out]; exact hcv)
      have HBI := Lib.hid BI
      clear hcv c2 rk BI
      go_upto_region 10 with (fail)
      go_quiet (fail)
      have BI := HBI.out.drewN nq
      clear r0 c1 cv c7 cs4 lts HBI
      by_cases q1 : c = -1
      · have HN := Lib.hid (show amin f (k + 1) = amin f k by rw [amin, if_neg (by rw [HF.out]; exact fun h => h.1 q1)])
        have g1 : (c == -1) = true := by rw [beq_iff_eq]; exact q1
        have g2 : (c != -1) = false := by rw [q1]; rfl
        clear q1
        go_wp2
        go_roundw
        case rel => exact ⟨k + 1, by go_num, by omega, by rw [HN.out]; first | done | rw [HLV.out], by rw [HN.out]; first | done | rw [HWV.out], BI⟩
        case measure => simp [intOf]; omega
      have g1 : (c == -1) = false := by rw [beq_eq_false_iff_ne]; exact q1
      have g2 : (c != -1) = true := by rw [bne_iff_ne]; exact q1
      by_cases q2 : lv = -1
      · have HN := Lib.hid (show amin f (k + 1) = (c, k) by rw [amin, HF.out, if_pos ⟨q1, .inl (by rw [HLV.out]; exact q2)⟩])
        have g3 : (lv == -1) = true := by rw [beq_iff_eq]; exact q2
        clear q1 q2
        go_wp2
        go_roundw
        case rel => exact ⟨k + 1, by go_num, by omega, by rw [HN.out]; first | done | rw [HLV.out], by rw [HN.out]; first | done | rw [HWV.out], BI⟩
        case measure => simp [intOf]; omega
      have g3 : (lv == -1) = false := by rw [beq_eq_false_iff_ne]; exact q2
      by_cases q3 : c < lv
      · have HN := Lib.hid (show amin f (k + 1) = (c, k) by rw [amin, HF.out, if_pos ⟨q1, .inr (by rw [HLV.out]; exact q3)⟩])
        clear q1 q2
        go_wp2
        go_roundw
        case rel => exact ⟨k + 1, by go_num, by omega, by rw [HN.out]; first | done | rw [HLV.out], by rw [HN.out]; first | done | rw [HWV.out], BI⟩
        case measure => simp [intOf]; omega
      · have HN := Lib.hid (show amin f (k + 1) = amin f k by rw [amin, if_neg (by rw [HF.out, HLV.out]; exact fun h => h.2.elim q2 q3)])
        have g4 : decide (c < lv) = false := decide_eq_false q3
        clear q1 q2
        go_wp2
        go_roundw
        case rel => exact ⟨k + 1, by go_num, by omega, by rw [HN.out]; first | done | rw [HLV.out], by rw [HN.out]; first | done | rw [HWV.out], BI⟩
        case measure => simp [intOf]; omega
    · obtain rfl : K = k := by omega
      have hv2 := hv
      rw [HBV2.out, HLV.out] at hv2
      subst hv2
      clear hv
      go_wp2
      go_ret3
      exact ⟨rfl, BI.1⟩

theorem pick_cells {w : World} {lo hi pb po K pc nm ng k : Nat} (h : PickIn w lo hi (.slice (some ⟨pb, po, none⟩) K pc) (allPk nm ng)) (hk : k < nm * ng) : w.cell? ⟨pb, po + k * 2, none⟩ = some (.int .i64 ((k / ng : Nat) : Int)) ∧ w.cell? ⟨pb, po + k * 2 + 1, none⟩ = some (.int .i64 ((k % ng : Nat) : Int)) := by
  obtain ⟨b, q, c, e, _, _, _, _, h⟩ := h
  cases e
  have := h k (by rw [allPk_len]; exact hk)
  rw [allPk_get hk] at this
  exact this
set_option maxRecDepth 100000 in
set_option maxHeartbeats 4000000 in
theorem wbest_ok (S : Scl) (cv mv gv : Value) (w : World) (hS : InS w cv mv gv S) (hI : SclI S) (hs : sclOk S = true) (hv : (bestV S).1 ≠ -1) :
    Calls Tryz.prog 7 #[.agg #[cv, mv, gv, .int .i64 S.sf, .int .i64 S.ch]] w (BestRet w S) := by
  have CK := fun (cv mv gv : Value) (W : World) (h : InS W cv mv gv S) => scheck_calls S cv mv gv W h hI
  rw [hs] at CK
  simp only [if_true] at CK
  have LOO := fun (cv mv gv : Value) (W : World) (h : InS W cv mv gv S) => look_calls S cv mv gv W h hs
  obtain ⟨hl96, hl4, hl16, _, hch⟩ := headOk_lens (headOk_of hs)
  obtain ⟨ch, hce⟩ : ∃ c : Nat, S.ch = (c : Int) := ⟨S.ch.toNat, by omega⟩
  have hpb := fun i k => prT_bd hs i k
  have ST := best_steps hv
  obtain ⟨rd, hrd⟩ : ∃ r, bestQ S = r := ⟨_, rfl⟩
  obtain ⟨⟨adc, cc, rfl, rc⟩, ⟨adm, cm, rfl, rm⟩, ⟨adg, cg, rfl, rg⟩⟩ := hS
  obtain ⟨nc, hnc⟩ : ∃ n, S.cs.length = n := ⟨_, rfl⟩
  obtain ⟨nm, hnm⟩ : ∃ n, S.ms.length = n := ⟨_, rfl⟩
  obtain ⟨ng, hng⟩ : ∃ n, S.gs.length = n := ⟨_, rfl⟩
  have LC := rc.1
  have LC2 := rc.2.1
  rw [hnc] at LC
  unfold maxLen at LC2
  rw [hnc, hnm, hng, hce]
  obtain ⟨K, hK⟩ : ∃ K, nm * ng = K := ⟨_, rfl⟩
  rw [hnc] at hl96
  rw [hnm] at hl4
  rw [hng] at hl16
  have hk1 := Nat.mul_le_mul hl4.2 hl16.2
  have hk2 := Nat.mul_le_mul hl4.1 hl16.1
  rw [hK] at hk1 hk2
  have hbR : ∀ i, bestR S i = restJ (folN ng) K (prT S) nc (nc - 1 - i) := fun i => by unfold bestR; rw [hnc, hnm, hng, hK]
  have hbp : bestP S = (List.range nc).map (fun i => pkAt ng (rd i).1) := by unfold bestP; rw [hnc, hng, hrd]
  rw [hnc, hnm, hng, hK, hrd] at ST
  simp only [hbR] at ST
  have hct : S.ch.toNat = ch := by omega
  rw [hct] at ST
  have HBP := Lib.hid hbp
  clear hbR hbp hct hrd
  have HNC := Lib.hid hnc
  have HNM := Lib.hid hnm
  have HNG := Lib.hid hng
  rw [hce] at CK LOO
  have HCK := Lib.hid CK
  have HLOO := Lib.hid LOO
  have hk : 1 ≤ K ∧ K ≤ 64 := by omega
  have hch2 : ch ≤ 96 := by omega
  obtain ⟨L, hL⟩ : ∃ L, ch + 1 = L := ⟨_, rfl⟩
  obtain ⟨R, hR⟩ : ∃ R : Nat → Nat → Nat → Int, (fun i => restJ (folN ng) K (prT S) nc (nc - 1 - i)) = R := ⟨_, rfl⟩
  have hR0 : ∀ k, bestF S k = R 0 k ch := fun k => by rw [← hR]; unfold bestF bestR; rw [hnc, hnm, hng, hK, hce]; rfl
  have hbv : bestV S = amin (fun k => R 0 k ch) K := by unfold bestV; rw [hnm, hng, hK]; congr 1; funext k; exact hR0 k
  have FIL := fun (bx : Nat) (pv tv : Value) (W : World) (vx : Vals W bx [.slice adc nc cc, .slice adm nm cm, .slice adg ng cg, .int .i64 S.sf, .int .i64 (ch : Int), pv, tv, .slice none 0 0]) (hp : PickIn W (bx + 1) W.heap.size pv (allPk nm ng)) (ht : TabIn W (bx + 1) W.heap.size tv nc K (prT S)) =>
    fill_calls bx nc K ng nm ch cc adc (.slice adm nm cm) (.slice adg ng cg) (.int .i64 S.sf) pv tv (prT S) W vx hp ht hK hl96 hk hch2 LC (by omega) hpb
  rw [hR, hL] at FIL
  have HFIL := Lib.hid FIL
  have ST2 : rd 0 = ((bestV S).2, ch) ∧ (∀ i, i < nc → (rd i).1 < K ∧ (rd i).2 ≤ ch) ∧ ∀ i, i + 1 < nc → (onw (folN ng) K (R (i + 1)) (rd i).1 (rd i).2).2 = (rd (i + 1)).1 ∧
      (if (rd (i + 1)).1 = (rd i).1 then (rd (i + 1)).2 = (rd i).2 else (rd i).2 ≠ 0 ∧ (rd (i + 1)).2 = (rd i).2 - 1) := by rw [← hR]; exact ST
  have HST := Lib.hid ST2
  clear ST ST2
  have HR := Lib.hid hR
  have HBV := Lib.hid hbv
  have HK := Lib.hid hK
  have HCE := Lib.hid hce
  have hL1 : L ≤ 97 := by omega
  have hLc : ch < L := by omega
  have HL := Lib.hid hL
  clear hL
  clear CK LOO hch hk1 hk2 hl4 hl16 hI hce hK FIL hR hR0 hbv hnc hnm hng hpb hs
  have vs := Vals.newL w (w.heap.size) [.slice adc nc cc, .slice adm nm cm, .slice adg ng cg, .int .i64 S.sf, .int .i64 (ch : Int)] 26 rfl
  have bb := below_alloc w (.cells #[.slice adc nc cc, .slice adm nm cm, .slice adg ng cg, .int .i64 S.sf, .int .i64 (ch : Int)] 26)
  have B := bb
  have bb0 := B
  clear bb
  go_enter Tryz.func7, Tryz.ntmps7
  go_upto_region 1 with (fail)
  generalize (w.alloc (.cells #[.slice adc nc cc, .slice adm nm cm, .slice adg ng cg, .int .i64 S.sf, .int .i64 (ch : Int)] 26)) = w0 at *
  replace rc := rc.mono bb0
  replace rm := rm.mono bb0
  replace rg := rg.mono bb0
  clear bb0
  have cvs0 := vs.cell (i := 0) (by simp)
  have cvs1 := vs.cell (i := 1) (by simp)
  have cvs2 := vs.cell (i := 2) (by simp)
  have cvs3 := vs.cell (i := 3) (by simp)
  have cvs4 := vs.cell (i := 4) (by simp)
  simp only [List.getD_cons_zero, List.getD_cons_succ] at cvs0 cvs1 cvs2 cvs3 cvs4
  have ltvs := vs.lt
  go_wp2_with fail
  clear cvs0 cvs1 cvs2 cvs3 cvs4 ltvs
  refine (HCK.out _ _ _ _ ⟨⟨adc, cc, by rw [HNC.out], rc⟩, ⟨adm, cm, by rw [HNM.out], rm⟩, ⟨adg, cg, by rw [HNG.out], rg⟩⟩).mono ?_
  rintro e w1 ⟨rfl, b1⟩
  replace vs := vs.mono b1
  replace rc := rc.mono b1
  replace rm := rm.mono b1
  replace rg := rg.mono b1
  replace B := below_trans B b1
  clear b1
  clear HCK
  have cvs0 := vs.cell (i := 0) (by simp)
  have cvs1 := vs.cell (i := 1) (by simp)
  have cvs2 := vs.cell (i := 2) (by simp)
  have cvs3 := vs.cell (i := 3) (by simp)
  have cvs4 := vs.cell (i := 4) (by simp)
  simp only [List.getD_cons_zero, List.getD_cons_succ] at cvs0 cvs1 cvs2 cvs3 cvs4
  have ltvs := vs.lt
  go_wp2_with fail
  clear cvs0 cvs1 cvs2 cvs3 cvs4 ltvs
  refine (HLOO.out _ _ _ _ ⟨⟨adc, cc, by rw [HNC.out], rc⟩, ⟨adm, cm, by rw [HNM.out], rm⟩, ⟨adg, cg, by rw [HNG.out], rg⟩⟩).mono ?_
  rintro e w2 ⟨bx, pv, tv, rfl, hbx, vx, hp, ht, b2⟩
  rw [HNM.out, HNG.out] at hp ht
  rw [HNC.out, HK.out] at ht
  rw [HCE.out] at vx
  have hws := vs.lt
  replace vs := vs.mono b2
  replace B := below_trans B b2
  have hM := vx.lt
  clear b2 HLOO rc rm rg
  go_wp2_with fail
  refine (HFIL.out bx pv tv _ vx hp ht).mono ?_
  rintro e w3 ⟨rfl, br, RV, hbr, hbr2, vx3, hR3, ho⟩
  have hp3 := hp.same (ho.same _ _ (Nat.lt_succ_self _) (Nat.le_refl _))
  obtain ⟨pb, po, pc, rfl, hpc⟩ := hp
  clear hpc
  rw [allPk_len, HK.out] at hp3 vx3
  simp only [List.cons_append, List.nil_append] at vx3
  have vs3 : Vals w3 w.heap.size [.slice adc nc cc, .slice adm nm cm, .slice adg ng cg, .int .i64 S.sf, .int .i64 (ch : Int)] := by
    obtain ⟨te, h⟩ := vs
    exact ⟨te, (ho.block _ (lt_of_block h) (by omega)).trans h⟩
  have B3 := below_only B ho (by omega) B.size
  have BI : BInv w w3 bx br w3.heap.size w2.heap.size nc K L [.slice adc nc cc, .slice adm nm cm, .slice adg ng cg, .int .i64 S.sf, .int .i64 (ch : Int)] [.slice adc nc cc, .slice adm nm cm, .slice adg ng cg, .int .i64 S.sf, .int .i64 (ch : Int), .slice (some ⟨pb, po, none⟩) K pc, tv, .slice (some ⟨br, 0, none⟩) nc nc] (.slice (some ⟨pb, po, none⟩) K pc) (allPk nm ng) R RV :=
    ⟨B3, vs3, vx3, hp3, hR3, by omega, hM, hbr, hbr2, Nat.le_refl _⟩
  obtain ⟨M, hMe⟩ : ∃ M, w2.heap.size = M := ⟨_, rfl⟩
  rw [hMe] at BI
  obtain ⟨N, hNe⟩ : ∃ M, w3.heap.size = M := ⟨_, rfl⟩
  rw [hNe] at BI
  clear B3 vs3 vx3 hp3 hR3 vs vx ht B ho hbr hbr2 HFIL hMe hNe hM
  obtain ⟨f, hf⟩ : ∃ f : Nat → Int, (fun k => R 0 k ch) = f := ⟨_, rfl⟩
  have HFV := Lib.hid (show ∀ k, f k = R 0 k ch from fun k => by rw [← hf])
  have hbv := HBV.out
  rw [hf] at hbv
  have HBV2 := Lib.hid hbv
  clear hf hbv HBV
  have c5 := (xcells BI.2.2.1).2.2.1
  go_wp2_with fail
  clear c5
  go_loopw [30, 7, 8] (fun kv av bv wr => ∃ k : Nat, kv = .int .i64 (k : Int) ∧ k ≤ K ∧ av = .int .i64 (amin f k).1 ∧ bv = .int .i64 ((amin f k).2 : Int) ∧ BInv w wr bx br N M nc K L [.slice adc nc cc, .slice adm nm cm, .slice adg ng cg, .int .i64 S.sf, .int .i64 (ch : Int)] [.slice adc nc cc, .slice adm nm cm, .slice adg ng cg, .int .i64 S.sf, .int .i64 (ch : Int), .slice (some ⟨pb, po, none⟩) K pc, tv, .slice (some ⟨br, 0, none⟩) nc nc] (.slice (some ⟨pb, po, none⟩) K pc) (allPk nm ng) R RV)
    (fun kv _ _ _ => K - (intOf kv).toNat)
  case atStart => exact ⟨0, rfl, Nat.zero_le _, rfl, rfl, BI⟩
  case round =>
    clear BI
    obtain ⟨k, rfl, hkk, rfl, rfl, BI⟩ := hrel
    obtain ⟨lv, hlv⟩ : ∃ v, (amin f k).1 = v := ⟨_, rfl⟩
    obtain ⟨wv, hwv⟩ : ∃ v, (amin f k).2 = v := ⟨_, rfl⟩
    rw [hlv, hwv]
    have HLV := Lib.hid hlv
    have HWV := Lib.hid hwv
    clear hlv hwv
    by_cases hkl : k < K
    · have k1 : (0 : Int) ≤ (k : Int) := by omega
      have k2 : (k : Int) < (K : Int) := by omega
      have k3 : (0 : Int) ≤ (ch : Int) := by omega
      have k4 : (ch : Int) < (L : Int) := by omega
      have k5 : (0 : Int) < (nc : Int) := by omega
      have k6 : 0 < nc := by omega
      obtain ⟨b0, r0, rk⟩ := BI.row (i := 0) k6
      obtain ⟨h, c1, c2⟩ := rk k hkl
      have cv := c2 ch (by omega)
      have c7 := (xcells BI.2.2.1).2.2.2.2
      have cs4 := BI.2.1.cell (i := 4) (by simp)
      simp only [List.getD_cons_zero, List.getD_cons_succ] at cs4
      have lts := BI.2.1.lt
      obtain ⟨c, hcv⟩ : ∃ c, R 0 k ch = c := ⟨_, rfl⟩
      rw [hcv] at cv
      have HF := Lib.hid (show f k = c by rw [HFV.out]; exact hcv)
      have HBI := Lib.hid BI
      clear hcv c2 rk BI
      go_upto_region 10 with (fail)
      go_quiet (fail)
      have BI := HBI.out.drewN nq
      clear r0 c1 cv c7 cs4 lts HBI
      by_cases q1 : c = -1
      · have HN := Lib.hid (show amin f (k + 1) = amin f k by rw [amin, if_neg (by rw [HF.out]; exact fun h => h.1 q1)])
        have g1 : (c == -1) = true := by rw [beq_iff_eq]; exact q1
        have g2 : (c != -1) = false := by rw [q1]; rfl
        clear q1
        go_wp2
        go_roundw
        case rel => exact ⟨k + 1, by go_num, by omega, by rw [HN.out]; first | done | rw [HLV.out], by rw [HN.out]; first | done | rw [HWV.out], BI⟩
        case measure => simp [intOf]; omega
      have g1 : (c == -1) = false := by rw [beq_eq_false_iff_ne]; exact q1
      have g2 : (c != -1) = true := by rw [bne_iff_ne]; exact q1
      by_cases q2 : lv = -1
      · have HN := Lib.hid (show amin f (k + 1) = (c, k) by rw [amin, HF.out, if_pos ⟨q1, .inl (by rw [HLV.out]; exact q2)⟩])
        have g3 : (lv == -1) = true := by rw [beq_iff_eq]; exact q2
        clear q1 q2
        go_wp2
        go_roundw
        case rel => exact ⟨k + 1, by go_num, by omega, by rw [HN.out]; first | done | rw [HLV.out], by rw [HN.out]; first | done | rw [HWV.out], BI⟩
        case measure => simp [intOf]; omega
      have g3 : (lv == -1) = false := by rw [beq_eq_false_iff_ne]; exact q2
      by_cases q3 : c < lv
      · have HN := Lib.hid (show amin f (k + 1) = (c, k) by rw [amin, HF.out, if_pos ⟨q1, .inr (by rw [HLV.out]; exact q3)⟩])
        clear q1 q2
        go_wp2
        go_roundw
        case rel => exact ⟨k + 1, by go_num, by omega, by rw [HN.out]; first | done | rw [HLV.out], by rw [HN.out]; first | done | rw [HWV.out], BI⟩
        case measure => simp [intOf]; omega
      · have HN := Lib.hid (show amin f (k + 1) = amin f k by rw [amin, if_neg (by rw [HF.out, HLV.out]; exact fun h => h.2.elim q2 q3)])
        have g4 : decide (c < lv) = false := decide_eq_false q3
        clear q1 q2
        go_wp2
        go_roundw
        case rel => exact ⟨k + 1, by go_num, by omega, by rw [HN.out]; first | done | rw [HLV.out], by rw [HN.out]; first | done | rw [HWV.out], BI⟩
        case measure => simp [intOf]; omega
    · obtain rfl : K = k := by omega
      have wvn : wv = (rd 0).1 := by rw [HST.out.1, HBV2.out]; exact HWV.out.symm
      have chn : ch = (rd 0).2 := by rw [HST.out.1]
      have hlv : (lv == -1) = false := by
        rw [beq_eq_false_iff_ne]
        intro e
        apply hv
        rw [HBV2.out, HLV.out]
        exact e
      have hlb := HLV.out
      rw [← HBV2.out] at hlb
      have HLB := Lib.hid hlb
      clear hlb hv HWV HLV
      have r0 := HST.out.2.1 0 (by omega)
      rw [← wvn, ← chn] at r0
      have q1 : (0 : Int) ≤ (wv : Int) := by omega
      have q2 : (wv : Int) < (K : Int) := by omega
      have hcp := pick_cells BI.2.2.2.1 (k := wv) (by rw [HK.out]; exact r0.1)
      obtain ⟨cp0, cp1⟩ := hcp
      have c5 := (xcells BI.2.2.1).2.2.1
      have cs4 := BI.2.1.cell (i := 4) (by simp)
      simp only [List.getD_cons_zero, List.getD_cons_succ] at cs4
      have lts := BI.2.1.lt
      have WVN := Lib.hid wvn
      have CHN := Lib.hid chn
      clear wvn chn r0
      obtain ⟨ka, hka⟩ : ∃ a, ((wv / ng : Nat) : Int) = a := ⟨_, rfl⟩
      obtain ⟨kb, hkb⟩ : ∃ a, ((wv % ng : Nat) : Int) = a := ⟨_, rfl⟩
      rw [hka] at cp0
      rw [hkb] at cp1
      have HKA := Lib.hid (show pkAt ng wv = ⟨ka, kb⟩ by unfold pkAt; rw [hka, hkb])
      clear hka hkb
      go_upto_region 17 with (fail)
      have bb := below_alloc wr (.cells #[.int .i64 ka, .int .i64 kb] 73)
      have ow := ownsRow_base (ownsRow_lit wr 73 2 1 [.int .i64 ka, .int .i64 kb] #[.int .i64 ka, .int .i64 kb] rfl rfl (by unfold maxLen; omega)) BI.2.2.2.2.2.2.2.2.2
      replace BI := BI.mono (bb.mono BI.2.2.2.2.2.2.2.2.2)
      replace cs4 := (bb.cell (cell_lt cs4)).trans cs4
      replace lts := Nat.lt_of_lt_of_le lts bb.size
      clear bb cp0 cp1 c5
      generalize wr.alloc (.cells #[.int .i64 ka, .int .i64 kb] 73) = W4 at *
      generalize wr.heap.size = bo at *
      go_wp2_with fail
      clear cs4 lts
      go_loopw [13, 8, 12, 11] (fun iv pv lv2 ov wr => ∃ j : Nat, iv = .int .i64 ((j : Int) + 1) ∧ j < nc ∧ pv = .int .i64 ((rd j).1 : Int) ∧ lv2 = .int .i64 ((rd j).2 : Int) ∧ (∃ ad c, ov = .slice ad (j + 1) c ∧ wr.ownsRow N 73 2 (.slice ad (j + 1) c) (j + 1) (flat pcl ((List.range (j + 1)).map fun i => pkAt ng (rd i).1))) ∧ BInv w wr bx br N M nc K L [.slice adc nc cc, .slice adm nm cm, .slice adg ng cg, .int .i64 S.sf, .int .i64 (ch : Int)] [.slice adc nc cc, .slice adm nm cm, .slice adg ng cg, .int .i64 S.sf, .int .i64 (ch : Int), .slice (some ⟨pb, po, none⟩) K pc, tv, .slice (some ⟨br, 0, none⟩) nc nc] (.slice (some ⟨pb, po, none⟩) K pc) (allPk nm ng) R RV)
        (fun iv _ _ _ _ => nc - (intOf iv).toNat)
      case atStart => exact ⟨0, rfl, by omega, by rw [WVN.out], by rw [← CHN.out], ⟨_, _, rfl, by rw [map_succ, flat_append, ← WVN.out, HKA.out]; exact ow⟩, BI⟩
      case round =>
        clear BI ow
        obtain ⟨j, rfl, hj, rfl, rfl, ⟨ad, c, rfl, ow⟩, BI⟩ := hrel
        have cs0 := BI.2.1.cell (i := 0) (by simp)
        simp only [List.getD_cons_zero, List.getD_cons_succ] at cs0
        have lts := BI.2.1.lt
        obtain ⟨a, ha⟩ : ∃ a, (rd j).1 = a := ⟨_, rfl⟩
        obtain ⟨b, hb⟩ : ∃ a, (rd j).2 = a := ⟨_, rfl⟩
        have rb := HST.out.2.1 j hj
        rw [ha, hb] at rb
        rw [ha, hb]
        by_cases hlt : j + 1 < nc
        · have st := HST.out.2.2 j hlt
          have rb2 := (HST.out.2.1 (j + 1) hlt).1
          obtain ⟨a2, ha2⟩ : ∃ a, (rd (j + 1)).1 = a := ⟨_, rfl⟩
          obtain ⟨b2, hb2⟩ : ∃ a, (rd (j + 1)).2 = a := ⟨_, rfl⟩
          rw [ha, hb, ha2, hb2] at st
          rw [ha2] at rb2
          obtain ⟨b1, hr1, hr2⟩ := BI.row hlt
          have c5 := (xcells BI.2.2.1).2.2.1
          have c7 := (xcells BI.2.2.1).2.2.2.2
          have ON := onward_calls bx pb po pc br b1 nc K L ng j a b [] (R (j + 1)) wr c5 c7 hr1 hr2
            (fun k hk => pick_cells BI.2.2.2.1 (by rw [HK.out]; exact hk)) hlt (by omega) (by omega) (by omega) rb.1 (by omega)
          obtain ⟨mo, hmo⟩ : ∃ m, (onw (folN ng) K (R (j + 1)) a b).1 = m := ⟨_, rfl⟩
          rw [hmo, st.1] at ON
          have HON := Lib.hid ON
          have HST2 := Lib.hid st.2
          have HA2 := Lib.hid ha2
          have HB2 := Lib.hid hb2
          have hlt2 : (j : Int) + 1 < (nc : Int) := by omega
          clear ON st hmo hr1 hr2 c5 c7 ha hb ha2 hb2
          go_wp2_with fail
          clear cs0 lts
          refine (HON.out).mono ?_
          rintro e z1 ⟨rfl, b5⟩
          replace ow := ownsRow_mono ow b5
          replace BI := BI.mono (b5.mono BI.2.2.2.2.2.2.2.2.2)
          clear b5 HON
          have q1 : (0 : Int) ≤ (a2 : Int) := by omega
          have q2 : (a2 : Int) < (K : Int) := by omega
          obtain ⟨cp0, cp1⟩ := pick_cells BI.2.2.2.1 (k := a2) (by rw [HK.out]; exact rb2)
          obtain ⟨kc, hkc⟩ : ∃ a, ((a2 / ng : Nat) : Int) = a := ⟨_, rfl⟩
          obtain ⟨kd, hkd⟩ : ∃ a, ((a2 % ng : Nat) : Int) = a := ⟨_, rfl⟩
          rw [hkc] at cp0
          rw [hkd] at cp1
          have HKC := Lib.hid (show pkAt ng (rd (j + 1)).1 = ⟨kc, kd⟩ by rw [HA2.out]; unfold pkAt; rw [hkc, hkd])
          have c5 := (xcells BI.2.2.1).2.2.1
          have bb := below_alloc z1 (.cells #[.int .i64 kc, .int .i64 kd] 73)
          clear hkc hkd
          by_cases hto : a2 = a
          · have g0 : ((a2 : Int) != (a : Int)) = false := by rw [hto]; simp
            have hb2 := HST2.out
            rw [if_pos hto] at hb2
            have HBB := Lib.hid hb2
            clear hto hb2
            go_wp2_with (at_builtin; refine wpList_append_rv rfl (.tmp 94) (.tmp 102) _ rfl N 73 _ 2 16 Tryz.underlying37 info_pick rfl (by decide) _ (j + 1) _ rfl (ownsRow_mono ow bb) _ 1 1 [.int .i64 kc, .int .i64 kd] rfl (Vals.rd (Vals.newL z1 z1.heap.size [.int .i64 kc, .int .i64 kd] 73 rfl) 1 2 rfl 1 (by omega) (by unfold maxLen; omega)) (pcl_one ⟨kc, kd⟩) (by unfold maxLen; omega) (by omega) (Nat.le_trans BI.2.2.2.2.2.2.2.2.2 bb.size) (j + 1 + 1) rfl (flat pcl ((List.range (j + 1 + 1)).map fun i => pkAt ng (rd i).1)) (by rw [map_succ _ (j + 1), flat_append, HKC.out]; rfl) ?_; intro ad3 c3 w3 hown3 hg3 hn3 hb3 hk3)
            have BI3 := (BI.mono (bb.mono BI.2.2.2.2.2.2.2.2.2)).mono hb3
            clear BI ow bb hg3 hn3 hb3 hk3 cp0 cp1 c5
            go_wp2
            go_roundw
            case rel => exact ⟨j + 1, by go_num, hlt, by rw [HA2.out], by rw [HB2.out, HBB.out], ⟨ad3, c3, rfl, hown3⟩, BI3⟩
            case measure => simp [intOf]; omega
          · have g0 : ((a2 : Int) != (a : Int)) = true := by rw [bne_iff_ne]; omega
            have hb2 := HST2.out
            rw [if_neg hto] at hb2
            have hb3 : (b : Int) - 1 = (b2 : Int) := by omega
            have HBB := Lib.hid hb3
            have hb4 : 1 ≤ (b : Int) := by omega
            clear hto hb2 hb3
            go_wp2_with (at_builtin; refine wpList_append_rv rfl (.tmp 94) (.tmp 102) _ rfl N 73 _ 2 16 Tryz.underlying37 info_pick rfl (by decide) _ (j + 1) _ rfl (ownsRow_mono ow bb) _ 1 1 [.int .i64 kc, .int .i64 kd] rfl (Vals.rd (Vals.newL z1 z1.heap.size [.int .i64 kc, .int .i64 kd] 73 rfl) 1 2 rfl 1 (by omega) (by unfold maxLen; omega)) (pcl_one ⟨kc, kd⟩) (by unfold maxLen; omega) (by omega) (Nat.le_trans BI.2.2.2.2.2.2.2.2.2 bb.size) (j + 1 + 1) rfl (flat pcl ((List.range (j + 1 + 1)).map fun i => pkAt ng (rd i).1)) (by rw [map_succ _ (j + 1), flat_append, HKC.out]; rfl) ?_; intro ad3 c3 w3 hown3 hg3 hn3 hb3 hk3)
            have BI3 := (BI.mono (bb.mono BI.2.2.2.2.2.2.2.2.2)).mono hb3
            clear BI ow bb hg3 hn3 hb3 hk3 cp0 cp1 c5
            go_wp2
            go_roundw
            case rel => exact ⟨j + 1, by go_num, hlt, by rw [HA2.out], by rw [HB2.out, HBB.out], ⟨ad3, c3, rfl, hown3⟩, BI3⟩
            case measure => simp [intOf]; omega
        · obtain rfl : nc = j + 1 := by omega
          obtain ⟨r1, _⟩ := ownsRow_rds ow
          have r2 := r1.rdp
          have HR2 := Lib.hid r2
          have hnl : ¬ ((j : Int) + 1 < ((j + 1 : Nat) : Int)) := by omega
          clear r1 r2 ow
          go_wp2
          go_ret3
          exact ⟨_, by rw [HLB.out]; rfl, ⟨ad, c, by rw [HBP.out]; simp, by rw [HBP.out]; exact HR2.out⟩, BI.1⟩

end Go.Proofs
end

section
open Go.RowKit Go.Deep
namespace Go.Proofs
set_option linter.unusedVariables false
set_option linter.unusedSimpArgs false

/-- a pick's place among all -/
def idxPk (ng : Nat) (p : Pk) : Nat := p.m.toNat * ng + p.g.toNat
theorem idx_parts {S : Scl} {p : Pk} (h : pkOk S p = true) : idxPk S.gs.length p < S.ms.length * S.gs.length ∧ idxPk S.gs.length p / S.gs.length = p.m.toNat ∧ idxPk S.gs.length p % S.gs.length = p.g.toNat := by
  obtain ⟨⟨h1, h2⟩, h3, h4⟩ := pk_facts h
  have hg : p.g.toNat < S.gs.length := by omega
  have hm : p.m.toNat < S.ms.length := by omega
  unfold idxPk
  refine ⟨?_, ?_, ?_⟩
  · have : (p.m.toNat + 1) * S.gs.length ≤ S.ms.length * S.gs.length := Nat.mul_le_mul_right _ hm
    rw [Nat.succ_mul] at this
    omega
  · rw [Nat.mul_comm, Nat.mul_add_div (by omega), Nat.div_eq_of_lt hg, Nat.add_zero]
  · rw [Nat.mul_comm, Nat.mul_add_mod, Nat.mod_eq_of_lt hg]
theorem pkAt_idx {S : Scl} {p : Pk} (h : pkOk S p = true) : pkAt S.gs.length (idxPk S.gs.length p) = p := by
  obtain ⟨_, e1, e2⟩ := idx_parts h
  obtain ⟨⟨h1, h2⟩, h3, h4⟩ := pk_facts h
  unfold pkAt
  rw [e1, e2]
  obtain ⟨m, g⟩ := p
  simp only [Pk.mk.injEq]
  dsimp only at h1 h3
  omega
theorem idx_pkAt {S : Scl} {k : Nat} (h : k < S.ms.length * S.gs.length) : pkOk S (pkAt S.gs.length k) = true ∧ idxPk S.gs.length (pkAt S.gs.length k) = k := by
  refine ⟨pk_ok h, ?_⟩
  unfold idxPk pkAt
  simp only [Int.toNat_natCast]
  have := Nat.div_add_mod k S.gs.length
  rw [Nat.mul_comm] at this
  exact this
theorem fol_iff {S : Scl} {p p' : Pk} (h : pkOk S p = true) (h' : pkOk S p' = true) : folN S.gs.length (idxPk S.gs.length p) (idxPk S.gs.length p') = (decide (p.m ≤ p'.m) && decide (p.g ≤ p'.g)) := by
  obtain ⟨_, e1, e2⟩ := idx_parts h
  obtain ⟨_, e3, e4⟩ := idx_parts h'
  obtain ⟨⟨h1, h2⟩, h3, h4⟩ := pk_facts h
  obtain ⟨⟨k1, k2⟩, k3, k4⟩ := pk_facts h'
  unfold folN
  rw [e1, e2, e3, e4]
  congr 1
  · congr 1; apply propext; omega
  · congr 1; apply propext; omega
theorem same_iff {S : Scl} {p p' : Pk} (h : pkOk S p = true) (h' : pkOk S p' = true) : samePk p p' = decide (idxPk S.gs.length p = idxPk S.gs.length p') := by
  obtain ⟨_, e1, e2⟩ := idx_parts h
  obtain ⟨_, e3, e4⟩ := idx_parts h'
  obtain ⟨⟨h1, h2⟩, h3, h4⟩ := pk_facts h
  obtain ⟨⟨k1, k2⟩, k3, k4⟩ := pk_facts h'
  unfold samePk
  by_cases e : idxPk S.gs.length p = idxPk S.gs.length p'
  · rw [decide_eq_true e]
    rw [e] at e1 e2
    rw [decide_eq_true (show p.m = p'.m by omega), decide_eq_true (show p.g = p'.g by omega)]
    rfl
  · rw [decide_eq_false e]
    by_cases a : p.m = p'.m
    · by_cases b : p.g = p'.g
      · exact absurd (by unfold idxPk; rw [a, b]) e
      · rw [decide_eq_false b, Bool.and_false]
    · rw [decide_eq_false a, Bool.false_and]
/-- picks, lexicographically less -/
theorem idx_lt {S : Scl} {p p' : Pk} (h : pkOk S p = true) (h' : pkOk S p' = true) : idxPk S.gs.length p < idxPk S.gs.length p' ↔ (p.m < p'.m ∨ (p.m = p'.m ∧ p.g < p'.g)) := by
  obtain ⟨⟨h1, h2⟩, h3, h4⟩ := pk_facts h
  obtain ⟨⟨k1, k2⟩, k3, k4⟩ := pk_facts h'
  unfold idxPk
  rcases Int.lt_trichotomy p.m p'.m with e | e | e
  · have : (p.m.toNat + 1) * S.gs.length ≤ p'.m.toNat * S.gs.length := Nat.mul_le_mul_right _ (by omega)
    rw [Nat.succ_mul] at this
    constructor
    · intro; exact .inl e
    · intro; omega
  · rw [e]
    constructor
    · intro; right; exact ⟨rfl, by omega⟩
    · intro h
      rcases h with h | ⟨_, h⟩
      · omega
      · omega
  · have : (p'.m.toNat + 1) * S.gs.length ≤ p.m.toNat * S.gs.length := Nat.mul_le_mul_right _ (by omega)
    rw [Nat.succ_mul] at this
    constructor
    · intro; omega
    · intro h
      rcases h with h | ⟨h, _⟩
      · omega
      · omega

theorem okJ_congr {fol : Nat → Nat → Bool} {pr : Nat → Nat → Int} {n : Nat} {q q' : Nat → Nat} (h : ∀ i, i < n → q i = q' i) (hn : 0 < n) : ∀ j left, okJ fol pr n q j left ↔ okJ fol pr n q' j left
  | 0, left => by unfold okJ; rw [h (n - 1) (by omega)]
  | j + 1, left => by
    unfold okJ
    rw [h (n - 1 - (j + 1)) (by omega), h (n - 1 - j) (by omega), okJ_congr h hn j left, okJ_congr h hn j (left - 1)]
theorem costJ_congr {pr : Nat → Nat → Int} {n : Nat} {q q' : Nat → Nat} (h : ∀ i, i < n → q i = q' i) (hn : 0 < n) : ∀ j, costJ pr n q j = costJ pr n q' j
  | 0 => by unfold costJ; rw [h (n - 1) (by omega)]
  | j + 1 => by unfold costJ; rw [h (n - 1 - (j + 1)) (by omega), costJ_congr h hn j]
theorem lexJ_congr {n : Nat} {q q' r r' : Nat → Nat} (h : ∀ i, i < n → q i = q' i) (k : ∀ i, i < n → r i = r' i) (hn : 0 < n) : ∀ j, lexJ n q r j ↔ lexJ n q' r' j
  | 0 => by unfold lexJ; rw [h (n - 1) (by omega), k (n - 1) (by omega)]
  | j + 1 => by unfold lexJ; rw [h (n - 1 - (j + 1)) (by omega), k (n - 1 - (j + 1)) (by omega), lexJ_congr h k hn j]

/-- the places of picks -/
def qOf (S : Scl) (P : List Pk) (i : Nat) : Nat := idxPk S.gs.length (P.getD i p0)
theorem prT_pk {S : Scl} {P : List Pk} (hf : fitsB S P = true) {i : Nat} (hi : i < P.length) : prT S i (qOf S P i) = if strongB S (S.cs.getD i c0) (P.getD i p0) then ((priceN S (S.cs.getD i c0) (P.getD i p0) : Nat) : Int) else -1 := by
  obtain ⟨h1, h2⟩ := fits_parts hf
  have hp := h2 i hi
  have e := pkAt_idx hp
  unfold pkAt at e
  unfold prT qOf
  rw [decide_eq_true (show i < S.cs.length by omega), decide_eq_true (idx_parts hp).1, e]
  rfl
theorem prT_ne {S : Scl} {P : List Pk} (hf : fitsB S P = true) {i : Nat} (hi : i < P.length) : prT S i (qOf S P i) ≠ -1 ↔ strongB S (S.cs.getD i c0) (P.getD i p0) = true := by
  rw [prT_pk hf hi]
  cases h : strongB S (S.cs.getD i c0) (P.getD i p0) with
  | true =>
    rw [if_pos rfl]
    exact ⟨fun _ => rfl, fun _ e => by omega⟩
  | false => simp

theorem ok_iff {S : Scl} {P : List Pk} (hf : fitsB S P = true) (hn : 0 < P.length) : ∀ j left, j < P.length →
    (okJ (folN S.gs.length) (prT S) P.length (qOf S P) j left ↔ (∀ i, P.length - 1 - j ≤ i → i < P.length → strongB S (S.cs.getD i c0) (P.getD i p0) = true) ∧ (∀ i, P.length - 1 - j < i → i < P.length → monoAt P i = true) ∧ chTo P P.length ≤ left + chTo P (P.length - j))
  | 0, left, hj => by
    unfold okJ
    rw [prT_ne hf (by omega)]
    constructor
    · intro h
      refine ⟨fun i h1 h2 => ?_, fun i h1 h2 => by omega, by rw [Nat.sub_zero]; omega⟩
      rw [show i = P.length - 1 by omega]; exact h
    · exact fun h => h.1 _ (by omega) (by omega)
  | j + 1, left, hj => by
    obtain ⟨h1, h2⟩ := fits_parts hf
    obtain ⟨a, ha⟩ : ∃ a, P.length - 1 - (j + 1) = a := ⟨_, rfl⟩
    have hb : P.length - 1 - j = a + 1 := by omega
    have hc : P.length - (j + 1) = a + 1 := by omega
    have hd : P.length - j = a + 1 + 1 := by omega
    have pa := h2 a (by omega)
    have pb := h2 (a + 1) (by omega)
    have ih := ok_iff hf hn j
    unfold okJ
    rw [ha, hb, hc, prT_ne hf (by omega)]
    rw [hb, hd] at ih
    have emono : monoAt P (a + 1) = (decide ((P.getD a p0).m ≤ (P.getD (a + 1) p0).m) && decide ((P.getD a p0).g ≤ (P.getD (a + 1) p0).g)) := by
      unfold monoAt
      rw [decide_eq_false (by omega), Bool.false_or, Nat.add_sub_cancel]
    have efol : folN S.gs.length (qOf S P a) (qOf S P (a + 1)) = monoAt P (a + 1) := by
      unfold qOf
      rw [fol_iff pa pb, emono]
    have ech : chTo P (a + 1 + 1) = chTo P (a + 1) + if qOf S P (a + 1) = qOf S P a then 0 else 1 := by
      rw [show chTo P (a + 1 + 1) = chTo P (a + 1) + (if a + 1 = 0 then 0 else if samePk (P.getD (a + 1) p0) (P.getD (a + 1 - 1) p0) then 0 else 1) from rfl, if_neg (by omega), Nat.add_sub_cancel, same_iff pb pa]
      unfold qOf
      simp
    rw [efol, ih left (by omega), ih (left - 1) (by omega), ech]
    by_cases e : qOf S P (a + 1) = qOf S P a
    · rw [if_pos e, if_pos e, Nat.add_zero]
      constructor
      · rintro ⟨k1, k2, k3, k4, k5⟩
        refine ⟨fun i i1 i2 => ?_, fun i i1 i2 => ?_, k5⟩
        · by_cases g : i = a
          · rw [g]; exact k1
          · exact k3 i (by omega) i2
        · by_cases g : i = a + 1
          · rw [g]; exact k2
          · exact k4 i (by omega) i2
      · rintro ⟨k1, k2, k3⟩
        exact ⟨k1 a (by omega) (by omega), k2 (a + 1) (by omega) (by omega), fun i i1 i2 => k1 i (by omega) i2, fun i i1 i2 => k2 i (by omega) i2, k3⟩
    · rw [if_neg e, if_neg e]
      constructor
      · rintro ⟨k1, k2, k0, k3, k4, k5⟩
        refine ⟨fun i i1 i2 => ?_, fun i i1 i2 => ?_, by omega⟩
        · by_cases g : i = a
          · rw [g]; exact k1
          · exact k3 i (by omega) i2
        · by_cases g : i = a + 1
          · rw [g]; exact k2
          · exact k4 i (by omega) i2
      · rintro ⟨k1, k2, k3⟩
        have hm : chTo P (a + 1 + 1) ≤ chTo P P.length := chTo_mono P (by omega)
        rw [ech, if_neg e] at hm
        exact ⟨k1 a (by omega) (by omega), k2 (a + 1) (by omega) (by omega), by omega, fun i i1 i2 => k1 i (by omega) i2, fun i i1 i2 => k2 i (by omega) i2, by omega⟩
where
  chTo_mono (P : List Pk) : ∀ {a b : Nat}, a ≤ b → chTo P a ≤ chTo P b := by
    intro a b h
    induction b with
    | zero => rw [show a = 0 by omega]; exact Nat.le_refl _
    | succ b ih =>
      by_cases e : a = b + 1
      · rw [e]; exact Nat.le_refl _
      · refine Nat.le_trans (ih (by omega)) ?_
        show _ ≤ chTo P b + _
        omega

theorem allowed_iff {S : Scl} {P : List Pk} (hs : sclOk S = true) (hf : fitsB S P = true) : allowedB S P = true ↔ okJ (folN S.gs.length) (prT S) S.cs.length (qOf S P) (S.cs.length - 1) S.ch.toNat := by
  obtain ⟨h1, h2⟩ := fits_parts hf
  obtain ⟨⟨l1, l2⟩, _, _, _, hch⟩ := headOk_lens (headOk_of hs)
  rw [← h1, ok_iff hf (by omega) _ _ (by omega)]
  have e1 : P.length - 1 - (P.length - 1) = 0 := by omega
  have e2 : P.length - (P.length - 1) = 1 := by omega
  rw [e1, e2]
  have e3 : chTo P 1 = 0 := by simp [chTo]
  rw [e3]
  unfold allowedB
  rw [Bool.and_eq_true, allTo_iff, decide_eq_true_eq]
  constructor
  · rintro ⟨k1, k2⟩
    refine ⟨fun i _ hi => ?_, fun i h0 hi => ?_, by omega⟩
    · have := k1 i hi
      unfold okAt at this
      rw [Bool.and_eq_true] at this
      exact this.2
    · have := k1 i hi
      unfold okAt at this
      rw [Bool.and_eq_true] at this
      exact this.1
  · rintro ⟨k1, k2, k3⟩
    refine ⟨fun i hi => ?_, by omega⟩
    unfold okAt
    rw [Bool.and_eq_true]
    refine ⟨?_, k1 i (Nat.zero_le _) hi⟩
    by_cases e : i = 0
    · subst e; rfl
    · exact k2 i (by omega) hi

theorem cost_eq {S : Scl} {P : List Pk} (hf : fitsB S P = true) (hn : 0 < P.length) (hst : ∀ i, i < P.length → strongB S (S.cs.getD i c0) (P.getD i p0) = true) : ∀ j, j < P.length → costJ (prT S) P.length (qOf S P) j + ((costTo S P (P.length - 1 - j) : Nat) : Int) = ((costTo S P P.length : Nat) : Int)
  | 0, hj => by
    unfold costJ
    rw [prT_pk hf (by omega), if_pos (hst _ (by omega)), Nat.sub_zero]
    have e : costTo S P P.length = costTo S P (P.length - 1) + priceN S (S.cs.getD (P.length - 1) c0) (P.getD (P.length - 1) p0) := by
      conv => lhs; rw [show P.length = P.length - 1 + 1 by omega]
      rfl
    rw [e]
    omega
  | j + 1, hj => by
    have ih := cost_eq hf hn hst j (by omega)
    unfold costJ
    rw [prT_pk hf (by omega), if_pos (hst _ (by omega))]
    have e : costTo S P (P.length - 1 - j) = costTo S P (P.length - 1 - (j + 1)) + priceN S (S.cs.getD (P.length - 1 - (j + 1)) c0) (P.getD (P.length - 1 - (j + 1)) p0) := by
      conv => lhs; rw [show P.length - 1 - j = P.length - 1 - (j + 1) + 1 by omega]
      rfl
    rw [e] at ih
    omega

/-- picks of one length: the first ones less -/
def ltPks : List Pk → List Pk → Prop
  | p :: P, q :: Q => (p.m < q.m ∨ (p.m = q.m ∧ p.g < q.g)) ∨ (p = q ∧ ltPks P Q)
  | _, _ => False
theorem lt_lex {S : Scl} {P Q : List Pk} (hP : fitsB S P = true) (hQ : fitsB S Q = true) : ∀ j, j < P.length → ltPks (P.drop (P.length - 1 - j)) (Q.drop (P.length - 1 - j)) → lexJ P.length (qOf S P) (qOf S Q) j := by
  obtain ⟨a1, a2⟩ := fits_parts hP
  obtain ⟨b1, b2⟩ := fits_parts hQ
  intro j
  induction j with
  | zero =>
    intro hj h
    have e1 : P.drop (P.length - 1 - 0) = [P.getD (P.length - 1) p0] := by
      rw [Nat.sub_zero, List.drop_eq_getElem_cons (by omega), List.drop_eq_nil_of_le (by omega)]
      simp [List.getD, List.getElem?_eq_getElem (show P.length - 1 < P.length by omega)]
    have e2 : Q.drop (P.length - 1 - 0) = [Q.getD (P.length - 1) p0] := by
      rw [Nat.sub_zero, List.drop_eq_getElem_cons (by omega), List.drop_eq_nil_of_le (by omega)]
      simp [List.getD, List.getElem?_eq_getElem (show P.length - 1 < Q.length by omega)]
    rw [e1, e2] at h
    unfold ltPks at h
    unfold lexJ qOf
    rw [idx_lt (a2 _ (by omega)) (b2 _ (by omega))]
    rcases h with h | ⟨_, h⟩
    · exact h
    · exact h.elim
  | succ j ih =>
    intro hj h
    have e1 : P.drop (P.length - 1 - (j + 1)) = P.getD (P.length - 1 - (j + 1)) p0 :: P.drop (P.length - 1 - j) := by
      rw [List.drop_eq_getElem_cons (by omega), show P.length - 1 - (j + 1) + 1 = P.length - 1 - j by omega]
      simp [List.getD, List.getElem?_eq_getElem (show P.length - 1 - (j + 1) < P.length by omega)]
    have e2 : Q.drop (P.length - 1 - (j + 1)) = Q.getD (P.length - 1 - (j + 1)) p0 :: Q.drop (P.length - 1 - j) := by
      rw [List.drop_eq_getElem_cons (by omega), show P.length - 1 - (j + 1) + 1 = P.length - 1 - j by omega]
      simp [List.getD, List.getElem?_eq_getElem (show P.length - 1 - (j + 1) < Q.length by omega)]
    rw [e1, e2] at h
    unfold ltPks at h
    unfold lexJ
    have pa := a2 (P.length - 1 - (j + 1)) (by omega)
    have pb := b2 (P.length - 1 - (j + 1)) (by omega)
    rcases h with h | ⟨h, h'⟩
    · left; unfold qOf; rw [idx_lt pa pb]; exact h
    · right; exact ⟨by unfold qOf; rw [h], ih (by omega) h'⟩

theorem bestP_len (S : Scl) : (bestP S).length = S.cs.length := by simp [bestP]
theorem bestP_get {S : Scl} {i : Nat} (hi : i < S.cs.length) : (bestP S).getD i p0 = pkAt S.gs.length (bestQ S i).1 := by simp [bestP, List.getD, hi]
theorem bestP_fits {S : Scl} (hv : (bestV S).1 ≠ -1) : fitsB S (bestP S) = true := by
  refine fits_all (bestP_len S) (fun i hi => ?_)
  rw [bestP_len] at hi
  rw [bestP_get hi]
  exact (idx_pkAt ((best_steps hv).2.1 i hi).1).1
theorem bestP_q {S : Scl} (hv : (bestV S).1 ≠ -1) : ∀ i, i < S.cs.length → qOf S (bestP S) i = (bestQ S i).1 := fun i hi => by
  unfold qOf
  rw [bestP_get hi]
  exact (idx_pkAt ((best_steps hv).2.1 i hi).1).2
theorem allowed_strong {S : Scl} {P : List Pk} (h : allowedB S P = true) : ∀ i, i < P.length → strongB S (S.cs.getD i c0) (P.getD i p0) = true := fun i hi => by
  unfold allowedB at h
  rw [Bool.and_eq_true, allTo_iff] at h
  have := h.1 i hi
  unfold okAt at this
  rw [Bool.and_eq_true] at this
  exact this.2
theorem cost_all {S : Scl} {P : List Pk} (hs : sclOk S = true) (hf : fitsB S P = true) (ha : allowedB S P = true) : costJ (prT S) S.cs.length (qOf S P) (S.cs.length - 1) = ((costTo S P P.length : Nat) : Int) := by
  obtain ⟨h1, h2⟩ := fits_parts hf
  obtain ⟨⟨l1, l2⟩, _⟩ := headOk_lens (headOk_of hs)
  have := cost_eq hf (by omega) (allowed_strong ha) (P.length - 1) (by omega)
  rw [show P.length - 1 - (P.length - 1) = 0 by omega] at this
  rw [← h1]
  simpa [costTo] using this
theorem q_lt {S : Scl} {P : List Pk} (hf : fitsB S P = true) : ∀ i, i < S.cs.length → qOf S P i < S.ms.length * S.gs.length := fun i hi => by
  obtain ⟨h1, h2⟩ := fits_parts hf
  exact (idx_parts (h2 i (by omega))).1

/-- where Best finds nothing, nothing is allowed -/
theorem best_no {S : Scl} (hs : sclOk S = true) (hv : (bestV S).1 = -1) {P : List Pk} (hf : fitsB S P = true) : allowedB S P = false := by
  cases ha : allowedB S P with
  | false => rfl
  | true =>
    obtain ⟨⟨l1, l2⟩, _⟩ := headOk_lens (headOk_of hs)
    have h := (allowed_iff hs hf).1 ha
    have h2 := (rest_le (fun i k => (prT_bd hs i k).1) (q_lt hf) (by omega) _ _ (by omega) h).1
    rw [show S.cs.length - 1 - (S.cs.length - 1) = 0 by omega] at h2
    exact absurd (amin_none hv (qOf S P 0) (q_lt hf 0 (by omega))) h2
/-- what Best finds is allowed, costs what it says, and none is better -/
theorem best_yes {S : Scl} (hs : sclOk S = true) (hv : (bestV S).1 ≠ -1) : allowedB S (bestP S) = true ∧ ((costTo S (bestP S) (bestP S).length : Nat) : Int) = (bestV S).1 ∧
    ∀ P, fitsB S P = true → allowedB S P = true → (bestV S).1 ≤ ((costTo S P P.length : Nat) : Int) ∧ (((costTo S P P.length : Nat) : Int) = (bestV S).1 → ¬ ltPks P (bestP S)) := by
  obtain ⟨⟨l1, l2⟩, _⟩ := headOk_lens (headOk_of hs)
  have hbf := bestP_fits hv
  obtain ⟨s1, s2, s3⟩ := amin_some hv
  have h0 : restJ (folN S.gs.length) (S.ms.length * S.gs.length) (prT S) S.cs.length (S.cs.length - 1) (bestV S).2 S.ch.toNat ≠ -1 := by
    have : bestF S (bestV S).2 = (bestV S).1 := s2
    rw [← this] at hv
    exact hv
  have hval : restJ (folN S.gs.length) (S.ms.length * S.gs.length) (prT S) S.cs.length (S.cs.length - 1) (bestV S).2 S.ch.toNat = (bestV S).1 := s2
  obtain ⟨r1, r2⟩ := road_ok h0 s1 (S.cs.length - 1) (by omega)
  have e0 : S.cs.length - 1 - (S.cs.length - 1) = 0 := by omega
  rw [e0] at r1 r2
  have hq := bestP_q hv
  have hal : allowedB S (bestP S) = true := by
    rw [allowed_iff hs hbf, okJ_congr hq (by omega)]
    exact r1
  have hco : ((costTo S (bestP S) (bestP S).length : Nat) : Int) = (bestV S).1 := by
    rw [← cost_all hs hbf hal, costJ_congr hq (by omega), ← hval]
    exact r2
  refine ⟨hal, hco, fun P hf ha => ?_⟩
  have h := (allowed_iff hs hf).1 ha
  have hr := rest_le (fun i k => (prT_bd hs i k).1) (q_lt hf) (by omega) _ _ (by omega) h
  rw [e0, cost_all hs hf ha] at hr
  have hk := q_lt hf 0 (by omega)
  have hm := s3 (qOf S P 0) hk hr.1
  have hle : (bestV S).1 ≤ ((costTo S P P.length : Nat) : Int) := by
    have : bestF S (qOf S P 0) ≤ ((costTo S P P.length : Nat) : Int) := hr.2
    rcases hm with hm | hm
    · have h1 : (bestV S).1 < bestF S (qOf S P 0) := hm
      omega
    · have h1 : (bestV S).1 = bestF S (qOf S P 0) := hm.1
      omega
  refine ⟨hle, fun he hl => ?_⟩
  obtain ⟨f1, f2⟩ := fits_parts hf
  have hlex := lt_lex hf hbf (P.length - 1) (by omega) (by rw [show P.length - 1 - (P.length - 1) = 0 by omega]; exact hl)
  rw [f1] at hlex
  rw [lexJ_congr (q' := qOf S P) (r' := fun i => (bestQ S i).1) (fun _ _ => rfl) hq (by omega)] at hlex
  have hge : (bestV S).2 ≤ qOf S P 0 := by
    have : bestF S (qOf S P 0) ≤ ((costTo S P P.length : Nat) : Int) := hr.2
    rcases hm with hm | hm
    · have h1 : (bestV S).1 < bestF S (qOf S P 0) := hm
      omega
    · exact hm.2
  have hhead : qOf S P 0 = (bestV S).2 := by
    have h1 : qOf S P 0 ≤ (bestQ S 0).1 := by
      by_cases e : S.cs.length - 1 = 0
      · rw [e] at hlex
        unfold lexJ at hlex
        rw [e] at hlex
        exact Nat.le_of_lt hlex
      · obtain ⟨j, hj⟩ : ∃ j, S.cs.length - 1 = j + 1 := ⟨S.cs.length - 1 - 1, by omega⟩
        rw [hj] at hlex
        unfold lexJ at hlex
        rw [show S.cs.length - 1 - (j + 1) = 0 by omega] at hlex
        rcases hlex with h | ⟨h, _⟩
        · exact Nat.le_of_lt h
        · exact Nat.le_of_eq h
    have h2 : (bestQ S 0).1 = (bestV S).2 := rfl
    omega
  refine road_lex (fun i k => (prT_bd hs i k).1) h0 s1 (q_lt hf) (S.cs.length - 1) (by omega) ?_ ?_ ?_ hlex
  · rw [e0]; exact hhead
  · rw [e0]; exact h
  · rw [e0, cost_all hs hf ha, he]; exact hval.symm

end Go.Proofs
end

