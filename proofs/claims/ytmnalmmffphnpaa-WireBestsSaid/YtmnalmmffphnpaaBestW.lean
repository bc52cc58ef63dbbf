/- wire.Best. -/
import Derived.Test.YtmnalmmffphnpaaBestLook
import Derived.Deep.QuietTactic
import Derived.BigQuiet
open Go.RowKit Go.Deep
namespace Go.Proofs
set_option linter.unusedVariables false
set_option linter.unusedSimpArgs false

/-- what Best computes -/
def bestR (S : Scl) (i : Nat) : Nat → Nat → Int := restJ (folN S.gs.length) (S.ms.length * S.gs.length) (prT S) S.cs.length (S.cs.length - 1 - i)
def bestF (S : Scl) (k : Nat) : Int := bestR S 0 k S.ch.toNat
def bestV (S : Scl) : Int × Nat := amin (bestF S) (S.ms.length * S.gs.length)
def bestQ (S : Scl) (i : Nat) : Nat × Nat := road (folN S.gs.length) (S.ms.length * S.gs.length) (prT S) S.cs.length (bestV S).2 S.ch.toNat i
def pkAt (ng k : Nat) : Pk := ⟨((k / ng : Nat) : Int), ((k % ng : Nat) : Int)⟩
def bestP (S : Scl) : List Pk := (List.range S.cs.length).map fun i => pkAt S.gs.length (bestQ S i).1
def BestRet (w : World) (S : Scl) (e : Ending) (w' : World) : Prop := ∃ v, e = .returned (.tuple #[v, .int .i64 (bestV S).1, .int .i64 0]) ∧ InP w' v (bestP S) ∧ Below w.heap.size w w'

theorem road_left {fol : Nat → Nat → Bool} {K : Nat} {pr : Nat → Nat → Int} {n k0 ch : Nat} : ∀ i, (road fol K pr n k0 ch i).2 ≤ ch
  | 0 => Nat.le_refl _
  | i + 1 => by
    have := road_left (fol := fol) (K := K) (pr := pr) (n := n) (k0 := k0) (ch := ch) i
    rw [road]
    dsimp only
    split <;> omega
theorem prT_bd {S : Scl} (hs : sclOk S = true) (i k : Nat) : -1 ≤ prT S i k ∧ prT S i k ≤ 4000000000000000 := by
  unfold prT
  split
  · rename_i h
    simp only [Bool.and_eq_true, decide_eq_true_eq] at h
    have := priceN_le hs (sclOk_c hs h.1.1) (pk_ok h.1.2)
    omega
  · omega
theorem best_steps {S : Scl} (hv : (bestV S).1 ≠ -1) : bestQ S 0 = ((bestV S).2, S.ch.toNat) ∧ (∀ i, i < S.cs.length → (bestQ S i).1 < S.ms.length * S.gs.length ∧ (bestQ S i).2 ≤ S.ch.toNat) ∧
    ∀ i, i + 1 < S.cs.length → (onw (folN S.gs.length) (S.ms.length * S.gs.length) (bestR S (i + 1)) (bestQ S i).1 (bestQ S i).2).2 = (bestQ S (i + 1)).1 ∧
      (if (bestQ S (i + 1)).1 = (bestQ S i).1 then (bestQ S (i + 1)).2 = (bestQ S i).2 else (bestQ S i).2 ≠ 0 ∧ (bestQ S (i + 1)).2 = (bestQ S i).2 - 1) := by
  obtain ⟨s1, s2, s3⟩ := amin_some hv
  have h0 : restJ (folN S.gs.length) (S.ms.length * S.gs.length) (prT S) S.cs.length (S.cs.length - 1) (bestV S).2 S.ch.toNat ≠ -1 := by
    have : bestF S (bestV S).2 = (bestV S).1 := s2
    rw [← this] at hv
    exact hv
  have hval := fun i hi => road_val (fol := folN S.gs.length) (pr := prT S) (n := S.cs.length) h0 s1 i hi
  refine ⟨rfl, fun i hi => ⟨(hval i hi).2, road_left i⟩, fun i hi => ⟨rfl, ?_⟩⟩
  exact (road_step hi (hval i (by omega)).1).2.2.2.1
theorem map_succ {α : Type} (f : Nat → α) (i : Nat) : (List.range (i + 1)).map f = (List.range i).map f ++ [f i] := by simp [List.range_succ]

/-- what is known of the search once it is filled -/
def BInv (w wr : World) (bx br N M n K L : Nat) (SV VS : List Value) (pv : Value) (PL : List Pk) (R : Nat → Nat → Nat → Int) (RV : List Value) : Prop :=
  Below w.heap.size w wr ∧ Vals wr w.heap.size SV ∧ Vals wr bx VS ∧ PickIn wr (bx + 1) M pv PL ∧ RestP wr (br + 1) N br 0 n K L R RV ∧ w.heap.size < bx ∧ bx < M ∧ M ≤ br ∧ br < N ∧ N ≤ wr.heap.size
theorem BInv.mono {w wr wx : World} {bx br N M n K L : Nat} {SV VS : List Value} {pv : Value} {PL : List Pk} {R : Nat → Nat → Nat → Int} {RV : List Value} (a : BInv w wr bx br N M n K L SV VS pv PL R RV) (hb : Below N wr wx) : BInv w wx bx br N M n K L SV VS pv PL R RV := by
  obtain ⟨a1, a2, a3, a4, a5, a6, a7, a8, a9, a10⟩ := a
  exact ⟨a1.trans (hb.mono (by omega)), a2.below hb (by omega), a3.below hb (by omega), a4.same (Same.of_below hb (by omega)), a5.same (Same.of_below hb (Nat.le_refl _)) (Nat.lt_succ_self _) (by omega), a6, a7, a8, a9, Nat.le_trans a10 hb.size⟩
theorem BInv.drewN {w wr : World} {bx br N M n K L : Nat} {SV VS : List Value} {pv : Value} {PL : List Pk} {R : Nat → Nat → Nat → Int} {RV : List Value} (a : BInv w wr bx br N M n K L SV VS pv PL R RV) (q : Nat) : BInv w (wr.drewN q) bx br N M n K L SV VS pv PL R RV :=
  ⟨below_drewN a.1 q, a.2⟩
theorem BInv.row {w wr : World} {bx br N M n K L : Nat} {SV VS : List Value} {pv : Value} {PL : List Pk} {R : Nat → Nat → Nat → Int} {RV : List Value} (a : BInv w wr bx br N M n K L SV VS pv PL R RV) {i : Nat} (hi : i < n) :
    ∃ b, wr.cell? ⟨br, i, none⟩ = some (.slice (some ⟨b, 0, none⟩) K K) ∧ ∀ k, k < K → ∃ h, wr.cell? ⟨b, k, none⟩ = some (.slice (some ⟨h, 0, none⟩) L L) ∧ ∀ l, l < L → wr.cell? ⟨h, l, none⟩ = some (.int .i64 (R i k l)) := by
  obtain ⟨a1, a2, a3, a4, a5, a6⟩ := a
  obtain ⟨b, e, _, _, hr⟩ := a5.2.2 i (Nat.zero_le _) hi
  refine ⟨b, by rw [a5.1.cell (by rw [a5.2.1]; exact hi), e], fun k hk => ?_⟩
  obtain ⟨g, _, _, g1, g2⟩ := hr k hk
  exact ⟨g, g1, g2⟩

set_option maxRecDepth 100000 in
theorem wbest_bad (S : Scl) (cv mv gv : Value) (w : World) (hS : InS w cv mv gv S) (hI : SclI S) (hs : sclOk S = false) :
    Calls Try.prog 20 #[.agg #[cv, mv, gv, .int .i64 S.sf, .int .i64 S.ch]] w fun e w' => e = .returned (.tuple #[.slice none 0 0, .int .i64 0, .int .i64 1]) ∧ Below w.heap.size w w' := by
  have CK := fun (cv mv gv : Value) (W : World) (h : InS W cv mv gv S) => scheck_calls S cv mv gv W h hI
  rw [hs] at CK
  simp only [Bool.false_eq_true, if_false] at CK
  obtain ⟨⟨adc, cc, rfl, rc⟩, ⟨adm, cm, rfl, rm⟩, ⟨adg, cg, rfl, rg⟩⟩ := hS
  obtain ⟨nc, hnc⟩ : ∃ n, S.cs.length = n := ⟨_, rfl⟩
  obtain ⟨nm, hnm⟩ : ∃ n, S.ms.length = n := ⟨_, rfl⟩
  obtain ⟨ng, hng⟩ : ∃ n, S.gs.length = n := ⟨_, rfl⟩
  have HNC := Lib.hid hnc
  have HNM := Lib.hid hnm
  have HNG := Lib.hid hng
  have HCK := Lib.hid CK
  rw [hnc, hnm, hng]
  clear hnc hnm hng CK hI hs
  have vs := Vals.newL w (w.heap.size) [.slice adc nc cc, .slice adm nm cm, .slice adg ng cg, .int .i64 S.sf, .int .i64 S.ch] 26 rfl
  have bb := below_alloc w (.cells #[.slice adc nc cc, .slice adm nm cm, .slice adg ng cg, .int .i64 S.sf, .int .i64 S.ch] 26)
  have B := bb
  have bb0 := B
  clear bb
  go_enter Try.func20, Try.ntmps20
  go_upto_region 1 with (fail)
  generalize (w.alloc (.cells #[.slice adc nc cc, .slice adm nm cm, .slice adg ng cg, .int .i64 S.sf, .int .i64 S.ch] 26)) = w0 at *
  replace rc := rc.mono bb0
  replace rm := rm.mono bb0
  replace rg := rg.mono bb0
  clear bb0
  have cvs0 := vs.cell (i := 0) (by simp)
  have cvs1 := vs.cell (i := 1) (by simp)
  have cvs2 := vs.cell (i := 2) (by simp)
  have cvs3 := vs.cell (i := 3) (by simp)
  have cvs4 := vs.cell (i := 4) (by simp)
  simp only [List.getD_cons_zero, List.getD_cons_succ] at cvs0 cvs1 cvs2 cvs3 cvs4
  have ltvs := vs.lt
  go_wp2_with fail
  clear cvs0 cvs1 cvs2 cvs3 cvs4 ltvs
  refine (HCK.out _ _ _ _ ⟨⟨adc, cc, by rw [HNC.out], rc⟩, ⟨adm, cm, by rw [HNM.out], rm⟩, ⟨adg, cg, by rw [HNG.out], rg⟩⟩).mono ?_
  rintro e w1 ⟨rfl, b1⟩
  replace vs := vs.mono b1
  replace rc := rc.mono b1
  replace rm := rm.mono b1
  replace rg := rg.mono b1
  replace B := below_trans B b1
  clear b1
  go_wp2
  go_ret3
  exact ⟨rfl, B⟩

set_option maxRecDepth 100000 in
set_option maxHeartbeats 4000000 in
theorem wbest_none (S : Scl) (cv mv gv : Value) (w : World) (hS : InS w cv mv gv S) (hI : SclI S) (hs : sclOk S = true) (hv : (bestV S).1 = -1) :
    Calls Try.prog 20 #[.agg #[cv, mv, gv, .int .i64 S.sf, .int .i64 S.ch]] w fun e w' => e = .returned (.tuple #[.slice none 0 0, .int .i64 0, .int .i64 6]) ∧ Below w.heap.size w w' := by
  have CK := fun (cv mv gv : Value) (W : World) (h : InS W cv mv gv S) => scheck_calls S cv mv gv W h hI
  rw [hs] at CK
  simp only [if_true] at CK
  have LOO := fun (cv mv gv : Value) (W : World) (h : InS W cv mv gv S) => look_calls S cv mv gv W h hs
  obtain ⟨hl96, hl4, hl16, _, hch⟩ := headOk_lens (headOk_of hs)
  obtain ⟨ch, hce⟩ : ∃ c : Nat, S.ch = (c : Int) := ⟨S.ch.toNat, by omega⟩
  have hpb := fun i k => prT_bd hs i k
  obtain ⟨⟨adc, cc, rfl, rc⟩, ⟨adm, cm, rfl, rm⟩, ⟨adg, cg, rfl, rg⟩⟩ := hS
  obtain ⟨nc, hnc⟩ : ∃ n, S.cs.length = n := ⟨_, rfl⟩
  obtain ⟨nm, hnm⟩ : ∃ n, S.ms.length = n := ⟨_, rfl⟩
  obtain ⟨ng, hng⟩ : ∃ n, S.gs.length = n := ⟨_, rfl⟩
  have LC := rc.1
  have LC2 := rc.2.1
  rw [hnc] at LC
  unfold maxLen at LC2
  rw [hnc, hnm, hng, hce]
  obtain ⟨K, hK⟩ : ∃ K, nm * ng = K := ⟨_, rfl⟩
  rw [hnc] at hl96
  rw [hnm] at hl4
  rw [hng] at hl16
  have hk1 := Nat.mul_le_mul hl4.2 hl16.2
  have hk2 := Nat.mul_le_mul hl4.1 hl16.1
  rw [hK] at hk1 hk2
  have HNC := Lib.hid hnc
  have HNM := Lib.hid hnm
  have HNG := Lib.hid hng
  rw [hce] at CK LOO
  have HCK := Lib.hid CK
  have HLOO := Lib.hid LOO
  have hk : 1 ≤ K ∧ K ≤ 64 := by omega
  have hch2 : ch ≤ 96 := by omega
  obtain ⟨L, hL⟩ : ∃ L, ch + 1 = L := ⟨_, rfl⟩
  obtain ⟨R, hR⟩ : ∃ R : Nat → Nat → Nat → Int, (fun i => restJ (folN ng) K (prT S) nc (nc - 1 - i)) = R := ⟨_, rfl⟩
  have hR0 : ∀ k, bestF S k = R 0 k ch := fun k => by rw [← hR]; unfold bestF bestR; rw [hnc, hnm, hng, hK, hce]; rfl
  have hbv : bestV S = amin (fun k => R 0 k ch) K := by unfold bestV; rw [hnm, hng, hK]; congr 1; funext k; exact hR0 k
  have FIL := fun (bx : Nat) (pv tv : Value) (W : World) (vx : Vals W bx [.slice adc nc cc, .slice adm nm cm, .slice adg ng cg, .int .i64 S.sf, .int .i64 (ch : Int), pv, tv, .slice none 0 0]) (hp : PickIn W (bx + 1) W.heap.size pv (allPk nm ng)) (ht : TabIn W (bx + 1) W.heap.size tv nc K (prT S)) =>
    fill_calls bx nc K ng nm ch cc adc (.slice adm nm cm) (.slice adg ng cg) (.int .i64 S.sf) pv tv (prT S) W vx hp ht hK hl96 hk hch2 LC (by omega) hpb
  rw [hR, hL] at FIL
  have HFIL := Lib.hid FIL
  have HR := Lib.hid hR
  have HBV := Lib.hid hbv
  have HK := Lib.hid hK
  have HCE := Lib.hid hce
  have hL1 : L ≤ 97 := by omega
  have hLc : ch < L := by omega
  have HL := Lib.hid hL
  clear hL
  clear CK LOO hch hk1 hk2 hl4 hl16 hI hce hK FIL hR hR0 hbv hnc hnm hng hpb hs
  have vs := Vals.newL w (w.heap.size) [.slice adc nc cc, .slice adm nm cm, .slice adg ng cg, .int .i64 S.sf, .int .i64 (ch : Int)] 26 rfl
  have bb := below_alloc w (.cells #[.slice adc nc cc, .slice adm nm cm, .slice adg ng cg, .int .i64 S.sf, .int .i64 (ch : Int)] 26)
  have B := bb
  have bb0 := B
  clear bb
  go_enter Try.func20, Try.ntmps20
  go_upto_region 1 with (fail)
  generalize (w.alloc (.cells #[.slice adc nc cc, .slice adm nm cm, .slice adg ng cg, .int .i64 S.sf, .int .i64 (ch : Int)] 26)) = w0 at *
  replace rc := rc.mono bb0
  replace rm := rm.mono bb0
  replace rg := rg.mono bb0
  clear bb0
  have cvs0 := vs.cell (i := 0) (by simp)
  have cvs1 := vs.cell (i := 1) (by simp)
  have cvs2 := vs.cell (i := 2) (by simp)
  have cvs3 := vs.cell (i := 3) (by simp)
  have cvs4 := vs.cell (i := 4) (by simp)
  simp only [List.getD_cons_zero, List.getD_cons_succ] at cvs0 cvs1 cvs2 cvs3 cvs4
  have ltvs := vs.lt
  go_wp2_with fail
  clear cvs0 cvs1 cvs2 cvs3 cvs4 ltvs
  refine (HCK.out _ _ _ _ ⟨⟨adc, cc, by rw [HNC.out], rc⟩, ⟨adm, cm, by rw [HNM.out], rm⟩, ⟨adg, cg, by rw [HNG.out], rg⟩⟩).mono ?_
  rintro e w1 ⟨rfl, b1⟩
  replace vs := vs.mono b1
  replace rc := rc.mono b1
  replace rm := rm.mono b1
  replace rg := rg.mono b1
  replace B := below_trans B b1
  clear b1
  clear HCK
  have cvs0 := vs.cell (i := 0) (by simp)
  have cvs1 := vs.cell (i := 1) (by simp)
  have cvs2 := vs.cell (i := 2) (by simp)
  have cvs3 := vs.cell (i := 3) (by simp)
  have cvs4 := vs.cell (i := 4) (by simp)
  simp only [List.getD_cons_zero, List.getD_cons_succ] at cvs0 cvs1 cvs2 cvs3 cvs4
  have ltvs := vs.lt
  go_wp2_with fail
  clear cvs0 cvs1 cvs2 cvs3 cvs4 ltvs
  refine (HLOO.out _ _ _ _ ⟨⟨adc, cc, by rw [HNC.out], rc⟩, ⟨adm, cm, by rw [HNM.out], rm⟩, ⟨adg, cg, by rw [HNG.out], rg⟩⟩).mono ?_
  rintro e w2 ⟨bx, pv, tv, rfl, hbx, vx, hp, ht, b2⟩
  rw [HNM.out, HNG.out] at hp ht
  rw [HNC.out, HK.out] at ht
  rw [HCE.out] at vx
  have hws := vs.lt
  replace vs := vs.mono b2
  replace B := below_trans B b2
  have hM := vx.lt
  clear b2 HLOO rc rm rg
  go_wp2_with fail
  refine (HFIL.out bx pv tv _ vx hp ht).mono ?_
  rintro e w3 ⟨rfl, br, RV, hbr, hbr2, vx3, hR3, ho⟩
  have hp3 := hp.same (ho.same _ _ (Nat.lt_succ_self _) (Nat.le_refl _))
  obtain ⟨pb, po, pc, rfl, hpc⟩ := hp
  clear hpc
  rw [allPk_len, HK.out] at hp3 vx3
  simp only [List.cons_append, List.nil_append] at vx3
  have vs3 : Vals w3 w.heap.size [.slice adc nc cc, .slice adm nm cm, .slice adg ng cg, .int .i64 S.sf, .int .i64 (ch : Int)] := by
    obtain ⟨te, h⟩ := vs
    exact ⟨te, (ho.block _ (lt_of_block h) (by omega)).trans h⟩
  have B3 := below_only B ho (by omega) B.size
  have BI : BInv w w3 bx br w3.heap.size w2.heap.size nc K L [.slice adc nc cc, .slice adm nm cm, .slice adg ng cg, .int .i64 S.sf, .int .i64 (ch : Int)] [.slice adc nc cc, .slice adm nm cm, .slice adg ng cg, .int .i64 S.sf, .int .i64 (ch : Int), .slice (some ⟨pb, po, none⟩) K pc, tv, .slice (some ⟨br, 0, none⟩) nc nc] (.slice (some ⟨pb, po, none⟩) K pc) (allPk nm ng) R RV :=
    ⟨B3, vs3, vx3, hp3, hR3, by omega, hM, hbr, hbr2, Nat.le_refl _⟩
  obtain ⟨M, hMe⟩ : ∃ M, w2.heap.size = M := ⟨_, rfl⟩
  rw [hMe] at BI
  obtain ⟨N, hNe⟩ : ∃ M, w3.heap.size = M := ⟨_, rfl⟩
  rw [hNe] at BI
  clear B3 vs3 vx3 hp3 hR3 vs vx ht B ho hbr hbr2 HFIL hMe hNe hM
  obtain ⟨f, hf⟩ : ∃ f : Nat → Int, (fun k => R 0 k ch) = f := ⟨_, rfl⟩
  have HFV := Lib.hid (show ∀ k, f k = R 0 k ch from fun k => by rw [← hf])
  have hbv := HBV.out
  rw [hf] at hbv
  have HBV2 := Lib.hid hbv
  clear hf hbv HBV
  have c5 := (xcells BI.2.2.1).2.2.1
  go_wp2_with fail
  clear c5
  go_loopw [30, 7, 8] (fun kv av bv wr => ∃ k : Nat, kv = .int .i64 (k : Int) ∧ k ≤ K ∧ av = .int .i64 (amin f k).1 ∧ bv = .int .i64 ((amin f k).2 : Int) ∧ BInv w wr bx br N M nc K L [.slice adc nc cc, .slice adm nm cm, .slice adg ng cg, .int .i64 S.sf, .int .i64 (ch : Int)] [.slice adc nc cc, .slice adm nm cm, .slice adg ng cg, .int .i64 S.sf, .int .i64 (ch : Int), .slice (some ⟨pb, po, none⟩) K pc, tv, .slice (some ⟨br, 0, none⟩) nc nc] (.slice (some ⟨pb, po, none⟩) K pc) (allPk nm ng) R RV)
    (fun kv _ _ _ => K - (intOf kv).toNat)
  case atStart => exact ⟨0, rfl, Nat.zero_le _, rfl, rfl, BI⟩
  case round =>
    clear BI
    obtain ⟨k, rfl, hkk, rfl, rfl, BI⟩ := hrel
    obtain ⟨lv, hlv⟩ : ∃ v, (amin f k).1 = v := ⟨_, rfl⟩
    obtain ⟨wv, hwv⟩ : ∃ v, (amin f k).2 = v := ⟨_, rfl⟩
    rw [hlv, hwv]
    have HLV := Lib.hid hlv
    have HWV := Lib.hid hwv
    clear hlv hwv
    by_cases hkl : k < K
    · have k1 : (0 : Int) ≤ (k : Int) := by omega
      have k2 : (k : Int) < (K : Int) := by omega
      have k3 : (0 : Int) ≤ (ch : Int) := by omega
      have k4 : (ch : Int) < (L : Int) := by omega
      have k5 : (0 : Int) < (nc : Int) := by omega
      have k6 : 0 < nc := by omega
      obtain ⟨b0, r0, rk⟩ := BI.row (i := 0) k6
      obtain ⟨h, c1, c2⟩ := rk k hkl
      have cv := c2 ch (by omega)
      have c7 := (xcells BI.2.2.1).2.2.2.2
      have cs4 := BI.2.1.cell (i := 4) (by simp)
      simp only [List.getD_cons_zero, List.getD_cons_succ] at cs4
      have lts := BI.2.1.lt
      obtain ⟨c, hcv⟩ : ∃ c, R 0 k ch = c := ⟨_, rfl⟩
      rw [hcv] at cv
      have HF := Lib.hid (show f k = c by rw [HFV.out]; exact hcv)
      have HBI := Lib.hid BI
      clear hcv c2 rk BI
      go_upto_region 10 with (fail)
      go_quiet (fail)
      have BI := HBI.out.drewN nq
      clear r0 c1 cv c7 cs4 lts HBI
      by_cases q1 : c = -1
      · have HN := Lib.hid (show amin f (k + 1) = amin f k by rw [amin, if_neg (by rw [HF.out]; exact fun h => h.1 q1)])
        have g1 : (c == -1) = true := by rw [beq_iff_eq]; exact q1
        have g2 : (c != -1) = false := by rw [q1]; rfl
        clear q1
        go_wp2
        go_roundw
        case rel => exact ⟨k + 1, by go_num, by omega, by rw [HN.out]; first | done | rw [HLV.out], by rw [HN.out]; first | done | rw [HWV.out], BI⟩
        case measure => simp [intOf]; omega
      have g1 : (c == -1) = false := by rw [beq_eq_false_iff_ne]; exact q1
      have g2 : (c != -1) = true := by rw [bne_iff_ne]; exact q1
      by_cases q2 : lv = -1
      · have HN := Lib.hid (show amin f (k + 1) = (c, k) by rw [amin, HF.out, if_pos ⟨q1, .inl (by rw [HLV.out]; exact q2)⟩])
        have g3 : (lv == -1) = true := by rw [beq_iff_eq]; exact q2
        clear q1 q2
        go_wp2
        go_roundw
        case rel => exact ⟨k + 1, by go_num, by omega, by rw [HN.out]; first | done | rw [HLV.out], by rw [HN.out]; first | done | rw [HWV.out], BI⟩
        case measure => simp [intOf]; omega
      have g3 : (lv == -1) = false := by rw [beq_eq_false_iff_ne]; exact q2
      by_cases q3 : c < lv
      · have HN := Lib.hid (show amin f (k + 1) = (c, k) by rw [amin, HF.out, if_pos ⟨q1, .inr (by rw [HLV.out]; exact q3)⟩])
        clear q1 q2
        go_wp2
        go_roundw
        case rel => exact ⟨k + 1, by go_num, by omega, by rw [HN.out]; first | done | rw [HLV.out], by rw [HN.out]; first | done | rw [HWV.out], BI⟩
        case measure => simp [intOf]; omega
      · have HN := Lib.hid (show amin f (k + 1) = amin f k by rw [amin, if_neg (by rw [HF.out, HLV.out]; exact fun h => h.2.elim q2 q3)])
        have g4 : decide (c < lv) = false := decide_eq_false q3
        clear q1 q2
        go_wp2
        go_roundw
        case rel => exact ⟨k + 1, by go_num, by omega, by rw [HN.out]; first | done | rw [HLV.out], by rw [HN.out]; first | done | rw [HWV.out], BI⟩
        case measure => simp [intOf]; omega
    · obtain rfl : K = k := by omega
      have hv2 := hv
      rw [HBV2.out, HLV.out] at hv2
      subst hv2
      clear hv
      go_wp2
      go_ret3
      exact ⟨rfl, BI.1⟩

theorem pick_cells {w : World} {lo hi pb po K pc nm ng k : Nat} (h : PickIn w lo hi (.slice (some ⟨pb, po, none⟩) K pc) (allPk nm ng)) (hk : k < nm * ng) : w.cell? ⟨pb, po + k * 2, none⟩ = some (.int .i64 ((k / ng : Nat) : Int)) ∧ w.cell? ⟨pb, po + k * 2 + 1, none⟩ = some (.int .i64 ((k % ng : Nat) : Int)) := by
  obtain ⟨b, q, c, e, _, _, _, _, h⟩ := h
  cases e
  have := h k (by rw [allPk_len]; exact hk)
  rw [allPk_get hk] at this
  exact this
set_option maxRecDepth 100000 in
set_option maxHeartbeats 4000000 in
theorem wbest_ok (S : Scl) (cv mv gv : Value) (w : World) (hS : InS w cv mv gv S) (hI : SclI S) (hs : sclOk S = true) (hv : (bestV S).1 ≠ -1) :
    Calls Try.prog 20 #[.agg #[cv, mv, gv, .int .i64 S.sf, .int .i64 S.ch]] w (BestRet w S) := by
  have CK := fun (cv mv gv : Value) (W : World) (h : InS W cv mv gv S) => scheck_calls S cv mv gv W h hI
  rw [hs] at CK
  simp only [if_true] at CK
  have LOO := fun (cv mv gv : Value) (W : World) (h : InS W cv mv gv S) => look_calls S cv mv gv W h hs
  obtain ⟨hl96, hl4, hl16, _, hch⟩ := headOk_lens (headOk_of hs)
  obtain ⟨ch, hce⟩ : ∃ c : Nat, S.ch = (c : Int) := ⟨S.ch.toNat, by omega⟩
  have hpb := fun i k => prT_bd hs i k
  have ST := best_steps hv
  obtain ⟨rd, hrd⟩ : ∃ r, bestQ S = r := ⟨_, rfl⟩
  obtain ⟨⟨adc, cc, rfl, rc⟩, ⟨adm, cm, rfl, rm⟩, ⟨adg, cg, rfl, rg⟩⟩ := hS
  obtain ⟨nc, hnc⟩ : ∃ n, S.cs.length = n := ⟨_, rfl⟩
  obtain ⟨nm, hnm⟩ : ∃ n, S.ms.length = n := ⟨_, rfl⟩
  obtain ⟨ng, hng⟩ : ∃ n, S.gs.length = n := ⟨_, rfl⟩
  have LC := rc.1
  have LC2 := rc.2.1
  rw [hnc] at LC
  unfold maxLen at LC2
  rw [hnc, hnm, hng, hce]
  obtain ⟨K, hK⟩ : ∃ K, nm * ng = K := ⟨_, rfl⟩
  rw [hnc] at hl96
  rw [hnm] at hl4
  rw [hng] at hl16
  have hk1 := Nat.mul_le_mul hl4.2 hl16.2
  have hk2 := Nat.mul_le_mul hl4.1 hl16.1
  rw [hK] at hk1 hk2
  have hbR : ∀ i, bestR S i = restJ (folN ng) K (prT S) nc (nc - 1 - i) := fun i => by unfold bestR; rw [hnc, hnm, hng, hK]
  have hbp : bestP S = (List.range nc).map (fun i => pkAt ng (rd i).1) := by unfold bestP; rw [hnc, hng, hrd]
  rw [hnc, hnm, hng, hK, hrd] at ST
  simp only [hbR] at ST
  have hct : S.ch.toNat = ch := by omega
  rw [hct] at ST
  have HBP := Lib.hid hbp
  clear hbR hbp hct hrd
  have HNC := Lib.hid hnc
  have HNM := Lib.hid hnm
  have HNG := Lib.hid hng
  rw [hce] at CK LOO
  have HCK := Lib.hid CK
  have HLOO := Lib.hid LOO
  have hk : 1 ≤ K ∧ K ≤ 64 := by omega
  have hch2 : ch ≤ 96 := by omega
  obtain ⟨L, hL⟩ : ∃ L, ch + 1 = L := ⟨_, rfl⟩
  obtain ⟨R, hR⟩ : ∃ R : Nat → Nat → Nat → Int, (fun i => restJ (folN ng) K (prT S) nc (nc - 1 - i)) = R := ⟨_, rfl⟩
  have hR0 : ∀ k, bestF S k = R 0 k ch := fun k => by rw [← hR]; unfold bestF bestR; rw [hnc, hnm, hng, hK, hce]; rfl
  have hbv : bestV S = amin (fun k => R 0 k ch) K := by unfold bestV; rw [hnm, hng, hK]; congr 1; funext k; exact hR0 k
  have FIL := fun (bx : Nat) (pv tv : Value) (W : World) (vx : Vals W bx [.slice adc nc cc, .slice adm nm cm, .slice adg ng cg, .int .i64 S.sf, .int .i64 (ch : Int), pv, tv, .slice none 0 0]) (hp : PickIn W (bx + 1) W.heap.size pv (allPk nm ng)) (ht : TabIn W (bx + 1) W.heap.size tv nc K (prT S)) =>
    fill_calls bx nc K ng nm ch cc adc (.slice adm nm cm) (.slice adg ng cg) (.int .i64 S.sf) pv tv (prT S) W vx hp ht hK hl96 hk hch2 LC (by omega) hpb
  rw [hR, hL] at FIL
  have HFIL := Lib.hid FIL
  have ST2 : rd 0 = ((bestV S).2, ch) ∧ (∀ i, i < nc → (rd i).1 < K ∧ (rd i).2 ≤ ch) ∧ ∀ i, i + 1 < nc → (onw (folN ng) K (R (i + 1)) (rd i).1 (rd i).2).2 = (rd (i + 1)).1 ∧
      (if (rd (i + 1)).1 = (rd i).1 then (rd (i + 1)).2 = (rd i).2 else (rd i).2 ≠ 0 ∧ (rd (i + 1)).2 = (rd i).2 - 1) := by rw [← hR]; exact ST
  have HST := Lib.hid ST2
  clear ST ST2
  have HR := Lib.hid hR
  have HBV := Lib.hid hbv
  have HK := Lib.hid hK
  have HCE := Lib.hid hce
  have hL1 : L ≤ 97 := by omega
  have hLc : ch < L := by omega
  have HL := Lib.hid hL
  clear hL
  clear CK LOO hch hk1 hk2 hl4 hl16 hI hce hK FIL hR hR0 hbv hnc hnm hng hpb hs
  have vs := Vals.newL w (w.heap.size) [.slice adc nc cc, .slice adm nm cm, .slice adg ng cg, .int .i64 S.sf, .int .i64 (ch : Int)] 26 rfl
  have bb := below_alloc w (.cells #[.slice adc nc cc, .slice adm nm cm, .slice adg ng cg, .int .i64 S.sf, .int .i64 (ch : Int)] 26)
  have B := bb
  have bb0 := B
  clear bb
  go_enter Try.func20, Try.ntmps20
  go_upto_region 1 with (fail)
  generalize (w.alloc (.cells #[.slice adc nc cc, .slice adm nm cm, .slice adg ng cg, .int .i64 S.sf, .int .i64 (ch : Int)] 26)) = w0 at *
  replace rc := rc.mono bb0
  replace rm := rm.mono bb0
  replace rg := rg.mono bb0
  clear bb0
  have cvs0 := vs.cell (i := 0) (by simp)
  have cvs1 := vs.cell (i := 1) (by simp)
  have cvs2 := vs.cell (i := 2) (by simp)
  have cvs3 := vs.cell (i := 3) (by simp)
  have cvs4 := vs.cell (i := 4) (by simp)
  simp only [List.getD_cons_zero, List.getD_cons_succ] at cvs0 cvs1 cvs2 cvs3 cvs4
  have ltvs := vs.lt
  go_wp2_with fail
  clear cvs0 cvs1 cvs2 cvs3 cvs4 ltvs
  refine (HCK.out _ _ _ _ ⟨⟨adc, cc, by rw [HNC.out], rc⟩, ⟨adm, cm, by rw [HNM.out], rm⟩, ⟨adg, cg, by rw [HNG.out], rg⟩⟩).mono ?_
  rintro e w1 ⟨rfl, b1⟩
  replace vs := vs.mono b1
  replace rc := rc.mono b1
  replace rm := rm.mono b1
  replace rg := rg.mono b1
  replace B := below_trans B b1
  clear b1
  clear HCK
  have cvs0 := vs.cell (i := 0) (by simp)
  have cvs1 := vs.cell (i := 1) (by simp)
  have cvs2 := vs.cell (i := 2) (by simp)
  have cvs3 := vs.cell (i := 3) (by simp)
  have cvs4 := vs.cell (i := 4) (by simp)
  simp only [List.getD_cons_zero, List.getD_cons_succ] at cvs0 cvs1 cvs2 cvs3 cvs4
  have ltvs := vs.lt
  go_wp2_with fail
  clear cvs0 cvs1 cvs2 cvs3 cvs4 ltvs
  refine (HLOO.out _ _ _ _ ⟨⟨adc, cc, by rw [HNC.out], rc⟩, ⟨adm, cm, by rw [HNM.out], rm⟩, ⟨adg, cg, by rw [HNG.out], rg⟩⟩).mono ?_
  rintro e w2 ⟨bx, pv, tv, rfl, hbx, vx, hp, ht, b2⟩
  rw [HNM.out, HNG.out] at hp ht
  rw [HNC.out, HK.out] at ht
  rw [HCE.out] at vx
  have hws := vs.lt
  replace vs := vs.mono b2
  replace B := below_trans B b2
  have hM := vx.lt
  clear b2 HLOO rc rm rg
  go_wp2_with fail
  refine (HFIL.out bx pv tv _ vx hp ht).mono ?_
  rintro e w3 ⟨rfl, br, RV, hbr, hbr2, vx3, hR3, ho⟩
  have hp3 := hp.same (ho.same _ _ (Nat.lt_succ_self _) (Nat.le_refl _))
  obtain ⟨pb, po, pc, rfl, hpc⟩ := hp
  clear hpc
  rw [allPk_len, HK.out] at hp3 vx3
  simp only [List.cons_append, List.nil_append] at vx3
  have vs3 : Vals w3 w.heap.size [.slice adc nc cc, .slice adm nm cm, .slice adg ng cg, .int .i64 S.sf, .int .i64 (ch : Int)] := by
    obtain ⟨te, h⟩ := vs
    exact ⟨te, (ho.block _ (lt_of_block h) (by omega)).trans h⟩
  have B3 := below_only B ho (by omega) B.size
  have BI : BInv w w3 bx br w3.heap.size w2.heap.size nc K L [.slice adc nc cc, .slice adm nm cm, .slice adg ng cg, .int .i64 S.sf, .int .i64 (ch : Int)] [.slice adc nc cc, .slice adm nm cm, .slice adg ng cg, .int .i64 S.sf, .int .i64 (ch : Int), .slice (some ⟨pb, po, none⟩) K pc, tv, .slice (some ⟨br, 0, none⟩) nc nc] (.slice (some ⟨pb, po, none⟩) K pc) (allPk nm ng) R RV :=
    ⟨B3, vs3, vx3, hp3, hR3, by omega, hM, hbr, hbr2, Nat.le_refl _⟩
  obtain ⟨M, hMe⟩ : ∃ M, w2.heap.size = M := ⟨_, rfl⟩
  rw [hMe] at BI
  obtain ⟨N, hNe⟩ : ∃ M, w3.heap.size = M := ⟨_, rfl⟩
  rw [hNe] at BI
  clear B3 vs3 vx3 hp3 hR3 vs vx ht B ho hbr hbr2 HFIL hMe hNe hM
  obtain ⟨f, hf⟩ : ∃ f : Nat → Int, (fun k => R 0 k ch) = f := ⟨_, rfl⟩
  have HFV := Lib.hid (show ∀ k, f k = R 0 k ch from fun k => by rw [← hf])
  have hbv := HBV.out
  rw [hf] at hbv
  have HBV2 := Lib.hid hbv
  clear hf hbv HBV
  have c5 := (xcells BI.2.2.1).2.2.1
  go_wp2_with fail
  clear c5
  go_loopw [30, 7, 8] (fun kv av bv wr => ∃ k : Nat, kv = .int .i64 (k : Int) ∧ k ≤ K ∧ av = .int .i64 (amin f k).1 ∧ bv = .int .i64 ((amin f k).2 : Int) ∧ BInv w wr bx br N M nc K L [.slice adc nc cc, .slice adm nm cm, .slice adg ng cg, .int .i64 S.sf, .int .i64 (ch : Int)] [.slice adc nc cc, .slice adm nm cm, .slice adg ng cg, .int .i64 S.sf, .int .i64 (ch : Int), .slice (some ⟨pb, po, none⟩) K pc, tv, .slice (some ⟨br, 0, none⟩) nc nc] (.slice (some ⟨pb, po, none⟩) K pc) (allPk nm ng) R RV)
    (fun kv _ _ _ => K - (intOf kv).toNat)
  case atStart => exact ⟨0, rfl, Nat.zero_le _, rfl, rfl, BI⟩
  case round =>
    clear BI
    obtain ⟨k, rfl, hkk, rfl, rfl, BI⟩ := hrel
    obtain ⟨lv, hlv⟩ : ∃ v, (amin f k).1 = v := ⟨_, rfl⟩
    obtain ⟨wv, hwv⟩ : ∃ v, (amin f k).2 = v := ⟨_, rfl⟩
    rw [hlv, hwv]
    have HLV := Lib.hid hlv
    have HWV := Lib.hid hwv
    clear hlv hwv
    by_cases hkl : k < K
    · have k1 : (0 : Int) ≤ (k : Int) := by omega
      have k2 : (k : Int) < (K : Int) := by omega
      have k3 : (0 : Int) ≤ (ch : Int) := by omega
      have k4 : (ch : Int) < (L : Int) := by omega
      have k5 : (0 : Int) < (nc : Int) := by omega
      have k6 : 0 < nc := by omega
      obtain ⟨b0, r0, rk⟩ := BI.row (i := 0) k6
      obtain ⟨h, c1, c2⟩ := rk k hkl
      have cv := c2 ch (by omega)
      have c7 := (xcells BI.2.2.1).2.2.2.2
      have cs4 := BI.2.1.cell (i := 4) (by simp)
      simp only [List.getD_cons_zero, List.getD_cons_succ] at cs4
      have lts := BI.2.1.lt
      obtain ⟨c, hcv⟩ : ∃ c, R 0 k ch = c := ⟨_, rfl⟩
      rw [hcv] at cv
      have HF := Lib.hid (show f k = c by rw [HFV.out]; exact hcv)
      have HBI := Lib.hid BI
      clear hcv c2 rk BI
      go_upto_region 10 with (fail)
      go_quiet (fail)
      have BI := HBI.out.drewN nq
      clear r0 c1 cv c7 cs4 lts HBI
      by_cases q1 : c = -1
      · have HN := Lib.hid (show amin f (k + 1) = amin f k by rw [amin, if_neg (by rw [HF.out]; exact fun h => h.1 q1)])
        have g1 : (c == -1) = true := by rw [beq_iff_eq]; exact q1
        have g2 : (c != -1) = false := by rw [q1]; rfl
        clear q1
        go_wp2
        go_roundw
        case rel => exact ⟨k + 1, by go_num, by omega, by rw [HN.out]; first | done | rw [HLV.out], by rw [HN.out]; first | done | rw [HWV.out], BI⟩
        case measure => simp [intOf]; omega
      have g1 : (c == -1) = false := by rw [beq_eq_false_iff_ne]; exact q1
      have g2 : (c != -1) = true := by rw [bne_iff_ne]; exact q1
      by_cases q2 : lv = -1
      · have HN := Lib.hid (show amin f (k + 1) = (c, k) by rw [amin, HF.out, if_pos ⟨q1, .inl (by rw [HLV.out]; exact q2)⟩])
        have g3 : (lv == -1) = true := by rw [beq_iff_eq]; exact q2
        clear q1 q2
        go_wp2
        go_roundw
        case rel => exact ⟨k + 1, by go_num, by omega, by rw [HN.out]; first | done | rw [HLV.out], by rw [HN.out]; first | done | rw [HWV.out], BI⟩
        case measure => simp [intOf]; omega
      have g3 : (lv == -1) = false := by rw [beq_eq_false_iff_ne]; exact q2
      by_cases q3 : c < lv
      · have HN := Lib.hid (show amin f (k + 1) = (c, k) by rw [amin, HF.out, if_pos ⟨q1, .inr (by rw [HLV.out]; exact q3)⟩])
        clear q1 q2
        go_wp2
        go_roundw
        case rel => exact ⟨k + 1, by go_num, by omega, by rw [HN.out]; first | done | rw [HLV.out], by rw [HN.out]; first | done | rw [HWV.out], BI⟩
        case measure => simp [intOf]; omega
      · have HN := Lib.hid (show amin f (k + 1) = amin f k by rw [amin, if_neg (by rw [HF.out, HLV.out]; exact fun h => h.2.elim q2 q3)])
        have g4 : decide (c < lv) = false := decide_eq_false q3
        clear q1 q2
        go_wp2
        go_roundw
        case rel => exact ⟨k + 1, by go_num, by omega, by rw [HN.out]; first | done | rw [HLV.out], by rw [HN.out]; first | done | rw [HWV.out], BI⟩
        case measure => simp [intOf]; omega
    · obtain rfl : K = k := by omega
      have wvn : wv = (rd 0).1 := by rw [HST.out.1, HBV2.out]; exact HWV.out.symm
      have chn : ch = (rd 0).2 := by rw [HST.out.1]
      have hlv : (lv == -1) = false := by
        rw [beq_eq_false_iff_ne]
        intro e
        apply hv
        rw [HBV2.out, HLV.out]
        exact e
      have hlb := HLV.out
      rw [← HBV2.out] at hlb
      have HLB := Lib.hid hlb
      clear hlb hv HWV HLV
      have r0 := HST.out.2.1 0 (by omega)
      rw [← wvn, ← chn] at r0
      have q1 : (0 : Int) ≤ (wv : Int) := by omega
      have q2 : (wv : Int) < (K : Int) := by omega
      have hcp := pick_cells BI.2.2.2.1 (k := wv) (by rw [HK.out]; exact r0.1)
      obtain ⟨cp0, cp1⟩ := hcp
      have c5 := (xcells BI.2.2.1).2.2.1
      have cs4 := BI.2.1.cell (i := 4) (by simp)
      simp only [List.getD_cons_zero, List.getD_cons_succ] at cs4
      have lts := BI.2.1.lt
      have WVN := Lib.hid wvn
      have CHN := Lib.hid chn
      clear wvn chn r0
      obtain ⟨ka, hka⟩ : ∃ a, ((wv / ng : Nat) : Int) = a := ⟨_, rfl⟩
      obtain ⟨kb, hkb⟩ : ∃ a, ((wv % ng : Nat) : Int) = a := ⟨_, rfl⟩
      rw [hka] at cp0
      rw [hkb] at cp1
      have HKA := Lib.hid (show pkAt ng wv = ⟨ka, kb⟩ by unfold pkAt; rw [hka, hkb])
      clear hka hkb
      go_upto_region 17 with (fail)
      have bb := below_alloc wr (.cells #[.int .i64 ka, .int .i64 kb] 52)
      have ow := ownsRow_base (ownsRow_lit wr 52 2 1 [.int .i64 ka, .int .i64 kb] #[.int .i64 ka, .int .i64 kb] rfl rfl (by unfold maxLen; omega)) BI.2.2.2.2.2.2.2.2.2
      replace BI := BI.mono (bb.mono BI.2.2.2.2.2.2.2.2.2)
      replace cs4 := (bb.cell (cell_lt cs4)).trans cs4
      replace lts := Nat.lt_of_lt_of_le lts bb.size
      clear bb cp0 cp1 c5
      generalize wr.alloc (.cells #[.int .i64 ka, .int .i64 kb] 52) = W4 at *
      generalize wr.heap.size = bo at *
      go_wp2_with fail
      clear cs4 lts
      go_loopw [13, 8, 12, 11] (fun iv pv lv2 ov wr => ∃ j : Nat, iv = .int .i64 ((j : Int) + 1) ∧ j < nc ∧ pv = .int .i64 ((rd j).1 : Int) ∧ lv2 = .int .i64 ((rd j).2 : Int) ∧ (∃ ad c, ov = .slice ad (j + 1) c ∧ wr.ownsRow N 52 2 (.slice ad (j + 1) c) (j + 1) (flat pcl ((List.range (j + 1)).map fun i => pkAt ng (rd i).1))) ∧ BInv w wr bx br N M nc K L [.slice adc nc cc, .slice adm nm cm, .slice adg ng cg, .int .i64 S.sf, .int .i64 (ch : Int)] [.slice adc nc cc, .slice adm nm cm, .slice adg ng cg, .int .i64 S.sf, .int .i64 (ch : Int), .slice (some ⟨pb, po, none⟩) K pc, tv, .slice (some ⟨br, 0, none⟩) nc nc] (.slice (some ⟨pb, po, none⟩) K pc) (allPk nm ng) R RV)
        (fun iv _ _ _ _ => nc - (intOf iv).toNat)
      case atStart => exact ⟨0, rfl, by omega, by rw [WVN.out], by rw [← CHN.out], ⟨_, _, rfl, by rw [map_succ, flat_append, ← WVN.out, HKA.out]; exact ow⟩, BI⟩
      case round =>
        clear BI ow
        obtain ⟨j, rfl, hj, rfl, rfl, ⟨ad, c, rfl, ow⟩, BI⟩ := hrel
        have cs0 := BI.2.1.cell (i := 0) (by simp)
        simp only [List.getD_cons_zero, List.getD_cons_succ] at cs0
        have lts := BI.2.1.lt
        obtain ⟨a, ha⟩ : ∃ a, (rd j).1 = a := ⟨_, rfl⟩
        obtain ⟨b, hb⟩ : ∃ a, (rd j).2 = a := ⟨_, rfl⟩
        have rb := HST.out.2.1 j hj
        rw [ha, hb] at rb
        rw [ha, hb]
        by_cases hlt : j + 1 < nc
        · have st := HST.out.2.2 j hlt
          have rb2 := (HST.out.2.1 (j + 1) hlt).1
          obtain ⟨a2, ha2⟩ : ∃ a, (rd (j + 1)).1 = a := ⟨_, rfl⟩
          obtain ⟨b2, hb2⟩ : ∃ a, (rd (j + 1)).2 = a := ⟨_, rfl⟩
          rw [ha, hb, ha2, hb2] at st
          rw [ha2] at rb2
          obtain ⟨b1, hr1, hr2⟩ := BI.row hlt
          have c5 := (xcells BI.2.2.1).2.2.1
          have c7 := (xcells BI.2.2.1).2.2.2.2
          have ON := onward_calls bx pb po pc br b1 nc K L ng j a b [] (R (j + 1)) wr c5 c7 hr1 hr2
            (fun k hk => pick_cells BI.2.2.2.1 (by rw [HK.out]; exact hk)) hlt (by omega) (by omega) (by omega) rb.1 (by omega)
          obtain ⟨mo, hmo⟩ : ∃ m, (onw (folN ng) K (R (j + 1)) a b).1 = m := ⟨_, rfl⟩
          rw [hmo, st.1] at ON
          have HON := Lib.hid ON
          have HST2 := Lib.hid st.2
          have HA2 := Lib.hid ha2
          have HB2 := Lib.hid hb2
          have hlt2 : (j : Int) + 1 < (nc : Int) := by omega
          clear ON st hmo hr1 hr2 c5 c7 ha hb ha2 hb2
          go_wp2_with fail
          clear cs0 lts
          refine (HON.out).mono ?_
          rintro e z1 ⟨rfl, b5⟩
          replace ow := ownsRow_mono ow b5
          replace BI := BI.mono (b5.mono BI.2.2.2.2.2.2.2.2.2)
          clear b5 HON
          have q1 : (0 : Int) ≤ (a2 : Int) := by omega
          have q2 : (a2 : Int) < (K : Int) := by omega
          obtain ⟨cp0, cp1⟩ := pick_cells BI.2.2.2.1 (k := a2) (by rw [HK.out]; exact rb2)
          obtain ⟨kc, hkc⟩ : ∃ a, ((a2 / ng : Nat) : Int) = a := ⟨_, rfl⟩
          obtain ⟨kd, hkd⟩ : ∃ a, ((a2 % ng : Nat) : Int) = a := ⟨_, rfl⟩
          rw [hkc] at cp0
          rw [hkd] at cp1
          have HKC := Lib.hid (show pkAt ng (rd (j + 1)).1 = ⟨kc, kd⟩ by rw [HA2.out]; unfold pkAt; rw [hkc, hkd])
          have c5 := (xcells BI.2.2.1).2.2.1
          have bb := below_alloc z1 (.cells #[.int .i64 kc, .int .i64 kd] 52)
          clear hkc hkd
          by_cases hto : a2 = a
          · have g0 : ((a2 : Int) != (a : Int)) = false := by rw [hto]; simp
            have hb2 := HST2.out
            rw [if_pos hto] at hb2
            have HBB := Lib.hid hb2
            clear hto hb2
            go_wp2_with (at_builtin; refine wpList_append_rv rfl (.tmp 94) (.tmp 102) _ rfl N 52 _ 2 16 Try.underlying27 info_pick rfl (by decide) _ (j + 1) _ rfl (ownsRow_mono ow bb) _ 1 1 [.int .i64 kc, .int .i64 kd] rfl (Vals.rd (Vals.newL z1 z1.heap.size [.int .i64 kc, .int .i64 kd] 52 rfl) 1 2 rfl 1 (by omega) (by unfold maxLen; omega)) (pcl_one ⟨kc, kd⟩) (by unfold maxLen; omega) (by omega) (Nat.le_trans BI.2.2.2.2.2.2.2.2.2 bb.size) (j + 1 + 1) rfl (flat pcl ((List.range (j + 1 + 1)).map fun i => pkAt ng (rd i).1)) (by rw [map_succ _ (j + 1), flat_append, HKC.out]; rfl) ?_; intro ad3 c3 w3 hown3 hg3 hn3 hb3 hk3)
            have BI3 := (BI.mono (bb.mono BI.2.2.2.2.2.2.2.2.2)).mono hb3
            clear BI ow bb hg3 hn3 hb3 hk3 cp0 cp1 c5
            go_wp2
            go_roundw
            case rel => exact ⟨j + 1, by go_num, hlt, by rw [HA2.out], by rw [HB2.out, HBB.out], ⟨ad3, c3, rfl, hown3⟩, BI3⟩
            case measure => simp [intOf]; omega
          · have g0 : ((a2 : Int) != (a : Int)) = true := by rw [bne_iff_ne]; omega
            have hb2 := HST2.out
            rw [if_neg hto] at hb2
            have hb3 : (b : Int) - 1 = (b2 : Int) := by omega
            have HBB := Lib.hid hb3
            have hb4 : 1 ≤ (b : Int) := by omega
            clear hto hb2 hb3
            go_wp2_with (at_builtin; refine wpList_append_rv rfl (.tmp 94) (.tmp 102) _ rfl N 52 _ 2 16 Try.underlying27 info_pick rfl (by decide) _ (j + 1) _ rfl (ownsRow_mono ow bb) _ 1 1 [.int .i64 kc, .int .i64 kd] rfl (Vals.rd (Vals.newL z1 z1.heap.size [.int .i64 kc, .int .i64 kd] 52 rfl) 1 2 rfl 1 (by omega) (by unfold maxLen; omega)) (pcl_one ⟨kc, kd⟩) (by unfold maxLen; omega) (by omega) (Nat.le_trans BI.2.2.2.2.2.2.2.2.2 bb.size) (j + 1 + 1) rfl (flat pcl ((List.range (j + 1 + 1)).map fun i => pkAt ng (rd i).1)) (by rw [map_succ _ (j + 1), flat_append, HKC.out]; rfl) ?_; intro ad3 c3 w3 hown3 hg3 hn3 hb3 hk3)
            have BI3 := (BI.mono (bb.mono BI.2.2.2.2.2.2.2.2.2)).mono hb3
            clear BI ow bb hg3 hn3 hb3 hk3 cp0 cp1 c5
            go_wp2
            go_roundw
            case rel => exact ⟨j + 1, by go_num, hlt, by rw [HA2.out], by rw [HB2.out, HBB.out], ⟨ad3, c3, rfl, hown3⟩, BI3⟩
            case measure => simp [intOf]; omega
        · obtain rfl : nc = j + 1 := by omega
          obtain ⟨r1, _⟩ := ownsRow_rds ow
          have r2 := r1.rdp
          have HR2 := Lib.hid r2
          have hnl : ¬ ((j : Int) + 1 < ((j + 1 : Nat) : Int)) := by omega
          clear r1 r2 ow
          go_wp2
          go_ret3
          exact ⟨_, by rw [HLB.out]; rfl, ⟨ad, c, by rw [HBP.out]; simp, by rw [HBP.out]; exact HR2.out⟩, BI.1⟩

end Go.Proofs
