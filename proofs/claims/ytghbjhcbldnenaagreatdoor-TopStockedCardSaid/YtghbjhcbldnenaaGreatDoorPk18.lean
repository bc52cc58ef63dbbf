/- wire.Needs. wire.Needs, and of what type the block is that it returns. -/
import Derived.Test.YtghbjhcbldnenaaGreatDoorPk15
import Derived.Test.YtghbjhcbldnenaaGreatDoorPk17
import Derived.Test.YtghbjhcbldnenaaGreatDoorPk12
import Derived.Deep.RegionHeld3
import Derived.Deep.Cut
import Derived.Test.YtghbjhcbldnenaaGreatDoorPk09

section
open Go.RowKit Go.Deep
namespace Go.Proofs
set_option linter.unusedVariables false
set_option linter.unusedSimpArgs false

theorem run_eql_pk (a b c d : Int) (w : World) : (binOp .eql 73 (.agg #[.int .i64 a, .int .i64 b]) (.agg #[.int .i64 c, .int .i64 d])).run Tryz.prog w = .ok (.bool (decide (a = c) && decide (b = d))) w := by
  rw [run_eql_struct, show (10000 : Nat) = 9999 + 1 from rfl, run_equalIn_agg w 9999 73 _ _ (by kernel_rfl) (by kernel_rfl)]
  by_cases h1 : a = c
  · subst h1
    by_cases h2 : b = d
    · subst h2; go_simp
    · go_simp
  · go_simp

set_option maxRecDepth 100000 in
theorem wneeds_bad (S : Scl) (P : List Pk) (tail : Int) (cv mv gv pv : Value) (w : World) (hS : InS w cv mv gv S) (hP : InP w pv P) (hI : SclI S) (htz : zI tail) (hb : sclOk S = true → ¬ (0 ≤ tail ∧ tail ≤ 100000)) :
    Calls Tryz.prog 8 #[.agg #[cv, mv, gv, .int .i64 S.sf, .int .i64 S.ch], pv, .int .i64 tail] w fun e w' => e = .returned (.tuple #[.slice none 0 0, .int .i64 1]) ∧ Below w.heap.size w w' := by
  have CK := fun (cv mv gv : Value) (W : World) (h : InS W cv mv gv S) => scheck_calls S cv mv gv W h hI
  obtain ⟨k, hk⟩ : ∃ k : Int, (if sclOk S then 0 else 1) = k := ⟨_, rfl⟩
  rw [hk] at CK
  have hbad : (k != 0) = true ∨ ((k != 0) = false ∧ (tail < 0 ∨ 100000 < tail)) := by
    cases hs : sclOk S with
    | false => left; rw [← hk, hs]; rfl
    | true =>
      right
      refine ⟨by rw [← hk, hs]; rfl, ?_⟩
      have := hb hs
      omega
  clear hb hk
  obtain ⟨⟨adc, cc, rfl, rc⟩, ⟨adm, cm, rfl, rm⟩, ⟨adg, cg, rfl, rg⟩⟩ := hS
  obtain ⟨adp, cp, rfl, rp⟩ := hP
  obtain ⟨nc, hnc⟩ : ∃ n, S.cs.length = n := ⟨_, rfl⟩
  obtain ⟨nm, hnm⟩ : ∃ n, S.ms.length = n := ⟨_, rfl⟩
  obtain ⟨ng, hng⟩ : ∃ n, S.gs.length = n := ⟨_, rfl⟩
  obtain ⟨np, hnp⟩ : ∃ n, P.length = n := ⟨_, rfl⟩
  rw [hnc, hnm, hng, hnp]
  have HNC := Lib.hid hnc
  have HNM := Lib.hid hnm
  have HNG := Lib.hid hng
  have HNP := Lib.hid hnp
  have HCK := Lib.hid CK
  clear CK hnc hnm hng hnp
  have vs := Vals.newL w (w.heap.size) [.slice adc nc cc, .slice adm nm cm, .slice adg ng cg, .int .i64 S.sf, .int .i64 S.ch] 26 rfl
  have bb := below_alloc w (.cells #[.slice adc nc cc, .slice adm nm cm, .slice adg ng cg, .int .i64 S.sf, .int .i64 S.ch] 26)
  have B := bb
  clear bb
  go_enter Tryz.func8, Tryz.ntmps8
  go_upto_region 1 with (fail)
  generalize (w.alloc (.cells #[.slice adc nc cc, .slice adm nm cm, .slice adg ng cg, .int .i64 S.sf, .int .i64 S.ch] 26)) = w0 at *
  replace rc := rc.mono B
  replace rm := rm.mono B
  replace rg := rg.mono B
  replace rp := rp.mono B
  have cvs0 := vs.cell (i := 0) (by simp)
  have cvs1 := vs.cell (i := 1) (by simp)
  have cvs2 := vs.cell (i := 2) (by simp)
  have cvs3 := vs.cell (i := 3) (by simp)
  have cvs4 := vs.cell (i := 4) (by simp)
  simp only [List.getD_cons_zero, List.getD_cons_succ] at cvs0 cvs1 cvs2 cvs3 cvs4
  have ltvs := vs.lt
  go_wp2_with fail
  clear cvs0 cvs1 cvs2 cvs3 cvs4 ltvs
  refine (HCK.out _ _ _ _ ⟨⟨adc, cc, by rw [HNC.out], rc⟩, ⟨adm, cm, by rw [HNM.out], rm⟩, ⟨adg, cg, by rw [HNG.out], rg⟩⟩).mono ?_
  rintro e w1 ⟨rfl, b1⟩
  replace vs := vs.mono b1
  replace rc := rc.mono b1
  replace rm := rm.mono b1
  replace rg := rg.mono b1
  replace rp := rp.mono b1
  replace B := below_trans B b1
  clear b1
  rcases hbad with h1 | ⟨h1, h2 | h2⟩
  · go_wp2
    go_ret2
    exact ⟨rfl, B⟩
  · go_wp2
    go_ret2
    exact ⟨rfl, B⟩
  · have h3 : ¬ (tail < 0) := by omega
    go_wp2
    go_ret2
    exact ⟨rfl, B⟩

set_option maxRecDepth 100000 in
theorem wneeds_form (S : Scl) (P : List Pk) (tail : Int) (cv mv gv pv : Value) (w : World) (hS : InS w cv mv gv S) (hP : InP w pv P) (hI : SclI S) (hPI : PksI P) (hs : sclOk S = true) (ht : 0 ≤ tail ∧ tail ≤ 100000) (hf : fitsB S P = false) :
    Calls Tryz.prog 8 #[.agg #[cv, mv, gv, .int .i64 S.sf, .int .i64 S.ch], pv, .int .i64 tail] w fun e w' => e = .returned (.tuple #[.slice none 0 0, .int .i64 2]) ∧ Below w.heap.size w w' := by
  have CK := fun (cv mv gv : Value) (W : World) (h : InS W cv mv gv S) => scheck_calls S cv mv gv W h hI
  rw [hs] at CK
  have FT := fun (cv mv gv pv : Value) (W : World) (h : InS W cv mv gv S) (hp : InP W pv P) => fits_calls S P cv mv gv pv W h hI hp hPI
  unfold fitsCode at FT
  rw [hs, hf] at FT
  simp only [Bool.false_eq_true, if_true, if_false] at CK FT
  have t1 : ¬ (tail < 0) := by omega
  have t2 : ¬ (100000 < tail) := by omega
  clear hs hf
  obtain ⟨⟨adc, cc, rfl, rc⟩, ⟨adm, cm, rfl, rm⟩, ⟨adg, cg, rfl, rg⟩⟩ := hS
  obtain ⟨adp, cp, rfl, rp⟩ := hP
  obtain ⟨nc, hnc⟩ : ∃ n, S.cs.length = n := ⟨_, rfl⟩
  obtain ⟨nm, hnm⟩ : ∃ n, S.ms.length = n := ⟨_, rfl⟩
  obtain ⟨ng, hng⟩ : ∃ n, S.gs.length = n := ⟨_, rfl⟩
  obtain ⟨np, hnp⟩ : ∃ n, P.length = n := ⟨_, rfl⟩
  rw [hnc, hnm, hng, hnp]
  have HNC := Lib.hid hnc
  have HNM := Lib.hid hnm
  have HNG := Lib.hid hng
  have HNP := Lib.hid hnp
  have HCK := Lib.hid CK
  have HFT := Lib.hid FT
  clear CK FT hnc hnm hng hnp
  have vs := Vals.newL w (w.heap.size) [.slice adc nc cc, .slice adm nm cm, .slice adg ng cg, .int .i64 S.sf, .int .i64 S.ch] 26 rfl
  have bb := below_alloc w (.cells #[.slice adc nc cc, .slice adm nm cm, .slice adg ng cg, .int .i64 S.sf, .int .i64 S.ch] 26)
  have B := bb
  clear bb
  go_enter Tryz.func8, Tryz.ntmps8
  go_upto_region 1 with (fail)
  generalize (w.alloc (.cells #[.slice adc nc cc, .slice adm nm cm, .slice adg ng cg, .int .i64 S.sf, .int .i64 S.ch] 26)) = w0 at *
  replace rc := rc.mono B
  replace rm := rm.mono B
  replace rg := rg.mono B
  replace rp := rp.mono B
  have cvs0 := vs.cell (i := 0) (by simp)
  have cvs1 := vs.cell (i := 1) (by simp)
  have cvs2 := vs.cell (i := 2) (by simp)
  have cvs3 := vs.cell (i := 3) (by simp)
  have cvs4 := vs.cell (i := 4) (by simp)
  simp only [List.getD_cons_zero, List.getD_cons_succ] at cvs0 cvs1 cvs2 cvs3 cvs4
  have ltvs := vs.lt
  go_wp2_with fail
  clear cvs0 cvs1 cvs2 cvs3 cvs4 ltvs
  refine (HCK.out _ _ _ _ ⟨⟨adc, cc, by rw [HNC.out], rc⟩, ⟨adm, cm, by rw [HNM.out], rm⟩, ⟨adg, cg, by rw [HNG.out], rg⟩⟩).mono ?_
  rintro e w1 ⟨rfl, b1⟩
  replace vs := vs.mono b1
  replace rc := rc.mono b1
  replace rm := rm.mono b1
  replace rg := rg.mono b1
  replace rp := rp.mono b1
  replace B := below_trans B b1
  clear b1
  have cvs0 := vs.cell (i := 0) (by simp)
  have cvs1 := vs.cell (i := 1) (by simp)
  have cvs2 := vs.cell (i := 2) (by simp)
  have cvs3 := vs.cell (i := 3) (by simp)
  have cvs4 := vs.cell (i := 4) (by simp)
  simp only [List.getD_cons_zero, List.getD_cons_succ] at cvs0 cvs1 cvs2 cvs3 cvs4
  have ltvs := vs.lt
  go_wp2_with fail
  clear cvs0 cvs1 cvs2 cvs3 cvs4 ltvs
  refine (HFT.out _ _ _ _ _ ⟨⟨adc, cc, by rw [HNC.out], rc⟩, ⟨adm, cm, by rw [HNM.out], rm⟩, ⟨adg, cg, by rw [HNG.out], rg⟩⟩ ⟨adp, cp, by rw [HNP.out], rp⟩).mono ?_
  rintro e w2 ⟨rfl, b2⟩
  replace vs := vs.mono b2
  replace rc := rc.mono b2
  replace rm := rm.mono b2
  replace rg := rg.mono b2
  replace rp := rp.mono b2
  replace B := below_trans B b2
  clear b2
  go_wp2
  go_ret2
  exact ⟨rfl, B⟩

set_option maxRecDepth 100000 in
set_option maxHeartbeats 4000000 in
theorem wneeds_ok (S : Scl) (P : List Pk) (tail : Int) (cv mv gv pv : Value) (w : World) (hS : InS w cv mv gv S) (hP : InP w pv P) (hI : SclI S) (hPI : PksI P) (hs : sclOk S = true) (ht : 0 ≤ tail ∧ tail ≤ 100000) (hf : fitsB S P = true) (htb : Tab w) :
    Calls Tryz.prog 8 #[.agg #[cv, mv, gv, .int .i64 S.sf, .int .i64 S.ch], pv, .int .i64 tail] w fun e w' => ∃ v, e = .returned (.tuple #[v, .int .i64 0]) ∧ InL w' v (needs S P tail (S.ms.length * S.gs.length)) ∧ Below w.heap.size w w' := by
  obtain ⟨hl96, hl4, hl16, _, hch⟩ := headOk_lens (headOk_of hs)
  have LO := fun (cv mv gv : Value) (W : World) (h : InS W cv mv gv S) => look_calls S cv mv gv W h hs
  have SB := fun (p : Pk) (i : Nat) (hi : i ≤ S.cs.length) => sumN_bd hs (P := P) ht p i hi
  have SC := fun (i : Nat) (hi : i < S.cs.length) => (crs_facts (sclOk_c hs hi)).1
  have hpl := (fits_parts hf).1
  have CK := fun (cv mv gv : Value) (W : World) (h : InS W cv mv gv S) => scheck_calls S cv mv gv W h hI
  rw [hs] at CK
  have FT := fun (cv mv gv pv : Value) (W : World) (h : InS W cv mv gv S) (hp : InP W pv P) => fits_calls S P cv mv gv pv W h hI hp hPI
  unfold fitsCode at FT
  rw [hs, hf] at FT
  simp only [Bool.false_eq_true, if_true, if_false] at CK FT
  have t1 : ¬ (tail < 0) := by omega
  have t2 : ¬ (100000 < tail) := by omega
  have hg1 := hl16.1
  have hk1 := Nat.mul_le_mul hl4.2 hl16.2
  have hk2 := Nat.mul_le_mul hl4.1 hl16.1
  obtain ⟨K, hK⟩ : ∃ K, S.ms.length * S.gs.length = K := ⟨_, rfl⟩
  rw [hK] at hk1 hk2 ⊢
  have HK := Lib.hid hK
  have hnpl := hpl
  clear hK hf
  obtain ⟨⟨adc, cc, rfl, rc⟩, ⟨adm, cm, rfl, rm⟩, ⟨adg, cg, rfl, rg⟩⟩ := hS
  obtain ⟨adp, cp, rfl, rp⟩ := hP
  obtain ⟨nc, hnc⟩ : ∃ n, S.cs.length = n := ⟨_, rfl⟩
  obtain ⟨nm, hnm⟩ : ∃ n, S.ms.length = n := ⟨_, rfl⟩
  obtain ⟨ng, hng⟩ : ∃ n, S.gs.length = n := ⟨_, rfl⟩
  obtain ⟨np, hnp⟩ : ∃ n, P.length = n := ⟨_, rfl⟩
  rw [hnc, hnm, hng, hnp]
  have HNC := Lib.hid hnc
  have HNM := Lib.hid hnm
  have HNG := Lib.hid hng
  have HNP := Lib.hid hnp
  have HCK := Lib.hid CK
  have HFT := Lib.hid FT
  have HLO := Lib.hid LO
  have HSB := Lib.hid SB
  have HSC := Lib.hid SC
  have Hhpl := Lib.hid hpl
  have Hhnpl := Lib.hid hnpl
  have HhI := Lib.hid hI
  have Hhs := Lib.hid hs
  clear CK FT LO SB SC hpl hnpl hI hs hnc hnm hng hnp
  have vs := Vals.newL w (w.heap.size) [.slice adc nc cc, .slice adm nm cm, .slice adg ng cg, .int .i64 S.sf, .int .i64 S.ch] 26 rfl
  have bb := below_alloc w (.cells #[.slice adc nc cc, .slice adm nm cm, .slice adg ng cg, .int .i64 S.sf, .int .i64 S.ch] 26)
  have B := bb
  clear bb
  go_enter Tryz.func8, Tryz.ntmps8
  go_upto_region 1 with (fail)
  generalize (w.alloc (.cells #[.slice adc nc cc, .slice adm nm cm, .slice adg ng cg, .int .i64 S.sf, .int .i64 S.ch] 26)) = w0 at *
  replace rc := rc.mono B
  replace rm := rm.mono B
  replace rg := rg.mono B
  replace rp := rp.mono B
  have cvs0 := vs.cell (i := 0) (by simp)
  have cvs1 := vs.cell (i := 1) (by simp)
  have cvs2 := vs.cell (i := 2) (by simp)
  have cvs3 := vs.cell (i := 3) (by simp)
  have cvs4 := vs.cell (i := 4) (by simp)
  simp only [List.getD_cons_zero, List.getD_cons_succ] at cvs0 cvs1 cvs2 cvs3 cvs4
  have ltvs := vs.lt
  go_wp2_with fail
  clear cvs0 cvs1 cvs2 cvs3 cvs4 ltvs
  refine (HCK.out _ _ _ _ ⟨⟨adc, cc, by rw [HNC.out], rc⟩, ⟨adm, cm, by rw [HNM.out], rm⟩, ⟨adg, cg, by rw [HNG.out], rg⟩⟩).mono ?_
  rintro e w1 ⟨rfl, b1⟩
  replace vs := vs.mono b1
  replace rc := rc.mono b1
  replace rm := rm.mono b1
  replace rg := rg.mono b1
  replace rp := rp.mono b1
  replace B := below_trans B b1
  clear b1
  replace htb := htb.mono B
  have cvs0 := vs.cell (i := 0) (by simp)
  have cvs1 := vs.cell (i := 1) (by simp)
  have cvs2 := vs.cell (i := 2) (by simp)
  have cvs3 := vs.cell (i := 3) (by simp)
  have cvs4 := vs.cell (i := 4) (by simp)
  simp only [List.getD_cons_zero, List.getD_cons_succ] at cvs0 cvs1 cvs2 cvs3 cvs4
  have ltvs := vs.lt
  go_wp2_with fail
  clear cvs0 cvs1 cvs2 cvs3 cvs4 ltvs
  refine (HFT.out _ _ _ _ _ ⟨⟨adc, cc, by rw [HNC.out], rc⟩, ⟨adm, cm, by rw [HNM.out], rm⟩, ⟨adg, cg, by rw [HNG.out], rg⟩⟩ ⟨adp, cp, by rw [HNP.out], rp⟩).mono ?_
  rintro e w2 ⟨rfl, b2⟩
  replace vs := vs.mono b2
  replace rc := rc.mono b2
  replace rm := rm.mono b2
  replace rg := rg.mono b2
  replace rp := rp.mono b2
  replace htb := htb.mono b2
  replace B := below_trans B b2
  clear b2
  have cvs0 := vs.cell (i := 0) (by simp)
  have cvs1 := vs.cell (i := 1) (by simp)
  have cvs2 := vs.cell (i := 2) (by simp)
  have cvs3 := vs.cell (i := 3) (by simp)
  have cvs4 := vs.cell (i := 4) (by simp)
  simp only [List.getD_cons_zero, List.getD_cons_succ] at cvs0 cvs1 cvs2 cvs3 cvs4
  have ltvs := vs.lt
  go_wp2_with fail
  clear cvs0 cvs1 cvs2 cvs3 cvs4 ltvs
  refine (HLO.out _ _ _ _ ⟨⟨adc, cc, by rw [HNC.out], rc⟩, ⟨adm, cm, by rw [HNM.out], rm⟩, ⟨adg, cg, by rw [HNG.out], rg⟩⟩).mono ?_
  rintro e wl ⟨bx, pv, tv, rfl, hbx, vx, hp, htt, b2⟩
  replace vs := vs.mono b2
  replace rc := rc.mono b2
  replace rm := rm.mono b2
  replace rg := rg.mono b2
  replace rp := rp.mono b2
  replace htb := htb.mono b2
  replace B := below_trans B b2
  obtain ⟨pb, po, pc, rfl, hp1, hp2, hp3, hp4, hpc⟩ := hp
  rw [allPk_len, HK.out] at hp3 hpc
  rw [allPk_len, HK.out] at vx
  have hpk : ∀ k, k < K → wl.cell? ⟨pb, po + k * 2, none⟩ = some (.int .i64 ((k / S.gs.length : Nat) : Int)) ∧ wl.cell? ⟨pb, po + k * 2 + 1, none⟩ = some (.int .i64 ((k % S.gs.length : Nat) : Int)) := fun k hk => by
    have h := hpc k hk
    rw [allPk_get (by rw [HK.out]; exact hk)] at h
    exact h
  have HPK := Lib.hid hpk
  have c5 := (xcells vx).2.2.1
  have lx := vx.lt
  clear hpc htt b2 HLO HCK HFT hpk hp1 hp2 hp4
  go_wp2
  go_loopw [39, 9] (fun kv ov wr => ∃ k : Nat, kv = .int .i64 (k : Int) ∧ k ≤ K ∧ (∃ ad c, ov = .slice ad (needs S P tail k).length c) ∧ wr.ownsRow wl.heap.size 45 3 ov (needs S P tail k).length (flat lcl (needs S P tail k)) ∧ Below wl.heap.size wl wr)
    (fun kv _ _ => K - (intOf kv).toNat)
  case atStart => exact ⟨0, rfl, Nat.zero_le _, ⟨_, _, rfl⟩, ownsRow_nil _ _ _ _, Below.refl _ _⟩
  case round =>
    clear c5
    obtain ⟨k, rfl, hk, ⟨ad, c, rfl⟩, hown, BW⟩ := hrel
    obtain ⟨nl, hnl⟩ : ∃ n, (needs S P tail k).length = n := ⟨_, rfl⟩
    have hnl2 := needs_len S P tail k
    rw [hnl] at hown hnl2 ⊢
    have HNL := Lib.hid hnl
    clear hnl
    by_cases hlt : k < K
    · have k1 : (0 : Int) ≤ (k : Int) := by omega
      have k2 : (k : Int) < (K : Int) := by omega
      obtain ⟨cA, cB⟩ := HPK.out k hlt
      obtain ⟨a, ha⟩ : ∃ a, k / S.gs.length = a := ⟨_, rfl⟩
      obtain ⟨b, hb⟩ : ∃ b, k % S.gs.length = b := ⟨_, rfl⟩
      have hbl : b < S.gs.length := by rw [← hb]; exact Nat.mod_lt _ hg1
      rw [ha] at cA
      rw [hb] at cB
      have HA := Lib.hid ha
      have HB := Lib.hid hb
      clear ha hb
      obtain ⟨p, hp⟩ : ∃ p : Pk, (⟨(a : Int), (b : Int)⟩ : Pk) = p := ⟨_, rfl⟩
      have pm : (a : Int) = p.m := by rw [← hp]
      have pg : (b : Int) = p.g := by rw [← hp]
      rw [pm] at cA
      rw [pg] at cB
      have HP := Lib.hid hp
      have PM := Lib.hid pm
      have PG := Lib.hid pg
      clear hp pm pg
      replace cA := (BW.cell (cell_lt cA)).trans cA
      replace cB := (BW.cell (cell_lt cB)).trans cB
      go_upto_region 10 with (fail)
      have vb := Vals.newL wr wr.heap.size [.int .i64 p.m, .int .i64 p.g] 73 rfl
      have BW1 := below_trans BW (below_alloc wr (.cells #[.int .i64 p.m, .int .i64 p.g] 73))
      have hown1 := ownsRow_mono hown (below_alloc wr (.cells #[.int .i64 p.m, .int .i64 p.g] 73))
      clear cA cB hown BW
      generalize wr.alloc (.cells #[.int .i64 p.m, .int .i64 p.g] 73) = W1 at *
      generalize wr.heap.size = bp at *
      have HS0 := Lib.hid (show sumN S P tail p 0 = 0 from rfl)
      have lvb := vb.lt
      go_wp2
      go_loopw [45, 12] (fun iv sv wr => ∃ i : Nat, iv = .int .i64 (i : Int) ∧ i ≤ np ∧ sv = .int .i64 (sumN S P tail p i) ∧ Below W1.heap.size W1 wr)
        (fun iv _ _ => np - (intOf iv).toNat)
      case atStart => exact ⟨0, rfl, Nat.zero_le _, by rw [HS0.out], Below.refl _ _⟩
      case round =>
        obtain ⟨i, rfl, hi, rfl, BI⟩ := hrel
        have BX := BW1.trans (BI.mono BW1.size)
        have vbx := vb.mono BI
        have vsx := vs.mono BX
        obtain ⟨s, hs⟩ : ∃ s, sumN S P tail p i = s := ⟨_, rfl⟩
        have hsb := HSB.out p i (by rw [← Hhpl.out, HNP.out]; exact hi)
        rw [hs] at hsb ⊢
        have HSS := Lib.hid hs
        clear hs
        have ci0 := vbx.cell (i := 0) (by simp)
        have ci1 := vbx.cell (i := 1) (by simp)
        have cs0 := vsx.cell (i := 0) (by simp)
        have cs2 := vsx.cell (i := 2) (by simp)
        simp only [List.getD_cons_zero, List.getD_cons_succ] at ci0 ci1 cs0 cs2
        have lvx := vbx.lt
        have lsx := vsx.lt
        by_cases hil : i < np
        · have i1 : (0 : Int) ≤ (i : Int) := by omega
          have i2 : (i : Int) < (np : Int) := by omega
          have hip : i < P.length := by rw [HNP.out]; exact hil
          have hic : i < S.cs.length := by rw [← Hhpl.out]; exact hip
          have i3 : (i : Int) < (nc : Int) := by have := HNC.out; omega
          obtain ⟨bq, oq, rfl, q1, q2⟩ := (rp.mono BX).at hip
          obtain ⟨bc, oc, rfl, y0, y1, y2, y3⟩ := (rc.mono BX).at hic
          have hcl := HSC.out i hic
          obtain ⟨X, hX⟩ : ∃ X, P.getD i p0 = X := ⟨_, rfl⟩
          obtain ⟨C, hC⟩ : ∃ X, S.cs.getD i c0 = X := ⟨_, rfl⟩
          rw [hX] at q1 q2
          rw [hC] at y0 y1 y2 y3 hcl
          clear y1 y2 y3
          have lbc : bc < wr.heap.size := cell_lt y0
          have rn := run_eql_pk p.m p.g X.m X.g
          by_cases e : p.m = X.m ∧ p.g = X.g
          · have HN := Lib.hid (show sumN S P tail p (i + 1) = s + (C.l + tail) by rw [sumN, if_pos (by rw [hX]; exact e), HSS.out, hC])
            have hn : (decide (p.m = X.m) && decide (p.g = X.g)) = true := by rw [decide_eq_true e.1, decide_eq_true e.2]; rfl
            rw [hn] at rn
            clear hn e hX hC
            go_wp2
            (try simp only [rn]); (try go_wp2)
            go_roundw
            case rel => exact ⟨i + 1, by go_num, by omega, by rw [HN.out], below_trans BI (below_alloc _ _)⟩
            case measure => simp [intOf]; omega
          · have HN := Lib.hid (show sumN S P tail p (i + 1) = s by rw [sumN, if_neg (by rw [hX]; exact e), HSS.out])
            have hn : (decide (p.m = X.m) && decide (p.g = X.g)) = false := by
              rw [Bool.and_eq_false_iff, decide_eq_false_iff_not, decide_eq_false_iff_not]
              by_cases e1 : p.m = X.m
              · exact .inr fun e2 => e ⟨e1, e2⟩
              · exact .inl e1
            rw [hn] at rn
            clear hn e hX hC
            go_wp2
            (try simp only [rn]); (try go_wp2)
            go_roundw
            case rel => exact ⟨i + 1, by go_num, by omega, by rw [HN.out], below_trans BI (below_alloc _ _)⟩
            case measure => simp [intOf]; omega
        · have hinp : i = np := by omega
          have hq : s = (lotK S P tail k).q := by
            unfold lotK pkK
            dsimp only
            rw [HA.out, HB.out, HP.out, HNP.out, ← hinp, HSS.out]
          have HQ := Lib.hid hq
          have HINP := Lib.hid hinp
          clear hq hinp
          by_cases h0 : 0 < s
          · obtain ⟨G, hG⟩ : ∃ G, S.gs.getD b 0 = G := ⟨_, rfl⟩
            obtain ⟨bg, og, rfl, cg0⟩ := (rg.mono BX).at hbl
            have cgb := cg0 b hbl
            have hGz : zI G := by
              rw [← hG, List.getD_eq_getElem?_getD, List.getElem?_eq_getElem hbl]
              exact HhI.out.gs _ (List.getElem_mem hbl)
            rw [hG] at cgb
            have hak : a ≤ k := HA.out ▸ Nat.div_le_self _ _
            have haz : zI p.m := by rw [← PM.out]; unfold zI; omega
            have b1 : (0 : Int) ≤ p.g := by rw [← PG.out]; omega
            have b2 : p.g < (ng : Int) := by rw [← PG.out]; have := HNG.out; omega
            have b3 : p.g.toNat = b := by rw [← PG.out]; rfl
            obtain ⟨ja, hja⟩ : ∃ j, itB p.m = j := ⟨_, rfl⟩
            obtain ⟨jb, hjb⟩ : ∃ j, itB G = j := ⟨_, rfl⟩
            have za := itB_size _ haz
            have zb := itB_size _ hGz
            have I1 := fun (W : World) (h : Tab W) => itoa_calls p.m W haz h
            have I2 := fun (W : World) (h : Tab W) => itoa_calls G W hGz h
            rw [hja] at za I1
            rw [hjb] at zb I2
            have d1 : ¬ (1 + ja.size > 9223372036854775807) := by omega
            have d2 : ¬ (1 + ja.size + 1 > 9223372036854775807) := by omega
            have d3 : ¬ (1 + ja.size + 1 + jb.size > 9223372036854775807) := by omega
            have HND := Lib.hid (show needs S P tail (k + 1) = needs S P tail k ++ [⟨mB ++ ja ++ gB ++ jb, s⟩] by
              rw [needs, if_pos (by rw [← HQ.out]; exact h0)]
              congr 1
              rw [show lotK S P tail k = ⟨itemB ((k / S.gs.length : Nat) : Int) (S.gs.getD (k % S.gs.length) 0), (lotK S P tail k).q⟩ from rfl, ← HQ.out, HA.out, HB.out, hG]
              unfold itemB
              rw [PM.out, hja, hjb])
            have HI1 := Lib.hid I1
            have HI2 := Lib.hid I2
            have HS := Lib.hid (show ∀ W, Below wr.heap.size wr W → W.cell? ⟨bp, 0, none⟩ = some (.int .i64 p.m) ∧ W.cell? ⟨bp, 1, none⟩ = some (.int .i64 p.g) ∧ W.cell? ⟨w.heap.size, 2, none⟩ = some (.slice (some ⟨bg, og, none⟩) ng cg) ∧ W.cell? ⟨bg, og + b, none⟩ = some (.int .i64 G) from fun W hW =>
              ⟨(hW.cell (cell_lt ci0)).trans ci0, (hW.cell (cell_lt ci1)).trans ci1, (hW.cell (cell_lt cs2)).trans cs2, (hW.cell (cell_lt cgb)).trans cgb⟩)
            have htx := htb.mono BX
            clear cg0 hG hGz haz hja hjb za zb I1 I2 ci0 ci1 cs0 cs2 cgb
            go_upto_region 18 with (fail)
            go_region_held3 (fun W => W.cell? ⟨bp, 0, none⟩ = some (.int .i64 p.m) ∧ W.cell? ⟨bp, 1, none⟩ = some (.int .i64 p.g) ∧ W.cell? ⟨w.heap.size, 2, none⟩ = some (.slice (some ⟨bg, og, none⟩) ng cg) ∧ W.cell? ⟨bg, og + b, none⟩ = some (.int .i64 G))
              (first | exact HS.out _ (bel0 _) | exact HS.out _ B5 | exact HS.out _ B6)
              (first | (go_at_call_of 26 (Value.int .i64 p.m); (with_reducible refine (HI1.out _ htx.drew).mono ?_); rintro e w5 ⟨rfl, b5⟩; have B5 := below_trans (bel0 wr) b5; replace htx := htx.drew.mono b5; clear b5) | (go_at_call_of 26 (Value.int .i64 G); (with_reducible refine (HI2.out _ htx).mono ?_); rintro e w6 ⟨rfl, b6⟩; have B6 := below_trans B5 b6; clear b6))
            obtain ⟨st, hst⟩ : ∃ st : ByteArray, ({ data := #[109] } ++ ja ++ { data := #[103] } ++ jb : ByteArray) = st := ⟨_, rfl⟩
            have HND2 := Lib.hid (show needs S P tail (k + 1) = needs S P tail k ++ [⟨st, s⟩] by rw [HND.out, ← hst]; rfl)
            go_upto_region 19 with (fail)
            rw [hst]
            have hown6 := ownsRow_mono (ownsRow_mono hown1 BI) B6
            have BX6 := below_trans BX B6
            clear HND HI1 HI2 HS hst htx d1 d2 d3 B5 B6
            have hba := below_alloc w6 (.cells #[.string ⟨#[119, 105, 114, 101]⟩, .string st, .int .i64 s] 45)
            have hsz6 := Nat.le_trans BX6.size hba.size
            have hnl3 : nl ≤ 64 := by omega
            go_wp2_with (at_builtin; refine wpList_append_rv rfl (.tmp 79) (.tmp 83) _ rfl wl.heap.size 45 _ 3 40 Tryz.underlying40 info_lot rfl (by decide) _ nl _ (by rfl) (ownsRow_mono hown6 hba) _ 1 1 [.string ⟨#[119, 105, 114, 101]⟩, .string st, .int .i64 s] (by rfl) (Vals.rd (Vals.newL w6 w6.heap.size [.string ⟨#[119, 105, 114, 101]⟩, .string st, .int .i64 s] 45 rfl) 1 3 rfl 1 (by omega) (by unfold maxLen; omega)) (lcl_one ⟨st, s⟩) (by unfold maxLen; omega) (by omega) hsz6 (nl + 1) rfl _ rfl ?_; intro ad3 c3 w8 hown3 hg3 hn3 hb3 hk3)
            go_roundw
            case rel => exact ⟨k + 1, by go_num, by omega, ⟨ad3, c3, by rw [HND2.out, List.length_append, HNL.out]; rfl⟩, by rw [HND2.out, List.length_append, HNL.out, flat_append]; exact hown3, BX6.trans ((hba.mono BX6.size).trans hb3)⟩
            case measure => simp [intOf]; omega
          · have HND := Lib.hid (show needs S P tail (k + 1) = needs S P tail k by rw [needs, if_neg (by rw [← HQ.out]; exact h0)])
            have h0' : ¬ (0 < s) := h0
            go_wp2
            go_roundw
            case rel => exact ⟨k + 1, by go_num, by omega, ⟨ad, c, by rw [HND.out, HNL.out]⟩, by rw [HND.out, HNL.out]; exact ownsRow_mono hown1 BI, BX⟩
            case measure => simp [intOf]; omega
    · obtain rfl : k = K := by omega
      have hrd := ownsRow_rds hown
      go_wp2
      go_ret2
      refine ⟨_, rfl, ⟨ad, c, by rw [HNL.out]; rfl, by rw [HNL.out]; exact hrd.1⟩, below_trans B BW⟩

end Go.Proofs
end

section
open Go.RowKit Go.Deep
namespace Go.Proofs
set_option linter.unusedVariables false
set_option linter.unusedSimpArgs false

/-- lots that can be read, in a block of lots -/
def InLT (w : World) (v : Value) (L : List Lt) : Prop := ∃ ad c, v = .slice ad L.length c ∧ RdV w ad c L.length 3 (flat lcl L) ∧ ∀ a, ad = some a → ∃ cs q, w.heap[a.block]? = some (.cells cs 45 q)
theorem own_typed {w : World} {B e k : Nat} {ad : Option Addr} {n c : Nat} {cs : List Value} (h : w.ownsRow B e k (.slice ad n c) n cs) : ∀ a, ad = some a → ∃ cs q, w.heap[a.block]? = some (.cells cs e q) := by
  intro a ha
  obtain ⟨_, h1⟩ := h
  rcases h1 with ⟨e, _⟩ | ⟨g, cap, cur, e, _, hh, _⟩
  · have e1 := (Value.slice.inj e).1
    rw [e1] at ha
    cases ha
  · have e1 := (Value.slice.inj e).1
    rw [e1] at ha
    cases ha
    exact ⟨_, _, hh⟩
theorem InLT.kt {ts B w w' v L} (h : InLT w v L) (k : KT ts B w w') (he : some 45 ∉ ts) : InLT w' v L := by
  obtain ⟨ad, c, e, ⟨h1, h2, h3, h4⟩, ht⟩ := h
  refine ⟨ad, c, e, ⟨h1, h2, h3, ?_⟩, fun a ha => ?_⟩
  · rcases h4 with h4 | ⟨b, o, rfl, h4⟩
    · exact .inl h4
    · refine .inr ⟨b, o, rfl, fun j u hj => ?_⟩
      obtain ⟨cs, q, hb⟩ := ht _ rfl
      rw [← h4 j u hj]
      exact World.cell?_of_block ((k.keep b _ hb he).trans hb.symm)
  · obtain ⟨cs, q, hb⟩ := ht a ha
    exact ⟨cs, q, k.keep _ _ hb he⟩

set_option maxRecDepth 100000 in
set_option maxHeartbeats 4000000 in
theorem wneeds_own (S : Scl) (P : List Pk) (tail : Int) (cv mv gv pv : Value) (w : World) (hS : InS w cv mv gv S) (hP : InP w pv P) (hI : SclI S) (hPI : PksI P) (hs : sclOk S = true) (ht : 0 ≤ tail ∧ tail ≤ 100000) (hf : fitsB S P = true) (htb : Tab w) :
    Calls Tryz.prog 8 #[.agg #[cv, mv, gv, .int .i64 S.sf, .int .i64 S.ch], pv, .int .i64 tail] w fun e w' => ∃ v, e = .returned (.tuple #[v, .int .i64 0]) ∧ InLT w' v (needs S P tail (S.ms.length * S.gs.length)) ∧ Below w.heap.size w w' := by
  obtain ⟨hl96, hl4, hl16, _, hch⟩ := headOk_lens (headOk_of hs)
  have LO := fun (cv mv gv : Value) (W : World) (h : InS W cv mv gv S) => look_calls S cv mv gv W h hs
  have SB := fun (p : Pk) (i : Nat) (hi : i ≤ S.cs.length) => sumN_bd hs (P := P) ht p i hi
  have SC := fun (i : Nat) (hi : i < S.cs.length) => (crs_facts (sclOk_c hs hi)).1
  have hpl := (fits_parts hf).1
  have CK := fun (cv mv gv : Value) (W : World) (h : InS W cv mv gv S) => scheck_calls S cv mv gv W h hI
  rw [hs] at CK
  have FT := fun (cv mv gv pv : Value) (W : World) (h : InS W cv mv gv S) (hp : InP W pv P) => fits_calls S P cv mv gv pv W h hI hp hPI
  unfold fitsCode at FT
  rw [hs, hf] at FT
  simp only [Bool.false_eq_true, if_true, if_false] at CK FT
  have t1 : ¬ (tail < 0) := by omega
  have t2 : ¬ (100000 < tail) := by omega
  have hg1 := hl16.1
  have hk1 := Nat.mul_le_mul hl4.2 hl16.2
  have hk2 := Nat.mul_le_mul hl4.1 hl16.1
  obtain ⟨K, hK⟩ : ∃ K, S.ms.length * S.gs.length = K := ⟨_, rfl⟩
  rw [hK] at hk1 hk2 ⊢
  have HK := Lib.hid hK
  have hnpl := hpl
  clear hK hf
  obtain ⟨⟨adc, cc, rfl, rc⟩, ⟨adm, cm, rfl, rm⟩, ⟨adg, cg, rfl, rg⟩⟩ := hS
  obtain ⟨adp, cp, rfl, rp⟩ := hP
  obtain ⟨nc, hnc⟩ : ∃ n, S.cs.length = n := ⟨_, rfl⟩
  obtain ⟨nm, hnm⟩ : ∃ n, S.ms.length = n := ⟨_, rfl⟩
  obtain ⟨ng, hng⟩ : ∃ n, S.gs.length = n := ⟨_, rfl⟩
  obtain ⟨np, hnp⟩ : ∃ n, P.length = n := ⟨_, rfl⟩
  rw [hnc, hnm, hng, hnp]
  have HNC := Lib.hid hnc
  have HNM := Lib.hid hnm
  have HNG := Lib.hid hng
  have HNP := Lib.hid hnp
  have HCK := Lib.hid CK
  have HFT := Lib.hid FT
  have HLO := Lib.hid LO
  have HSB := Lib.hid SB
  have HSC := Lib.hid SC
  have Hhpl := Lib.hid hpl
  have Hhnpl := Lib.hid hnpl
  have HhI := Lib.hid hI
  have Hhs := Lib.hid hs
  clear CK FT LO SB SC hpl hnpl hI hs hnc hnm hng hnp
  have vs := Vals.newL w (w.heap.size) [.slice adc nc cc, .slice adm nm cm, .slice adg ng cg, .int .i64 S.sf, .int .i64 S.ch] 26 rfl
  have bb := below_alloc w (.cells #[.slice adc nc cc, .slice adm nm cm, .slice adg ng cg, .int .i64 S.sf, .int .i64 S.ch] 26)
  have B := bb
  clear bb
  go_enter Tryz.func8, Tryz.ntmps8
  go_upto_region 1 with (fail)
  generalize (w.alloc (.cells #[.slice adc nc cc, .slice adm nm cm, .slice adg ng cg, .int .i64 S.sf, .int .i64 S.ch] 26)) = w0 at *
  replace rc := rc.mono B
  replace rm := rm.mono B
  replace rg := rg.mono B
  replace rp := rp.mono B
  have cvs0 := vs.cell (i := 0) (by simp)
  have cvs1 := vs.cell (i := 1) (by simp)
  have cvs2 := vs.cell (i := 2) (by simp)
  have cvs3 := vs.cell (i := 3) (by simp)
  have cvs4 := vs.cell (i := 4) (by simp)
  simp only [List.getD_cons_zero, List.getD_cons_succ] at cvs0 cvs1 cvs2 cvs3 cvs4
  have ltvs := vs.lt
  go_wp2_with fail
  clear cvs0 cvs1 cvs2 cvs3 cvs4 ltvs
  refine (HCK.out _ _ _ _ ⟨⟨adc, cc, by rw [HNC.out], rc⟩, ⟨adm, cm, by rw [HNM.out], rm⟩, ⟨adg, cg, by rw [HNG.out], rg⟩⟩).mono ?_
  rintro e w1 ⟨rfl, b1⟩
  replace vs := vs.mono b1
  replace rc := rc.mono b1
  replace rm := rm.mono b1
  replace rg := rg.mono b1
  replace rp := rp.mono b1
  replace B := below_trans B b1
  clear b1
  replace htb := htb.mono B
  have cvs0 := vs.cell (i := 0) (by simp)
  have cvs1 := vs.cell (i := 1) (by simp)
  have cvs2 := vs.cell (i := 2) (by simp)
  have cvs3 := vs.cell (i := 3) (by simp)
  have cvs4 := vs.cell (i := 4) (by simp)
  simp only [List.getD_cons_zero, List.getD_cons_succ] at cvs0 cvs1 cvs2 cvs3 cvs4
  have ltvs := vs.lt
  go_wp2_with fail
  clear cvs0 cvs1 cvs2 cvs3 cvs4 ltvs
  refine (HFT.out _ _ _ _ _ ⟨⟨adc, cc, by rw [HNC.out], rc⟩, ⟨adm, cm, by rw [HNM.out], rm⟩, ⟨adg, cg, by rw [HNG.out], rg⟩⟩ ⟨adp, cp, by rw [HNP.out], rp⟩).mono ?_
  rintro e w2 ⟨rfl, b2⟩
  replace vs := vs.mono b2
  replace rc := rc.mono b2
  replace rm := rm.mono b2
  replace rg := rg.mono b2
  replace rp := rp.mono b2
  replace htb := htb.mono b2
  replace B := below_trans B b2
  clear b2
  have cvs0 := vs.cell (i := 0) (by simp)
  have cvs1 := vs.cell (i := 1) (by simp)
  have cvs2 := vs.cell (i := 2) (by simp)
  have cvs3 := vs.cell (i := 3) (by simp)
  have cvs4 := vs.cell (i := 4) (by simp)
  simp only [List.getD_cons_zero, List.getD_cons_succ] at cvs0 cvs1 cvs2 cvs3 cvs4
  have ltvs := vs.lt
  go_wp2_with fail
  clear cvs0 cvs1 cvs2 cvs3 cvs4 ltvs
  refine (HLO.out _ _ _ _ ⟨⟨adc, cc, by rw [HNC.out], rc⟩, ⟨adm, cm, by rw [HNM.out], rm⟩, ⟨adg, cg, by rw [HNG.out], rg⟩⟩).mono ?_
  rintro e wl ⟨bx, pv, tv, rfl, hbx, vx, hp, htt, b2⟩
  replace vs := vs.mono b2
  replace rc := rc.mono b2
  replace rm := rm.mono b2
  replace rg := rg.mono b2
  replace rp := rp.mono b2
  replace htb := htb.mono b2
  replace B := below_trans B b2
  obtain ⟨pb, po, pc, rfl, hp1, hp2, hp3, hp4, hpc⟩ := hp
  rw [allPk_len, HK.out] at hp3 hpc
  rw [allPk_len, HK.out] at vx
  have hpk : ∀ k, k < K → wl.cell? ⟨pb, po + k * 2, none⟩ = some (.int .i64 ((k / S.gs.length : Nat) : Int)) ∧ wl.cell? ⟨pb, po + k * 2 + 1, none⟩ = some (.int .i64 ((k % S.gs.length : Nat) : Int)) := fun k hk => by
    have h := hpc k hk
    rw [allPk_get (by rw [HK.out]; exact hk)] at h
    exact h
  have HPK := Lib.hid hpk
  have c5 := (xcells vx).2.2.1
  have lx := vx.lt
  clear hpc htt b2 HLO HCK HFT hpk hp1 hp2 hp4
  go_wp2
  go_loopw [39, 9] (fun kv ov wr => ∃ k : Nat, kv = .int .i64 (k : Int) ∧ k ≤ K ∧ (∃ ad c, ov = .slice ad (needs S P tail k).length c) ∧ wr.ownsRow wl.heap.size 45 3 ov (needs S P tail k).length (flat lcl (needs S P tail k)) ∧ Below wl.heap.size wl wr)
    (fun kv _ _ => K - (intOf kv).toNat)
  case atStart => exact ⟨0, rfl, Nat.zero_le _, ⟨_, _, rfl⟩, ownsRow_nil _ _ _ _, Below.refl _ _⟩
  case round =>
    clear c5
    obtain ⟨k, rfl, hk, ⟨ad, c, rfl⟩, hown, BW⟩ := hrel
    obtain ⟨nl, hnl⟩ : ∃ n, (needs S P tail k).length = n := ⟨_, rfl⟩
    have hnl2 := needs_len S P tail k
    rw [hnl] at hown hnl2 ⊢
    have HNL := Lib.hid hnl
    clear hnl
    by_cases hlt : k < K
    · have k1 : (0 : Int) ≤ (k : Int) := by omega
      have k2 : (k : Int) < (K : Int) := by omega
      obtain ⟨cA, cB⟩ := HPK.out k hlt
      obtain ⟨a, ha⟩ : ∃ a, k / S.gs.length = a := ⟨_, rfl⟩
      obtain ⟨b, hb⟩ : ∃ b, k % S.gs.length = b := ⟨_, rfl⟩
      have hbl : b < S.gs.length := by rw [← hb]; exact Nat.mod_lt _ hg1
      rw [ha] at cA
      rw [hb] at cB
      have HA := Lib.hid ha
      have HB := Lib.hid hb
      clear ha hb
      obtain ⟨p, hp⟩ : ∃ p : Pk, (⟨(a : Int), (b : Int)⟩ : Pk) = p := ⟨_, rfl⟩
      have pm : (a : Int) = p.m := by rw [← hp]
      have pg : (b : Int) = p.g := by rw [← hp]
      rw [pm] at cA
      rw [pg] at cB
      have HP := Lib.hid hp
      have PM := Lib.hid pm
      have PG := Lib.hid pg
      clear hp pm pg
      replace cA := (BW.cell (cell_lt cA)).trans cA
      replace cB := (BW.cell (cell_lt cB)).trans cB
      go_upto_region 10 with (fail)
      have vb := Vals.newL wr wr.heap.size [.int .i64 p.m, .int .i64 p.g] 73 rfl
      have BW1 := below_trans BW (below_alloc wr (.cells #[.int .i64 p.m, .int .i64 p.g] 73))
      have hown1 := ownsRow_mono hown (below_alloc wr (.cells #[.int .i64 p.m, .int .i64 p.g] 73))
      clear cA cB hown BW
      generalize wr.alloc (.cells #[.int .i64 p.m, .int .i64 p.g] 73) = W1 at *
      generalize wr.heap.size = bp at *
      have HS0 := Lib.hid (show sumN S P tail p 0 = 0 from rfl)
      have lvb := vb.lt
      go_wp2
      go_loopw [45, 12] (fun iv sv wr => ∃ i : Nat, iv = .int .i64 (i : Int) ∧ i ≤ np ∧ sv = .int .i64 (sumN S P tail p i) ∧ Below W1.heap.size W1 wr)
        (fun iv _ _ => np - (intOf iv).toNat)
      case atStart => exact ⟨0, rfl, Nat.zero_le _, by rw [HS0.out], Below.refl _ _⟩
      case round =>
        obtain ⟨i, rfl, hi, rfl, BI⟩ := hrel
        have BX := BW1.trans (BI.mono BW1.size)
        have vbx := vb.mono BI
        have vsx := vs.mono BX
        obtain ⟨s, hs⟩ : ∃ s, sumN S P tail p i = s := ⟨_, rfl⟩
        have hsb := HSB.out p i (by rw [← Hhpl.out, HNP.out]; exact hi)
        rw [hs] at hsb ⊢
        have HSS := Lib.hid hs
        clear hs
        have ci0 := vbx.cell (i := 0) (by simp)
        have ci1 := vbx.cell (i := 1) (by simp)
        have cs0 := vsx.cell (i := 0) (by simp)
        have cs2 := vsx.cell (i := 2) (by simp)
        simp only [List.getD_cons_zero, List.getD_cons_succ] at ci0 ci1 cs0 cs2
        have lvx := vbx.lt
        have lsx := vsx.lt
        by_cases hil : i < np
        · have i1 : (0 : Int) ≤ (i : Int) := by omega
          have i2 : (i : Int) < (np : Int) := by omega
          have hip : i < P.length := by rw [HNP.out]; exact hil
          have hic : i < S.cs.length := by rw [← Hhpl.out]; exact hip
          have i3 : (i : Int) < (nc : Int) := by have := HNC.out; omega
          obtain ⟨bq, oq, rfl, q1, q2⟩ := (rp.mono BX).at hip
          obtain ⟨bc, oc, rfl, y0, y1, y2, y3⟩ := (rc.mono BX).at hic
          have hcl := HSC.out i hic
          obtain ⟨X, hX⟩ : ∃ X, P.getD i p0 = X := ⟨_, rfl⟩
          obtain ⟨C, hC⟩ : ∃ X, S.cs.getD i c0 = X := ⟨_, rfl⟩
          rw [hX] at q1 q2
          rw [hC] at y0 y1 y2 y3 hcl
          clear y1 y2 y3
          have lbc : bc < wr.heap.size := cell_lt y0
          have rn := run_eql_pk p.m p.g X.m X.g
          by_cases e : p.m = X.m ∧ p.g = X.g
          · have HN := Lib.hid (show sumN S P tail p (i + 1) = s + (C.l + tail) by rw [sumN, if_pos (by rw [hX]; exact e), HSS.out, hC])
            have hn : (decide (p.m = X.m) && decide (p.g = X.g)) = true := by rw [decide_eq_true e.1, decide_eq_true e.2]; rfl
            rw [hn] at rn
            clear hn e hX hC
            go_wp2
            (try simp only [rn]); (try go_wp2)
            go_roundw
            case rel => exact ⟨i + 1, by go_num, by omega, by rw [HN.out], below_trans BI (below_alloc _ _)⟩
            case measure => simp [intOf]; omega
          · have HN := Lib.hid (show sumN S P tail p (i + 1) = s by rw [sumN, if_neg (by rw [hX]; exact e), HSS.out])
            have hn : (decide (p.m = X.m) && decide (p.g = X.g)) = false := by
              rw [Bool.and_eq_false_iff, decide_eq_false_iff_not, decide_eq_false_iff_not]
              by_cases e1 : p.m = X.m
              · exact .inr fun e2 => e ⟨e1, e2⟩
              · exact .inl e1
            rw [hn] at rn
            clear hn e hX hC
            go_wp2
            (try simp only [rn]); (try go_wp2)
            go_roundw
            case rel => exact ⟨i + 1, by go_num, by omega, by rw [HN.out], below_trans BI (below_alloc _ _)⟩
            case measure => simp [intOf]; omega
        · have hinp : i = np := by omega
          have hq : s = (lotK S P tail k).q := by
            unfold lotK pkK
            dsimp only
            rw [HA.out, HB.out, HP.out, HNP.out, ← hinp, HSS.out]
          have HQ := Lib.hid hq
          have HINP := Lib.hid hinp
          clear hq hinp
          by_cases h0 : 0 < s
          · obtain ⟨G, hG⟩ : ∃ G, S.gs.getD b 0 = G := ⟨_, rfl⟩
            obtain ⟨bg, og, rfl, cg0⟩ := (rg.mono BX).at hbl
            have cgb := cg0 b hbl
            have hGz : zI G := by
              rw [← hG, List.getD_eq_getElem?_getD, List.getElem?_eq_getElem hbl]
              exact HhI.out.gs _ (List.getElem_mem hbl)
            rw [hG] at cgb
            have hak : a ≤ k := HA.out ▸ Nat.div_le_self _ _
            have haz : zI p.m := by rw [← PM.out]; unfold zI; omega
            have b1 : (0 : Int) ≤ p.g := by rw [← PG.out]; omega
            have b2 : p.g < (ng : Int) := by rw [← PG.out]; have := HNG.out; omega
            have b3 : p.g.toNat = b := by rw [← PG.out]; rfl
            obtain ⟨ja, hja⟩ : ∃ j, itB p.m = j := ⟨_, rfl⟩
            obtain ⟨jb, hjb⟩ : ∃ j, itB G = j := ⟨_, rfl⟩
            have za := itB_size _ haz
            have zb := itB_size _ hGz
            have I1 := fun (W : World) (h : Tab W) => itoa_calls p.m W haz h
            have I2 := fun (W : World) (h : Tab W) => itoa_calls G W hGz h
            rw [hja] at za I1
            rw [hjb] at zb I2
            have d1 : ¬ (1 + ja.size > 9223372036854775807) := by omega
            have d2 : ¬ (1 + ja.size + 1 > 9223372036854775807) := by omega
            have d3 : ¬ (1 + ja.size + 1 + jb.size > 9223372036854775807) := by omega
            have HND := Lib.hid (show needs S P tail (k + 1) = needs S P tail k ++ [⟨mB ++ ja ++ gB ++ jb, s⟩] by
              rw [needs, if_pos (by rw [← HQ.out]; exact h0)]
              congr 1
              rw [show lotK S P tail k = ⟨itemB ((k / S.gs.length : Nat) : Int) (S.gs.getD (k % S.gs.length) 0), (lotK S P tail k).q⟩ from rfl, ← HQ.out, HA.out, HB.out, hG]
              unfold itemB
              rw [PM.out, hja, hjb])
            have HI1 := Lib.hid I1
            have HI2 := Lib.hid I2
            have HS := Lib.hid (show ∀ W, Below wr.heap.size wr W → W.cell? ⟨bp, 0, none⟩ = some (.int .i64 p.m) ∧ W.cell? ⟨bp, 1, none⟩ = some (.int .i64 p.g) ∧ W.cell? ⟨w.heap.size, 2, none⟩ = some (.slice (some ⟨bg, og, none⟩) ng cg) ∧ W.cell? ⟨bg, og + b, none⟩ = some (.int .i64 G) from fun W hW =>
              ⟨(hW.cell (cell_lt ci0)).trans ci0, (hW.cell (cell_lt ci1)).trans ci1, (hW.cell (cell_lt cs2)).trans cs2, (hW.cell (cell_lt cgb)).trans cgb⟩)
            have htx := htb.mono BX
            clear cg0 hG hGz haz hja hjb za zb I1 I2 ci0 ci1 cs0 cs2 cgb
            go_upto_region 18 with (fail)
            go_region_held3 (fun W => W.cell? ⟨bp, 0, none⟩ = some (.int .i64 p.m) ∧ W.cell? ⟨bp, 1, none⟩ = some (.int .i64 p.g) ∧ W.cell? ⟨w.heap.size, 2, none⟩ = some (.slice (some ⟨bg, og, none⟩) ng cg) ∧ W.cell? ⟨bg, og + b, none⟩ = some (.int .i64 G))
              (first | exact HS.out _ (bel0 _) | exact HS.out _ B5 | exact HS.out _ B6)
              (first | (go_at_call_of 26 (Value.int .i64 p.m); (with_reducible refine (HI1.out _ htx.drew).mono ?_); rintro e w5 ⟨rfl, b5⟩; have B5 := below_trans (bel0 wr) b5; replace htx := htx.drew.mono b5; clear b5) | (go_at_call_of 26 (Value.int .i64 G); (with_reducible refine (HI2.out _ htx).mono ?_); rintro e w6 ⟨rfl, b6⟩; have B6 := below_trans B5 b6; clear b6))
            obtain ⟨st, hst⟩ : ∃ st : ByteArray, ({ data := #[109] } ++ ja ++ { data := #[103] } ++ jb : ByteArray) = st := ⟨_, rfl⟩
            have HND2 := Lib.hid (show needs S P tail (k + 1) = needs S P tail k ++ [⟨st, s⟩] by rw [HND.out, ← hst]; rfl)
            go_upto_region 19 with (fail)
            rw [hst]
            have hown6 := ownsRow_mono (ownsRow_mono hown1 BI) B6
            have BX6 := below_trans BX B6
            clear HND HI1 HI2 HS hst htx d1 d2 d3 B5 B6
            have hba := below_alloc w6 (.cells #[.string ⟨#[119, 105, 114, 101]⟩, .string st, .int .i64 s] 45)
            have hsz6 := Nat.le_trans BX6.size hba.size
            have hnl3 : nl ≤ 64 := by omega
            go_wp2_with (at_builtin; refine wpList_append_rv rfl (.tmp 79) (.tmp 83) _ rfl wl.heap.size 45 _ 3 40 Tryz.underlying40 info_lot rfl (by decide) _ nl _ (by rfl) (ownsRow_mono hown6 hba) _ 1 1 [.string ⟨#[119, 105, 114, 101]⟩, .string st, .int .i64 s] (by rfl) (Vals.rd (Vals.newL w6 w6.heap.size [.string ⟨#[119, 105, 114, 101]⟩, .string st, .int .i64 s] 45 rfl) 1 3 rfl 1 (by omega) (by unfold maxLen; omega)) (lcl_one ⟨st, s⟩) (by unfold maxLen; omega) (by omega) hsz6 (nl + 1) rfl _ rfl ?_; intro ad3 c3 w8 hown3 hg3 hn3 hb3 hk3)
            go_roundw
            case rel => exact ⟨k + 1, by go_num, by omega, ⟨ad3, c3, by rw [HND2.out, List.length_append, HNL.out]; rfl⟩, by rw [HND2.out, List.length_append, HNL.out, flat_append]; exact hown3, BX6.trans ((hba.mono BX6.size).trans hb3)⟩
            case measure => simp [intOf]; omega
          · have HND := Lib.hid (show needs S P tail (k + 1) = needs S P tail k by rw [needs, if_neg (by rw [← HQ.out]; exact h0)])
            have h0' : ¬ (0 < s) := h0
            go_wp2
            go_roundw
            case rel => exact ⟨k + 1, by go_num, by omega, ⟨ad, c, by rw [HND.out, HNL.out]⟩, by rw [HND.out, HNL.out]; exact ownsRow_mono hown1 BI, BX⟩
            case measure => simp [intOf]; omega
    · obtain rfl : k = K := by omega
      have hrd := ownsRow_rds hown
      go_wp2
      go_ret2
      refine ⟨_, rfl, ⟨ad, c, by rw [HNL.out]; rfl, by rw [HNL.out]; exact hrd.1, own_typed hown⟩, below_trans B BW⟩

end Go.Proofs
end

