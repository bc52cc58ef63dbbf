/- temper: the iterator of the beginnings. -/
import Derived.Test.YthkeekoljediiaaCircF
import Derived.Test.YthkeekoljediiaaSeen
import Derived.WalkMore
open Go.RowKit Go.Deep
namespace Go.Proofs
set_option linter.unusedVariables false
set_option linter.unusedSimpArgs false

/-- what the iterator yields: a slice, and the steps that it holds -/
structure Beg where
  g : Nat
  c : Nat
  e : Nat → Nat
def begV (R : Rg) (x : Beg) : Array Value := #[.slice (some ⟨x.g, 0, none⟩) (R.sp - 1) x.c]
def begG (R : Rg) (f : Nat) (x : Beg) (W : World) : Prop := InF W (.slice (some ⟨x.g, 0, none⟩) (R.sp - 1) x.c) R x.e ∧ (∀ i, i + 1 < R.sp → StOk R (x.e i)) ∧ f < W.heap.size
theorem KeepC.vals {S : Nat → Prop} {W W' : World} (h : KeepC S W W') {b : Nat} {vs : List Value} (hv : Vals W b vs) (hS : ¬ S b) : Vals W' b vs := by
  obtain ⟨e, hv⟩ := hv
  exact ⟨e, h.block hv rfl hS⟩
/-- a number in memory -/
def numAt (W : World) (p : Addr) : Nat := match W.cell? p with | some (.int _ z) => z.toNat | _ => 0
/-- how many beginnings are still to come -/
def rnk (lo m : Nat) (d : Nat → Nat) : Nat := if m = 1 then lo + 2 - d 0 else (lo + 2 - d 0) * 3 + (lo + 2 - d 1)
theorem numAt_steps {W : World} {b m : Nat} {d : Nat → Nat} (h : Vals W b (stepsL d m)) {i : Nat} (hi : i < m) : numAt W ⟨b, i, none⟩ = d i := by
  unfold numAt
  rw [h.cell (by rw [stepsL_len]; exact hi), show (stepsL d m).getD i undef = .int .i64 (d i : Int) by rw [List.getD, stepsL_get d hi]; rfl]
  simp
theorem rnk_vals {W : World} {b m lo : Nat} {d : Nat → Nat} (h : Vals W b (stepsL d m)) (h1 : 1 ≤ m) (h2 : m ≤ 2) : rnk lo m (fun i => numAt W ⟨b, i, none⟩) = rnk lo m d := by
  unfold rnk
  have k0 := numAt_steps h (i := 0) (by omega)
  by_cases e : m = 1
  · rw [if_pos e, if_pos e]
    show lo + 2 - numAt W ⟨b, 0, none⟩ = _
    rw [k0]
  · have k1 := numAt_steps h (i := 1) (by omega)
    rw [if_neg e, if_neg e]
    show (lo + 2 - numAt W ⟨b, 0, none⟩) * 3 + (lo + 2 - numAt W ⟨b, 1, none⟩) = _
    rw [k0, k1]
/-- the digits behind k are low again -/
def lowE (d : Nat → Nat) (k lo : Nat) (j : Nat) : Nat := if j < k then d j else lo
/-- the digit at k is one more, those behind it are low -/
def incE (d : Nat → Nat) (k lo : Nat) (j : Nat) : Nat := if j < k then d j else if j = k then d k + 1 else lo
theorem rnk_inc {lo m k : Nat} {d : Nat → Nat} (h1 : 1 ≤ m) (h2 : m ≤ 2) (hk : k < m) (hd : d k < lo + 2) (hl : ∀ j, j < m → lo ≤ d j) : rnk lo m (incE d k lo) < rnk lo m d := by
  unfold rnk
  by_cases e : m = 1
  · rw [if_pos e, if_pos e]
    obtain rfl : k = 0 := by omega
    have e0 : incE d 0 lo 0 = d 0 + 1 := by unfold incE; rw [if_neg (by omega), if_pos rfl]
    rw [e0]; omega
  · rw [if_neg e, if_neg e]
    have hl0 := hl 0 (by omega)
    have hl1 := hl 1 (by omega)
    rcases (show k = 0 ∨ k = 1 by omega) with rfl | rfl
    · have e0 : incE d 0 lo 0 = d 0 + 1 := by unfold incE; rw [if_neg (by omega), if_pos rfl]
      have e1 : incE d 0 lo 1 = lo := by unfold incE; rw [if_neg (by omega), if_neg (by omega)]
      rw [e0, e1]; omega
    · have e0 : incE d 1 lo 0 = d 0 := by unfold incE; rw [if_pos (by omega)]
      have e1 : incE d 1 lo 1 = d 1 + 1 := by unfold incE; rw [if_neg (by omega), if_pos rfl]
      rw [e0, e1]; omega
theorem stepsL_set (d : Nat → Nat) (m k s : Nat) (hk : k < m) : (stepsL d m).set k (.int .i64 (s : Int)) = stepsL (fun j => if j = k then s else d j) m := by
  refine List.ext_getElem (by simp [stepsL]) fun i h1 h2 => ?_
  simp only [stepsL, List.getElem_set, List.getElem_map, List.getElem_range]
  by_cases h : k = i
  · subst h; rw [if_pos rfl, if_pos rfl]
  · rw [if_neg h, if_neg (fun e => h e.symm)]

set_option maxRecDepth 100000 in
set_option maxHeartbeats 2000000 in
theorem beg_in (R : Rg) (fv tv : Value) (rq l : Nat) (S : Nat → Prop) (J : World → Prop) (W : World) (hR : RgOk R) (hr : Vals W rq (rgl R fv tv)) (hSr : ¬ S rq) (hSn : ∀ k, W.heap.size ≤ k → ¬ S k) (hJ : Lays W.heap.size J)
    (hY : ∀ x W1, J W1 → begG R W.heap.size x W1 → YieldAt Fence.wide 7 Try.prog l (begV R x) W1 fun e W' => e = .returned (.bool true) ∧ J W' ∧ KeepC S W1 W') (h0 : J W) :
    CallsIn Fence.wide 8 Try.prog 40 #[.func (.yield l) #[] #[], .pointer (some ⟨rq, 0, none⟩)] W fun e W' => (∃ v, e = .returned v) ∧ J W' := by
  have hlo := hR.lo
  have h3 := hR.s2
  obtain ⟨m, hm⟩ : ∃ m, R.sp - 1 = m := ⟨_, rfl⟩
  have hm1 : 1 ≤ m := by omega
  have hm2 : m ≤ 2 := by omega
  have M1 := run_make_vals (P := Try.prog) 22 3 (.int .i64 0) 8 Try.underlying22 info_intC rfl m (by omega) (by omega)
  have qm : IntKind.i64.wrap ((R.sp : Int) - 1) = (m : Int) := by rw [IntWalk.i64_in _ (by omega)]; omega
  have c1 := hr.cell (i := 1) (by simp [rgl])
  simp only [rgl, List.getD_cons_zero, List.getD_cons_succ] at c1
  have hlt := hr.lt
  have HM1 := Lib.hid M1
  have HY := Lib.hid hY
  have HJ := Lib.hid hJ
  have HR := Lib.hid hr
  have HM := Lib.hid hm
  have HS := Lib.hid (And.intro hSr hSn)
  clear hY hJ hr hm hSr hSn M1
  refine callsIn_of_wp Try.func40 rfl trivial ?_ rfl
  simp only [Try.ntmps40, List.size_toArray, List.length_cons, List.length_nil, Nat.reduceAdd, Nat.reduceSub, Array.replicate_succ, Array.replicate_zero, List.push_toArray, List.append_toArray, List.nil_append, List.cons_append]
  have M1 := HM1.out
  refine wpIn_wide.2 ?_
  go_wp2
  go_step3
  go_wp2
  clear M1
  have vf := Vals.newA W W.heap.size (.int .i64 0) m 3 rfl
  have bb := below_alloc W (.cells (Array.replicate m (.int .i64 0)) 3)
  have vf0 : Vals (W.alloc (.cells (Array.replicate m (.int .i64 0)) 3)) W.heap.size (stepsL (lowE (fun _ => R.lo) 0 0) m) := by
    have e : stepsL (lowE (fun _ => R.lo) 0 0) m = List.replicate m (.int .i64 0) := by
      refine List.ext_getElem (by simp [stepsL]) fun i h1 h2 => ?_
      simp [stepsL, lowE]
    rw [e]; exact vf
  have HB := Lib.hid bb
  clear vf bb
  generalize W.alloc (.cells (Array.replicate m (.int .i64 0)) 3) = w0 at *
  obtain ⟨fb, hfb⟩ : ∃ q, W.heap.size = q := ⟨_, rfl⟩
  have hfb2 : rq < fb := by omega
  rw [hfb] at vf0 ⊢
  have HFB := Lib.hid hfb
  clear hfb
  go_loopw [12] (fun iv wr => ∃ i : Nat, i ≤ m ∧ iv = .int .i64 (i : Int) ∧ Vals wr fb (stepsL (lowE (fun _ => R.lo) i 0) m) ∧ Below W.heap.size W wr) (fun iv _ => ((m : Int) - intOf iv).toNat)
  case atStart => exact ⟨0, by omega, rfl, vf0, HB.out⟩
  case round =>
    clear vf0 HB
    obtain ⟨i, hi, rfl, vf, hb⟩ := hrel
    have vr := HR.out.mono hb
    have c2 := vr.cell (i := 2) (by simp [rgl])
    simp only [rgl, List.getD_cons_zero, List.getD_cons_succ] at c2
    have hlt1 := vr.lt
    by_cases him : i < m
    · have t1 : (i : Int) < (m : Int) := by omega
      have t0 : (0 : Int) ≤ (i : Int) := by omega
      have cf := vf.cell (i := i) (by rw [stepsL_len]; exact him)
      have ff := vf.frozen i
      have hltf := vf.lt
      have v2 := vf.set i (.int .i64 (R.lo : Int))
      rw [stepsL_set _ _ _ _ him] at v2
      have e2 : stepsL (fun j => if j = i then R.lo else lowE (fun _ => R.lo) i 0 j) m = stepsL (lowE (fun _ => R.lo) (i + 1) 0) m := stepsL_congr m (fun j hj => by
        unfold lowE
        by_cases h : j = i
        · rw [if_pos h, if_pos (by omega)]
        · rw [if_neg h]
          by_cases h2 : j < i
          · rw [if_pos h2, if_pos (by omega)]
          · rw [if_neg h2, if_neg (by omega)])
      rw [e2] at v2
      have b2 := hb.setCell (p := ⟨fb, i, none⟩) (by have := HFB.out; dsimp only; omega) (.int .i64 (R.lo : Int))
      have HV := Lib.hid (And.intro v2 b2)
      clear v2 b2 e2 vr vf hb
      go_wp2
      go_roundw
      case rel => exact ⟨i + 1, by omega, by go_num, HV.out.1, HV.out.2⟩
      case measure => simp [intOf]; omega
    · obtain rfl : i = m := by omega
      have hJ0 := HJ.out.lay _ _ h0 hb
      have e2 : stepsL (lowE (fun _ => R.lo) i 0) i = stepsL (fun _ => R.lo) i := stepsL_congr i (fun j hj => if_pos hj)
      rw [e2] at vf
      have hsz := hb.size
      have HV := Lib.hid (And.intro vf (And.intro vr hJ0))
      clear vf vr hJ0 hb c2 e2 h0
      go_wp2
      go_step3
      go_wp2
      go_loopw [5] (fun _ wr => ∃ d : Nat → Nat, (∀ j, j < i → StOk R (d j)) ∧ Vals wr fb (stepsL d i) ∧ Vals wr rq (rgl R fv tv) ∧ J wr ∧ W.heap.size ≤ wr.heap.size) (fun _ wr => rnk R.lo i (fun j => numAt wr ⟨fb, j, none⟩))
      case atStart => exact ⟨fun _ => R.lo, fun j hj => ⟨Nat.le_refl _, Nat.le_add_right _ _⟩, HV.out.1, HV.out.2.1, HV.out.2.2, hsz⟩
      case round =>
        clear HV hsz hlt1
        obtain ⟨d, hd, vf, vr, hj, hsz⟩ := hrel
        have hlf := vf.lt
        have RD : RdV wr (some ⟨fb, 0, none⟩) i i 1 (stepsL d i) := rdV_steps (Nat.le_refl _) (by unfold maxLen; omega) (fun j hj => by rw [vf.cell (by rw [stepsL_len]; exact hj), List.getD, stepsL_get d hj]; rfl)
        have CL := Lib.hid (clone_calls fb i i d wr (by omega) RD)
        have HRK := Lib.hid (rnk_vals (lo := R.lo) vf hm1 hm2)
        have HV := Lib.hid (And.intro vf (And.intro vr hj))
        have HD := Lib.hid hd
        clear vf vr hj RD hd
        go_upto_region 6 with (fail)
        refine (wpIn_wide (n := 8)).1 ?_
        gi_wp2_with fail
        refine ⟨trivial, (callsIn_wide.2 CL.out).mono ?_⟩
        rintro e w1 ⟨ad, c', rfl, hown, b1⟩
        obtain ⟨g1, rfl, hg0, hg1, hc1⟩ := ownsRow_at' hown (by omega)
        have IF1 : begG R W.heap.size ⟨g1, c', d⟩ w1 := by
          refine ⟨⟨g1, c', rfl, ⟨hg1, by rw [HM.out]; exact (ownsRow_rds hown).1.2.1, (ownsRow_rds hown).1.2.2.1⟩, fun j hj => hc1 j _ (stepsL_get d (by have := HM.out; omega))⟩, fun j hj => HD.out j (by have := HM.out; omega), by have := HFB.out; have := b1.size; omega⟩
        have hj1 := HJ.out.lay _ _ HV.out.2.2 b1
        obtain ⟨fn, tmps, assign, body, hy, hR2⟩ := HY.out ⟨g1, c', d⟩ w1 hj1 IF1
        have hy2 : (Instr.yield l #[.slice (some ⟨g1, 0, none⟩) i c']).run Try.prog w1 = .ok (.round l fn tmps assign body) w1 := by
          have h := hy
          unfold begV at h
          rw [HM.out] at h
          exact h
        clear hy CL
        have HV1 := Lib.hid (And.intro (HV.out.1.mono b1) (And.intro (HV.out.2.1.mono b1) b1.size))
        clear HV hown b1 hc1 IF1 hj1
        gi_wp2
        have hSf : ¬ S fb := HS.out.2 fb (by have := HFB.out; omega)
        refine hR2.mono ?_
        rintro e w2 ⟨rfl, hj2, hk⟩
        have vf2 := hk.vals HV1.out.1 hSf
        have vr2 := hk.vals HV1.out.2.1 HS.out.1
        have hsz2 : W.heap.size ≤ w2.heap.size := Nat.le_trans hsz (Nat.le_trans HV1.out.2.2 hk.size)
        have HV2 := Lib.hid (And.intro vf2 (And.intro vr2 hj2))
        clear hR2 hy2 hj2 hk HV1 vf2 vr2
        gi_wp2
        go_wp2
        go_loopw [5] (fun iv wx => ∃ k : Nat, k ≤ i ∧ iv = .int .i64 ((k : Int) - 1) ∧ Vals wx fb (stepsL (lowE d k R.lo) i) ∧ (∀ j, k ≤ j → j < i → d j = R.lo + 2) ∧ Vals wx rq (rgl R fv tv) ∧ J wx ∧ W.heap.size ≤ wx.heap.size) (fun iv _ => (intOf iv + 2).toNat)
        case atStart =>
          refine ⟨i, Nat.le_refl _, rfl, ?_, fun j h1 h2 => by omega, HV2.out.2.1, HV2.out.2.2, hsz2⟩
          have e9 : stepsL (lowE d i R.lo) i = stepsL d i := stepsL_congr i (fun j hj => if_pos hj)
          rw [e9]
          exact HV2.out.1
        case round =>
          clear HV2 hsz2
          obtain ⟨k, hk, rfl, vf, hhi, vr, hj, hsx⟩ := hrel
          cases k with
          | zero =>
            go_wp2
            simp only [Exit.noGoto]
            refine bodyPost_ret (results_none rfl _ _ _) rfl ?_
            exact ⟨⟨_, rfl⟩, hj⟩
          | succ k =>
            have hki : k < i := by omega
            have eK : (((k + 1 : Nat) : Int) - 1) = (k : Int) := by omega
            rw [eK]
            have k0 : (0 : Int) ≤ (k : Int) := by omega
            have k1 : (k : Int) < (i : Int) := by omega
            have cf := vf.cell (i := k) (by rw [stepsL_len]; exact hki)
            rw [List.getD, stepsL_get _ hki, show lowE d (k + 1) R.lo k = d k from if_pos (by omega)] at cf
            simp only [Option.getD_some] at cf
            have ff := vf.frozen k
            have hlf := vf.lt
            have c2 := vr.cell (i := 2) (by simp [rgl])
            have c3 := vr.cell (i := 3) (by simp [rgl])
            simp only [rgl, List.getD_cons_zero, List.getD_cons_succ] at c2 c3
            have hlr := vr.lt
            obtain ⟨D, hDk⟩ : ∃ D, d k = D := ⟨_, rfl⟩
            have hDs := HD.out k hki
            rw [hDk] at cf hDs
            have hD2 := hDs.2
            have HH := Lib.hid (show wr.drew.cell? ⟨fb, k, none⟩ = some (.int .i64 (D : Int)) ∧ wr.drew.cell? ⟨rq, 3, none⟩ = some (.int .i64 ((R.lo : Int) + 2)) from ⟨cf, c3⟩)
            have hB : W.heap.size ≤ fb := by have := HFB.out; omega
            have HJ2 := Lib.hid (fun u : Value => HJ.out.put _ ⟨fb, k, none⟩ u (by have := HFB.out; dsimp only; omega) (HJ.out.lay _ wr.drew hj ((Below.refl _ _).drew)))
            have HVF := Lib.hid (fun (s : Nat) => (show Vals (wr.drew.setCell ⟨fb, k, none⟩ (.int .i64 (s : Int))) fb (stepsL (fun j => if j = k then s else lowE d (k + 1) R.lo j) i) from by
              have v := vf.drew.set k (.int .i64 (s : Int))
              rw [stepsL_set _ _ _ _ hki] at v
              exact v))
            have HVR := Lib.hid (fun (s : Nat) => vr.drew.other ⟨fb, k, none⟩ (by dsimp only; omega) (.int .i64 (s : Int)))
            have HHI := Lib.hid hhi
            have HDK := Lib.hid hDk
            clear vf vr hj hhi hDk c3
            by_cases hDl : D < R.lo + 2
            · have t1 : (D : Int) < (R.lo : Int) + 2 := by omega
              have q1 : IntKind.i64.wrap ((D : Int) + 1) = ((D + 1 : Nat) : Int) := by rw [IntWalk.i64_in _ (by omega)]; omega
              have vn := HVF.out (D + 1)
              have en : stepsL (fun j => if j = k then D + 1 else lowE d (k + 1) R.lo j) i = stepsL (incE d k R.lo) i := stepsL_congr i (fun j hj => by
                unfold incE lowE
                by_cases h : j = k
                · rw [if_pos h, if_neg (by omega), if_pos h, HDK.out]
                · rw [if_neg h]
                  by_cases h2 : j < k
                  · rw [if_pos h2, if_pos (by omega)]
                  · rw [if_neg h2, if_neg h, if_neg (by omega)])
              rw [en] at vn
              have hst : ∀ j, j < i → StOk R (incE d k R.lo j) := fun j hj => by
                unfold incE
                by_cases h2 : j < k
                · rw [if_pos h2]; exact HD.out j (by omega)
                · rw [if_neg h2]
                  by_cases h : j = k
                  · rw [if_pos h, HDK.out]; exact ⟨by have := hDs.1; omega, by omega⟩
                  · rw [if_neg h]; exact ⟨Nat.le_refl _, Nat.le_add_right _ _⟩
              have hrk := rnk_inc (lo := R.lo) hm1 hm2 hki (by rw [HDK.out]; exact hDl) (fun j hj => (HD.out j hj).1)
              have hrk2 := rnk_vals (lo := R.lo) vn hm1 hm2
              have HN := Lib.hid (And.intro hst (And.intro vn (And.intro (HVR.out (D + 1)) (HJ2.out (.int .i64 ((D + 1 : Nat) : Int))))))
              have HRK2 := Lib.hid (And.intro hrk hrk2)
              clear vn en hst hrk hrk2 c2
              go_upto_region 10 with (fail)
              go_region_held3 (fun w' => w'.cell? ⟨fb, k, none⟩ = some (.int .i64 (D : Int)) ∧ w'.cell? ⟨rq, 3, none⟩ = some (.int .i64 ((R.lo : Int) + 2))) (exact HH.out) (fail)
              go_wp2
              go_roundw
              case rel => exact ⟨incE d k R.lo, HN.out.1, HN.out.2.1, HN.out.2.2.1, HN.out.2.2.2, by simpa [World.setCell] using hsx⟩
              case measure =>
                rw [HRK.out]
                exact Nat.lt_of_le_of_lt (Nat.le_of_eq HRK2.out.2) HRK2.out.1
            · have t1 : ¬ (D : Int) < (R.lo : Int) + 2 := by omega
              have vn := HVF.out R.lo
              have en : stepsL (fun j => if j = k then R.lo else lowE d (k + 1) R.lo j) i = stepsL (lowE d k R.lo) i := stepsL_congr i (fun j hj => by
                unfold lowE
                by_cases h : j = k
                · rw [if_pos h, if_neg (by omega)]
                · rw [if_neg h]
                  by_cases h2 : j < k
                  · rw [if_pos h2, if_pos (by omega)]
                  · rw [if_neg h2, if_neg (by omega)])
              rw [en] at vn
              have HN := Lib.hid (And.intro vn (And.intro (HVR.out R.lo) (HJ2.out (.int .i64 (R.lo : Int)))))
              have hhi2 : ∀ j, k ≤ j → j < i → d j = R.lo + 2 := fun j h1 h2 => by
                by_cases h : j = k
                · rw [h, HDK.out]; omega
                · exact HHI.out j (by omega) h2
              have HI2 := Lib.hid hhi2
              clear vn en hhi2
              go_upto_region 10 with (fail)
              go_region_held3 (fun w' => w'.cell? ⟨fb, k, none⟩ = some (.int .i64 (D : Int)) ∧ w'.cell? ⟨rq, 3, none⟩ = some (.int .i64 ((R.lo : Int) + 2))) (exact HH.out) (fail)
              go_wp2
              go_roundw
              case rel => exact ⟨k, by omega, rfl, HN.out.1, HI2.out, HN.out.2.1, HN.out.2.2, by simpa [World.setCell] using hsx⟩
              case measure => simp [intOf]; omega

end Go.Proofs
