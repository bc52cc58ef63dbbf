/- wire.course, metal, Check: which scalings are valid. -/
import Derived.Test.YtmnalmmffphnpaaDoorScal
open Go.RowKit Go.Deep
namespace Go.Proofs
set_option linter.unusedVariables false
set_option linter.unusedSimpArgs false

theorem inR_wrap {z : Int} {m : Int} (hz : zI z) (h0 : 0 ≤ m) (hm : m ≤ 1000000000000) : inR (wrap64 (z + 1)) (m + 1) = decide (0 ≤ z ∧ z ≤ m) := by
  unfold inR
  congr 1
  unfold zI at hz
  by_cases h : z < 9223372036854775807
  · rw [wrap64_id (by omega) (by omega)]
    apply propext
    omega
  · have e : z = 9223372036854775807 := by omega
    rw [e]
    have : wrap64 (9223372036854775807 + 1) = -9223372036854775808 := by unfold wrap64; omega
    rw [this]
    apply propext
    omega
theorem getD_mem {zs : List Int} {i : Nat} (hi : i < zs.length) : zs.getD i 0 ∈ zs := by
  have e : zs.getD i 0 = zs[i] := by simp [List.getD, List.getElem?_eq_getElem hi]
  rw [e]
  exact List.getElem_mem hi
theorem steps_all {p : Nat → Bool} {i : Nat} (h : ∀ j, j < i → p j = true) (hi : p i = true) : ∀ j, j < i + 1 → p j = true := fun j hj => by
  by_cases hji : j < i
  · exact h j hji
  · obtain rfl : j = i := by omega
    exact hi
theorem metOk_bad {m : Met} {i : Nat} (n : Nat) (hi : i < m.st.length) (h : inR (m.st.getD i 0) 100000 = false) : metOk n m = false := by
  have : m.st.all (fun z => inR z 100000) = false := by
    rw [List.all_eq_false]
    exact ⟨_, getD_mem hi, by rw [h]; simp⟩
  unfold metOk
  rw [this]
  rfl
theorem metOk_all {m : Met} (n : Nat) (h : ∀ j, j < m.st.length → inR (m.st.getD j 0) 100000 = true) : metOk n m = (inR m.d 30000 && decide (m.st.length = n)) := by
  have : m.st.all (fun z => inR z 100000) = true := by
    rw [List.all_eq_true]
    intro z hz
    obtain ⟨j, hj, rfl⟩ := List.getElem_of_mem hz
    have e : m.st.getD j 0 = m.st[j] := by simp [List.getD, List.getElem?_eq_getElem hj]
    rw [← e]
    exact h j hj
  unfold metOk
  rw [this]
  rfl

set_option maxRecDepth 100000 in
theorem course_calls (c : Crs) (w : World) (h : zI c.l ∧ zI c.f ∧ zI c.t ∧ zI c.w) :
    Calls Tryd.prog 32 #[.agg #[.int .i64 c.l, .int .i64 c.f, .int .i64 c.t, .int .i64 c.w]] w fun e w' => e = .returned (.bool (crsOk c)) ∧ Below w.heap.size w w' := by
  have W1 := fun w : World => within_calls c.l 100000 w
  have W2 := fun w : World => within_calls c.f 10000000 w
  have W3 := fun w : World => within_calls (wrap64 (c.t + 1)) 1000000001 w
  have W4 := fun w : World => within_calls (wrap64 (c.w + 1)) 1001 w
  have e3 := inR_wrap (m := 1000000000) h.2.2.1 (by omega) (by omega)
  have e4 := inR_wrap (m := 1000) h.2.2.2 (by omega) (by omega)
  rw [show (1000000000 : Int) + 1 = 1000000001 by omega] at e3
  rw [show (1000 : Int) + 1 = 1001 by omega] at e4
  rw [e3] at W3
  rw [e4] at W4
  obtain ⟨b1, hb1⟩ : ∃ b, inR c.l 100000 = b := ⟨_, rfl⟩
  obtain ⟨b2, hb2⟩ : ∃ b, inR c.f 10000000 = b := ⟨_, rfl⟩
  obtain ⟨b3, hb3⟩ : ∃ b, decide (0 ≤ c.t ∧ c.t ≤ 1000000000) = b := ⟨_, rfl⟩
  obtain ⟨b4, hb4⟩ : ∃ b, decide (0 ≤ c.w ∧ c.w ≤ 1000) = b := ⟨_, rfl⟩
  have hr : crsOk c = (b1 && b2 && b3 && b4) := by unfold crsOk; rw [hb1, hb2, hb3, hb4]
  rw [hr]
  rw [hb1] at W1
  rw [hb2] at W2
  rw [hb3] at W3
  rw [hb4] at W4
  have H1 := Lib.hid W1
  have H2 := Lib.hid W2
  have H3 := Lib.hid W3
  have H4 := Lib.hid W4
  clear W1 W2 W3 W4 e3 e4 hb1 hb2 hb3 hb4 hr h
  have vs := Vals.newL w (w.heap.size) [.int .i64 c.l, .int .i64 c.f, .int .i64 c.t, .int .i64 c.w] 44 rfl
  have bb := below_alloc w (.cells #[.int .i64 c.l, .int .i64 c.f, .int .i64 c.t, .int .i64 c.w] 44)
  have B := bb
  clear bb
  go_enter Tryd.func32, Tryd.ntmps32
  go_wp2_with fail
  generalize (w.alloc (.cells #[.int .i64 c.l, .int .i64 c.f, .int .i64 c.t, .int .i64 c.w] 44)) = w0 at *
  have cvs0 := vs.cell (i := 0) (by simp)
  have cvs1 := vs.cell (i := 1) (by simp)
  have cvs2 := vs.cell (i := 2) (by simp)
  have cvs3 := vs.cell (i := 3) (by simp)
  simp only [List.getD_cons_zero, List.getD_cons_succ] at cvs0 cvs1 cvs2 cvs3
  have ltvs := vs.lt
  cases b1
  · skip
    go_wp2_with fail
    refine (H1.out _).mono ?_
    rintro e wq ⟨rfl, rfl⟩
    go_wp2
    go_ret
    exact ⟨rfl, B⟩
  · skip
    go_wp2_with fail
    refine (H1.out _).mono ?_
    rintro e wq ⟨rfl, rfl⟩
    cases b2
    · skip
      go_wp2_with fail
      refine (H2.out _).mono ?_
      rintro e wq ⟨rfl, rfl⟩
      go_wp2
      go_ret
      exact ⟨rfl, B⟩
    · skip
      go_wp2_with fail
      refine (H2.out _).mono ?_
      rintro e wq ⟨rfl, rfl⟩
      cases b3
      · skip
        go_wp2_with fail
        refine (H3.out _).mono ?_
        rintro e wq ⟨rfl, rfl⟩
        go_wp2
        go_ret
        exact ⟨rfl, B⟩
      · skip
        go_wp2_with fail
        refine (H3.out _).mono ?_
        rintro e wq ⟨rfl, rfl⟩
        cases b4
        · skip
          go_wp2_with fail
          refine (H4.out _).mono ?_
          rintro e wq ⟨rfl, rfl⟩
          go_wp2
          go_ret
          exact ⟨rfl, B⟩
        · skip
          go_wp2_with fail
          refine (H4.out _).mono ?_
          rintro e wq ⟨rfl, rfl⟩
          go_wp2
          go_ret
          exact ⟨rfl, B⟩

set_option maxRecDepth 100000 in
theorem metal_calls (v : Value) (m : Met) (n : Nat) (w : World) (hv : InZ w v m.st) :
    Calls Tryd.prog 31 #[.agg #[.int .i64 m.d, v], .int .i64 (n : Int)] w fun e w' => e = .returned (.bool (metOk n m)) ∧ Below w.heap.size w w' := by
  obtain ⟨ad, cap, rfl, hrd⟩ := hv
  have hrd0 := hrd
  have W1 := fun w : World => within_calls m.d 30000 w
  obtain ⟨b1, hb1⟩ : ∃ b, inR m.d 30000 = b := ⟨_, rfl⟩
  rw [hb1] at W1
  have WS := fun (z : Int) (w : World) => within_calls z 100000 w
  have H1 := Lib.hid W1
  have HS := Lib.hid WS
  have HB := Lib.hid hb1
  clear W1 WS hb1
  obtain ⟨k, hk⟩ : ∃ k, m.st.length = k := ⟨_, rfl⟩
  have HK := Lib.hid hk
  rw [hk]
  have hcap : k ≤ 9223372036854775807 := by
    have h1 := hrd.1
    have h2 := hrd.2.1
    unfold maxLen at h2
    omega
  clear hk
  have vs := Vals.newL w (w.heap.size) [.int .i64 m.d, .slice ad k cap] 46 rfl
  have bb := below_alloc w (.cells #[.int .i64 m.d, .slice ad k cap] 46)
  have B := bb
  have bb0 := B
  clear bb
  go_enter Tryd.func31, Tryd.ntmps31
  go_wp2_with fail
  generalize (w.alloc (.cells #[.int .i64 m.d, .slice ad k cap] 46)) = w0 at *
  replace hrd := hrd.mono bb0
  clear bb0
  have cvs0 := vs.cell (i := 0) (by simp)
  have cvs1 := vs.cell (i := 1) (by simp)
  simp only [List.getD_cons_zero, List.getD_cons_succ] at cvs0 cvs1
  have ltvs := vs.lt
  go_wp2
  clear cvs0 cvs1 ltvs
  go_loopw [10] (fun iv wr => ∃ i : Nat, iv = .int .i64 (i : Int) ∧ i ≤ k ∧ wr = w0 ∧ ∀ j, j < i → inR (m.st.getD j 0) 100000 = true)
    (fun iv _ => k - (intOf iv).toNat)
  case atStart => exact ⟨0, rfl, Nat.zero_le _, rfl, fun j hj => by omega⟩
  case round =>
    obtain ⟨i, rfl, hi, rfl, hall⟩ := hrel
    by_cases hlt : i < k
    · have hil : i < m.st.length := by rw [HK.out]; exact hlt
      obtain ⟨bz, oz, rfl, hcell⟩ := hrd.at hil
      have ci := hcell i hil
      clear hcell
      obtain ⟨zi, hzi⟩ : ∃ z, m.st.getD i 0 = z := ⟨_, rfl⟩
      rw [hzi] at ci
      have HZ := Lib.hid hzi
      clear hzi
      obtain ⟨b, hb⟩ : ∃ b, inR zi 100000 = b := ⟨_, rfl⟩
      have WI := HS.out zi
      rw [hb] at WI
      have HWI := Lib.hid WI
      have HBI := Lib.hid hb
      clear WI hb
      cases b
      · have HNO := Lib.hid (metOk_bad n hil (by rw [HZ.out]; exact HBI.out))
        go_wp2_with fail
        refine (HWI.out _).mono ?_
        rintro e wq ⟨rfl, rfl⟩
        go_wp2
        go_ret
        exact ⟨by rw [HNO.out]; rfl, B⟩
      · go_wp2_with fail
        refine (HWI.out _).mono ?_
        rintro e wq ⟨rfl, rfl⟩
        go_wp2
        go_roundw
        case rel => exact ⟨i + 1, by go_num, by omega, trivial, steps_all (p := fun j => inR (m.st.getD j 0) 100000) hall (by show inR (m.st.getD i 0) 100000 = true; rw [HZ.out]; exact HBI.out)⟩
        case measure => simp [intOf]; omega
    · obtain rfl : i = k := by omega
      have HF := Lib.hid (metOk_all n (fun j hj => hall j (by rw [← HK.out]; exact hj)))
      rw [HB.out, HK.out] at HF
      clear hall
      have cvs0 := vs.cell (i := 0) (by simp)
      have cvs1 := vs.cell (i := 1) (by simp)
      simp only [List.getD_cons_zero, List.getD_cons_succ] at cvs0 cvs1
      cases b1
      · go_wp2_with fail
        refine (H1.out _).mono ?_
        rintro e wq ⟨rfl, rfl⟩
        go_wp2
        go_ret
        exact ⟨by rw [HF.out]; rfl, B⟩
      · go_wp2_with fail
        refine (H1.out _).mono ?_
        rintro e wq ⟨rfl, rfl⟩
        go_wp2
        go_ret
        refine ⟨?_, B⟩
        rw [HF.out]
        show Ending.returned (Value.bool ((i : Int) == (n : Int))) = _
        congr 2
        rw [Bool.eq_iff_iff]
        simp
        omega

set_option maxRecDepth 100000 in
set_option maxHeartbeats 1000000 in
theorem scheck_calls (S : Scl) (cv mv gv : Value) (w : World) (hS : InS w cv mv gv S) (hI : SclI S) :
    Calls Tryd.prog 15 #[.agg #[cv, mv, gv, .int .i64 S.sf, .int .i64 S.ch]] w fun e w' => e = .returned (.int .i64 (if sclOk S then 0 else 1)) ∧ Below w.heap.size w w' := by
  obtain ⟨R, hR⟩ : ∃ R, (if sclOk S then (0 : Int) else 1) = R := ⟨_, rfl⟩
  rw [hR]
  have HRR := Lib.hid hR
  clear hR
  obtain ⟨⟨adc, cc, rfl, rc⟩, ⟨adm, cm, rfl, rm⟩, ⟨adg, cg, rfl, rg⟩⟩ := hS
  have LC := rc.1
  have LM := rm.1
  have LG := rg.1
  have LC2 := rc.2.1
  have LM2 := rm.2.1
  have LG2 := rg.2.1
  unfold maxLen at LC2 LM2 LG2
  obtain ⟨nc, hnc⟩ : ∃ n, S.cs.length = n := ⟨_, rfl⟩
  obtain ⟨nm, hnm⟩ : ∃ n, S.ms.length = n := ⟨_, rfl⟩
  obtain ⟨ng, hng⟩ : ∃ n, S.gs.length = n := ⟨_, rfl⟩
  rw [hnc] at LC ⊢
  rw [hnm] at LM ⊢
  rw [hng] at LG ⊢
  have HNC := Lib.hid hnc
  have HNM := Lib.hid hnm
  have HNG := Lib.hid hng
  have W1 := fun w : World => within_calls (nc : Int) 96 w
  have W2 := fun w : World => within_calls (nm : Int) 4 w
  have W3 := fun w : World => within_calls (ng : Int) 16 w
  have W4 := fun w : World => within_calls S.sf 100 w
  obtain ⟨b1, hb1⟩ : ∃ b, inR (nc : Int) 96 = b := ⟨_, rfl⟩
  obtain ⟨b2, hb2⟩ : ∃ b, inR (nm : Int) 4 = b := ⟨_, rfl⟩
  obtain ⟨b3, hb3⟩ : ∃ b, inR (ng : Int) 16 = b := ⟨_, rfl⟩
  obtain ⟨b4, hb4⟩ : ∃ b, inR S.sf 100 = b := ⟨_, rfl⟩
  have hr : headOk S = (b1 && b2 && b3 && b4 && decide (0 ≤ S.ch ∧ S.ch ≤ 96)) := by unfold headOk; rw [hnc, hnm, hng, hb1, hb2, hb3, hb4]
  rw [hb1] at W1
  rw [hb2] at W2
  rw [hb3] at W3
  rw [hb4] at W4
  obtain ⟨hd, hhd⟩ : ∃ b, headOk S = b := ⟨_, rfl⟩
  have HHD := Lib.hid hhd
  rw [hhd] at hr
  have HR := Lib.hid hr
  have HG4 := Lib.hid (fun h : b3 = true => by rw [← hb3] at h; unfold inR at h; exact (of_decide_eq_true h).2 : b3 = true → (ng : Int) ≤ 16)
  have H1 := Lib.hid W1
  have H2 := Lib.hid W2
  have H3 := Lib.hid W3
  have H4 := Lib.hid W4
  have HI := Lib.hid hI
  clear W1 W2 W3 W4 hb1 hb2 hb3 hb4 hr hnc hnm hng hhd hI
  have vs := Vals.newL w (w.heap.size) [.slice adc nc cc, .slice adm nm cm, .slice adg ng cg, .int .i64 S.sf, .int .i64 S.ch] 26 rfl
  have bb := below_alloc w (.cells #[.slice adc nc cc, .slice adm nm cm, .slice adg ng cg, .int .i64 S.sf, .int .i64 S.ch] 26)
  have B := bb
  have bb0 := B
  clear bb
  go_enter Tryd.func15, Tryd.ntmps15
  go_upto_region 1 with (fail)
  generalize (w.alloc (.cells #[.slice adc nc cc, .slice adm nm cm, .slice adg ng cg, .int .i64 S.sf, .int .i64 S.ch] 26)) = w0 at *
  replace rc := rc.mono bb0
  replace rm := rm.mono bb0
  replace rg := rg.mono bb0
  clear bb0
  go_cut [3] from 10 to 40 (fun x wx => x = .bool hd ∧ wx = w0)
  case first =>
    have cvs0 := vs.cell (i := 0) (by simp)
    have cvs1 := vs.cell (i := 1) (by simp)
    have cvs2 := vs.cell (i := 2) (by simp)
    have cvs3 := vs.cell (i := 3) (by simp)
    have cvs4 := vs.cell (i := 4) (by simp)
    simp only [List.getD_cons_zero, List.getD_cons_succ] at cvs0 cvs1 cvs2 cvs3 cvs4
    have ltvs := vs.lt
    cases b1
    · skip
      go_wp2_with fail
      refine (H1.out _).mono ?_
      rintro e wq ⟨rfl, rfl⟩
      go_wp2
      go_meet
      exact ⟨by rw [HR.out]; rfl, rfl⟩
    · skip
      go_wp2_with fail
      refine (H1.out _).mono ?_
      rintro e wq ⟨rfl, rfl⟩
      cases b2
      · skip
        go_wp2_with fail
        refine (H2.out _).mono ?_
        rintro e wq ⟨rfl, rfl⟩
        go_wp2
        go_meet
        exact ⟨by rw [HR.out]; rfl, rfl⟩
      · skip
        go_wp2_with fail
        refine (H2.out _).mono ?_
        rintro e wq ⟨rfl, rfl⟩
        cases b3
        · skip
          go_wp2_with fail
          refine (H3.out _).mono ?_
          rintro e wq ⟨rfl, rfl⟩
          go_wp2
          go_meet
          exact ⟨by rw [HR.out]; rfl, rfl⟩
        · skip
          go_wp2_with fail
          refine (H3.out _).mono ?_
          rintro e wq ⟨rfl, rfl⟩
          cases b4
          · skip
            go_wp2_with fail
            refine (H4.out _).mono ?_
            rintro e wq ⟨rfl, rfl⟩
            go_wp2
            go_meet
            exact ⟨by rw [HR.out]; rfl, rfl⟩
          · skip
            go_wp2_with fail
            refine (H4.out _).mono ?_
            rintro e wq ⟨rfl, rfl⟩
            by_cases h0 : 0 ≤ S.ch
            · by_cases h9 : S.ch ≤ 96
              · go_wp2
                go_meet
                exact ⟨by rw [HR.out, decide_eq_true (show 0 ≤ S.ch ∧ S.ch ≤ 96 from ⟨h0, h9⟩)]; rfl, rfl⟩
              · go_wp2
                go_meet
                exact ⟨by rw [HR.out, decide_eq_false (show ¬ (0 ≤ S.ch ∧ S.ch ≤ 96) by omega), decide_eq_false (show ¬ S.ch ≤ 96 by omega)]; rfl, rfl⟩
            · go_wp2
              go_meet
              exact ⟨by rw [HR.out, decide_eq_false (show ¬ (0 ≤ S.ch ∧ S.ch ≤ 96) by omega)]; rfl, rfl⟩
  case rest =>
    obtain ⟨rfl, rfl⟩ := hcut
    clear H1 H2 H3 H4 HR
    have WS := fun (z : Int) (w : World) => within_calls z 2000 w
    have HS := Lib.hid WS
    clear WS
    have cvs0 := vs.cell (i := 0) (by simp)
    have cvs1 := vs.cell (i := 1) (by simp)
    have cvs2 := vs.cell (i := 2) (by simp)
    have cvs3 := vs.cell (i := 3) (by simp)
    have cvs4 := vs.cell (i := 4) (by simp)
    simp only [List.getD_cons_zero, List.getD_cons_succ] at cvs0 cvs1 cvs2 cvs3 cvs4
    have ltvs := vs.lt
    go_wp2
    clear cvs0 cvs1 cvs2 cvs3 cvs4 ltvs
    go_loopw [44, 3] (fun iv ov wr => ∃ i : Nat, iv = .int .i64 (i : Int) ∧ i ≤ ng ∧ ov = .bool (hd && allTo (gOk S.gs) i) ∧ wr = wc)
      (fun iv _ _ => ng - (intOf iv).toNat)
    case atStart => exact ⟨0, rfl, Nat.zero_le _, by rw [show allTo (gOk S.gs) 0 = true from rfl, Bool.and_true], rfl⟩
    case round =>
      obtain ⟨i, rfl, hi, rfl, rfl⟩ := hrel
      by_cases hlt : i < ng
      · have hil : i < S.gs.length := by rw [HNG.out]; exact hlt
        obtain ⟨bz, oz, rfl, hcell⟩ := rg.at hil
        have ci := hcell i hil
        obtain ⟨zi, hzi⟩ : ∃ z, S.gs.getD i 0 = z := ⟨_, rfl⟩
        rw [hzi] at ci
        obtain ⟨zp, hzp⟩ : ∃ z, S.gs.getD (i - 1) 0 = z := ⟨_, rfl⟩
        have cp := hcell (i - 1) (by omega)
        rw [hzp] at cp
        obtain ⟨b, hb⟩ : ∃ b, inR zi 2000 = b := ⟨_, rfl⟩
        have WI := HS.out zi
        rw [hb] at WI
        obtain ⟨o, ho⟩ : ∃ o, (hd && allTo (gOk S.gs) i) = o := ⟨_, rfl⟩
        have hnext : (hd && allTo (gOk S.gs) (i + 1)) = (o && (b && (decide (i = 0) || decide (zi < zp)))) := by
          rw [show allTo (gOk S.gs) (i + 1) = (allTo (gOk S.gs) i && gOk S.gs i) from rfl, ← Bool.and_assoc, ho]
          unfold gOk
          rw [hzi, hzp, hb]
        rw [ho]
        have HWI := Lib.hid WI
        have HNX := Lib.hid hnext
        clear WI hb ho hzi hzp hnext hcell
        have cvs0 := vs.cell (i := 0) (by simp)
        have cvs1 := vs.cell (i := 1) (by simp)
        have cvs2 := vs.cell (i := 2) (by simp)
        have cvs3 := vs.cell (i := 3) (by simp)
        have cvs4 := vs.cell (i := 4) (by simp)
        simp only [List.getD_cons_zero, List.getD_cons_succ] at cvs0 cvs1 cvs2 cvs3 cvs4
        have ltvs := vs.lt
        cases o
        · skip
          go_wp2
          go_roundw
          case rel => first | exact ⟨i + 1, by go_num, by omega, by rw [HNX.out]; rfl, rfl⟩ | exact ⟨i + 1, by go_num, by omega, by rw [HNX.out]; rfl, trivial⟩
          case measure => simp [intOf]; omega
        cases b
        · skip
          go_wp2_with fail
          refine (HWI.out _).mono ?_
          rintro e wq ⟨rfl, rfl⟩
          go_wp2
          go_roundw
          case rel => first | exact ⟨i + 1, by go_num, by omega, by rw [HNX.out]; rfl, rfl⟩ | exact ⟨i + 1, by go_num, by omega, by rw [HNX.out]; rfl, trivial⟩
          case measure => simp [intOf]; omega
        · skip
          go_wp2_with fail
          refine (HWI.out _).mono ?_
          rintro e wq ⟨rfl, rfl⟩
          by_cases h0 : i = 0
          · have h00 : ((i : Int) == 0) = true := by rw [beq_iff_eq]; omega
            go_wp2
            go_roundw
            case rel => first | exact ⟨i + 1, by go_num, by omega, by rw [HNX.out]; rw [decide_eq_true h0]; rfl, rfl⟩ | exact ⟨i + 1, by go_num, by omega, by rw [HNX.out]; rw [decide_eq_true h0]; rfl, trivial⟩
            case measure => simp [intOf]; omega
          have h00 : ((i : Int) == 0) = false := by rw [beq_eq_false_iff_ne]; omega
          have k1 : wrap64 ((i : Int) - 1) = ((i - 1 : Nat) : Int) := by rw [show (i : Int) - 1 = ((i - 1 : Nat) : Int) by omega]; exact wrap64_id (by omega) (by omega)
          have k2 : i - 1 < ng := by omega
          have k3 : (0 : Int) ≤ (i : Int) - 1 := by omega
          have k4 : (i : Int) - 1 < (ng : Int) := by omega
          have k5 : ((i : Int) - 1).toNat = i - 1 := by omega
          by_cases hz : zi < zp
          · skip
            go_wp2
            go_roundw
            case rel => first | exact ⟨i + 1, by go_num, by omega, by rw [HNX.out]; rw [decide_eq_true hz, Bool.or_true]; rfl, rfl⟩ | exact ⟨i + 1, by go_num, by omega, by rw [HNX.out]; rw [decide_eq_true hz, Bool.or_true]; rfl, trivial⟩
            case measure => simp [intOf]; omega
          · skip
            go_wp2
            go_roundw
            case rel => first | exact ⟨i + 1, by go_num, by omega, by rw [HNX.out]; rw [decide_eq_false h0, decide_eq_false (show ¬ zi < zp by omega)]; rfl, rfl⟩ | exact ⟨i + 1, by go_num, by omega, by rw [HNX.out]; rw [decide_eq_false h0, decide_eq_false (show ¬ zi < zp by omega)]; rfl, trivial⟩
            case measure => simp [intOf]; omega
      · obtain rfl : i = ng := by omega
        obtain ⟨h2, hh2⟩ : ∃ b, (hd && allTo (gOk S.gs) i) = b := ⟨_, rfl⟩
        rw [hh2]
        have HH2 := Lib.hid hh2
        clear hh2 HS
        have cvs0 := vs.cell (i := 0) (by simp)
        have cvs1 := vs.cell (i := 1) (by simp)
        have cvs2 := vs.cell (i := 2) (by simp)
        have cvs3 := vs.cell (i := 3) (by simp)
        have cvs4 := vs.cell (i := 4) (by simp)
        simp only [List.getD_cons_zero, List.getD_cons_succ] at cvs0 cvs1 cvs2 cvs3 cvs4
        have ltvs := vs.lt
        go_wp2
        clear cvs0 cvs1 cvs2 cvs3 cvs4 ltvs
        go_loopw [72, 3] (fun iv ov wr => ∃ j : Nat, iv = .int .i64 (j : Int) ∧ j ≤ nm ∧ ov = .bool (h2 && allTo (fun q => metOk i (S.ms.getD q m0)) j) ∧ Below w.heap.size w wr ∧ Vals wr w.heap.size [.slice adc nc cc, .slice adm nm cm, .slice adg i cg, .int .i64 S.sf, .int .i64 S.ch] ∧ RdC wr adc cc S.cs ∧ RdM wr adm cm S.ms)
          (fun iv _ _ => nm - (intOf iv).toNat)
        case atStart => exact ⟨0, rfl, Nat.zero_le _, by rw [show allTo (fun q => metOk i (S.ms.getD q m0)) 0 = true from rfl, Bool.and_true], B, vs, rc, rm⟩
        case round =>
          clear B vs rc rm
          obtain ⟨j, rfl, hj, rfl, B, vs, rc, rm⟩ := hrel
          by_cases hlj : j < nm
          · skip
            have hil : j < S.ms.length := by rw [HNM.out]; exact hlj
            obtain ⟨bm, om, mv, rfl, cb0, cb1, hz⟩ := rm.at hil
            obtain ⟨adv, cv, rfl, hz⟩ := hz
            have hz3 : InZ wr (.slice adv (S.ms.getD j m0).st.length cv) (S.ms.getD j m0).st := ⟨_, _, rfl, hz⟩
            have ME := fun (w : World) (h : InZ w (.slice adv (S.ms.getD j m0).st.length cv) (S.ms.getD j m0).st) => metal_calls _ (S.ms.getD j m0) i w h
            obtain ⟨mb, hmb⟩ : ∃ b, metOk i (S.ms.getD j m0) = b := ⟨_, rfl⟩
            rw [hmb] at ME
            obtain ⟨md, hmd⟩ : ∃ d, (S.ms.getD j m0).d = d := ⟨_, rfl⟩
            obtain ⟨ns, hns⟩ : ∃ d, (S.ms.getD j m0).st.length = d := ⟨_, rfl⟩
            rw [hmd] at cb0
            rw [hns] at cb1
            rw [hmd, hns] at ME
            rw [hns] at hz3
            obtain ⟨MST, hst⟩ : ∃ d, (S.ms.getD j m0).st = d := ⟨_, rfl⟩
            rw [hst] at ME hz3
            have HMB := Lib.hid hmb
            have HME := Lib.hid ME
            clear ME hmb hmd hns hst hz
            obtain ⟨o, ho⟩ : ∃ o, (h2 && allTo (fun q => metOk i (S.ms.getD q m0)) j) = o := ⟨_, rfl⟩
            rw [ho]
            go_upto_region 10 with (fail)
            have vb := Vals.newL wr wr.heap.size [.int .i64 md, .slice adv ns cv] 46 rfl
            have bb := below_alloc wr (.cells #[.int .i64 md, .slice adv ns cv] 46)
            have hsz := vs.lt
            replace vs := vs.mono bb
            replace rc := rc.mono bb
            replace rm := rm.mono bb
            replace B := below_trans B bb
            have hz2 := hz3.mono bb
            clear bb hz3
            clear cb0 cb1
            generalize wr.alloc (.cells #[.int .i64 md, .slice adv ns cv] 46) = W0 at *
            generalize wr.heap.size = bx at *
            have hnext : (h2 && allTo (fun q => metOk i (S.ms.getD q m0)) (j + 1)) = (o && mb) := by
              rw [show allTo (fun q => metOk i (S.ms.getD q m0)) (j + 1) = (allTo (fun q => metOk i (S.ms.getD q m0)) j && metOk i (S.ms.getD j m0)) from rfl, ← Bool.and_assoc, ho, HMB.out]
            have HNX := Lib.hid hnext
            clear hnext ho
            cases o
            · skip
              go_wp2
              go_roundw
              case rel => exact ⟨j + 1, by go_num, by omega, by rw [HNX.out]; rfl, B, vs, rc, rm⟩
              case measure => simp [intOf]; omega
            have cvs0 := vs.cell (i := 0) (by simp)
            have cvs1 := vs.cell (i := 1) (by simp)
            have cvs2 := vs.cell (i := 2) (by simp)
            have cvs3 := vs.cell (i := 3) (by simp)
            have cvs4 := vs.cell (i := 4) (by simp)
            simp only [List.getD_cons_zero, List.getD_cons_succ] at cvs0 cvs1 cvs2 cvs3 cvs4
            have ltvs := vs.lt
            have cvb0 := vb.cell (i := 0) (by simp)
            have cvb1 := vb.cell (i := 1) (by simp)
            simp only [List.getD_cons_zero, List.getD_cons_succ] at cvb0 cvb1
            have ltvb := vb.lt
            go_wp2_with fail
            clear cvs0 cvs1 cvs2 cvs3 cvs4 ltvs cvb0 cvb1 ltvb
            refine (HME.out _ hz2).mono ?_
            rintro e W1 ⟨rfl, b5⟩
            replace vs := vs.mono b5
            replace rc := rc.mono b5
            replace rm := rm.mono b5
            replace B := below_trans B b5
            clear b5
            go_wp2
            go_roundw
            case rel => exact ⟨j + 1, by go_num, by omega, by rw [HNX.out]; rfl, B, vs, rc, rm⟩
            case measure => simp [intOf]; omega
          · obtain rfl : j = nm := by omega
            obtain ⟨h3, hh3⟩ : ∃ b, (h2 && allTo (fun q => metOk i (S.ms.getD q m0)) j) = b := ⟨_, rfl⟩
            rw [hh3]
            have HH3 := Lib.hid hh3
            obtain ⟨nm, hjm⟩ : ∃ q, q = j := ⟨j, rfl⟩
            subst hjm
            clear hh3
            have cvs0 := vs.cell (i := 0) (by simp)
            have cvs1 := vs.cell (i := 1) (by simp)
            have cvs2 := vs.cell (i := 2) (by simp)
            have cvs3 := vs.cell (i := 3) (by simp)
            have cvs4 := vs.cell (i := 4) (by simp)
            simp only [List.getD_cons_zero, List.getD_cons_succ] at cvs0 cvs1 cvs2 cvs3 cvs4
            have ltvs := vs.lt
            go_wp2
            clear cvs0 cvs1 cvs2 cvs3 cvs4 ltvs
            go_loopw [88, 3] (fun iv ov wr => ∃ j : Nat, iv = .int .i64 (j : Int) ∧ j ≤ nc ∧ ov = .bool (h3 && allTo (fun q => crsOk (S.cs.getD q c0)) j) ∧ Below w.heap.size w wr ∧ Vals wr w.heap.size [.slice adc nc cc, .slice adm nm cm, .slice adg i cg, .int .i64 S.sf, .int .i64 S.ch] ∧ RdC wr adc cc S.cs ∧ RdM wr adm cm S.ms)
              (fun iv _ _ => nc - (intOf iv).toNat)
            case atStart => exact ⟨0, rfl, Nat.zero_le _, by rw [show allTo (fun q => crsOk (S.cs.getD q c0)) 0 = true from rfl, Bool.and_true], B, vs, rc, rm⟩
            case round =>
              clear B vs rc rm
              obtain ⟨j, rfl, hj, rfl, B, vs, rc, rm⟩ := hrel
              by_cases hlj : j < nc
              · skip
                have hil : j < S.cs.length := by rw [HNC.out]; exact hlj
                obtain ⟨bm, om, rfl, cb0, cb1, cb2, cb3⟩ := rc.at hil
                have CO := fun w : World => course_calls (S.cs.getD j c0) w (HI.out.cs _ (by
                  have e : S.cs.getD j c0 = S.cs[j] := by simp [List.getD, List.getElem?_eq_getElem hil]
                  rw [e]
                  exact List.getElem_mem hil))
                obtain ⟨mb, hmb⟩ : ∃ b, crsOk (S.cs.getD j c0) = b := ⟨_, rfl⟩
                rw [hmb] at CO
                obtain ⟨cl, hcl⟩ : ∃ d, (S.cs.getD j c0).l = d := ⟨_, rfl⟩
                obtain ⟨cf, hcf⟩ : ∃ d, (S.cs.getD j c0).f = d := ⟨_, rfl⟩
                obtain ⟨ct, hct⟩ : ∃ d, (S.cs.getD j c0).t = d := ⟨_, rfl⟩
                obtain ⟨cw, hcw⟩ : ∃ d, (S.cs.getD j c0).w = d := ⟨_, rfl⟩
                rw [hcl] at cb0
                rw [hcf] at cb1
                rw [hct] at cb2
                rw [hcw] at cb3
                rw [hcl, hcf, hct, hcw] at CO
                have HMB := Lib.hid hmb
                have HCO := Lib.hid CO
                clear CO hmb hcl hcf hct hcw
                obtain ⟨o, ho⟩ : ∃ o, (h3 && allTo (fun q => crsOk (S.cs.getD q c0)) j) = o := ⟨_, rfl⟩
                rw [ho]
                go_upto_region 15 with (fail)
                have vb := Vals.newL wr wr.heap.size [.int .i64 cl, .int .i64 cf, .int .i64 ct, .int .i64 cw] 44 rfl
                have bb := below_alloc wr (.cells #[.int .i64 cl, .int .i64 cf, .int .i64 ct, .int .i64 cw] 44)
                have hsz := vs.lt
                replace vs := vs.mono bb
                replace rc := rc.mono bb
                replace rm := rm.mono bb
                replace B := below_trans B bb
                clear bb
                clear cb0 cb1 cb2 cb3
                generalize wr.alloc (.cells #[.int .i64 cl, .int .i64 cf, .int .i64 ct, .int .i64 cw] 44) = W0 at *
                generalize wr.heap.size = bx at *
                have hnext : (h3 && allTo (fun q => crsOk (S.cs.getD q c0)) (j + 1)) = (o && mb) := by
                  rw [show allTo (fun q => crsOk (S.cs.getD q c0)) (j + 1) = (allTo (fun q => crsOk (S.cs.getD q c0)) j && crsOk (S.cs.getD j c0)) from rfl, ← Bool.and_assoc, ho, HMB.out]
                have HNX := Lib.hid hnext
                clear hnext ho
                cases o
                · skip
                  go_wp2
                  go_roundw
                  case rel => exact ⟨j + 1, by go_num, by omega, by rw [HNX.out]; rfl, B, vs, rc, rm⟩
                  case measure => simp [intOf]; omega
                have cvs0 := vs.cell (i := 0) (by simp)
                have cvs1 := vs.cell (i := 1) (by simp)
                have cvs2 := vs.cell (i := 2) (by simp)
                have cvs3 := vs.cell (i := 3) (by simp)
                have cvs4 := vs.cell (i := 4) (by simp)
                simp only [List.getD_cons_zero, List.getD_cons_succ] at cvs0 cvs1 cvs2 cvs3 cvs4
                have ltvs := vs.lt
                have cvb0 := vb.cell (i := 0) (by simp)
                have cvb1 := vb.cell (i := 1) (by simp)
                have cvb2 := vb.cell (i := 2) (by simp)
                have cvb3 := vb.cell (i := 3) (by simp)
                simp only [List.getD_cons_zero, List.getD_cons_succ] at cvb0 cvb1 cvb2 cvb3
                have ltvb := vb.lt
                go_wp2_with fail
                clear cvs0 cvs1 cvs2 cvs3 cvs4 ltvs cvb0 cvb1 cvb2 cvb3 ltvb
                refine (HCO.out _).mono ?_
                rintro e W1 ⟨rfl, b5⟩
                replace vs := vs.mono b5
                replace rc := rc.mono b5
                replace rm := rm.mono b5
                replace B := below_trans B b5
                clear b5
                go_wp2
                go_roundw
                case rel => exact ⟨j + 1, by go_num, by omega, by rw [HNX.out]; rfl, B, vs, rc, rm⟩
                case measure => simp [intOf]; omega
              · obtain rfl : j = nc := by omega
                obtain ⟨r, hr⟩ : ∃ b, (h3 && allTo (fun q => crsOk (S.cs.getD q c0)) j) = b := ⟨_, rfl⟩
                rw [hr]
                have hfin : sclOk S = r := by
                  unfold sclOk
                  rw [HHD.out, HNG.out, HH2.out, HNM.out, HH3.out, HNC.out, hr]
                have HF := Lib.hid hfin
                clear hr hfin
                cases r
                · go_wp2
                  go_ret
                  exact ⟨by rw [← HRR.out, HF.out]; rfl, B⟩
                · go_wp2
                  go_ret
                  exact ⟨by rw [← HRR.out, HF.out]; rfl, B⟩

end Go.Proofs
