/- wire: search.follows and search.onward. wire: search.fill. -/
import Derived.Test.YtghbjhcbldnenaaGreatDoorPk15
import Derived.Deep.RegionHeld3
import Derived.Deep.Cut

section
open Go.RowKit Go.Deep
namespace Go.Proofs
set_option linter.unusedVariables false
set_option linter.unusedSimpArgs false

theorem fcellsP {w : World} {bx pb po a b : Nat} {x a0 a1 b0 b1 : Value} (h5 : w.cell? ⟨bx, 5, none⟩ = some x) (ha : w.cell? ⟨pb, po + a * 2, none⟩ = some a0 ∧ w.cell? ⟨pb, po + a * 2 + 1, none⟩ = some a1) (hb : w.cell? ⟨pb, po + b * 2, none⟩ = some b0 ∧ w.cell? ⟨pb, po + b * 2 + 1, none⟩ = some b1) :
    ∀ W, Below w.heap.size w W → W.cell? ⟨bx, 5, none⟩ = some x ∧ W.cell? ⟨pb, po + a * 2, none⟩ = some a0 ∧ W.cell? ⟨pb, po + a * 2 + 1, none⟩ = some a1 ∧ W.cell? ⟨pb, po + b * 2, none⟩ = some b0 ∧ W.cell? ⟨pb, po + b * 2 + 1, none⟩ = some b1 := fun W hW =>
  ⟨(hW.cell (cell_lt h5)).trans h5, (hW.cell (cell_lt ha.1)).trans ha.1, (hW.cell (cell_lt ha.2)).trans ha.2, (hW.cell (cell_lt hb.1)).trans hb.1, (hW.cell (cell_lt hb.2)).trans hb.2⟩

set_option maxRecDepth 100000 in
set_option maxHeartbeats 1000000 in
theorem follows_calls (bx pb po c a b K : Nat) (A C : Pk) (w : World) (h5 : w.cell? ⟨bx, 5, none⟩ = some (.slice (some ⟨pb, po, none⟩) K c)) (ha : a < K) (hb : b < K) (hK : K ≤ 1000)
    (hca : w.cell? ⟨pb, po + a * 2, none⟩ = some (.int .i64 A.m) ∧ w.cell? ⟨pb, po + a * 2 + 1, none⟩ = some (.int .i64 A.g)) (hcb : w.cell? ⟨pb, po + b * 2, none⟩ = some (.int .i64 C.m) ∧ w.cell? ⟨pb, po + b * 2 + 1, none⟩ = some (.int .i64 C.g)) :
    Calls Tryz.prog 43 #[.pointer (some ⟨bx, 0, none⟩), .int .i64 (a : Int), .int .i64 (b : Int)] w fun e w' => e = .returned (.bool (decide (A.m ≤ C.m) && decide (A.g ≤ C.g))) ∧ Below w.heap.size w w' := by
  obtain ⟨R, hR⟩ : ∃ R, (decide (A.m ≤ C.m) && decide (A.g ≤ C.g)) = R := ⟨_, rfl⟩
  rw [hR]
  have HR := Lib.hid hR
  have HS := Lib.hid (fcellsP h5 hca hcb)
  clear hR h5 hca hcb
  have a1 : (0 : Int) ≤ (a : Int) := by omega
  have a2 : (a : Int) < (K : Int) := by omega
  have b1 : (0 : Int) ≤ (b : Int) := by omega
  have b2 : (b : Int) < (K : Int) := by omega
  go_enter Tryz.func43, Tryz.ntmps43
  go_upto_region 1 with (fail)
  go_region_held3 (fun W => W.cell? ⟨bx, 5, none⟩ = some (.slice (some ⟨pb, po, none⟩) K c) ∧ W.cell? ⟨pb, po + a * 2, none⟩ = some (.int .i64 A.m) ∧ W.cell? ⟨pb, po + a * 2 + 1, none⟩ = some (.int .i64 A.g) ∧ W.cell? ⟨pb, po + b * 2, none⟩ = some (.int .i64 C.m) ∧ W.cell? ⟨pb, po + b * 2 + 1, none⟩ = some (.int .i64 C.g))
    (first | exact HS.out _ (bel0 _) | exact HS.out _ (bel1 _ _) | exact HS.out _ (bel2 _ _ _))
    (fail)
  · obtain ⟨x1, x2, x3⟩ := vals_two w [.int .i64 A.m, .int .i64 A.g] [.int .i64 C.m, .int .i64 C.g] 73 73
    have vA := x1
    have vC := x2
    have B := x3
    clear x1 x2 x3
    have cA0 := vA.cell (i := 0) (by simp)
    have cA1 := vA.cell (i := 1) (by simp)
    have cC0 := vC.cell (i := 0) (by simp)
    have cC1 := vC.cell (i := 1) (by simp)
    simp only [List.getD_cons_zero, List.getD_cons_succ] at cA0 cA1 cC0 cC1
    have lA := vA.lt
    have lC := vC.lt
    by_cases h1 : A.m ≤ C.m
    · by_cases h2 : A.g ≤ C.g
      · have HRR := Lib.hid (show R = true by rw [← HR.out, decide_eq_true h1, decide_eq_true h2]; rfl)
        go_wp2
        go_ret
        exact ⟨by rw [HRR.out]; rfl, B⟩
      · have HRR := Lib.hid (show R = false by rw [← HR.out, decide_eq_false h2, Bool.and_false])
        have d2 : decide (A.g ≤ C.g) = false := decide_eq_false h2
        go_wp2
        go_ret
        exact ⟨by rw [HRR.out]; rfl, B⟩
    · have HRR := Lib.hid (show R = false by rw [← HR.out, decide_eq_false h1]; rfl)
      have d1 : decide (A.m ≤ C.m) = false := decide_eq_false h1
      go_wp2
      go_ret
      exact ⟨by rw [HRR.out]; rfl, B⟩
  · obtain ⟨x1, x2, x3⟩ := vals_two w [.int .i64 C.m, .int .i64 C.g] [.int .i64 A.m, .int .i64 A.g] 73 73
    have vC := x1
    have vA := x2
    have B := x3
    clear x1 x2 x3
    have cA0 := vA.cell (i := 0) (by simp)
    have cA1 := vA.cell (i := 1) (by simp)
    have cC0 := vC.cell (i := 0) (by simp)
    have cC1 := vC.cell (i := 1) (by simp)
    simp only [List.getD_cons_zero, List.getD_cons_succ] at cA0 cA1 cC0 cC1
    have lA := vA.lt
    have lC := vC.lt
    by_cases h1 : A.m ≤ C.m
    · by_cases h2 : A.g ≤ C.g
      · have HRR := Lib.hid (show R = true by rw [← HR.out, decide_eq_true h1, decide_eq_true h2]; rfl)
        go_wp2
        go_ret
        exact ⟨by rw [HRR.out]; rfl, B⟩
      · have HRR := Lib.hid (show R = false by rw [← HR.out, decide_eq_false h2, Bool.and_false])
        have d2 : decide (A.g ≤ C.g) = false := decide_eq_false h2
        go_wp2
        go_ret
        exact ⟨by rw [HRR.out]; rfl, B⟩
    · have HRR := Lib.hid (show R = false by rw [← HR.out, decide_eq_false h1]; rfl)
      have d1 : decide (A.m ≤ C.m) = false := decide_eq_false h1
      go_wp2
      go_ret
      exact ⟨by rw [HRR.out]; rfl, B⟩

theorem valueat {w : World} {h L l : Nat} {F : Nat → Int} (hc : ∀ l, l < L → w.cell? ⟨h, l, none⟩ = some (.int .i64 (F l))) (hl : l < L) : w.cell? ⟨h, l, none⟩ = some (.int .i64 (F l)) := hc l hl
set_option maxRecDepth 100000 in
set_option maxHeartbeats 4000000 in
theorem onward_calls (bx pb po pc br bi n K L ng i frm left : Nat) (PL : List Pk) (F : Nat → Nat → Int) (w : World) (h5 : w.cell? ⟨bx, 5, none⟩ = some (.slice (some ⟨pb, po, none⟩) K pc)) (h7 : w.cell? ⟨bx, 7, none⟩ = some (.slice (some ⟨br, 0, none⟩) n n))
    (hrow : w.cell? ⟨br, i + 1, none⟩ = some (.slice (some ⟨bi, 0, none⟩) K K)) (hF : ∀ k, k < K → ∃ h, w.cell? ⟨bi, k, none⟩ = some (.slice (some ⟨h, 0, none⟩) L L) ∧ ∀ l, l < L → w.cell? ⟨h, l, none⟩ = some (.int .i64 (F k l)))
    (hP : ∀ k, k < K → w.cell? ⟨pb, po + k * 2, none⟩ = some (.int .i64 ((k / ng : Nat) : Int)) ∧ w.cell? ⟨pb, po + k * 2 + 1, none⟩ = some (.int .i64 ((k % ng : Nat) : Int)))
    (hi : i + 1 < n) (hn : n ≤ 1000) (hK : K ≤ 1000) (hL : L ≤ 1000) (hf : frm < K) (hl : left < L) :
    Calls Tryz.prog 24 #[.pointer (some ⟨bx, 0, none⟩), .int .i64 (i : Int), .int .i64 (frm : Int), .int .i64 (left : Int)] w fun e w' =>
      e = .returned (.tuple #[.int .i64 (onw (folN ng) K F frm left).1, .int .i64 ((onw (folN ng) K F frm left).2 : Int)]) ∧ Below w.heap.size w w' := by
  obtain ⟨f, hf2⟩ : ∃ f, onwF (folN ng) F frm left = f := ⟨_, rfl⟩
  have hres : onw (folN ng) K F frm left = amin f K := by rw [← hf2]; rfl
  rw [hres]
  have FO := fun (t : Nat) (ht : t < K) (W : World) (hW : Below w.heap.size w W) => follows_calls bx pb po pc frm t K ⟨((frm / ng : Nat) : Int), ((frm % ng : Nat) : Int)⟩ ⟨((t / ng : Nat) : Int), ((t % ng : Nat) : Int)⟩ W
    ((hW.cell (cell_lt h5)).trans h5) hf ht hK ⟨(hW.cell (cell_lt (hP frm hf).1)).trans (hP frm hf).1, (hW.cell (cell_lt (hP frm hf).2)).trans (hP frm hf).2⟩ ⟨(hW.cell (cell_lt (hP t ht).1)).trans (hP t ht).1, (hW.cell (cell_lt (hP t ht).2)).trans (hP t ht).2⟩
  have FO2 : ∀ (t : Nat) (ht : t < K) (W : World) (hW : Below w.heap.size w W), Calls Tryz.prog 43 #[.pointer (some ⟨bx, 0, none⟩), .int .i64 (frm : Int), .int .i64 (t : Int)] W fun e w' => e = .returned (.bool (folN ng frm t)) ∧ Below W.heap.size W w' := fun t ht W hW => by
    have h := FO t ht W hW
    have e : folN ng frm t = (decide (((frm / ng : Nat) : Int) ≤ ((t / ng : Nat) : Int)) && decide (((frm % ng : Nat) : Int) ≤ ((t % ng : Nat) : Int))) := by
      unfold folN
      congr 1
      · congr 1; apply propext; exact Int.ofNat_le.symm
      · congr 1; apply propext; exact Int.ofNat_le.symm
    rw [e]
    exact h
  have HFO := Lib.hid FO2
  have HF2 := Lib.hid hf2
  have HFF := Lib.hid hF
  have H7 := Lib.hid h7
  have HROW := Lib.hid hrow
  have H5 := Lib.hid h5
  clear FO FO2 hf2 hres hF h7 hrow hP
  go_enter Tryz.func24, Tryz.ntmps24
  go_wp2
  clear h5
  go_loopw [20, 10, 11] (fun tv av bv wr => ∃ t : Nat, tv = .int .i64 (t : Int) ∧ t ≤ K ∧ av = .int .i64 (amin f t).1 ∧ bv = .int .i64 ((amin f t).2 : Int) ∧ Below w.heap.size w wr)
    (fun tv _ _ _ => K - (intOf tv).toNat)
  case atStart => exact ⟨0, rfl, Nat.zero_le _, rfl, rfl, Below.refl _ _⟩
  case round =>
    obtain ⟨t, rfl, ht, rfl, rfl, B⟩ := hrel
    obtain ⟨lv, hlv⟩ : ∃ v, (amin f t).1 = v := ⟨_, rfl⟩
    obtain ⟨wv, hwv⟩ : ∃ v, (amin f t).2 = v := ⟨_, rfl⟩
    rw [hlv, hwv]
    have HLV := Lib.hid hlv
    have HWV := Lib.hid hwv
    clear hlv hwv
    by_cases hlt : t < K
    · have t1 : (0 : Int) ≤ (t : Int) := by omega
      have t2 : (t : Int) < (K : Int) := by omega
      obtain ⟨h, hc1, hc2⟩ := HFF.out t hlt
      have HC2 := Lib.hid hc2
      clear hc2
      by_cases hto : t = frm
      · have g0 : ((t : Int) != (frm : Int)) = false := by rw [hto]; simp
        have HTO := Lib.hid hto
        clear hto
        have gl : ¬ ((left : Int) < 0) := by omega
        have CV := valueat HC2.out hl
        cases hfol : folN ng frm t with
        | false =>
          have HN := Lib.hid (show amin f (t + 1) = amin f t by rw [amin, if_neg (by rw [← HF2.out]; unfold onwF; rw [hfol]; simp)])
          go_wp2_with fail
          have FW := HFO.out t hlt _ B
          rw [hfol] at FW
          refine FW.mono ?_
          rintro e w1 ⟨rfl, b1⟩
          replace B := below_trans B b1
          clear b1 FW
          clear hfol
          go_wp2
          go_roundw
          case rel => exact ⟨t + 1, by go_num, by omega, by rw [HN.out]; first | done | rw [HLV.out], by rw [HN.out]; first | done | rw [HWV.out], B⟩
          case measure => simp [intOf]; omega
        | true =>
          obtain ⟨c, hcv⟩ : ∃ c, F t left = c := ⟨_, rfl⟩
          rw [hcv] at CV
          have HF := Lib.hid (show f t = c by rw [← HF2.out]; unfold onwF; rw [hfol, if_pos rfl, if_pos HTO.out]; exact hcv)
          go_wp2_with fail
          have FW := HFO.out t hlt _ B
          rw [hfol] at FW
          refine FW.mono ?_
          rintro e w1 ⟨rfl, b1⟩
          replace B := below_trans B b1
          clear b1 FW
          clear hfol
          have c7 := (B.cell (cell_lt H7.out)).trans H7.out
          have cr := (B.cell (cell_lt HROW.out)).trans HROW.out
          have cb := (B.cell (cell_lt hc1)).trans hc1
          have cv := (B.cell (cell_lt CV)).trans CV
          by_cases q1 : c = -1
          · have HN := Lib.hid (show amin f (t + 1) = amin f t by rw [amin, if_neg (by rw [HF.out]; exact fun h => h.1 q1)])
            have g1 : (c == -1) = true := by rw [beq_iff_eq]; exact q1
            have g2 : (c != -1) = false := by rw [q1]; rfl
            clear q1
            go_wp2
            go_roundw
            case rel => exact ⟨t + 1, by go_num, by omega, by rw [HN.out]; first | done | rw [HLV.out], by rw [HN.out]; first | done | rw [HWV.out], B⟩
            case measure => simp [intOf]; omega
          have g1 : (c == -1) = false := by rw [beq_eq_false_iff_ne]; exact q1
          have g2 : (c != -1) = true := by rw [bne_iff_ne]; exact q1
          by_cases q2 : lv = -1
          · have HN := Lib.hid (show amin f (t + 1) = (c, t) by rw [amin, HF.out, if_pos ⟨q1, .inl (by rw [HLV.out]; exact q2)⟩])
            have g3 : (lv == -1) = true := by rw [beq_iff_eq]; exact q2
            clear q1 q2
            go_wp2
            go_roundw
            case rel => exact ⟨t + 1, by go_num, by omega, by rw [HN.out]; first | done | rw [HLV.out], by rw [HN.out]; first | done | rw [HWV.out], B⟩
            case measure => simp [intOf]; omega
          have g3 : (lv == -1) = false := by rw [beq_eq_false_iff_ne]; exact q2
          by_cases q3 : c < lv
          · have HN := Lib.hid (show amin f (t + 1) = (c, t) by rw [amin, HF.out, if_pos ⟨q1, .inr (by rw [HLV.out]; exact q3)⟩])
            clear q1 q2
            go_wp2
            go_roundw
            case rel => exact ⟨t + 1, by go_num, by omega, by rw [HN.out]; first | done | rw [HLV.out], by rw [HN.out]; first | done | rw [HWV.out], B⟩
            case measure => simp [intOf]; omega
          · have HN := Lib.hid (show amin f (t + 1) = amin f t by rw [amin, if_neg (by rw [HF.out, HLV.out]; exact fun h => h.2.elim q2 q3)])
            have g4 : decide (c < lv) = false := decide_eq_false q3
            clear q1 q2
            go_wp2
            go_roundw
            case rel => exact ⟨t + 1, by go_num, by omega, by rw [HN.out]; first | done | rw [HLV.out], by rw [HN.out]; first | done | rw [HWV.out], B⟩
            case measure => simp [intOf]; omega
      · have g0 : ((t : Int) != (frm : Int)) = true := by rw [bne_iff_ne]; omega
        have HTO := Lib.hid hto
        clear hto
        by_cases hl0 : left = 0
        · have gl : (left : Int) - 1 < 0 := by omega
          have HN := Lib.hid (show amin f (t + 1) = amin f t by rw [amin, if_neg (by rw [← HF2.out]; unfold onwF; rw [if_neg HTO.out, if_pos hl0]; split <;> simp)])
          have HL0 := Lib.hid hl0
          clear hl0
          go_wp2
          go_roundw
          case rel => exact ⟨t + 1, by go_num, by omega, by rw [HN.out]; first | done | rw [HLV.out], by rw [HN.out]; first | done | rw [HWV.out], B⟩
          case measure => simp [intOf]; omega
        · obtain ⟨l2, hl2⟩ : ∃ l2, left = l2 + 1 := ⟨left - 1, by omega⟩
          have HL0 := Lib.hid hl0
          have HL2 := Lib.hid hl2
          have hl3 : l2 < L := by omega
          have gl : ¬ ((left : Int) - 1 < 0) := by omega
          have k0 : (1 : Int) ≤ (left : Int) := by omega
          have k1 : (0 : Int) ≤ (left : Int) - 1 := by omega
          have k2 : (left : Int) - 1 < (L : Int) := by omega
          have k3 : ((left : Int) - 1).toNat = l2 := by omega
          clear hl0 hl2
          have CV := valueat HC2.out hl3
          cases hfol : folN ng frm t with
          | false =>
            have HN := Lib.hid (show amin f (t + 1) = amin f t by rw [amin, if_neg (by rw [← HF2.out]; unfold onwF; rw [hfol]; simp)])
            go_wp2_with fail
            have FW := HFO.out t hlt _ B
            rw [hfol] at FW
            refine FW.mono ?_
            rintro e w1 ⟨rfl, b1⟩
            replace B := below_trans B b1
            clear b1 FW
            clear hfol
            go_wp2
            go_roundw
            case rel => exact ⟨t + 1, by go_num, by omega, by rw [HN.out]; first | done | rw [HLV.out], by rw [HN.out]; first | done | rw [HWV.out], B⟩
            case measure => simp [intOf]; omega
          | true =>
            obtain ⟨c, hcv⟩ : ∃ c, F t l2 = c := ⟨_, rfl⟩
            rw [hcv] at CV
            have HF := Lib.hid (show f t = c by rw [← HF2.out]; unfold onwF; rw [hfol, if_pos rfl, if_neg HTO.out, if_neg HL0.out, show left - 1 = l2 from by rw [HL2.out]; rfl]; exact hcv)
            go_wp2_with fail
            have FW := HFO.out t hlt _ B
            rw [hfol] at FW
            refine FW.mono ?_
            rintro e w1 ⟨rfl, b1⟩
            replace B := below_trans B b1
            clear b1 FW
            clear hfol
            have c7 := (B.cell (cell_lt H7.out)).trans H7.out
            have cr := (B.cell (cell_lt HROW.out)).trans HROW.out
            have cb := (B.cell (cell_lt hc1)).trans hc1
            have cv := (B.cell (cell_lt CV)).trans CV
            by_cases q1 : c = -1
            · have HN := Lib.hid (show amin f (t + 1) = amin f t by rw [amin, if_neg (by rw [HF.out]; exact fun h => h.1 q1)])
              have g1 : (c == -1) = true := by rw [beq_iff_eq]; exact q1
              have g2 : (c != -1) = false := by rw [q1]; rfl
              clear q1
              go_wp2
              go_roundw
              case rel => exact ⟨t + 1, by go_num, by omega, by rw [HN.out]; first | done | rw [HLV.out], by rw [HN.out]; first | done | rw [HWV.out], B⟩
              case measure => simp [intOf]; omega
            have g1 : (c == -1) = false := by rw [beq_eq_false_iff_ne]; exact q1
            have g2 : (c != -1) = true := by rw [bne_iff_ne]; exact q1
            by_cases q2 : lv = -1
            · have HN := Lib.hid (show amin f (t + 1) = (c, t) by rw [amin, HF.out, if_pos ⟨q1, .inl (by rw [HLV.out]; exact q2)⟩])
              have g3 : (lv == -1) = true := by rw [beq_iff_eq]; exact q2
              clear q1 q2
              go_wp2
              go_roundw
              case rel => exact ⟨t + 1, by go_num, by omega, by rw [HN.out]; first | done | rw [HLV.out], by rw [HN.out]; first | done | rw [HWV.out], B⟩
              case measure => simp [intOf]; omega
            have g3 : (lv == -1) = false := by rw [beq_eq_false_iff_ne]; exact q2
            by_cases q3 : c < lv
            · have HN := Lib.hid (show amin f (t + 1) = (c, t) by rw [amin, HF.out, if_pos ⟨q1, .inr (by rw [HLV.out]; exact q3)⟩])
              clear q1 q2
              go_wp2
              go_roundw
              case rel => exact ⟨t + 1, by go_num, by omega, by rw [HN.out]; first | done | rw [HLV.out], by rw [HN.out]; first | done | rw [HWV.out], B⟩
              case measure => simp [intOf]; omega
            · have HN := Lib.hid (show amin f (t + 1) = amin f t by rw [amin, if_neg (by rw [HF.out, HLV.out]; exact fun h => h.2.elim q2 q3)])
              have g4 : decide (c < lv) = false := decide_eq_false q3
              clear q1 q2
              go_wp2
              go_roundw
              case rel => exact ⟨t + 1, by go_num, by omega, by rw [HN.out]; first | done | rw [HLV.out], by rw [HN.out]; first | done | rw [HWV.out], B⟩
              case measure => simp [intOf]; omega
    · obtain rfl : t = K := by omega
      have HAV := Lib.hid (show amin f t = (lv, wv) by rw [← HLV.out, ← HWV.out])
      go_wp2
      go_ret2
      exact ⟨by rw [HAV.out]; rfl, B⟩

end Go.Proofs
end

section
open Go.RowKit Go.Deep
namespace Go.Proofs
set_option linter.unusedVariables false
set_option linter.unusedSimpArgs false

theorem info_i1 : (Tryz.prog.info? 24).map (fun i => (i.zero, i.size, i.bytes)) = some (some (.slice none 0 0), 1, 24) := by kernel_rfl
theorem info_i2 : (Tryz.prog.info? 68).map (fun i => (i.zero, i.size, i.bytes)) = some (some (.slice none 0 0), 1, 24) := by kernel_rfl
theorem run_make_vals {P : Program} (t e : TypeId) (z : Value) (bytes : Nat) (ht : P.underlying t = some (.slice e)) (h2 : (P.info? e).map (fun i => (i.zero, i.size, i.bytes)) = some (some z, 1, bytes)) (hz1 : z.cells = #[z]) (n : Nat) (hn : n * bytes ≤ 281474976710656) (hn' : n ≤ 1099511627776) :
    ∀ w : World, (Instr.makeSlice t (.int .i64 (n : Int)) (.int .i64 (n : Int))).run P w = .ok (.slice (some ⟨w.heap.size, 0, none⟩) n n) (w.alloc (.cells (Array.replicate n z) e)) := by
  intro w
  obtain ⟨i, hi, z0, z1, z2⟩ := info_parts h2
  obtain ⟨X, hX⟩ : ∃ X, n * bytes = X := ⟨_, rfl⟩
  have hr := run_make (P := P) w t e i _ ht hi z0 .i64 .i64 n n (by omega) (Int.le_refl _) (by rw [z2, ← Int.natCast_mul, Nat.mul_comm, hX]; omega) (by omega)
  rw [hz1, z1, Nat.mul_one] at hr
  simp only [Int.toNat_natCast] at hr
  rw [made_vals, List.toArray_replicate] at hr
  exact hr
theorem Vals.newA (w : World) (b : Nat) (v : Value) (n : Nat) (e : TypeId) (hb : b = w.heap.size) : Vals (w.alloc (.cells (Array.replicate n v) e)) b (List.replicate n v) := Vals.new w b _ _ e hb (by rw [List.toArray_replicate])

/-- picks whose first k rows are done -/
def KRow (w : World) (lo hi b k K L : Nat) (F : Nat → Nat → Int) (Vs : List Value) : Prop :=
  Vals w b Vs ∧ Vs.length = K ∧ ∀ j, j < k → ∃ h, lo ≤ h ∧ h < hi ∧ Vs.getD j undef = .slice (some ⟨h, 0, none⟩) L L ∧ ∀ l, l < L → w.cell? ⟨h, l, none⟩ = some (.int .i64 (F j l))
theorem KRow.same {w w' : World} {lo hi b k K L : Nat} {F : Nat → Nat → Int} {Vs : List Value} (h : KRow w lo hi b k K L F Vs) (hs : Same b hi w w') (hb : b < lo) (hh : lo ≤ hi) : KRow w' lo hi b k K L F Vs := by
  obtain ⟨h1, h2, h3⟩ := h
  refine ⟨h1.same hs (Nat.le_refl _) (by omega), h2, fun j hj => ?_⟩
  obtain ⟨g, g1, g2, g3, g4⟩ := h3 j hj
  exact ⟨g, g1, g2, g3, fun l hl => hs.cell (g4 l hl) (by dsimp only; omega) g2⟩
theorem KRow.weak {w : World} {lo hi hi' b k K L : Nat} {F : Nat → Nat → Int} {Vs : List Value} (h : KRow w lo hi b k K L F Vs) (hh : hi ≤ hi') : KRow w lo hi' b k K L F Vs := by
  obtain ⟨h1, h2, h3⟩ := h
  refine ⟨h1, h2, fun j hj => ?_⟩
  obtain ⟨g, g1, g2, g3⟩ := h3 j hj
  exact ⟨g, g1, by omega, g3⟩
/-- one row more is laid -/
theorem KRow.set {w w' : World} {lo hi b k K L : Nat} {F : Nat → Nat → Int} {Vs : List Value} (h : KRow w lo hi b k K L F Vs) (hw : Vals w' b (Vs.set k (.slice (some ⟨hi, 0, none⟩) L L))) (hs : Same lo hi w w') (hk : k < K) : KRow w' lo hi b k K L F (Vs.set k (.slice (some ⟨hi, 0, none⟩) L L)) := by
  obtain ⟨h1, h2, h3⟩ := h
  refine ⟨hw, by rw [List.length_set]; exact h2, fun j hj => ?_⟩
  obtain ⟨g, g1, g2, g3, g4⟩ := h3 j hj
  refine ⟨g, g1, g2, ?_, fun l hl => hs.cell (g4 l hl) g1 g2⟩
  rw [← g3]
  simp [List.getD, List.getElem?_set, show k ≠ j by omega]
theorem KRow.push {w : World} {lo hi hi' b k K L : Nat} {F : Nat → Nat → Int} {Vs : List Value} (h : KRow w lo hi b k K L F Vs) (hg : Vs.getD k undef = .slice (some ⟨hi, 0, none⟩) L L) (hlo : lo ≤ hi) (hh : hi < hi') (hc : ∀ l, l < L → w.cell? ⟨hi, l, none⟩ = some (.int .i64 (F k l))) : KRow w lo hi' b (k + 1) K L F Vs := by
  obtain ⟨h1, h2, h3⟩ := h
  refine ⟨h1, h2, fun j hj => ?_⟩
  by_cases e : j < k
  · obtain ⟨g, g1, g2, g3⟩ := h3 j e
    exact ⟨g, g1, by omega, g3⟩
  · obtain rfl : j = k := by omega
    exact ⟨hi, hlo, hh, hg, hc⟩
theorem KRow.row {w : World} {lo hi lo' b K L : Nat} {F : Nat → Nat → Int} {Vs : List Value} (h : KRow w lo hi b K K L F Vs) (hlo : lo' ≤ b) (hb : b < lo) (hh : lo ≤ hi) : RowIn w lo' hi (.slice (some ⟨b, 0, none⟩) K K) K L F := by
  obtain ⟨h1, h2, h3⟩ := h
  refine ⟨b, rfl, hlo, by omega, fun k hk => ?_⟩
  obtain ⟨g, g1, g2, g3, g4⟩ := h3 k hk
  refine ⟨g, by omega, g2, ?_, g4⟩
  rw [h1.cell (by omega), g3]
/-- the rows of the courses from i on -/
def RestP (w : World) (lo hi br i n K L : Nat) (R : Nat → Nat → Nat → Int) (RV : List Value) : Prop :=
  Vals w br RV ∧ RV.length = n ∧ ∀ j, i ≤ j → j < n → RowIn w lo hi (RV.getD j undef) K L (R j)
theorem RestP.same {w w' : World} {lo hi br i n K L : Nat} {R : Nat → Nat → Nat → Int} {RV : List Value} (h : RestP w lo hi br i n K L R RV) (hs : Same br hi w w') (hb : br < lo) (hh : lo ≤ hi) : RestP w' lo hi br i n K L R RV := by
  obtain ⟨h1, h2, h3⟩ := h
  exact ⟨h1.same hs (Nat.le_refl _) (by omega), h2, fun j h4 h5 => (h3 j h4 h5).same (hs.weak (by omega) (Nat.le_refl _))⟩
theorem RestP.set {w w' : World} {lo hi br i n K L : Nat} {R : Nat → Nat → Nat → Int} {RV : List Value} (h : RestP w lo hi br (i + 1) n K L R RV) (u : Value) (hw : Vals w' br (RV.set i u)) (hs : Same lo hi w w') : RestP w' lo hi br (i + 1) n K L R (RV.set i u) := by
  obtain ⟨h1, h2, h3⟩ := h
  refine ⟨hw, by rw [List.length_set]; exact h2, fun j h4 h5 => ?_⟩
  have e : (RV.set i u).getD j undef = RV.getD j undef := by simp [List.getD, List.getElem?_set, show i ≠ j by omega]
  rw [e]
  exact (h3 j h4 h5).same hs
theorem RestP.push {w : World} {lo hi hi' br i n K L : Nat} {R : Nat → Nat → Nat → Int} {RV : List Value} (h : RestP w lo hi br (i + 1) n K L R RV) (hr : RowIn w lo hi' (RV.getD i undef) K L (R i)) (hh : hi ≤ hi') : RestP w lo hi' br i n K L R RV := by
  obtain ⟨h1, h2, h3⟩ := h
  refine ⟨h1, h2, fun j h4 h5 => ?_⟩
  by_cases e : i + 1 ≤ j
  · exact (h3 j e h5).weak (Nat.le_refl _) hh
  · obtain rfl : j = i := by omega
    exact hr
theorem Only.same {r : Nat} {w w' : World} (h : Only r w w') (lo hi : Nat) (h1 : r < lo) (h2 : hi ≤ w.heap.size) : Same lo hi w w' := fun k k1 k2 => h.block k (by omega) (by omega)
theorem Only.alloc {r : Nat} {w w' : World} (h : Only r w w') (o : Obj) : Only r w (w'.alloc o) := h.trans (below_toOnly (below_alloc w' o) r)
theorem Only.far {r : Nat} {w w' : World} (h : Only r w w') (p : Addr) (hp : w.heap.size ≤ p.block) (u : Value) : Only r w (w'.setCell p u) := by
  refine ⟨h.os, h.tape, h.output, ?_, fun k hk hr => ?_⟩
  · show _ ≤ (w'.heap.modify p.block _).size
    simpa using h.size
  · rw [Below.heap_setCell _ _ _ _ (show k ≠ p.block by omega)]
    exact h.block k hk hr
theorem cellZ_made (w : World) (n : Nat) (e : TypeId) : CellZ (w.alloc (.cells (Array.replicate n (Value.int .i64 0)) e)) w.heap.size (List.replicate n 0) := cellZ_new w _ _ _ (by simp [zints])
theorem set8_7 {w : World} {b : Nat} {v0 v1 v2 v3 v4 v5 v6 v7 : Value} (h : Vals w b [v0, v1, v2, v3, v4, v5, v6, v7]) (x : Value) : Vals (w.setCell ⟨b, 7, none⟩ x) b [v0, v1, v2, v3, v4, v5, v6, x] := h.set 7 x
theorem xcells {w : World} {bx : Nat} {v0 v1 v2 v3 v4 v5 v6 v7 : Value} (vx : Vals w bx [v0, v1, v2, v3, v4, v5, v6, v7]) : w.cell? ⟨bx, 0, none⟩ = some v0 ∧ w.cell? ⟨bx, 4, none⟩ = some v4 ∧ w.cell? ⟨bx, 5, none⟩ = some v5 ∧ w.cell? ⟨bx, 6, none⟩ = some v6 ∧ w.cell? ⟨bx, 7, none⟩ = some v7 := by
  have s0 := vx.cell (i := 0) (by simp)
  have s4 := vx.cell (i := 4) (by simp)
  have s5 := vx.cell (i := 5) (by simp)
  have s6 := vx.cell (i := 6) (by simp)
  have s7 := vx.cell (i := 7) (by simp)
  exact ⟨s0, s4, s5, s6, s7⟩

theorem size_set (w : World) (p : Addr) (u : Value) : (w.setCell p u).heap.size = w.heap.size := by simp [World.setCell]
/-- the state of the innermost loop -/
def FInv (w wr : World) (bx bi h i k l n K L : Nat) (VS : List Value) (R : Nat → Nat → Nat → Int) (RV Vs : List Value) : Prop :=
  Only bx w wr ∧ Vals wr bx VS ∧ RestP wr (w.heap.size + 1) bi w.heap.size (i + 1) n K L R RV ∧ KRow wr (bi + 1) h bi k K L (R i) Vs ∧ bx < w.heap.size ∧ w.heap.size < bi ∧ bi < h ∧ h < wr.heap.size ∧
    ∃ zs, CellZ wr h zs ∧ zs.length = L ∧ ∀ m, m < l → zs.getD m 0 = R i k m
theorem FInv.mono {w wr wx : World} {bx bi h i k l n K L : Nat} {VS : List Value} {R : Nat → Nat → Nat → Int} {RV Vs : List Value} (f : FInv w wr bx bi h i k l n K L VS R RV Vs) (hb : Below wr.heap.size wr wx) : FInv w wx bx bi h i k l n K L VS R RV Vs := by
  obtain ⟨h1, h2, h3, h4, h5, h6, h7, h8, zs, h9, h10, h11⟩ := f
  exact ⟨h1.trans (below_toOnly hb bx), h2.mono hb, h3.same (Same.of_below hb (by omega)) (by omega) (by omega), h4.same (Same.of_below hb (by omega)) (by omega) (by omega), h5, h6, h7, Nat.lt_of_lt_of_le h8 hb.size, zs, h9.mono hb, h10, h11⟩
theorem FInv.store {w wr : World} {bx bi h i k l n K L : Nat} {VS : List Value} {R : Nat → Nat → Nat → Int} {RV Vs : List Value} (f : FInv w wr bx bi h i k l n K L VS R RV Vs) (hl : l < L) (v : Int) (hv : v = R i k l) : FInv w (wr.setCell ⟨h, l, none⟩ (.int .i64 v)) bx bi h i k (l + 1) n K L VS R RV Vs := by
  obtain ⟨h1, h2, h3, h4, h5, h6, h7, h8, zs, h9, h10, h11⟩ := f
  refine ⟨h1.far _ (by dsimp only; omega) _, h2.other _ (by dsimp only; omega) _, h3.same ((Same.refl _ _ wr).setCell _ (by dsimp only; omega) _) (by omega) (by omega), h4.same ((Same.refl _ _ wr).setCell _ (by dsimp only; omega) _) (by omega) (by omega), h5, h6, h7, by rw [size_set]; exact h8, zs.set l v, h9.set l v, by rw [List.length_set]; exact h10, fun m hm => ?_⟩
  by_cases e : l = m
  · subst e
    rw [← hv]
    simp [List.getD, h10, hl]
  · rw [← h11 m (by omega)]
    simp [List.getD, List.getElem?_set, e]
theorem FInv.facts {w wr : World} {bx bi h i k l n K L : Nat} {v0 v1 v2 v3 v4 v5 v6 v7 : Value} {R : Nat → Nat → Nat → Int} {RV Vs : List Value} (f : FInv w wr bx bi h i k l n K L [v0, v1, v2, v3, v4, v5, v6, v7] R RV Vs) (hi : i < n) (hk : k < K) (hl : l < L)
    (hg : RV.getD i undef = .slice (some ⟨bi, 0, none⟩) K K) (hg2 : Vs.getD k undef = .slice (some ⟨h, 0, none⟩) L L) :
    wr.cell? ⟨bx, 5, none⟩ = some v5 ∧ wr.cell? ⟨bx, 6, none⟩ = some v6 ∧ wr.cell? ⟨bx, 7, none⟩ = some v7 ∧ wr.cell? ⟨w.heap.size, i, none⟩ = some (.slice (some ⟨bi, 0, none⟩) K K) ∧ wr.cell? ⟨bi, k, none⟩ = some (.slice (some ⟨h, 0, none⟩) L L) ∧
    (∃ z : Int, wr.cell? ⟨h, l, none⟩ = some (.int .i64 z)) ∧ wr.frozen? ⟨h, l, none⟩ = false ∧ Same (bx + 1) w.heap.size w wr := by
  obtain ⟨h1, h2, h3, h4, h5, h6, h7, h8, zs, h9, h10, h11⟩ := f
  obtain ⟨c0, c4, c5, c6, c7⟩ := xcells h2
  refine ⟨c5, c6, c7, ?_, ?_, ⟨_, h9.cell (by rw [h10]; exact hl)⟩, h9.frozen l, h1.same _ _ (Nat.lt_succ_self _) (Nat.le_refl _)⟩
  · rw [h3.1.cell (by rw [h3.2.1]; exact hi), hg]
  · rw [h4.1.cell (by rw [h4.2.1]; exact hk), hg2]
theorem FInv.row {w wr : World} {bx bi h i k l n K L : Nat} {VS : List Value} {R : Nat → Nat → Nat → Int} {RV Vs : List Value} (f : FInv w wr bx bi h i k l n K L VS R RV Vs) (hi : i + 1 < n) :
    ∃ b, wr.cell? ⟨w.heap.size, i + 1, none⟩ = some (.slice (some ⟨b, 0, none⟩) K K) ∧ ∀ k, k < K → ∃ h, wr.cell? ⟨b, k, none⟩ = some (.slice (some ⟨h, 0, none⟩) L L) ∧ ∀ l, l < L → wr.cell? ⟨h, l, none⟩ = some (.int .i64 (R (i + 1) k l)) := by
  obtain ⟨h1, h2, h3, h4, h5⟩ := f
  obtain ⟨b, e, _, _, hr⟩ := h3.2.2 (i + 1) (Nat.le_refl _) hi
  refine ⟨b, by rw [h3.1.cell (by rw [h3.2.1]; exact hi), e], fun k hk => ?_⟩
  obtain ⟨g, _, _, g1, g2⟩ := hr k hk
  exact ⟨g, g1, g2⟩
/-- the row is done -/
theorem FInv.done {w wr : World} {bx bi h i k l n K L : Nat} {VS : List Value} {R : Nat → Nat → Nat → Int} {RV Vs : List Value} (f : FInv w wr bx bi h i k l n K L VS R RV Vs) (hl : l = L) (hg : Vs.getD k undef = .slice (some ⟨h, 0, none⟩) L L) : KRow wr (bi + 1) wr.heap.size bi (k + 1) K L (R i) Vs := by
  obtain ⟨h1, h2, h3, h4, h5, h6, h7, h8, zs, h9, h10, h11⟩ := f
  subst hl
  refine h4.push hg (by omega) h8 (fun m hm => ?_)
  rw [h9.cell (by omega), h11 m hm]

/-- what fill leaves -/
def Filled (w : World) (bx n K L : Nat) (VS : List Value) (R : Nat → Nat → Nat → Int) (e : Ending) (w' : World) : Prop :=
  e = .returned (.tuple #[]) ∧ ∃ br RV, w.heap.size ≤ br ∧ br < w'.heap.size ∧ Vals w' bx (VS ++ [.slice (some ⟨br, 0, none⟩) n n]) ∧ RestP w' (br + 1) w'.heap.size br 0 n K L R RV ∧ Only bx w w'

set_option maxRecDepth 100000 in
set_option maxHeartbeats 4000000 in
theorem fill_calls (bx n K ng nm ch cc : Nat) (adc : Option Addr) (mv gv sfv pv tv : Value) (pr : Nat → Nat → Int) (w : World) (vx : Vals w bx [.slice adc n cc, mv, gv, sfv, .int .i64 (ch : Int), pv, tv, .slice none 0 0])
    (hp : PickIn w (bx + 1) w.heap.size pv (allPk nm ng)) (ht : TabIn w (bx + 1) w.heap.size tv n K pr) (hK : nm * ng = K) (hn : 1 ≤ n ∧ n ≤ 96) (hK1 : 1 ≤ K ∧ K ≤ 64) (hch : ch ≤ 96) (hcc : n ≤ cc) (hcm : cc ≤ 9223372036854775807)
    (hpr : ∀ i k, -1 ≤ pr i k ∧ pr i k ≤ 4000000000000000) :
    Calls Tryz.prog 23 #[.pointer (some ⟨bx, 0, none⟩)] w (Filled w bx n K (ch + 1) [.slice adc n cc, mv, gv, sfv, .int .i64 (ch : Int), pv, tv] (fun i => restJ (folN ng) K pr n (n - 1 - i))) := by
  obtain ⟨R, hR0⟩ : ∃ R : Nat → Nat → Nat → Int, (fun i => restJ (folN ng) K pr n (n - 1 - i)) = R := ⟨_, rfl⟩
  have RL : ∀ i, i + 1 = n → ∀ k l, R i k l = pr i k := fun i h k l => by rw [← hR0]; exact rest_last h k l
  have RN : ∀ i k, i < n → pr i k = -1 → ∀ l, R i k l = -1 := fun i k h h1 l => by rw [← hR0]; exact rest_none h h1 l
  have RM : ∀ i k, i + 1 < n → pr i k ≠ -1 → ∀ l, R i k l = if (onw (folN ng) K (R (i + 1)) k l).1 = -1 then -1 else pr i k + (onw (folN ng) K (R (i + 1)) k l).1 := fun i k h h1 l => by rw [← hR0]; exact rest_more h h1 l
  have RB : ∀ i k l, i < n → -1 ≤ (onw (folN ng) K (R i) k l).1 ∧ (onw (folN ng) K (R i) k l).1 ≤ 400000000000000000 := fun i k l hi => by
    rw [← hR0]
    dsimp only
    have h1 := onw_ge (fol := folN ng) (K := K) (n := n) (fun i k => (hpr i k).1) (n - 1 - i) k l
    have h2 := onw_le (fol := folN ng) (K := K) (R := restJ (folN ng) K pr n (n - 1 - i)) (M := 4000000000000000 * (((n - 1 - i : Nat) : Int) + 1)) (by omega) (fun k l => restJ_le (fol := folN ng) (K := K) (n := n) (by omega) (fun i k => (hpr i k).2) _ k l) k l
    exact ⟨h1, by omega⟩
  rw [hR0]
  have HRL := Lib.hid RL
  have HRN := Lib.hid RN
  have HRM := Lib.hid RM
  have HRB := Lib.hid RB
  clear RL RN RM RB hR0
  obtain ⟨pb, po, pc, rfl, hp1, hp2, hp3, hp4, hpc⟩ := hp
  obtain ⟨tb, tc, rfl, ht1, ht2, ht3, ht4, htc⟩ := ht
  rw [allPk_len, hK] at hp3 hpc
  rw [allPk_len, hK] at vx ⊢
  have hpk : ∀ k, k < K → w.cell? ⟨pb, po + k * 2, none⟩ = some (.int .i64 ((k / ng : Nat) : Int)) ∧ w.cell? ⟨pb, po + k * 2 + 1, none⟩ = some (.int .i64 ((k % ng : Nat) : Int)) := fun k hk => by
    have h := hpc k hk
    rw [allPk_get (by omega)] at h
    exact h
  have M1 := run_make_vals (P := Tryz.prog) 69 68 (.slice none 0 0) 24 Tryz.underlying69 info_i2 rfl n (by omega) (by omega)
  have M2 := run_make_vals (P := Tryz.prog) 68 24 (.slice none 0 0) 24 Tryz.underlying68 info_i1 rfl K (by omega) (by omega)
  have M3 := run_make_vals (P := Tryz.prog) 24 3 (.int .i64 0) 8 Tryz.underlying24 info_int rfl (ch + 1) (by omega) (by omega)
  obtain ⟨L, hL⟩ : ∃ L, ch + 1 = L := ⟨_, rfl⟩
  have hLi : ((ch : Int) + 1) = (L : Int) := by omega
  have hL1 : L ≤ 97 := by omega
  rw [hL] at M3 ⊢
  have HLI := Lib.hid hLi
  have HPK := Lib.hid hpk
  have HTC := Lib.hid htc
  have HM1 := Lib.hid M1
  have HM2 := Lib.hid M2
  have HM3 := Lib.hid M3
  have HPR := Lib.hid hpr
  have hbx := vx.lt
  have HK := Lib.hid hK
  have HL := Lib.hid hL
  clear hpk htc M1 M2 M3 hpc hLi hpr hK hL
  obtain ⟨c0, c4, c5, c6, c7⟩ := xcells vx
  have fx7 := vx.frozen 7
  have M1 := HM1.out
  go_enter Tryz.func23, Tryz.ntmps23
  go_upto_region 2 with (fail)
  clear M1 c0 c4 c5 c6 c7 fx7
  replace vx := set8_7 vx (.slice (some ⟨w.heap.size, 0, none⟩) n n)
  have ho := (Only.refl bx w).setCell (p := ⟨bx, 7, none⟩) rfl (.slice (some ⟨w.heap.size, 0, none⟩) n n)
  have hs0 : (w.setCell ⟨bx, 7, none⟩ (.slice (some ⟨w.heap.size, 0, none⟩) n n)).heap.size = w.heap.size := by simp [World.setCell]
  generalize w.setCell ⟨bx, 7, none⟩ (.slice (some ⟨w.heap.size, 0, none⟩) n n) = W0 at *
  replace vx := vx.alloc (.cells (Array.replicate n (Value.slice none 0 0)) 68)
  replace ho := ho.alloc (.cells (Array.replicate n (Value.slice none 0 0)) 68)
  have vr := Vals.newA W0 w.heap.size (.slice none 0 0) n 68 hs0.symm
  generalize W0.alloc (.cells (Array.replicate n (Value.slice none 0 0)) 68) = W1 at *
  clear hs0
  have hw1 := vr.lt
  go_wp2
  go_loopw [3] (fun iv wr => ∃ i : Nat, iv = .int .i64 ((i : Int) - 1) ∧ i ≤ n ∧ Only bx w wr ∧ Vals wr bx [.slice adc n cc, mv, gv, sfv, .int .i64 (ch : Int), .slice (some ⟨pb, po, none⟩) K pc, .slice (some ⟨tb, 0, none⟩) n tc, .slice (some ⟨w.heap.size, 0, none⟩) n n] ∧ ∃ RV, RestP wr (w.heap.size + 1) wr.heap.size w.heap.size i n K L R RV)
    (fun iv _ => (intOf iv + 1).toNat)
  case atStart => exact ⟨n, rfl, Nat.le_refl _, ho, vx, _, vr, by simp, fun j h1 h2 => by omega⟩
  case round =>
    clear ho vx vr hw1
    obtain ⟨i, hiv, hi, ho, vx, RV, hR⟩ := hrel
    subst hiv
    cases i with
    | zero =>
      have hlt := hR.1.lt
      go_wp2
      go_end0
      exact ⟨rfl, w.heap.size, RV, Nat.le_refl _, hlt, vx, hR, ho⟩
    | succ i =>
      have hin : i < n := by omega
      rw [show (((i + 1 : Nat) : Int) - 1) = (i : Int) by omega]
      have i1 : (0 : Int) ≤ (i : Int) := by omega
      have i2 : (i : Int) < (n : Int) := by omega
      have hsz := hR.1.lt
      have HS := Lib.hid (fun (W : World) (hs : Same bx (bx + 1) wr W) => (fun (h : _ ∧ _ ∧ _ ∧ _ ∧ _) => And.intro h.2.2.1 h.2.2.2.2) (xcells (vx.same hs (Nat.le_refl _) (Nat.lt_succ_self _))))
      have fr := hR.1.frozen i
      have cr := hR.1.cell (i := i) (by rw [hR.2.1]; exact hin)
      go_upto_region 5 with (fail)
      have M2 := HM2.out
      go_region_held3 (fun W => W.cell? ⟨bx, 5, none⟩ = some (.slice (some ⟨pb, po, none⟩) K pc) ∧ W.cell? ⟨bx, 7, none⟩ = some (.slice (some ⟨w.heap.size, 0, none⟩) n n))
        (first | exact HS.out _ (Same.refl _ _ _) | exact HS.out _ ((Same.refl _ _ wr).alloc (by omega) _) | exact HS.out _ (((Same.refl _ _ wr).setCell _ (by dsimp only; omega) _).alloc (by rw [size_set]; omega) _))
        (fail)
      have vx2 := (vx.other ⟨w.heap.size, i, none⟩ (by dsimp only; omega) (.slice (some ⟨wr.heap.size, 0, none⟩) K K)).alloc (.cells (Array.replicate K (Value.slice none 0 0)) 24)
      have vr2 := (hR.1.set i (.slice (some ⟨wr.heap.size, 0, none⟩) K K)).alloc (.cells (Array.replicate K (Value.slice none 0 0)) 24)
      have ho2 := (ho.far ⟨w.heap.size, i, none⟩ (Nat.le_refl _) (.slice (some ⟨wr.heap.size, 0, none⟩) K K)).alloc (.cells (Array.replicate K (Value.slice none 0 0)) 24)
      have vb2 := Vals.newA (wr.setCell ⟨w.heap.size, i, none⟩ (.slice (some ⟨wr.heap.size, 0, none⟩) K K)) wr.heap.size (.slice none 0 0) K 24 (size_set _ _ _).symm
      have sm2 := ((Same.refl (w.heap.size + 1) wr.heap.size wr).setCell ⟨w.heap.size, i, none⟩ (by dsimp only; omega) (.slice (some ⟨wr.heap.size, 0, none⟩) K K)).alloc (by rw [size_set]; omega) (.cells (Array.replicate K (Value.slice none 0 0)) 24)
      have hR2 := hR.set (.slice (some ⟨wr.heap.size, 0, none⟩) K K) vr2 sm2
      have hget : (RV.set i (.slice (some ⟨wr.heap.size, 0, none⟩) K K)).getD i undef = .slice (some ⟨wr.heap.size, 0, none⟩) K K := by
        have := hR.2.1
        simp [List.getD, this, hin]
      obtain ⟨RV2, hRV2⟩ : ∃ X, RV.set i (.slice (some ⟨wr.heap.size, 0, none⟩) K K) = X := ⟨_, rfl⟩
      rw [hRV2] at hR2 hget
      clear vr2 sm2 hRV2 hR vx ho HS fr cr M2
      generalize (wr.setCell ⟨w.heap.size, i, none⟩ (.slice (some ⟨wr.heap.size, 0, none⟩) K K)).alloc (.cells (Array.replicate K (Value.slice none 0 0)) 24) = W2 at *
      generalize wr.heap.size = bi at *
      replace vx2 := vx2.drew
      replace ho2 := ho2.drew
      replace vb2 := vb2.drew
      replace hR2 := hR2.same (Same.refl _ _ W2).drew (Nat.lt_succ_self _) hsz
      generalize W2.drew = W3 at *
      have c5 := (xcells vx2).2.2.1
      have HGET := Lib.hid hget
      have hb3 := vb2.lt
      clear hget
      go_wp2
      go_loopw [43] (fun kv wr => ∃ k : Nat, kv = .int .i64 (k : Int) ∧ k ≤ K ∧ Only bx w wr ∧ Vals wr bx [.slice adc n cc, mv, gv, sfv, .int .i64 (ch : Int), .slice (some ⟨pb, po, none⟩) K pc, .slice (some ⟨tb, 0, none⟩) n tc, .slice (some ⟨w.heap.size, 0, none⟩) n n] ∧ RestP wr (w.heap.size + 1) bi w.heap.size (i + 1) n K L R RV2 ∧ bi < wr.heap.size ∧ ∃ Vs, KRow wr (bi + 1) wr.heap.size bi k K L (R i) Vs)
        (fun kv _ => K - (intOf kv).toNat)
      case atStart => exact ⟨0, rfl, Nat.zero_le _, ho2, vx2, hR2, hb3, _, vb2, by simp, fun j hj => by omega⟩
      case round =>
        clear ho2 vx2 hR2 vb2 hb3 c5
        obtain ⟨k, rfl, hk, ho, vx, hR, hb3, Vs, hV⟩ := hrel
        obtain ⟨c0, c4, c5, c6, c7⟩ := xcells vx
        clear c0 c6
        by_cases hlt : k < K
        · have k1 : (0 : Int) ≤ (k : Int) := by omega
          have k2 : (k : Int) < (K : Int) := by omega
          have cwi : wr.cell? ⟨w.heap.size, i, none⟩ = some (.slice (some ⟨bi, 0, none⟩) K K) := by rw [hR.1.cell (by rw [hR.2.1]; exact hin), HGET.out]
          have cbk := hV.1.cell (i := k) (by rw [hV.2.1]; exact hlt)
          have fbk := hV.1.frozen k
          have HS := Lib.hid (fun (W : World) (hs : Same bx (bx + 1) wr W) (hs2 : Same w.heap.size (w.heap.size + 1) wr W) => And.intro (hs.cell c4 (Nat.le_refl _) (Nat.lt_succ_self _)) (And.intro (hs.cell c7 (Nat.le_refl _) (Nat.lt_succ_self _)) (hs2.cell cwi (Nat.le_refl _) (Nat.lt_succ_self _))))
          clear c4 c5 c7 cwi
          go_upto_region 9 with (fail)
          have M3 := HM3.out
          have kL : IntKind.i64.wrap ((ch : Int) + 1) = (L : Int) := by rw [HLI.out]; exact IntWalk.i64_in _ (by omega)
          go_region_held3 (fun W => W.cell? ⟨bx, 4, none⟩ = some (.int .i64 (ch : Int)) ∧ W.cell? ⟨bx, 7, none⟩ = some (.slice (some ⟨w.heap.size, 0, none⟩) n n) ∧ W.cell? ⟨w.heap.size, i, none⟩ = some (.slice (some ⟨bi, 0, none⟩) K K))
            (first | exact HS.out _ (Same.refl _ _ _) (Same.refl _ _ _) | exact HS.out _ ((Same.refl _ _ wr).alloc (by omega) _) ((Same.refl _ _ wr).alloc (by omega) _) | exact HS.out _ (((Same.refl _ _ wr).setCell _ (by dsimp only; omega) _).alloc (by rw [size_set]; omega) _) (((Same.refl _ _ wr).setCell _ (by dsimp only; omega) _).alloc (by rw [size_set]; omega) _))
            (fail)
          clear M3 kL HS
          have hs1 := (Same.refl w.heap.size bi wr).setCell ⟨bi, k, none⟩ (.inr (Nat.le_refl _)) (.slice (some ⟨wr.heap.size, 0, none⟩) L L)
          have hs2 := (Same.refl (bi + 1) wr.heap.size wr).setCell ⟨bi, k, none⟩ (.inl (Nat.lt_succ_self _)) (.slice (some ⟨wr.heap.size, 0, none⟩) L L)
          have hv2 := hV.1.set k (.slice (some ⟨wr.heap.size, 0, none⟩) L L)
          have vx2 := vx.other ⟨bi, k, none⟩ (by dsimp only; omega) (.slice (some ⟨wr.heap.size, 0, none⟩) L L)
          have ho2 := ho.far ⟨bi, k, none⟩ (by dsimp only; omega) (.slice (some ⟨wr.heap.size, 0, none⟩) L L)
          have hs0 := size_set wr ⟨bi, k, none⟩ (.slice (some ⟨wr.heap.size, 0, none⟩) L L)
          have hg2 : (Vs.set k (.slice (some ⟨wr.heap.size, 0, none⟩) L L)).getD k undef = .slice (some ⟨wr.heap.size, 0, none⟩) L L := by
            have := hV.2.1
            simp [List.getD, this, hlt]
          obtain ⟨Vs2, hVs2⟩ : ∃ X, Vs.set k (.slice (some ⟨wr.heap.size, 0, none⟩) L L) = X := ⟨_, rfl⟩
          generalize hWe : wr.setCell ⟨bi, k, none⟩ (.slice (some ⟨wr.heap.size, 0, none⟩) L L) = W4 at *
          have z4 := cellZ_made W4 L 3
          rw [hs0] at z4
          have ba := below_alloc W4 (.cells (Array.replicate L (Value.int .i64 0)) 3)
          have hs3 := hs2.alloc (by omega) (.cells (Array.replicate L (Value.int .i64 0)) 3)
          have hs4 := hs1.alloc (by omega) (.cells (Array.replicate L (Value.int .i64 0)) 3)
          have hV3 := hV.set (hv2.mono ba) hs3 hlt
          rw [hVs2] at hV3 hg2
          have hsz3 : wr.heap.size < (W4.alloc (.cells (Array.replicate L (Value.int .i64 0)) 3)).heap.size := by rw [World.size_alloc]; omega
          have FF : FInv w (W4.alloc (.cells (Array.replicate L (Value.int .i64 0)) 3)).drew bx bi wr.heap.size i k 0 n K L [.slice adc n cc, mv, gv, sfv, .int .i64 (ch : Int), .slice (some ⟨pb, po, none⟩) K pc, .slice (some ⟨tb, 0, none⟩) n tc, .slice (some ⟨w.heap.size, 0, none⟩) n n] R RV2 Vs2 :=
            ⟨(ho2.alloc _).drew, (vx2.mono ba).drew, hR.same (Same.drew hs4) (Nat.lt_succ_self _) hsz, hV3.same (Same.refl _ _ _).drew (Nat.lt_succ_self _) hb3, hbx, hsz, hb3, hsz3, _, z4, by simp, fun m hm => by omega⟩
          have HG2 := Lib.hid hg2
          clear z4 ba hs3 hs4 hV3 hV hv2 hs1 hs2 vx2 ho2 hs0 hg2 hVs2 hWe hsz3 vx ho hR cbk fbk
          generalize (W4.alloc (.cells (Array.replicate L (Value.int .i64 0)) 3)).drew = W5 at *
          generalize wr.heap.size = h at *
          have c4 := (xcells FF.2.1).2.1
          have hLi := HLI.out
          go_upto_region 11 with (fail)
          clear hLi c4
          go_wp2
          go_loopw [68] (fun lv wr => ∃ l : Nat, lv = .int .i64 (l : Int) ∧ l ≤ L ∧ FInv w wr bx bi h i k l n K L [.slice adc n cc, mv, gv, sfv, .int .i64 (ch : Int), .slice (some ⟨pb, po, none⟩) K pc, .slice (some ⟨tb, 0, none⟩) n tc, .slice (some ⟨w.heap.size, 0, none⟩) n n] R RV2 Vs2)
            (fun lv _ => L - (intOf lv).toNat)
          case atStart => exact ⟨0, rfl, Nat.zero_le _, FF⟩
          case round =>
            clear FF
            obtain ⟨l, rfl, hl, FF⟩ := hrel
            by_cases hll : l < L
            · have l1 : (0 : Int) ≤ (l : Int) := by omega
              have l2 : (l : Int) < (L : Int) := by omega
              obtain ⟨c5, c6, c7, cwi, cbk, ⟨z0, chl⟩, fhl, sm⟩ := FF.facts hin hlt hll HGET.out HG2.out
              obtain ⟨g, c', g1, g2, g3, g4, g5, g6⟩ := HTC.out i hin
              have g7 := g6 k hlt
              have cti := sm.cell g3 (by dsimp only; omega) ht2
              have cpk := sm.cell g7 (by dsimp only; omega) g2
              clear g1 g2 g3 g4 g5 g6 g7 c5
              obtain ⟨p, hp⟩ : ∃ p, pr i k = p := ⟨_, rfl⟩
              have hpb := HPR.out i k
              rw [hp] at cpk hpb
              have SM := Lib.hid sm
              clear sm
              by_cases q1 : p = -1
              · have HV := Lib.hid (show (-1 : Int) = R i k l from (HRN.out i k hin (by rw [hp]; exact q1) l).symm)
                subst q1
                have t1 : ((-1 : Int) != -1) = false := rfl
                clear hp hpb
                go_wp2
                go_roundw
                case rel => exact ⟨l + 1, by go_num, by omega, FF.store hll _ HV.out⟩
                case measure => simp [intOf]; omega
              have t1 : (p != -1) = true := by rw [bne_iff_ne]; exact q1
              by_cases q2 : i + 1 = n
              · have HV := Lib.hid (show p = R i k l by rw [HRL.out i q2 k l, hp])
                have t2 : ¬ ((i : Int) < (n : Int) - 1) := by omega
                have t3 : decide ((i : Int) < (n : Int) - 1) = false := decide_eq_false t2
                clear hp hpb q1 q2
                go_wp2
                go_roundw
                case rel => exact ⟨l + 1, by go_num, by omega, FF.store hll _ HV.out⟩
                case measure => simp [intOf]; omega
              have t2 : (i : Int) < (n : Int) - 1 := by omega
              have hi1 : i + 1 < n := by omega
              have hrm := HRM.out i k hi1 (by rw [hp]; exact q1) l
              rw [hp] at hrm
              have hrb := HRB.out (i + 1) k l hi1
              obtain ⟨b1, hr1, hr2⟩ := FF.row hi1
              obtain ⟨c5, _⟩ := FF.facts hin hlt hll HGET.out HG2.out
              have ON := onward_calls bx pb po pc w.heap.size b1 n K L ng i k l [] (R (i + 1)) wr c5 c7 hr1 hr2
                (fun k hk => ⟨SM.out.cell (HPK.out k hk).1 hp1 hp2, SM.out.cell (HPK.out k hk).2 hp1 hp2⟩) hi1 (by omega) (by omega) (by omega) hlt hll
              obtain ⟨mo, hmo⟩ : ∃ m, (onw (folN ng) K (R (i + 1)) k l).1 = m := ⟨_, rfl⟩
              obtain ⟨wh, hwh⟩ : ∃ m, (onw (folN ng) K (R (i + 1)) k l).2 = m := ⟨_, rfl⟩
              rw [hmo] at hrm hrb
              rw [hmo, hwh] at ON
              have HRMM := Lib.hid hrm
              have HON := Lib.hid ON
              clear ON hrm hmo hwh hr1 hr2 c5 hp
              have q1h := Lib.hid q1
              clear q1
              go_wp2_with fail
              refine (HON.out).mono ?_
              rintro e z1 ⟨rfl, b5⟩
              replace FF := FF.mono b5
              clear b5 HON c6 c7 cwi cbk chl fhl cti cpk SM
              obtain ⟨c5, c6, c7, cwi, cbk, ⟨z2, chl⟩, fhl, sm⟩ := FF.facts hin hlt hll HGET.out HG2.out
              clear c5 c6 sm
              by_cases q3 : mo = -1
              · have HV := Lib.hid (show (-1 : Int) = R i k l by rw [HRMM.out, if_pos q3])
                subst q3
                clear hrb
                go_wp2
                go_roundw
                case rel => exact ⟨l + 1, by go_num, by omega, FF.store hll _ HV.out⟩
                case measure => simp [intOf]; omega
              · have HV := Lib.hid (show p + mo = R i k l by rw [HRMM.out, if_neg q3])
                have t4 : (mo == -1) = false := by rw [beq_eq_false_iff_ne]; exact q3
                clear q3
                go_wp2
                go_roundw
                case rel => exact ⟨l + 1, by go_num, by omega, FF.store hll _ HV.out⟩
                case measure => simp [intOf]; omega
            · obtain rfl : l = L := by omega
              have KD := FF.done rfl HG2.out
              obtain ⟨f1, f2, f3, f4, f5, f6, f7, f8, _⟩ := FF
              go_wp2
              go_roundw
              case rel => exact ⟨k + 1, by go_num, by omega, f1, f2, f3, Nat.lt_trans f7 f8, _, KD⟩
              case measure => simp [intOf]; omega
        · obtain rfl : k = K := by omega
          have RI := hV.row (lo' := w.heap.size + 1) hsz (Nat.lt_succ_self _) hb3
          rw [← HGET.out] at RI
          have hR3 := hR.push RI (Nat.le_of_lt hb3)
          clear c4 c5 c7
          go_wp2
          go_roundw
          case rel => exact ⟨i, by rfl, by omega, ho, vx, _, hR3⟩
          case measure => simp [intOf]

end Go.Proofs
end

