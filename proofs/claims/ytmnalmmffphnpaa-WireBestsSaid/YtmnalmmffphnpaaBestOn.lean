/- wire: search.follows and search.onward. -/
import Derived.Test.YtmnalmmffphnpaaBestMem
import Derived.Deep.RegionHeld3
import Derived.Deep.Cut
open Go.RowKit Go.Deep
namespace Go.Proofs
set_option linter.unusedVariables false
set_option linter.unusedSimpArgs false

theorem fcellsP {w : World} {bx pb po a b : Nat} {x a0 a1 b0 b1 : Value} (h5 : w.cell? ⟨bx, 5, none⟩ = some x) (ha : w.cell? ⟨pb, po + a * 2, none⟩ = some a0 ∧ w.cell? ⟨pb, po + a * 2 + 1, none⟩ = some a1) (hb : w.cell? ⟨pb, po + b * 2, none⟩ = some b0 ∧ w.cell? ⟨pb, po + b * 2 + 1, none⟩ = some b1) :
    ∀ W, Below w.heap.size w W → W.cell? ⟨bx, 5, none⟩ = some x ∧ W.cell? ⟨pb, po + a * 2, none⟩ = some a0 ∧ W.cell? ⟨pb, po + a * 2 + 1, none⟩ = some a1 ∧ W.cell? ⟨pb, po + b * 2, none⟩ = some b0 ∧ W.cell? ⟨pb, po + b * 2 + 1, none⟩ = some b1 := fun W hW =>
  ⟨(hW.cell (cell_lt h5)).trans h5, (hW.cell (cell_lt ha.1)).trans ha.1, (hW.cell (cell_lt ha.2)).trans ha.2, (hW.cell (cell_lt hb.1)).trans hb.1, (hW.cell (cell_lt hb.2)).trans hb.2⟩

set_option maxRecDepth 100000 in
set_option maxHeartbeats 1000000 in
theorem follows_calls (bx pb po c a b K : Nat) (A C : Pk) (w : World) (h5 : w.cell? ⟨bx, 5, none⟩ = some (.slice (some ⟨pb, po, none⟩) K c)) (ha : a < K) (hb : b < K) (hK : K ≤ 1000)
    (hca : w.cell? ⟨pb, po + a * 2, none⟩ = some (.int .i64 A.m) ∧ w.cell? ⟨pb, po + a * 2 + 1, none⟩ = some (.int .i64 A.g)) (hcb : w.cell? ⟨pb, po + b * 2, none⟩ = some (.int .i64 C.m) ∧ w.cell? ⟨pb, po + b * 2 + 1, none⟩ = some (.int .i64 C.g)) :
    Calls Try.prog 59 #[.pointer (some ⟨bx, 0, none⟩), .int .i64 (a : Int), .int .i64 (b : Int)] w fun e w' => e = .returned (.bool (decide (A.m ≤ C.m) && decide (A.g ≤ C.g))) ∧ Below w.heap.size w w' := by
  obtain ⟨R, hR⟩ : ∃ R, (decide (A.m ≤ C.m) && decide (A.g ≤ C.g)) = R := ⟨_, rfl⟩
  rw [hR]
  have HR := Lib.hid hR
  have HS := Lib.hid (fcellsP h5 hca hcb)
  clear hR h5 hca hcb
  have a1 : (0 : Int) ≤ (a : Int) := by omega
  have a2 : (a : Int) < (K : Int) := by omega
  have b1 : (0 : Int) ≤ (b : Int) := by omega
  have b2 : (b : Int) < (K : Int) := by omega
  go_enter Try.func59, Try.ntmps59
  go_upto_region 1 with (fail)
  go_region_held3 (fun W => W.cell? ⟨bx, 5, none⟩ = some (.slice (some ⟨pb, po, none⟩) K c) ∧ W.cell? ⟨pb, po + a * 2, none⟩ = some (.int .i64 A.m) ∧ W.cell? ⟨pb, po + a * 2 + 1, none⟩ = some (.int .i64 A.g) ∧ W.cell? ⟨pb, po + b * 2, none⟩ = some (.int .i64 C.m) ∧ W.cell? ⟨pb, po + b * 2 + 1, none⟩ = some (.int .i64 C.g))
    (first | exact HS.out _ (bel0 _) | exact HS.out _ (bel1 _ _) | exact HS.out _ (bel2 _ _ _))
    (fail)
  · obtain ⟨x1, x2, x3⟩ := vals_two w [.int .i64 A.m, .int .i64 A.g] [.int .i64 C.m, .int .i64 C.g] 52 52
    have vA := x1
    have vC := x2
    have B := x3
    clear x1 x2 x3
    have cA0 := vA.cell (i := 0) (by simp)
    have cA1 := vA.cell (i := 1) (by simp)
    have cC0 := vC.cell (i := 0) (by simp)
    have cC1 := vC.cell (i := 1) (by simp)
    simp only [List.getD_cons_zero, List.getD_cons_succ] at cA0 cA1 cC0 cC1
    have lA := vA.lt
    have lC := vC.lt
    by_cases h1 : A.m ≤ C.m
    · by_cases h2 : A.g ≤ C.g
      · have HRR := Lib.hid (show R = true by rw [← HR.out, decide_eq_true h1, decide_eq_true h2]; rfl)
        go_wp2
        go_ret
        exact ⟨by rw [HRR.out]; rfl, B⟩
      · have HRR := Lib.hid (show R = false by rw [← HR.out, decide_eq_false h2, Bool.and_false])
        have d2 : decide (A.g ≤ C.g) = false := decide_eq_false h2
        go_wp2
        go_ret
        exact ⟨by rw [HRR.out]; rfl, B⟩
    · have HRR := Lib.hid (show R = false by rw [← HR.out, decide_eq_false h1]; rfl)
      have d1 : decide (A.m ≤ C.m) = false := decide_eq_false h1
      go_wp2
      go_ret
      exact ⟨by rw [HRR.out]; rfl, B⟩
  · obtain ⟨x1, x2, x3⟩ := vals_two w [.int .i64 C.m, .int .i64 C.g] [.int .i64 A.m, .int .i64 A.g] 52 52
    have vC := x1
    have vA := x2
    have B := x3
    clear x1 x2 x3
    have cA0 := vA.cell (i := 0) (by simp)
    have cA1 := vA.cell (i := 1) (by simp)
    have cC0 := vC.cell (i := 0) (by simp)
    have cC1 := vC.cell (i := 1) (by simp)
    simp only [List.getD_cons_zero, List.getD_cons_succ] at cA0 cA1 cC0 cC1
    have lA := vA.lt
    have lC := vC.lt
    by_cases h1 : A.m ≤ C.m
    · by_cases h2 : A.g ≤ C.g
      · have HRR := Lib.hid (show R = true by rw [← HR.out, decide_eq_true h1, decide_eq_true h2]; rfl)
        go_wp2
        go_ret
        exact ⟨by rw [HRR.out]; rfl, B⟩
      · have HRR := Lib.hid (show R = false by rw [← HR.out, decide_eq_false h2, Bool.and_false])
        have d2 : decide (A.g ≤ C.g) = false := decide_eq_false h2
        go_wp2
        go_ret
        exact ⟨by rw [HRR.out]; rfl, B⟩
    · have HRR := Lib.hid (show R = false by rw [← HR.out, decide_eq_false h1]; rfl)
      have d1 : decide (A.m ≤ C.m) = false := decide_eq_false h1
      go_wp2
      go_ret
      exact ⟨by rw [HRR.out]; rfl, B⟩

theorem valueat {w : World} {h L l : Nat} {F : Nat → Int} (hc : ∀ l, l < L → w.cell? ⟨h, l, none⟩ = some (.int .i64 (F l))) (hl : l < L) : w.cell? ⟨h, l, none⟩ = some (.int .i64 (F l)) := hc l hl
set_option maxRecDepth 100000 in
set_option maxHeartbeats 4000000 in
theorem onward_calls (bx pb po pc br bi n K L ng i frm left : Nat) (PL : List Pk) (F : Nat → Nat → Int) (w : World) (h5 : w.cell? ⟨bx, 5, none⟩ = some (.slice (some ⟨pb, po, none⟩) K pc)) (h7 : w.cell? ⟨bx, 7, none⟩ = some (.slice (some ⟨br, 0, none⟩) n n))
    (hrow : w.cell? ⟨br, i + 1, none⟩ = some (.slice (some ⟨bi, 0, none⟩) K K)) (hF : ∀ k, k < K → ∃ h, w.cell? ⟨bi, k, none⟩ = some (.slice (some ⟨h, 0, none⟩) L L) ∧ ∀ l, l < L → w.cell? ⟨h, l, none⟩ = some (.int .i64 (F k l)))
    (hP : ∀ k, k < K → w.cell? ⟨pb, po + k * 2, none⟩ = some (.int .i64 ((k / ng : Nat) : Int)) ∧ w.cell? ⟨pb, po + k * 2 + 1, none⟩ = some (.int .i64 ((k % ng : Nat) : Int)))
    (hi : i + 1 < n) (hn : n ≤ 1000) (hK : K ≤ 1000) (hL : L ≤ 1000) (hf : frm < K) (hl : left < L) :
    Calls Try.prog 48 #[.pointer (some ⟨bx, 0, none⟩), .int .i64 (i : Int), .int .i64 (frm : Int), .int .i64 (left : Int)] w fun e w' =>
      e = .returned (.tuple #[.int .i64 (onw (folN ng) K F frm left).1, .int .i64 ((onw (folN ng) K F frm left).2 : Int)]) ∧ Below w.heap.size w w' := by
  obtain ⟨f, hf2⟩ : ∃ f, onwF (folN ng) F frm left = f := ⟨_, rfl⟩
  have hres : onw (folN ng) K F frm left = amin f K := by rw [← hf2]; rfl
  rw [hres]
  have FO := fun (t : Nat) (ht : t < K) (W : World) (hW : Below w.heap.size w W) => follows_calls bx pb po pc frm t K ⟨((frm / ng : Nat) : Int), ((frm % ng : Nat) : Int)⟩ ⟨((t / ng : Nat) : Int), ((t % ng : Nat) : Int)⟩ W
    ((hW.cell (cell_lt h5)).trans h5) hf ht hK ⟨(hW.cell (cell_lt (hP frm hf).1)).trans (hP frm hf).1, (hW.cell (cell_lt (hP frm hf).2)).trans (hP frm hf).2⟩ ⟨(hW.cell (cell_lt (hP t ht).1)).trans (hP t ht).1, (hW.cell (cell_lt (hP t ht).2)).trans (hP t ht).2⟩
  have FO2 : ∀ (t : Nat) (ht : t < K) (W : World) (hW : Below w.heap.size w W), Calls Try.prog 59 #[.pointer (some ⟨bx, 0, none⟩), .int .i64 (frm : Int), .int .i64 (t : Int)] W fun e w' => e = .returned (.bool (folN ng frm t)) ∧ Below W.heap.size W w' := fun t ht W hW => by
    have h := FO t ht W hW
    have e : folN ng frm t = (decide (((frm / ng : Nat) : Int) ≤ ((t / ng : Nat) : Int)) && decide (((frm % ng : Nat) : Int) ≤ ((t % ng : Nat) : Int))) := by
      unfold folN
      congr 1
      · congr 1; apply propext; exact Int.ofNat_le.symm
      · congr 1; apply propext; exact Int.ofNat_le.symm
    rw [e]
    exact h
  have HFO := Lib.hid FO2
  have HF2 := Lib.hid hf2
  have HFF := Lib.hid hF
  have H7 := Lib.hid h7
  have HROW := Lib.hid hrow
  have H5 := Lib.hid h5
  clear FO FO2 hf2 hres hF h7 hrow hP
  go_enter Try.func48, Try.ntmps48
  go_wp2
  clear h5
  go_loopw [20, 10, 11] (fun tv av bv wr => ∃ t : Nat, tv = .int .i64 (t : Int) ∧ t ≤ K ∧ av = .int .i64 (amin f t).1 ∧ bv = .int .i64 ((amin f t).2 : Int) ∧ Below w.heap.size w wr)
    (fun tv _ _ _ => K - (intOf tv).toNat)
  case atStart => exact ⟨0, rfl, Nat.zero_le _, rfl, rfl, Below.refl _ _⟩
  case round =>
    obtain ⟨t, rfl, ht, rfl, rfl, B⟩ := hrel
    obtain ⟨lv, hlv⟩ : ∃ v, (amin f t).1 = v := ⟨_, rfl⟩
    obtain ⟨wv, hwv⟩ : ∃ v, (amin f t).2 = v := ⟨_, rfl⟩
    rw [hlv, hwv]
    have HLV := Lib.hid hlv
    have HWV := Lib.hid hwv
    clear hlv hwv
    by_cases hlt : t < K
    · have t1 : (0 : Int) ≤ (t : Int) := by omega
      have t2 : (t : Int) < (K : Int) := by omega
      obtain ⟨h, hc1, hc2⟩ := HFF.out t hlt
      have HC2 := Lib.hid hc2
      clear hc2
      by_cases hto : t = frm
      · have g0 : ((t : Int) != (frm : Int)) = false := by rw [hto]; simp
        have HTO := Lib.hid hto
        clear hto
        have gl : ¬ ((left : Int) < 0) := by omega
        have CV := valueat HC2.out hl
        cases hfol : folN ng frm t with
        | false =>
          have HN := Lib.hid (show amin f (t + 1) = amin f t by rw [amin, if_neg (by rw [← HF2.out]; unfold onwF; rw [hfol]; simp)])
          go_wp2_with fail
          have FW := HFO.out t hlt _ B
          rw [hfol] at FW
          refine FW.mono ?_
          rintro e w1 ⟨rfl, b1⟩
          replace B := below_trans B b1
          clear b1 FW
          clear hfol
          go_wp2
          go_roundw
          case rel => exact ⟨t + 1, by go_num, by omega, by rw [HN.out]; first | done | rw [HLV.out], by rw [HN.out]; first | done | rw [HWV.out], B⟩
          case measure => simp [intOf]; omega
        | true =>
          obtain ⟨c, hcv⟩ : ∃ c, F t left = c := ⟨_, rfl⟩
          rw [hcv] at CV
          have HF := Lib.hid (show f t = c by rw [← HF2.out]; unfold onwF; rw [hfol, if_pos rfl, if_pos HTO.out]; exact hcv)
          go_wp2_with fail
          have FW := HFO.out t hlt _ B
          rw [hfol] at FW
          refine FW.mono ?_
          rintro e w1 ⟨rfl, b1⟩
          replace B := below_trans B b1
          clear b1 FW
          clear hfol
          have c7 := (B.cell (cell_lt H7.out)).trans H7.out
          have cr := (B.cell (cell_lt HROW.out)).trans HROW.out
          have cb := (B.cell (cell_lt hc1)).trans hc1
          have cv := (B.cell (cell_lt CV)).trans CV
          by_cases q1 : c = -1
          · have HN := Lib.hid (show amin f (t + 1) = amin f t by rw [amin, if_neg (by rw [HF.out]; exact fun h => h.1 q1)])
            have g1 : (c == -1) = true := by rw [beq_iff_eq]; exact q1
            have g2 : (c != -1) = false := by rw [q1]; rfl
            clear q1
            go_wp2
            go_roundw
            case rel => exact ⟨t + 1, by go_num, by omega, by rw [HN.out]; first | done | rw [HLV.out], by rw [HN.out]; first | done | rw [HWV.out], B⟩
            case measure => simp [intOf]; omega
          have g1 : (c == -1) = false := by rw [beq_eq_false_iff_ne]; exact q1
          have g2 : (c != -1) = true := by rw [bne_iff_ne]; exact q1
          by_cases q2 : lv = -1
          · have HN := Lib.hid (show amin f (t + 1) = (c, t) by rw [amin, HF.out, if_pos ⟨q1, .inl (by rw [HLV.out]; exact q2)⟩])
            have g3 : (lv == -1) = true := by rw [beq_iff_eq]; exact q2
            clear q1 q2
            go_wp2
            go_roundw
            case rel => exact ⟨t + 1, by go_num, by omega, by rw [HN.out]; first | done | rw [HLV.out], by rw [HN.out]; first | done | rw [HWV.out], B⟩
            case measure => simp [intOf]; omega
          have g3 : (lv == -1) = false := by rw [beq_eq_false_iff_ne]; exact q2
          by_cases q3 : c < lv
          · have HN := Lib.hid (show amin f (t + 1) = (c, t) by rw [amin, HF.out, if_pos ⟨q1, .inr (by rw [HLV.out]; exact q3)⟩])
            clear q1 q2
            go_wp2
            go_roundw
            case rel => exact ⟨t + 1, by go_num, by omega, by rw [HN.out]; first | done | rw [HLV.out], by rw [HN.out]; first | done | rw [HWV.out], B⟩
            case measure => simp [intOf]; omega
          · have HN := Lib.hid (show amin f (t + 1) = amin f t by rw [amin, if_neg (by rw [HF.out, HLV.out]; exact fun h => h.2.elim q2 q3)])
            have g4 : decide (c < lv) = false := decide_eq_false q3
            clear q1 q2
            go_wp2
            go_roundw
            case rel => exact ⟨t + 1, by go_num, by omega, by rw [HN.out]; first | done | rw [HLV.out], by rw [HN.out]; first | done | rw [HWV.out], B⟩
            case measure => simp [intOf]; omega
      · have g0 : ((t : Int) != (frm : Int)) = true := by rw [bne_iff_ne]; omega
        have HTO := Lib.hid hto
        clear hto
        by_cases hl0 : left = 0
        · have gl : (left : Int) - 1 < 0 := by omega
          have HN := Lib.hid (show amin f (t + 1) = amin f t by rw [amin, if_neg (by rw [← HF2.out]; unfold onwF; rw [if_neg HTO.out, if_pos hl0]; split <;> simp)])
          have HL0 := Lib.hid hl0
          clear hl0
          go_wp2
          go_roundw
          case rel => exact ⟨t + 1, by go_num, by omega, by rw [HN.out]; first | done | rw [HLV.out], by rw [HN.out]; first | done | rw [HWV.out], B⟩
          case measure => simp [intOf]; omega
        · obtain ⟨l2, hl2⟩ : ∃ l2, left = l2 + 1 := ⟨left - 1, by omega⟩
          have HL0 := Lib.hid hl0
          have HL2 := Lib.hid hl2
          have hl3 : l2 < L := by omega
          have gl : ¬ ((left : Int) - 1 < 0) := by omega
          have k0 : (1 : Int) ≤ (left : Int) := by omega
          have k1 : (0 : Int) ≤ (left : Int) - 1 := by omega
          have k2 : (left : Int) - 1 < (L : Int) := by omega
          have k3 : ((left : Int) - 1).toNat = l2 := by omega
          clear hl0 hl2
          have CV := valueat HC2.out hl3
          cases hfol : folN ng frm t with
          | false =>
            have HN := Lib.hid (show amin f (t + 1) = amin f t by rw [amin, if_neg (by rw [← HF2.out]; unfold onwF; rw [hfol]; simp)])
            go_wp2_with fail
            have FW := HFO.out t hlt _ B
            rw [hfol] at FW
            refine FW.mono ?_
            rintro e w1 ⟨rfl, b1⟩
            replace B := below_trans B b1
            clear b1 FW
            clear hfol
            go_wp2
            go_roundw
            case rel => exact ⟨t + 1, by go_num, by omega, by rw [HN.out]; first | done | rw [HLV.out], by rw [HN.out]; first | done | rw [HWV.out], B⟩
            case measure => simp [intOf]; omega
          | true =>
            obtain ⟨c, hcv⟩ : ∃ c, F t l2 = c := ⟨_, rfl⟩
            rw [hcv] at CV
            have HF := Lib.hid (show f t = c by rw [← HF2.out]; unfold onwF; rw [hfol, if_pos rfl, if_neg HTO.out, if_neg HL0.out, show left - 1 = l2 from by rw [HL2.out]; rfl]; exact hcv)
            go_wp2_with fail
            have FW := HFO.out t hlt _ B
            rw [hfol] at FW
            refine FW.mono ?_
            rintro e w1 ⟨rfl, b1⟩
            replace B := below_trans B b1
            clear b1 FW
            clear hfol
            have c7 := (B.cell (cell_lt H7.out)).trans H7.out
            have cr := (B.cell (cell_lt HROW.out)).trans HROW.out
            have cb := (B.cell (cell_lt hc1)).trans hc1
            have cv := (B.cell (cell_lt CV)).trans CV
            by_cases q1 : c = -1
            · have HN := Lib.hid (show amin f (t + 1) = amin f t by rw [amin, if_neg (by rw [HF.out]; exact fun h => h.1 q1)])
              have g1 : (c == -1) = true := by rw [beq_iff_eq]; exact q1
              have g2 : (c != -1) = false := by rw [q1]; rfl
              clear q1
              go_wp2
              go_roundw
              case rel => exact ⟨t + 1, by go_num, by omega, by rw [HN.out]; first | done | rw [HLV.out], by rw [HN.out]; first | done | rw [HWV.out], B⟩
              case measure => simp [intOf]; omega
            have g1 : (c == -1) = false := by rw [beq_eq_false_iff_ne]; exact q1
            have g2 : (c != -1) = true := by rw [bne_iff_ne]; exact q1
            by_cases q2 : lv = -1
            · have HN := Lib.hid (show amin f (t + 1) = (c, t) by rw [amin, HF.out, if_pos ⟨q1, .inl (by rw [HLV.out]; exact q2)⟩])
              have g3 : (lv == -1) = true := by rw [beq_iff_eq]; exact q2
              clear q1 q2
              go_wp2
              go_roundw
              case rel => exact ⟨t + 1, by go_num, by omega, by rw [HN.out]; first | done | rw [HLV.out], by rw [HN.out]; first | done | rw [HWV.out], B⟩
              case measure => simp [intOf]; omega
            have g3 : (lv == -1) = false := by rw [beq_eq_false_iff_ne]; exact q2
            by_cases q3 : c < lv
            · have HN := Lib.hid (show amin f (t + 1) = (c, t) by rw [amin, HF.out, if_pos ⟨q1, .inr (by rw [HLV.out]; exact q3)⟩])
              clear q1 q2
              go_wp2
              go_roundw
              case rel => exact ⟨t + 1, by go_num, by omega, by rw [HN.out]; first | done | rw [HLV.out], by rw [HN.out]; first | done | rw [HWV.out], B⟩
              case measure => simp [intOf]; omega
            · have HN := Lib.hid (show amin f (t + 1) = amin f t by rw [amin, if_neg (by rw [HF.out, HLV.out]; exact fun h => h.2.elim q2 q3)])
              have g4 : decide (c < lv) = false := decide_eq_false q3
              clear q1 q2
              go_wp2
              go_roundw
              case rel => exact ⟨t + 1, by go_num, by omega, by rw [HN.out]; first | done | rw [HLV.out], by rw [HN.out]; first | done | rw [HWV.out], B⟩
              case measure => simp [intOf]; omega
    · obtain rfl : t = K := by omega
      have HAV := Lib.hid (show amin f t = (lv, wv) by rw [← HLV.out, ← HWV.out])
      go_wp2
      go_ret2
      exact ⟨by rw [HAV.out]; rfl, B⟩

end Go.Proofs
