/- the reference's Floor. -/
import Derived.Test.YtfbfamfgdodncaaFloor2
open Go.RowKit Go.Deep
namespace Go.Proofs
set_option linter.unusedVariables false

set_option maxRecDepth 100000 in
theorem rfloor_calls (g c n : Nat) (zs : List Int) (C : Int) (w : World) (hn : n = zs.length) (hcap : zs.length ≤ c ∧ c ≤ maxLen) (h : CellZ w g zs) (hc : codeZ zs C = 0) :
    Calls Try.prog 33 #[.slice (some ⟨g, 0, none⟩) n c, .int .i64 C] w fun e w' => e = .returned (.int .i64 (bestTo zs C n n)) ∧ Below w.heap.size w w' := by
  have hf := fine_of_code hc
  rw [← hn] at hf
  have HN := Lib.hid hn
  have HF := Lib.hid hf
  have hn14 := hf.1
  have hC1 := hf.2.1
  have hC2 := hf.2.2.1
  have hb0 := below_alloc w (.cells #[.int .i64 0] 3)
  obtain ⟨R, hR⟩ : ∃ R, bestTo zs C n n = R := ⟨_, rfl⟩
  rw [hR]
  have HR := Lib.hid hR
  clear hR
  have hrd := (h.rd hcap.1 hcap.2).mono hb0
  have hone := owns_one w 0
  clear hn hc hf hcap
  go_enter Try.func33, Try.ntmps33
  go_wp2_with (at_builtin; refine wpList_append_ints rfl (.tmp 17) (.tmp 18) _ rfl Try.underlying38 info_int w.heap.size (.slice (some ⟨w.heap.size, 0, none⟩) 1 1) [0] rfl (by simp) hone hb0.size _ _ _ zs rfl HN.out hrd (by simp; have := HN.out; omega) (n + 1) (by simp; have := HN.out; omega) ?_; intro g2 c2 w3 hg2 hgc hgm hz2 hb3; clear hrd hone hgc hgm; refine Hid.out ?_)
  have bb := hb0.trans hb3
  replace h := h.mono bb
  have hz : CellZ w3 g2 (0 :: zs) := hz2
  clear hb0 hb3 hz2
  refine Lib.hid ?_
  go_wp2
  go_loopw [6, 7] (fun bv iv wr => ∃ i : Nat, i ≤ n + 1 ∧ (n = 0 → i = 0) ∧ iv = .int .i64 i ∧ bv = .int .i64 (refTo zs C n i) ∧ CellZ wr g zs ∧ CellZ wr g2 (0 :: zs) ∧ Below w.heap.size w wr) (fun _ iv _ => n + 1 - (intOf iv).toNat)
  case atStart => exact ⟨0, by omega, fun _ => rfl, rfl, rfl, h, hz, bb⟩
  case round =>
    obtain ⟨i, hi, hi0, rfl, rfl, h, hz, bb⟩ := hrel
    by_cases hn0 : n = 0
    · obtain rfl := hi0 hn0
      have e1 : bestTo zs C n n = 0 := by rw [hn0]; rfl
      have e2 : refTo zs C n 0 = 0 := rfl
      have E1 := Lib.hid e1
      have E2 := Lib.hid e2
      have t1 : ((0 : Nat) : Int) < (n : Int) + 1 := by omega
      have t2 : ¬ (0 : Int) < (n : Int) := by omega
      clear e1 e2 hi hi0 hn0
      go_wp2
      go_ret
      exact ⟨by rw [← HR.out, E1.out, ← E2.out] <;> rfl, bb⟩
    · have t2 : (0 : Int) < (n : Int) := by omega
      by_cases hlt : i < n + 1
      · have hcell := hz.cell (i := i) (by have := HN.out; simp; omega)
        have t1 : (i : Int) < (n : Int) + 1 := by omega
        have hk : 0 ≤ (0 :: zs).getD i 0 ∧ (0 :: zs).getD i 0 ≤ C := by
          rcases i with _ | i
          · simp; omega
          · have := HF.out.2.2.2 i (by omega)
            simp only [List.getD_cons_succ]
            omega
        have e1 : refTo zs C n (i + 1) = if C < 2 * (0 :: zs).getD i 0 then refTo zs C n i else max (refTo zs C n i) (boundZ zs C ((0 :: zs).getD i 0) n) := rfl
        have hbest : 0 ≤ refTo zs C n i ∧ refTo zs C n i ≤ 14000000014 := by
          rcases i with _ | i
          · simp [refTo]
          · rw [refTo_best HF.out]; exact bestTo_bounds HF.out i
        obtain ⟨k, ek⟩ : ∃ k, (0 :: zs).getD i 0 = k := ⟨_, rfl⟩
        rw [ek] at hcell hk e1
        generalize refTo zs C n i = best at *
        obtain ⟨hk1, hk2⟩ := hk
        obtain ⟨hbest1, hbest2⟩ := hbest
        have E1 := Lib.hid e1
        have HI := Lib.hid (And.intro hlt hn0)
        clear e1 ek hi0 hlt hn0
        by_cases q : C < 2 * k
        · go_wp2
          go_roundw
          case rel => exact ⟨i + 1, by have := HI.out; omega, fun e => absurd e HI.out.2, by go_num, by rw [E1.out, if_pos q], h, hz, bb⟩
          case measure => have := HI.out; simp [intOf]; omega
        · rw [if_neg q] at E1
          go_wp2
          go_loopw [9, 10, 11, 12, 13] (fun fv sv cv mv jv wi => ∃ j : Nat, j ≤ n ∧ jv = .int .i64 j ∧ fv = .int .i64 (fstTo zs C k j) ∧ sv = .int .i64 (sndTo zs C k j) ∧ cv = .int .i64 (secTo zs C k j) ∧ mv = .int .i64 (smallTo zs C k j) ∧ CellZ wi g zs ∧ CellZ wi g2 (0 :: zs) ∧ Below w.heap.size w wi) (fun _ _ _ _ jv _ => n - (intOf jv).toNat)
          case atStart => exact ⟨0, by omega, rfl, rfl, rfl, rfl, rfl, h, hz, bb⟩
          case round =>
            clear h hz bb hcell
            obtain ⟨j, hj, rfl, rfl, rfl, rfl, rfl, h, hz, bb⟩ := hrel
            have T := tos zs C k HF.out j hj
            by_cases hlt : j < n
            · have hcell := h.cell (i := j) (by have := HN.out; omega)
              have hp := HF.out.2.2.2 j hlt
              have e1 : fstTo zs C k (j + 1) = fstTo zs C k j + (if C - k < zs.getD j 0 then 1 else 0) := rfl
              have e2 : sndTo zs C k (j + 1) = sndTo zs C k j + (if C - k < zs.getD j 0 then 0 else if C < 2 * zs.getD j 0 then 1 else 0) := rfl
              have e3 : secTo zs C k (j + 1) = secTo zs C k j + (if C - k < zs.getD j 0 then 0 else if C < 2 * zs.getD j 0 then zs.getD j 0 else 0) := rfl
              have e4 : smallTo zs C k (j + 1) = smallTo zs C k j + (if C - k < zs.getD j 0 then 0 else if C < 2 * zs.getD j 0 then 0 else if k ≤ zs.getD j 0 then zs.getD j 0 else 0) := rfl
              have T1 : 0 ≤ fstTo zs C k j ∧ fstTo zs C k j ≤ 14 := by omega
              have T2 : 0 ≤ sndTo zs C k j ∧ sndTo zs C k j ≤ 14 := by omega
              have T3 : 0 ≤ secTo zs C k j ∧ secTo zs C k j ≤ 14000000000 := by omega
              have T4 : 0 ≤ smallTo zs C k j ∧ smallTo zs C k j ≤ 14000000000 := by omega
              clear T
              obtain ⟨p, ep⟩ : ∃ p, zs.getD j 0 = p := ⟨_, rfl⟩
              rw [ep] at hcell e1 e2 e3 e4 hp
              generalize fstTo zs C k j = a at *
              generalize sndTo zs C k j = b at *
              generalize secTo zs C k j = s2 at *
              generalize smallTo zs C k j = s3 at *
              have E11 := Lib.hid e1
              have E12 := Lib.hid e2
              have E13 := Lib.hid e3
              have E14 := Lib.hid e4
              have t1 : (j : Int) < (n : Int) := by omega
              clear e1 e2 e3 e4 ep hlt
              obtain ⟨hp1, hp2⟩ := hp
              obtain ⟨a1, a2⟩ := T1
              obtain ⟨b1, b2⟩ := T2
              obtain ⟨c1, c2⟩ := T3
              obtain ⟨d1, d2⟩ := T4
              by_cases q1 : C - k < p
              · go_wp2
                go_roundw
                case rel => exact ⟨j + 1, by omega, by go_num, by rw [E11.out, if_pos q1], by rw [E12.out, if_pos q1, Int.add_zero], by rw [E13.out, if_pos q1, Int.add_zero], by rw [E14.out, if_pos q1, Int.add_zero], h, hz, bb⟩
                case measure => simp [intOf]; omega
              · by_cases q2 : C < 2 * p
                · go_wp2
                  go_roundw
                  case rel => exact ⟨j + 1, by omega, by go_num, by rw [E11.out, if_neg q1, Int.add_zero], by rw [E12.out, if_neg q1, if_pos q2], by rw [E13.out, if_neg q1, if_pos q2], by rw [E14.out, if_neg q1, if_pos q2, Int.add_zero], h, hz, bb⟩
                  case measure => simp [intOf]; omega
                · by_cases q3 : k ≤ p
                  · go_wp2
                    go_roundw
                    case rel => exact ⟨j + 1, by omega, by go_num, by rw [E11.out, if_neg q1, Int.add_zero], by rw [E12.out, if_neg q1, if_neg q2, Int.add_zero], by rw [E13.out, if_neg q1, if_neg q2, Int.add_zero], by rw [E14.out, if_neg q1, if_neg q2, if_pos q3], h, hz, bb⟩
                    case measure => simp [intOf]; omega
                  · go_wp2
                    go_roundw
                    case rel => exact ⟨j + 1, by omega, by go_num, by rw [E11.out, if_neg q1, Int.add_zero], by rw [E12.out, if_neg q1, if_neg q2, Int.add_zero], by rw [E13.out, if_neg q1, if_neg q2, Int.add_zero], by rw [E14.out, if_neg q1, if_neg q2, if_neg q3, Int.add_zero], h, hz, bb⟩
                    case measure => simp [intOf]; omega
            · obtain rfl : j = n := by omega
              have t1 : ¬ (j : Int) < (j : Int) := by omega
              have hB := boundZ_up zs C k j
              have hR := room_eq zs C k j
              have T1 : 0 ≤ fstTo zs C k j ∧ fstTo zs C k j ≤ 14 := by omega
              have T2 : 0 ≤ sndTo zs C k j ∧ sndTo zs C k j ≤ 14 := by omega
              have T3 : 0 ≤ secTo zs C k j ∧ secTo zs C k j ≤ 14000000000 := by omega
              have T4 : 0 ≤ smallTo zs C k j ∧ smallTo zs C k j ≤ 14000000000 := by omega
              have T5 : 0 ≤ roomTo zs C k j ∧ roomTo zs C k j ≤ 14000000000 := by omega
              have hBB := boundZ_bounds (k := k) HF.out
              clear T hlt
              generalize boundZ zs C k j = bz at *
              generalize fstTo zs C k j = a at *
              generalize sndTo zs C k j = b at *
              generalize secTo zs C k j = s2 at *
              generalize smallTo zs C k j = s3 at *
              generalize roomTo zs C k j = r at *
              obtain ⟨S, eS⟩ : ∃ S, b * C = S := ⟨_, rfl⟩
              rw [eS] at hB hR
              obtain ⟨M, eM⟩ : ∃ M, s3 - (S - s2) = M := ⟨_, rfl⟩
              rw [eM] at hB
              have HBz := Lib.hid hB
              have m1 : M ≤ 14000000000 := by omega
              have m2 : -14000000000 ≤ M := by omega
              have s1 : 0 ≤ S := by omega
              have s4 : S ≤ 28000000000 := by omega
              have z1 : 0 ≤ S - s2 := by omega
              have z2 : S - s2 ≤ 28000000000 := by omega
              obtain ⟨a1, a2⟩ := T1
              obtain ⟨b1, b2⟩ := T2
              obtain ⟨c1, c2⟩ := T3
              obtain ⟨d1, d2⟩ := T4
              obtain ⟨x1, x2⟩ := hBB
              clear hB hR T5
              go_wp2
              go_loopw [16] (fun cv wi => ∃ x : Nat, cv = .int .i64 x ∧ (x = 0 ∨ ((x : Int) - 1) * C < M) ∧ CellZ wi g zs ∧ CellZ wi g2 (0 :: zs) ∧ Below w.heap.size w wi) (fun cv _ => (M + 1 - intOf cv * C).toNat)
              case atStart => exact ⟨0, rfl, .inl rfl, h, hz, bb⟩
              case round =>
                clear h hz bb
                obtain ⟨x, rfl, hx, h, hz, bb⟩ := hrel
                obtain ⟨J, eJ⟩ : ∃ J, (x : Int) * C = J := ⟨_, rfl⟩
                have hJ1 : (x : Int) ≤ J := by
                  have := Int.mul_le_mul_of_nonneg_left hC1 (show 0 ≤ (x : Int) by omega)
                  omega
                have hJ2 : J < 15000000001 := by
                  rcases hx with rfl | hx
                  · simp at eJ; omega
                  · rw [Int.sub_mul, eJ] at hx; omega
                have HX := Lib.hid hx
                have HJ := Lib.hid eJ
                clear hx
                by_cases hm : J < M
                · go_wp2
                  go_roundw
                  case rel => exact ⟨x + 1, by go_num, .inr (by have := HJ.out; simp; omega), h, hz, bb⟩
                  case measure => have := HJ.out; simp [intOf, Int.add_mul]; omega
                · have hu := upZ_of (more := M) (C := C) (j := x) hC1 HX.out (by rw [HJ.out]; omega)
                  have HU := Lib.hid hu
                  have y1 : a + b + (x : Int) ≤ 14000000014 := by have := HBz.out; rw [hu] at this; omega
                  clear hu
                  go_wp2
                  go_roundw
                  case rel => exact ⟨i + 1, by have := HI.out; omega, fun e => absurd e HI.out.2, by go_num, by rw [E1.out, HBz.out, HU.out], h, hz, bb⟩
                  case measure => have := HI.out; simp [intOf]; omega
      · obtain rfl : i = n + 1 := by omega
        have t1 : ¬ ((n + 1 : Nat) : Int) < (n : Int) + 1 := by omega
        have e1 := refTo_best HF.out n
        have E1 := Lib.hid e1
        clear e1 hlt hi hi0 hn0
        go_wp2
        go_ret
        exact ⟨by rw [← HR.out, ← E1.out] <;> rfl, bb⟩

end Go.Proofs
