/- temper: the circle's best. -/
import Derived.Test.YthkeekoljediiaaCircB
open Go.RowKit Go.Deep
namespace Go.Proofs
set_option linter.unusedVariables false
set_option linter.unusedSimpArgs false

/-- a level of the table, which can be read -/
def Lvl (w : World) (B rb at_ C : Nat) (f : Nat → Nat → Int) : Prop := ∃ tb cap, w.cell? ⟨rb, at_, none⟩ = some (.slice (some ⟨tb, 0, none⟩) (C * 37) cap) ∧ rb < tb ∧ tb < B ∧ ∀ code sum, code < C → sum < 37 → w.cell? ⟨tb, code * 37 + sum, none⟩ = some (.int .i64 (f code sum))
theorem Lvl.mono {w w' : World} {B rb at_ C : Nat} {f : Nat → Nat → Int} (h : Lvl w B rb at_ C f) (hb : Below B w w') : Lvl w' B rb at_ C f := by
  obtain ⟨tb, cap, h1, h2, h3, h4⟩ := h
  exact ⟨tb, cap, (hb.cell (p := ⟨rb, at_, none⟩) (Nat.lt_trans h2 h3)).trans h1, h2, h3, fun c s hc hs => (hb.cell (p := ⟨tb, c * 37 + s, none⟩) h3).trans (h4 c s hc hs)⟩
theorem Lvl.wide {w : World} {B B' rb at_ C : Nat} {f : Nat → Nat → Int} (h : Lvl w B rb at_ C f) (hB : B ≤ B') : Lvl w B' rb at_ C f := by
  obtain ⟨tb, cap, h1, h2, h3, h4⟩ := h
  exact ⟨tb, cap, h1, h2, by omega, h4⟩
/-- the tries so far -/
def tried (R : Rg) (first : Nat → Nat) (nx : Nat → Nat → Int) (code sum at_ i : Nat) : Int × Nat := (List.range' (lowS R first at_) i).foldl (tryS R nx code sum at_) (-1, 0)
theorem tried_succ (R : Rg) (first : Nat → Nat) (nx : Nat → Nat → Int) (code sum at_ i : Nat) : tried R first nx code sum at_ (i + 1) = tryS R nx code sum at_ (tried R first nx code sum at_ i) (lowS R first at_ + i) := by
  unfold tried
  rw [List.range'_1_concat, List.foldl_append]
  rfl
theorem tried_bound {R : Rg} (h : RgOk R) {first : Nat → Nat} {nx : Nat → Nat → Int} {code sum at_ : Nat} (hM : ∀ c u, nx c u ≤ 200000) (i : Nat) (hs : ∀ j, j < i → StOk R (lowS R first at_ + j)) : -1 ≤ (tried R first nx code sum at_ i).1 ∧ (tried R first nx code sum at_ i).1 ≤ 212000 := by
  have := fold_bound h (code := code) (sum := sum) (at_ := at_) hM (by omega) (List.range' (lowS R first at_) i) (fun s hs' => by
    obtain ⟨h1, h2⟩ := List.mem_range'_1.1 hs'
    have := hs (s - lowS R first at_) (by omega)
    rw [show lowS R first at_ + (s - lowS R first at_) = s by omega] at this
    exact this.le h)
  unfold tried
  omega

set_option maxRecDepth 100000 in
set_option maxHeartbeats 2000000 in
theorem cbest_calls (R : Rg) (fv tv fs : Value) (first : Nat → Nat) (nx : Nat → Nat → Int) (cb rb rc code sum at_ : Nat) (w : World) (hR : RgOk R) (hI : InRg w fv tv R) (hst : ∀ i, i + 1 < R.sp → StOk R (first i)) (hF : InF w fs R first)
    (hc : Vals w cb (ccl9 R fv tv fs (.slice (some ⟨rb, 0, none⟩) (12 + R.sp) rc))) (hcode : code < cds R) (hsum : sum < 37) (h0 : R.sp - 1 ≤ at_) (h1 : at_ < 11 + R.sp) (hL : Lvl w w.heap.size rb (at_ + 1) (cds R) nx) (hnx : ∀ c u, -1 ≤ nx c u ∧ nx c u ≤ 200000) :
    Calls Try.prog 43 #[.pointer (some ⟨cb, 0, none⟩), .int .i64 (code : Int), .int .i64 (sum : Int), .int .i64 (at_ : Int)] w fun e w' => e = .returned (.tuple #[.int .i64 (bst R first nx code sum at_).1, .int .i64 ((bst R first nx code sum at_).2 : Int)]) ∧ Below w.heap.size w w' := by
  have hC64 : code < 64 := by have := hR.cds; omega
  have hlo := hR.lo
  have h3 := hR.s2
  have HB0 := Lib.hid (bounds_calls R fv tv fs (.slice (some ⟨rb, 0, none⟩) (12 + R.sp) rc) first cb at_ w hR hF hc h1)
  have HNX := Lib.hid (fun (w1 : World) (hb : Below w.heap.size w w1) (s : Nat) (hs : StOk R s) => cnext_calls R fv tv fs (.slice (some ⟨rb, 0, none⟩) (12 + R.sp) rc) cb code at_ s w1 hR (hI.mono hb) (hc.mono hb) hC64 h0 h1 hs)
  have HC := Lib.hid (fun (w1 : World) (hb : Below w.heap.size w w1) => hc.mono hb)
  have HL := Lib.hid (fun (w1 : World) (hb : Below w.heap.size w w1) => hL.mono hb)
  have hEnd : bst R first nx code sum at_ = tried R first nx code sum at_ (cntS at_) := rfl
  have HST := Lib.hid (show ∀ i, i < cntS at_ → StOk R (lowS R first at_ + i) from fun i hi => (mem_steps hst h1 (List.mem_range'_1.2 ⟨by omega, by omega⟩)).1)
  have HTB := Lib.hid (fun i (hi : i ≤ cntS at_) => tried_bound hR (first := first) (nx := nx) (code := code) (sum := sum) (at_ := at_) (fun c u => (hnx c u).2) i (fun j hj => HST.out j (by omega)))
  have HTS := Lib.hid (fun i => tried_succ R first nx code sum at_ i)
  have hL0 : lowS R first at_ ≤ 3 := by
    have : 1 ≤ cntS at_ := by unfold cntS; split <;> omega
    have := (HST.out 0 (by omega)).le hR
    omega
  have hUP : ∀ s, upS R at_ sum s = if at_ < 12 then sum + (s - R.lo) else sum := fun s => rfl
  have hK3 : cntS at_ ≤ 3 := by unfold cntS; split <;> omega
  obtain ⟨C, hCe⟩ : ∃ C, cds R = C := ⟨_, rfl⟩
  have hC16 : C ≤ 16 := by have := hR.cds; omega
  have HNC := Lib.hid (fun s => nCd_lt hR code s)
  have HPB := Lib.hid (fun s (hs : StOk R s) => nPr_bound hR code at_ s (hs.le hR))
  rw [hCe] at HNC HL hcode
  obtain ⟨B1, hB1⟩ : ∃ z, (bst R first nx code sum at_).1 = z := ⟨_, rfl⟩
  obtain ⟨B2, hB2⟩ : ∃ z, (bst R first nx code sum at_).2 = z := ⟨_, rfl⟩
  rw [hB1, hB2]
  rw [hEnd] at hB1 hB2
  have HB12 := Lib.hid (And.intro hB1 hB2)
  have HNB := Lib.hid hnx
  obtain ⟨L, hLe⟩ : ∃ z, lowS R first at_ = z := ⟨_, rfl⟩
  obtain ⟨K, hKe⟩ : ∃ z, cntS at_ = z := ⟨_, rfl⟩
  rw [hLe, hKe] at HST HB0
  rw [hKe] at HTB HB12 hK3
  rw [hLe] at HTS hL0
  obtain ⟨HI, hHI⟩ : ∃ z : Int, (L : Int) + (K : Int) - 1 = z := ⟨_, rfl⟩
  rw [hHI] at HB0
  obtain ⟨A1, hA1⟩ : ∃ z : Nat, at_ + 1 = z := ⟨_, rfl⟩
  rw [hA1] at HL
  obtain ⟨E1, hE1⟩ : ∃ z : Nat, 12 + R.sp = z := ⟨_, rfl⟩
  have hA1l : A1 < E1 := by omega
  have qA : IntKind.i64.wrap ((at_ : Int) + 1) = (A1 : Int) := by rw [IntWalk.i64_in _ (by omega)]; omega
  clear hEnd hB1 hB2 hLe hKe hI hst hF hc hL hnx hCe hA1 h0 h1
  rw [hE1] at HC
  clear hE1
  go_enter Try.func43, Try.ntmps43
  go_wp2_with fail
  refine HB0.out.mono ?_
  rintro e w1 ⟨rfl, b1⟩
  go_wp2
  go_loopw [10, 11, 14] (fun lv xv sv wr => ∃ i : Nat, i ≤ K ∧ sv = .int .i64 ((L + i : Nat) : Int) ∧ lv = .int .i64 (tried R first nx code sum at_ i).1 ∧ xv = .int .i64 ((tried R first nx code sum at_ i).2 : Int) ∧ Below w.heap.size w wr) (fun _ _ sv _ => ((L + K : Nat) - intOf sv : Int).toNat)
  case atStart => exact ⟨0, by omega, rfl, rfl, rfl, b1⟩
  case round =>
    clear b1 HB0
    obtain ⟨i, hi, rfl, rfl, rfl, hb⟩ := hrel
    obtain ⟨s, hs⟩ : ∃ s, L + i = s := ⟨_, rfl⟩
    rw [hs]
    obtain ⟨⟨le, wh⟩, hacc⟩ : ∃ a, tried R first nx code sum at_ i = a := ⟨_, rfl⟩
    have htb := HTB.out i hi
    rw [hacc] at htb ⊢
    dsimp only at htb ⊢
    by_cases hik : i < K
    · have t1 : (s : Int) ≤ HI := by omega
      have hso := HST.out i hik
      rw [hs] at hso
      have hs3 : s ≤ 3 := by have := hso.2; omega
      have hslo := hso.1
      have hts := HTS.out i
      rw [hs, hacc] at hts
      unfold tryS at hts
      have hnc := HNC.out s
      obtain ⟨p1, p2⟩ := HPB.out s hso
      have NX := HNX.out wr hb s hso
      have hup := hUP s
      obtain ⟨NC, hNC⟩ : ∃ z, nCd R code s = z := ⟨_, rfl⟩
      obtain ⟨PR, hPR⟩ : ∃ z, nPr R code at_ s = z := ⟨_, rfl⟩
      obtain ⟨OB, hOB⟩ : ∃ z, nOk R code s = z := ⟨_, rfl⟩
      obtain ⟨UP, hUPe⟩ : ∃ z, upS R at_ sum s = z := ⟨_, rfl⟩
      rw [hNC, hPR, hOB] at NX
      rw [hNC, hPR, hOB, hUPe] at hts
      rw [hNC] at hnc
      rw [hPR] at p1 p2
      rw [hUPe] at hup
      obtain ⟨m1, m2⟩ := HNB.out NC UP
      obtain ⟨M, hM⟩ : ∃ z, nx NC UP = z := ⟨_, rfl⟩
      rw [hM] at m1 m2
      have HM := Lib.hid hM
      rw [hM] at hts
      have HTR := Lib.hid hts
      have HX := Lib.hid NX
      have HB := Lib.hid hb
      have hUPl : UP ≤ sum + 3 := by rw [hup]; split <;> omega
      have HUP := Lib.hid hup
      have HS := Lib.hid hs
      clear hacc hts NX hb hup hM hNC hPR hOB hUPe hs
      go_wp2_with fail
      refine HX.out.mono ?_
      rintro e w2 ⟨rfl, b2⟩
      have hb2 := below_trans HB.out b2
      have hc := HC.out w2 hb2
      have hL := HL.out w2 hb2
      have hlt := hc.lt
      have c0 := hc.cell (i := 0) (by simp [ccl9])
      have c2 := hc.cell (i := 2) (by simp [ccl9])
      have c11 := hc.cell (i := 11) (by simp [ccl9])
      have c12 := hc.cell (i := 12) (by simp [ccl9])
      simp only [ccl9, List.getD_cons_zero, List.getD_cons_succ] at c0 c2 c11 c12
      have HB2 := Lib.hid hb2
      have HLL := Lib.hid hL
      clear b2 hb2 hc hL HB HX
      by_cases h12 : at_ < 12
      · have t3 : (at_ : Int) < 12 := by omega
        have eU := HUP.out
        rw [if_pos h12] at eU
        have q1 : IntKind.i64.wrap ((s : Int) - (R.lo : Int)) = ((s - R.lo : Nat) : Int) := by rw [IntWalk.i64_in _ (by omega)]; omega
        have q2 : IntKind.i64.wrap ((sum : Int) + ((s - R.lo : Nat) : Int)) = (UP : Int) := by rw [IntWalk.i64_in _ (by omega)]; omega
        clear eU
        by_cases hok : OB = true
        · subst hok
          by_cases h37 : UP < 37
          · have t4 : ¬ ((37 : Int) ≤ (UP : Int)) := by omega
            obtain ⟨tb, cap, l1, l2, l3, l4⟩ := HLL.out
            have l5 := l4 NC UP hnc h37
            rw [HM.out] at l5
            have hix : NC * 37 + UP < C * 37 := by omega
            obtain ⟨IX, hIX⟩ : ∃ z, NC * 37 + UP = z := ⟨_, rfl⟩
            rw [hIX] at l5 hix
            obtain ⟨CL, hCL⟩ : ∃ z, C * 37 = z := ⟨_, rfl⟩
            rw [hCL] at l1 hix
            have r1 : IntKind.i64.wrap ((NC : Int) * 37) = (NC : Int) * 37 := IntWalk.i64_in _ (by omega)
            have r2 : IntKind.i64.wrap ((NC : Int) * 37 + (UP : Int)) = (IX : Int) := by rw [IntWalk.i64_in _ (by omega)]; omega
            have x0 : (0 : Int) ≤ (IX : Int) := by omega
            have x1 : (IX : Int) < (CL : Int) := by omega
            have x2 : (0 : Int) ≤ (A1 : Int) := by omega
            have x3 : (A1 : Int) < (E1 : Int) := by omega
            have r3 : IntKind.i64.wrap (PR + M) = PR + M := IntWalk.i64_in _ (by omega)
            have HH := Lib.hid (show w2.drew.cell? ⟨cb, 12, none⟩ = some (.slice (some ⟨rb, 0, none⟩) E1 rc) ∧ w2.drew.cell? ⟨rb, A1, none⟩ = some (.slice (some ⟨tb, 0, none⟩) CL cap) ∧ w2.drew.cell? ⟨cb, 11, none⟩ = some (.int .i64 37) ∧ w2.drew.cell? ⟨tb, IX, none⟩ = some (.int .i64 M) from ⟨c12, l1, c11, l5⟩)
            have HBF := Lib.hid HB2.out.drew
            clear l1 l2 l3 l4 l5 hIX hCL c12
            go_upto_region 11 with (fail)
            clear c0 c2 c11 HB2 HLL
            go_region_held3 (fun w' => w'.cell? ⟨cb, 12, none⟩ = some (.slice (some ⟨rb, 0, none⟩) E1 rc) ∧ w'.cell? ⟨rb, A1, none⟩ = some (.slice (some ⟨tb, 0, none⟩) CL cap) ∧ w'.cell? ⟨cb, 11, none⟩ = some (.int .i64 37) ∧ w'.cell? ⟨tb, IX, none⟩ = some (.int .i64 M)) (exact HH.out) (fail)
            by_cases hm0 : 0 ≤ M
            · by_cases hl0 : le < 0
              · go_wp2
                go_roundw
                case rel => exact ⟨i + 1, by omega, by rw [← HS.out]; go_num, by rw [HTR.out, if_pos ⟨by trivial, h37⟩, if_pos ⟨hm0, .inl hl0⟩], by rw [HTR.out, if_pos ⟨by trivial, h37⟩, if_pos ⟨hm0, .inl hl0⟩], HBF.out⟩
                case measure => simp [intOf]; omega
              · by_cases hlm : PR + M < le
                · go_wp2
                  go_roundw
                  case rel => exact ⟨i + 1, by omega, by rw [← HS.out]; go_num, by rw [HTR.out, if_pos ⟨by trivial, h37⟩, if_pos ⟨hm0, .inr hlm⟩], by rw [HTR.out, if_pos ⟨by trivial, h37⟩, if_pos ⟨hm0, .inr hlm⟩], HBF.out⟩
                  case measure => simp [intOf]; omega
                · go_wp2
                  go_roundw
                  case rel => exact ⟨i + 1, by omega, by rw [← HS.out]; go_num, by rw [HTR.out, if_pos ⟨by trivial, h37⟩, if_neg (fun h => h.2.elim hl0 hlm)], by rw [HTR.out, if_pos ⟨by trivial, h37⟩, if_neg (fun h => h.2.elim hl0 hlm)], HBF.out⟩
                  case measure => simp [intOf]; omega
            · go_wp2
              go_roundw
              case rel => exact ⟨i + 1, by omega, by rw [← HS.out]; go_num, by rw [HTR.out, if_pos ⟨by trivial, h37⟩, if_neg (fun h => hm0 h.1)], by rw [HTR.out, if_pos ⟨by trivial, h37⟩, if_neg (fun h => hm0 h.1)], HBF.out⟩
              case measure => simp [intOf]; omega
          · have t4 : (37 : Int) ≤ (UP : Int) := by omega
            have HBF := Lib.hid HB2.out
            go_wp2
            go_roundw
            case rel => exact ⟨i + 1, by omega, by rw [← HS.out]; go_num, by rw [HTR.out, if_neg (fun h => h37 h.2)], by rw [HTR.out, if_neg (fun h => h37 h.2)], HBF.out⟩
            case measure => simp [intOf]; omega
        · obtain rfl : OB = false := by simpa using hok
          have HBF := Lib.hid HB2.out
          go_wp2
          go_roundw
          case rel => exact ⟨i + 1, by omega, by rw [← HS.out]; go_num, by rw [HTR.out, if_neg (fun h => hok h.1)], by rw [HTR.out, if_neg (fun h => hok h.1)], HBF.out⟩
          case measure => simp [intOf]; omega
      · have t3 : ¬ (at_ : Int) < 12 := by omega
        have eU := HUP.out
        rw [if_neg h12] at eU
        obtain rfl : UP = sum := eU
        by_cases hok : OB = true
        · subst hok
          by_cases h37 : UP < 37
          · have t4 : ¬ ((37 : Int) ≤ (UP : Int)) := by omega
            obtain ⟨tb, cap, l1, l2, l3, l4⟩ := HLL.out
            have l5 := l4 NC UP hnc h37
            rw [HM.out] at l5
            have hix : NC * 37 + UP < C * 37 := by omega
            obtain ⟨IX, hIX⟩ : ∃ z, NC * 37 + UP = z := ⟨_, rfl⟩
            rw [hIX] at l5 hix
            obtain ⟨CL, hCL⟩ : ∃ z, C * 37 = z := ⟨_, rfl⟩
            rw [hCL] at l1 hix
            have r1 : IntKind.i64.wrap ((NC : Int) * 37) = (NC : Int) * 37 := IntWalk.i64_in _ (by omega)
            have r2 : IntKind.i64.wrap ((NC : Int) * 37 + (UP : Int)) = (IX : Int) := by rw [IntWalk.i64_in _ (by omega)]; omega
            have x0 : (0 : Int) ≤ (IX : Int) := by omega
            have x1 : (IX : Int) < (CL : Int) := by omega
            have x2 : (0 : Int) ≤ (A1 : Int) := by omega
            have x3 : (A1 : Int) < (E1 : Int) := by omega
            have r3 : IntKind.i64.wrap (PR + M) = PR + M := IntWalk.i64_in _ (by omega)
            have HH := Lib.hid (show w2.drew.cell? ⟨cb, 12, none⟩ = some (.slice (some ⟨rb, 0, none⟩) E1 rc) ∧ w2.drew.cell? ⟨rb, A1, none⟩ = some (.slice (some ⟨tb, 0, none⟩) CL cap) ∧ w2.drew.cell? ⟨cb, 11, none⟩ = some (.int .i64 37) ∧ w2.drew.cell? ⟨tb, IX, none⟩ = some (.int .i64 M) from ⟨c12, l1, c11, l5⟩)
            have HBF := Lib.hid HB2.out.drew
            clear l1 l2 l3 l4 l5 hIX hCL c12
            go_upto_region 11 with (fail)
            clear c0 c2 c11 HB2 HLL
            go_region_held3 (fun w' => w'.cell? ⟨cb, 12, none⟩ = some (.slice (some ⟨rb, 0, none⟩) E1 rc) ∧ w'.cell? ⟨rb, A1, none⟩ = some (.slice (some ⟨tb, 0, none⟩) CL cap) ∧ w'.cell? ⟨cb, 11, none⟩ = some (.int .i64 37) ∧ w'.cell? ⟨tb, IX, none⟩ = some (.int .i64 M)) (exact HH.out) (fail)
            by_cases hm0 : 0 ≤ M
            · by_cases hl0 : le < 0
              · go_wp2
                go_roundw
                case rel => exact ⟨i + 1, by omega, by rw [← HS.out]; go_num, by rw [HTR.out, if_pos ⟨by trivial, h37⟩, if_pos ⟨hm0, .inl hl0⟩], by rw [HTR.out, if_pos ⟨by trivial, h37⟩, if_pos ⟨hm0, .inl hl0⟩], HBF.out⟩
                case measure => simp [intOf]; omega
              · by_cases hlm : PR + M < le
                · go_wp2
                  go_roundw
                  case rel => exact ⟨i + 1, by omega, by rw [← HS.out]; go_num, by rw [HTR.out, if_pos ⟨by trivial, h37⟩, if_pos ⟨hm0, .inr hlm⟩], by rw [HTR.out, if_pos ⟨by trivial, h37⟩, if_pos ⟨hm0, .inr hlm⟩], HBF.out⟩
                  case measure => simp [intOf]; omega
                · go_wp2
                  go_roundw
                  case rel => exact ⟨i + 1, by omega, by rw [← HS.out]; go_num, by rw [HTR.out, if_pos ⟨by trivial, h37⟩, if_neg (fun h => h.2.elim hl0 hlm)], by rw [HTR.out, if_pos ⟨by trivial, h37⟩, if_neg (fun h => h.2.elim hl0 hlm)], HBF.out⟩
                  case measure => simp [intOf]; omega
            · go_wp2
              go_roundw
              case rel => exact ⟨i + 1, by omega, by rw [← HS.out]; go_num, by rw [HTR.out, if_pos ⟨by trivial, h37⟩, if_neg (fun h => hm0 h.1)], by rw [HTR.out, if_pos ⟨by trivial, h37⟩, if_neg (fun h => hm0 h.1)], HBF.out⟩
              case measure => simp [intOf]; omega
          · exact absurd hsum h37
        · obtain rfl : OB = false := by simpa using hok
          have HBF := Lib.hid HB2.out
          go_wp2
          go_roundw
          case rel => exact ⟨i + 1, by omega, by rw [← HS.out]; go_num, by rw [HTR.out, if_neg (fun h => hok h.1)], by rw [HTR.out, if_neg (fun h => hok h.1)], HBF.out⟩
          case measure => simp [intOf]; omega
    · obtain rfl : i = K := by omega
      have t1 : ¬ (s : Int) ≤ HI := by omega
      have e := HB12.out
      rw [hacc] at e
      obtain ⟨rfl, rfl⟩ := e
      go_wp2
      go_ret2
      exact ⟨rfl, hb⟩

    end Go.Proofs
