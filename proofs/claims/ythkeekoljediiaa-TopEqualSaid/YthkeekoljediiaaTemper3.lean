/- temper.Tones of twelve single steps of a twelfth. -/
import Derived.Test.YthkeekoljediiaaTemper2
open Go.RowKit Go.Deep
namespace Go.Proofs
set_option linter.unusedVariables false
set_option linter.unusedSimpArgs false

theorem own_low {w : World} {B e k n : Nat} {v : Value} {cs : List Value} (h : w.ownsRow B e k v n cs) (p : Addr) (hp : p.block < B) (u : Value) : (w.setCell p u).ownsRow B e k v n cs :=
  ownsRow_other h p (fun e => by have := (ownsRow_block h _ e).1; omega) u
theorem seven_step (i : Nat) : (7 * i % 12 + 7) % 12 = 7 * (i + 1) % 12 := by omega

set_option maxRecDepth 100000 in
set_option maxHeartbeats 1000000 in
theorem tones_calls (b : Nat) (w : World) (hv : Twelve w b 1) : Calls Try.prog 9 #[.slice (some ⟨b, 0, none⟩) 12 12, .int .i64 12] w fun e w' =>
    ∃ ad c, e = .returned (.tuple #[.slice ad 12 c, .int .i64 0]) ∧ w'.ownsRow (w.heap.size + 1) 37 4 (.slice ad 12 c) 12 (flat tcl (row7 12)) ∧ Below w.heap.size w w' := by
  have HR := Lib.hid (right_calls 1 b w (by omega) (by omega) hv)
  have hbw := hv.lt
  go_enter Try.func9, Try.ntmps9
  go_wp2_with fail
  refine HR.out.mono ?_
  rintro e w' ⟨rfl, rfl⟩
  have b1 := below_alloc w (.cells #[.int .i64 0, .int .i64 0, .int .i64 0, .int .i64 1] 37)
  have v6 := Vals.newL w w.heap.size [.int .i64 0, .int .i64 0, .int .i64 0, .int .i64 1] 37 rfl
  have hown := ownsRow_lit (w.alloc (.cells #[.int .i64 0, .int .i64 0, .int .i64 0, .int .i64 1] 37)) 37 4 1 [.int .i64 0, .int .i64 0, .int .i64 0, .int .i64 1] _ rfl rfl (by unfold maxLen; omega)
  have b2 := below_alloc (w.alloc (.cells #[.int .i64 0, .int .i64 0, .int .i64 0, .int .i64 1] 37)) (.cells #[.int .i64 0, .int .i64 0, .int .i64 0, .int .i64 1] 37)
  rw [World.size_alloc] at hown
  replace v6 := v6.mono b2
  have B := below_trans b1 b2
  replace hv := hv.mono B
  go_wp2
  go_loopw [7, 25] (fun ov iv wr => ∃ (i : Nat) (ad : Option Addr) (c : Nat), i ≤ 11 ∧ iv = .int .i64 (i : Int) ∧ ov = .slice ad (i + 1) c ∧ wr.ownsRow (w.heap.size + 1) 37 4 (.slice ad (i + 1) c) (i + 1) (flat tcl (row7 (i + 1))) ∧
      Vals wr w.heap.size (tcl (tq (7 * i % 12))) ∧ Twelve wr b 1 ∧ Below w.heap.size w wr) (fun _ iv _ => (11 - intOf iv).toNat)
  case atStart => exact ⟨0, _, _, by omega, rfl, rfl, hown, v6, hv, B⟩
  case round =>
    obtain ⟨i, ad, c, hi, rfl, rfl, hown', v6', hv', B'⟩ := hrel
    clear hown v6 hv B b1 b2 HR
    by_cases h11 : i < 11
    · have t1 : (i : Int) < 11 := by omega
      have hk : 7 * i % 12 < 12 := Nat.mod_lt _ (by omega)
      have ST := fun w : World => stepped_calls (7 * i % 12) hk w
      obtain ⟨e0, e1, e2⟩ := tq_step (7 * i % 12) hk
      have hrow : row7 (i + 1 + 1) = row7 (i + 1) ++ [tq ((7 * i % 12 + 7) % 12)] := by rw [seven_step]; exact row7_succ (i + 1)
      have hnx := seven_step i
      obtain ⟨⟨xa, xb, xc, xd⟩, hx⟩ : ∃ t, tq (7 * i % 12) = t := ⟨_, rfl⟩
      obtain ⟨⟨za, zb, zc, zd⟩, hz⟩ : ∃ t, tq ((7 * i % 12 + 7) % 12) = t := ⟨_, rfl⟩
      rw [hx] at ST e0 e1 e2 v6'
      rw [hz] at e2 hrow
      rw [hnx] at hz
      obtain ⟨⟨⟨ya, yb, yc, yd⟩, er⟩, hy⟩ : ∃ t, mulT ⟨xa, xb, xc, xd⟩ (tq 7) = t := ⟨_, rfl⟩
      rw [hy] at ST e0 e1 e2
      dsimp only at e0 e1 e2
      subst e0
      have OC := fun w : World => octave_ok ⟨ya, yb, yc, yd⟩ w e1 (by rw [e2])
      rw [e2] at OC
      obtain ⟨oz, ho⟩ : ∃ z, octT ⟨ya, yb, yc, yd⟩ = z := ⟨_, rfl⟩
      rw [ho] at OC
      dsimp only at ST OC
      have HST := Lib.hid ST
      have HOC := Lib.hid OC
      have HROW := Lib.hid hrow
      have HZ := Lib.hid hz
      clear ST OC e1 e2 hx hy hrow ho hk hz hnx
      have v6 : Vals wr w.heap.size [.int .i64 xa, .int .i64 xb, .int .i64 xc, .int .i64 xd] := v6'
      have hown := Lib.hid hown'
      have hv := Lib.hid hv'
      clear v6' hown' hv'
      have ce := hv.out i (by omega)
      have B := B'
      clear B'

      have cv60 := v6.cell (i := 0) (by simp)
      have cv61 := v6.cell (i := 1) (by simp)
      have cv62 := v6.cell (i := 2) (by simp)
      have cv63 := v6.cell (i := 3) (by simp)
      simp only [List.getD_cons_zero, List.getD_cons_succ] at cv60 cv61 cv62 cv63
      have ltv6 := v6.lt
      go_wp2_with fail
      clear cv60 cv61 cv62 cv63 ltv6
      refine (HST.out _).mono ?_
      rintro e w3 ⟨rfl, b3⟩
      replace v6 := v6.mono b3
      have hown3 := Lib.hid (ownsRow_mono hown.out b3)
      have hv3 := Lib.hid (hv.out.mono b3)
      replace B := below_trans B b3
      clear b3 hown hv ce
      dsimp only
      go_wp2_with fail
      have b4 := below_alloc w3 (.cells #[.int .i64 ya, .int .i64 yb, .int .i64 yc, .int .i64 yd] 37)
      replace v6 := v6.mono b4
      have hown4 := Lib.hid (ownsRow_mono hown3.out b4)
      have hv4 := Lib.hid (hv3.out.mono b4)
      replace B := below_trans B b4
      clear b4 hown3 hv3
      generalize w3.alloc (.cells #[.int .i64 ya, .int .i64 yb, .int .i64 yc, .int .i64 yd] 37) = w4 at *
      refine (HOC.out _).mono ?_
      rintro e w5 ⟨rfl, b5⟩
      replace v6 := v6.mono b5
      have hown5 := Lib.hid (ownsRow_mono hown4.out b5)
      have hv5 := Lib.hid (hv4.out.mono b5)
      replace B := below_trans B b5
      clear b5 hown4 hv4
      have cv60 := v6.cell (i := 0) (by simp)
      have cv61 := v6.cell (i := 1) (by simp)
      have cv62 := v6.cell (i := 2) (by simp)
      have cv63 := v6.cell (i := 3) (by simp)
      simp only [List.getD_cons_zero, List.getD_cons_succ] at cv60 cv61 cv62 cv63
      have ltv6 := v6.lt
      have fv60 := v6.frozen 0
      have fv61 := v6.frozen 1
      have fv62 := v6.frozen 2
      have fv63 := v6.frozen 3
      go_upto_region 14 with (fail)
      clear cv60 cv61 cv62 cv63 ltv6 fv60 fv61 fv62 fv63
      have v6n := v6.set4 (.int .i64 za) (.int .i64 zb) (.int .i64 zc) (.int .i64 zd)
      have hown6 := own_low (own_low (own_low (own_low hown5.out ⟨w.heap.size, 0, none⟩ (Nat.lt_succ_self _) (.int .i64 za)) ⟨w.heap.size, 1, none⟩ (Nat.lt_succ_self _) (.int .i64 zb)) ⟨w.heap.size, 2, none⟩ (Nat.lt_succ_self _) (.int .i64 zc)) ⟨w.heap.size, 3, none⟩ (Nat.lt_succ_self _) (.int .i64 zd)
      have B6 := below_set4 B (Nat.le_refl _) (.int .i64 za) (.int .i64 zb) (.int .i64 zc) (.int .i64 zd)
      have hv6 : Twelve ((((w5.setCell ⟨w.heap.size, 0, none⟩ (.int .i64 za)).setCell ⟨w.heap.size, 1, none⟩ (.int .i64 zb)).setCell ⟨w.heap.size, 2, none⟩ (.int .i64 zc)).setCell ⟨w.heap.size, 3, none⟩ (.int .i64 zd)) b 1 := fun i hi => by
        have h := hv5.out i hi
        rw [World.cell?_setCell_far _ _ _ _ (by show w.heap.size ≠ b; omega), World.cell?_setCell_far _ _ _ _ (by show w.heap.size ≠ b; omega), World.cell?_setCell_far _ _ _ _ (by show w.heap.size ≠ b; omega), World.cell?_setCell_far _ _ _ _ (by show w.heap.size ≠ b; omega)]
        exact h
      have HOWN := Lib.hid hown6
      have HV := Lib.hid hv6
      clear v6 B hown5 hv5 hown6 hv6
      generalize (((w5.setCell ⟨w.heap.size, 0, none⟩ (.int .i64 za)).setCell ⟨w.heap.size, 1, none⟩ (.int .i64 zb)).setCell ⟨w.heap.size, 2, none⟩ (.int .i64 zc)).setCell ⟨w.heap.size, 3, none⟩ (.int .i64 zd) = w6 at *
      have cv6n0 := v6n.cell (i := 0) (by simp)
      have cv6n1 := v6n.cell (i := 1) (by simp)
      have cv6n2 := v6n.cell (i := 2) (by simp)
      have cv6n3 := v6n.cell (i := 3) (by simp)
      simp only [List.getD_cons_zero, List.getD_cons_succ] at cv6n0 cv6n1 cv6n2 cv6n3
      have ltv6n := v6n.lt
      have bz := below_alloc w6 (.cells #[.int .i64 za, .int .i64 zb, .int .i64 zc, .int .i64 zd] 37)
      have hszw := B6.size
      have hsz6 := v6n.lt
      go_wp2_with (at_builtin; refine wpList_append_rv rfl (.tmp 48) (.tmp 50) _ rfl (w.heap.size + 1) 37 _ 4 32 Try.underlying33 info_tone4 rfl (by decide) _ (i + 1) _ rfl (ownsRow_mono HOWN.out bz) _ 1 1 [.int .i64 za, .int .i64 zb, .int .i64 zc, .int .i64 zd] rfl (Vals.newL w6 w6.heap.size [.int .i64 za, .int .i64 zb, .int .i64 zc, .int .i64 zd] 37 rfl).rdQ (by intro u hu; simp only [List.mem_cons, List.not_mem_nil, or_false] at hu; rcases hu with rfl | rfl | rfl | rfl <;> rfl) (by unfold maxLen; omega) (by omega) (by rw [World.size_alloc]; omega) (i + 1 + 1) rfl _ rfl ?_; intro adn cn w7 hown7 hg7 hn7 hb7 hk7)
      have B7 := (B6.trans (bz.mono B6.size)).trans (hb7.mono (Nat.le_succ _))
      have v7 := (v6n.mono bz).belowT hb7 (Nat.lt_succ_self _)
      have hv7 := (HV.out.mono bz).belowT hb7 (by omega)
      have hfl : flat tcl (row7 (i + 1 + 1)) = flat tcl (row7 (i + 1)) ++ [.int .i64 za, .int .i64 zb, .int .i64 zc, .int .i64 zd] := by rw [HROW.out, flat_append]; rfl
      go_roundw
      case rel => exact ⟨i + 1, adn, cn, by omega, by go_num, rfl, by rw [hfl]; exact hown7, by rw [HZ.out]; exact v7, hv7, B7⟩
      case measure => simp [intOf]; omega
    · obtain rfl : i = 11 := by omega
      have HOWN := Lib.hid hown'
      clear hown' v6' hv'
      go_wp2
      go_ret2
      exact ⟨_, _, rfl, HOWN.out, B'⟩

end Go.Proofs
