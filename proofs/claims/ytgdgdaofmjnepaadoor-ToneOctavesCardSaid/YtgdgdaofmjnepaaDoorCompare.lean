/- nat.compare: the order. -/
import Derived.Test.YtgdgdaofmjnepaaDoorTrim
open Go.RowKit
namespace Go.Proofs
set_option linter.unusedVariables false

/-- -1, 0 or 1 -/
def cmpInt (m n : Nat) : Int := if m < n then -1 else if n < m then 1 else 0
theorem cmpInt_lt {m n : Nat} (h : m < n) : cmpInt m n = -1 := by unfold cmpInt; rw [if_pos h]
theorem cmpInt_gt {m n : Nat} (h : n < m) : cmpInt m n = 1 := by unfold cmpInt; rw [if_neg (by omega), if_pos h]
theorem cmpInt_eq (n : Nat) : cmpInt n n = 0 := by unfold cmpInt; rw [if_neg (by omega), if_neg (by omega)]

theorem below_drewN' (w : World) (k : Nat) : Below w.heap.size w (w.drewN k) := below_drewN (Below.refl _ _) k

/-- The call returns a number and changes nothing that was there. -/
def RetInt (w : World) (r : Int) (e : Ending) (w' : World) : Prop := e = .returned (.int .i64 r) ∧ Below w.heap.size w w'

theorem drop_succ_eq {xs ys : List Nat} {i : Nat} (h : xs.drop (i + 1) = ys.drop (i + 1)) (hi : i < xs.length) (hl : xs.length = ys.length) (he : xs.getD i 0 = ys.getD i 0) : xs.drop i = ys.drop i := by
  rw [List.drop_eq_getElem_cons hi, List.drop_eq_getElem_cons (by omega : i < ys.length), h]
  congr 1
  simpa [List.getD, hi, show i < ys.length by omega] using he

set_option maxRecDepth 100000 in
theorem compare_raw (ad1 ad2 : Option Addr) (c1 c2 : Nat) (xs zs : List Nat) (w : World) (r : Int) (hx : Sl w ad1 c1 xs) (hz : Sl w ad2 c2 zs) (hlen : xs.length = zs.length)
    (hr : cmpInt (val xs) (val zs) = r) (hreach : xs.length ≤ 4000000000) :
    Calls Tryd.prog 108 #[.slice ad1 xs.length c1, .slice ad2 zs.length c2] w (RetInt w r) := by
  have HR := Lib.hid hr
  clear hr
  rw [← hlen]
  have HL := Lib.hid hlen
  clear hlen
  go_enter Tryd.func108, Tryd.ntmps108
  go_wp2
  go_loopw [5] (fun iv wr => ∃ i : Nat, i ≤ xs.length ∧ iv = .int .i64 ((i : Int) - 1) ∧ xs.drop i = zs.drop i ∧ Below w.heap.size w wr)
    (fun iv _ => (intOf iv + 1).toNat)
  case atStart => exact ⟨xs.length, Nat.le_refl _, rfl, by rw [List.drop_of_length_le (Nat.le_refl _), List.drop_of_length_le (by rw [HL.out]; exact Nat.le_refl _)], Below.refl _ _⟩
  case round =>
    obtain ⟨i, hi, rfl, hdrop, hbel⟩ := hrel
    have HD := Lib.hid hdrop
    clear hdrop
    by_cases h0 : 0 < i
    · obtain ⟨j, rfl⟩ : ∃ j, i = j + 1 := ⟨i - 1, by omega⟩
      have hL := HL.out
      obtain ⟨b, o, rfl, hbs, hcell, hfr⟩ := hx.open (i := j) (by omega)
      obtain ⟨b2, o2, rfl, hbs2, hcell2, hfr2⟩ := hz.open (i := j) (by omega)
      obtain ⟨x, ex⟩ : ∃ x, xs.getD j 0 = x := ⟨_, rfl⟩
      obtain ⟨y, ey⟩ : ∃ x, zs.getD j 0 = x := ⟨_, rfl⟩
      have hx1 := hx.lt j
      have hz1 := hz.lt j
      rw [ex] at hcell hx1
      rw [ey] at hcell2 hz1
      have hcell' := (hbel.cell (p := ⟨b, o + j, none⟩) hbs).trans hcell
      have hcell2' := (hbel.cell (p := ⟨b2, o2 + j, none⟩) hbs2).trans hcell2
      have Hx := Lib.hid ex
      have Hy := Lib.hid ey
      clear hcell hfr ex hcell2 hfr2 ey hL
      rw [show (((j + 1 : Nat) : Int) - 1) = (j : Int) from by omega]
      by_cases hxy : x = y
      · have t1 : ((x : Int) != (y : Int)) = false := by simp [hxy]
        have HE := Lib.hid hxy
        clear hxy
        go_wp2_with fail
        go_quiet (fail)
        go_wp2
        go_roundw
        case rel => exact ⟨j, by omega, rfl, drop_succ_eq HD.out (by omega) HL.out (by rw [Hx.out, Hy.out, HE.out]), below_drewN hbel _⟩
        case measure => simp [intOf]
      · have t1 : ((x : Int) != (y : Int)) = true := by rw [bne_iff_ne]; omega
        by_cases hl : x < y
        · have t2 : decide ((x : Int) < (y : Int)) = true := by simp; omega
          have hv := val_lt_of_limb hx.2.2.1 HL.out (by omega) HD.out (by rw [Hx.out, Hy.out]; exact hl)
          have hr := (cmpInt_lt hv).symm.trans HR.out
          have HRR := Lib.hid hr
          clear hr hv
          go_wp2_with fail
          go_quiet (fail)
          go_wp2_with fail
          go_quiet (fail)
          go_wp2
          go_ret
          exact ⟨by rw [← HRR.out]; rfl, below_drewN (below_drewN hbel _) _⟩
        · have t2 : decide ((x : Int) < (y : Int)) = false := by simp; omega
          have hv := val_lt_of_limb (xs := zs) (ys := xs) hz.2.2.1 HL.out.symm (by have := HL.out; omega) HD.out.symm (by rw [Hx.out, Hy.out]; omega)
          have hr := (cmpInt_gt hv).symm.trans HR.out
          have HRR := Lib.hid hr
          clear hr hv
          go_wp2_with fail
          go_quiet (fail)
          go_wp2_with fail
          go_quiet (fail)
          go_wp2
          go_ret
          exact ⟨by rw [← HRR.out]; rfl, below_drewN (below_drewN hbel _) _⟩
    · obtain rfl : i = 0 := by omega
      have e : xs = zs := by have := HD.out; simpa using this
      have hr : 0 = r := by have := HR.out; rwa [e, cmpInt_eq] at this
      have HRR := Lib.hid hr
      clear hr e
      go_wp2
      go_ret
      exact ⟨by rw [← HRR.out]; rfl, hbel⟩

/-- compare returns the order of two numbers. -/
theorem compare_calls (v1 v2 : Value) (m n : Nat) (w : World) (r : Int) (h1 : Num w v1 m) (h2 : Num w v2 n) (hr : cmpInt m n = r) (b1 : (limbs m).length ≤ 4000000000) (b2 : (limbs n).length ≤ 4000000000) :
    Calls Tryd.prog 108 #[v1, v2] w (RetInt w r) := by
  obtain ⟨ad1, c1, rfl, s1⟩ := h1
  obtain ⟨ad2, c2, rfl, s2⟩ := h2
  by_cases hl : (limbs m).length = (limbs n).length
  · have := compare_raw ad1 ad2 c1 c2 _ _ w r s1 s2 hl (by rw [val_limbs, val_limbs]; exact hr) b1
    exact this
  · have HR := Lib.hid hr
    clear hr
    by_cases hlt : (limbs m).length < (limbs n).length
    · have e := (cmpInt_lt (lt_of_length_lt hlt)).symm.trans HR.out
      have HRR := Lib.hid e
      have t1 : (((limbs m).length : Int) != ((limbs n).length : Int)) = true := by rw [bne_iff_ne]; omega
      clear hl e
      go_enter Tryd.func108, Tryd.ntmps108
      go_wp2
      go_ret
      exact ⟨by rw [← HRR.out]; rfl, Below.refl _ _⟩
    · have e := (cmpInt_gt (lt_of_length_lt (by omega : (limbs n).length < (limbs m).length))).symm.trans HR.out
      have HRR := Lib.hid e
      have t1 : (((limbs m).length : Int) != ((limbs n).length : Int)) = true := by rw [bne_iff_ne]; omega
      clear hl e
      go_enter Tryd.func108, Tryd.ntmps108
      go_wp2
      go_ret
      exact ⟨by rw [← HRR.out]; rfl, Below.refl _ _⟩

end Go.Proofs
