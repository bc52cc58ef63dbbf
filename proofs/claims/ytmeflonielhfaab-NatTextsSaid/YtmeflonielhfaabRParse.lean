/- the reference: IsText and Parse. -/
import Derived.Test.YtmeflonielhfaabParse
import Derived.Test.YtmeflonielhfaabROver
import Derived.Test.YtmeflonielhfaabRAdd
import Derived.Test.YtmeflonielhfaabRDiv
open Go.RowKit
namespace Go.Proofs
set_option linter.unusedVariables false

set_option maxRecDepth 100000 in
set_option maxHeartbeats 1000000 in
theorem ristext_calls (s : ByteArray) (w : World) (hl : s.size ≤ 9223372036854775807) :
    Calls Try.prog 42 #[.string s] w fun e w' => e = .returned (.bool (decide (TextOk s))) ∧ w = w' := by
  by_cases h0 : s.size = 0
  · have hf : decide (TextOk s) = false := by rw [decide_eq_false_iff_not]; intro h; have := h.1; omega
    rw [hf]
    clear hf
    go_enter Try.func42, Try.ntmps42
    go_wp2
    go_ret
    exact ⟨rfl, rfl⟩
  · obtain ⟨c, hc⟩ : ∃ c : Nat, ∀ h : 0 < s.size, (s[0]'h).toNat = c := ⟨byteAt s 0, fun h => byteAt_eq h⟩
    have hce : c = byteAt s 0 := by rw [← hc (by omega), byteAt_eq]
    have hp : (0 : Int) < (s.size : Int) := by omega
    by_cases hz : 1 < s.size ∧ c = 48
    · have hf : decide (TextOk s) = false := by rw [decide_eq_false_iff_not]; intro h; exact h.2.1 hz.1 (by rw [← hce, hz.2])
      rw [hf]
      obtain ⟨h1, rfl⟩ := hz
      have h11 : (1 : Int) < (s.size : Int) := by omega
      have h00 : ((s.size : Int) == 0) = false := by rw [beq_eq_false_iff_ne]; omega
      clear hf hce h0
      go_enter Try.func42, Try.ntmps42
      go_wp2
      go_ret
      exact ⟨rfl, rfl⟩
    · have h00 : ((s.size : Int) == 0) = false := by rw [beq_eq_false_iff_ne]; omega
      have hlead : 1 < s.size → byteAt s 0 ≠ 48 := fun h1 h2 => hz ⟨h1, by rw [hce, h2]⟩
      have Hlead := Lib.hid hlead
      have ways : ¬ (1 : Int) < (s.size : Int) ∨ ((1 : Int) < (s.size : Int) ∧ ((c : Int) == 48) = false) := by
        by_cases h1 : 1 < s.size
        · refine .inr ⟨by omega, ?_⟩
          rw [beq_eq_false_iff_ne]
          intro h; exact hz ⟨h1, by omega⟩
        · exact .inl (by omega)
      have H0 := Lib.hid h0
      clear hz hlead hce h0
      obtain ⟨r, hr⟩ : ∃ r, decide (TextOk s) = r := ⟨_, rfl⟩
      have Hr := Lib.hid hr
      rw [hr]
      clear hr
      rcases ways with hw1 | ⟨hw1, hw2⟩
      all_goals
        go_enter Try.func42, Try.ntmps42
        go_wp2
        go_loop [3] (fun iv => ∃ i : Nat, i ≤ s.size ∧ iv = .int .i64 i ∧ Digi s i) (fun iv => s.size - (intOf iv).toNat)
        case atStart => exact ⟨0, by omega, rfl, fun i hi => by omega⟩
        case round =>
          obtain ⟨i, hi, rfl, hD⟩ := hrel
          have HD := Lib.hid hD
          clear hD
          by_cases hlt : i < s.size
          · obtain ⟨b, hb⟩ : ∃ b : Nat, ∀ h : i < s.size, (s[i]'h).toNat = b := ⟨byteAt s i, fun h => byteAt_eq h⟩
            have hbe : b = byteAt s i := by rw [← hb hlt, byteAt_eq hlt]
            have Hbe := Lib.hid hbe
            have t1 : (i : Int) < (s.size : Int) := by omega
            have hcl : b < 256 := by rw [hbe]; exact byteAt_lt s i
            clear hbe
            by_cases c1 : b < 48
            · have q1 : (b : Int) < 48 := by omega
              have hf : r = false := by rw [← Hr.out, decide_eq_false_iff_not]; intro h; have := h.2.2 i hlt; rw [← Hbe.out] at this; omega
              subst hf
              go_wp2
              go_ret
              exact ⟨rfl, rfl⟩
            · have q1 : ¬ (b : Int) < 48 := by omega
              by_cases c2 : b ≤ 57
              · have q2 : ¬ (57 : Int) < (b : Int) := by omega
                have hDn : Digi s (i + 1) := fun k hk => by
                  by_cases hk2 : k < i
                  · exact HD.out k hk2
                  · obtain rfl : k = i := by omega
                    rw [← Hbe.out]; omega
                have HDn := Lib.hid hDn
                clear hDn
                go_wp2
                go_round
                case rel => exact ⟨i + 1, by omega, by go_num, HDn.out⟩
                case measure => simp [intOf]; omega
              · have q2 : (57 : Int) < (b : Int) := by omega
                have hf : r = false := by rw [← Hr.out, decide_eq_false_iff_not]; intro h; have := h.2.2 i hlt; rw [← Hbe.out] at this; omega
                subst hf
                go_wp2
                go_ret
                exact ⟨rfl, rfl⟩
          · obtain rfl : i = s.size := by omega
            have t1 : ¬ ((s.size : Int) < (s.size : Int)) := by omega
            have hf : r = true := by rw [← Hr.out, decide_eq_true_iff]; exact ⟨by have := H0.out; omega, Hlead.out, HD.out⟩
            subst hf
            clear hlt
            go_wp2
            go_ret
            exact ⟨rfl, rfl⟩

theorem ten10 : (10 : Int) = ((10 : Nat) : Int) := rfl
theorem parse_add {s : ByteArray} {i : Nat} : dec s (i + 1) = dec s i * 10 + (byteAt s i - 48) := by rw [dec, Nat.mul_comm]
theorem stepBelow {a b c : World} (h : Below a.heap.size a b) (k : Below b.heap.size b c) : Below a.heap.size a c := below_trans h k

set_option maxRecDepth 100000 in
set_option maxHeartbeats 400000 in
theorem rparse_calls (s : ByteArray) (w : World) (hd : Digi s s.size) (hl : s.size ≤ 100000) :
    Calls Try.prog 43 #[.string s] w fun e w' => ∃ v, e = .returned v ∧ Num w' v (dec s s.size) ∧ Below w.heap.size w w' := by
  have HD := Lib.hid hd
  clear hd
  have hown0 := num_empty (own_made w)
  have hb0 := below_alloc w (.cells #[] 24)
  go_enter Try.func43, Try.ntmps43
  go_wp2
  go_loopw [3, 4] (fun ov iv wr => ∃ i : Nat, i ≤ s.size ∧ iv = .int .i64 i ∧ Num wr ov (dec s i) ∧ Below w.heap.size w wr) (fun _ iv _ => s.size - (intOf iv).toNat)
  case atStart => exact ⟨0, by omega, rfl, hown0, hb0⟩
  case round =>
    obtain ⟨i, hi, rfl, hv, hbel⟩ := hrel
    by_cases hlt : i < s.size
    · obtain ⟨c, hc⟩ : ∃ c : Nat, ∀ h : i < s.size, (s[i]'h).toNat = c := ⟨byteAt s i, fun h => byteAt_eq h⟩
      have hce : c = byteAt s i := by rw [← hc hlt, byteAt_eq hlt]
      have hcd := HD.out i hlt
      rw [← hce] at hcd
      obtain ⟨c1, c2⟩ := hcd
      have hnext : dec s (i + 1) = dec s i * 10 + (c - 48) := by rw [parse_add, hce]
      have Hnext := Lib.hid hnext
      have hlen := ten_len (Nat.le_of_lt (dec_lt s i (fun k hk => HD.out k (by omega))))
      have hlen2 := limbs_length_mul (dec s i) 10
      have l10 : (limbs 10).length ≤ 1 := limbs_length_le (by omega)
      have lc : (limbs (c - 48)).length ≤ 1 := limbs_length_le (by omega)
      have t1 : (i : Int) < (s.size : Int) := by omega
      have q1 : (48 : Int) ≤ (c : Int) := by omega
      have q2 : (c : Int) ≤ 57 := by omega
      generalize dec s i = x at *
      have kc : (c : Int) - 48 = ((c - 48 : Nat) : Int) := by omega
      have Kc := Lib.hid kc
      have kw2 : IntKind.u64.wrap ((c : Int) - 48) = (c : Int) - 48 := by rw [IntKind.wrap_u64]; omega
      have kw : IntKind.u8.wrap ((c : Int) - 48) = (c : Int) - 48 := by rw [IntKind.wrap_u8]; omega
      have hX : ∀ W, Below wr.heap.size wr W → Num W u3 x := fun W h => hv.mono h
      have HX := Lib.hid hX
      have hbd : Below wr.heap.size wr wr.drew := (Below.refl _ _).drew
      clear hce hnext kc hX hv
      go_wp2_with fail
      go_region_with (first
        | (go_at_call 60; (with_reducible refine (rtimes_calls u3 x 10 10 _ (HX.out _ (by assumption)) ten10 (by omega) (by omega)).mono ?_); rintro e w8 ⟨v8, rfl, h8, _, b8⟩; have g8 : Below wr.heap.size wr w8 := stepBelow (by assumption) b8; (try have h9' := h9.mono b8))
        | (go_at_call 61; (with_reducible refine (rof_calls (c - 48) _ _ Kc.out (by omega)).mono ?_); rintro e w9 ⟨v9, rfl, h9, _, b9⟩; have g9 : Below wr.heap.size wr w9 := stepBelow (by assumption) b9; (try have h8' := h8.mono b9))
        | (go_at_call 59; (with_reducible refine (radd_calls v8 v9 (x * 10) (c - 48) _ (by assumption) (by assumption) (by omega) (by omega)).mono ?_); rintro e w10 ⟨v10, rfl, h10, _, b10⟩; have g10 : Below wr.heap.size wr w10 := stepBelow (by assumption) b10))
      all_goals go_wp2
      all_goals
        go_roundw
        case rel => exact ⟨i + 1, by omega, by go_num, by rw [Hnext.out]; exact h10, below_trans hbel g10⟩
        case measure => simp [intOf]; omega
    · obtain rfl : i = s.size := by omega
      have t1 : ¬ ((s.size : Int) < (s.size : Int)) := by omega
      clear hlt
      go_wp2
      go_ret
      exact ⟨_, rfl, hv, hbel⟩

end Go.Proofs
