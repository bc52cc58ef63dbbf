/- nat.Parse: the number of a decimal text, or the error. -/
import Derived.Test.YtbpkobjiinkpoaaDec
import Derived.Test.YtbpkobjiinkpoaaNatD
open Go.RowKit
namespace Go.Proofs
set_option linter.unusedVariables false
set_option linter.unusedSimpArgs false

def sizeOfStr : Value → Nat | .string s => s.size | _ => 0

theorem empty_list (s : ByteArray) (h : s.size = 0) : s.toList = [] := by
  rw [ByteArray.toList_eq]; exact List.eq_nil_of_length_eq_zero (by simpa using h)

theorem ten_len {x n : Nat} (h : x ≤ 10 ^ n) : (limbs x).length ≤ n + 1 := by
  have h5 := limbs_length_pow 10 n
  have h6 : (limbs 10).length ≤ 1 := limbs_length_le (by omega)
  have h7 := limbs_length_mono h
  have h8 : (limbs 10).length * n ≤ 1 * n := Nat.mul_le_mul_right n h6
  omega

theorem str_some {s : ByteArray} (h : 0 < s.size) : s.toList.isEmpty = false ∧ ¬ s.toList = [] := by
  have h2 : s.toList.length = s.size := by rw [ByteArray.toList_eq]; simp
  have h3 : ¬ s.toList = [] := by
    intro e
    rw [e] at h2
    simp at h2
    omega
  exact ⟨by simpa using h3, h3⟩
theorem str_none {s : ByteArray} (h : s.size = 0) : s.toList.isEmpty = true ∧ s.toList = [] := by
  rw [empty_list s h]; exact ⟨rfl, rfl⟩

set_option maxRecDepth 100000 in
set_option maxHeartbeats 1000000 in
theorem parse_ok (s : ByteArray) (w : World) (h : TextOk s) (hl : s.size ≤ 20000) :
    Calls Try.prog 21 #[.string s] w (Got w (dec s s.size) 0) := by
  obtain ⟨h0, h1, hd⟩ := h
  have HD := Lib.hid hd
  have H1 := Lib.hid h1
  clear hd h1
  go_enter Try.func21, Try.ntmps21
  go_wp2
  go_loop [12] (fun iv => ∃ i : Nat, i ≤ s.size ∧ iv = .int .i64 i) (fun iv => s.size - (intOf iv).toNat)
  case atStart => exact ⟨0, by omega, rfl⟩
  case round =>
    obtain ⟨i, hi, rfl⟩ := hrel
    by_cases hlt : i < s.size
    · obtain ⟨c, hc⟩ : ∃ c : Nat, ∀ h : i < s.size, (s[i]'h).toNat = c := ⟨byteAt s i, fun h => byteAt_eq h⟩
      have hc1 : 48 ≤ c ∧ c ≤ 57 := by rw [← hc hlt, byteAt_eq hlt]; exact HD.out i hlt
      obtain ⟨c1, c2⟩ := hc1
      have t1 : (i : Int) < (s.size : Int) := by omega
      go_wp2
      go_round
      case rel => exact ⟨i + 1, by omega, by go_num⟩
      case measure => simp [intOf]; omega
    · obtain rfl : i = s.size := by omega
      have t1 : ¬ ((s.size : Int) < (s.size : Int)) := by omega
      obtain ⟨e0, e00⟩ := str_some h0
      obtain ⟨c, hc⟩ : ∃ c : Nat, ∀ h : 0 < s.size, (s[0]'h).toNat = c := ⟨byteAt s 0, fun h => byteAt_eq h⟩
      have hc0 : c = byteAt s 0 := by rw [← hc h0, byteAt_eq h0]
      have Hc0 := Lib.hid hc0
      have hlong : ¬ (20000 : Int) < (s.size : Int) := by omega
      clear hc0 hlt
      go_upto_region 7 with (fail)
      go_cut [26] from 27 to 38 (fun tv wx => tv = .bool false ∧ wx = w)
      case first =>
        by_cases h48 : c = 48
        · have hs1 : ¬ (1 : Int) < (s.size : Int) := by
            intro h
            exact H1.out (by omega) (by rw [← Hc0.out, h48])
          have hb : ((c : Int) == 48) = true := by rw [h48]; rfl
          clear h48
          go_wp2_with fail
          go_meet
          exact ⟨rfl, rfl⟩
        · have hb : ((c : Int) == 48) = false := by rw [beq_eq_false_iff_ne]; omega
          go_wp2_with fail
          go_meet
          exact ⟨rfl, rfl⟩
      case rest =>
        obtain ⟨rfl, rfl⟩ := hcut
        go_wp2_with fail
        go_loopw [0, 5] (fun sv xv wr => ∃ (t : ByteArray) (x : Nat), sv = .string t ∧ Num wr xv x ∧ Fresh wc.heap.size xv ∧ Digi t t.size ∧ x * 10 ^ t.size + dec t t.size = dec s s.size ∧ t.size ≤ 20000 ∧ Below wc.heap.size wc wr)
          (fun sv _ _ => sizeOfStr sv)
        case atStart => exact ⟨s, 0, rfl, Num.nil _, trivial, HD.out, by omega, hl, Below.refl _ _⟩
        case round =>
          obtain ⟨t, x, rfl, hx, hxf, hdt, hval, htl, hbel⟩ := hrel
          have Hval := Lib.hid hval
          have Hdt := Lib.hid hdt
          clear hval hdt
          have hxl : (limbs x).length ≤ 20001 := by
            have h1 := dec_lt s s.size HD.out
            have h3 : x ≤ x * 10 ^ t.size := Nat.le_mul_of_pos_right x (Nat.pow_pos (by omega))
            have h4 := Hval.out
            have h5 := ten_len (show x ≤ 10 ^ s.size by omega)
            omega
          by_cases ht0 : t.size = 0
          · obtain ⟨e1, e10⟩ := str_none ht0
            have hxe : x = dec s s.size := by have := Hval.out; rw [ht0] at this; simpa [dec] using this
            have Hxe := Lib.hid hxe
            clear hxe ht0
            go_wp2
            go_ret2
            exact ⟨_, rfl, by rw [← Hxe.out]; exact hx, hxf, hbel⟩
          · obtain ⟨e1, e10⟩ := str_some (show 0 < t.size by omega)
            obtain ⟨n, hn⟩ : ∃ n : Nat, (t.size - 1) % 9 + 1 = n := ⟨_, rfl⟩
            have hn9 : 1 ≤ n ∧ n ≤ 9 ∧ n ≤ t.size := by omega
            have hnz : ((t.size : Int) - 1) % 9 + 1 = (n : Int) := by omega
            have k1 : (0 : Int) ≤ (t.size : Int) - 1 := by omega
            clear hn
            obtain ⟨n1, n9, nt⟩ := hn9
            go_wp2_with fail
            go_loop [7, 8, 51] (fun vv sc iv => ∃ i : Nat, i ≤ n ∧ iv = .int .i64 i ∧ vv = .int .u64 ((dec t i : Nat) : Int) ∧ sc = .int .u64 ((10 ^ i : Nat) : Int))
              (fun _ _ iv => n - (intOf iv).toNat)
            case atStart => exact ⟨0, by omega, rfl, rfl, rfl⟩
            case round =>
              obtain ⟨i, hi2, rfl, rfl, rfl⟩ := hrel
              have hdl := dec_lt t i (fun k hk => Hdt.out k (by omega))
              have hpl : 10 ^ i ≤ 10 ^ 9 := Nat.pow_le_pow_right (by omega) (by omega)
              have hp9 : (10 : Nat) ^ 9 = 1000000000 := by decide
              rw [hp9] at hpl
              by_cases hlt : i < n
              · obtain ⟨b, hb⟩ : ∃ b : Nat, ∀ h : i < t.size, (t[i]'h).toNat = b := ⟨byteAt t i, fun h => byteAt_eq h⟩
                have hbe : b = byteAt t i := by rw [← hb (by omega), byteAt_eq]
                have hb2 := Hdt.out i (by omega)
                rw [← hbe] at hb2
                obtain ⟨b1, b2⟩ := hb2
                have hds : dec t (i + 1) = 10 * dec t i + (b - 48) := by rw [dec, hbe]
                have hps : 10 ^ (i + 1) = 10 * 10 ^ i := by rw [Nat.pow_succ, Nat.mul_comm]
                have Hds := Lib.hid hds
                have Hps := Lib.hid hps
                have ti : (i : Int) < (t.size : Int) := by omega
                have tn : (i : Int) < (n : Int) := by omega
                have q1 : (48 : Int) ≤ (b : Int) := by omega
                have q2 : (b : Int) ≤ 57 := by omega
                obtain ⟨a, ha⟩ : ∃ a, dec t i = a := ⟨_, rfl⟩
                obtain ⟨p, hp⟩ : ∃ p, 10 ^ i = p := ⟨_, rfl⟩
                have Ha := Lib.hid ha
                have Hp := Lib.hid hp
                rw [ha] at hdl ⊢
                rw [hp] at hdl hpl ⊢
                have r1 : (a : Int) < 1000000000 := by omega
                have r2 : (p : Int) ≤ 1000000000 := by omega
                clear hds hps hbe ha hp hdl hpl hp9 b1 b2
                go_wp2
                go_round
                case rel =>
                  refine ⟨i + 1, by omega, by go_num, ?_, ?_⟩
                  · rw [Hds.out, Ha.out]; exact congrArg (Value.int .u64) (by omega)
                  · rw [Hps.out, Hp.out]; exact congrArg (Value.int .u64) (by omega)
                case measure => simp [intOf]; omega
              · obtain rfl : i = n := by omega
                have tn : ¬ (i : Int) < (i : Int) := by omega
                have hsplit := dec_split t i nt (t.size - i) (by omega)
                rw [show i + (t.size - i) = t.size by omega] at hsplit
                have hex : (t.extract i t.size).size = t.size - i := by rw [ByteArray.size_extract]; omega
                have hdx : Digi (t.extract i t.size) (t.size - i) := fun k hk => by rw [byteAt_extract t i k (by omega)]; exact Hdt.out _ (by omega)
                have hnew : (x * 10 ^ i + dec t i) * 10 ^ (t.size - i) + dec (t.extract i t.size) (t.size - i) = dec s s.size := by
                  rw [← Hval.out, hsplit, Nat.add_mul, Nat.mul_assoc, ← Nat.pow_add, show i + (t.size - i) = t.size by omega]
                  omega
                have hl1 : (limbs (x * 10 ^ i)).length ≤ 30000 := by
                  have := limbs_length_mul x (10 ^ i)
                  have h2 := ten_len (Nat.le_refl (10 ^ i))
                  omega
                have hl2 : (limbs (10 ^ i)).length ≤ 10 := by have h2 := ten_len (Nat.le_refl (10 ^ i)); omega
                have hl3 : (limbs (dec t i)).length ≤ 10 := by
                  have h2 := ten_len (Nat.le_of_lt hdl); omega
                have hv1 : dec t i < 18446744073709551616 := by omega
                have hv2 : 10 ^ i < 18446744073709551616 := by omega
                have Hex := Lib.hid hex
                have Hdx := Lib.hid hdx
                have Hnew := Lib.hid hnew
                clear hsplit hex hdx hnew hdl hp9 hpl hlt
                generalize dec t i = vv at *
                generalize 10 ^ i = sc at *
                have nti : (i : Int) ≤ (t.size : Int) := by omega
                go_wp2_with fail
                refine (of_calls sc _ _ rfl hv2).mono ?_
                rintro e w1 ⟨v1, rfl, h1, _, b1⟩
                replace hx := hx.mono b1
                go_wp2_with fail
                refine (times_calls _ _ x sc _ hx h1 (by omega) (by omega)).mono ?_
                rintro e w2 ⟨v2, rfl, h2, _, b2⟩
                go_wp2_with fail
                refine (of_calls vv _ _ rfl hv1).mono ?_
                rintro e w3 ⟨v3, rfl, h3, _, b3⟩
                replace h2 := h2.mono b3
                go_wp2_with fail
                refine (plus_calls _ _ (x * sc) vv _ h2 h3 (by omega) (by omega)).mono ?_
                rintro e w4 ⟨v4, rfl, h4, f4, b4⟩
                have b13 := below_trans (below_trans b1 b2) b3
                have bb := below_trans hbel (below_trans b13 b4)
                have f4' := f4.mono (below_trans hbel b13).size
                go_wp2
                go_roundw
                case rel => exact ⟨_, _, rfl, h4, f4', by rw [Hex.out]; exact Hdx.out, by rw [Hex.out]; exact Hnew.out, by rw [Hex.out]; omega, bb⟩
                case measure => simp only [sizeOfStr]; rw [Hex.out]; omega

set_option maxRecDepth 100000 in
set_option maxHeartbeats 1000000 in
theorem parse_form (s : ByteArray) (w : World) (h : ¬ TextOk s) (hl : s.size ≤ 9223372036854775807) :
    Calls Try.prog 21 #[.string s] w fun e w' => e = .returned (.tuple #[.slice none 0 0, .int .i64 2]) ∧ w = w' := by
  have H := Lib.hid h
  clear h
  go_enter Try.func21, Try.ntmps21
  go_wp2
  go_loop [12] (fun iv => ∃ i : Nat, i ≤ s.size ∧ iv = .int .i64 i ∧ Digi s i) (fun iv => s.size - (intOf iv).toNat)
  case atStart => exact ⟨0, by omega, rfl, fun i hi => by omega⟩
  case round =>
    obtain ⟨i, hi, rfl, hD⟩ := hrel
    have HD := Lib.hid hD
    clear hD
    by_cases hlt : i < s.size
    · obtain ⟨c, hc⟩ : ∃ c : Nat, ∀ h : i < s.size, (s[i]'h).toNat = c := ⟨byteAt s i, fun h => byteAt_eq h⟩
      have hce : c = byteAt s i := by rw [← hc hlt, byteAt_eq hlt]
      have Hce := Lib.hid hce
      have t1 : (i : Int) < (s.size : Int) := by omega
      have hcl : c < 256 := by rw [hce]; exact byteAt_lt s i
      clear hce
      by_cases c1 : c < 48
      · have q1 : (c : Int) < 48 := by omega
        go_wp2
        go_ret2
        exact ⟨rfl, rfl⟩
      · have q1 : ¬ (c : Int) < 48 := by omega
        by_cases c2 : c ≤ 57
        · have q2 : ¬ (57 : Int) < (c : Int) := by omega
          have hDn : Digi s (i + 1) := fun k hk => by
            by_cases hk2 : k < i
            · exact HD.out k hk2
            · obtain rfl : k = i := by omega
              rw [← Hce.out]; omega
          have HDn := Lib.hid hDn
          clear hDn
          go_wp2
          go_round
          case rel => exact ⟨i + 1, by omega, by go_num, HDn.out⟩
          case measure => simp [intOf]; omega
        · have q2 : (57 : Int) < (c : Int) := by omega
          go_wp2
          go_ret2
          exact ⟨rfl, rfl⟩
    · obtain rfl : i = s.size := by omega
      have t1 : ¬ ((s.size : Int) < (s.size : Int)) := by omega
      clear hlt
      by_cases h0 : s.size = 0
      · obtain ⟨e0, e00⟩ := str_none h0
        clear h0
        go_wp2
        go_ret2
        exact ⟨rfl, rfl⟩
      · obtain ⟨e0, e00⟩ := str_some (show 0 < s.size by omega)
        obtain ⟨c, hc⟩ : ∃ c : Nat, ∀ h : 0 < s.size, (s[0]'h).toNat = c := ⟨byteAt s 0, fun h => byteAt_eq h⟩
        have hc48 : c = 48 ∧ 1 < s.size := by
          have h1 : c = byteAt s 0 := by rw [← hc (by omega), byteAt_eq]
          rw [h1]
          by_cases hx : 1 < s.size ∧ byteAt s 0 = 48
          · exact ⟨hx.2, hx.1⟩
          · exact absurd ⟨by omega, fun h2 h3 => hx ⟨h2, h3⟩, HD.out⟩ H.out
        obtain ⟨rfl, h1⟩ := hc48
        have hp : (0 : Int) < (s.size : Int) := by omega
        have h11 : (1 : Int) < (s.size : Int) := by omega
        go_wp2
        go_ret2
        exact ⟨rfl, rfl⟩

set_option maxRecDepth 100000 in
set_option maxHeartbeats 1000000 in
theorem parse_long (s : ByteArray) (w : World) (h : TextOk s) (hl : 20000 < s.size) (hl2 : s.size ≤ 9223372036854775807) :
    Calls Try.prog 21 #[.string s] w fun e w' => e = .returned (.tuple #[.slice none 0 0, .int .i64 3]) ∧ w = w' := by
  obtain ⟨h0, h1, hd⟩ := h
  have HD := Lib.hid hd
  have H1 := Lib.hid h1
  clear hd h1
  go_enter Try.func21, Try.ntmps21
  go_wp2
  go_loop [12] (fun iv => ∃ i : Nat, i ≤ s.size ∧ iv = .int .i64 i) (fun iv => s.size - (intOf iv).toNat)
  case atStart => exact ⟨0, by omega, rfl⟩
  case round =>
    obtain ⟨i, hi, rfl⟩ := hrel
    by_cases hlt : i < s.size
    · obtain ⟨c, hc⟩ : ∃ c : Nat, ∀ h : i < s.size, (s[i]'h).toNat = c := ⟨byteAt s i, fun h => byteAt_eq h⟩
      have hc1 : 48 ≤ c ∧ c ≤ 57 := by rw [← hc hlt, byteAt_eq hlt]; exact HD.out i hlt
      obtain ⟨c1, c2⟩ := hc1
      have t1 : (i : Int) < (s.size : Int) := by omega
      go_wp2
      go_round
      case rel => exact ⟨i + 1, by omega, by go_num⟩
      case measure => simp [intOf]; omega
    · obtain rfl : i = s.size := by omega
      have t1 : ¬ ((s.size : Int) < (s.size : Int)) := by omega
      obtain ⟨e0, e00⟩ := str_some h0
      obtain ⟨c, hc⟩ : ∃ c : Nat, ∀ h : 0 < s.size, (s[0]'h).toNat = c := ⟨byteAt s 0, fun h => byteAt_eq h⟩
      have hc0 : c ≠ 48 := by rw [← hc h0, byteAt_eq h0]; exact H1.out (by omega)
      have hb : ((c : Int) == 48) = false := by rw [beq_eq_false_iff_ne]; omega
      have hp : (0 : Int) < (s.size : Int) := by omega
      have hlong : (20000 : Int) < (s.size : Int) := by omega
      clear hlt hc0
      go_wp2
      go_ret2
      exact ⟨rfl, rfl⟩

end Go.Proofs
