/- The reference's number: the same text as strconv.Itoa's. -/
import Derived.Test.YtmnalmmffphnpaaDoorRText
import Derived.Test.YtmnalmmffphnpaaDoorTab
open Go.RowKit Go.Deep
namespace Go.Proofs
set_option linter.unusedVariables false
set_option linter.unusedSimpArgs false

theorem text_step {m : Nat} (h : 10 ≤ m) : text m = text (m / 10) ++ [m % 10 + 48] := by
  unfold text
  rw [if_neg (by omega), if_neg (by omega), lows_pos (by omega), List.reverse_cons]
theorem text_one {m : Nat} (h : m < 10) : text m = [m + 48] := by
  unfold text
  by_cases h0 : m = 0
  · rw [if_pos h0, h0]
  · rw [if_neg h0, lows_pos h0, Nat.mod_eq_of_lt h, Nat.div_eq_of_lt h, lows_zero]
    rfl
theorem text_dec : ∀ m : Nat, (text m).map (fun x => UInt8.ofNat x) = Lib.decDigits m := by
  intro m
  induction m using Nat.strongRecOn with
  | ind m ih =>
    rw [Lib.decDigits]
    by_cases h : m < 10
    · rw [dif_pos h, text_one h, Nat.add_comm]
      rfl
    · rw [dif_neg h, text_step (by omega), List.map_append, ih (m / 10) (by omega), Nat.add_comm]
      rfl
theorem strOf_dec (m : Nat) : strOf (text m) = itB (m : Int) := by
  apply ByteArray.ext
  apply Array.toList_inj.1
  rw [strOf_toList, text_dec]
  unfold itB Lib.itoa
  rw [if_neg (by omega)]
  rfl
set_option maxRecDepth 100000 in
theorem number_calls (m : Nat) (w : World) (hm : m < 9223372036854775808) :
    Calls Tryd.prog 29 #[.int .i64 (m : Int)] w fun e w' => e = .returned (.string (itB (m : Int))) ∧ Below w.heap.size w w' := by
  have cv : IntKind.u64.wrap (m : Int) = (m : Int) := by rw [IntKind.wrap_u64]; omega
  have hl : (limbs m).length ≤ 2 := limbs_length_le (by omega)
  have OF := rof_calls m (m : Int) w rfl (by omega)
  rw [← strOf_dec]
  go_enter Tryd.func29, Tryd.ntmps29
  go_wp2_with fail
  refine OF.mono ?_
  rintro e w1 ⟨v1, rfl, h1, _, b1⟩
  go_wp2_with fail
  refine (rtext_calls _ m _ h1 (by omega)).mono ?_
  rintro e w2 ⟨rfl, b2⟩
  go_wp2
  go_ret
  exact ⟨rfl, below_trans b1 b2⟩

end Go.Proofs
