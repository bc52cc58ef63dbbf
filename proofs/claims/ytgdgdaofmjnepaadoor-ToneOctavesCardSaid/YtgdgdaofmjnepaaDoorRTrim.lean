/- The reference: trim returns a new slice of the limbs of a number. -/
import Derived.Test.YtgdgdaofmjnepaaDoorGrow
import Derived.Test.YtgdgdaofmjnepaaDoorBits
open Go.RowKit
namespace Go.Proofs
set_option linter.unusedVariables false

theorem rtrim_raw (ad : Option Addr) (c : Nat) (xs : List Nat) (w : World) (hx : Sl w ad c xs) (hreach : xs.length ≤ 1000000000) :
    Calls Tryd.prog 93 #[.slice ad xs.length c] w (RetNum w (val xs)) := by
  have hc := hx.1
  have hcm := hx.2.1
  unfold maxLen at hcm
  go_enter Tryd.func93, Tryd.ntmps93
  go_wp2
  go_loop [3] (fun v => ∃ m : Nat, m ≤ xs.length ∧ v = .int .i64 m ∧ val (xs.take m) = val xs) (fun v => (intOf v).toNat)
  case atStart => exact ⟨xs.length, Nat.le_refl _, rfl, by simp⟩
  case round =>
    obtain ⟨m, hm, rfl, hv⟩ := hrel
    have Hv := Lib.hid hv
    clear hv
    have key : ∀ (hl : m = 0 ∨ xs.getD (m - 1) 0 ≠ 0), limbs (val xs) = xs.take m := fun hl => limbs_of_take xs m hm hx.2.2.1 Hv.out hl
    by_cases h0 : 0 < m ∧ xs.getD (m - 1) 0 = 0
    · obtain ⟨b, o, rfl, hbs, hcell, hfr⟩ := hx.open (i := m - 1) (by omega)
      have hx0 := h0.2
      rw [hx0] at hcell
      have Hx := Lib.hid hx0
      have ht : (0 : Int) < (m : Int) := by omega
      have hm0 := h0.1
      clear h0 hx0 hfr
      go_wp2
      go_round
      case rel => exact ⟨m - 1, by omega, by go_num, (val_take_pred xs m hm0 hm Hx.out).trans Hv.out⟩
      case measure => simp [intOf]; omega
    · have hlim := key (by omega)
      have hlen : (limbs (val xs)).length = m := by rw [hlim, List.length_take, Nat.min_eq_left hm]
      have Hlim := Lib.hid hlim
      have Hlen := Lib.hid hlen
      clear hlim hlen key
      have hmade := own_made w
      have hb0 := below_alloc w (.cells #[] 102)
      have htake : ∀ i, i < m → xs.take i ++ [xs.getD i 0] = xs.take (i + 1) := by
        intro i hi
        rw [List.take_add_one]
        simp [List.getD, show i < xs.length by omega]
      have fin : ∀ (wr : World) (ov : Value), Own w.heap.size wr ov (xs.take m) → Num wr ov (val xs) ∧ Fresh w.heap.size ov := by
        intro wr ov ho
        have e : val (xs.take m) = val xs := Hv.out
        have := ho.num (by rw [e]; exact Hlim.out)
        rwa [e] at this
      have Htake := Lib.hid htake
      have Fin := Lib.hid fin
      clear htake fin
      have ways : (m = 0) ∨ (0 < m ∧ (0 : Int) < (m : Int) ∧ ∃ (b o x : Nat), ad = some ⟨b, o, none⟩ ∧ w.cell? ⟨b, o + (m - 1), none⟩ = some (.int .u32 x) ∧ ((x : Int) == 0) = false) := by
        by_cases hm0 : m = 0
        · exact .inl hm0
        · obtain ⟨b, o, rfl, hbs, hcell, hfr⟩ := hx.open (i := m - 1) (by omega)
          refine .inr ⟨by omega, by omega, b, o, _, rfl, hcell, ?_⟩
          rw [beq_eq_false_iff_ne]
          intro e
          exact h0 ⟨by omega, by omega⟩
      clear h0
      rcases ways with rfl | ⟨hm0, hm1, b, o, x, rfl, hcell, hxx⟩
      · go_wp2
        go_loopw [4, 5] (fun ov iv wr => iv = .int .i64 0 ∧ Own w.heap.size wr ov (xs.take 0) ∧ Below w.heap.size w wr) (fun _ iv _ => 0)
        case atStart => exact ⟨rfl, hmade, hb0⟩
        case round =>
          obtain ⟨rfl, hown, hbel⟩ := hrel
          go_wp2
          go_ret
          obtain ⟨h1, h2⟩ := Fin.out _ _ hown
          exact ⟨_, rfl, h1, h2, hbel⟩
      · go_wp2
        go_loopw [4, 5] (fun ov iv wr => ∃ i : Nat, i ≤ m ∧ iv = .int .i64 i ∧ Own w.heap.size wr ov (xs.take i) ∧ Below w.heap.size w wr) (fun _ iv _ => m - (intOf iv).toNat)
        case atStart => exact ⟨0, Nat.zero_le _, rfl, hmade, hb0⟩
        case round =>
          obtain ⟨i, hi, rfl, hown, hbel⟩ := hrel
          by_cases hlt : i < m
          · obtain ⟨b2, o2, e2, hbs2, hcell2, _⟩ := hx.open (i := i) (by omega)
            cases e2
            have hlt2 := hx.lt i
            have htk := Htake.out i hlt
            obtain ⟨d, ed⟩ : ∃ d, xs.getD i 0 = d := ⟨_, rfl⟩
            rw [ed] at hcell2 hlt2 htk
            have hcell3 := (hbel.cell (p := ⟨b, o + i, none⟩) hbs2).trans hcell2
            have Htk := Lib.hid htk
            have hlen : (xs.take i).length = i := by rw [List.length_take, Nat.min_eq_left (by omega)]
            clear hcell2 ed htk
            have hown2 := hown.mono (below_alloc wr (.cells #[Value.int .u32 (d : Int)] 102))
            have hsl2 := sl_one wr d d rfl hlt2 102
            have hbel2 := below_trans hbel (below_alloc wr (.cells #[Value.int .u32 (d : Int)] 102))
            go_wp2_with (at_builtin; refine wpList_append_lims rfl (.tmp 26) (.tmp 31) _ rfl Tryd.underlying56 info32 w.heap.size _ _ rfl hown2 hbel2.size _ 1 _ _ rfl rfl hsl2 (by rw [hlen]; simp; omega) ?_; intro v3 w3 hown3 hb3)
            go_roundw
            case rel =>
              rw [Htk.out] at hown3
              exact ⟨i + 1, by omega, by go_num, hown3, hbel2.trans hb3⟩
            case measure => simp [intOf]; omega
          · obtain rfl : i = m := by omega
            go_wp2
            go_ret
            obtain ⟨h1, h2⟩ := Fin.out _ _ hown
            exact ⟨_, rfl, h1, h2, hbel⟩

theorem rtrim_calls (ad : Option Addr) (c n : Nat) (xs : List Nat) (w : World) (hx : Sl w ad c xs) (hn : n = xs.length) (hreach : xs.length ≤ 1000000000) :
    Calls Tryd.prog 93 #[.slice ad n c] w (RetNum w (val xs)) := by
  subst hn
  exact rtrim_raw ad c xs w hx hreach

end Go.Proofs
