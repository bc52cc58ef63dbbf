/- the reference: Text. -/
import Derived.Test.YtpflnpekcdjheaaGreatDoorText
import Derived.Test.YtpflnpekcdjheaaGreatDoorRefA
open Go.RowKit
namespace Go.Proofs
set_option linter.unusedVariables false
set_option linter.unusedSimpArgs false

def strOfL (xs : List Nat) : List UInt8 := xs.map fun x => UInt8.ofNat x

theorem strOf_of {s : ByteArray} {xs : List Nat} (h : s.data.toList = strOfL xs) : s = strOf xs := by
  apply ByteArray.ext
  apply Array.toList_inj.1
  rw [h, strOf_toList]
  rfl

theorem frozen_new (w : World) (c : Array Value) (e : TypeId) : (w.alloc (.cells c e)).frozen? ⟨w.heap.size, 0, none⟩ = false := by
  unfold World.frozen?
  rw [heap_alloc_new]
  simp

theorem lows_room {m k : Nat} (h : (limbs m).length ≤ k) : (lows m).length ≤ 32 * k := by
  rw [lows, List.length_map, dign, List.length_map]
  exact digs_room 10 m k h

theorem size_of_toList {s : ByteArray} {l : List UInt8} (h : s.data.toList = l) : s.size = l.length := by
  rw [← h]; exact Array.length_toList.symm

set_option maxRecDepth 100000 in
set_option maxHeartbeats 1000000 in
theorem rtext_calls (v : Value) (m : Nat) (w : World) (hv : Num w v m) (hl : (limbs m).length ≤ 10000) :
    Calls Tryz.prog 38 #[v] w fun e w' => e = .returned (.string (strOf (text m))) ∧ Below w.heap.size w w' := by
  by_cases hm : m = 0
  · have htx : text m = [48] := by rw [text, if_pos hm]
    have Htx := Lib.hid htx
    obtain ⟨ad, c, rfl, hs⟩ := hv
    have h0 : (limbs m).length = 0 := by rw [hm, limbs_zero]; rfl
    clear htx hm hs
    go_enter Tryz.func38, Tryz.ntmps38
    go_wp2
    go_ret
    exact ⟨by rw [Htx.out]; rfl, Below.refl _ _⟩
  · have htx : text m = (lows m).reverse := by rw [text, if_neg hm]
    have Htx := Lib.hid htx
    obtain ⟨ad, c, rfl, hs⟩ := hv
    have hv : Num w (.slice ad (limbs m).length c) m := ⟨_, _, rfl, hs⟩
    have h0 : (((limbs m).length : Int) == 0) = false := by
      rw [beq_eq_false_iff_ne]
      intro h
      exact hm (limbs_eq_nil.mp (List.eq_nil_of_length_eq_zero (by omega)))
    clear htx hm hs
    go_enter Tryz.func38, Tryz.ntmps38
    go_wp2
    go_loopw [0, 3] (fun rv sv wr => ∃ (r : Nat) (s : ByteArray) (ds : List Nat), Num wr rv r ∧ sv = .string s ∧ lows m = ds ++ lows r ∧ s.data.toList = strOfL ds.reverse ∧ (limbs r).length ≤ 10000 ∧ Below w.heap.size w wr)
      (fun rv _ wr => numOf wr rv)
    case atStart => exact ⟨m, _, [], hv, rfl, rfl, rfl, hl, Below.refl _ _⟩
    case round =>
      obtain ⟨r, s, ds, hr, rfl, hD, hs, hlr, hbel⟩ := hrel
      have HD := Lib.hid hD
      have Hs := Lib.hid hs
      clear hD hs
      have hr0 := hr
      obtain ⟨ad1, c1, rfl, hs1⟩ := hr0
      by_cases hz : r = 0
      · have t1 : ¬ 0 < (limbs r).length := by rw [hz, limbs_zero]; simp
        have hfin : s = strOf (text m) := strOf_of (by rw [Hs.out, Htx.out, HD.out, hz, lows_zero, List.append_nil])
        have Hfin := Lib.hid hfin
        clear hz hfin hs1
        go_wp2
        go_ret
        exact ⟨by rw [← Hfin.out]; rfl, hbel⟩
      · have t1 : 0 < (limbs r).length := by
          by_cases h : (limbs r).length = 0
          · exact absurd (limbs_eq_nil.mp (List.eq_nil_of_length_eq_zero h)) hz
          · omega
        have hnew : lows m = (ds ++ [r % 10 + 48]) ++ lows (r / 10) := by rw [HD.out, lows_pos hz, List.append_assoc]; rfl
        have hlq := limbs_length_mono (Nat.div_le_self r 10)
        have hlt : r / 10 < r := Nat.div_lt_self (by omega) (by omega)
        have Hlt := Lib.hid hlt
        have hnr := numOf_eq hr
        have Hnr := Lib.hid hnr
        have hmod := Nat.mod_lt r (show 0 < 10 by omega)
        obtain ⟨b, eb⟩ : ∃ b, r % 10 + 48 = b := ⟨_, rfl⟩
        rw [eb] at hnew
        have Hnew := Lib.hid hnew
        have hwrap : IntKind.u8.wrap (48 + (r : Int) % 10) = (b : Int) := by rw [IntKind.wrap_u8]; omega
        have hb256 : b < 256 := by omega
        clear hnew hlt hz hs1 hnr eb hmod
        go_wp2_with fail
        refine (rover_calls _ r 10 10 wr hr rfl (by omega) (by omega) (by omega)).mono ?_
        rintro e w1 ⟨vq, rfl, hq, _, hb⟩
        have hcell : CellB (w1.alloc (.cells #[Value.int .u8 (b : Int)] 5)) w1.heap.size [b] := by
          intro i hi
          obtain rfl : i = 0 := by simpa using hi
          exact ⟨cells_one w1 (.int .u8 (b : Int)) 5 0 (by omega), frozen_new w1 _ _⟩
        have hq2 := hq.mono (below_alloc w1 (.cells #[Value.int .u8 (b : Int)] 5))
        have hbel2 := below_trans (below_trans hbel hb) (below_alloc w1 (.cells #[Value.int .u8 (b : Int)] 5))
        have kc := hcell.string 58 Tryz.underlying58 1 1 rfl 9 Tryz.underlying9
        have hlen := lows_room hl
        have hsz : ¬ 9223372036854775807 < (strOf [b]).size + s.size := by
          have h1 := congrArg List.length Hnew.out
          rw [List.length_append, List.length_append] at h1
          have h2 := size_of_toList Hs.out
          rw [strOfL, List.length_map, List.length_reverse] at h2
          have h3 := strOf_size [b]
          simp only [List.length_cons, List.length_nil] at h3 h1
          omega
        have hs3 : (strOf [b] ++ s).data.toList = strOfL (ds ++ [b]).reverse := by
          rw [ByteArray.data_append, Array.toList_append, strOf_toList, Hs.out, List.reverse_append]
          rfl
        have Hs3 := Lib.hid hs3
        clear hs3
        go_wp2
        go_roundw
        case rel => exact ⟨r / 10, _, ds ++ [b], hq2, rfl, Hnew.out, Hs3.out, by omega, hbel2⟩
        case measure => rw [numOf_eq hq2, Hnr.out]; exact Hlt.out

end Go.Proofs
