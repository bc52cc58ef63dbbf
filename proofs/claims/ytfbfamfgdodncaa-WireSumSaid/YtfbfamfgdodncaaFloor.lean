/- wire.bound and wire.Floor, and the reference's Floor. -/
import Derived.Test.YtfbfamfgdodncaaInts
open Go.RowKit Go.Deep
namespace Go.Proofs
set_option linter.unusedVariables false

def fstTo (zs : List Int) (C k : Int) : Nat → Int
  | 0 => 0
  | i + 1 => fstTo zs C k i + (if C - k < zs.getD i 0 then 1 else 0)
def sndTo (zs : List Int) (C k : Int) : Nat → Int
  | 0 => 0
  | i + 1 => sndTo zs C k i + (if C - k < zs.getD i 0 then 0 else if C < 2 * zs.getD i 0 then 1 else 0)
def secTo (zs : List Int) (C k : Int) : Nat → Int
  | 0 => 0
  | i + 1 => secTo zs C k i + (if C - k < zs.getD i 0 then 0 else if C < 2 * zs.getD i 0 then zs.getD i 0 else 0)
def roomTo (zs : List Int) (C k : Int) : Nat → Int
  | 0 => 0
  | i + 1 => roomTo zs C k i + (if C - k < zs.getD i 0 then 0 else if C < 2 * zs.getD i 0 then C - zs.getD i 0 else 0)
def smallTo (zs : List Int) (C k : Int) : Nat → Int
  | 0 => 0
  | i + 1 => smallTo zs C k i + (if C - k < zs.getD i 0 then 0 else if C < 2 * zs.getD i 0 then 0 else if k ≤ zs.getD i 0 then zs.getD i 0 else 0)
def cntTo (zs : List Int) (C k : Int) (i : Nat) : Int := fstTo zs C k i + sndTo zs C k i

theorem room_eq (zs : List Int) (C k : Int) : ∀ i, roomTo zs C k i = sndTo zs C k i * C - secTo zs C k i
  | 0 => by simp [roomTo, sndTo, secTo]
  | i + 1 => by
    simp only [roomTo, sndTo, secTo, room_eq zs C k i]
    split
    · simp only [Int.add_zero]
    · split
      · rw [Int.add_mul]; omega
      · simp only [Int.add_zero]

/-- what is known of the pieces -/
def Fine (zs : List Int) (C : Int) (n : Nat) : Prop := n ≤ 14 ∧ 1 ≤ C ∧ C ≤ 1000000000 ∧ ∀ i, i < n → 1 ≤ zs.getD i 0 ∧ zs.getD i 0 ≤ C

theorem tos (zs : List Int) (C k : Int) {n : Nat} (h : Fine zs C n) : ∀ i, i ≤ n →
    0 ≤ fstTo zs C k i ∧ 0 ≤ sndTo zs C k i ∧ fstTo zs C k i + sndTo zs C k i ≤ i ∧ 0 ≤ secTo zs C k i ∧ secTo zs C k i ≤ i * 1000000000 ∧
    0 ≤ roomTo zs C k i ∧ roomTo zs C k i ≤ i * 1000000000 ∧ 0 ≤ smallTo zs C k i ∧ smallTo zs C k i ≤ i * 1000000000
  | 0, _ => by simp [fstTo, sndTo, secTo, roomTo, smallTo]
  | i + 1, hi => by
    have h1 := tos zs C k h i (by omega)
    have h2 := h.2.2.2 i (by omega)
    have h3 := h.2.2.1
    simp only [fstTo, sndTo, secTo, roomTo, smallTo]
    generalize fstTo zs C k i = a at *
    generalize sndTo zs C k i = b at *
    generalize secTo zs C k i = c at *
    generalize roomTo zs C k i = d at *
    generalize smallTo zs C k i = e at *
    generalize zs.getD i 0 = p at *
    split
    · omega
    · split
      · omega
      · split <;> omega

/-- the bound of a number k -/
def boundZ (zs : List Int) (C k : Int) (n : Nat) : Int :=
  if smallTo zs C k n ≤ roomTo zs C k n then cntTo zs C k n else cntTo zs C k n + (smallTo zs C k n - roomTo zs C k n + C - 1) / C

def bestTo (zs : List Int) (C : Int) (n : Nat) : Nat → Int
  | 0 => boundZ zs C 0 n
  | i + 1 => if C < 2 * zs.getD i 0 then bestTo zs C n i else max (bestTo zs C n i) (boundZ zs C (zs.getD i 0) n)

theorem div_small {a C : Int} {m : Nat} (hC : 1 ≤ C) (h0 : 0 ≤ a) (h : a ≤ m * C) : 0 ≤ (a + C - 1) / C ∧ (a + C - 1) / C ≤ m := by
  constructor
  · exact Int.ediv_nonneg (by omega) (by omega)
  · have h1 : (a + C - 1) / C < m + 1 := by
      rw [Int.ediv_lt_iff_lt_mul (by omega), Int.add_mul]
      omega
    omega

theorem boundZ_bounds {zs : List Int} {C k : Int} {n : Nat} (h : Fine zs C n) : 0 ≤ boundZ zs C k n ∧ boundZ zs C k n ≤ 14000000014 := by
  have t := tos zs C k h n (Nat.le_refl _)
  unfold boundZ cntTo
  generalize fstTo zs C k n = a at *
  generalize sndTo zs C k n = b at *
  generalize secTo zs C k n = c at *
  generalize roomTo zs C k n = d at *
  generalize smallTo zs C k n = e at *
  have h1 := h.1
  have h2 := h.2.1
  split
  · omega
  · have := div_small (a := e - d) (C := C) (m := 14000000000) h2 (by omega) (by
      have : (14000000000 : Int) * 1 ≤ 14000000000 * C := Int.mul_le_mul_of_nonneg_left h2 (by omega)
      simp only [Int.mul_one] at this
      refine Int.le_trans ?_ this
      omega)
    omega

theorem bestTo_bounds {zs : List Int} {C : Int} {n : Nat} (h : Fine zs C n) : ∀ i, 0 ≤ bestTo zs C n i ∧ bestTo zs C n i ≤ 14000000014
  | 0 => boundZ_bounds h
  | i + 1 => by
    have h1 := bestTo_bounds h i
    have h2 := boundZ_bounds (k := zs.getD i 0) h
    simp only [bestTo]
    split <;> omega

set_option maxRecDepth 100000 in
theorem bound_calls (g c n : Nat) (zs : List Int) (C k : Int) (w : World) (hn : n = zs.length) (hf : Fine zs C n) (hk : 0 ≤ k ∧ k ≤ C) (h : CellZ w g zs) :
    Calls Try.prog 67 #[.slice (some ⟨g, 0, none⟩) n c, .int .i64 C, .int .i64 k] w fun e w' => e = .returned (.int .i64 (boundZ zs C k n)) ∧ w = w' := by
  have HN := Lib.hid hn
  have hC1 := hf.2.1
  have hC2 := hf.2.2.1
  have hn14 := hf.1
  have HF := Lib.hid hf
  obtain ⟨R, hR⟩ : ∃ R, boundZ zs C k n = R := ⟨_, rfl⟩
  rw [hR]
  have HR := Lib.hid hR
  clear hn hf hR
  go_enter Try.func67, Try.ntmps67
  go_wp2
  go_loopw [7, 8, 9, 14] (fun cv rv sv iv wr => ∃ i : Nat, i ≤ n ∧ iv = .int .i64 i ∧ cv = .int .i64 (cntTo zs C k i) ∧ rv = .int .i64 (roomTo zs C k i) ∧ sv = .int .i64 (smallTo zs C k i) ∧ wr = w) (fun _ _ _ iv _ => n - (intOf iv).toNat)
  case atStart => exact ⟨0, by omega, rfl, rfl, rfl, rfl, rfl⟩
  case round =>
    obtain ⟨i, hi, rfl, rfl, rfl, rfl, rfl⟩ := hrel
    have T := tos zs C k HF.out i hi
    have S1 : cntTo zs C k i = fstTo zs C k i + sndTo zs C k i := rfl
    by_cases hlt : i < n
    · have hcell := h.cell (i := i) (by have := HN.out; omega)
      have hp := HF.out.2.2.2 i hlt
      have e1 : cntTo zs C k (i + 1) = cntTo zs C k i + (if C - k < zs.getD i 0 then 1 else if C < 2 * zs.getD i 0 then 1 else 0) := by
        simp only [cntTo, fstTo, sndTo]
        split
        · omega
        · split <;> omega
      have e2 : roomTo zs C k (i + 1) = roomTo zs C k i + (if C - k < zs.getD i 0 then 0 else if C < 2 * zs.getD i 0 then C - zs.getD i 0 else 0) := rfl
      have e3 : smallTo zs C k (i + 1) = smallTo zs C k i + (if C - k < zs.getD i 0 then 0 else if C < 2 * zs.getD i 0 then 0 else if k ≤ zs.getD i 0 then zs.getD i 0 else 0) := rfl
      have T1 : 0 ≤ cntTo zs C k i ∧ cntTo zs C k i ≤ 14 := by omega
      have T2 : 0 ≤ roomTo zs C k i ∧ roomTo zs C k i ≤ 14000000000 := by omega
      have T3 : 0 ≤ smallTo zs C k i ∧ smallTo zs C k i ≤ 14000000000 := by omega
      clear T S1
      obtain ⟨p, ep⟩ : ∃ p, zs.getD i 0 = p := ⟨_, rfl⟩
      rw [ep] at hcell e1 e2 e3 hp
      generalize cntTo zs C k i = a at *
      generalize roomTo zs C k i = b at *
      generalize smallTo zs C k i = s at *
      have E1 := Lib.hid e1
      have E2 := Lib.hid e2
      have E3 := Lib.hid e3
      have t1 : (i : Int) < (n : Int) := by omega
      clear e1 e2 e3 ep hlt
      obtain ⟨hp1, hp2⟩ := hp
      obtain ⟨a1, a2⟩ := T1
      obtain ⟨b1, b2⟩ := T2
      obtain ⟨s1, s2⟩ := T3
      obtain ⟨k1, k2⟩ := hk
      by_cases q1 : C - k < p
      · go_wp2
        go_roundw
        case rel => exact ⟨i + 1, by omega, by go_num, by rw [E1.out, if_pos q1], by rw [E2.out, if_pos q1, Int.add_zero], by rw [E3.out, if_pos q1, Int.add_zero], by trivial⟩
        case measure => simp [intOf]; omega
      · by_cases q2 : C < 2 * p
        · go_wp2
          go_roundw
          case rel => exact ⟨i + 1, by omega, by go_num, by rw [E1.out, if_neg q1, if_pos q2], by rw [E2.out, if_neg q1, if_pos q2], by rw [E3.out, if_neg q1, if_pos q2, Int.add_zero], by trivial⟩
          case measure => simp [intOf]; omega
        · by_cases q3 : k ≤ p
          · go_wp2
            go_roundw
            case rel => exact ⟨i + 1, by omega, by go_num, by rw [E1.out, if_neg q1, if_neg q2, Int.add_zero], by rw [E2.out, if_neg q1, if_neg q2, Int.add_zero], by rw [E3.out, if_neg q1, if_neg q2, if_pos q3], by trivial⟩
            case measure => simp [intOf]; omega
          · go_wp2
            go_roundw
            case rel => exact ⟨i + 1, by omega, by go_num, by rw [E1.out, if_neg q1, if_neg q2, Int.add_zero], by rw [E2.out, if_neg q1, if_neg q2, Int.add_zero], by rw [E3.out, if_neg q1, if_neg q2, if_neg q3, Int.add_zero], by trivial⟩
            case measure => simp [intOf]; omega
    · obtain rfl : i = n := by omega
      have t1 : ¬ (i : Int) < (i : Int) := by omega
      have D := div_small (a := smallTo zs C k i - roomTo zs C k i) (C := C) (m := 14000000000) hC1
      have hb : R = if smallTo zs C k i ≤ roomTo zs C k i then cntTo zs C k i else cntTo zs C k i + (smallTo zs C k i - roomTo zs C k i + C - 1) / C := HR.out.symm
      have T1 : 0 ≤ cntTo zs C k i ∧ cntTo zs C k i ≤ 14 := by omega
      have T2 : 0 ≤ roomTo zs C k i ∧ roomTo zs C k i ≤ 14000000000 := by omega
      have T3 : 0 ≤ smallTo zs C k i ∧ smallTo zs C k i ≤ 14000000000 := by omega
      clear T S1 hlt
      generalize cntTo zs C k i = a at *
      generalize roomTo zs C k i = b at *
      generalize smallTo zs C k i = s at *
      obtain ⟨a1, a2⟩ := T1
      obtain ⟨b1, b2⟩ := T2
      obtain ⟨s1, s2⟩ := T3
      by_cases q : s ≤ b
      · rw [if_pos q] at hb
        have HB := Lib.hid hb
        clear D hb
        go_wp2
        go_ret
        exact ⟨by rw [HB.out] <;> rfl, by trivial⟩
      · rw [if_neg q] at hb
        have hm : (14000000000 : Int) * 1 ≤ 14000000000 * C := Int.mul_le_mul_of_nonneg_left hC1 (by omega)
        have D2 := D (by omega) (by
          simp only [Int.mul_one] at hm
          refine Int.le_trans ?_ hm
          omega)
        clear D hm
        have q0 : (0 : Int) ≤ s - b + C - 1 := by omega
        have qd : (s - b + C - 1).tdiv C = (s - b + C - 1) / C := Int.tdiv_eq_ediv_of_nonneg q0
        obtain ⟨x, ex⟩ : ∃ x, (s - b + C - 1) / C = x := ⟨_, rfl⟩
        rw [ex] at D2 qd hb
        obtain ⟨x1, x2⟩ := D2
        have HB := Lib.hid hb
        clear ex hb
        go_wp2
        go_ret
        exact ⟨by rw [HB.out] <;> rfl, by trivial⟩

end Go.Proofs
