/- clavecintop: sounds, power, product. -/
import Derived.Test.YtcillhidcapfgaaToneB
import Derived.Test.YtcillhidcapfgaaToneA
import Derived.Test.YtcillhidcapfgaaTone10
import Derived.Test.YtcillhidcapfgaaNatD
open Go.RowKit Go.Deep
namespace Go.Proofs
set_option linter.unusedVariables false
set_option linter.unusedSimpArgs false

/-- the law's call returned true, and changed nothing that was there -/
def RetTrueE (w : World) (e : Ending) (w' : World) : Prop := e = .returned (.bool true) ∧ Below w.heap.size w w'
theorem fifth_okE : validB (-1) 1 0 1 = true := by unfold validB gcd4 gcdN; decide
theorem fifth_centsE : centsT ⟨-1, 1, 0, 1⟩ = 701 := by
  unfold centsT fl
  decide +kernel

theorem sounds_calls (w : World) : Calls Try.prog 4 #[] w (RetTrueE w) := by
  have C := fun w : World => cents_ok ⟨-1, 1, 0, 1⟩ w fifth_okE
  rw [fifth_centsE] at C
  go_enter Try.func4, Try.ntmps4
  go_wp2_with fail
  refine (C _).mono ?_
  rintro e w1 ⟨rfl, b⟩
  go_wp2
  go_ret
  exact ⟨rfl, b⟩

set_option maxRecDepth 100000 in
theorem powerE_calls (p : Nat) (P z : Int) (w : World) (hP : P = (p : Int)) (hp : p < 6) (hp0 : 2 ≤ p) (hz : z.natAbs ≤ 200) : Calls Try.prog 10 #[.int .u64 P, .int .i64 z] w (RetNum w (p ^ z.toNat)) := by
  subst hP
  have OF := fun w : World => of_calls p (p : Int) w rfl (by omega)
  have l1 : (limbs p).length ≤ 1 := limbs_length_le (by omega)
  have l2 : (limbs p).length * z.toNat ≤ 1 * 200 := Nat.mul_le_mul l1 (by omega)
  have PW := fun (v : Value) (w : World) (h : Num w v p) => pow_ok v p z.toNat (max z 0) w h (by omega) (by omega) (.inr (by omega)) (by omega)
  have HO := Lib.hid OF
  have HP := Lib.hid PW
  clear OF PW l2
  go_enter Try.func10, Try.ntmps10
  go_wp2_with fail
  refine (HO.out _).mono ?_
  rintro e w1 ⟨v1, rfl, n1, _, b1⟩
  go_wp2_with fail
  refine (HP.out _ _ n1).mono ?_
  rintro e w2 ⟨v2, rfl, n2, f2, b2⟩
  go_wp2
  go_ret
  exact ⟨_, rfl, n2, f2.mono b1.size, below_trans b1 b2⟩

/-- numbers behind a row of values -/
def Nums (w : World) (vs : List Value) (ns : List Nat) : Prop := vs.length = ns.length ∧ ∀ i, i < ns.length → Num w (vs.getD i undef) (ns.getD i 0)
theorem Nums.mono {w w' : World} {vs ns} (h : Nums w vs ns) (hb : Below w.heap.size w w') : Nums w' vs ns := ⟨h.1, fun i hi => (h.2 i hi).mono hb⟩
/-- the product of the first numbers -/
def prodN (ns : List Nat) : Nat → Nat
  | 0 => 1
  | i + 1 => prodN ns i * ns.getD i 0

set_option maxRecDepth 100000 in
theorem productE_calls (vs : List Value) (ns : List Nat) (b c n : Nat) (w : World) (hn : ns.length = n) (h4 : n ≤ 4) (hv : Vals w b vs) (hs : Nums w vs ns) (hl : ∀ i, i < ns.length → (limbs (ns.getD i 0)).length ≤ 1000) :
    Calls Try.prog 9 #[.slice (some ⟨b, 0, none⟩) n c] w (RetNum w (prodN ns n)) := by
  have OF := fun w : World => of_calls 1 1 w rfl (by omega)
  have HO := Lib.hid OF
  have HL := Lib.hid hl
  have HN := Lib.hid hn
  clear OF hl hn
  go_enter Try.func9, Try.ntmps9
  go_wp2_with fail
  refine (HO.out _).mono ?_
  rintro e w1 ⟨v1, rfl, n1, f1, b1⟩
  replace hv := hv.mono b1
  replace hs := hs.mono b1
  go_wp2
  go_loopw [3, 4] (fun ov iv wr => ∃ i : Nat, iv = .int .i64 (i : Int) ∧ i ≤ n ∧ Num wr ov (prodN ns i) ∧ Fresh w.heap.size ov ∧ (limbs (prodN ns i)).length ≤ 1 + 1000 * i ∧ Below w.heap.size w wr ∧ Vals wr b vs ∧ Nums wr vs ns)
    (fun _ iv _ => n - (intOf iv).toNat)
  case atStart => exact ⟨0, rfl, Nat.zero_le _, n1, f1, limbs_length_le (by unfold prodN; omega), b1, hv, hs⟩
  case round =>
    clear n1 f1 b1 hv hs
    obtain ⟨i, rfl, hi, ho, hf, hlo, hb, hv, hs⟩ := hrel
    obtain ⟨ad, cap, rfl, hso⟩ := ho
    have ho : Num wr (.slice ad _ cap) (prodN ns i) := ⟨_, _, rfl, hso⟩
    clear hso
    by_cases hlt : i < n
    · have hin : i < ns.length := by rw [HN.out]; exact hlt
      have hvi : i < vs.length := by rw [hs.1]; exact hin
      have cv := hv.cell hvi
      have hni := hs.2 i hin
      have hli := HL.out i hin
      have hml := limbs_length_mul (prodN ns i) (ns.getD i 0)
      have M := fun (a b : Value) (w : World) (h1 : Num w a (prodN ns i)) (h2 : Num w b (ns.getD i 0)) => mul_ok a b _ _ w h1 h2 (by omega)
      have e1 : prodN ns i * ns.getD i 0 = prodN ns (i + 1) := rfl
      rw [e1] at M hml
      have HM := Lib.hid M
      have HI := Lib.hid (show (limbs (prodN ns (i + 1))).length ≤ 1 + 1000 * (i + 1) by omega)
      clear M e1 hml hli hlo
      generalize vs.getD i undef = vi at *
      generalize ns.getD i 0 = N1 at *
      obtain ⟨adi, capi, rfl, hsi⟩ := hni
      have hni : Num wr (.slice adi _ capi) N1 := ⟨_, _, rfl, hsi⟩
      clear hsi
      go_wp2_with fail
      refine (HM.out _ _ _ ho hni).mono ?_
      rintro e w5 ⟨v5, rfl, n5, f5, b5⟩
      replace hv := hv.mono b5
      replace hs := hs.mono b5
      have hb5 := hb.size
      have f6 := f5.mono hb5
      replace hb := below_trans hb b5
      clear b5 HM ho hni hf f5
      go_wp2
      go_roundw
      case rel => exact ⟨i + 1, by go_num, by omega, n5, f6, HI.out, hb, hv, hs⟩
      case measure => simp [intOf]; omega
    · obtain rfl : i = n := by omega
      go_wp2
      go_ret
      exact ⟨_, rfl, ho, hf, hb⟩

end Go.Proofs

