/- tone: Freq. -/
import Derived.Test.YtnogieknjcbchaaDoorToneB
import Derived.Test.YtnogieknjcbchaaDoorToneA
import Derived.Test.YtnogieknjcbchaaDoorNatD
import Derived.Deep.RegionHeld3
open Go.RowKit Go.Deep
namespace Go.Proofs
set_option linter.unusedVariables false
set_option linter.unusedSimpArgs false
theorem Num.drew' {w : World} {v : Value} {n : Nat} (h : Num w v n) : Num w.drew v n := h

/-- the quotient whose root is the frequency -/
def freqQ (base : Nat) (s : T4) : Nat := base ^ s.d.toNat * overN s.a s.b s.c / underN s.a s.b s.c

theorem freqP_len {base : Nat} {s : T4} (hb : base < 18446744073709551616) (hs : validB s.a s.b s.c s.d = true) :
    (limbs base).length ≤ 2 ∧ (limbs base).length * s.d.toNat ≤ 262143 ∧ (limbs (base ^ s.d.toNat)).length ≤ 200 ∧ (limbs (overN s.a s.b s.c)).length ≤ 300 ∧ (limbs (underN s.a s.b s.c)).length ≤ 300 ∧ (limbs (base ^ s.d.toNat * overN s.a s.b s.c)).length ≤ 600 ∧ (limbs (freqQ base s)).length ≤ 600 := by
  obtain ⟨p1, p2, p3, p4, p5, p6⟩ := validB_parts hs
  have h2 : (limbs base).length ≤ 2 := limbs_bits (x := base) (k := 2) (by simpa using hb)
  have hd : s.d.toNat ≤ 24 := by omega
  have hp : (limbs (base ^ s.d.toNat)).length ≤ 200 := by
    have q1 := limbs_length_pow base s.d.toNat
    have q2 := Nat.mul_le_mul h2 hd
    omega
  have o1 : ∀ a b c : Int, a.natAbs ≤ 960 → b.natAbs ≤ 960 → c.natAbs ≤ 960 → (limbs (overN a b c)).length ≤ 300 := by
    intro a b c ha hb hc
    unfold overN
    have t2 := limbs_two a.toNat
    have t3 := limbs_three b.toNat
    have t5 := limbs_five c.toNat
    have m1 := limbs_length_mul (3 ^ b.toNat) (5 ^ c.toNat)
    have m2 := limbs_length_mul (2 ^ a.toNat) (3 ^ b.toNat * 5 ^ c.toNat)
    omega
  have h3 := o1 s.a s.b s.c p4 p5 p6
  have h4 := o1 (-s.a) (-s.b) (-s.c) (by omega) (by omega) (by omega)
  have m3 := limbs_length_mul (base ^ s.d.toNat) (overN s.a s.b s.c)
  have h5 : (limbs (base ^ s.d.toNat * overN s.a s.b s.c)).length ≤ 600 := by omega
  refine ⟨h2, ?_, hp, h3, h4, h5, ?_⟩
  · have := Nat.mul_le_mul h2 hd
    omega
  · have := limbs_length_mono (show freqQ base s ≤ base ^ s.d.toNat * overN s.a s.b s.c from Nat.div_le_self _ _)
    omega

/-- the frequency, of any size -/
theorem freq_exists (base : Nat) (s : T4) (hs : validB s.a s.b s.c s.d = true) : ∃ r, IsRoot (freqQ base s) s.d.toNat r := by
  obtain ⟨p1, p2, p3, p4, p5, p6⟩ := validB_parts hs
  exact root_exists _ (by omega) _

end Go.Proofs
