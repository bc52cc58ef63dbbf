/- The reference: Over, Times. -/
import Derived.Test.YtgdgdaofmjnepaaDoorRTrim
import Derived.Test.YtgdgdaofmjnepaaDoorRMul
import Derived.Test.YtgdgdaofmjnepaaDoorRAdd
import Derived.Test.YtgdgdaofmjnepaaDoorByWord
open Go.RowKit
namespace Go.Proofs
set_option linter.unusedVariables false


theorem rtimes_calls (v : Value) (m d : Nat) (z : Int) (w : World) (hv : Num w v m) (hz : z = (d : Int)) (hd2 : d < 4294967296) (hreach : (limbs m).length ≤ 400000000) :
    Calls Tryd.prog 112 #[v, .int .u32 z] w (RetNum w (m * d)) := by
  subst hz
  have hl : (limbs d).length ≤ 1 := limbs_length_le (by omega)
  go_enter Tryd.func112, Tryd.ntmps112
  go_wp2_with fail
  refine (rof_calls d _ _ (by first | rfl | omega) (by omega)).mono ?_
  rintro e w1 ⟨v1, rfl, h1, _, b1⟩
  have hv1 := hv.mono b1
  go_wp2_with fail
  refine (rmul_calls _ _ m d _ hv1 h1 hreach (by omega)).mono ?_
  rintro e w2 ⟨v2, rfl, h2, f2, b2⟩
  go_wp2
  go_ret
  exact ⟨_, rfl, h2, f2.mono b1.size, below_trans b1 b2⟩

end Go.Proofs
