/- nat.own: a copy. -/
import Derived.Test.YtgdgdaofmjnepaaDoorTrim
open Go.RowKit
namespace Go.Proofs
set_option linter.unusedVariables false

theorem own_raw (ad : Option Addr) (c n : Nat) (xs : List Nat) (w : World) (hx : Sl w ad c xs) (hn : n = xs.length) (hl : xs.length ≤ 4000000000) :
    Calls Tryd.prog 120 #[.slice ad n c] w fun e w' => ∃ ad' c', e = .returned (.slice ad' n c') ∧ Sl w' ad' c' xs ∧ (∀ a, ad' = some a → w.heap.size ≤ a.block) ∧ Below w.heap.size w w' := by
  have Hn := Lib.hid hn
  clear hn
  go_enter Tryd.func120, Tryd.ntmps120
  go_wp2_with (at_builtin; refine wpList_append_copy rfl _ 55 rfl 102 Tryd.underlying55 info32 ad n c xs rfl Hn.out hx (by omega) ?_; intro ad' c' w' hs' hf' hb')
  go_ret
  exact ⟨_, _, rfl, hs', hf', hb'⟩

theorem own_calls (v : Value) (n : Nat) (w : World) (hv : Num w v n) (hl : (limbs n).length ≤ 4000000000) :
    Calls Tryd.prog 120 #[v] w (RetNum w n) := by
  obtain ⟨ad, c, rfl, hs⟩ := hv
  exact (own_raw ad c _ _ w hs rfl hl).mono fun e w' ⟨ad', c', he, hs', hf, hb⟩ => ⟨_, he, ⟨ad', c', rfl, hs'⟩, fresh_of hf, hb⟩

end Go.Proofs
