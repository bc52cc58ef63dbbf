/- A region that draws its order, in a round of a range over a function: it is walked as everywhere. -/
import Derived.RangeFuncNested
import Derived.RangeFuncBound
import Derived.RangeFuncCalls
import Derived.RangeFuncLeaves
import Derived.Shelf.RegionOpen
import Derived.Deep.RegionHeld3
import Derived.WalkKit
open Go.RowKit
namespace Go.Proofs
set_option linter.unusedVariables false
set_option linter.unusedSimpArgs false

def noDefer (ops : Array Oper) : Bool := ops.toList.all fun o => match o.op with | .defer _ => false | _ => true
theorem noDefer_at {ops : Array Oper} (h : noDefer ops = true) {i : Nat} {o : Oper} (hi : ops[i]? = some o) : ∀ c, o.op ≠ .defer c := by
  intro c e
  unfold noDefer at h
  have h2 := List.all_eq_true.1 h o (by have := Array.mem_of_getElem? hi; simpa using this)
  rw [e] at h2
  cases h2

theorem uponIn_of_upon {P : Program} {o : Oper} {a : Act} {K : Act → World → Prop} {Q : Exit → Act → World → Prop} {n l : Nat} {r : Result Next} (h : o.upon P a K Q r) : o.uponIn (Fence.wide.inRound l) n P a K Q r := by
  cases r with
  | ok nx w' =>
    cases nx with
    | value v => exact h
    | skip => exact h
    | defer d => exact h
    | enter f args => exact ⟨fun h => by simp [Fence.wide] at h, (callsIn_wide.2 h).inRound l⟩
    | row row args => exact ⟨fun h => by simp [Fence.wide] at h, fun c cs _ => let ⟨v, w'', q, s⟩ := h c cs; ⟨v, w'', q, stepsIn_wide.2 s⟩⟩
    | _ => exact h.elim
  | halt x w' => cases x <;> first | exact h | exact h.elim

/-- what is wanted, if nothing but the region's end is to be reached -/
def OnlyEnd (K : Act → World → Prop) : Exit → Act → World → Prop
  | .normal, a, w => K a w
  | _, _, _ => False
theorem onlyEnd_out (K : Act → World → Prop) : ¬ LetsOut (OnlyEnd K) := by rintro ⟨_, _, h⟩; exact h

theorem upon_weak {P : Program} {o : Oper} {a : Act} {K K' N : Act → World → Prop} {Q : Exit → Act → World → Prop} {r : Result Next} (hk : ∀ a w, K a w → K' a w) (h : o.upon P a K (OnlyEnd N) r) : o.upon P a K' Q r := by
  cases r with
  | ok nx w' =>
    cases nx with
    | value v => exact hk _ _ h
    | skip => exact hk _ _ h
    | defer d => exact hk _ _ h
    | enter f args =>
      refine Calls.mono h fun e w'' he => ?_
      cases e with
      | returned v => exact hk _ _ he
      | panicked chain => exact False.elim he
      | outgrown => exact absurd he (onlyEnd_out N)
    | row row args => exact Rows.mono h fun u w'' he => hk _ _ he
    | _ => exact h.elim
  | halt x w' => cases x <;> first | exact h.elim | exact False.elim h

theorem wpOpIn_of {P : Program} {ops : Array Oper} {N K K' : Act → World → Prop} {Q : Exit → Act → World → Prop} {n l i : Nat} {a : Act} {w : World} (hd : noDefer ops = true)
    (hk : ∀ a w, K a w → K' a w) (h : wpOp P ops (OnlyEnd N) i K a w) : wpOpIn (Fence.wide.inRound l) n P ops Q i K' a w := by
  unfold wpOp at h
  unfold wpOpIn
  split
  · rename_i e; rw [e] at h; exact hk _ _ h
  · rename_i o e
    rw [e] at h
    dsimp only at h
    split
    · rename_i hw
      rw [if_pos hw] at h
      rcases h with h | h
      · refine ⟨fun _ _ => trivial, ?_⟩
        rw [show (Fence.wide.inRound l).round = some l from rfl, Oper.semAt_some l _ o (noDefer_at hd e)]
        exact uponIn_of_upon (upon_weak hk h)
      · exact absurd h.2 (onlyEnd_out N)
    · rename_i hw
      rw [if_neg hw] at h
      exact ⟨fun _ _ => trivial, hk _ _ h⟩

theorem wpAnyIn_of {P : Program} {md : Region.Mode} {ops : Array Oper} {Q : Exit → Act → World → Prop} {n l : Nat} (hd : noDefer ops = true) :
    ∀ (fuel : Nat) (listed : Array Bool) (a : Act) (w : World), wpAny P md ops (OnlyEnd (Q .normal)) fuel listed a w → wpAnyIn (Fence.wide.inRound l) n P md ops Q fuel listed a w
  | 0, _, _, _, h => h
  | fuel + 1, listed, a, w, h => ⟨h.1, fun i hi => wpOpIn_of hd (fun a w h => wpAnyIn_of hd fuel _ a w h) (h.2 i hi)⟩

/-- the beginning -/
theorem wpIn_region_held {P : Program} {S : World → Prop} {ops : Array Oper} {Q : Exit → Act → World → Prop} {n l id : Nat} {a : Act} {w : World} (hm : P.follows .mixedOrders = true) (hd : noDefer ops = true) (hS : S w.drew)
    (h : S w.drew → wpAnyH P .any ops (OnlyEnd (Q .normal)) S ops.size (Array.replicate ops.size false) a w.drew) : (Code.region id ops true).wpIn (Fence.wide.inRound l) n P Q a w :=
  wpIn_region_any hm (wpAnyIn_of hd _ _ _ _ (wpAny_of_held _ _ _ _ (h hS)))

/-- one operation of a region that does not draw, carried out as everywhere -/
theorem wpListIn_op {P : Program} {ops : Array Oper} {Q : Exit → Act → World → Prop} {n l : Nat} {o : Oper} {rest : List Oper} {a : Act} {w : World} (hd : ∀ c, o.op ≠ .defer c)
    (h : wpList P ops (OnlyEnd (wpListIn (Fence.wide.inRound l) n P ops Q rest)) [o] a w) : wpListIn (Fence.wide.inRound l) n P ops Q (o :: rest) a w := by
  unfold wpList at h
  unfold wpListIn
  split
  · rename_i hw
    rw [if_pos hw] at h
    refine ⟨fun _ _ => trivial, ?_⟩
    rw [show (Fence.wide.inRound l).round = some l from rfl, Oper.semAt_some l _ o hd]
    rcases h with h | h
    · exact uponIn_of_upon (upon_weak (fun _ _ h => h) h)
    · exact absurd h.2 (onlyEnd_out _)
  · rename_i hw
    rw [if_neg hw] at h
    exact ⟨fun _ _ => trivial, h⟩

end Go.Proofs
