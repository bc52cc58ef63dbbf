/- the reference: Text. -/
import Derived.Test.YtbpkobjiinkpoaaText
import Derived.Test.YtbpkobjiinkpoaaRefA
open Go.RowKit
namespace Go.Proofs
set_option linter.unusedVariables false
set_option linter.unusedSimpArgs false

def strOfL (xs : List Nat) : List UInt8 := xs.map fun x => UInt8.ofNat x

theorem strOf_of {s : ByteArray} {xs : List Nat} (h : s.data.toList = strOfL xs) : s = strOf xs := by
  apply ByteArray.ext
  apply Array.toList_inj.1
  rw [h, strOf_toList]
  rfl

theorem frozen_new (w : World) (c : Array Value) (e : TypeId) : (w.alloc (.cells c e)).frozen? ⟨w.heap.size, 0, none⟩ = false := by
  unfold World.frozen?
  rw [heap_alloc_new]
  simp

theorem lows_room {m k : Nat} (h : (limbs m).length ≤ k) : (lows m).length ≤ 32 * k := by
  rw [lows, List.length_map, dign, List.length_map]
  exact digs_room 10 m k h

theorem size_of_toList {s : ByteArray} {l : List UInt8} (h : s.data.toList = l) : s.size = l.length := by
  rw [← h]; exact Array.length_toList.symm

end Go.Proofs
