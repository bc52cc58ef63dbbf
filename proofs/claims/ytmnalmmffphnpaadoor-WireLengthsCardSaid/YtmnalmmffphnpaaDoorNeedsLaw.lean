/- What picks need of each wire, as a list: plain law. -/
import Derived.Test.YtmnalmmffphnpaaDoorTab
import Derived.Test.YtmnalmmffphnpaaDoorWPicks
import Derived.Test.YtmnalmmffphnpaaDoorBestMem
import Derived.Test.YtmnalmmffphnpaaDoorWPrice
open Go.RowKit Go.Deep
namespace Go.Proofs
set_option linter.unusedVariables false
set_option linter.unusedSimpArgs false

/-- an item and how much of it -/
structure Lt where
  s : ByteArray
  q : Int
def lt0 : Lt := ⟨⟨#[]⟩, 0⟩
def wireB : ByteArray := ⟨#[119, 105, 114, 101]⟩
def lcl (l : Lt) : List Value := [.string wireB, .string l.s, .int .i64 l.q]
theorem lcl_len (l : Lt) : (lcl l).length = 3 := rfl
theorem lcl_one (l : Lt) : ∀ u ∈ lcl l, u.oneCell' = true := by
  intro u hu
  simp only [lcl, List.mem_cons, List.not_mem_nil, or_false] at hu
  rcases hu with rfl | rfl | rfl <;> rfl
theorem info_lot : (Tryd.prog.info? 42).map (fun i => (i.zero, i.size, i.bytes)) = some (some (.agg #[.string ⟨#[]⟩, .string ⟨#[]⟩, .int .i64 0]), 3, 40) := by kernel_rfl
/-- lots that can be read -/
def InL (w : World) (v : Value) (L : List Lt) : Prop := ∃ ad c, v = .slice ad L.length c ∧ RdV w ad c L.length 3 (flat lcl L)
theorem InL.mono {w w' : World} {v : Value} {L : List Lt} (h : InL w v L) (hb : Below w.heap.size w w') : InL w' v L := by
  obtain ⟨ad, c, e, h⟩ := h
  exact ⟨ad, c, e, h.mono hb⟩

def mB : ByteArray := ⟨#[109]⟩
def gB : ByteArray := ⟨#[103]⟩
/-- the name of a wire -/
def itemB (a b : Int) : ByteArray := mB ++ itB a ++ gB ++ itB b
/-- the length that the first i picks need of one wire -/
def sumN (S : Scl) (P : List Pk) (tail : Int) (p : Pk) : Nat → Int
  | 0 => 0
  | i + 1 => if p.m = (P.getD i p0).m ∧ p.g = (P.getD i p0).g then sumN S P tail p i + ((S.cs.getD i c0).l + tail) else sumN S P tail p i
def pkK (ng k : Nat) : Pk := ⟨((k / ng : Nat) : Int), ((k % ng : Nat) : Int)⟩
def lotK (S : Scl) (P : List Pk) (tail : Int) (k : Nat) : Lt := ⟨itemB ((k / S.gs.length : Nat) : Int) (S.gs.getD (k % S.gs.length) 0), sumN S P tail (pkK S.gs.length k) P.length⟩
/-- what the first k wires are needed of -/
def needs (S : Scl) (P : List Pk) (tail : Int) : Nat → List Lt
  | 0 => []
  | k + 1 => if 0 < (lotK S P tail k).q then needs S P tail k ++ [lotK S P tail k] else needs S P tail k
theorem needs_len (S : Scl) (P : List Pk) (tail : Int) : ∀ k, (needs S P tail k).length ≤ k
  | 0 => Nat.le_refl _
  | k + 1 => by
    have := needs_len S P tail k
    unfold needs
    split
    · rw [List.length_append]; simpa using this
    · omega
theorem sumN_bd {S : Scl} (hs : sclOk S = true) {P : List Pk} {tail : Int} (ht : 0 ≤ tail ∧ tail ≤ 100000) (p : Pk) : ∀ i, i ≤ S.cs.length → 0 ≤ sumN S P tail p i ∧ sumN S P tail p i ≤ 200000 * (i : Int)
  | 0, _ => by simp [sumN]
  | i + 1, hi => by
    have h1 := sumN_bd hs (P := P) ht p i (by omega)
    have h2 := sclOk_c hs (show i < S.cs.length by omega)
    have h3 := (crs_facts h2).1
    rw [sumN]
    split <;> omega

end Go.Proofs
