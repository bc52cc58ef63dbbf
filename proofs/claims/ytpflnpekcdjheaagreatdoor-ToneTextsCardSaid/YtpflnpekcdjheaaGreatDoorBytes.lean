/- A slice of bytes that the call itself made, and to which it appends: laws of the world. -/
import Derived.Test.YtpflnpekcdjheaaGreatDoorBase
import Derived.Test.YtpflnpekcdjheaaGreatDoorNatA
import Derived.Test.YtpflnpekcdjheaaGreatDoorApp
import Derived.Laws.BytesArg
open Go.RowKit
namespace Go.Proofs
set_option linter.unusedVariables false
set_option linter.unusedSimpArgs false

def bys (xs : List Nat) : List Value := xs.map (fun (x : Nat) => Value.int .u8 (x : Int))

/-- v is a slice of the bytes xs in a block that is at B or beyond and begins with it -/
def OwnB (B : Nat) (w : World) (v : Value) (xs : List Nat) : Prop := w.ownsRow B 5 1 v xs.length (bys xs)

theorem info8 : (Tryz.prog.info? 5).map (fun i => (i.zero, i.size, i.bytes)) = some (some (.int .u8 0), 1, 1) := by kernel_rfl

theorem OwnB.nil (B : Nat) (w : World) : OwnB B w (.slice none 0 0) [] := World.ownsRow_nil _ _ _ _

/-- the cells of a row of bytes -/
def CellB (w : World) (g : Nat) (xs : List Nat) : Prop := ∀ i, i < xs.length → w.cell? ⟨g, i, none⟩ = some (.int .u8 ((xs.getD i 0 : Nat) : Int)) ∧ w.frozen? ⟨g, i, none⟩ = false

theorem OwnB.open {B w v xs} (h : OwnB B w v xs) : (v = .slice none 0 0 ∧ xs = []) ∨ ∃ g cap, v = .slice (some ⟨g, 0, none⟩) xs.length cap ∧ B ≤ g ∧ g < w.heap.size ∧ xs.length ≤ cap ∧ CellB w g xs := by
  obtain ⟨hl, h⟩ := h
  rcases h with ⟨rfl, h0⟩ | ⟨g, cap, cur, rfl, hg, hh, hnc, hcm, hcs, htake⟩
  · exact .inl ⟨rfl, List.eq_nil_of_length_eq_zero h0⟩
  · refine .inr ⟨g, cap, rfl, hg, lt_of_block hh, hnc, fun i hi => ⟨?_, ?_⟩⟩
    · have e : cur[i]? = some (.int .u8 ((xs.getD i 0 : Nat) : Int)) := by
        have h1 : (cur.toList.take (xs.length * 1))[i]? = (bys xs)[i]? := by rw [htake]
        rw [List.getElem?_take, if_pos (by omega)] at h1
        rw [← Array.getElem?_toList, h1]
        simp [bys, hi]
      simp [World.cell?, hh, e]
    · simp [World.frozen?, hh]

theorem OwnB.block {B w v xs} (h : OwnB B w v xs) : ∀ k, v.ownBlock = some k → B ≤ k ∧ k < w.heap.size := by
  intro k hk
  obtain ⟨hl, h1⟩ := h
  rcases h1 with ⟨rfl, _⟩ | ⟨g, cap, cur, rfl, hg, hh, r⟩
  · cases hk
  · cases hk
    exact ⟨hg, lt_of_block hh⟩

theorem OwnB.mono {B w w' v xs} (h : OwnB B w v xs) (hb : Below w.heap.size w w') : OwnB B w' v xs := by
  have hk := h.block
  obtain ⟨hl, h1⟩ := h
  refine ⟨hl, ?_⟩
  rcases h1 with h1 | ⟨g, cap, cur, rfl, hg, hh, r⟩
  · exact .inl h1
  · refine .inr ⟨g, cap, cur, rfl, hg, ?_, r⟩
    rw [hb.block g (hk g rfl).2]
    exact hh

/-- append: one byte, to what the call made -/
theorem wpList_append_byte {P : Program} {w : World} {ops : Array Oper} {rest : List Oper} {o : Oper} {a : Act} {Q : Exit → Act → World → Prop} (hgd : o.guard = none) (s x : Operand) (t : TypeId)
    (ho : o.op = .call { callee := .builtin .append, args := #[s, x], argTypes := #[t, t] })
    (ht : P.underlying t = some (.slice 5)) (h2 : (P.info? 5).map (fun i => (i.zero, i.size, i.bytes)) = some (some (.int .u8 0), 1, 1))
    (B : Nat) (v : Value) (xs : List Nat) (hv : a.eval s = v) (hown : OwnB B w v xs) (hB : B ≤ w.heap.size)
    (g c : Nat) (hx : a.eval x = .slice (some ⟨g, 0, none⟩) 1 1) (hc : w.cell? ⟨g, 0, none⟩ = some (.int .u8 (c : Int))) (hl : xs.length + 1 ≤ 1099511627776)
    (h : ∀ v' w', OwnB B w' v' (xs ++ [c]) → Below B w w' → w.grownBy w' v.ownBlock → (v'.ownBlock = v.ownBlock ∨ v'.ownBlock = some w.heap.size) → wpList P ops Q rest (a.put o.dst v') w') : wpList P ops Q (o :: rest) a w := by
  obtain ⟨i, hi, z0, z1, z2⟩ := info_parts h2
  refine wpList_append_at hgd s _ t ho B 5 i (.int .u8 0) 1 ht hi z0 z1 z2 rfl v xs.length (bys xs) hv hown
    ⟨g, 0, none⟩ 1 1 [.int .u8 (c : Int)] hx (by simp) (fun j u hj => ?_) (fun u hu => ?_) (by unfold maxLen; omega) (by omega) hB ?_
  · have hj0 : j = 0 := by
      have := (List.getElem?_eq_some_iff.1 hj).1
      simpa using this
    subst hj0
    simp at hj
    subst hj
    exact hc
  · simp at hu
    subst hu
    rfl
  · intro v' w' hown' hgrow hat
    have e : bys xs ++ [.int .u8 (c : Int)] = bys (xs ++ [c]) := by simp [bys]
    rw [e] at hown'
    refine h v' w' ?_ ((Below.refl _ _).grown hgrow hB ?_) hgrow hat
    · show World.ownsRow _ _ _ _ _ _ _
      rw [List.length_append]
      exact hown'
    · intro k hk
      exact (hown.block k hk).1

/-- the bytes as a string -/
def strOf (xs : List Nat) : ByteArray := strOfNums (xs.map fun (x : Nat) => (x : Int))
theorem strOf_toList (xs : List Nat) : (strOf xs).data.toList = xs.map fun x => UInt8.ofNat x := by
  simp [strOf, strOfNums]
theorem strOf_size (xs : List Nat) : (strOf xs).size = xs.length := by
  rw [strOf, strOfNums_size, List.length_map]

theorem CellB.string {w : World} {g : Nat} {xs : List Nat} (h : CellB w g xs) (src : TypeId) (hs : Tryz.prog.underlying src = some (.slice 5)) (n cap : Nat) (hn : n = xs.length) :
    ∀ dst, Tryz.prog.underlying dst = some .string → (convert src dst (.slice (some ⟨g, 0, none⟩) n cap)).run Tryz.prog w = .ok (.string (strOf xs)) w :=
  run_convert_bytes_arg (P := Tryz.prog) w src 5 hs Tryz.underlying5 g 0 n cap (xs.map fun (x : Nat) => (x : Int)) (by rw [List.length_map, hn]) (fun i hi => by
    have h1 := (h i (by omega)).1
    rw [Nat.zero_add, h1]
    have hi' : i < xs.length := by omega
    simp [List.getD, hi'])

end Go.Proofs
