/- Rows of picks, courses, metals; the law's picks. -/
import Derived.Test.YtmnalmmffphnpaaDoorRowsV
import Derived.Test.YtmnalmmffphnpaaDoorWRef
import Derived.Test.YtmnalmmffphnpaaDoorWLives
open Go.RowKit Go.Deep
namespace Go.Proofs
set_option linter.unusedVariables false
set_option linter.unusedSimpArgs false

def pcl (p : Pk) : List Value := [.int .i64 p.m, .int .i64 p.g]
def ccl (c : Crs) : List Value := [.int .i64 c.l, .int .i64 c.f, .int .i64 c.t, .int .i64 c.w]
/-- a metal: its density, and the value of its slice -/
def mcl (m : Int × Value) : List Value := [.int .i64 m.1, m.2]
theorem pcl_len (p : Pk) : (pcl p).length = 2 := rfl
theorem ccl_len (c : Crs) : (ccl c).length = 4 := rfl
theorem mcl_len (m : Int × Value) : (mcl m).length = 2 := rfl
theorem pcl_one (p : Pk) : ∀ u ∈ pcl p, u.oneCell' = true := by
  intro u hu
  simp only [pcl, List.mem_cons, List.not_mem_nil, or_false] at hu
  rcases hu with rfl | rfl <;> rfl
theorem ccl_one (c : Crs) : ∀ u ∈ ccl c, u.oneCell' = true := by
  intro u hu
  simp only [ccl, List.mem_cons, List.not_mem_nil, or_false] at hu
  rcases hu with rfl | rfl | rfl | rfl <;> rfl
theorem RdP.rdv {w : World} {ad c L} (h : RdP w ad c L) : RdV w ad c L.length 2 (flat pcl L) := RdV.of2 pcl_len p0 h.1 h.2.1 h.2.2
theorem RdC.rdv {w : World} {ad c L} (h : RdC w ad c L) : RdV w ad c L.length 4 (flat ccl L) := RdV.of4 ccl_len c0 h.1 h.2.1 h.2.2
theorem RdV.rdp {w : World} {ad c n} {L : List Pk} (h : RdV w ad c n 2 (flat pcl L)) : RdP w ad c L := by
  have hn : n = L.length := by
    have := h.1
    rw [flat_length pcl_len] at this
    omega
  refine ⟨hn ▸ h.2.1, h.2.2.1, ?_⟩
  rcases h.2.2.2 with h4 | ⟨b, o, rfl, h4⟩
  · exact .inl h4
  · refine .inr ⟨b, o, rfl, fun i hi => ⟨?_, ?_⟩⟩
    · have := h4 (i * 2 + 0) (.int .i64 (L.getD i p0).m) (by rw [flat_get pcl_len p0 L i hi 0 (by omega)]; rfl)
      rwa [Nat.add_zero] at this
    · exact h4 (i * 2 + 1) (.int .i64 (L.getD i p0).g) (by rw [flat_get pcl_len p0 L i hi 1 (by omega)]; rfl)
theorem RdV.rdc {w : World} {ad c n} {L : List Crs} (h : RdV w ad c n 4 (flat ccl L)) : RdC w ad c L := by
  have hn : n = L.length := by
    have := h.1
    rw [flat_length ccl_len] at this
    omega
  refine ⟨hn ▸ h.2.1, h.2.2.1, ?_⟩
  rcases h.2.2.2 with h4 | ⟨b, o, rfl, h4⟩
  · exact .inl h4
  · refine .inr ⟨b, o, rfl, fun i hi => ⟨?_, ?_, ?_, ?_⟩⟩
    · have := h4 (i * 4 + 0) (.int .i64 (L.getD i c0).l) (by rw [flat_get ccl_len c0 L i hi 0 (by omega)]; rfl)
      rwa [Nat.add_zero] at this
    · exact h4 (i * 4 + 1) (.int .i64 (L.getD i c0).f) (by rw [flat_get ccl_len c0 L i hi 1 (by omega)]; rfl)
    · exact h4 (i * 4 + 2) (.int .i64 (L.getD i c0).t) (by rw [flat_get ccl_len c0 L i hi 2 (by omega)]; rfl)
    · exact h4 (i * 4 + 3) (.int .i64 (L.getD i c0).w) (by rw [flat_get ccl_len c0 L i hi 3 (by omega)]; rfl)
theorem getD_takeP {α : Type} (L : List α) (m : Nat) {i : Nat} (d : α) (hi : i < (L.take m).length) : (L.take m).getD i d = L.getD i d := by
  rw [List.length_take] at hi
  simp [List.getD, List.getElem?_take, show i < m by omega]
theorem RdP.take {w : World} {ad c L} (h : RdP w ad c L) (m : Nat) : RdP w ad c (L.take m) := by
  have hl : (L.take m).length ≤ L.length := by rw [List.length_take]; omega
  refine ⟨Nat.le_trans hl h.1, h.2.1, ?_⟩
  rcases h.2.2 with h4 | ⟨b, o, rfl, h4⟩
  · exact .inl h4
  · exact .inr ⟨b, o, rfl, fun i hi => by rw [getD_takeP L m p0 hi]; exact h4 i (by omega)⟩
theorem RdC.take {w : World} {ad c L} (h : RdC w ad c L) (m : Nat) : RdC w ad c (L.take m) := by
  have hl : (L.take m).length ≤ L.length := by rw [List.length_take]; omega
  refine ⟨Nat.le_trans hl h.1, h.2.1, ?_⟩
  rcases h.2.2 with h4 | ⟨b, o, rfl, h4⟩
  · exact .inl h4
  · exact .inr ⟨b, o, rfl, fun i hi => by rw [getD_takeP L m c0 hi]; exact h4 i (by omega)⟩
theorem info_pick : (Tryd.prog.info? 56).map (fun i => (i.zero, i.size, i.bytes)) = some (some (.agg #[.int .i64 0, .int .i64 0]), 2, 16) := by kernel_rfl

theorem Vals.rd {w : World} {b : Nat} {vs : List Value} (h : Vals w b vs) (n k : Nat) (hl : vs.length = n * k) (c : Nat) (hn : n ≤ c) (hm : c ≤ maxLen) : RdV w (some ⟨b, 0, none⟩) c n k vs := by
  refine ⟨hl, hn, hm, .inr ⟨b, 0, rfl, fun j u hj => ?_⟩⟩
  have hj2 := (List.getElem?_eq_some_iff.1 hj).1
  have := h.cell hj2
  rw [Nat.zero_add, this]
  simp [List.getD, hj]

/-- picks are returned -/
def RetP (w : World) (P : List Pk) (e : Ending) (w' : World) : Prop := ∃ v, e = .returned v ∧ InP w' v P ∧ Fresh w.heap.size v ∧ Below w.heap.size w w'
theorem RetP.of {w W : World} {P : List Pk} {ad : Option Addr} {n c : Nat} (ho : W.ownsRow w.heap.size 56 2 (.slice ad n c) n (flat pcl P)) (hb : Below w.heap.size w W) : RetP w P (.returned (.slice ad n c)) W := by
  obtain ⟨h1, h2⟩ := ownsRow_rds ho
  have h3 := h1.1
  rw [flat_length pcl_len] at h3
  have h4 : n = P.length := by omega
  subst h4
  exact ⟨_, rfl, ⟨ad, c, rfl, h1.rdp⟩, fresh_of h2, hb⟩
set_option maxRecDepth 100000 in
theorem picks_calls (v : Value) (P : List Pk) (w : World) (hv : InP w v P) : Calls Tryd.prog 6 #[v] w (RetP w (P.take 97)) := by
  obtain ⟨ad, c, rfl, hs⟩ := hv
  have hb0 := below_alloc w (.cells #[] 56)
  have hmade := ownsRow_made w 56 2
  have hsr := ((hs.take 97).mono hb0).rdv
  have hc := hs.1
  have hcm := hs.2.1
  unfold maxLen at hcm
  by_cases hl : 97 < P.length
  · have hlen : (P.take 97).length = 97 := by rw [List.length_take, Nat.min_eq_left (by omega)]
    rw [hlen] at hsr
    obtain ⟨np, hnp⟩ : ∃ n, P.length = n := ⟨_, rfl⟩
    rw [hnp] at hl hc ⊢
    have HS := Lib.hid hsr
    clear hsr hs hlen hnp
    go_enter Tryd.func6, Tryd.ntmps6
    go_wp2_with (at_builtin; refine wpList_append_rv rfl (.tmp 8) (.tmp 9) _ rfl w.heap.size 56 _ 2 16 Tryd.underlying27 info_pick rfl (by decide) _ 0 [] rfl hmade _ 97 c _ (by rfl) HS.out (flat_one pcl_one _) (by unfold maxLen; omega) (by omega) hb0.size 97 rfl _ (List.nil_append _).symm ?_; intro ad3 c3 w3 hown3 hg3 hn3 hb3 _)
    go_ret
    exact RetP.of hown3 (hb0.trans hb3)
  · have hlen : P.take 97 = P := List.take_of_length_le (by omega)
    rw [hlen] at hsr ⊢
    obtain ⟨np, hnp⟩ : ∃ n, P.length = n := ⟨_, rfl⟩
    rw [hnp] at hl hc hsr ⊢
    have HS := Lib.hid hsr
    clear hsr hs hlen hnp
    go_enter Tryd.func6, Tryd.ntmps6
    go_wp2_with (at_builtin; refine wpList_append_rv rfl (.tmp 8) (.tmp 9) _ rfl w.heap.size 56 _ 2 16 Tryd.underlying27 info_pick rfl (by decide) _ 0 [] rfl hmade _ np c _ (by rfl) HS.out (flat_one pcl_one _) (by unfold maxLen; omega) (by omega) hb0.size np (Nat.zero_add _).symm _ (List.nil_append _).symm ?_; intro ad3 c3 w3 hown3 hg3 hn3 hb3 _)
    go_ret
    exact RetP.of hown3 (hb0.trans hb3)

end Go.Proofs
