/- temper.Scale of twelve single steps of a twelfth. -/
import Derived.Test.YthkeekoljediiaaTemper4
open Go.RowKit Go.Deep
namespace Go.Proofs
set_option linter.unusedVariables false
set_option linter.unusedSimpArgs false

def qcl (n : Nat) : List Value := [.int .u64 (n : Int)]
theorem info_u64 : (Try.prog.info? 44).map (fun i => (i.zero, i.size, i.bytes)) = some (some (.int .u64 0), 1, 8) := by kernel_rfl
theorem Vals.rdU {w : World} {b : Nat} {v0 : Value} (h : Vals w b [v0]) : RdV w (some ⟨b, 0, none⟩) 1 1 1 [v0] := by
  refine ⟨rfl, Nat.le_refl _, by unfold maxLen; omega, .inr ⟨b, 0, rfl, fun j u hj => ?_⟩⟩
  have hj2 := (List.getElem?_eq_some_iff.1 hj).1
  have e := h.cell hj2
  rw [Nat.zero_add, e, getD_of hj]
/-- the frequencies in the order of the fifths -/
def rowF (F : Nat → Nat) (n : Nat) : List Nat := (List.range n).map fun j => F (7 * j % 12)
theorem rowF_succ (F : Nat → Nat) (n : Nat) : rowF F (n + 1) = rowF F n ++ [F (7 * n % 12)] := by simp [rowF, List.range_succ]
theorem rowF_len (F : Nat → Nat) (n : Nat) : (rowF F n).length = n := by simp [rowF]
theorem row7_at {n i : Nat} (h : i < n) (d : T4) : (row7 n).getD i d = tq (7 * i % 12) := by simp [row7, List.getD, h]
theorem perm_fifths (F : Nat → Nat) : (rowF F 12).Perm ((List.range 12).map F) := by
  have h : (List.range 12).map (fun j => 7 * j % 12) = [0, 7, 2, 9, 4, 11, 6, 1, 8, 3, 10, 5] := by decide
  have h2 : ([0, 7, 2, 9, 4, 11, 6, 1, 8, 3, 10, 5] : List Nat).Perm (List.range 12) := by decide
  have h3 : rowF F 12 = ((List.range 12).map (fun j => 7 * j % 12)).map F := by rw [List.map_map]; rfl
  rw [h3, h]
  exact h2.map F
theorem sorted_fifths {F : Nat → Nat} (hm : ∀ j k, j ≤ k → k < 12 → F j ≤ F k) {ys : List Nat} (hp : ys.Perm (rowF F 12)) (hs : SortedTo ys 12) : ys = (List.range 12).map F := by
  have hp2 := hp.trans (perm_fifths F)
  have hl : ys.length = 12 := by rw [hp2.length_eq]; simp
  refine sorted_eq hp2 (by rw [hl]; exact hs) ?_
  intro a b hab hb
  have hb' : b < 12 := by simpa using hb
  have ha' : a < 12 := by omega
  have e : ∀ i, i < 12 → ((List.range 12).map F).getD i 0 = F i := fun i hi => by simp [List.getD, hi]
  rw [e a ha', e b hb']
  exact hm a b (by omega) hb'
theorem ownsRow_cellQ {w : World} {B : Nat} {e : TypeId} {ad : Option Addr} {c n : Nat} {xs : List Nat} (hn : xs.length = n) (hpos : 0 < n) (h : w.ownsRow B e 1 (.slice ad n c) n (flat qcl xs)) : ∃ g, ad = some ⟨g, 0, none⟩ ∧ B ≤ g ∧ g < w.heap.size ∧ n ≤ c ∧ CellQ w g xs := by
  obtain ⟨hl, h⟩ := h
  rcases h with ⟨h0, h1⟩ | ⟨g, cap, cur, h0, hg, hh, hnc, hcm, hcs, htake⟩
  · omega
  · injection h0 with e1 e2 e3
    subst e1 e3
    refine ⟨g, rfl, hg, lt_of_block hh, hnc, fun i hi => ⟨?_, ?_⟩⟩
    · have e : cur[i]? = some (.int .u64 ((xs.getD i 0 : Nat) : Int)) := by
        have h1 : (cur.toList.take (n * 1))[i]? = (flat qcl xs)[i]? := by rw [htake]
        rw [List.getElem?_take, if_pos (by omega)] at h1
        have h2 := flat_get (f := qcl) (k := 1) (fun _ => rfl) 0 xs i hi 0 (by omega)
        rw [Nat.mul_one, Nat.add_zero] at h2
        rw [← Array.getElem?_toList, h1, h2]
        rfl
      simp [World.cell?, hh, e]
    · simp [World.frozen?, hh]

set_option maxRecDepth 100000 in
theorem based_calls (bz : Int) (b : Nat) (w : World) (h0 : (bz == 0) = false) (h1 : ¬ 1152921504606846976 ≤ bz) (hv : Twelve w b 1) : Calls Try.prog 30 #[.int .u64 bz, .slice (some ⟨b, 0, none⟩) 12 12, .int .i64 12] w fun e w' =>
    ∃ ad c, e = .returned (.tuple #[.slice ad 12 c, .int .i64 0]) ∧ w'.ownsRow (w.heap.size + 1) 37 4 (.slice ad 12 c) 12 (flat tcl (row7 12)) ∧ Below w.heap.size w w' := by
  have HT := Lib.hid (tones_calls b w hv)
  go_enter Try.func30, Try.ntmps30
  go_wp2_with fail
  refine HT.out.mono ?_
  rintro e w' ⟨ad, c, rfl, ho, hb⟩
  have HO := Lib.hid ho
  have HB := Lib.hid hb
  clear ho hb
  go_wp2
  go_ret2
  exact ⟨ad, c, rfl, HO.out, HB.out⟩

set_option maxRecDepth 100000 in
set_option maxHeartbeats 1000000 in
theorem scale_calls (bz : Int) (F : Nat → Nat) (b : Nat) (w : World) (h0 : (bz == 0) = false) (h1 : ¬ 1152921504606846976 ≤ bz) (hv : Twelve w b 1)
    (HF : ∀ k, k < 12 → ∀ W : World, Calls Try.prog 14 #[.int .u64 bz, .agg #[.int .i64 (tq k).a, .int .i64 (tq k).b, .int .i64 (tq k).c, .int .i64 (tq k).d]] W fun e w' => e = .returned (.tuple #[.int .u64 (F k : Int), .int .i64 0]) ∧ Below W.heap.size W w')
    (hm : ∀ j k, j ≤ k → k < 12 → F j ≤ F k) : Calls Try.prog 13 #[.int .u64 bz, .slice (some ⟨b, 0, none⟩) 12 12, .int .i64 12] w fun e w' =>
    ∃ g c, e = .returned (.tuple #[.slice (some ⟨g, 0, none⟩) 12 c, .int .i64 0]) ∧ 12 ≤ c ∧ g < w'.heap.size ∧ CellQ w' g ((List.range 12).map F) ∧ Below w.heap.size w w' := by
  have HT := Lib.hid (based_calls bz b w h0 h1 hv)
  have HFF := Lib.hid HF
  have HM := Lib.hid hm
  clear h0 h1 hv HF hm
  go_enter Try.func13, Try.ntmps13
  go_wp2_with fail
  refine HT.out.mono ?_
  rintro e w1 ⟨ad, c, rfl, ho, hb⟩
  have hrd := (ownsRow_rds ho).1
  have hsz := hb.size
  have HB1 := Lib.hid hb
  clear ho hb HT
  go_wp2
  go_loopw [10, 27] (fun ov iv wr => ∃ (i : Nat) (ad2 : Option Addr) (c2 : Nat), i ≤ 12 ∧ iv = .int .i64 (i : Int) ∧ ov = .slice ad2 i c2 ∧ wr.ownsRow w1.heap.size 44 1 (.slice ad2 i c2) i (flat qcl (rowF F i)) ∧ Below w1.heap.size w1 wr) (fun _ iv _ => (12 - intOf iv).toNat)
  case atStart => exact ⟨0, none, 0, by omega, rfl, rfl, ownsRow_nil _ _ _ _, Below.refl _ _⟩
  case round =>
    obtain ⟨i, ad2, c2, hi, rfl, rfl, hown, B'⟩ := hrel
    by_cases h12 : i < 12
    · have t1 : (i : Int) < 12 := by omega
      have hk : 7 * i % 12 < 12 := Nat.mod_lt _ (by omega)
      obtain ⟨bl, ol, hbl, hc⟩ := (hrd.mono B').at tcl_len (by omega) ⟨0, 0, 0, 0⟩ (i := i) (by rw [row7_len]; omega)
      subst hbl
      rw [row7_at h12] at hc
      have FR := HFF.out (7 * i % 12) hk
      have hrow := rowF_succ F i
      obtain ⟨r, hr⟩ : ∃ r, F (7 * i % 12) = r := ⟨_, rfl⟩
      rw [hr] at FR hrow
      obtain ⟨⟨xa, xb, xc, xd⟩, hx⟩ : ∃ t, tq (7 * i % 12) = t := ⟨_, rfl⟩
      rw [hx] at FR hc
      dsimp only at FR
      have c0 : wr.cell? ⟨bl, ol + i * 4, none⟩ = some (.int .i64 xa) := hc 0 _ rfl
      have c1 : wr.cell? ⟨bl, ol + i * 4 + 1, none⟩ = some (.int .i64 xb) := hc 1 _ rfl
      have c2' : wr.cell? ⟨bl, ol + i * 4 + 2, none⟩ = some (.int .i64 xc) := hc 2 _ rfl
      have c3 : wr.cell? ⟨bl, ol + i * 4 + 3, none⟩ = some (.int .i64 xd) := hc 3 _ rfl
      have HFR := Lib.hid FR
      have HROW := Lib.hid hrow
      have HOWN := Lib.hid hown
      have B := B'
      have hle := B'.size
      clear FR hrow hown B' hc hx hr hk
      go_wp2_with fail
      have v12 := Vals.newL wr wr.heap.size [.int .i64 xa, .int .i64 xb, .int .i64 xc, .int .i64 xd] 37 rfl
      have bb := below_alloc wr (.cells #[.int .i64 xa, .int .i64 xb, .int .i64 xc, .int .i64 xd] 37)
      have hown2 := Lib.hid (ownsRow_mono HOWN.out bb)
      have hle2 := Nat.le_trans hle bb.size
      replace B := B.trans (bb.mono hle)
      clear bb HOWN c0 c1 c2' c3
      generalize wr.alloc (.cells #[.int .i64 xa, .int .i64 xb, .int .i64 xc, .int .i64 xd] 37) = w2 at *
      refine (HFR.out _).mono ?_
      rintro e w3 ⟨rfl, b3⟩
      have hown3 := Lib.hid (ownsRow_mono hown2.out b3)
      replace B := B.trans (b3.mono hle2)
      have hle3 := Nat.le_trans hle2 b3.size
      clear b3 hown2 v12
      dsimp only
      have bz2 := below_alloc w3 (.cells #[.int .u64 (r : Int)] 44)
      go_wp2_with (at_builtin; refine wpList_append_rv rfl (.tmp 37) (.tmp 39) _ rfl w1.heap.size 44 _ 1 8 Try.underlying46 info_u64 rfl (by decide) _ i _ rfl (ownsRow_mono hown3.out bz2) _ 1 1 [.int .u64 (r : Int)] rfl (Vals.newL w3 w3.heap.size [.int .u64 (r : Int)] 44 rfl).rdU (by intro u hu; simp only [List.mem_cons, List.not_mem_nil, or_false] at hu; subst hu; rfl) (by unfold maxLen; omega) (by omega) (by rw [World.size_alloc]; omega) (i + 1) rfl _ rfl ?_; intro adn cn w7 hown7 hg7 hn7 hb7 hk7)
      have hfl : flat qcl (rowF F (i + 1)) = flat qcl (rowF F i) ++ [.int .u64 (r : Int)] := by rw [HROW.out, flat_append]; rfl
      go_roundw
      case rel => exact ⟨i + 1, adn, cn, by omega, by go_num, rfl, by rw [hfl]; exact hown7, B.trans ((bz2.mono hle3).trans hb7)⟩
      case measure => simp [intOf]; omega
    · obtain rfl : i = 12 := by omega
      obtain ⟨g, rfl, hg1, hg2, hgc, hcq⟩ := ownsRow_cellQ (rowF_len F 12) (by omega) hown
      have SO := Lib.hid (fun W : World => sort_calls w1.heap.size g c2 (rowF F 12) W (rowF_len F 12) hg1)
      have HC := Lib.hid hcq
      clear hcq hown
      go_wp2_with fail
      refine (SO.out _ HC.out).mono ?_
      rintro e w3 ⟨rfl, ys, hp, hs, hcy, hb3⟩
      obtain rfl := sorted_fifths HM.out hp hs
      have HCY := Lib.hid hcy
      have hszz := B'.size
      have HB3 := Lib.hid (HB1.out.trans ((B'.trans hb3).mono hsz))
      have hg3 : g < w3.heap.size := Nat.lt_of_lt_of_le hg2 hb3.size
      clear hp hs hcy hb3
      go_wp2
      go_ret2
      exact ⟨g, c2, rfl, hgc, hg3, HCY.out, HB3.out⟩

end Go.Proofs
