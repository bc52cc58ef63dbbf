/- The walk of TopCloses: whatever comes in, it returns true and changes nothing that was there. -/
import Derived.Test.YthkeekoljediiaaCircH
import Derived.Test.YthkeekoljediiaaCircK
import Derived.Test.YthkeekoljediiaaTempers
import Derived.Test.YthkeekoljediiaaLax
open Go.RowKit Go.Deep
namespace Go.Proofs
set_option linter.unusedVariables false
set_option linter.unusedSimpArgs false

theorem cmask_1 (z : Int) : ∃ k : Nat, k ≤ 1 ∧ bits BinOp.and IntKind.i64 z 1 = (k : Int) := by
  refine ⟨(BitVec.ofInt 64 z).toNat &&& 1, Nat.and_le_right, ?_⟩
  have hlt : (BitVec.ofInt 64 z).toNat &&& 1 ≤ 1 := Nat.and_le_right
  have e : (BitVec.ofInt 64 z &&& BitVec.ofInt 64 1).toNat = (BitVec.ofInt 64 z).toNat &&& 1 := by
    rw [BitVec.toNat_and]
    rfl
  show IntKind.i64.wrap ((BitVec.ofInt 64 z &&& BitVec.ofInt 64 1).toNat : Int) = _
  rw [e, IntKind.wrap_i64]
  omega
theorem cmask_15 (z : Int) : ∃ k : Nat, k ≤ 15 ∧ bits BinOp.and IntKind.i64 z 15 = (k : Int) := by
  refine ⟨(BitVec.ofInt 64 z).toNat &&& 15, Nat.and_le_right, ?_⟩
  have hlt : (BitVec.ofInt 64 z).toNat &&& 15 ≤ 15 := Nat.and_le_right
  have e : (BitVec.ofInt 64 z &&& BitVec.ofInt 64 15).toNat = (BitVec.ofInt 64 z).toNat &&& 15 := by
    rw [BitVec.toNat_and]
    rfl
  show IntKind.i64.wrap ((BitVec.ofInt 64 z &&& BitVec.ofInt 64 15).toNat : Int) = _
  rw [e, IntKind.wrap_i64]
  omega
theorem cmask_1023 (z : Int) : ∃ k : Nat, k ≤ 1023 ∧ bits BinOp.and IntKind.i64 z 1023 = (k : Int) := by
  refine ⟨(BitVec.ofInt 64 z).toNat &&& 1023, Nat.and_le_right, ?_⟩
  have hlt : (BitVec.ofInt 64 z).toNat &&& 1023 ≤ 1023 := Nat.and_le_right
  have e : (BitVec.ofInt 64 z &&& BitVec.ofInt 64 1023).toNat = (BitVec.ofInt 64 z).toNat &&& 1023 := by
    rw [BitVec.toNat_and]
    rfl
  show IntKind.i64.wrap ((BitVec.ofInt 64 z &&& BitVec.ofInt 64 1023).toNat : Int) = _
  rw [e, IntKind.wrap_i64]
  omega

/-- a row under a change of another row -/
theorem owns_grown {w w' : World} {B e k n : Nat} {v : Value} {cs : List Value} {row : Option Nat} (h : w.ownsRow B e k v n cs) (hg : w.grownBy w' row) (hne : ∀ b, v.ownBlock = some b → row ≠ some b) : w'.ownsRow B e k v n cs := by
  have hk := ownsRow_block h
  obtain ⟨hl, h1⟩ := h
  refine ⟨hl, ?_⟩
  rcases h1 with h1 | ⟨g, cap, cur, rfl, hg0, hh, hrest⟩
  · exact .inl h1
  · exact .inr ⟨g, cap, cur, rfl, hg0, (hg.block g (Array.getElem?_eq_some_iff.1 hh).1 (fun e => hne g rfl e.symm)).trans hh, hrest⟩
theorem vals_grown {w w' : World} {b : Nat} {vs : List Value} {row : Option Nat} (h : Vals w b vs) (hg : w.grownBy w' row) (hne : row ≠ some b) : Vals w' b vs := by
  have hl := h.lt
  obtain ⟨e, h⟩ := h
  exact ⟨e, (hg.block b hl (fun e => hne e.symm)).trans h⟩
theorem rdV_one {w : World} {b : Nat} {z : Int} (h : Vals w b [.int .i64 z]) : RdV w (some ⟨b, 0, none⟩) 1 1 1 [.int .i64 z] := by
  refine ⟨rfl, Nat.le_refl _, by unfold maxLen; omega, .inr ⟨b, 0, rfl, fun j u hj => ?_⟩⟩
  have hj2 := (List.getElem?_eq_some_iff.1 hj).1
  have e := h.cell hj2
  rw [Nat.zero_add, e, List.getD, hj]
  rfl
/-- two rows of integers and the struct that holds them -/
structure TwoR (w0 W : World) (rb BS : Nat) (RL : List Value) (v7 : Value) (n7 : Nat) (l7 : List Value) (v8 : Value) (n8 : Nat) (l8 : List Value) : Prop where
  vr : Vals W rb RL
  o7 : W.ownsRow BS 3 1 v7 n7 l7
  o8 : W.ownsRow BS 3 1 v8 n8 l8
  ne : ∀ b, v7.ownBlock = some b → v8.ownBlock ≠ some b
  bel : Below w0.heap.size w0 W
  bs : BS ≤ W.heap.size
theorem TwoR.lay {w0 W W' rb BS RL v7 n7 l7 v8 n8 l8} (h : TwoR w0 W rb BS RL v7 n7 l7 v8 n8 l8) (hb : Below W.heap.size W W') : TwoR w0 W' rb BS RL v7 n7 l7 v8 n8 l8 :=
  ⟨h.vr.mono hb, ownsRow_mono h.o7 hb, ownsRow_mono h.o8 hb, h.ne, h.bel.trans (hb.mono h.bel.size), Nat.le_trans h.bs hb.size⟩
theorem TwoR.app7 {w0 W W' rb BS RL v7 n7 l7 v8 n8 l8 v7' n7' l7'} (h : TwoR w0 W rb BS RL v7 n7 l7 v8 n8 l8) (hrb : rb < BS) (h0 : w0.heap.size ≤ BS) (ho : W'.ownsRow BS 3 1 v7' n7' l7') (hg : W.grownBy W' v7.ownBlock) (hb : Below BS W W')
    (hk : v7'.ownBlock = v7.ownBlock ∨ v7'.ownBlock = some W.heap.size) : TwoR w0 W' rb BS RL v7' n7' l7' v8 n8 l8 := by
  refine ⟨vals_grown h.vr hg (fun e => ?_), ho, owns_grown h.o8 hg (fun b hb e => h.ne b e hb), fun b hb => ?_, h.bel.trans (hb.mono h0), Nat.le_trans h.bs hb.size⟩
  · have := (ownsRow_block h.o7 _ e).1
    omega
  · rcases hk with hk | hk
    · exact h.ne b (hk.symm.trans hb)
    · intro e
      have := (ownsRow_block h.o8 _ e).2
      rw [hk] at hb
      cases hb
      omega
theorem TwoR.app8 {w0 W W' rb BS RL v7 n7 l7 v8 n8 l8 v8' n8' l8'} (h : TwoR w0 W rb BS RL v7 n7 l7 v8 n8 l8) (hrb : rb < BS) (h0 : w0.heap.size ≤ BS) (ho : W'.ownsRow BS 3 1 v8' n8' l8') (hg : W.grownBy W' v8.ownBlock) (hb : Below BS W W')
    (hk : v8'.ownBlock = v8.ownBlock ∨ v8'.ownBlock = some W.heap.size) : TwoR w0 W' rb BS RL v7 n7 l7 v8' n8' l8' := by
  refine ⟨vals_grown h.vr hg (fun e => ?_), owns_grown h.o7 hg (fun b hb e => h.ne b hb e), ho, fun b hb => ?_, h.bel.trans (hb.mono h0), Nat.le_trans h.bs hb.size⟩
  · have := (ownsRow_block h.o8 _ e).1
    omega
  · rcases hk with hk | hk
    · rw [hk]; exact h.ne b hb
    · rw [hk]
      intro e
      cases e
      have := (ownsRow_block h.o7 _ hb).2
      omega
theorem TwoR.put {w0 W rb BS RL v7 n7 l7 v8 n8 l8} (h : TwoR w0 W rb BS RL v7 n7 l7 v8 n8 l8) (hrb : rb < BS) (h0 : w0.heap.size ≤ rb) (x y : Nat) (u v : Value) :
    TwoR w0 ((W.setCell ⟨rb, x, none⟩ u).setCell ⟨rb, y, none⟩ v) rb BS ((RL.set x u).set y v) v7 n7 l7 v8 n8 l8 := by
  have a7 := ownsRow_other h.o7 ⟨rb, x, none⟩ (fun e => by have := (ownsRow_block h.o7 _ e).1; dsimp only at this; omega) u
  have a8 := ownsRow_other h.o8 ⟨rb, x, none⟩ (fun e => by have := (ownsRow_block h.o8 _ e).1; dsimp only at this; omega) u
  exact ⟨(h.vr.set x u).set y v, ownsRow_other a7 ⟨rb, y, none⟩ (fun e => by have := (ownsRow_block a7 _ e).1; dsimp only at this; omega) v, ownsRow_other a8 ⟨rb, y, none⟩ (fun e => by have := (ownsRow_block a8 _ e).1; dsimp only at this; omega) v, h.ne,
    (h.bel.setCell (by dsimp only; omega) _).setCell (by dsimp only; omega) _, by simpa only [size_set] using h.bs⟩
/-- the thirds' weights -/
def thW (wt : Nat → Nat) (j : Nat) : Nat := (wt j + j) % 7
theorem wts_of {w : World} {x : Addr} {n : Nat} {f : Nat → Int} (h : ∀ i, i < n → w.cell? (x.add i) = some (.int .i64 (f i))) : n = 0 ∨ ∃ b o, some x = some (⟨b, o, none⟩ : Addr) ∧ ∀ i, i < n → ∃ z, w.cell? ⟨b, o + i, none⟩ = some (.int .i64 z) := by
  by_cases hn : n = 0
  · exact .inl hn
  · right
    obtain ⟨b, o, sp⟩ := x
    have h0 := World.cell?_spot (h 0 (by omega))
    have hs : sp = none := by simpa [Addr.add] using h0
    subst hs
    exact ⟨b, o, rfl, fun i hi => ⟨f i, by rw [← add_offV]; exact h i hi⟩⟩
def RetTrueC (w : World) (e : Ending) (w' : World) : Prop := e = .returned (.bool true) ∧ Below w.heap.size w w'

set_option maxRecDepth 100000 in
set_option maxHeartbeats 8000000 in
theorem walk_closes (a0 a1 a2 a3 a4 a5 a6 : Int) (fv tv : Value) (wa : Option Addr) (wl wc : Nat) (w : World) (hfv : ∃ x n c, fv = .slice x n c) (htv : ∃ x n c, tv = .slice x n c)
    (hW : wl = 0 ∨ ∃ b o, wa = some ⟨b, o, none⟩ ∧ ∀ i, i < wl → ∃ z, w.cell? ⟨b, o + i, none⟩ = some (.int .i64 z)) (hwc : wl ≤ wc) :
    Calls Try.prog 3 #[.agg #[.int .i64 a0, .int .i64 a1, .int .i64 a2, .int .i64 a3, .int .i64 a4, .int .i64 a5, .int .i64 a6, fv, tv], .slice wa wl wc] w (RetTrueC w) := by
  obtain ⟨fx, fn, fc, rfl⟩ := hfv
  obtain ⟨tx, tn, tc, rfl⟩ := htv
  obtain ⟨k1, hk1, e1⟩ := cmask_1 a1
  obtain ⟨k2, hk2, e2⟩ := cmask_1 a2
  obtain ⟨k4, hk4, e4⟩ := cmask_15 a4
  obtain ⟨k5, hk5, e5⟩ := cmask_15 a5
  obtain ⟨k6, hk6, e6⟩ := cmask_15 a6
  obtain ⟨sp, hsp⟩ : ∃ z : Nat, 2 + k1 = z := ⟨_, rfl⟩
  obtain ⟨tot, htot⟩ : ∃ z : Nat, k4 + 8 = z := ⟨_, rfl⟩
  obtain ⟨wo, hwo⟩ : ∃ z : Nat, k6 + 4 = z := ⟨_, rfl⟩
  have q1 : IntKind.i64.wrap (2 + (k1 : Int)) = (sp : Int) := by rw [IntWalk.i64_in _ (by omega)]; omega
  have q4 : IntKind.i64.wrap ((k4 : Int) + 8) = (tot : Int) := by rw [IntWalk.i64_in _ (by omega)]; omega
  have q6 : IntKind.i64.wrap ((k6 : Int) + 4) = (wo : Int) := by rw [IntWalk.i64_in _ (by omega)]; omega
  have v0 := Vals.newL w w.heap.size [.int .i64 a0, .int .i64 a1, .int .i64 a2, .int .i64 a3, .int .i64 a4, .int .i64 a5, .int .i64 a6, .slice fx fn fc, .slice tx tn tc] 24 rfl
  have b0 := below_alloc w (.cells #[.int .i64 a0, .int .i64 a1, .int .i64 a2, .int .i64 a3, .int .i64 a4, .int .i64 a5, .int .i64 a6, .slice fx fn fc, .slice tx tn tc] 24)
  have HBD := Lib.hid (show 2 ≤ sp ∧ sp ≤ 3 ∧ 8 ≤ tot ∧ tot ≤ 23 ∧ 4 ≤ wo ∧ wo ≤ 19 by omega)
  have HW := Lib.hid hW
  have HB0 := Lib.hid b0
  clear hW hsp htot hwo b0
  go_enter Try.func3, Try.ntmps3
  go_upto_region 3 with (fail)
  have v1 := Vals.newL (w.alloc (.cells #[.int .i64 a0, .int .i64 a1, .int .i64 a2, .int .i64 a3, .int .i64 a4, .int .i64 a5, .int .i64 a6, .slice fx fn fc, .slice tx tn tc] 24)) (w.heap.size + 1) [.int .i64 12, .int .i64 (sp : Int), .int .i64 (k2 : Int), .int .i64 ((k2 : Int) + 2), .int .i64 (tot : Int), .int .i64 (k5 : Int), .int .i64 (wo : Int), .slice none 0 0, .slice none 0 0] 24 (World.size_alloc _ _).symm
  have b1 := below_trans HB0.out (below_alloc (w.alloc (.cells #[.int .i64 a0, .int .i64 a1, .int .i64 a2, .int .i64 a3, .int .i64 a4, .int .i64 a5, .int .i64 a6, .slice fx fn fc, .slice tx tn tc] 24)) (.cells #[.int .i64 12, .int .i64 (sp : Int), .int .i64 (k2 : Int), .int .i64 ((k2 : Int) + 2), .int .i64 (tot : Int), .int .i64 (k5 : Int), .int .i64 (wo : Int), .slice none 0 0, .slice none 0 0] 24))
  have sz2 : ((w.alloc (.cells #[.int .i64 a0, .int .i64 a1, .int .i64 a2, .int .i64 a3, .int .i64 a4, .int .i64 a5, .int .i64 a6, .slice fx fn fc, .slice tx tn tc] 24)).alloc (.cells #[.int .i64 12, .int .i64 (sp : Int), .int .i64 (k2 : Int), .int .i64 ((k2 : Int) + 2), .int .i64 (tot : Int), .int .i64 (k5 : Int), .int .i64 (wo : Int), .slice none 0 0, .slice none 0 0] 24)).heap.size = w.heap.size + 2 := by simp
  clear v0 e1 e2 e4 e5 e6 q1 q4 q6 HB0
  generalize (w.alloc (.cells #[.int .i64 a0, .int .i64 a1, .int .i64 a2, .int .i64 a3, .int .i64 a4, .int .i64 a5, .int .i64 a6, .slice fx fn fc, .slice tx tn tc] 24)).alloc (.cells #[.int .i64 12, .int .i64 (sp : Int), .int .i64 (k2 : Int), .int .i64 ((k2 : Int) + 2), .int .i64 (tot : Int), .int .i64 (k5 : Int), .int .i64 (wo : Int), .slice none 0 0, .slice none 0 0] 24) = w2 at *
  obtain ⟨rb, hrb⟩ : ∃ q, w.heap.size + 1 = q := ⟨_, rfl⟩
  obtain ⟨BS, hBS⟩ : ∃ q, w.heap.size + 2 = q := ⟨_, rfl⟩
  rw [hrb] at v1 ⊢
  rw [hBS] at sz2
  have HRB := Lib.hid (And.intro hrb hBS)
  have HSZ := Lib.hid sz2
  have hrbB : rb < BS := by omega
  clear hrb hBS sz2
  go_wp2
  go_loopw [6] (fun iv wr => ∃ (i : Nat) (wt : Nat → Nat) (x7 x8 : Option Addr) (c7 c8 : Nat), i ≤ 12 ∧ iv = .int .i64 (i : Int) ∧ (∀ j, j < i → wt j ≤ 1000) ∧ Vals wr rb [.int .i64 12, .int .i64 (sp : Int), .int .i64 (k2 : Int), .int .i64 ((k2 : Int) + 2), .int .i64 (tot : Int), .int .i64 (k5 : Int), .int .i64 (wo : Int), .slice x7 i c7, .slice x8 i c8] ∧
      wr.ownsRow BS 3 1 (.slice x7 i c7) i (stepsL wt i) ∧ wr.ownsRow BS 3 1 (.slice x8 i c8) i (stepsL (thW wt) i) ∧ (∀ b, (Value.slice x7 i c7).ownBlock = some b → (Value.slice x8 i c8).ownBlock ≠ some b) ∧ Below w.heap.size w wr ∧ BS ≤ wr.heap.size) (fun iv _ => ((12 : Int) - intOf iv).toNat)
  case atStart => exact ⟨0, fun _ => 0, none, none, 0, 0, by omega, rfl, fun j h => by omega, v1, ownsRow_nil _ _ _ _, ownsRow_nil _ _ _ _, fun b h => (by cases h), b1, by rw [HSZ.out]; exact Nat.le_refl _⟩
  case round =>
    clear v1 b1 HSZ
    obtain ⟨i, wt, x7, x8, c7, c8, hi, rfl, hwt, vr, o7, o8, hne, B, hBs⟩ := hrel
    by_cases h12 : i < 12
    · have t1 : (i : Int) < 12 := by omega
      have HV := Lib.hid (And.intro vr (And.intro o7 (And.intro o8 (And.intro hne (And.intro B (And.intro hBs hwt))))))
      clear vr o7 o8 hne hwt
      by_cases hwl : i < wl
      · have t2 : (i : Int) < (wl : Int) := by omega
        obtain ⟨wb, wof, rfl, hcw⟩ : ∃ b o, wa = some ⟨b, o, none⟩ ∧ ∀ i, i < wl → ∃ z, w.cell? ⟨b, o + i, none⟩ = some (.int .i64 z) := by
          rcases HW.out with h | h
          · omega
          · exact h
        obtain ⟨z, hz⟩ := hcw i hwl
        have hwb := cell_ltV hz
        dsimp only at hwb
        have cz := (B.cell (p := ⟨wb, wof + i, none⟩) hwb).trans hz
        have hwb2 := Nat.lt_of_lt_of_le hwb B.size
        obtain ⟨kz, hkz, ez⟩ := cmask_1023 z
        obtain ⟨q, hq⟩ : ∃ q, kz % 1001 = q := ⟨_, rfl⟩
        have hq1 : q ≤ 1000 := by omega
        have qm : ((kz : Int)).tmod 1001 = (q : Int) := by rw [← hq]; exact tmod_nat kz 1001
        have qm' : (kz : Int) % 1001 = (q : Int) := by omega
        clear hz hcw hq B hBs
        go_upto_region 9 with (fail)
        clear cz hwb2 ez qm qm'
        obtain ⟨vr, o7, o8, hne, B, hBs, hwt⟩ := HV.out
        obtain ⟨p, hp⟩ : ∃ p, (q + i) % 7 = p := ⟨_, rfl⟩
        have HP := Lib.hid hp
        have qb : ((q : Int) + (i : Int)).tmod 7 = (p : Int) := by rw [← hp]; exact tmod_nat (q + i) 7
        have qb' : ((q : Int) + (i : Int)) % 7 = (p : Int) := by omega
        have qa : IntKind.i64.wrap ((q : Int) + (i : Int)) = (q : Int) + (i : Int) := IntWalk.i64_in _ (by omega)
        have hp7 : p ≤ 6 := by omega
        have r7 := vr.cell (i := 7) (by simp)
        have r8 := vr.cell (i := 8) (by simp)
        simp only [List.getD_cons_zero, List.getD_cons_succ] at r7 r8
        have hlr := vr.lt
        have L7 := Lib.hid (show stepsL (withE wt i q) (i + 1) = stepsL wt i ++ [.int .i64 (q : Int)] by rw [stepsL_succ, stepsL_congr i (fun j hj => withE_old wt hj), withE_new] <;> rfl)
        have L8 := Lib.hid (show stepsL (thW (withE wt i q)) (i + 1) = stepsL (thW wt) i ++ [.int .i64 (p : Int)] by
          rw [stepsL_succ, stepsL_congr (e := thW wt) i (fun j hj => by unfold thW; rw [withE_old wt hj]), show thW (withE wt i q) i = p by unfold thW; rw [withE_new]; exact HP.out])
        have T0 : TwoR w wr rb BS [.int .i64 12, .int .i64 (sp : Int), .int .i64 (k2 : Int), .int .i64 ((k2 : Int) + 2), .int .i64 (tot : Int), .int .i64 (k5 : Int), .int .i64 (wo : Int), .slice x7 i c7, .slice x8 i c8] (.slice x7 i c7) i (stepsL wt i) (.slice x8 i c8) i (stepsL (thW wt) i) := ⟨vr, o7, o8, hne, B, hBs⟩
        have TD := Lib.hid (T0.lay ((Below.refl _ _).drew))
        have h0B : w.heap.size ≤ BS := by have := HRB.out; omega
        have h0R : w.heap.size ≤ rb := by have := HRB.out; omega
        have one : ∀ z : Int, ∀ u ∈ [Value.int .i64 z], u.oneCell' = true := by
          intro z u hu
          rw [List.mem_singleton.1 hu]
          rfl
        have h63 : i + 1 ≤ maxLen := by unfold maxLen; omega
        have ONE := Lib.hid one
        have H63 := Lib.hid h63
        have HWT := Lib.hid hwt
        have s7 : wr.drew.cell? ⟨rb, 7, none⟩ = some (.slice x7 i c7) := r7
        have s8 : wr.drew.cell? ⟨rb, 8, none⟩ = some (.slice x8 i c8) := r8
        have O7B := Lib.hid (show ∀ b, (Value.slice x7 i c7).ownBlock = some b → b < wr.drew.heap.size from fun b h => (ownsRow_block o7 b h).2)
        clear T0 vr o7 o8 hne B hBs one h63 hlr r7 r8 hwt
        obtain ⟨S, hS⟩ : ∃ S : World → Prop, ∀ w', S w' ↔ (w'.cell? ⟨rb, 7, none⟩ = some (.slice x7 i c7) ∧ w'.cell? ⟨rb, 8, none⟩ = some (.slice x8 i c8)) := ⟨_, fun _ => Iff.rfl⟩
        have HSS := Lib.hid hS
        refine wp_region_L (S := S) (lx := [14, 16]) (by kernel_rfl) ((hS _).2 ⟨s7, s8⟩) (fun hHeld => ?_)
        clear hS
        clear s7 s8
        generalize wr.drew = wd at *
        refine wpAnyL_pure (i := 0) (v := ?vp1) rfl (by kernel_rfl) (by kernel_rfl) (by kernel_rfl) (fun _ _ _ h => h) (Or.inl ⟨by rfl, ?hyp1⟩) ?_
        case hyp1 => (intro w _; (go_simp) <;> (with_reducible rfl))
        try simp only [Act.put, List.getElem_toArray, List.getElem_cons_zero, List.getElem_cons_succ, List.setIfInBounds_toArray, List.set_cons_zero, List.set_cons_succ]
        refine wpAnyL_take (i := 1) (v := ?vp2) rfl (by kernel_rfl) (by kernel_rfl) (by kernel_rfl) (by kernel_rfl) (fun _ _ _ h => h) (Or.inl ⟨by rfl, ?hyp2⟩) (by assumption) ?_
        case hyp2 => (intro w hSw; replace hSw := (HSS.out w).1 hSw; (go_simp) <;> (with_reducible rfl))
        try simp only [Act.put, List.getElem_toArray, List.getElem_cons_zero, List.getElem_cons_succ, List.setIfInBounds_toArray, List.set_cons_zero, List.set_cons_succ]
        refine wpAnyL_pure (i := 2) (v := ?vp3) rfl (by kernel_rfl) (by kernel_rfl) (by kernel_rfl) (fun _ _ _ h => h) (Or.inl ⟨by rfl, ?hyp3⟩) ?_
        case hyp3 => (intro w _; (go_simp) <;> (with_reducible rfl))
        try simp only [Act.put, List.getElem_toArray, List.getElem_cons_zero, List.getElem_cons_succ, List.setIfInBounds_toArray, List.set_cons_zero, List.set_cons_succ]
        refine wpAnyL_pure (i := 5) (v := ?vp4) rfl (by kernel_rfl) (by kernel_rfl) (by kernel_rfl) (fun _ _ _ h => h) (Or.inl ⟨by rfl, ?hyp4⟩) ?_
        case hyp4 => (intro w _; (go_simp) <;> (with_reducible rfl))
        try simp only [Act.put, List.getElem_toArray, List.getElem_cons_zero, List.getElem_cons_succ, List.setIfInBounds_toArray, List.set_cons_zero, List.set_cons_succ]
        refine wpAnyL_take (i := 6) (v := ?vp5) rfl (by kernel_rfl) (by kernel_rfl) (by kernel_rfl) (by kernel_rfl) (fun _ _ _ h => h) (Or.inl ⟨by rfl, ?hyp5⟩) (by assumption) ?_
        case hyp5 => (intro w hSw; replace hSw := (HSS.out w).1 hSw; (go_simp) <;> (with_reducible rfl))
        try simp only [Act.put, List.getElem_toArray, List.getElem_cons_zero, List.getElem_cons_succ, List.setIfInBounds_toArray, List.set_cons_zero, List.set_cons_succ]
        refine wpAnyL_pure (i := 7) (v := ?vp6) rfl (by kernel_rfl) (by kernel_rfl) (by kernel_rfl) (fun _ _ _ h => h) (Or.inl ⟨by rfl, ?hyp6⟩) ?_
        case hyp6 => (intro w _; (go_simp) <;> (with_reducible rfl))
        try simp only [Act.put, List.getElem_toArray, List.getElem_cons_zero, List.getElem_cons_succ, List.setIfInBounds_toArray, List.set_cons_zero, List.set_cons_succ]
        refine wpAnyL_pure (i := 8) (v := ?vp7) rfl (by kernel_rfl) (by kernel_rfl) (by kernel_rfl) (fun _ _ _ h => h) (Or.inl ⟨by rfl, ?hyp7⟩) ?_
        case hyp7 => (intro w _; (go_simp) <;> (with_reducible rfl))
        try simp only [Act.put, List.getElem_toArray, List.getElem_cons_zero, List.getElem_cons_succ, List.setIfInBounds_toArray, List.set_cons_zero, List.set_cons_succ]
        refine wpAnyL_pure (i := 9) (v := ?vp8) rfl (by kernel_rfl) (by kernel_rfl) (by kernel_rfl) (fun _ _ _ h => h) (Or.inl ⟨by rfl, ?hyp8⟩) ?_
        case hyp8 => (intro w _; (go_simp) <;> (with_reducible rfl))
        try simp only [Act.put, List.getElem_toArray, List.getElem_cons_zero, List.getElem_cons_succ, List.setIfInBounds_toArray, List.set_cons_zero, List.set_cons_succ]
        refine wpAnyL_pure (i := 10) (v := ?vp9) rfl (by kernel_rfl) (by kernel_rfl) (by kernel_rfl) (fun _ _ _ h => h) (Or.inl ⟨by rfl, ?hyp9⟩) ?_
        case hyp9 => (intro w _; (go_simp) <;> (with_reducible rfl))
        try simp only [Act.put, List.getElem_toArray, List.getElem_cons_zero, List.getElem_cons_succ, List.setIfInBounds_toArray, List.set_cons_zero, List.set_cons_succ]
        refine wpAnyL_all (rs := [3, 11]) (by kernel_rfl) (by simp) (fun j hj => ?_)
        simp only [List.mem_cons, List.not_mem_nil, or_false] at hj
        rcases hj with rfl | rfl
        · skip
          refine wpOpL (by rfl) (fun K hK => ?_)
          go_simp
          have TA := Lib.hid (TD.out.lay (below_alloc wd (.cells #[.int .i64 (q : Int)] 3)))
          have VA := Vals.newL wd wd.heap.size [.int .i64 (q : Int)] 3 rfl
          have szA := (below_alloc wd (.cells #[.int .i64 (q : Int)] 3)).size
          have ltA : wd.heap.size < (wd.alloc (.cells #[.int .i64 (q : Int)] 3)).heap.size := VA.lt
          generalize wd.alloc (.cells #[.int .i64 (q : Int)] 3) = wA at *
          have hHeld : S wA := by
            have a := TA.out.vr.cell (i := 7) (by simp)
            have b := TA.out.vr.cell (i := 8) (by simp)
            simp only [List.getD_cons_zero, List.getD_cons_succ] at a b
            exact (HSS.out _).2 ⟨a, b⟩
          refine hK.out _ _ (fun _ _ => hHeld) ?_
          clear hK K
          try simp only [Act.put, List.getElem_toArray, List.getElem_cons_zero, List.getElem_cons_succ, List.setIfInBounds_toArray, List.set_cons_zero, List.set_cons_succ]
          refine wpAnyL_all (rs := [4, 11]) (by kernel_rfl) (by simp) (fun j hj => ?_)
          simp only [List.mem_cons, List.not_mem_nil, or_false] at hj
          rcases hj with rfl | rfl
          · skip
            refine wpOpL (by rfl) (fun K hK => ?_)
            refine step_append_rv (by rfl) (.tmp 62) (.tmp 64) _ (by rfl) BS 3 _ 1 8 Try.underlying22 info_intC (by rfl) (by decide) _ i (stepsL wt i) (by rfl) TA.out.o7 _ 1 1 [.int .i64 (q : Int)] (by rfl) (rdV_one VA) (ONE.out _) H63.out (by omega) TA.out.bs (i + 1) rfl _ L7.out ?_
            intro ad4 c4 wB hown4 hg4 hn4 hb4 hk4
            have TB := Lib.hid (TA.out.app7 hrbB h0B hown4 hg4 hb4 hk4)
            have szB := hg4.size
            have hHeld : S wB := by
              have a := TB.out.vr.cell (i := 7) (by simp)
              have b := TB.out.vr.cell (i := 8) (by simp)
              simp only [List.getD_cons_zero, List.getD_cons_succ] at a b
              exact (HSS.out _).2 ⟨a, b⟩
            refine hK.out _ _ (fun _ _ => hHeld) ?_
            clear hK K hown4 hg4 hn4 hb4 hk4
            try simp only [Act.put, List.getElem_toArray, List.getElem_cons_zero, List.getElem_cons_succ, List.setIfInBounds_toArray, List.set_cons_zero, List.set_cons_succ]
            refine wpAnyL_pure (i := 13) (v := ?vp10) rfl (by kernel_rfl) (by kernel_rfl) (by kernel_rfl) (fun _ _ _ h => h) (Or.inl ⟨by rfl, ?hyp10⟩) ?_
            case hyp10 => (intro w _; (go_simp) <;> (with_reducible rfl))
            try simp only [Act.put, List.getElem_toArray, List.getElem_cons_zero, List.getElem_cons_succ, List.setIfInBounds_toArray, List.set_cons_zero, List.set_cons_succ]
            refine wpAnyL_all (rs := [11]) (by kernel_rfl) (by simp) (fun j hj => ?_)
            obtain rfl := List.mem_singleton.1 hj
            clear hj
            refine wpOpL (by rfl) (fun K hK => ?_)
            go_simp
            have TC := Lib.hid (TB.out.lay (below_alloc wB (.cells #[.int .i64 (p : Int)] 3)))
            have VC := Vals.newL wB wB.heap.size [.int .i64 (p : Int)] 3 rfl
            have szC := (below_alloc wB (.cells #[.int .i64 (p : Int)] 3)).size
            have ltC : wB.heap.size < (wB.alloc (.cells #[.int .i64 (p : Int)] 3)).heap.size := VC.lt
            generalize wB.alloc (.cells #[.int .i64 (p : Int)] 3) = wC at *
            have hHeld : S wC := by
              have a := TC.out.vr.cell (i := 7) (by simp)
              have b := TC.out.vr.cell (i := 8) (by simp)
              simp only [List.getD_cons_zero, List.getD_cons_succ] at a b
              exact (HSS.out _).2 ⟨a, b⟩
            refine hK.out _ _ (fun _ _ => hHeld) ?_
            clear hK K
            try simp only [Act.put, List.getElem_toArray, List.getElem_cons_zero, List.getElem_cons_succ, List.setIfInBounds_toArray, List.set_cons_zero, List.set_cons_succ]
            refine wpAnyL_all (rs := [12]) (by kernel_rfl) (by simp) (fun j hj => ?_)
            obtain rfl := List.mem_singleton.1 hj
            clear hj
            refine wpOpL (by rfl) (fun K hK => ?_)
            refine step_append_rv (by rfl) (.tmp 67) (.tmp 72) _ (by rfl) BS 3 _ 1 8 Try.underlying22 info_intC (by rfl) (by decide) _ i (stepsL (thW wt) i) (by rfl) TC.out.o8 _ 1 1 [.int .i64 (p : Int)] (by rfl) (rdV_one VC) (ONE.out _) H63.out (by omega) TC.out.bs (i + 1) rfl _ L8.out ?_
            intro ad5 c5 wD hown5 hg5 hn5 hb5 hk5
            have TD := Lib.hid (TC.out.app8 hrbB h0B hown5 hg5 hb5 hk5)
            have hHeld : S wD := by
              have a := TD.out.vr.cell (i := 7) (by simp)
              have b := TD.out.vr.cell (i := 8) (by simp)
              simp only [List.getD_cons_zero, List.getD_cons_succ] at a b
              exact (HSS.out _).2 ⟨a, b⟩
            refine hK.out _ _ (fun _ _ => hHeld) ?_
            clear hK K hown5 hg5 hn5 hb5 hk5
            try simp only [Act.put, List.getElem_toArray, List.getElem_cons_zero, List.getElem_cons_succ, List.setIfInBounds_toArray, List.set_cons_zero, List.set_cons_succ]
            refine wpAnyL_all (rs := [14]) (by kernel_rfl) (by simp) (fun j hj => ?_)
            obtain rfl := List.mem_singleton.1 hj
            clear hj
            have s7 := TD.out.vr.cell (i := 7) (by simp)
            have s8 := TD.out.vr.cell (i := 8) (by simp)
            simp only [List.getD_cons_zero, List.getD_cons_succ] at s7 s8
            have fz7 := TD.out.vr.frozen 7
            have fz8 := TD.out.vr.frozen 8
            have lt5 := TD.out.vr.lt
            refine wpOpL (by rfl) (fun K hK => ?_)
            go_simp
            refine hK.out _ _ (fun h => absurd h (by decide)) ?_
            clear hK K
            try simp only [Act.put, List.getElem_toArray, List.getElem_cons_zero, List.getElem_cons_succ, List.setIfInBounds_toArray, List.set_cons_zero, List.set_cons_succ]
            refine wpAnyL_pure (i := 15) (v := ?vp11) rfl (by kernel_rfl) (by kernel_rfl) (by kernel_rfl) (fun _ _ _ h => h) (Or.inl ⟨by rfl, ?hyp11⟩) ?_
            case hyp11 => (intro w _; (go_simp) <;> (with_reducible rfl))
            try simp only [Act.put, List.getElem_toArray, List.getElem_cons_zero, List.getElem_cons_succ, List.setIfInBounds_toArray, List.set_cons_zero, List.set_cons_succ]
            refine wpAnyL_all (rs := [16]) (by kernel_rfl) (by simp) (fun j hj => ?_)
            obtain rfl := List.mem_singleton.1 hj
            clear hj
            refine wpOpL (by rfl) (fun K hK => ?_)
            go_simp
            refine hK.out _ _ (fun h => absurd h (by decide)) ?_
            clear hK K hHeld
            try simp only [Act.put, List.getElem_toArray, List.getElem_cons_zero, List.getElem_cons_succ, List.setIfInBounds_toArray, List.set_cons_zero, List.set_cons_succ]
            refine wpAnyL_done (by kernel_rfl) ?_ _
            have TF := Lib.hid (TD.out.put hrbB h0R 7 8 (.slice ad4 (i + 1) c4) (.slice ad5 (i + 1) c5))
            have wq : ∀ j, j < i + 1 → withE wt i q j ≤ 1000 := fun j hj => by
              by_cases h : j < i
              · rw [withE_old wt h]; exact HWT.out j h
              · obtain rfl : j = i := by omega
                rw [withE_new]
                omega
            have WQ := Lib.hid wq
            clear wq s7 s8 fz7 fz8 lt5
            go_wp2
            go_roundw
            case rel => exact ⟨i + 1, withE wt i q, ad4, ad5, c4, c5, by omega, by go_num, WQ.out, TF.out.vr, TF.out.o7, TF.out.o8, TF.out.ne, TF.out.bel, TF.out.bs⟩
            case measure => simp [intOf]; omega
          · skip
            refine wpOpL (by rfl) (fun K hK => ?_)
            go_simp
            have TB := Lib.hid (TA.out.lay (below_alloc wA (.cells #[.int .i64 (p : Int)] 3)))
            have VB := Vals.newL wA wA.heap.size [.int .i64 (p : Int)] 3 rfl
            have VAb := VA.mono (below_alloc wA (.cells #[.int .i64 (p : Int)] 3))
            have szB := (below_alloc wA (.cells #[.int .i64 (p : Int)] 3)).size
            have ltB : wA.heap.size < (wA.alloc (.cells #[.int .i64 (p : Int)] 3)).heap.size := VB.lt
            generalize wA.alloc (.cells #[.int .i64 (p : Int)] 3) = wB at *
            have hHeld : S wB := by
              have a := TB.out.vr.cell (i := 7) (by simp)
              have b := TB.out.vr.cell (i := 8) (by simp)
              simp only [List.getD_cons_zero, List.getD_cons_succ] at a b
              exact (HSS.out _).2 ⟨a, b⟩
            refine hK.out _ _ (fun _ _ => hHeld) ?_
            clear hK K
            try simp only [Act.put, List.getElem_toArray, List.getElem_cons_zero, List.getElem_cons_succ, List.setIfInBounds_toArray, List.set_cons_zero, List.set_cons_succ]
            refine wpAnyL_all (rs := [4]) (by kernel_rfl) (by simp) (fun j hj => ?_)
            obtain rfl := List.mem_singleton.1 hj
            clear hj
            refine wpOpL (by rfl) (fun K hK => ?_)
            refine step_append_rv (by rfl) (.tmp 62) (.tmp 64) _ (by rfl) BS 3 _ 1 8 Try.underlying22 info_intC (by rfl) (by decide) _ i (stepsL wt i) (by rfl) TB.out.o7 _ 1 1 [.int .i64 (q : Int)] (by rfl) (rdV_one VAb) (ONE.out _) H63.out (by omega) TB.out.bs (i + 1) rfl _ L7.out ?_
            intro ad4 c4 wC hown4 hg4 hn4 hb4 hk4
            have TC := Lib.hid (TB.out.app7 hrbB h0B hown4 hg4 hb4 hk4)
            have VBc := vals_grown VB hg4 (fun e => by have := O7B.out _ e; omega)
            have szC := hg4.size
            have hHeld : S wC := by
              have a := TC.out.vr.cell (i := 7) (by simp)
              have b := TC.out.vr.cell (i := 8) (by simp)
              simp only [List.getD_cons_zero, List.getD_cons_succ] at a b
              exact (HSS.out _).2 ⟨a, b⟩
            refine hK.out _ _ (fun _ _ => hHeld) ?_
            clear hK K hown4 hg4 hn4 hb4 hk4
            try simp only [Act.put, List.getElem_toArray, List.getElem_cons_zero, List.getElem_cons_succ, List.setIfInBounds_toArray, List.set_cons_zero, List.set_cons_succ]
            refine wpAnyL_pure (i := 13) (v := ?vp12) rfl (by kernel_rfl) (by kernel_rfl) (by kernel_rfl) (fun _ _ _ h => h) (Or.inl ⟨by rfl, ?hyp12⟩) ?_
            case hyp12 => (intro w _; (go_simp) <;> (with_reducible rfl))
            try simp only [Act.put, List.getElem_toArray, List.getElem_cons_zero, List.getElem_cons_succ, List.setIfInBounds_toArray, List.set_cons_zero, List.set_cons_succ]
            refine wpAnyL_all (rs := [12]) (by kernel_rfl) (by simp) (fun j hj => ?_)
            obtain rfl := List.mem_singleton.1 hj
            clear hj
            refine wpOpL (by rfl) (fun K hK => ?_)
            refine step_append_rv (by rfl) (.tmp 67) (.tmp 72) _ (by rfl) BS 3 _ 1 8 Try.underlying22 info_intC (by rfl) (by decide) _ i (stepsL (thW wt) i) (by rfl) TC.out.o8 _ 1 1 [.int .i64 (p : Int)] (by rfl) (rdV_one VBc) (ONE.out _) H63.out (by omega) TC.out.bs (i + 1) rfl _ L8.out ?_
            intro ad5 c5 wE hown5 hg5 hn5 hb5 hk5
            have TE := Lib.hid (TC.out.app8 hrbB h0B hown5 hg5 hb5 hk5)
            have hHeld : S wE := by
              have a := TE.out.vr.cell (i := 7) (by simp)
              have b := TE.out.vr.cell (i := 8) (by simp)
              simp only [List.getD_cons_zero, List.getD_cons_succ] at a b
              exact (HSS.out _).2 ⟨a, b⟩
            refine hK.out _ _ (fun _ _ => hHeld) ?_
            clear hK K hown5 hg5 hn5 hb5 hk5
            try simp only [Act.put, List.getElem_toArray, List.getElem_cons_zero, List.getElem_cons_succ, List.setIfInBounds_toArray, List.set_cons_zero, List.set_cons_succ]
            refine wpAnyL_all (rs := [14]) (by kernel_rfl) (by simp) (fun j hj => ?_)
            obtain rfl := List.mem_singleton.1 hj
            clear hj
            have s7 := TE.out.vr.cell (i := 7) (by simp)
            have s8 := TE.out.vr.cell (i := 8) (by simp)
            simp only [List.getD_cons_zero, List.getD_cons_succ] at s7 s8
            have fz7 := TE.out.vr.frozen 7
            have fz8 := TE.out.vr.frozen 8
            have lt5 := TE.out.vr.lt
            refine wpOpL (by rfl) (fun K hK => ?_)
            go_simp
            refine hK.out _ _ (fun h => absurd h (by decide)) ?_
            clear hK K
            try simp only [Act.put, List.getElem_toArray, List.getElem_cons_zero, List.getElem_cons_succ, List.setIfInBounds_toArray, List.set_cons_zero, List.set_cons_succ]
            refine wpAnyL_pure (i := 15) (v := ?vp13) rfl (by kernel_rfl) (by kernel_rfl) (by kernel_rfl) (fun _ _ _ h => h) (Or.inl ⟨by rfl, ?hyp13⟩) ?_
            case hyp13 => (intro w _; (go_simp) <;> (with_reducible rfl))
            try simp only [Act.put, List.getElem_toArray, List.getElem_cons_zero, List.getElem_cons_succ, List.setIfInBounds_toArray, List.set_cons_zero, List.set_cons_succ]
            refine wpAnyL_all (rs := [16]) (by kernel_rfl) (by simp) (fun j hj => ?_)
            obtain rfl := List.mem_singleton.1 hj
            clear hj
            refine wpOpL (by rfl) (fun K hK => ?_)
            go_simp
            refine hK.out _ _ (fun h => absurd h (by decide)) ?_
            clear hK K hHeld
            try simp only [Act.put, List.getElem_toArray, List.getElem_cons_zero, List.getElem_cons_succ, List.setIfInBounds_toArray, List.set_cons_zero, List.set_cons_succ]
            refine wpAnyL_done (by kernel_rfl) ?_ _
            have TF := Lib.hid (TE.out.put hrbB h0R 7 8 (.slice ad4 (i + 1) c4) (.slice ad5 (i + 1) c5))
            have wq : ∀ j, j < i + 1 → withE wt i q j ≤ 1000 := fun j hj => by
              by_cases h : j < i
              · rw [withE_old wt h]; exact HWT.out j h
              · obtain rfl : j = i := by omega
                rw [withE_new]
                omega
            have WQ := Lib.hid wq
            clear wq s7 s8 fz7 fz8 lt5
            go_wp2
            go_roundw
            case rel => exact ⟨i + 1, withE wt i q, ad4, ad5, c4, c5, by omega, by go_num, WQ.out, TF.out.vr, TF.out.o7, TF.out.o8, TF.out.ne, TF.out.bel, TF.out.bs⟩
            case measure => simp [intOf]; omega
        · skip
          refine wpOpL (by rfl) (fun K hK => ?_)
          go_simp
          have TA := Lib.hid (TD.out.lay (below_alloc wd (.cells #[.int .i64 (p : Int)] 3)))
          have VA := Vals.newL wd wd.heap.size [.int .i64 (p : Int)] 3 rfl
          have szA := (below_alloc wd (.cells #[.int .i64 (p : Int)] 3)).size
          have ltA : wd.heap.size < (wd.alloc (.cells #[.int .i64 (p : Int)] 3)).heap.size := VA.lt
          generalize wd.alloc (.cells #[.int .i64 (p : Int)] 3) = wA at *
          have hHeld : S wA := by
            have a := TA.out.vr.cell (i := 7) (by simp)
            have b := TA.out.vr.cell (i := 8) (by simp)
            simp only [List.getD_cons_zero, List.getD_cons_succ] at a b
            exact (HSS.out _).2 ⟨a, b⟩
          refine hK.out _ _ (fun _ _ => hHeld) ?_
          clear hK K
          try simp only [Act.put, List.getElem_toArray, List.getElem_cons_zero, List.getElem_cons_succ, List.setIfInBounds_toArray, List.set_cons_zero, List.set_cons_succ]
          refine wpAnyL_all (rs := [3]) (by kernel_rfl) (by simp) (fun j hj => ?_)
          obtain rfl := List.mem_singleton.1 hj
          clear hj
          refine wpOpL (by rfl) (fun K hK => ?_)
          go_simp
          have TB := Lib.hid (TA.out.lay (below_alloc wA (.cells #[.int .i64 (q : Int)] 3)))
          have VB := Vals.newL wA wA.heap.size [.int .i64 (q : Int)] 3 rfl
          have VAb := VA.mono (below_alloc wA (.cells #[.int .i64 (q : Int)] 3))
          have szB := (below_alloc wA (.cells #[.int .i64 (q : Int)] 3)).size
          have ltB : wA.heap.size < (wA.alloc (.cells #[.int .i64 (q : Int)] 3)).heap.size := VB.lt
          generalize wA.alloc (.cells #[.int .i64 (q : Int)] 3) = wB at *
          have hHeld : S wB := by
            have a := TB.out.vr.cell (i := 7) (by simp)
            have b := TB.out.vr.cell (i := 8) (by simp)
            simp only [List.getD_cons_zero, List.getD_cons_succ] at a b
            exact (HSS.out _).2 ⟨a, b⟩
          refine hK.out _ _ (fun _ _ => hHeld) ?_
          clear hK K
          try simp only [Act.put, List.getElem_toArray, List.getElem_cons_zero, List.getElem_cons_succ, List.setIfInBounds_toArray, List.set_cons_zero, List.set_cons_succ]
          refine wpAnyL_all (rs := [4]) (by kernel_rfl) (by simp) (fun j hj => ?_)
          obtain rfl := List.mem_singleton.1 hj
          clear hj
          refine wpOpL (by rfl) (fun K hK => ?_)
          refine step_append_rv (by rfl) (.tmp 62) (.tmp 64) _ (by rfl) BS 3 _ 1 8 Try.underlying22 info_intC (by rfl) (by decide) _ i (stepsL wt i) (by rfl) TB.out.o7 _ 1 1 [.int .i64 (q : Int)] (by rfl) (rdV_one VB) (ONE.out _) H63.out (by omega) TB.out.bs (i + 1) rfl _ L7.out ?_
          intro ad4 c4 wC hown4 hg4 hn4 hb4 hk4
          have TC := Lib.hid (TB.out.app7 hrbB h0B hown4 hg4 hb4 hk4)
          have VAbc := vals_grown VAb hg4 (fun e => by have := O7B.out _ e; omega)
          have szC := hg4.size
          have hHeld : S wC := by
            have a := TC.out.vr.cell (i := 7) (by simp)
            have b := TC.out.vr.cell (i := 8) (by simp)
            simp only [List.getD_cons_zero, List.getD_cons_succ] at a b
            exact (HSS.out _).2 ⟨a, b⟩
          refine hK.out _ _ (fun _ _ => hHeld) ?_
          clear hK K hown4 hg4 hn4 hb4 hk4
          try simp only [Act.put, List.getElem_toArray, List.getElem_cons_zero, List.getElem_cons_succ, List.setIfInBounds_toArray, List.set_cons_zero, List.set_cons_succ]
          refine wpAnyL_pure (i := 13) (v := ?vp14) rfl (by kernel_rfl) (by kernel_rfl) (by kernel_rfl) (fun _ _ _ h => h) (Or.inl ⟨by rfl, ?hyp14⟩) ?_
          case hyp14 => (intro w _; (go_simp) <;> (with_reducible rfl))
          try simp only [Act.put, List.getElem_toArray, List.getElem_cons_zero, List.getElem_cons_succ, List.setIfInBounds_toArray, List.set_cons_zero, List.set_cons_succ]
          refine wpAnyL_all (rs := [12]) (by kernel_rfl) (by simp) (fun j hj => ?_)
          obtain rfl := List.mem_singleton.1 hj
          clear hj
          refine wpOpL (by rfl) (fun K hK => ?_)
          refine step_append_rv (by rfl) (.tmp 67) (.tmp 72) _ (by rfl) BS 3 _ 1 8 Try.underlying22 info_intC (by rfl) (by decide) _ i (stepsL (thW wt) i) (by rfl) TC.out.o8 _ 1 1 [.int .i64 (p : Int)] (by rfl) (rdV_one VAbc) (ONE.out _) H63.out (by omega) TC.out.bs (i + 1) rfl _ L8.out ?_
          intro ad5 c5 wE hown5 hg5 hn5 hb5 hk5
          have TE := Lib.hid (TC.out.app8 hrbB h0B hown5 hg5 hb5 hk5)
          have hHeld : S wE := by
            have a := TE.out.vr.cell (i := 7) (by simp)
            have b := TE.out.vr.cell (i := 8) (by simp)
            simp only [List.getD_cons_zero, List.getD_cons_succ] at a b
            exact (HSS.out _).2 ⟨a, b⟩
          refine hK.out _ _ (fun _ _ => hHeld) ?_
          clear hK K hown5 hg5 hn5 hb5 hk5
          try simp only [Act.put, List.getElem_toArray, List.getElem_cons_zero, List.getElem_cons_succ, List.setIfInBounds_toArray, List.set_cons_zero, List.set_cons_succ]
          refine wpAnyL_all (rs := [14]) (by kernel_rfl) (by simp) (fun j hj => ?_)
          obtain rfl := List.mem_singleton.1 hj
          clear hj
          have s7 := TE.out.vr.cell (i := 7) (by simp)
          have s8 := TE.out.vr.cell (i := 8) (by simp)
          simp only [List.getD_cons_zero, List.getD_cons_succ] at s7 s8
          have fz7 := TE.out.vr.frozen 7
          have fz8 := TE.out.vr.frozen 8
          have lt5 := TE.out.vr.lt
          refine wpOpL (by rfl) (fun K hK => ?_)
          go_simp
          refine hK.out _ _ (fun h => absurd h (by decide)) ?_
          clear hK K
          try simp only [Act.put, List.getElem_toArray, List.getElem_cons_zero, List.getElem_cons_succ, List.setIfInBounds_toArray, List.set_cons_zero, List.set_cons_succ]
          refine wpAnyL_pure (i := 15) (v := ?vp15) rfl (by kernel_rfl) (by kernel_rfl) (by kernel_rfl) (fun _ _ _ h => h) (Or.inl ⟨by rfl, ?hyp15⟩) ?_
          case hyp15 => (intro w _; (go_simp) <;> (with_reducible rfl))
          try simp only [Act.put, List.getElem_toArray, List.getElem_cons_zero, List.getElem_cons_succ, List.setIfInBounds_toArray, List.set_cons_zero, List.set_cons_succ]
          refine wpAnyL_all (rs := [16]) (by kernel_rfl) (by simp) (fun j hj => ?_)
          obtain rfl := List.mem_singleton.1 hj
          clear hj
          refine wpOpL (by rfl) (fun K hK => ?_)
          go_simp
          refine hK.out _ _ (fun h => absurd h (by decide)) ?_
          clear hK K hHeld
          try simp only [Act.put, List.getElem_toArray, List.getElem_cons_zero, List.getElem_cons_succ, List.setIfInBounds_toArray, List.set_cons_zero, List.set_cons_succ]
          refine wpAnyL_done (by kernel_rfl) ?_ _
          have TF := Lib.hid (TE.out.put hrbB h0R 7 8 (.slice ad4 (i + 1) c4) (.slice ad5 (i + 1) c5))
          have wq : ∀ j, j < i + 1 → withE wt i q j ≤ 1000 := fun j hj => by
            by_cases h : j < i
            · rw [withE_old wt h]; exact HWT.out j h
            · obtain rfl : j = i := by omega
              rw [withE_new]
              omega
          have WQ := Lib.hid wq
          clear wq s7 s8 fz7 fz8 lt5
          go_wp2
          go_roundw
          case rel => exact ⟨i + 1, withE wt i q, ad4, ad5, c4, c5, by omega, by go_num, WQ.out, TF.out.vr, TF.out.o7, TF.out.o8, TF.out.ne, TF.out.bel, TF.out.bs⟩
          case measure => simp [intOf]; omega
        
      · have t2 : ¬ (i : Int) < (wl : Int) := by omega
        clear B hBs
        go_upto_region 9 with (fail)
        obtain ⟨vr, o7, o8, hne, B, hBs, hwt⟩ := HV.out
        obtain ⟨p, hp⟩ : ∃ p, (1 + i) % 7 = p := ⟨_, rfl⟩
        have HP := Lib.hid hp
        have qb : (1 + (i : Int)).tmod 7 = (p : Int) := by rw [← hp]; exact tmod_nat (1 + i) 7
        have qb' : (1 + (i : Int)) % 7 = (p : Int) := by omega
        have qa : IntKind.i64.wrap (1 + (i : Int)) = 1 + (i : Int) := IntWalk.i64_in _ (by omega)
        have hp7 : p ≤ 6 := by omega
        have r7 := vr.cell (i := 7) (by simp)
        have r8 := vr.cell (i := 8) (by simp)
        simp only [List.getD_cons_zero, List.getD_cons_succ] at r7 r8
        have hlr := vr.lt
        have L7 := Lib.hid (show stepsL (withE wt i 1) (i + 1) = stepsL wt i ++ [.int .i64 1] by rw [stepsL_succ, stepsL_congr i (fun j hj => withE_old wt hj), withE_new] <;> rfl)
        have L8 := Lib.hid (show stepsL (thW (withE wt i 1)) (i + 1) = stepsL (thW wt) i ++ [.int .i64 (p : Int)] by
          rw [stepsL_succ, stepsL_congr (e := thW wt) i (fun j hj => by unfold thW; rw [withE_old wt hj]), show thW (withE wt i 1) i = p by unfold thW; rw [withE_new]; exact HP.out])
        have T0 : TwoR w wr rb BS [.int .i64 12, .int .i64 (sp : Int), .int .i64 (k2 : Int), .int .i64 ((k2 : Int) + 2), .int .i64 (tot : Int), .int .i64 (k5 : Int), .int .i64 (wo : Int), .slice x7 i c7, .slice x8 i c8] (.slice x7 i c7) i (stepsL wt i) (.slice x8 i c8) i (stepsL (thW wt) i) := ⟨vr, o7, o8, hne, B, hBs⟩
        have TD := Lib.hid (T0.lay ((Below.refl _ _).drew))
        have h0B : w.heap.size ≤ BS := by have := HRB.out; omega
        have h0R : w.heap.size ≤ rb := by have := HRB.out; omega
        have one : ∀ z : Int, ∀ u ∈ [Value.int .i64 z], u.oneCell' = true := by
          intro z u hu
          rw [List.mem_singleton.1 hu]
          rfl
        have h63 : i + 1 ≤ maxLen := by unfold maxLen; omega
        have ONE := Lib.hid one
        have H63 := Lib.hid h63
        have HWT := Lib.hid hwt
        have s7 : wr.drew.cell? ⟨rb, 7, none⟩ = some (.slice x7 i c7) := r7
        have s8 : wr.drew.cell? ⟨rb, 8, none⟩ = some (.slice x8 i c8) := r8
        have O7B := Lib.hid (show ∀ b, (Value.slice x7 i c7).ownBlock = some b → b < wr.drew.heap.size from fun b h => (ownsRow_block o7 b h).2)
        clear T0 vr o7 o8 hne B hBs one h63 hlr r7 r8 hwt
        obtain ⟨S, hS⟩ : ∃ S : World → Prop, ∀ w', S w' ↔ (w'.cell? ⟨rb, 7, none⟩ = some (.slice x7 i c7) ∧ w'.cell? ⟨rb, 8, none⟩ = some (.slice x8 i c8)) := ⟨_, fun _ => Iff.rfl⟩
        have HSS := Lib.hid hS
        refine wp_region_L (S := S) (lx := [14, 16]) (by kernel_rfl) ((hS _).2 ⟨s7, s8⟩) (fun hHeld => ?_)
        clear hS
        clear s7 s8
        generalize wr.drew = wd at *
        refine wpAnyL_pure (i := 0) (v := ?vp16) rfl (by kernel_rfl) (by kernel_rfl) (by kernel_rfl) (fun _ _ _ h => h) (Or.inl ⟨by rfl, ?hyp16⟩) ?_
        case hyp16 => (intro w _; (go_simp) <;> (with_reducible rfl))
        try simp only [Act.put, List.getElem_toArray, List.getElem_cons_zero, List.getElem_cons_succ, List.setIfInBounds_toArray, List.set_cons_zero, List.set_cons_succ]
        refine wpAnyL_take (i := 1) (v := ?vp17) rfl (by kernel_rfl) (by kernel_rfl) (by kernel_rfl) (by kernel_rfl) (fun _ _ _ h => h) (Or.inl ⟨by rfl, ?hyp17⟩) (by assumption) ?_
        case hyp17 => (intro w hSw; replace hSw := (HSS.out w).1 hSw; (go_simp) <;> (with_reducible rfl))
        try simp only [Act.put, List.getElem_toArray, List.getElem_cons_zero, List.getElem_cons_succ, List.setIfInBounds_toArray, List.set_cons_zero, List.set_cons_succ]
        refine wpAnyL_pure (i := 2) (v := ?vp18) rfl (by kernel_rfl) (by kernel_rfl) (by kernel_rfl) (fun _ _ _ h => h) (Or.inl ⟨by rfl, ?hyp18⟩) ?_
        case hyp18 => (intro w _; (go_simp) <;> (with_reducible rfl))
        try simp only [Act.put, List.getElem_toArray, List.getElem_cons_zero, List.getElem_cons_succ, List.setIfInBounds_toArray, List.set_cons_zero, List.set_cons_succ]
        refine wpAnyL_pure (i := 5) (v := ?vp19) rfl (by kernel_rfl) (by kernel_rfl) (by kernel_rfl) (fun _ _ _ h => h) (Or.inl ⟨by rfl, ?hyp19⟩) ?_
        case hyp19 => (intro w _; (go_simp) <;> (with_reducible rfl))
        try simp only [Act.put, List.getElem_toArray, List.getElem_cons_zero, List.getElem_cons_succ, List.setIfInBounds_toArray, List.set_cons_zero, List.set_cons_succ]
        refine wpAnyL_take (i := 6) (v := ?vp20) rfl (by kernel_rfl) (by kernel_rfl) (by kernel_rfl) (by kernel_rfl) (fun _ _ _ h => h) (Or.inl ⟨by rfl, ?hyp20⟩) (by assumption) ?_
        case hyp20 => (intro w hSw; replace hSw := (HSS.out w).1 hSw; (go_simp) <;> (with_reducible rfl))
        try simp only [Act.put, List.getElem_toArray, List.getElem_cons_zero, List.getElem_cons_succ, List.setIfInBounds_toArray, List.set_cons_zero, List.set_cons_succ]
        refine wpAnyL_pure (i := 7) (v := ?vp21) rfl (by kernel_rfl) (by kernel_rfl) (by kernel_rfl) (fun _ _ _ h => h) (Or.inl ⟨by rfl, ?hyp21⟩) ?_
        case hyp21 => (intro w _; (go_simp) <;> (with_reducible rfl))
        try simp only [Act.put, List.getElem_toArray, List.getElem_cons_zero, List.getElem_cons_succ, List.setIfInBounds_toArray, List.set_cons_zero, List.set_cons_succ]
        refine wpAnyL_pure (i := 8) (v := ?vp22) rfl (by kernel_rfl) (by kernel_rfl) (by kernel_rfl) (fun _ _ _ h => h) (Or.inl ⟨by rfl, ?hyp22⟩) ?_
        case hyp22 => (intro w _; (go_simp) <;> (with_reducible rfl))
        try simp only [Act.put, List.getElem_toArray, List.getElem_cons_zero, List.getElem_cons_succ, List.setIfInBounds_toArray, List.set_cons_zero, List.set_cons_succ]
        refine wpAnyL_pure (i := 9) (v := ?vp23) rfl (by kernel_rfl) (by kernel_rfl) (by kernel_rfl) (fun _ _ _ h => h) (Or.inl ⟨by rfl, ?hyp23⟩) ?_
        case hyp23 => (intro w _; (go_simp) <;> (with_reducible rfl))
        try simp only [Act.put, List.getElem_toArray, List.getElem_cons_zero, List.getElem_cons_succ, List.setIfInBounds_toArray, List.set_cons_zero, List.set_cons_succ]
        refine wpAnyL_pure (i := 10) (v := ?vp24) rfl (by kernel_rfl) (by kernel_rfl) (by kernel_rfl) (fun _ _ _ h => h) (Or.inl ⟨by rfl, ?hyp24⟩) ?_
        case hyp24 => (intro w _; (go_simp) <;> (with_reducible rfl))
        try simp only [Act.put, List.getElem_toArray, List.getElem_cons_zero, List.getElem_cons_succ, List.setIfInBounds_toArray, List.set_cons_zero, List.set_cons_succ]
        refine wpAnyL_all (rs := [3, 11]) (by kernel_rfl) (by simp) (fun j hj => ?_)
        simp only [List.mem_cons, List.not_mem_nil, or_false] at hj
        rcases hj with rfl | rfl
        · skip
          refine wpOpL (by rfl) (fun K hK => ?_)
          go_simp
          have TA := Lib.hid (TD.out.lay (below_alloc wd (.cells #[.int .i64 1] 3)))
          have VA := Vals.newL wd wd.heap.size [.int .i64 1] 3 rfl
          have szA := (below_alloc wd (.cells #[.int .i64 1] 3)).size
          have ltA : wd.heap.size < (wd.alloc (.cells #[.int .i64 1] 3)).heap.size := VA.lt
          generalize wd.alloc (.cells #[.int .i64 1] 3) = wA at *
          have hHeld : S wA := by
            have a := TA.out.vr.cell (i := 7) (by simp)
            have b := TA.out.vr.cell (i := 8) (by simp)
            simp only [List.getD_cons_zero, List.getD_cons_succ] at a b
            exact (HSS.out _).2 ⟨a, b⟩
          refine hK.out _ _ (fun _ _ => hHeld) ?_
          clear hK K
          try simp only [Act.put, List.getElem_toArray, List.getElem_cons_zero, List.getElem_cons_succ, List.setIfInBounds_toArray, List.set_cons_zero, List.set_cons_succ]
          refine wpAnyL_all (rs := [4, 11]) (by kernel_rfl) (by simp) (fun j hj => ?_)
          simp only [List.mem_cons, List.not_mem_nil, or_false] at hj
          rcases hj with rfl | rfl
          · skip
            refine wpOpL (by rfl) (fun K hK => ?_)
            refine step_append_rv (by rfl) (.tmp 62) (.tmp 64) _ (by rfl) BS 3 _ 1 8 Try.underlying22 info_intC (by rfl) (by decide) _ i (stepsL wt i) (by rfl) TA.out.o7 _ 1 1 [.int .i64 1] (by rfl) (rdV_one VA) (ONE.out _) H63.out (by omega) TA.out.bs (i + 1) rfl _ L7.out ?_
            intro ad4 c4 wB hown4 hg4 hn4 hb4 hk4
            have TB := Lib.hid (TA.out.app7 hrbB h0B hown4 hg4 hb4 hk4)
            have szB := hg4.size
            have hHeld : S wB := by
              have a := TB.out.vr.cell (i := 7) (by simp)
              have b := TB.out.vr.cell (i := 8) (by simp)
              simp only [List.getD_cons_zero, List.getD_cons_succ] at a b
              exact (HSS.out _).2 ⟨a, b⟩
            refine hK.out _ _ (fun _ _ => hHeld) ?_
            clear hK K hown4 hg4 hn4 hb4 hk4
            try simp only [Act.put, List.getElem_toArray, List.getElem_cons_zero, List.getElem_cons_succ, List.setIfInBounds_toArray, List.set_cons_zero, List.set_cons_succ]
            refine wpAnyL_pure (i := 13) (v := ?vp25) rfl (by kernel_rfl) (by kernel_rfl) (by kernel_rfl) (fun _ _ _ h => h) (Or.inl ⟨by rfl, ?hyp25⟩) ?_
            case hyp25 => (intro w _; (go_simp) <;> (with_reducible rfl))
            try simp only [Act.put, List.getElem_toArray, List.getElem_cons_zero, List.getElem_cons_succ, List.setIfInBounds_toArray, List.set_cons_zero, List.set_cons_succ]
            refine wpAnyL_all (rs := [11]) (by kernel_rfl) (by simp) (fun j hj => ?_)
            obtain rfl := List.mem_singleton.1 hj
            clear hj
            refine wpOpL (by rfl) (fun K hK => ?_)
            go_simp
            have TC := Lib.hid (TB.out.lay (below_alloc wB (.cells #[.int .i64 (p : Int)] 3)))
            have VC := Vals.newL wB wB.heap.size [.int .i64 (p : Int)] 3 rfl
            have szC := (below_alloc wB (.cells #[.int .i64 (p : Int)] 3)).size
            have ltC : wB.heap.size < (wB.alloc (.cells #[.int .i64 (p : Int)] 3)).heap.size := VC.lt
            generalize wB.alloc (.cells #[.int .i64 (p : Int)] 3) = wC at *
            have hHeld : S wC := by
              have a := TC.out.vr.cell (i := 7) (by simp)
              have b := TC.out.vr.cell (i := 8) (by simp)
              simp only [List.getD_cons_zero, List.getD_cons_succ] at a b
              exact (HSS.out _).2 ⟨a, b⟩
            refine hK.out _ _ (fun _ _ => hHeld) ?_
            clear hK K
            try simp only [Act.put, List.getElem_toArray, List.getElem_cons_zero, List.getElem_cons_succ, List.setIfInBounds_toArray, List.set_cons_zero, List.set_cons_succ]
            refine wpAnyL_all (rs := [12]) (by kernel_rfl) (by simp) (fun j hj => ?_)
            obtain rfl := List.mem_singleton.1 hj
            clear hj
            refine wpOpL (by rfl) (fun K hK => ?_)
            refine step_append_rv (by rfl) (.tmp 67) (.tmp 72) _ (by rfl) BS 3 _ 1 8 Try.underlying22 info_intC (by rfl) (by decide) _ i (stepsL (thW wt) i) (by rfl) TC.out.o8 _ 1 1 [.int .i64 (p : Int)] (by rfl) (rdV_one VC) (ONE.out _) H63.out (by omega) TC.out.bs (i + 1) rfl _ L8.out ?_
            intro ad5 c5 wD hown5 hg5 hn5 hb5 hk5
            have TD := Lib.hid (TC.out.app8 hrbB h0B hown5 hg5 hb5 hk5)
            have hHeld : S wD := by
              have a := TD.out.vr.cell (i := 7) (by simp)
              have b := TD.out.vr.cell (i := 8) (by simp)
              simp only [List.getD_cons_zero, List.getD_cons_succ] at a b
              exact (HSS.out _).2 ⟨a, b⟩
            refine hK.out _ _ (fun _ _ => hHeld) ?_
            clear hK K hown5 hg5 hn5 hb5 hk5
            try simp only [Act.put, List.getElem_toArray, List.getElem_cons_zero, List.getElem_cons_succ, List.setIfInBounds_toArray, List.set_cons_zero, List.set_cons_succ]
            refine wpAnyL_all (rs := [14]) (by kernel_rfl) (by simp) (fun j hj => ?_)
            obtain rfl := List.mem_singleton.1 hj
            clear hj
            have s7 := TD.out.vr.cell (i := 7) (by simp)
            have s8 := TD.out.vr.cell (i := 8) (by simp)
            simp only [List.getD_cons_zero, List.getD_cons_succ] at s7 s8
            have fz7 := TD.out.vr.frozen 7
            have fz8 := TD.out.vr.frozen 8
            have lt5 := TD.out.vr.lt
            refine wpOpL (by rfl) (fun K hK => ?_)
            go_simp
            refine hK.out _ _ (fun h => absurd h (by decide)) ?_
            clear hK K
            try simp only [Act.put, List.getElem_toArray, List.getElem_cons_zero, List.getElem_cons_succ, List.setIfInBounds_toArray, List.set_cons_zero, List.set_cons_succ]
            refine wpAnyL_pure (i := 15) (v := ?vp26) rfl (by kernel_rfl) (by kernel_rfl) (by kernel_rfl) (fun _ _ _ h => h) (Or.inl ⟨by rfl, ?hyp26⟩) ?_
            case hyp26 => (intro w _; (go_simp) <;> (with_reducible rfl))
            try simp only [Act.put, List.getElem_toArray, List.getElem_cons_zero, List.getElem_cons_succ, List.setIfInBounds_toArray, List.set_cons_zero, List.set_cons_succ]
            refine wpAnyL_all (rs := [16]) (by kernel_rfl) (by simp) (fun j hj => ?_)
            obtain rfl := List.mem_singleton.1 hj
            clear hj
            refine wpOpL (by rfl) (fun K hK => ?_)
            go_simp
            refine hK.out _ _ (fun h => absurd h (by decide)) ?_
            clear hK K hHeld
            try simp only [Act.put, List.getElem_toArray, List.getElem_cons_zero, List.getElem_cons_succ, List.setIfInBounds_toArray, List.set_cons_zero, List.set_cons_succ]
            refine wpAnyL_done (by kernel_rfl) ?_ _
            have TF := Lib.hid (TD.out.put hrbB h0R 7 8 (.slice ad4 (i + 1) c4) (.slice ad5 (i + 1) c5))
            have wq : ∀ j, j < i + 1 → withE wt i 1 j ≤ 1000 := fun j hj => by
              by_cases h : j < i
              · rw [withE_old wt h]; exact HWT.out j h
              · obtain rfl : j = i := by omega
                rw [withE_new]
                omega
            have WQ := Lib.hid wq
            clear wq s7 s8 fz7 fz8 lt5
            go_wp2
            go_roundw
            case rel => exact ⟨i + 1, withE wt i 1, ad4, ad5, c4, c5, by omega, by go_num, WQ.out, TF.out.vr, TF.out.o7, TF.out.o8, TF.out.ne, TF.out.bel, TF.out.bs⟩
            case measure => simp [intOf]; omega
          · skip
            refine wpOpL (by rfl) (fun K hK => ?_)
            go_simp
            have TB := Lib.hid (TA.out.lay (below_alloc wA (.cells #[.int .i64 (p : Int)] 3)))
            have VB := Vals.newL wA wA.heap.size [.int .i64 (p : Int)] 3 rfl
            have VAb := VA.mono (below_alloc wA (.cells #[.int .i64 (p : Int)] 3))
            have szB := (below_alloc wA (.cells #[.int .i64 (p : Int)] 3)).size
            have ltB : wA.heap.size < (wA.alloc (.cells #[.int .i64 (p : Int)] 3)).heap.size := VB.lt
            generalize wA.alloc (.cells #[.int .i64 (p : Int)] 3) = wB at *
            have hHeld : S wB := by
              have a := TB.out.vr.cell (i := 7) (by simp)
              have b := TB.out.vr.cell (i := 8) (by simp)
              simp only [List.getD_cons_zero, List.getD_cons_succ] at a b
              exact (HSS.out _).2 ⟨a, b⟩
            refine hK.out _ _ (fun _ _ => hHeld) ?_
            clear hK K
            try simp only [Act.put, List.getElem_toArray, List.getElem_cons_zero, List.getElem_cons_succ, List.setIfInBounds_toArray, List.set_cons_zero, List.set_cons_succ]
            refine wpAnyL_all (rs := [4]) (by kernel_rfl) (by simp) (fun j hj => ?_)
            obtain rfl := List.mem_singleton.1 hj
            clear hj
            refine wpOpL (by rfl) (fun K hK => ?_)
            refine step_append_rv (by rfl) (.tmp 62) (.tmp 64) _ (by rfl) BS 3 _ 1 8 Try.underlying22 info_intC (by rfl) (by decide) _ i (stepsL wt i) (by rfl) TB.out.o7 _ 1 1 [.int .i64 1] (by rfl) (rdV_one VAb) (ONE.out _) H63.out (by omega) TB.out.bs (i + 1) rfl _ L7.out ?_
            intro ad4 c4 wC hown4 hg4 hn4 hb4 hk4
            have TC := Lib.hid (TB.out.app7 hrbB h0B hown4 hg4 hb4 hk4)
            have VBc := vals_grown VB hg4 (fun e => by have := O7B.out _ e; omega)
            have szC := hg4.size
            have hHeld : S wC := by
              have a := TC.out.vr.cell (i := 7) (by simp)
              have b := TC.out.vr.cell (i := 8) (by simp)
              simp only [List.getD_cons_zero, List.getD_cons_succ] at a b
              exact (HSS.out _).2 ⟨a, b⟩
            refine hK.out _ _ (fun _ _ => hHeld) ?_
            clear hK K hown4 hg4 hn4 hb4 hk4
            try simp only [Act.put, List.getElem_toArray, List.getElem_cons_zero, List.getElem_cons_succ, List.setIfInBounds_toArray, List.set_cons_zero, List.set_cons_succ]
            refine wpAnyL_pure (i := 13) (v := ?vp27) rfl (by kernel_rfl) (by kernel_rfl) (by kernel_rfl) (fun _ _ _ h => h) (Or.inl ⟨by rfl, ?hyp27⟩) ?_
            case hyp27 => (intro w _; (go_simp) <;> (with_reducible rfl))
            try simp only [Act.put, List.getElem_toArray, List.getElem_cons_zero, List.getElem_cons_succ, List.setIfInBounds_toArray, List.set_cons_zero, List.set_cons_succ]
            refine wpAnyL_all (rs := [12]) (by kernel_rfl) (by simp) (fun j hj => ?_)
            obtain rfl := List.mem_singleton.1 hj
            clear hj
            refine wpOpL (by rfl) (fun K hK => ?_)
            refine step_append_rv (by rfl) (.tmp 67) (.tmp 72) _ (by rfl) BS 3 _ 1 8 Try.underlying22 info_intC (by rfl) (by decide) _ i (stepsL (thW wt) i) (by rfl) TC.out.o8 _ 1 1 [.int .i64 (p : Int)] (by rfl) (rdV_one VBc) (ONE.out _) H63.out (by omega) TC.out.bs (i + 1) rfl _ L8.out ?_
            intro ad5 c5 wE hown5 hg5 hn5 hb5 hk5
            have TE := Lib.hid (TC.out.app8 hrbB h0B hown5 hg5 hb5 hk5)
            have hHeld : S wE := by
              have a := TE.out.vr.cell (i := 7) (by simp)
              have b := TE.out.vr.cell (i := 8) (by simp)
              simp only [List.getD_cons_zero, List.getD_cons_succ] at a b
              exact (HSS.out _).2 ⟨a, b⟩
            refine hK.out _ _ (fun _ _ => hHeld) ?_
            clear hK K hown5 hg5 hn5 hb5 hk5
            try simp only [Act.put, List.getElem_toArray, List.getElem_cons_zero, List.getElem_cons_succ, List.setIfInBounds_toArray, List.set_cons_zero, List.set_cons_succ]
            refine wpAnyL_all (rs := [14]) (by kernel_rfl) (by simp) (fun j hj => ?_)
            obtain rfl := List.mem_singleton.1 hj
            clear hj
            have s7 := TE.out.vr.cell (i := 7) (by simp)
            have s8 := TE.out.vr.cell (i := 8) (by simp)
            simp only [List.getD_cons_zero, List.getD_cons_succ] at s7 s8
            have fz7 := TE.out.vr.frozen 7
            have fz8 := TE.out.vr.frozen 8
            have lt5 := TE.out.vr.lt
            refine wpOpL (by rfl) (fun K hK => ?_)
            go_simp
            refine hK.out _ _ (fun h => absurd h (by decide)) ?_
            clear hK K
            try simp only [Act.put, List.getElem_toArray, List.getElem_cons_zero, List.getElem_cons_succ, List.setIfInBounds_toArray, List.set_cons_zero, List.set_cons_succ]
            refine wpAnyL_pure (i := 15) (v := ?vp28) rfl (by kernel_rfl) (by kernel_rfl) (by kernel_rfl) (fun _ _ _ h => h) (Or.inl ⟨by rfl, ?hyp28⟩) ?_
            case hyp28 => (intro w _; (go_simp) <;> (with_reducible rfl))
            try simp only [Act.put, List.getElem_toArray, List.getElem_cons_zero, List.getElem_cons_succ, List.setIfInBounds_toArray, List.set_cons_zero, List.set_cons_succ]
            refine wpAnyL_all (rs := [16]) (by kernel_rfl) (by simp) (fun j hj => ?_)
            obtain rfl := List.mem_singleton.1 hj
            clear hj
            refine wpOpL (by rfl) (fun K hK => ?_)
            go_simp
            refine hK.out _ _ (fun h => absurd h (by decide)) ?_
            clear hK K hHeld
            try simp only [Act.put, List.getElem_toArray, List.getElem_cons_zero, List.getElem_cons_succ, List.setIfInBounds_toArray, List.set_cons_zero, List.set_cons_succ]
            refine wpAnyL_done (by kernel_rfl) ?_ _
            have TF := Lib.hid (TE.out.put hrbB h0R 7 8 (.slice ad4 (i + 1) c4) (.slice ad5 (i + 1) c5))
            have wq : ∀ j, j < i + 1 → withE wt i 1 j ≤ 1000 := fun j hj => by
              by_cases h : j < i
              · rw [withE_old wt h]; exact HWT.out j h
              · obtain rfl : j = i := by omega
                rw [withE_new]
                omega
            have WQ := Lib.hid wq
            clear wq s7 s8 fz7 fz8 lt5
            go_wp2
            go_roundw
            case rel => exact ⟨i + 1, withE wt i 1, ad4, ad5, c4, c5, by omega, by go_num, WQ.out, TF.out.vr, TF.out.o7, TF.out.o8, TF.out.ne, TF.out.bel, TF.out.bs⟩
            case measure => simp [intOf]; omega
        · skip
          refine wpOpL (by rfl) (fun K hK => ?_)
          go_simp
          have TA := Lib.hid (TD.out.lay (below_alloc wd (.cells #[.int .i64 (p : Int)] 3)))
          have VA := Vals.newL wd wd.heap.size [.int .i64 (p : Int)] 3 rfl
          have szA := (below_alloc wd (.cells #[.int .i64 (p : Int)] 3)).size
          have ltA : wd.heap.size < (wd.alloc (.cells #[.int .i64 (p : Int)] 3)).heap.size := VA.lt
          generalize wd.alloc (.cells #[.int .i64 (p : Int)] 3) = wA at *
          have hHeld : S wA := by
            have a := TA.out.vr.cell (i := 7) (by simp)
            have b := TA.out.vr.cell (i := 8) (by simp)
            simp only [List.getD_cons_zero, List.getD_cons_succ] at a b
            exact (HSS.out _).2 ⟨a, b⟩
          refine hK.out _ _ (fun _ _ => hHeld) ?_
          clear hK K
          try simp only [Act.put, List.getElem_toArray, List.getElem_cons_zero, List.getElem_cons_succ, List.setIfInBounds_toArray, List.set_cons_zero, List.set_cons_succ]
          refine wpAnyL_all (rs := [3]) (by kernel_rfl) (by simp) (fun j hj => ?_)
          obtain rfl := List.mem_singleton.1 hj
          clear hj
          refine wpOpL (by rfl) (fun K hK => ?_)
          go_simp
          have TB := Lib.hid (TA.out.lay (below_alloc wA (.cells #[.int .i64 1] 3)))
          have VB := Vals.newL wA wA.heap.size [.int .i64 1] 3 rfl
          have VAb := VA.mono (below_alloc wA (.cells #[.int .i64 1] 3))
          have szB := (below_alloc wA (.cells #[.int .i64 1] 3)).size
          have ltB : wA.heap.size < (wA.alloc (.cells #[.int .i64 1] 3)).heap.size := VB.lt
          generalize wA.alloc (.cells #[.int .i64 1] 3) = wB at *
          have hHeld : S wB := by
            have a := TB.out.vr.cell (i := 7) (by simp)
            have b := TB.out.vr.cell (i := 8) (by simp)
            simp only [List.getD_cons_zero, List.getD_cons_succ] at a b
            exact (HSS.out _).2 ⟨a, b⟩
          refine hK.out _ _ (fun _ _ => hHeld) ?_
          clear hK K
          try simp only [Act.put, List.getElem_toArray, List.getElem_cons_zero, List.getElem_cons_succ, List.setIfInBounds_toArray, List.set_cons_zero, List.set_cons_succ]
          refine wpAnyL_all (rs := [4]) (by kernel_rfl) (by simp) (fun j hj => ?_)
          obtain rfl := List.mem_singleton.1 hj
          clear hj
          refine wpOpL (by rfl) (fun K hK => ?_)
          refine step_append_rv (by rfl) (.tmp 62) (.tmp 64) _ (by rfl) BS 3 _ 1 8 Try.underlying22 info_intC (by rfl) (by decide) _ i (stepsL wt i) (by rfl) TB.out.o7 _ 1 1 [.int .i64 1] (by rfl) (rdV_one VB) (ONE.out _) H63.out (by omega) TB.out.bs (i + 1) rfl _ L7.out ?_
          intro ad4 c4 wC hown4 hg4 hn4 hb4 hk4
          have TC := Lib.hid (TB.out.app7 hrbB h0B hown4 hg4 hb4 hk4)
          have VAbc := vals_grown VAb hg4 (fun e => by have := O7B.out _ e; omega)
          have szC := hg4.size
          have hHeld : S wC := by
            have a := TC.out.vr.cell (i := 7) (by simp)
            have b := TC.out.vr.cell (i := 8) (by simp)
            simp only [List.getD_cons_zero, List.getD_cons_succ] at a b
            exact (HSS.out _).2 ⟨a, b⟩
          refine hK.out _ _ (fun _ _ => hHeld) ?_
          clear hK K hown4 hg4 hn4 hb4 hk4
          try simp only [Act.put, List.getElem_toArray, List.getElem_cons_zero, List.getElem_cons_succ, List.setIfInBounds_toArray, List.set_cons_zero, List.set_cons_succ]
          refine wpAnyL_pure (i := 13) (v := ?vp29) rfl (by kernel_rfl) (by kernel_rfl) (by kernel_rfl) (fun _ _ _ h => h) (Or.inl ⟨by rfl, ?hyp29⟩) ?_
          case hyp29 => (intro w _; (go_simp) <;> (with_reducible rfl))
          try simp only [Act.put, List.getElem_toArray, List.getElem_cons_zero, List.getElem_cons_succ, List.setIfInBounds_toArray, List.set_cons_zero, List.set_cons_succ]
          refine wpAnyL_all (rs := [12]) (by kernel_rfl) (by simp) (fun j hj => ?_)
          obtain rfl := List.mem_singleton.1 hj
          clear hj
          refine wpOpL (by rfl) (fun K hK => ?_)
          refine step_append_rv (by rfl) (.tmp 67) (.tmp 72) _ (by rfl) BS 3 _ 1 8 Try.underlying22 info_intC (by rfl) (by decide) _ i (stepsL (thW wt) i) (by rfl) TC.out.o8 _ 1 1 [.int .i64 (p : Int)] (by rfl) (rdV_one VAbc) (ONE.out _) H63.out (by omega) TC.out.bs (i + 1) rfl _ L8.out ?_
          intro ad5 c5 wE hown5 hg5 hn5 hb5 hk5
          have TE := Lib.hid (TC.out.app8 hrbB h0B hown5 hg5 hb5 hk5)
          have hHeld : S wE := by
            have a := TE.out.vr.cell (i := 7) (by simp)
            have b := TE.out.vr.cell (i := 8) (by simp)
            simp only [List.getD_cons_zero, List.getD_cons_succ] at a b
            exact (HSS.out _).2 ⟨a, b⟩
          refine hK.out _ _ (fun _ _ => hHeld) ?_
          clear hK K hown5 hg5 hn5 hb5 hk5
          try simp only [Act.put, List.getElem_toArray, List.getElem_cons_zero, List.getElem_cons_succ, List.setIfInBounds_toArray, List.set_cons_zero, List.set_cons_succ]
          refine wpAnyL_all (rs := [14]) (by kernel_rfl) (by simp) (fun j hj => ?_)
          obtain rfl := List.mem_singleton.1 hj
          clear hj
          have s7 := TE.out.vr.cell (i := 7) (by simp)
          have s8 := TE.out.vr.cell (i := 8) (by simp)
          simp only [List.getD_cons_zero, List.getD_cons_succ] at s7 s8
          have fz7 := TE.out.vr.frozen 7
          have fz8 := TE.out.vr.frozen 8
          have lt5 := TE.out.vr.lt
          refine wpOpL (by rfl) (fun K hK => ?_)
          go_simp
          refine hK.out _ _ (fun h => absurd h (by decide)) ?_
          clear hK K
          try simp only [Act.put, List.getElem_toArray, List.getElem_cons_zero, List.getElem_cons_succ, List.setIfInBounds_toArray, List.set_cons_zero, List.set_cons_succ]
          refine wpAnyL_pure (i := 15) (v := ?vp30) rfl (by kernel_rfl) (by kernel_rfl) (by kernel_rfl) (fun _ _ _ h => h) (Or.inl ⟨by rfl, ?hyp30⟩) ?_
          case hyp30 => (intro w _; (go_simp) <;> (with_reducible rfl))
          try simp only [Act.put, List.getElem_toArray, List.getElem_cons_zero, List.getElem_cons_succ, List.setIfInBounds_toArray, List.set_cons_zero, List.set_cons_succ]
          refine wpAnyL_all (rs := [16]) (by kernel_rfl) (by simp) (fun j hj => ?_)
          obtain rfl := List.mem_singleton.1 hj
          clear hj
          refine wpOpL (by rfl) (fun K hK => ?_)
          go_simp
          refine hK.out _ _ (fun h => absurd h (by decide)) ?_
          clear hK K hHeld
          try simp only [Act.put, List.getElem_toArray, List.getElem_cons_zero, List.getElem_cons_succ, List.setIfInBounds_toArray, List.set_cons_zero, List.set_cons_succ]
          refine wpAnyL_done (by kernel_rfl) ?_ _
          have TF := Lib.hid (TE.out.put hrbB h0R 7 8 (.slice ad4 (i + 1) c4) (.slice ad5 (i + 1) c5))
          have wq : ∀ j, j < i + 1 → withE wt i 1 j ≤ 1000 := fun j hj => by
            by_cases h : j < i
            · rw [withE_old wt h]; exact HWT.out j h
            · obtain rfl : j = i := by omega
              rw [withE_new]
              omega
          have WQ := Lib.hid wq
          clear wq s7 s8 fz7 fz8 lt5
          go_wp2
          go_roundw
          case rel => exact ⟨i + 1, withE wt i 1, ad4, ad5, c4, c5, by omega, by go_num, WQ.out, TF.out.vr, TF.out.o7, TF.out.o8, TF.out.ne, TF.out.bel, TF.out.bs⟩
          case measure => simp [intOf]; omega
        
    · obtain rfl : i = 12 := by omega
      have t1 : ¬ (12 : Int) < 12 := by omega
      have hbd := HBD.out
      obtain ⟨R, rs, rl, rt, rp, rw', rF, rT⟩ : ∃ R : Rg, R.sp = sp ∧ R.lo = k2 ∧ R.tot = tot ∧ R.pu = k5 ∧ R.wo = wo ∧ (∀ j, R.F j = (wt j : Int)) ∧ (∀ j, R.T j = (thW wt j : Int)) := ⟨⟨sp, k2, tot, k5, wo, fun j => (wt j : Int), fun j => (thW wt j : Int)⟩, rfl, rfl, rfl, rfl, rfl, fun _ => rfl, fun _ => rfl⟩
      have hR : RgOk R := ⟨by omega, by omega, by omega, by omega, by omega, by omega, by omega, fun j hj => by rw [rF]; have := hwt j hj; omega, fun j hj => by rw [rT]; unfold thW; omega⟩
      obtain ⟨g7, rfl, _, hg7, hc7⟩ := ownsRow_at' o7 (by omega)
      obtain ⟨g8, rfl, _, hg8, hc8⟩ := ownsRow_at' o8 (by omega)
      have hI : InRg wr (.slice (some ⟨g7, 0, none⟩) 12 c7) (.slice (some ⟨g8, 0, none⟩) 12 c8) R :=
        ⟨⟨g7, c7, rfl, hg7, fun j hj => by rw [rF]; exact hc7 j _ (stepsL_get wt hj)⟩, ⟨g8, c8, rfl, hg8, fun j hj => by rw [rT]; exact hc8 j _ (stepsL_get (thW wt) hj)⟩⟩
      have HBE := rbest_calls R _ _ wr hR hI
      have HCO := fun (w1 : World) (hb : Below wr.heap.size wr w1) v e c hF hv => rcost_calls R (.slice (some ⟨g7, 0, none⟩) 12 c7) (.slice (some ⟨g8, 0, none⟩) 12 c8) v e c w1 hR (hI.mono hb) hF hv
      rw [rs, rl, rt, rp, rw'] at HBE HCO
      have HBE' := Lib.hid HBE
      have HCO' := Lib.hid HCO
      have HFIN := Lib.hid (fun (e : Nat → Nat) (c : Int) (hF : Fine R e c) => (show (∀ i, i < 12 → e i ≤ 3) ∧ sumN e 12 = tot from
        ⟨fun i hi => (hF.st i hi).le hR, by rw [sumN_E 12 hF.st, ← rt]; have := hF.sum; omega⟩))
      have HV := Lib.hid (And.intro vr B)
      have HTP := Lib.hid (fun w : World => tempers_calls w)
      have r0 := vr.cell (i := 0) (by simp)
      have r1 := vr.cell (i := 1) (by simp)
      have r2 := vr.cell (i := 2) (by simp)
      have r3 := vr.cell (i := 3) (by simp)
      have r4 := vr.cell (i := 4) (by simp)
      have r5 := vr.cell (i := 5) (by simp)
      have r6 := vr.cell (i := 6) (by simp)
      have r7 := vr.cell (i := 7) (by simp)
      have r8 := vr.cell (i := 8) (by simp)
      simp only [List.getD_cons_zero, List.getD_cons_succ] at r0 r1 r2 r3 r4 r5 r6 r7 r8
      have hlr := vr.lt
      clear rs rl rt rp rw' rF rT hR hI HBE HCO o7 o8 hc7 hc8 hne hwt vr B hBs hbd
      go_wp2_with fail
      refine HBE'.out.mono ?_
      rintro e w1 ⟨rfl | ⟨ad, cc, st, cst, rfl, hown, hfin⟩, b1⟩
      · have B1 := Lib.hid (HV.out.2.trans (b1.mono HV.out.2.size))
        clear b1 r0 r1 r2 r3 r4 r5 r6 r7 r8 hlr
        go_wp2_with fail
        refine (HTP.out _).mono ?_
        rintro e w2 ⟨rfl, b2⟩
        have B2 := Lib.hid (below_trans B1.out b2)
        clear b2 B1
        go_wp2
        go_ret
        exact ⟨rfl, B2.out⟩
      · obtain ⟨g, rfl, _, hg, hcs⟩ := ownsRow_at' hown (by omega)
        have hcc : 12 ≤ cc ∧ cc ≤ maxLen := ⟨(ownsRow_rds hown).1.2.1, (ownsRow_rds hown).1.2.2.1⟩
        have hcc1 := hcc.1
        have hst := Lib.hid (show ∀ i, i < 12 → w1.cell? ⟨g, i, none⟩ = some (.int .i64 (st i : Int)) from fun i hi => hcs i _ (stepsL_get st hi))
        obtain ⟨f1, f2⟩ := HFIN.out st cst hfin
        have CO := Lib.hid (HCO'.out w1 b1 (.slice (some ⟨g, 0, none⟩) 12 cc) st cst hfin ⟨g, cc, rfl, hg, hst.out⟩)
        have B1 := Lib.hid (HV.out.2.trans (b1.mono HV.out.2.size))
        replace r0 := (b1.cell (p := ⟨rb, 0, none⟩) hlr).trans r0
        replace r1 := (b1.cell (p := ⟨rb, 1, none⟩) hlr).trans r1
        replace r2 := (b1.cell (p := ⟨rb, 2, none⟩) hlr).trans r2
        replace r3 := (b1.cell (p := ⟨rb, 3, none⟩) hlr).trans r3
        replace r4 := (b1.cell (p := ⟨rb, 4, none⟩) hlr).trans r4
        replace r5 := (b1.cell (p := ⟨rb, 5, none⟩) hlr).trans r5
        replace r6 := (b1.cell (p := ⟨rb, 6, none⟩) hlr).trans r6
        replace r7 := (b1.cell (p := ⟨rb, 7, none⟩) hlr).trans r7
        replace r8 := (b1.cell (p := ⟨rb, 8, none⟩) hlr).trans r8
        have hlr1 := Nat.lt_of_lt_of_le hlr b1.size
        have HF := Lib.hid (And.intro f1 f2)
        clear b1 hown hcs hfin hcc f1 f2 hlr HBE' HCO' HFIN HV
        go_wp2_with fail
        refine CO.out.mono ?_
        rintro e w2 ⟨rfl, b2⟩
        replace r4 := (b2.cell (p := ⟨rb, 4, none⟩) hlr1).trans r4
        have hlr2 := Nat.lt_of_lt_of_le hlr1 b2.size
        have hg2 := Nat.lt_of_lt_of_le hg b2.size
        have hst2 := Lib.hid (show ∀ i, i < 12 → w2.cell? ⟨g, i, none⟩ = some (.int .i64 (st i : Int)) from fun i hi => (b2.cell (p := ⟨g, i, none⟩) hg).trans (hst.out i hi))
        have B2 := Lib.hid (below_trans B1.out b2)
        have CL := Lib.hid (gcloses_calls tot (.slice (some ⟨g, 0, none⟩) 12 cc) st w2 (by have := HBD.out; omega) HF.out.1 HF.out.2 ⟨g, cc, rfl, hg2, hst2.out⟩)
        have TN := Lib.hid (fun (w3 : World) (b3 : Below w2.heap.size w2 w3) => gtones_calls tot g cc st w3 (by have := HBD.out; omega) HF.out.1 hcc1 (Nat.lt_of_lt_of_le hg2 b3.size) (fun i hi => (b3.cell (p := ⟨g, i, none⟩) hg2).trans (hst2.out i hi)))
        clear r0 r1 r2 r3 r5 r6 r7 r8 b2 hst B1 CO
        go_wp2_with fail
        refine CL.out.mono ?_
        rintro e w2' ⟨rfl, rfl⟩
        have neq : (cst != cst) = false := by simp
        clear CL
        go_wp2_with fail
        clear neq
        refine (HTP.out w2).mono ?_
        rintro e w3 ⟨rfl, b3⟩
        replace r4 := (b3.cell (p := ⟨rb, 4, none⟩) hlr2).trans r4
        have hlr3 := Nat.lt_of_lt_of_le hlr2 b3.size
        have hg3 := Nat.lt_of_lt_of_le hg2 b3.size
        have B3 := Lib.hid (below_trans B2.out b3)
        have hc11 := (b3.cell (p := ⟨g, 11, none⟩) hg2).trans (hst2.out 11 (by omega))
        have TN3 := Lib.hid (TN.out w3 b3)
        clear b3 TN hst2 B2
        go_wp2_with fail
        refine TN3.out.mono ?_
        rintro e w4 ⟨⟨tad, tc, L, rfl, hrow, hLl, hxo, hxf, hxe⟩ | rfl, b4⟩
        case inr =>
          have B4 := Lib.hid (below_trans B3.out b4)
          clear b4
          go_wp2
          go_ret
          exact ⟨rfl, B4.out⟩
        replace r4 := (b4.cell (p := ⟨rb, 4, none⟩) hlr3).trans r4
        have hlr4 := Nat.lt_of_lt_of_le hlr3 b4.size
        have hg4 := Nat.lt_of_lt_of_le hg3 b4.size
        have B4 := Lib.hid (below_trans B3.out b4)
        replace hc11 := (b4.cell (p := ⟨g, 11, none⟩) hg3).trans hc11
        obtain ⟨gl, rfl, _, hgl, hcl⟩ := ownsRow_at' hrow (by omega)
        obtain ⟨s, hs⟩ : ∃ s, st 11 = s := ⟨_, rfl⟩
        have hs3 := HF.out.1 11 (by omega)
        have hsum : sumN st 11 + s = tot := by rw [← hs]; exact HF.out.2
        rw [expA_sum, expB_sum, show 19 * (sumN st 11 : Int) - ((11 : Nat) : Int) * (tot : Int) = 8 * (tot : Int) - 19 * (s : Int) by omega, show ((11 : Nat) : Int) * (tot : Int) - 12 * (sumN st 11 : Int) = 12 * (s : Int) - (tot : Int) by omega] at hxe
        rw [hs] at hc11 hs3
        have hbd := HBD.out
        have hX : ∀ k u, (tcl (L.getD 11 ⟨0, 0, 0, 0⟩))[k]? = some u → k < 4 → w4.cell? ⟨gl, 44 + k, none⟩ = some u := fun k u hu hk => hcl (44 + k) u ((flat_get tcl_len ⟨0, 0, 0, 0⟩ L 11 (by omega) k hk).trans hu)
        obtain ⟨m1, m2, m3, m4, m5⟩ := last_fifth (s := (s : Int)) (T := (tot : Int)) hxo (by omega) (by omega) (by omega) (by omega) hxf hxe
        have MK := fun w : World => make_ok (-(tot : Int) + 19 * (s : Int)) ((tot : Int) - 12 * (s : Int)) 0 (tot : Int) w (by unfold i64; omega) (by unfold i64; omega) (by unfold i64; omega) (by unfold i64; omega) (by omega)
        obtain ⟨x, hx⟩ : ∃ x, L.getD 11 ⟨0, 0, 0, 0⟩ = x := ⟨_, rfl⟩
        rw [hx] at hX m3 m4 m5 hxo
        obtain ⟨⟨q, qe⟩, hq⟩ : ∃ q, redT (-(tot : Int) + 19 * (s : Int)) ((tot : Int) - 12 * (s : Int)) 0 (tot : Int) = q := ⟨_, rfl⟩
        rw [hq] at m1 m2 m3 m4 m5 MK
        dsimp only at m1 m2 m3 m4 m5 MK
        subst m1
        have ML := fun w : World => mulT_ok x q w hxo m2
        obtain ⟨⟨p, pe⟩, hp⟩ : ∃ p, mulT x q = p := ⟨_, rfl⟩
        rw [hp] at m3 m4 m5 ML
        dsimp only at m3 m4 m5 ML
        subst m3
        have OC := fun w : World => octave_ok p w m4 (by rw [m5])
        rw [m5] at OC
        obtain ⟨oz, hoz⟩ : ∃ z, octT p = z := ⟨_, rfl⟩
        rw [hoz] at OC
        obtain ⟨qa, qb, qc, qd⟩ := q
        obtain ⟨pa, pb, pc, pd⟩ := p
        obtain ⟨xa, xb, xc, xd⟩ := x
        dsimp only at MK ML OC
        have x0 := hX 0 _ rfl (by omega)
        have x1 := hX 1 _ rfl (by omega)
        have x2 := hX 2 _ rfl (by omega)
        have x3 := hX 3 _ rfl (by omega)
        dsimp only at x0 x1 x2 x3
        have HMK := Lib.hid MK
        have HML := Lib.hid ML
        have HOC := Lib.hid OC
        clear b4 hrow hcl hLl hxo hxf hxe hX hx hq hp hoz m2 m4 m5 MK ML OC hs hsum HF HBD
        have n1 : IntKind.i64.wrap (-(tot : Int)) = -(tot : Int) := IntWalk.i64_in _ (by omega)
        have n2 : IntKind.i64.wrap (19 * (s : Int)) = 19 * (s : Int) := IntWalk.i64_in _ (by omega)
        have n3 : IntKind.i64.wrap (-(tot : Int) + 19 * (s : Int)) = -(tot : Int) + 19 * (s : Int) := IntWalk.i64_in _ (by omega)
        have n4 : IntKind.i64.wrap (12 * (s : Int)) = 12 * (s : Int) := IntWalk.i64_in _ (by omega)
        have n5 : IntKind.i64.wrap ((tot : Int) - 12 * (s : Int)) = (tot : Int) - 12 * (s : Int) := IntWalk.i64_in _ (by omega)
        clear hbd
        go_upto_region 20 with (fail)
        go_cut [17, 18] from 24 (fun pv ev wx => ∃ b : Nat, pv = .pointer (some ⟨b, 0, none⟩) ∧ ev = .int .i64 0 ∧ Vals wx b [.int .i64 qa, .int .i64 qb, .int .i64 qc, .int .i64 qd] ∧ Below w4.heap.size w4 wx)
        case first =>
          obtain ⟨S, hS⟩ : ∃ S : World → Prop, ∀ w', S w' ↔ (w'.cell? ⟨rb, 4, none⟩ = some (.int .i64 (tot : Int)) ∧ w'.cell? ⟨g, 11, none⟩ = some (.int .i64 (s : Int))) := ⟨_, fun _ => Iff.rfl⟩
          have HS20 := Lib.hid hS
          have HSB := Lib.hid (fun (w' : World) (hb : Below w4.heap.size w4 w') => (hS w').2 ⟨(hb.cell (p := ⟨rb, 4, none⟩) hlr4).trans r4, (hb.cell (p := ⟨g, 11, none⟩) hg4).trans hc11⟩)
          clear hS
          refine wp_region_L (S := S) (lx := [22]) (by kernel_rfl) (HSB.out _ ((Below.refl _ _).drew)) (fun hHeld => ?_)
          have hbd0 := Lib.hid ((Below.refl w4.heap.size w4).drew)
          generalize w4.drew = wd at *
          refine wpAnyL_pure (i := 0) (v := ?vp31) rfl (by kernel_rfl) (by kernel_rfl) (by kernel_rfl) (fun _ _ _ h => h) (Or.inl ⟨by rfl, ?hyp31⟩) ?_
          case hyp31 => (intro w _; (go_simp) <;> (with_reducible rfl))
          try simp only [Act.put, List.getElem_toArray, List.getElem_cons_zero, List.getElem_cons_succ, List.setIfInBounds_toArray, List.set_cons_zero, List.set_cons_succ]
          refine wpAnyL_take (i := 1) (v := ?vp32) rfl (by kernel_rfl) (by kernel_rfl) (by kernel_rfl) (by kernel_rfl) (fun _ _ _ h => h) (Or.inl ⟨by rfl, ?hyp32⟩) (by assumption) ?_
          case hyp32 => (intro w hSw; replace hSw := (HS20.out w).1 hSw; (go_simp) <;> (with_reducible rfl))
          try simp only [Act.put, List.getElem_toArray, List.getElem_cons_zero, List.getElem_cons_succ, List.setIfInBounds_toArray, List.set_cons_zero, List.set_cons_succ]
          refine wpAnyL_pure (i := 2) (v := ?vp33) rfl (by kernel_rfl) (by kernel_rfl) (by kernel_rfl) (fun _ _ _ h => h) (Or.inl ⟨by rfl, ?hyp33⟩) ?_
          case hyp33 => (intro w _; (go_simp) <;> (with_reducible rfl))
          try simp only [Act.put, List.getElem_toArray, List.getElem_cons_zero, List.getElem_cons_succ, List.setIfInBounds_toArray, List.set_cons_zero, List.set_cons_succ]
          refine wpAnyL_pure (i := 3) (v := ?vp34) rfl (by kernel_rfl) (by kernel_rfl) (by kernel_rfl) (fun _ _ _ h => h) (Or.inl ⟨by rfl, ?hyp34⟩) ?_
          case hyp34 => (intro w _; (go_simp) <;> (with_reducible rfl))
          try simp only [Act.put, List.getElem_toArray, List.getElem_cons_zero, List.getElem_cons_succ, List.setIfInBounds_toArray, List.set_cons_zero, List.set_cons_succ]
          refine wpAnyL_pure (i := 4) (v := ?vp35) rfl (by kernel_rfl) (by kernel_rfl) (by kernel_rfl) (fun _ _ _ h => h) (Or.inl ⟨by rfl, ?hyp35⟩) ?_
          case hyp35 => (intro w _; (go_simp) <;> (with_reducible rfl))
          try simp only [Act.put, List.getElem_toArray, List.getElem_cons_zero, List.getElem_cons_succ, List.setIfInBounds_toArray, List.set_cons_zero, List.set_cons_succ]
          refine wpAnyL_take (i := 5) (v := ?vp36) rfl (by kernel_rfl) (by kernel_rfl) (by kernel_rfl) (by kernel_rfl) (fun _ _ _ h => h) (Or.inl ⟨by rfl, ?hyp36⟩) (by assumption) ?_
          case hyp36 => (intro w hSw; replace hSw := (HS20.out w).1 hSw; (go_simp) <;> (with_reducible rfl))
          try simp only [Act.put, List.getElem_toArray, List.getElem_cons_zero, List.getElem_cons_succ, List.setIfInBounds_toArray, List.set_cons_zero, List.set_cons_succ]
          refine wpAnyL_pure (i := 6) (v := ?vp37) rfl (by kernel_rfl) (by kernel_rfl) (by kernel_rfl) (fun _ _ _ h => h) (Or.inl ⟨by rfl, ?hyp37⟩) ?_
          case hyp37 => (intro w _; (go_simp) <;> (with_reducible rfl))
          try simp only [Act.put, List.getElem_toArray, List.getElem_cons_zero, List.getElem_cons_succ, List.setIfInBounds_toArray, List.set_cons_zero, List.set_cons_succ]
          refine wpAnyL_pure (i := 7) (v := ?vp38) rfl (by kernel_rfl) (by kernel_rfl) (by kernel_rfl) (fun _ _ _ h => h) (Or.inl ⟨by rfl, ?hyp38⟩) ?_
          case hyp38 => (intro w _; (go_simp) <;> (with_reducible rfl))
          try simp only [Act.put, List.getElem_toArray, List.getElem_cons_zero, List.getElem_cons_succ, List.setIfInBounds_toArray, List.set_cons_zero, List.set_cons_succ]
          refine wpAnyL_pure (i := 8) (v := ?vp39) rfl (by kernel_rfl) (by kernel_rfl) (by kernel_rfl) (fun _ _ _ h => h) (Or.inl ⟨by rfl, ?hyp39⟩) ?_
          case hyp39 => (intro w _; (go_simp) <;> (with_reducible rfl))
          try simp only [Act.put, List.getElem_toArray, List.getElem_cons_zero, List.getElem_cons_succ, List.setIfInBounds_toArray, List.set_cons_zero, List.set_cons_succ]
          refine wpAnyL_take (i := 9) (v := ?vp40) rfl (by kernel_rfl) (by kernel_rfl) (by kernel_rfl) (by kernel_rfl) (fun _ _ _ h => h) (Or.inl ⟨by rfl, ?hyp40⟩) (by assumption) ?_
          case hyp40 => (intro w hSw; replace hSw := (HS20.out w).1 hSw; (go_simp) <;> (with_reducible rfl))
          try simp only [Act.put, List.getElem_toArray, List.getElem_cons_zero, List.getElem_cons_succ, List.setIfInBounds_toArray, List.set_cons_zero, List.set_cons_succ]
          refine wpAnyL_pure (i := 10) (v := ?vp41) rfl (by kernel_rfl) (by kernel_rfl) (by kernel_rfl) (fun _ _ _ h => h) (Or.inl ⟨by rfl, ?hyp41⟩) ?_
          case hyp41 => (intro w _; (go_simp) <;> (with_reducible rfl))
          try simp only [Act.put, List.getElem_toArray, List.getElem_cons_zero, List.getElem_cons_succ, List.setIfInBounds_toArray, List.set_cons_zero, List.set_cons_succ]
          refine wpAnyL_pure (i := 11) (v := ?vp42) rfl (by kernel_rfl) (by kernel_rfl) (by kernel_rfl) (fun _ _ _ h => h) (Or.inl ⟨by rfl, ?hyp42⟩) ?_
          case hyp42 => (intro w _; (go_simp) <;> (with_reducible rfl))
          try simp only [Act.put, List.getElem_toArray, List.getElem_cons_zero, List.getElem_cons_succ, List.setIfInBounds_toArray, List.set_cons_zero, List.set_cons_succ]
          refine wpAnyL_take (i := 12) (v := ?vp43) rfl (by kernel_rfl) (by kernel_rfl) (by kernel_rfl) (by kernel_rfl) (fun _ _ _ h => h) (Or.inl ⟨by rfl, ?hyp43⟩) (by assumption) ?_
          case hyp43 => (intro w hSw; replace hSw := (HS20.out w).1 hSw; (go_simp) <;> (with_reducible rfl))
          try simp only [Act.put, List.getElem_toArray, List.getElem_cons_zero, List.getElem_cons_succ, List.setIfInBounds_toArray, List.set_cons_zero, List.set_cons_succ]
          refine wpAnyL_pure (i := 13) (v := ?vp44) rfl (by kernel_rfl) (by kernel_rfl) (by kernel_rfl) (fun _ _ _ h => h) (Or.inl ⟨by rfl, ?hyp44⟩) ?_
          case hyp44 => (intro w _; (go_simp) <;> (with_reducible rfl))
          try simp only [Act.put, List.getElem_toArray, List.getElem_cons_zero, List.getElem_cons_succ, List.setIfInBounds_toArray, List.set_cons_zero, List.set_cons_succ]
          refine wpAnyL_pure (i := 14) (v := ?vp45) rfl (by kernel_rfl) (by kernel_rfl) (by kernel_rfl) (fun _ _ _ h => h) (Or.inl ⟨by rfl, ?hyp45⟩) ?_
          case hyp45 => (intro w _; (go_simp) <;> (with_reducible rfl))
          try simp only [Act.put, List.getElem_toArray, List.getElem_cons_zero, List.getElem_cons_succ, List.setIfInBounds_toArray, List.set_cons_zero, List.set_cons_succ]
          refine wpAnyL_pure (i := 15) (v := ?vp46) rfl (by kernel_rfl) (by kernel_rfl) (by kernel_rfl) (fun _ _ _ h => h) (Or.inl ⟨by rfl, ?hyp46⟩) ?_
          case hyp46 => (intro w _; (go_simp) <;> (with_reducible rfl))
          try simp only [Act.put, List.getElem_toArray, List.getElem_cons_zero, List.getElem_cons_succ, List.setIfInBounds_toArray, List.set_cons_zero, List.set_cons_succ]
          refine wpAnyL_take (i := 16) (v := ?vp47) rfl (by kernel_rfl) (by kernel_rfl) (by kernel_rfl) (by kernel_rfl) (fun _ _ _ h => h) (Or.inl ⟨by rfl, ?hyp47⟩) (by assumption) ?_
          case hyp47 => (intro w hSw; replace hSw := (HS20.out w).1 hSw; (go_simp) <;> (with_reducible rfl))
          try simp only [Act.put, List.getElem_toArray, List.getElem_cons_zero, List.getElem_cons_succ, List.setIfInBounds_toArray, List.set_cons_zero, List.set_cons_succ]
          refine wpAnyL_all (rs := [17, 21]) (by kernel_rfl) (by simp) (fun j hj => ?_)
          simp only [List.mem_cons, List.not_mem_nil, or_false] at hj
          rcases hj with rfl | rfl
          · skip
            refine wpOpL (by rfl) (fun K hK => ?_)
            go_simp
            go_at_call 10
            refine (HMK.out _).mono ?_
            rintro e w5 ⟨rfl, b5⟩
            have hb5 := Lib.hid (hbd0.out.trans (b5.mono hbd0.out.size))
            go_wp2_with fail
            refine hK.out _ _ (fun _ _ => HSB.out _ hb5.out) ?_
            clear hK K b5
            try simp only [Act.put, List.getElem_toArray, List.getElem_cons_zero, List.getElem_cons_succ, List.setIfInBounds_toArray, List.set_cons_zero, List.set_cons_succ]
            refine wpAnyL_pure (i := 18) (v := ?vp48) rfl (by kernel_rfl) (by kernel_rfl) (by kernel_rfl) (fun _ _ _ h => h) (Or.inl ⟨by rfl, ?hyp48⟩) ?_
            case hyp48 => (intro w _; (go_simp) <;> (with_reducible rfl))
            try simp only [Act.put, List.getElem_toArray, List.getElem_cons_zero, List.getElem_cons_succ, List.setIfInBounds_toArray, List.set_cons_zero, List.set_cons_succ]
            refine wpAnyL_pure (i := 19) (v := ?vp49) rfl (by kernel_rfl) (by kernel_rfl) (by kernel_rfl) (fun _ _ _ h => h) (Or.inl ⟨by rfl, ?hyp49⟩) ?_
            case hyp49 => (intro w _; (go_simp) <;> (with_reducible rfl))
            try simp only [Act.put, List.getElem_toArray, List.getElem_cons_zero, List.getElem_cons_succ, List.setIfInBounds_toArray, List.set_cons_zero, List.set_cons_succ]
            refine wpAnyL_pure (i := 20) (v := ?vp50) rfl (by kernel_rfl) (by kernel_rfl) (by kernel_rfl) (fun _ _ _ h => h) (Or.inl ⟨by rfl, ?hyp50⟩) ?_
            case hyp50 => (intro w _; (go_simp) <;> (with_reducible rfl))
            try simp only [Act.put, List.getElem_toArray, List.getElem_cons_zero, List.getElem_cons_succ, List.setIfInBounds_toArray, List.set_cons_zero, List.set_cons_succ]
            refine wpAnyL_all (rs := [21]) (by kernel_rfl) (by simp) (fun j hj => ?_)
            obtain rfl := List.mem_singleton.1 hj
            clear hj
            refine wpOpL (by rfl) (fun K hK => ?_)
            go_simp
            have b6 := below_alloc w5 (.cells #[.int .i64 0, .int .i64 0, .int .i64 0, .int .i64 0] 37)
            have hb6 := Lib.hid (hb5.out.trans (b6.mono hb5.out.size))
            refine hK.out _ _ (fun _ _ => HSB.out _ hb6.out) ?_
            clear hK K b6
            try simp only [Act.put, List.getElem_toArray, List.getElem_cons_zero, List.getElem_cons_succ, List.setIfInBounds_toArray, List.set_cons_zero, List.set_cons_succ]
            refine wpAnyL_all (rs := [22]) (by kernel_rfl) (by simp) (fun j hj => ?_)
            obtain rfl := List.mem_singleton.1 hj
            clear hj
            refine wpOpL (by rfl) (fun K hK => ?_)
            go_simp
            have v6 := Vals.newL w5 w5.heap.size [.int .i64 qa, .int .i64 qb, .int .i64 qc, .int .i64 qd] 37 rfl
            have b6 := below_alloc w5 (.cells #[.int .i64 qa, .int .i64 qb, .int .i64 qc, .int .i64 qd] 37)
            have hb7 := Lib.hid (hb5.out.trans (b6.mono hb5.out.size))
            have HV6 := Lib.hid v6
            refine hK.out _ _ (fun h => absurd h (by decide)) ?_
            clear hK K b6 v6
            try simp only [Act.put, List.getElem_toArray, List.getElem_cons_zero, List.getElem_cons_succ, List.setIfInBounds_toArray, List.set_cons_zero, List.set_cons_succ]
            refine wpAnyL_pure (i := 23) (v := ?vp51) rfl (by kernel_rfl) (by kernel_rfl) (by kernel_rfl) (fun _ _ _ h => h) (Or.inl ⟨by rfl, ?hyp51⟩) ?_
            case hyp51 => (intro w _; (go_simp) <;> (with_reducible rfl))
            try simp only [Act.put, List.getElem_toArray, List.getElem_cons_zero, List.getElem_cons_succ, List.setIfInBounds_toArray, List.set_cons_zero, List.set_cons_succ]
            refine wpAnyL_done (by kernel_rfl) ?_ _
            clear hHeld HSB hb6
            go_wp2
            go_meet
            exact ⟨_, rfl, rfl, HV6.out, hb7.out⟩
          · skip
            refine wpOpL (by rfl) (fun K hK => ?_)
            go_simp
            have va := Vals.newL wd wd.heap.size [.int .i64 0, .int .i64 0, .int .i64 0, .int .i64 0] 37 rfl
            have b6 := below_alloc wd (.cells #[.int .i64 0, .int .i64 0, .int .i64 0, .int .i64 0] 37)
            have hb6 := Lib.hid (hbd0.out.trans (b6.mono hbd0.out.size))
            have hwb : w4.heap.size ≤ wd.heap.size := hbd0.out.size
            refine hK.out _ _ (fun _ _ => HSB.out _ hb6.out) ?_
            clear hK K b6
            try simp only [Act.put, List.getElem_toArray, List.getElem_cons_zero, List.getElem_cons_succ, List.setIfInBounds_toArray, List.set_cons_zero, List.set_cons_succ]
            generalize wd.alloc (.cells #[.int .i64 0, .int .i64 0, .int .i64 0, .int .i64 0] 37) = wa at *
            obtain ⟨bn, hbn⟩ : ∃ q, wd.heap.size = q := ⟨_, rfl⟩
            rw [hbn] at va hwb ⊢
            clear hbn
            refine wpAnyL_all (rs := [17]) (by kernel_rfl) (by simp) (fun j hj => ?_)
            obtain rfl := List.mem_singleton.1 hj
            clear hj
            refine wpOpL (by rfl) (fun K hK => ?_)
            go_simp
            go_at_call 10
            refine (HMK.out _).mono ?_
            rintro e w5 ⟨rfl, b5⟩
            have hb5 := Lib.hid (hb6.out.trans (b5.mono hb6.out.size))
            replace va := va.mono b5
            go_wp2_with fail
            refine hK.out _ _ (fun _ _ => HSB.out _ hb5.out) ?_
            clear hK K b5
            try simp only [Act.put, List.getElem_toArray, List.getElem_cons_zero, List.getElem_cons_succ, List.setIfInBounds_toArray, List.set_cons_zero, List.set_cons_succ]
            refine wpAnyL_pure (i := 18) (v := ?vp52) rfl (by kernel_rfl) (by kernel_rfl) (by kernel_rfl) (fun _ _ _ h => h) (Or.inl ⟨by rfl, ?hyp52⟩) ?_
            case hyp52 => (intro w _; (go_simp) <;> (with_reducible rfl))
            try simp only [Act.put, List.getElem_toArray, List.getElem_cons_zero, List.getElem_cons_succ, List.setIfInBounds_toArray, List.set_cons_zero, List.set_cons_succ]
            refine wpAnyL_pure (i := 19) (v := ?vp53) rfl (by kernel_rfl) (by kernel_rfl) (by kernel_rfl) (fun _ _ _ h => h) (Or.inl ⟨by rfl, ?hyp53⟩) ?_
            case hyp53 => (intro w _; (go_simp) <;> (with_reducible rfl))
            try simp only [Act.put, List.getElem_toArray, List.getElem_cons_zero, List.getElem_cons_succ, List.setIfInBounds_toArray, List.set_cons_zero, List.set_cons_succ]
            refine wpAnyL_pure (i := 20) (v := ?vp54) rfl (by kernel_rfl) (by kernel_rfl) (by kernel_rfl) (fun _ _ _ h => h) (Or.inl ⟨by rfl, ?hyp54⟩) ?_
            case hyp54 => (intro w _; (go_simp) <;> (with_reducible rfl))
            try simp only [Act.put, List.getElem_toArray, List.getElem_cons_zero, List.getElem_cons_succ, List.setIfInBounds_toArray, List.set_cons_zero, List.set_cons_succ]
            refine wpAnyL_all (rs := [22]) (by kernel_rfl) (by simp) (fun j hj => ?_)
            obtain rfl := List.mem_singleton.1 hj
            clear hj
            have ca0 := va.cell (i := 0) (by simp)
            have ca1 := va.cell (i := 1) (by simp)
            have ca2 := va.cell (i := 2) (by simp)
            have ca3 := va.cell (i := 3) (by simp)
            simp only [List.getD_cons_zero, List.getD_cons_succ] at ca0 ca1 ca2 ca3
            have fa0 := va.frozen 0
            have fa1 := va.frozen 1
            have fa2 := va.frozen 2
            have fa3 := va.frozen 3
            have lta := va.lt
            have v6 := va.set4 (.int .i64 qa) (.int .i64 qb) (.int .i64 qc) (.int .i64 qd)
            have b6 := below_set4 hb5.out hwb (.int .i64 qa) (.int .i64 qb) (.int .i64 qc) (.int .i64 qd)
            have HV6 := Lib.hid v6
            have hb7 := Lib.hid b6
            clear v6 b6 va
            refine wpOpL (by rfl) (fun K hK => ?_)
            go_simp
            refine hK.out _ _ (fun h => absurd h (by decide)) ?_
            clear hK K ca0 ca1 ca2 ca3 fa0 fa1 fa2 fa3 lta
            try simp only [Act.put, List.getElem_toArray, List.getElem_cons_zero, List.getElem_cons_succ, List.setIfInBounds_toArray, List.set_cons_zero, List.set_cons_succ]
            refine wpAnyL_pure (i := 23) (v := ?vp55) rfl (by kernel_rfl) (by kernel_rfl) (by kernel_rfl) (fun _ _ _ h => h) (Or.inl ⟨by rfl, ?hyp55⟩) ?_
            case hyp55 => (intro w _; (go_simp) <;> (with_reducible rfl))
            try simp only [Act.put, List.getElem_toArray, List.getElem_cons_zero, List.getElem_cons_succ, List.setIfInBounds_toArray, List.set_cons_zero, List.set_cons_succ]
            refine wpAnyL_done (by kernel_rfl) ?_ _
            clear hHeld HSB hb6
            go_wp2
            go_meet
            exact ⟨_, rfl, rfl, HV6.out, hb7.out⟩
        case rest =>
          obtain ⟨bq, rfl, rfl, vq, b45⟩ := hcut
          replace b45 := Lib.hid b45
          have y0 := vq.cell (i := 0) (by simp)
          have y1 := vq.cell (i := 1) (by simp)
          have y2 := vq.cell (i := 2) (by simp)
          have y3 := vq.cell (i := 3) (by simp)
          simp only [List.getD_cons_zero, List.getD_cons_succ] at y0 y1 y2 y3
          have hlq := vq.lt
          clear n1 n2 n3 n4 n5 HMK vq r4 hc11 hlr4 hg4
          go_upto_region 21 with (fail)
          obtain ⟨wk, hwk⟩ : ∃ q, q = wc := ⟨_, rfl⟩
          go_cut [19, 20] from 24 (fun pv ev wx => ∃ b : Nat, pv = .pointer (some ⟨b, 0, none⟩) ∧ ev = .int .i64 0 ∧ Vals wx b [.int .i64 pa, .int .i64 pb, .int .i64 pc, .int .i64 pd] ∧ Below wk.heap.size wk wx)
          case first =>
            subst hwk
            obtain ⟨S, hS⟩ : ∃ S : World → Prop, ∀ w', S w' ↔ (w'.cell? ⟨gl, 44, none⟩ = some (.int .i64 xa) ∧ w'.cell? ⟨gl, 45, none⟩ = some (.int .i64 xb) ∧ w'.cell? ⟨gl, 46, none⟩ = some (.int .i64 xc) ∧ w'.cell? ⟨gl, 47, none⟩ = some (.int .i64 xd) ∧ w'.cell? ⟨bq, 0, none⟩ = some (.int .i64 qa) ∧ w'.cell? ⟨bq, 1, none⟩ = some (.int .i64 qb) ∧ w'.cell? ⟨bq, 2, none⟩ = some (.int .i64 qc) ∧ w'.cell? ⟨bq, 3, none⟩ = some (.int .i64 qd)) := ⟨_, fun _ => Iff.rfl⟩
            have HS21 := Lib.hid hS
            have HSB := Lib.hid (fun (w' : World) (hb : Below wk.heap.size wk w') => (hS w').2 ⟨((b45.out.trans (hb.mono b45.out.size)).cell (p := ⟨gl, 44, none⟩) hgl).trans x0, ((b45.out.trans (hb.mono b45.out.size)).cell (p := ⟨gl, 45, none⟩) hgl).trans x1, ((b45.out.trans (hb.mono b45.out.size)).cell (p := ⟨gl, 46, none⟩) hgl).trans x2, ((b45.out.trans (hb.mono b45.out.size)).cell (p := ⟨gl, 47, none⟩) hgl).trans x3, (hb.cell (p := ⟨bq, 0, none⟩) hlq).trans y0, (hb.cell (p := ⟨bq, 1, none⟩) hlq).trans y1, (hb.cell (p := ⟨bq, 2, none⟩) hlq).trans y2, (hb.cell (p := ⟨bq, 3, none⟩) hlq).trans y3⟩)
            clear hS
            refine wp_region_L (S := S) (lx := [9]) (by kernel_rfl) (HSB.out _ ((Below.refl _ _).drew)) (fun hHeld => ?_)
            have hbd0 := Lib.hid ((Below.refl wk.heap.size wk).drew)
            generalize wk.drew = wd at *
            refine wpAnyL_pure (i := 0) (v := ?vp56) rfl (by kernel_rfl) (by kernel_rfl) (by kernel_rfl) (fun _ _ _ h => h) (Or.inl ⟨by rfl, ?hyp56⟩) ?_
            case hyp56 => (intro w _; (go_simp) <;> (with_reducible rfl))
            try simp only [Act.put, List.getElem_toArray, List.getElem_cons_zero, List.getElem_cons_succ, List.setIfInBounds_toArray, List.set_cons_zero, List.set_cons_succ]
            refine wpAnyL_pure (i := 1) (v := ?vp57) rfl (by kernel_rfl) (by kernel_rfl) (by kernel_rfl) (fun _ _ _ h => h) (Or.inl ⟨by rfl, ?hyp57⟩) ?_
            case hyp57 => (intro w _; (go_simp) <;> (with_reducible rfl))
            try simp only [Act.put, List.getElem_toArray, List.getElem_cons_zero, List.getElem_cons_succ, List.setIfInBounds_toArray, List.set_cons_zero, List.set_cons_succ]
            refine wpAnyL_take (i := 2) (v := ?vp58) rfl (by kernel_rfl) (by kernel_rfl) (by kernel_rfl) (by kernel_rfl) (fun _ _ _ h => h) (Or.inl ⟨by rfl, ?hyp58⟩) (by assumption) ?_
            case hyp58 => (intro w hSw; replace hSw := (HS21.out w).1 hSw; (go_simp) <;> (with_reducible rfl))
            try simp only [Act.put, List.getElem_toArray, List.getElem_cons_zero, List.getElem_cons_succ, List.setIfInBounds_toArray, List.set_cons_zero, List.set_cons_succ]
            refine wpAnyL_take (i := 3) (v := ?vp59) rfl (by kernel_rfl) (by kernel_rfl) (by kernel_rfl) (by kernel_rfl) (fun _ _ _ h => h) (Or.inl ⟨by rfl, ?hyp59⟩) (by assumption) ?_
            case hyp59 => (intro w hSw; replace hSw := (HS21.out w).1 hSw; (go_simp) <;> (with_reducible rfl))
            try simp only [Act.put, List.getElem_toArray, List.getElem_cons_zero, List.getElem_cons_succ, List.setIfInBounds_toArray, List.set_cons_zero, List.set_cons_succ]
            refine wpAnyL_all (rs := [4, 8]) (by kernel_rfl) (by simp) (fun j hj => ?_)
            simp only [List.mem_cons, List.not_mem_nil, or_false] at hj
            rcases hj with rfl | rfl
            · skip
              refine wpOpL (by rfl) (fun K hK => ?_)
              go_simp
              go_at_call 11
              refine (HML.out _).mono ?_
              rintro e w5 ⟨rfl, b5⟩
              have hb5 := Lib.hid (hbd0.out.trans (b5.mono hbd0.out.size))
              go_wp2_with fail
              refine hK.out _ _ (fun _ _ => HSB.out _ hb5.out) ?_
              clear hK K b5
              try simp only [Act.put, List.getElem_toArray, List.getElem_cons_zero, List.getElem_cons_succ, List.setIfInBounds_toArray, List.set_cons_zero, List.set_cons_succ]
              refine wpAnyL_pure (i := 5) (v := ?vp60) rfl (by kernel_rfl) (by kernel_rfl) (by kernel_rfl) (fun _ _ _ h => h) (Or.inl ⟨by rfl, ?hyp60⟩) ?_
              case hyp60 => (intro w _; (go_simp) <;> (with_reducible rfl))
              try simp only [Act.put, List.getElem_toArray, List.getElem_cons_zero, List.getElem_cons_succ, List.setIfInBounds_toArray, List.set_cons_zero, List.set_cons_succ]
              refine wpAnyL_pure (i := 6) (v := ?vp61) rfl (by kernel_rfl) (by kernel_rfl) (by kernel_rfl) (fun _ _ _ h => h) (Or.inl ⟨by rfl, ?hyp61⟩) ?_
              case hyp61 => (intro w _; (go_simp) <;> (with_reducible rfl))
              try simp only [Act.put, List.getElem_toArray, List.getElem_cons_zero, List.getElem_cons_succ, List.setIfInBounds_toArray, List.set_cons_zero, List.set_cons_succ]
              refine wpAnyL_pure (i := 7) (v := ?vp62) rfl (by kernel_rfl) (by kernel_rfl) (by kernel_rfl) (fun _ _ _ h => h) (Or.inl ⟨by rfl, ?hyp62⟩) ?_
              case hyp62 => (intro w _; (go_simp) <;> (with_reducible rfl))
              try simp only [Act.put, List.getElem_toArray, List.getElem_cons_zero, List.getElem_cons_succ, List.setIfInBounds_toArray, List.set_cons_zero, List.set_cons_succ]
              refine wpAnyL_all (rs := [8]) (by kernel_rfl) (by simp) (fun j hj => ?_)
              obtain rfl := List.mem_singleton.1 hj
              clear hj
              refine wpOpL (by rfl) (fun K hK => ?_)
              go_simp
              have b6 := below_alloc w5 (.cells #[.int .i64 0, .int .i64 0, .int .i64 0, .int .i64 0] 37)
              have hb6 := Lib.hid (hb5.out.trans (b6.mono hb5.out.size))
              refine hK.out _ _ (fun _ _ => HSB.out _ hb6.out) ?_
              clear hK K b6
              try simp only [Act.put, List.getElem_toArray, List.getElem_cons_zero, List.getElem_cons_succ, List.setIfInBounds_toArray, List.set_cons_zero, List.set_cons_succ]
              refine wpAnyL_all (rs := [9]) (by kernel_rfl) (by simp) (fun j hj => ?_)
              obtain rfl := List.mem_singleton.1 hj
              clear hj
              refine wpOpL (by rfl) (fun K hK => ?_)
              go_simp
              have v6 := Vals.newL w5 w5.heap.size [.int .i64 pa, .int .i64 pb, .int .i64 pc, .int .i64 pd] 37 rfl
              have b6 := below_alloc w5 (.cells #[.int .i64 pa, .int .i64 pb, .int .i64 pc, .int .i64 pd] 37)
              have hb7 := Lib.hid (hb5.out.trans (b6.mono hb5.out.size))
              have HV6 := Lib.hid v6
              refine hK.out _ _ (fun h => absurd h (by decide)) ?_
              clear hK K b6 v6
              try simp only [Act.put, List.getElem_toArray, List.getElem_cons_zero, List.getElem_cons_succ, List.setIfInBounds_toArray, List.set_cons_zero, List.set_cons_succ]
              refine wpAnyL_pure (i := 10) (v := ?vp63) rfl (by kernel_rfl) (by kernel_rfl) (by kernel_rfl) (fun _ _ _ h => h) (Or.inl ⟨by rfl, ?hyp63⟩) ?_
              case hyp63 => (intro w _; (go_simp) <;> (with_reducible rfl))
              try simp only [Act.put, List.getElem_toArray, List.getElem_cons_zero, List.getElem_cons_succ, List.setIfInBounds_toArray, List.set_cons_zero, List.set_cons_succ]
              refine wpAnyL_done (by kernel_rfl) ?_ _
              clear hHeld HSB hb6
              go_wp2
              go_meet
              exact ⟨_, rfl, rfl, HV6.out, hb7.out⟩
            · skip
              refine wpOpL (by rfl) (fun K hK => ?_)
              go_simp
              have va := Vals.newL wd wd.heap.size [.int .i64 0, .int .i64 0, .int .i64 0, .int .i64 0] 37 rfl
              have b6 := below_alloc wd (.cells #[.int .i64 0, .int .i64 0, .int .i64 0, .int .i64 0] 37)
              have hb6 := Lib.hid (hbd0.out.trans (b6.mono hbd0.out.size))
              have hwb : wk.heap.size ≤ wd.heap.size := hbd0.out.size
              refine hK.out _ _ (fun _ _ => HSB.out _ hb6.out) ?_
              clear hK K b6
              try simp only [Act.put, List.getElem_toArray, List.getElem_cons_zero, List.getElem_cons_succ, List.setIfInBounds_toArray, List.set_cons_zero, List.set_cons_succ]
              generalize wd.alloc (.cells #[.int .i64 0, .int .i64 0, .int .i64 0, .int .i64 0] 37) = wa at *
              obtain ⟨bn, hbn⟩ : ∃ q, wd.heap.size = q := ⟨_, rfl⟩
              rw [hbn] at va hwb ⊢
              clear hbn
              refine wpAnyL_all (rs := [4]) (by kernel_rfl) (by simp) (fun j hj => ?_)
              obtain rfl := List.mem_singleton.1 hj
              clear hj
              refine wpOpL (by rfl) (fun K hK => ?_)
              go_simp
              go_at_call 11
              refine (HML.out _).mono ?_
              rintro e w5 ⟨rfl, b5⟩
              have hb5 := Lib.hid (hb6.out.trans (b5.mono hb6.out.size))
              replace va := va.mono b5
              go_wp2_with fail
              refine hK.out _ _ (fun _ _ => HSB.out _ hb5.out) ?_
              clear hK K b5
              try simp only [Act.put, List.getElem_toArray, List.getElem_cons_zero, List.getElem_cons_succ, List.setIfInBounds_toArray, List.set_cons_zero, List.set_cons_succ]
              refine wpAnyL_pure (i := 5) (v := ?vp64) rfl (by kernel_rfl) (by kernel_rfl) (by kernel_rfl) (fun _ _ _ h => h) (Or.inl ⟨by rfl, ?hyp64⟩) ?_
              case hyp64 => (intro w _; (go_simp) <;> (with_reducible rfl))
              try simp only [Act.put, List.getElem_toArray, List.getElem_cons_zero, List.getElem_cons_succ, List.setIfInBounds_toArray, List.set_cons_zero, List.set_cons_succ]
              refine wpAnyL_pure (i := 6) (v := ?vp65) rfl (by kernel_rfl) (by kernel_rfl) (by kernel_rfl) (fun _ _ _ h => h) (Or.inl ⟨by rfl, ?hyp65⟩) ?_
              case hyp65 => (intro w _; (go_simp) <;> (with_reducible rfl))
              try simp only [Act.put, List.getElem_toArray, List.getElem_cons_zero, List.getElem_cons_succ, List.setIfInBounds_toArray, List.set_cons_zero, List.set_cons_succ]
              refine wpAnyL_pure (i := 7) (v := ?vp66) rfl (by kernel_rfl) (by kernel_rfl) (by kernel_rfl) (fun _ _ _ h => h) (Or.inl ⟨by rfl, ?hyp66⟩) ?_
              case hyp66 => (intro w _; (go_simp) <;> (with_reducible rfl))
              try simp only [Act.put, List.getElem_toArray, List.getElem_cons_zero, List.getElem_cons_succ, List.setIfInBounds_toArray, List.set_cons_zero, List.set_cons_succ]
              refine wpAnyL_all (rs := [9]) (by kernel_rfl) (by simp) (fun j hj => ?_)
              obtain rfl := List.mem_singleton.1 hj
              clear hj
              have ca0 := va.cell (i := 0) (by simp)
              have ca1 := va.cell (i := 1) (by simp)
              have ca2 := va.cell (i := 2) (by simp)
              have ca3 := va.cell (i := 3) (by simp)
              simp only [List.getD_cons_zero, List.getD_cons_succ] at ca0 ca1 ca2 ca3
              have fa0 := va.frozen 0
              have fa1 := va.frozen 1
              have fa2 := va.frozen 2
              have fa3 := va.frozen 3
              have lta := va.lt
              have v6 := va.set4 (.int .i64 pa) (.int .i64 pb) (.int .i64 pc) (.int .i64 pd)
              have b6 := below_set4 hb5.out hwb (.int .i64 pa) (.int .i64 pb) (.int .i64 pc) (.int .i64 pd)
              have HV6 := Lib.hid v6
              have hb7 := Lib.hid b6
              clear v6 b6 va
              refine wpOpL (by rfl) (fun K hK => ?_)
              go_simp
              refine hK.out _ _ (fun h => absurd h (by decide)) ?_
              clear hK K ca0 ca1 ca2 ca3 fa0 fa1 fa2 fa3 lta
              try simp only [Act.put, List.getElem_toArray, List.getElem_cons_zero, List.getElem_cons_succ, List.setIfInBounds_toArray, List.set_cons_zero, List.set_cons_succ]
              refine wpAnyL_pure (i := 10) (v := ?vp67) rfl (by kernel_rfl) (by kernel_rfl) (by kernel_rfl) (fun _ _ _ h => h) (Or.inl ⟨by rfl, ?hyp67⟩) ?_
              case hyp67 => (intro w _; (go_simp) <;> (with_reducible rfl))
              try simp only [Act.put, List.getElem_toArray, List.getElem_cons_zero, List.getElem_cons_succ, List.setIfInBounds_toArray, List.set_cons_zero, List.set_cons_succ]
              refine wpAnyL_done (by kernel_rfl) ?_ _
              clear hHeld HSB hb6
              go_wp2
              go_meet
              exact ⟨_, rfl, rfl, HV6.out, hb7.out⟩
          case rest =>
            obtain ⟨bp, rfl, rfl, vp, b6⟩ := hcut
            have B6 := Lib.hid ((below_trans B4.out (by rw [hwk]; exact b45.out)).trans (b6.mono (by rw [hwk]; exact Nat.le_trans B4.out.size b45.out.size)))
            have z0 := vp.cell (i := 0) (by simp)
            have z1 := vp.cell (i := 1) (by simp)
            have z2 := vp.cell (i := 2) (by simp)
            have z3 := vp.cell (i := 3) (by simp)
            simp only [List.getD_cons_zero, List.getD_cons_succ] at z0 z1 z2 z3
            have hlp := vp.lt
            clear vp b6 hwk y0 y1 y2 y3 x0 x1 x2 x3 hlq b45 HML
            go_wp2_with fail
            refine (HOC.out _).mono ?_
            rintro e w8 ⟨rfl, b8⟩
            have B8 := Lib.hid (B6.out.trans (b8.mono B6.out.size))
            have bz := below_alloc w8 (.cells #[.int .i64 0, .int .i64 0, .int .i64 0, .int .i64 1] 37)
            have B9 := Lib.hid (B8.out.trans (bz.mono B8.out.size))
            have EQ := fun w => run_eql_tone ⟨0, 0, 0, 1⟩ ⟨0, 0, 0, 1⟩ w
            dsimp only at EQ
            rw [show eqB ⟨0, 0, 0, 1⟩ ⟨0, 0, 0, 1⟩ = true from rfl] at EQ
            clear b8 bz z0 z1 z2 z3 hlp
            go_wp2
            go_ret
            exact ⟨rfl, B9.out⟩

end Go.Proofs
