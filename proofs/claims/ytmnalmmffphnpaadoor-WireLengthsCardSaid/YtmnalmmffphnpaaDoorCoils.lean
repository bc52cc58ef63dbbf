/- wire.Coils at the one input of the law's 'lives': pieces 6, 4, 5, 5 and coils of 10. -/
import Derived.Test.YtmnalmmffphnpaaDoorWire
import Derived.Deep.OwnRows
import Derived.BigRegion
open Go.RowKit Go.Deep
namespace Go.Proofs
set_option linter.unusedVariables false
set_option linter.unusedSimpArgs false

def P4 : List Nat := [6, 4, 5, 5]
def sumK (k : Nat) : Nat → Nat
  | 0 => 0
  | i + 1 => sumK k i + if k / 2 ^ i % 2 = 1 then P4.getD i 0 else 0
def FT (k : Nat) : Bool := decide (sumK k 4 ≤ 10)
def CT (k : Nat) : Nat := [0, 1, 1, 1, 1, 2, 1, 2, 1, 2, 1, 2, 1, 2, 2, 2].getD k 0
def fstb (k : Nat) : Nat := [0, 1, 2, 1, 4, 1, 2, 1, 8, 1, 2, 1, 4, 1, 2, 1].getD k 0
def PT (k : Nat) : Nat → Nat
  | 0 => k ^^^ fstb k
  | j + 1 => (PT k j - 1) &&& (k ^^^ fstb k)
def CV (k : Nat) : Nat → Nat
  | 0 => 4
  | j + 1 => if FT (PT k j ||| fstb k) then min (CV k j) (1 + CT (k ^^^ PT k j ^^^ fstb k)) else CV k j

theorem tab1 : ∀ k : Nat, k < 16 → ∀ j : Nat, j < 8 → (PT k j ||| fstb k) ≤ k ∧ PT k j < 16 ∧ fstb k < 16 := by decide
theorem tab2 : ∀ k : Nat, k < 16 → ∀ j : Nat, j < 8 → 0 < k → (k ^^^ PT k j ^^^ fstb k) < k := by decide
theorem tab3 : ∀ k : Nat, k < 16 → ∀ j : Nat, j < 8 → (k = 0 ∨ PT k j ≠ 0 ∨ CV k (j + 1) = CT k) := by decide
theorem tab3b : ∀ k : Nat, k < 16 → ∀ j : Nat, j < 8 → (k = 0 ∨ PT k j = 0 ∨ (j + 1 < 8 ∧ PT k (j + 1) < PT k j)) := by decide
theorem tab4 : ∀ k : Nat, k < 16 → bits BinOp.and IntKind.i64 (k : Int) (-(k : Int)) = ((fstb k : Nat) : Int) := by decide
theorem tab5 : ∀ k : Nat, k < 16 → ∀ i : Nat, i < 4 → bits BinOp.and IntKind.i64 ((k : Int) / (2 : Int) ^ i) 1 = if k / 2 ^ i % 2 = 1 then 1 else 0 := by decide

theorem tab6 : ∀ i : Nat, i < 4 → P4.getD i 0 ≤ 6 := by decide
theorem tab7 : ∀ k : Nat, k < 16 → ∀ i : Nat, i < 4 → sumK k i ≤ 20 := by decide
theorem bits_i64 (a b : Nat) (ha : a < 9223372036854775808) (hb : b < 9223372036854775808) :
    bits .and .i64 a b = ((a &&& b : Nat) : Int) ∧ bits .or .i64 a b = ((a ||| b : Nat) : Int) ∧ bits .xor .i64 a b = ((a ^^^ b : Nat) : Int) := by
  have hk : ∀ n : Int, 0 ≤ n → n < 2 ^ 63 → IntKind.i64.wrap n = n := fun n h0 h1 => by rw [IntKind.wrap_i64]; omega
  have h := bits_nat .i64 63 (by simp [IntKind.bits]) hk a b ha hb
  refine ⟨h.1, h.2, ?_⟩
  have hp : (2 : Nat) ^ IntKind.i64.bits = 18446744073709551616 := by simp [IntKind.bits]
  simp only [bits, BitVec.ofInt_natCast, BitVec.toNat_xor, BitVec.toNat_ofNat, hp, Nat.mod_eq_of_lt (show a < 18446744073709551616 by omega), Nat.mod_eq_of_lt (show b < 18446744073709551616 by omega)]
  have := Nat.xor_lt_two_pow (n := 63) ha hb
  exact hk _ (Int.natCast_nonneg _) (by exact_mod_cast this)

theorem tab8 : ∀ k : Nat, k < 16 → ∀ j : Nat, j < 8 → CV k j ≤ 4 := by decide
theorem tab9 : ∀ q : Nat, q < 16 → CT q ≤ 2 := by decide
theorem info_bool : (Tryd.prog.info? 4).map (fun i => (i.zero, i.size, i.bytes)) = some (some (.bool false), 1, 1) := by kernel_rfl
theorem info_int : (Tryd.prog.info? 3).map (fun i => (i.zero, i.size, i.bytes)) = some (some (.int .i64 0), 1, 8) := by kernel_rfl

/-- a block of values -/
def Vals (w : World) (b : Nat) (vs : List Value) : Prop := ∃ e, w.heap[b]? = some (.cells vs.toArray e (0, 0))
theorem Vals.lt {w b vs} (h : Vals w b vs) : b < w.heap.size := by
  obtain ⟨e, h⟩ := h
  exact (Array.getElem?_eq_some_iff.1 h).1
theorem Vals.mono {w w' : World} {b vs} (h : Vals w b vs) (hb : Below w.heap.size w w') : Vals w' b vs := by
  have hl := h.lt
  obtain ⟨e, h⟩ := h
  exact ⟨e, (hb.block b hl).trans h⟩
theorem Vals.cell {w b vs} (h : Vals w b vs) {i : Nat} (hi : i < vs.length) : w.cell? ⟨b, i, none⟩ = some (vs.getD i undef) := by
  obtain ⟨e, h⟩ := h
  simp [World.cell?, h, hi]
theorem Vals.frozen {w b vs} (h : Vals w b vs) (i : Nat) : w.frozen? ⟨b, i, none⟩ = false := by
  obtain ⟨e, h⟩ := h
  simp [World.frozen?, h]
theorem Vals.drew {w b vs} (h : Vals w b vs) : Vals w.drew b vs := h
theorem Vals.alloc {w b vs} (h : Vals w b vs) (o : Obj) : Vals (w.alloc o) b vs := h.mono (below_alloc w o)
theorem Vals.new (w : World) (b : Nat) (vs : List Value) (c : Array Value) (e : TypeId) (hb : b = w.heap.size) (hc : c = vs.toArray) : Vals (w.alloc (.cells c e)) b vs := by
  subst hb; subst hc
  exact ⟨e, heap_alloc_new _ _⟩
theorem made_vals (v : Value) (n : Nat) : madeCells #[v] n = (List.replicate n v).toArray := by
  apply Array.ext
  · simp [madeCells]
  · intro i h1 h2
    simp [madeCells, Nat.mod_one]
theorem Vals.newL (w : World) (b : Nat) (vs : List Value) (e : TypeId) (hb : b = w.heap.size) : Vals (w.alloc (.cells vs.toArray e)) b vs := Vals.new w b vs _ e hb rfl
theorem Vals.newM (w : World) (b : Nat) (v : Value) (n : Nat) (e : TypeId) (hb : b = w.heap.size) : Vals (w.alloc (.cells (madeCells #[v] n) e)) b (List.replicate n v) := Vals.new w b _ _ e hb (made_vals v n)
theorem Vals.of_made {w : World} {b : Nat} {v : Value} {n : Nat} {e : TypeId} (h : w.heap[b]? = some (.cells (madeCells #[v] n) e (0, 0))) : Vals w b (List.replicate n v) := ⟨e, by rw [h, made_vals]⟩
theorem four_blocks (w : World) (o0 o1 o2 o3 : Obj) :
    ((((w.alloc o0).alloc o1).alloc o2).alloc o3).drew.heap[w.heap.size]? = some o0 ∧ ((((w.alloc o0).alloc o1).alloc o2).alloc o3).drew.heap[w.heap.size + 1]? = some o1 ∧
    ((((w.alloc o0).alloc o1).alloc o2).alloc o3).drew.heap[w.heap.size + 1 + 1]? = some o2 ∧ ((((w.alloc o0).alloc o1).alloc o2).alloc o3).drew.heap[w.heap.size + 1 + 1 + 1]? = some o3 ∧
    Below w.heap.size w ((((w.alloc o0).alloc o1).alloc o2).alloc o3).drew := by
  have s1 := World.size_alloc w o0
  have s2 := World.size_alloc (w.alloc o0) o1
  have s3 := World.size_alloc ((w.alloc o0).alloc o1) o2
  have a0 := heap_alloc_new w o0
  have a1 := heap_alloc_new (w.alloc o0) o1
  have a2 := heap_alloc_new ((w.alloc o0).alloc o1) o2
  have a3 := heap_alloc_new (((w.alloc o0).alloc o1).alloc o2) o3
  have b1 := fun k h => Below.heap_alloc (w.alloc o0) o1 k h
  have b2 := fun k h => Below.heap_alloc ((w.alloc o0).alloc o1) o2 k h
  have b3 := fun k h => Below.heap_alloc (((w.alloc o0).alloc o1).alloc o2) o3 k h
  rw [s3, s2, s1] at a3
  rw [s2, s1] at a2
  rw [s1] at a1
  refine ⟨?_, ?_, ?_, a3, ?_⟩
  · exact ((b3 _ (by omega)).trans (b2 _ (by omega))).trans ((b1 _ (by omega)).trans a0)
  · exact (b3 _ (by omega)).trans ((b2 _ (by omega)).trans a1)
  · exact (b3 _ (by omega)).trans a2
  · exact (((((Below.refl _ w).alloc (Nat.le_refl _) _).alloc (by omega) _).alloc (by omega) _).alloc (by omega) _).drew
theorem Vals.other {w b vs} (h : Vals w b vs) (p : Addr) (hp : p.block ≠ b) (u : Value) : Vals (w.setCell p u) b vs := by
  obtain ⟨e, h⟩ := h
  exact ⟨e, (Below.heap_setCell _ _ _ _ (Ne.symm hp)).trans h⟩
theorem Vals.set {w b vs} (h : Vals w b vs) (i : Nat) (u : Value) : Vals (w.setCell ⟨b, i, none⟩ u) b (vs.set i u) := by
  obtain ⟨e, h⟩ := h
  refine ⟨e, ?_⟩
  rw [heap_setCell_same w b i _ e u h]
  simp

theorem CellI.set_other {w : World} {b : Nat} {ns : List Nat} (h : CellI w b ns) (g i : Nat) (u : Value) (hg : g ≠ b) : CellI (w.setCell ⟨g, i, none⟩ u) b ns := by
  refine ⟨by simpa [World.setCell] using h.1, fun j hj => ⟨?_, ?_⟩⟩
  · rw [← (h.2 j hj).1]
    exact World.cell?_setCell_other w ⟨g, i, none⟩ ⟨b, j, none⟩ _ (by intro e; injection e with e1 e2; exact hg e1)
  · rw [World.frozen?_setCell]; exact (h.2 j hj).2

def fitsV (k : Nat) : List Value := (List.range k).map (fun i => Value.bool (FT i)) ++ List.replicate (16 - k) (.bool false)
def coilsV (k : Nat) : List Value := (List.range k).map (fun i => Value.int .i64 ((CT i : Nat) : Int)) ++ List.replicate (16 - k) (.int .i64 0)

theorem fitsV_len {k : Nat} (h : k ≤ 16) : (fitsV k).length = 16 := by simp [fitsV]; omega
theorem coilsV_len {k : Nat} (h : k ≤ 16) : (coilsV k).length = 16 := by simp [coilsV]; omega
theorem fitsV_get {k i : Nat} (h : i < k) : (fitsV k).getD i undef = .bool (FT i) := by
  simp [fitsV, List.getD, List.getElem?_append_left, h]
theorem coilsV_get {k i : Nat} (h : i < k) : (coilsV k).getD i undef = .int .i64 ((CT i : Nat) : Int) := by
  simp [coilsV, List.getD, List.getElem?_append_left, h]
theorem fitsV_at {k : Nat} (h : k < 16) : (fitsV k).getD k undef = .bool false := by
  obtain ⟨m, hm⟩ : ∃ m, 16 - k = m + 1 := ⟨16 - k - 1, by omega⟩
  simp [fitsV, List.getD, hm]
theorem coilsV_at {k : Nat} (h : k < 16) : (coilsV k).getD k undef = .int .i64 0 := by
  obtain ⟨m, hm⟩ : ∃ m, 16 - k = m + 1 := ⟨16 - k - 1, by omega⟩
  simp [coilsV, List.getD, hm]
theorem set_getD_same (l : List Value) (k : Nat) (u : Value) (h : k < l.length) : (l.set k u).getD k undef = u := by simp [List.getD, h]
theorem set_getD_other (l : List Value) (k i : Nat) {u : Value} (h : k ≠ i) : (l.set k u).getD i undef = l.getD i undef := by simp [List.getD, List.getElem?_set_ne h]
theorem snoc_set {A : List Value} {z u : Value} {k n : Nat} (hA : A.length = k) (hk : k < n) : (A ++ List.replicate (n - k) z).set k u = (A ++ [u]) ++ List.replicate (n - (k + 1)) z := by
  obtain ⟨m, hm⟩ : ∃ m, n - k = m + 1 := ⟨n - k - 1, by omega⟩
  rw [hm, List.replicate_succ, List.set_append_right _ _ (by omega), hA, Nat.sub_self, List.set_cons_zero, List.append_assoc]
  rw [show n - (k + 1) = m by omega]
  rfl
theorem fitsV_set {k : Nat} (h : k < 16) : (fitsV k).set k (.bool (FT k)) = fitsV (k + 1) := by
  unfold fitsV
  rw [snoc_set (by simp) h, List.range_succ, List.map_append]
  rfl
theorem coilsV_set {k : Nat} (h : k < 16) : (coilsV k).set k (.int .i64 ((CT k : Nat) : Int)) = coilsV (k + 1) := by
  unfold coilsV
  rw [snoc_set (by simp) h, List.range_succ, List.map_append]
  rfl
theorem coilsV_zero : coilsV 0 = coilsV 1 := rfl

set_option maxRecDepth 100000 in
set_option maxHeartbeats 4000000 in
theorem pack_calls (b : Nat) (c : Nat) (w : World) (hp : CellI w b P4) :
    Calls Tryd.prog 38 #[.slice (some ⟨b, 0, none⟩) 4 c, .int .i64 10] w fun e w' => ∃ bf bc : Nat, e = .returned (.agg #[.slice (some ⟨bf, 0, none⟩) 16 16, .slice (some ⟨bc, 0, none⟩) 16 16]) ∧ w.heap.size ≤ bf ∧ w.heap.size ≤ bc ∧ Vals w' bf (fitsV 16) ∧ Vals w' bc (coilsV 16) ∧ Below w.heap.size w w' := by
  have hbw0 := hp.1
  have hmk1 : ∀ W : World, (Instr.makeSlice 72 (.int .i64 16) (.int .i64 16)).run Tryd.prog W = .ok (.slice (some ⟨W.heap.size, 0, none⟩) 16 16) (W.alloc (.cells (madeCells #[.bool false] 16) 4)) :=
    fun W => run_make_row' (P := Tryd.prog) 72 4 (.bool false) 1 Tryd.underlying72 info_bool rfl .i64 .i64 16 (by omega) (by omega) W
  have hmk2 : ∀ W : World, (Instr.makeSlice 24 (.int .i64 16) (.int .i64 16)).run Tryd.prog W = .ok (.slice (some ⟨W.heap.size, 0, none⟩) 16 16) (W.alloc (.cells (madeCells #[.int .i64 0] 16) 3)) :=
    fun W => run_make_row' (P := Tryd.prog) 24 3 (.int .i64 0) 8 Tryd.underlying24 info_int rfl .i64 .i64 16 (by omega) (by omega) W
  go_enter Tryd.func38, Tryd.ntmps38
  go_upto_region 2 with (fail)
  go_cut [6] from 16 to 20 (fun pv wx => ∃ p bf bc : Nat, pv = .pointer (some ⟨p, 0, none⟩) ∧ w.heap.size < p ∧ w.heap.size < bf ∧ w.heap.size < bc ∧ p ≠ bf ∧ p ≠ bc ∧ bf ≠ bc ∧
      Vals wx p [.slice (some ⟨bf, 0, none⟩) 16 16, .slice (some ⟨bc, 0, none⟩) 16 16] ∧ Vals wx bf (List.replicate 16 (.bool false)) ∧ Vals wx bc (List.replicate 16 (.int .i64 0)) ∧ Vals wx w.heap.size [.slice none 0 0, .slice none 0 0] ∧ Below w.heap.size w wx)
  case first =>
    go_region
    all_goals go_wp2
    all_goals go_meet
    · obtain ⟨h0, h1, h2, h3, hb⟩ := four_blocks w _ _ _ _
      exact ⟨_, w.heap.size + 1, w.heap.size + 1 + 1, rfl, by omega, by omega, by omega, by omega, by omega, by omega, ⟨_, h3⟩, .of_made h1, .of_made h2, ⟨_, h0⟩, hb⟩
    · obtain ⟨h0, h1, h2, h3, hb⟩ := four_blocks w _ _ _ _
      exact ⟨_, w.heap.size + 1, w.heap.size + 1 + 1 + 1, rfl, by omega, by omega, by omega, by omega, by omega, by omega, ⟨_, h2⟩, .of_made h1, .of_made h3, ⟨_, h0⟩, hb⟩
    · obtain ⟨h0, h1, h2, h3, hb⟩ := four_blocks w _ _ _ _
      exact ⟨_, w.heap.size + 1 + 1, w.heap.size + 1, rfl, by omega, by omega, by omega, by omega, by omega, by omega, ⟨_, h3⟩, .of_made h2, .of_made h1, ⟨_, h0⟩, hb⟩
    · obtain ⟨h0, h1, h2, h3, hb⟩ := four_blocks w _ _ _ _
      exact ⟨_, w.heap.size + 1 + 1 + 1, w.heap.size + 1, rfl, by omega, by omega, by omega, by omega, by omega, by omega, ⟨_, h2⟩, .of_made h3, .of_made h1, ⟨_, h0⟩, hb⟩
    · obtain ⟨h0, h1, h2, h3, hb⟩ := four_blocks w _ _ _ _
      exact ⟨_, w.heap.size + 1 + 1, w.heap.size + 1 + 1 + 1, rfl, by omega, by omega, by omega, by omega, by omega, by omega, ⟨_, h1⟩, .of_made h2, .of_made h3, ⟨_, h0⟩, hb⟩
    · obtain ⟨h0, h1, h2, h3, hb⟩ := four_blocks w _ _ _ _
      exact ⟨_, w.heap.size + 1 + 1 + 1, w.heap.size + 1 + 1, rfl, by omega, by omega, by omega, by omega, by omega, by omega, ⟨_, h1⟩, .of_made h3, .of_made h2, ⟨_, h0⟩, hb⟩
  case rest =>
  obtain ⟨p, bf, bc, rfl, hp0, hf0, hc0, hpf, hpc, hfc, vp, vf, vc, vr, hbel⟩ := hcut
  replace hp := hp.mono hbel
  have hbw : b < w.heap.size := hbw0
  clear hmk1 hmk2 hbw0
  go_wp2
  go_loopw [22] (fun kv wr => ∃ k : Nat, k ≤ 16 ∧ kv = .int .i64 k ∧ Vals wr p [.slice (some ⟨bf, 0, none⟩) 16 16, .slice (some ⟨bc, 0, none⟩) 16 16] ∧ Vals wr bf (fitsV k) ∧ Vals wr bc (coilsV k) ∧ Vals wr w.heap.size [.slice none 0 0, .slice none 0 0] ∧ CellI wr b P4 ∧ Below w.heap.size w wr)
    (fun kv _ => 16 - (intOf kv).toNat)
  case atStart => exact ⟨0, by omega, rfl, vp, vf, vc, vr, hp, hbel⟩
  case round =>
    obtain ⟨k, hk, rfl, vp, vf, vc, vr, hp, hbel⟩ := hrel
    by_cases hlt : k < 16
    · have t1 : (k : Int) < 16 := by omega
      go_wp2
      go_loopw [8, 27] (fun sv iv wi => ∃ i : Nat, i ≤ 4 ∧ iv = .int .i64 i ∧ sv = .int .i64 ((sumK k i : Nat) : Int) ∧ wi = wr) (fun _ iv _ => 4 - (intOf iv).toNat)
      case atStart => exact ⟨0, by omega, rfl, rfl, rfl⟩
      case round =>
        obtain ⟨i, hi, rfl, rfl, rfl⟩ := hrel
        by_cases hi4 : i < 4
        · have hcell := (hp.2 i hi4).1
          have hbit := tab5 k hlt i hi4
          have hs : sumK k (i + 1) = sumK k i + if k / 2 ^ i % 2 = 1 then P4.getD i 0 else 0 := rfl
          have Hs := Lib.hid hs
          have t2 : (i : Int) < 4 := by omega
          obtain ⟨x, ex⟩ : ∃ x, P4.getD i 0 = x := ⟨_, rfl⟩
          have hx9 : x ≤ 6 := by rw [← ex]; exact tab6 i hi4
          have hsm : sumK k i ≤ 20 := tab7 k hlt i hi4
          rw [ex] at hcell Hs
          generalize sumK k i = s at *
          clear hs ex
          by_cases hb1 : k / 2 ^ i % 2 = 1
          · rw [if_pos hb1] at hbit
            have Hs2 := Hs.out
            rw [if_pos hb1] at Hs2
            have Hs3 := Lib.hid Hs2
            clear Hs2 hb1
            go_wp2
            go_roundw
            case rel => exact ⟨i + 1, by omega, by go_num, by rw [Hs3.out]; go_num, trivial⟩
            case measure => simp [intOf]; omega
          · rw [if_neg hb1] at hbit
            have Hs2 := Hs.out
            rw [if_neg hb1, Nat.add_zero] at Hs2
            have Hs3 := Lib.hid Hs2
            clear Hs2 hb1
            go_wp2
            go_roundw
            case rel => exact ⟨i + 1, by omega, by go_num, by rw [Hs3.out]; rfl, trivial⟩
            case measure => simp [intOf]; omega
        · obtain rfl : i = 4 := by omega
          have t2 : ¬ ((4 : Nat) : Int) < 4 := by omega
          have cf := vp.cell (i := 0) (by simp)
          have cc := vp.cell (i := 1) (by simp)
          have gk := vf.cell (i := k) (by rw [fitsV_len hk]; omega)
          rw [fitsV_at hlt] at gk
          have gz := vf.frozen k
          have hF : decide (((sumK k 4 : Nat) : Int) ≤ 10) = FT k := by rw [FT, decide_eq_decide]; omega
          simp only [List.getD_cons_zero, List.getD_cons_succ] at cf cc
          have gck := vc.cell (i := k) (by rw [coilsV_len hk]; omega)
          rw [coilsV_at hlt] at gck
          have gcz := vc.frozen k
          generalize sumK k 4 = s at *
          have hki : (k : Int) < 16 := by omega
          have n1 : bf ≠ bc := hfc
          have n2 : bc ≠ bf := Ne.symm hfc
          have hlt' := hlt
          have vf1 : Vals (wr.setCell ⟨bf, k, none⟩ (.bool (FT k))) bf (fitsV (k + 1)) := by rw [← fitsV_set hlt]; exact vf.set k _
          have vp1 := vp.other ⟨bf, k, none⟩ (Ne.symm hpf) (.bool (FT k))
          have vc1 := vc.other ⟨bf, k, none⟩ n1 (.bool (FT k))
          have vr1 := vr.other ⟨bf, k, none⟩ (show bf ≠ w.heap.size by omega) (.bool (FT k))
          have hp1 := hp.set_other bf k (.bool (FT k)) (show bf ≠ b by omega)
          have hb1 := hbel.setCell (p := ⟨bf, k, none⟩) (show w.heap.size ≤ bf by omega) (.bool (FT k))
          clear hlt hi4
          by_cases hk0 : k = 0
          · have hk0b : ((k : Int) == 0) = true := by rw [hk0]; rfl
            have hcz : coilsV k = coilsV (k + 1) := by rw [hk0]; exact coilsV_zero
            rw [hcz] at vc1
            clear hk0 hcz vf vc vp vr hp hbel
            go_wp2
            go_roundw
            case rel => exact ⟨k + 1, by omega, by go_num, vp1, vf1, vc1, vr1, hp1, hb1⟩
            case measure => simp [intOf]; omega
          · have hk0b : ((k : Int) == 0) = false := by rw [beq_eq_false_iff_ne]; omega
            have hand := tab4 k hlt'
            have hf16 := (tab1 k hlt' 0 (by omega)).2.2
            have hxor := (bits_i64 k (fstb k) (by omega) (by omega)).2.2
            have hpt0 : k ^^^ fstb k = PT k 0 := rfl
            rw [hpt0] at hxor
            have vc2 : Vals ((wr.setCell ⟨bf, k, none⟩ (.bool (FT k))).setCell ⟨bc, k, none⟩ (.int .i64 4)) bc ((coilsV k).set k (.int .i64 ((CV k 0 : Nat) : Int))) := vc1.set k _
            have vf2 := vf1.other ⟨bc, k, none⟩ n2 (.int .i64 4)
            have vp2 := vp1.other ⟨bc, k, none⟩ (Ne.symm hpc) (.int .i64 4)
            have vr2 := vr1.other ⟨bc, k, none⟩ (show bc ≠ w.heap.size by omega) (.int .i64 4)
            have hp2 := hp1.set_other bc k (.int .i64 4) (show bc ≠ b by omega)
            have hb2 := hb1.setCell (p := ⟨bc, k, none⟩) (show w.heap.size ≤ bc by omega) (.int .i64 4)
            have HK0 := Lib.hid hk0
            clear hk0 hpt0 vf vc vp vr hp hbel vf1 vc1 vp1 vr1 hp1 hb1
            go_wp2
            go_loopw [12] (fun pv wi => ∃ j : Nat, j < 8 ∧ pv = .int .i64 ((PT k j : Nat) : Int) ∧ Vals wi p [.slice (some ⟨bf, 0, none⟩) 16 16, .slice (some ⟨bc, 0, none⟩) 16 16] ∧ Vals wi bf (fitsV (k + 1)) ∧
                Vals wi bc ((coilsV k).set k (.int .i64 ((CV k j : Nat) : Int))) ∧ Vals wi w.heap.size [.slice none 0 0, .slice none 0 0] ∧ CellI wi b P4 ∧ Below w.heap.size w wi)
              (fun pv _ => (intOf pv).toNat)
            case atStart => exact ⟨0, by omega, rfl, vp2, vf2, vc2, vr2, hp2, hb2⟩
            case round =>
              obtain ⟨j, hj, rfl, vp, vf, vc, vr, hp, hbel⟩ := hrel
              clear vp2 vf2 vc2 vr2 hp2 hb2
              obtain ⟨a, ea⟩ : ∃ a, PT k j ||| fstb k = a := ⟨_, rfl⟩
              obtain ⟨m, em⟩ : ∃ m, PT k j = m := ⟨_, rfl⟩
              obtain ⟨f, ef⟩ : ∃ f, fstb k = f := ⟨_, rfl⟩
              have h1 := tab1 k hlt' j hj
              have h2 := tab2 k hlt' j hj (by have := HK0.out; omega)
              have h3 := (tab3 k hlt' j hj).resolve_left HK0.out
              have h3b := (tab3b k hlt' j hj).resolve_left HK0.out
              have hcv : CV k (j + 1) = if FT (PT k j ||| fstb k) then min (CV k j) (1 + CT (k ^^^ PT k j ^^^ fstb k)) else CV k j := rfl
              have hptn : PT k (j + 1) = (PT k j - 1) &&& (k ^^^ fstb k) := rfl
              have hcvb : CV k j ≤ 4 := tab8 k hlt' j hj
              have hpt0 : k ^^^ fstb k = PT k 0 := rfl
              rw [hpt0] at hptn
              have hy16 := (tab1 k hlt' 0 (by omega)).2.1
              rw [ea] at h1 hcv
              rw [em] at h1 h2 h3 h3b hcv hptn ⊢
              rw [ef] at h1 h2 hcv hand hxor ⊢
              obtain ⟨q, eq⟩ : ∃ q, k ^^^ m ^^^ f = q := ⟨_, rfl⟩
              have hxm := (bits_i64 k m (by omega) (by omega)).2.2
              have hxm16 : k ^^^ m < 16 := Nat.xor_lt_two_pow (n := 4) hlt' h1.2.1
              have hxq := (bits_i64 (k ^^^ m) f (by omega) (by omega)).2.2
              rw [eq] at h2 hcv hxq
              have hor := (bits_i64 m f (by omega) (by omega)).2.1
              rw [show m ||| f = a by rw [← em, ← ef, ea]] at hor
              obtain ⟨y, ey⟩ : ∃ y, PT k 0 = y := ⟨_, rfl⟩
              rw [ey] at hptn hy16 hxor
              have hay := (bits_i64 (m - 1) y (by omega) (by omega)).1
              rw [← hptn] at hay
              generalize k ^^^ m = km at *
              obtain ⟨c0, ec0⟩ : ∃ c0, CV k j = c0 := ⟨_, rfl⟩
              rw [ec0] at hcv hcvb vc
              have cf := vp.cell (i := 0) (by simp)
              have cc := vp.cell (i := 1) (by simp)
              simp only [List.getD_cons_zero, List.getD_cons_succ] at cf cc
              have ca := vf.cell (i := a) (by rw [fitsV_len (by omega)]; omega)
              rw [fitsV_get (by omega)] at ca
              have ck := vc.cell (i := k) (by rw [List.length_set, coilsV_len hk]; omega)
              rw [set_getD_same _ _ _ (by rw [coilsV_len hk]; omega)] at ck
              have cz := vc.frozen k
              have cq := vc.cell (i := q) (by rw [List.length_set, coilsV_len hk]; omega)
              rw [set_getD_other _ _ _ (by omega), coilsV_get h2] at cq
              have hct : CT q ≤ 2 := tab9 q (by omega)
              have ha16 : (a : Int) < 16 := by omega
              have hq16 : (q : Int) < 16 := by omega
              generalize CT q = ctq at *
              have Hcv := Lib.hid hcv
              have H3 := Lib.hid h3
              have H3b := Lib.hid h3b
              have Ec0 := Lib.hid ec0
              have hmn : 0 < m → IntKind.i64.wrap ((m : Int) - 1) = ((m - 1 : Nat) : Int) := fun h => by rw [IntWalk.i64_in _ (by omega)]; omega
              clear hcv h3 h3b ec0 ea em ef eq ey hptn hy16 hxm16 hpt0
              obtain ⟨ft, eft⟩ : ∃ ft, FT a = ft := ⟨_, rfl⟩
              rw [eft] at ca Hcv
              clear eft
              cases ft with
              | false =>
                have hcv := Hcv.out
                rw [if_neg (by simp)] at hcv
                by_cases hm0 : m = 0
                · have hfin := (H3.out.resolve_left (fun h => h hm0))
                  rw [hcv] at hfin
                  rw [hfin, coilsV_set hlt'] at vc
                  have q0 : ((m : Int) == 0) = true := by rw [hm0]; rfl
                  clear hcv hm0 hfin hmn
                  go_wp2
                  go_roundw
                  case rel => exact ⟨k + 1, by omega, by go_num, vp, vf, vc, vr, hp, hbel⟩
                  case measure => simp [intOf]; omega
                · have hj2 := (H3b.out.resolve_left hm0)
                  have q0 : ((m : Int) == 0) = false := by rw [beq_eq_false_iff_ne]; omega
                  have hmn' := hmn (by omega)
                  have Hcv2 := Lib.hid hcv
                  have Hj2 := Lib.hid hj2
                  clear hcv hm0 hmn hj2
                  go_wp2
                  go_roundw
                  case rel => exact ⟨j + 1, Hj2.out.1, by go_num, vp, vf, by rw [Hcv2.out]; exact vc, vr, hp, hbel⟩
                  case measure => have := Hj2.out.2; simp [intOf]; omega
              | true =>
                have hcv := Hcv.out
                rw [if_pos rfl] at hcv
                obtain ⟨c1, ec1⟩ : ∃ c1, min c0 (1 + ctq) = c1 := ⟨_, rfl⟩
                rw [ec1] at hcv
                have hmin : min (c0 : Int) (1 + (ctq : Int)) = (c1 : Int) := by omega
                have vc3 : Vals (wr.setCell ⟨bc, k, none⟩ (.int .i64 (c1 : Int))).drew bc ((coilsV k).set k (.int .i64 (c1 : Int))) := by
                  have := (vc.set k (.int .i64 (c1 : Int))).drew
                  rwa [List.set_set] at this
                have vf3 := (vf.other ⟨bc, k, none⟩ n2 (.int .i64 (c1 : Int))).drew
                have vp3 := (vp.other ⟨bc, k, none⟩ (Ne.symm hpc) (.int .i64 (c1 : Int))).drew
                have vr3 := (vr.other ⟨bc, k, none⟩ (show bc ≠ w.heap.size by omega) (.int .i64 (c1 : Int))).drew
                have hp3 : CellI (wr.setCell ⟨bc, k, none⟩ (.int .i64 (c1 : Int))).drew b P4 := hp.set_other bc k (.int .i64 (c1 : Int)) (show bc ≠ b by omega)
                have hb3 := (hbel.setCell (p := ⟨bc, k, none⟩) (show w.heap.size ≤ bc by omega) (.int .i64 (c1 : Int))).drew
                obtain ⟨W3, eW⟩ : ∃ W3, (wr.setCell ⟨bc, k, none⟩ (.int .i64 (c1 : Int))).drew = W3 := ⟨_, rfl⟩
                rw [eW] at vc3 vf3 vp3 vr3 hp3 hb3
                have EW := Lib.hid eW
                clear ec1 vf vp vc vr hp hbel eW
                go_upto_region 20 with (fail)
                go_cut [12] from 76 to 95 (fun u wx => u = .int .i64 (m : Int) ∧ wx = W3)
                case first =>
                  go_region
                  go_wp2
                  go_meet
                  exact ⟨rfl, EW.out⟩
                case rest =>
                obtain ⟨rfl, rfl⟩ := hcut
                clear cf cc ck cz cq ca
                by_cases hm0 : m = 0
                · have hfin := (H3.out.resolve_left (fun h => h hm0))
                  rw [hcv] at hfin
                  have evs : (coilsV k).set k (.int .i64 (c1 : Int)) = coilsV (k + 1) := by rw [hfin]; exact coilsV_set hlt'
                  rw [evs] at vc3
                  have q0 : ((m : Int) == 0) = true := by rw [hm0]; rfl
                  clear hcv hm0 hfin hmn evs
                  go_wp2
                  go_roundw
                  case rel => exact ⟨k + 1, by omega, by go_num, vp3, vf3, vc3, vr3, hp3, hb3⟩
                  case measure => simp [intOf]; omega
                · have hj2 := (H3b.out.resolve_left hm0)
                  have q0 : ((m : Int) == 0) = false := by rw [beq_eq_false_iff_ne]; omega
                  have hmn' := hmn (by omega)
                  have Hcv2 := Lib.hid hcv
                  have Hj2 := Lib.hid hj2
                  clear hcv hm0 hmn hj2
                  go_wp2
                  go_roundw
                  case rel => exact ⟨j + 1, Hj2.out.1, by go_num, vp3, vf3, by rw [Hcv2.out]; exact vc3, vr3, hp3, hb3⟩
                  case measure => have := Hj2.out.2; simp [intOf]; omega
    · obtain rfl : k = 16 := by omega
      have t1 : ¬ ((16 : Nat) : Int) < 16 := by omega
      have cf := vp.cell (i := 0) (by simp)
      have cc := vp.cell (i := 1) (by simp)
      have cr := vr.cell (i := 0) (by simp)
      have cs := vr.cell (i := 1) (by simp)
      have zr := vr.frozen 0
      have zs := vr.frozen 1
      simp only [List.getD_cons_zero, List.getD_cons_succ] at cf cc cr cs
      clear hlt
      have vr2 := (vr.set 0 (.slice (some ⟨bf, 0, none⟩) 16 16)).set 1 (.slice (some ⟨bc, 0, none⟩) 16 16)
      have vf2 := (vf.other ⟨w.heap.size, 0, none⟩ (show w.heap.size ≠ bf by omega) (.slice (some ⟨bf, 0, none⟩) 16 16)).other ⟨w.heap.size, 1, none⟩ (show w.heap.size ≠ bf by omega) (.slice (some ⟨bc, 0, none⟩) 16 16)
      have vc2 := (vc.other ⟨w.heap.size, 0, none⟩ (show w.heap.size ≠ bc by omega) (.slice (some ⟨bf, 0, none⟩) 16 16)).other ⟨w.heap.size, 1, none⟩ (show w.heap.size ≠ bc by omega) (.slice (some ⟨bc, 0, none⟩) 16 16)
      have hb2 := (hbel.setCell (p := ⟨w.heap.size, 0, none⟩) (Nat.le_refl _) (.slice (some ⟨bf, 0, none⟩) 16 16)).setCell (p := ⟨w.heap.size, 1, none⟩) (Nat.le_refl _) (.slice (some ⟨bc, 0, none⟩) 16 16)
      clear vp vf vc vr hp hbel
      go_wp2
      obtain ⟨te, hg⟩ := vr2
      refine bodyPost_ret_by (results_cell_row rfl _ _ w.heap.size te _ (0, 0) _ rfl hg Tryd.underlying74 rfl (by kernel_rfl)) rfl ?_
      exact ⟨bf, bc, rfl, by omega, by omega, vf2, vc2, hb2⟩

end Go.Proofs
