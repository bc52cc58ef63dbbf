/- balances.add balances.do. book.changes. Plain facts on decimal texts; no program in sight. book.name, book.entry: what is accepted. balances.refused. -/
import Derived.Test.YtghbjhcbldnenaaGreatDoorPk07
import Derived.WalkArith
import Derived.Lib.Hide
import Derived.Lib.Strings
import Derived.Test.YtghbjhcbldnenaaGreatDoorShelf

section
open Go.RowKit Go.Deep Go.Maps
namespace Go.Proofs
set_option linter.unusedVariables false
set_option linter.unusedSimpArgs false

theorem wf_of {z : Int} (h : -9223372036854775808 ≤ z ∧ z < 9223372036854775808) : (Lit.int .i64 z).wf = true := by
  simp only [Lit.wf, IntKind.min, IntKind.max, IntKind.signed, IntKind.bits, Bool.and_eq_true, decide_eq_true_eq]
  simp
  omega

set_option maxHeartbeats 4000000 in
theorem add_calls (w : World) (mb n : Nat) (f : Bal) (h : ByteArray → ByteArray → Bool) (a i : ByteArray) (z : Int) (H : BalM w mb n f h) (hn : n < maxLen) (ha : SzB a) (hi : SzB i) (hz : -9223372036854775808 ≤ f a i + z ∧ f a i + z < 9223372036854775808) :
    Calls Tryz.prog 33 #[.map (some mb), .agg #[.string a, .string i], .int .i64 z] w fun e w' => e = .returned (.tuple #[]) ∧ BalM w' mb (n + 1) (upd f a i (f a i + z)) (updB h a i (decide (f a i + z ≠ 0))) ∧ w.grownBy w' (some mb) := by
  obtain ⟨x, hx⟩ : ∃ x, f a i = x := ⟨_, rfl⟩
  obtain ⟨y, hy⟩ : ∃ y, x + z = y := ⟨_, rfl⟩
  have hlt := H.lt
  have hv0 := Vals.newL w w.heap.size [.string a, .string i] 81 rfl
  have H0 : BalM (w.alloc (.cells #[.string a, .string i] 81)) mb n f h := H.below (below_alloc _ _)
  have g0 : w.grownBy (w.alloc (.cells #[.string a, .string i] 81)) (some mb) := (World.grownBy_alloc w _ none).but _
  have hsz0 : w.heap.size < (w.alloc (.cells #[.string a, .string i] 81)).heap.size := hv0.lt
  rw [hx] at hz ⊢
  have hwr : IntKind.i64.wrap (x + z) = y := by rw [← hy]; exact IntWalk.i64_in _ (by omega)
  rw [hy] at hz ⊢
  have HX := Lib.hid hx
  have HY := Lib.hid hy
  clear hx hy
  go_enter Tryz.func33, Tryz.ntmps33
  go_upto_region 1 with (fail)
  generalize w.alloc (.cells #[.string a, .string i] 81) = w0 at *
  obtain ⟨bb, hbb⟩ : ∃ q, w.heap.size = q := ⟨_, rfl⟩
  rw [hbb] at hv0 hsz0 hlt ⊢
  clear hbb
  have hc0 := hv0.cell (i := 0) (by simp)
  have hc1 := hv0.cell (i := 1) (by simp)
  simp only [List.getD_cons_zero, List.getD_cons_succ] at hc0 hc1
  obtain ⟨k1, -⟩ := H0.look mapT_bal ha hi
  rw [HX.out] at k1
  unfold pk at k1
  obtain ⟨S, hS⟩ : ∃ S : World → Prop, ∀ w', S w' ↔ ((Instr.lookup 54 (.map (some mb)) (.agg #[.string a, .string i]) false).run Tryz.prog w' = .ok (.int .i64 x) w' ∧ w'.cell? ⟨bb, 0, none⟩ = some (.string a) ∧ w'.cell? ⟨bb, 1, none⟩ = some (.string i)) := ⟨_, fun _ => Iff.rfl⟩
  have HSS := Lib.hid hS
  have H1 : BalM w0.drew mb n f h := H0
  have hS1 : S w0.drew := by
    obtain ⟨k2, -⟩ := H1.look mapT_bal ha hi
    rw [HX.out] at k2
    exact (hS _).2 ⟨k2, hc0, hc1⟩
  have g1 : w.grownBy w0.drew (some mb) := grown_drew g0
  have hv1 : Vals w0.drew bb [.string a, .string i] := hv0
  have hsz1 : bb < w0.drew.heap.size := hsz0
  clear hS k1 H0 g0 hv0 hc0 hc1 hsz0
  refine wp_region_L (S := S) (lx := [7]) (by kernel_rfl) hS1 (fun hHeld => ?_)
  clear hS1
  generalize w0.drew = wd at *
  obtain ⟨st, w1, m1, m2, m3, m4⟩ := H1.entry hn mapT_bal ha hi
  rw [HX.out] at m1 m2
  unfold pk at m1 m2
  have M4 := Lib.hid m4
  have M2 := Lib.hid m2
  have M3 := Lib.hid m3
  have HSW := Lib.hid (show S w1 from (HSS.out w1).2 ⟨m2, by
    have := (hv1.kept m3.grown (by simp; omega)).cell (i := 0) (by simp)
    simpa using this, by
    have := (hv1.kept m3.grown (by simp; omega)).cell (i := 1) (by simp)
    simpa using this⟩)
  clear m2 m3 m4 H
  refine wpAnyL_pure (i := 0) (v := ?vp1) rfl (by kernel_rfl) (by kernel_rfl) (by kernel_rfl) (fun _ _ _ h => h) (Or.inl ⟨by rfl, ?hyp1⟩) ?_
  case hyp1 => (intro w _; (go_simp) <;> (with_reducible rfl))
  try simp only [Act.put, List.getElem_toArray, List.getElem_cons_zero, List.getElem_cons_succ, List.setIfInBounds_toArray, List.set_cons_zero, List.set_cons_succ]
  refine wpAnyL_take (i := 1) (v := ?vp2) rfl (by kernel_rfl) (by kernel_rfl) (by kernel_rfl) (by kernel_rfl) (fun _ _ _ h => h) (Or.inl ⟨by rfl, ?hyp2⟩) (by assumption) ?_
  case hyp2 => (intro w hSw; replace hSw := (HSS.out w).1 hSw; (go_simp) <;> (with_reducible rfl))
  try simp only [Act.put, List.getElem_toArray, List.getElem_cons_zero, List.getElem_cons_succ, List.setIfInBounds_toArray, List.set_cons_zero, List.set_cons_succ]
  refine wpAnyL_take (i := 2) (v := ?vp3) rfl (by kernel_rfl) (by kernel_rfl) (by kernel_rfl) (by kernel_rfl) (fun _ _ _ h => h) (Or.inl ⟨by rfl, ?hyp3⟩) (by assumption) ?_
  case hyp3 => (intro w hSw; replace hSw := (HSS.out w).1 hSw; (go_simp) <;> (with_reducible rfl))
  try simp only [Act.put, List.getElem_toArray, List.getElem_cons_zero, List.getElem_cons_succ, List.setIfInBounds_toArray, List.set_cons_zero, List.set_cons_succ]
  refine wpAnyL_pure (i := 3) (v := ?vp4) rfl (by kernel_rfl) (by kernel_rfl) (by kernel_rfl) (fun _ _ _ h => h) (Or.inl ⟨by rfl, ?hyp4⟩) ?_
  case hyp4 => (intro w _; (go_simp) <;> (with_reducible rfl))
  try simp only [Act.put, List.getElem_toArray, List.getElem_cons_zero, List.getElem_cons_succ, List.setIfInBounds_toArray, List.set_cons_zero, List.set_cons_succ]
  refine wpAnyL_pure (i := 4) (v := ?vp5) rfl (by kernel_rfl) (by kernel_rfl) (by kernel_rfl) (fun _ _ _ h => h) (Or.inl ⟨by rfl, ?hyp5⟩) ?_
  case hyp5 => (intro w _; (go_simp) <;> (with_reducible rfl))
  try simp only [Act.put, List.getElem_toArray, List.getElem_cons_zero, List.getElem_cons_succ, List.setIfInBounds_toArray, List.set_cons_zero, List.set_cons_succ]
  refine wpAnyL_all (rs := [5]) (by kernel_rfl) (by simp) (fun j hj => ?_)
  obtain rfl := List.mem_singleton.1 hj
  clear hj
  refine wpOpL (by rfl) (fun K hK => ?_)
  go_simp
  refine hK.out _ _ (fun _ _ => HSW.out) ?_
  clear hK K
  try simp only [Act.put, List.getElem_toArray, List.getElem_cons_zero, List.getElem_cons_succ, List.setIfInBounds_toArray, List.set_cons_zero, List.set_cons_succ]
  obtain ⟨w3, s1, s2, s3⟩ := M4.out w1 y rfl (wf_of hz)
  refine wpAnyL_pure (i := 6) (v := ?vp6) rfl (by kernel_rfl) (by kernel_rfl) (by kernel_rfl) (fun _ _ _ h => h) (Or.inl ⟨by rfl, ?hyp6⟩) ?_
  case hyp6 => (intro w _; (go_simp) <;> (with_reducible rfl))
  try simp only [Act.put, List.getElem_toArray, List.getElem_cons_zero, List.getElem_cons_succ, List.setIfInBounds_toArray, List.set_cons_zero, List.set_cons_succ]
  refine wpAnyL_all (rs := [7]) (by kernel_rfl) (by simp) (fun j hj => ?_)
  obtain rfl := List.mem_singleton.1 hj
  clear hj
  refine wpOpL (by rfl) (fun K hK => ?_)
  go_simp
  refine hK.out _ _ (fun h => absurd h (by decide)) ?_
  clear hK K
  try simp only [Act.put, List.getElem_toArray, List.getElem_cons_zero, List.getElem_cons_succ, List.setIfInBounds_toArray, List.set_cons_zero, List.set_cons_succ]
  refine wpAnyL_done (by kernel_rfl) ?_ _
  have gA : wd.grownBy w1 (some mb) := M3.out.grown
  have gB : w1.grownBy w3 (some mb) := s3.grown
  have gW : w.grownBy w3 (some mb) := (g1.andThen gA (fun j h => .inr h)).andThen gB (fun j h => .inr h)
  have hv3 : Vals w3 bb [.string a, .string i] := (hv1.kept gA (by simp; omega)).kept gB (by simp; omega)
  have hc0 := hv3.cell (i := 0) (by simp)
  have hc1 := hv3.cell (i := 1) (by simp)
  simp only [List.getD_cons_zero, List.getD_cons_succ] at hc0 hc1
  obtain ⟨k1, -⟩ := s2.look mapT_bal ha hi
  have e1 : upd f a i y a i = y := by unfold upd; rw [if_pos ⟨rfl, rfl⟩]
  rw [e1] at k1
  unfold pk at k1
  have GW := Lib.hid gW
  have S2 := Lib.hid s2
  clear s1 s3 gA gB gW hv3 hv1 g1 H1 hHeld m1 e1 s2 hsz1
  by_cases hy0 : y = 0
  · obtain ⟨w4, d1, d2, d3⟩ := S2.out.drop mapT_bal ha hi 0
    unfold pk at d1
    have hb0 : (y == 0) = true := by rw [hy0]; rfl
    have hf : upd (upd f a i y) a i 0 = upd f a i y := by
      funext a' i'
      unfold upd
      split
      · exact hy0.symm
      · rfl
    have hh : updB (updB h a i true) a i false = updB h a i (decide (y ≠ 0)) := by
      funext a' i'
      unfold updB
      split
      · rw [hy0]; rfl
      · rfl
    rw [hf, hh] at d2
    have D2 := Lib.hid d2
    have D3 := Lib.hid d3
    clear d2 d3 hf hh hy0
    go_wp2
    go_end0
    exact ⟨rfl, D2.out, GW.out.andThen D3.out.grown (fun j h => .inr h)⟩
  · have hb0 : (y == 0) = false := by simp only [beq_eq_false_iff_ne]; exact hy0
    have hh : updB h a i true = updB h a i (decide (y ≠ 0)) := by rw [decide_eq_true hy0]
    have D2 := Lib.hid (hh ▸ S2.out)
    clear hh hy0
    go_wp2
    go_end0
    exact ⟨rfl, D2.out, GW.out⟩
end Go.Proofs
end

section
open Go.RowKit Go.Deep Go.Maps
namespace Go.Proofs
set_option linter.unusedVariables false
set_option linter.unusedSimpArgs false

def stepM (f : Bal) (m : Mv) : Bal := upd (upd f m.f m.i (f m.f m.i + -m.q)) m.t m.i (upd f m.f m.i (f m.f m.i + -m.q) m.t m.i + m.q)
/-- what the first k moves leave -/
def doN (f : Bal) (L : List Mv) : Nat → Bal
  | 0 => f
  | k + 1 => stepM (doN f L k) (L.getD k mv0)
def Bd (f : Bal) (B : Int) : Prop := ∀ a i, -B ≤ f a i ∧ f a i ≤ B
theorem bd_upd {f : Bal} {B C : Int} (h : Bd f B) (hC : B ≤ C) (a i : ByteArray) {v : Int} (hv : -C ≤ v ∧ v ≤ C) : Bd (upd f a i v) C := by
  intro a' i'
  have := h a' i'
  unfold upd
  split <;> omega
/-- a move that fits -/
structure SzM (m : Mv) : Prop where
  f : SzB m.f
  t : SzB m.t
  i : SzB m.i
  q0 : 0 ≤ m.q
  q1 : m.q ≤ 1000000000
theorem bd_step {f : Bal} {B : Int} (h : Bd f B) {m : Mv} (hm : SzM m) : Bd (upd f m.f m.i (f m.f m.i + -m.q)) (B + 1000000000) ∧ Bd (stepM f m) (B + 2000000000) := by
  have h0 := hm.q0
  have h1 := hm.q1
  have h2 := h m.f m.i
  have h3 : Bd (upd f m.f m.i (f m.f m.i + -m.q)) (B + 1000000000) := bd_upd h (by omega) _ _ (by omega)
  refine ⟨h3, ?_⟩
  have h4 := h3 m.t m.i
  exact bd_upd h3 (by omega) _ _ (by omega)
theorem bd_do {f : Bal} {L : List Mv} (h : Bd f 1000000000000000) (hG : ∀ k, k < L.length → SzM (L.getD k mv0)) : ∀ k, k ≤ L.length → Bd (doN f L k) (1000000000000000 + 2000000000 * (k : Int))
  | 0, _ => by
    have : (1000000000000000 : Int) + 2000000000 * ((0 : Nat) : Int) = 1000000000000000 := by omega
    rw [this]; exact h
  | k + 1, hk => by
    have h1 := bd_do h hG k (by omega)
    have h2 := (bd_step h1 (hG k (by omega))).2
    rw [show (1000000000000000 : Int) + 2000000000 * ((k + 1 : Nat) : Int) = 1000000000000000 + 2000000000 * (k : Int) + 2000000000 by omega]
    exact h2
def nz (f : Bal) : ByteArray → ByteArray → Bool := fun a i => decide (f a i ≠ 0)
theorem nz_upd (f : Bal) (a i : ByteArray) (v : Int) : updB (nz f) a i (decide (v ≠ 0)) = nz (upd f a i v) := by
  funext a' i'
  unfold updB nz upd
  split <;> rfl
/-- balances: an entry just where there is something -/
def BalZ (w : World) (mb n : Nat) (f : Bal) : Prop := BalM w mb n f (nz f)

theorem cell_obj {w : World} {a : Addr} {v : Value} (h : w.cell? a = some v) : ∃ cs e q, w.heap[a.block]? = some (.cells cs e q) := by
  unfold World.cell? at h
  split at h
  · rename_i cs e q hb; exact ⟨_, _, _, hb⟩
  · cases h
theorem RdV.keptM {w w' : World} {mb n0 : Nat} {f : Bal} {h : ByteArray → ByteArray → Bool} {ad c n k cs} (r : RdV w ad c n k cs) (H : BalM w mb n0 f h) (hg : w.grownBy w' (some mb)) : RdV w' ad c n k cs := by
  obtain ⟨h1, h2, h3, h4⟩ := r
  refine ⟨h1, h2, h3, ?_⟩
  rcases h4 with h4 | ⟨b, o, rfl, h4⟩
  · exact .inl h4
  · refine .inr ⟨b, o, rfl, fun j u hj => ?_⟩
    have hc := h4 j u hj
    obtain ⟨x, e, q, hb⟩ := cell_obj hc
    have hne := H.ne_cells hb
    rw [← hc]
    exact World.cell?_of_block (hg.block b (cell_ltV hc) (fun e => hne (Option.some.inj e).symm))

set_option maxRecDepth 100000 in
set_option maxHeartbeats 2000000 in
theorem do_calls (w : World) (mb n : Nat) (f : Bal) (L : List Mv) (v : Value) (H : BalZ w mb n f) (hn : n ≤ 1000000) (hv : InMv w v L) (hL : L.length ≤ 32) (hG : ∀ k, k < L.length → SzM (L.getD k mv0)) (hB : Bd f 1000000000000000) :
    Calls Tryz.prog 14 #[.map (some mb), v] w fun e w' => e = .returned (.tuple #[]) ∧ BalZ w' mb (n + 2 * L.length) (doN f L L.length) ∧ w.grownBy w' (some mb) := by
  have hBD := fun k hk => bd_do hB hG k hk
  obtain ⟨ad, c, rfl, rd⟩ := hv
  have LP := rd.2.1
  have LP2 := rd.2.2.1
  unfold maxLen at LP2
  obtain ⟨l, hl⟩ : ∃ n, L.length = n := ⟨_, rfl⟩
  rw [hl] at LP rd hL ⊢
  have HN := Lib.hid hl
  have HG := Lib.hid hG
  have HBD := Lib.hid hBD
  clear hl hG hB hBD
  go_enter Tryz.func14, Tryz.ntmps14
  go_wp2
  go_loopw [8] (fun iv wr => ∃ i : Nat, iv = .int .i64 (i : Int) ∧ i ≤ l ∧ BalZ wr mb (n + 2 * i) (doN f L i) ∧ w.grownBy wr (some mb))
    (fun iv _ => l - (intOf iv).toNat)
  case atStart => exact ⟨0, rfl, Nat.zero_le _, H, grown_refl _ _⟩
  case round =>
    obtain ⟨i, rfl, hi, HR, G⟩ := hrel
    have rdx := rd.keptM H G
    by_cases h1 : i < l
    · have hip : i < L.length := by rw [HN.out]; exact h1
      have hbd := HBD.out i (by omega)
      have hsz := HG.out i hip
      obtain ⟨X, hX⟩ : ∃ X, L.getD i mv0 = X := ⟨_, rfl⟩
      rw [hX] at hsz
      have hst : doN f L (i + 1) = stepM (doN f L i) X := by rw [doN, hX]
      obtain ⟨g, hg⟩ : ∃ g, doN f L i = g := ⟨_, rfl⟩
      rw [hg] at HR hbd hst
      obtain ⟨b, o, rfl, c0, c1, c2, c3⟩ := mv_cells rdx hip hX
      have i0 : (0 : Int) ≤ (i : Int) := by omega
      have i1 : (i : Int) < (l : Int) := by omega
      have hmb := HR.lt
      have hil : (i : Int) ≤ 32 := by omega
      obtain ⟨bd1, bd2⟩ := bd_step hbd hsz
      have z1 := hsz.q0
      have z2 := hsz.q1
      have a1 := hbd X.f X.i
      have a2 := bd1 X.t X.i
      have HST := Lib.hid hst
      clear rdx hX hg hbd hst bd1 bd2
      go_upto_region 3 with (fail)
      have vm := Vals.newL wr wr.heap.size [.string X.f, .string X.t, .string X.i, .int .i64 X.q] 35 rfl
      have bm := below_alloc wr (.cells #[.string X.f, .string X.t, .string X.i, .int .i64 X.q] 35)
      have H1 : BalM (wr.alloc (.cells #[.string X.f, .string X.t, .string X.i, .int .i64 X.q] 35)) mb (n + 2 * i) g (nz g) := BalM.below HR bm
      have G1 := grown_one G (grown_of_below (some mb) bm)
      clear HR G c0 c1 c2 c3 bm
      generalize wr.alloc (.cells #[.string X.f, .string X.t, .string X.i, .int .i64 X.q] 35) = w1 at *
      obtain ⟨bb, hbb⟩ : ∃ q, wr.heap.size = q := ⟨_, rfl⟩
      rw [hbb] at vm hmb ⊢
      clear hbb
      have x0 := vm.cell (i := 0) (by simp)
      have x1 := vm.cell (i := 1) (by simp)
      have x2 := vm.cell (i := 2) (by simp)
      have x3 := vm.cell (i := 3) (by simp)
      simp only [List.getD_cons_zero, List.getD_cons_succ] at x0 x1 x2 x3
      have lv := vm.lt
      have hng : IntKind.i64.wrap (-X.q) = -X.q := IntWalk.i64_in _ (by omega)
      have HA1 := Lib.hid a1
      have HA2 := Lib.hid a2
      have HSZ := Lib.hid hsz
      clear a1 a2 hsz
      go_upto_region 3 with (fail)
      go_wp2_with fail
      clear x0 x1 x2 x3 lv hng
      refine (add_calls w1 mb (n + 2 * i) g (nz g) X.f X.i (-X.q) H1 (by unfold maxLen; omega) HSZ.out.f HSZ.out.i (by have := HA1.out; omega)).mono ?_
      rintro e w2 ⟨rfl, H2, g2⟩
      rw [nz_upd] at H2
      replace vm := vm.kept g2 (by simp; omega)
      have G2 := grown_one G1 g2
      clear G1 H1 g2
      have x1 := vm.cell (i := 1) (by simp)
      have x2 := vm.cell (i := 2) (by simp)
      have x3 := vm.cell (i := 3) (by simp)
      simp only [List.getD_cons_zero, List.getD_cons_succ] at x1 x2 x3
      have lv := vm.lt
      go_wp2_with fail
      clear x1 x2 x3 lv
      refine (add_calls w2 mb (n + 2 * i + 1) _ _ X.t X.i X.q H2 (by unfold maxLen; omega) HSZ.out.t HSZ.out.i (by have := HA2.out; omega)).mono ?_
      rintro e w3 ⟨rfl, H3, g3⟩
      rw [nz_upd] at H3
      have G3 := grown_one G2 g3
      clear G2 H2 g3 vm
      have H4 : BalZ w3 mb (n + 2 * (i + 1)) (doN f L (i + 1)) := by
        rw [HST.out]
        unfold BalZ stepM
        rw [show n + 2 * (i + 1) = n + 2 * i + 1 + 1 by omega]
        exact H3
      have HH4 := Lib.hid H4
      have HG3 := Lib.hid G3
      clear H3 H4 G3
      go_wp2
      go_roundw
      case rel => exact ⟨i + 1, by go_num, by omega, HH4.out, HG3.out⟩
      case measure => simp [intOf]; omega
    · obtain rfl : i = l := by omega
      go_wp2
      go_end0
      exact ⟨rfl, HR, G⟩
end Go.Proofs
end

section
open Go.RowKit Go.Deep Go.Maps
namespace Go.Proofs
set_option linter.unusedVariables false
set_option linter.unusedSimpArgs false

theorem below_row {B : Nat} {w w1 w2 : World} {mb : Nat} (h : Below B w w1) (hg : w1.grownBy w2 (some mb)) (hb : B ≤ mb) (hm : B ≤ w1.heap.size) : Below B w w2 :=
  h.grown hg hm (fun b e => by cases e; exact hb)
theorem below_dr {B : Nat} {w w1 : World} (h : Below B w w1) : Below B w w1.drew := ⟨h.os, h.tape, h.output, h.size, h.block⟩
def z0 : Bal := fun _ _ => 0
theorem z0_bd : Bd z0 1000000000000000 := fun _ _ => by unfold z0; omega

set_option maxRecDepth 100000 in
set_option maxHeartbeats 8000000 in
theorem changes_calls (w : World) (L : List Mv) (v : Value) (hv : InMv w v L) (hL : L.length ≤ 32) (hG : ∀ k, k < L.length → SzM (L.getD k mv0)) :
    Calls Tryz.prog 51 #[v] w fun e w' => ∃ mb h, e = .returned (.map (some mb)) ∧ w.heap.size ≤ mb ∧ BalM w' mb (2 * L.length) (doN z0 L L.length) h ∧ Below w.heap.size w w' := by
  have hBD := fun k hk => bd_do z0_bd hG k hk
  obtain ⟨ad, c, rfl, rd⟩ := hv
  have LP := rd.2.1
  have LP2 := rd.2.2.1
  unfold maxLen at LP2
  obtain ⟨l, hl⟩ : ∃ n, L.length = n := ⟨_, rfl⟩
  rw [hl] at LP rd hL ⊢
  have HN := Lib.hid hl
  have HG := Lib.hid hG
  have HBD := Lib.hid hBD
  clear hl hG hBD
  obtain ⟨mb, hmb⟩ : ∃ q, w.heap.size = q := ⟨_, rfl⟩
  have hM := BalM.made w
  have b0 := below_alloc w (.map #[] 0)
  rw [hmb] at hM b0 ⊢
  have HMB := Lib.hid hmb
  have hmb1 : mb ≤ mb := Nat.le_refl _
  have hmk := @run_makeMap Tryz.prog
  go_enter Tryz.func51, Tryz.ntmps51
  go_upto_region 2 with (fail)
  try rw [hmb]
  clear hmb hmk
  have HRD := Lib.hid rd
  generalize w.alloc (.map #[] 0) = w0 at *
  clear rd
  have hs0 := hM.lt
  go_wp2
  go_loopw [9] (fun iv wr => ∃ (i : Nat) (h : ByteArray → ByteArray → Bool), iv = .int .i64 (i : Int) ∧ i ≤ l ∧ BalM wr mb (2 * i) (doN z0 L i) h ∧ Below mb w wr)
    (fun iv _ => l - (intOf iv).toNat)
  case atStart => exact ⟨0, _, rfl, Nat.zero_le _, hM, b0⟩
  case round =>
    clear hM b0
    obtain ⟨i, hf, rfl, hi, HR, B⟩ := hrel
    have rdx := HRD.out.mono (show Below w.heap.size w wr by rw [HMB.out]; exact B)
    by_cases h1 : i < l
    · have hip : i < L.length := by rw [HN.out]; exact h1
      have hbd := HBD.out i (by omega)
      have hsz := HG.out i hip
      obtain ⟨X, hX⟩ : ∃ X, L.getD i mv0 = X := ⟨_, rfl⟩
      rw [hX] at hsz
      have hst : doN z0 L (i + 1) = stepM (doN z0 L i) X := by rw [doN, hX]
      obtain ⟨g, hg⟩ : ∃ g, doN z0 L i = g := ⟨_, rfl⟩
      rw [hg] at HR hbd hst
      obtain ⟨b, o, rfl, c0, c1, c2, c3⟩ := mv_cells rdx hip hX
      have i0 : (0 : Int) ≤ (i : Int) := by omega
      have i1 : (i : Int) < (l : Int) := by omega
      have hmb := HR.lt
      have hil : (i : Int) ≤ 32 := by omega
      obtain ⟨bd1, bd2⟩ := bd_step hbd hsz
      have z1 := hsz.q0
      have z2 := hsz.q1
      have a1 := hbd X.f X.i
      have a2 := bd1 X.t X.i
      have HST := Lib.hid hst
      clear hX hg hbd hst bd1 bd2
      go_upto_region 5 with (fail)
      have vm := Vals.newL wr wr.heap.size [.string X.f, .string X.t, .string X.i, .int .i64 X.q] 35 rfl
      have bm := below_alloc wr (.cells #[.string X.f, .string X.t, .string X.i, .int .i64 X.q] 35)
      have H1 : BalM (wr.alloc (.cells #[.string X.f, .string X.t, .string X.i, .int .i64 X.q] 35)) mb (2 * i) g hf := BalM.below HR bm
      have B1 := B.trans (bm.mono (Nat.le_of_lt hmb))
      have sz1 := bm.size
      clear HR B c0 c1 c2 c3 bm rdx
      generalize wr.alloc (.cells #[.string X.f, .string X.t, .string X.i, .int .i64 X.q] 35) = w1 at *
      obtain ⟨bb, hbb⟩ : ∃ q, wr.heap.size = q := ⟨_, rfl⟩
      rw [hbb] at vm hmb sz1 ⊢
      clear hbb
      obtain ⟨x, hx⟩ : ∃ x, g X.f X.i = x := ⟨_, rfl⟩
      obtain ⟨y, hy⟩ : ∃ y, x + -X.q = y := ⟨_, rfl⟩
      rw [hx] at a1 a2
      rw [hy] at a2
      have hyb : -9223372036854775808 ≤ y ∧ y < 9223372036854775808 := by omega
      have hwr : IntKind.i64.wrap (x - X.q) = y := by rw [← hy]; exact IntWalk.i64_in _ (by omega)
      obtain ⟨g2, hg2⟩ : ∃ g2, upd g X.f X.i y = g2 := ⟨_, rfl⟩
      rw [hg2] at a2
      obtain ⟨x2, hx2⟩ : ∃ x, g2 X.t X.i = x := ⟨_, rfl⟩
      obtain ⟨y2, hy2⟩ : ∃ y, x2 + X.q = y := ⟨_, rfl⟩
      rw [hx2] at a2
      have hyb2 : -9223372036854775808 ≤ y2 ∧ y2 < 9223372036854775808 := by omega
      have hwr2 : IntKind.i64.wrap (x2 + X.q) = y2 := by rw [← hy2]; exact IntWalk.i64_in _ (by omega)
      have hst2 : doN z0 L (i + 1) = upd g2 X.t X.i y2 := by rw [HST.out]; unfold stepM; rw [hx, hy, hg2, hx2, hy2]
      have HST2 := Lib.hid hst2
      have HX1 := Lib.hid hx
      have HX2 := Lib.hid hx2
      have HSZ := Lib.hid hsz
      have HG2 := Lib.hid hg2
      clear hx hx2 hy hy2 hg2 hst2 HST hsz a1 a2
      have e0 := vm.cell (i := 0) (by simp)
      have e2 := vm.cell (i := 2) (by simp)
      have e3 := vm.cell (i := 3) (by simp)
      simp only [List.getD_cons_zero, List.getD_cons_succ] at e0 e2 e3
      have fa := HSZ.out.f
      obtain ⟨S, hS⟩ : ∃ S : World → Prop, ∀ w', S w' ↔ ((Instr.lookup 53 (.map (some mb)) (.agg #[.string X.f, .string X.i]) false).run Tryz.prog w' = .ok (.int .i64 x) w' ∧ w'.cell? ⟨bb, 0, none⟩ = some (.string X.f) ∧ w'.cell? ⟨bb, 2, none⟩ = some (.string X.i) ∧ w'.cell? ⟨bb, 3, none⟩ = some (.int .i64 X.q)) := ⟨_, fun _ => Iff.rfl⟩
      have HSS := Lib.hid hS
      have Hd : BalM w1.drew mb (2 * i) g hf := H1
      have hS1 : S w1.drew := by
        obtain ⟨k2, -⟩ := Hd.look mapT_pl fa HSZ.out.i
        rw [HX1.out] at k2
        exact (hS _).2 ⟨k2, e0, e2, e3⟩
      have vd : Vals w1.drew bb [.string X.f, .string X.t, .string X.i, .int .i64 X.q] := vm
      have Bd1 := below_dr B1
      clear hS H1 vm e0 e2 e3 B1
      refine wp_region_L (S := S) (lx := [12]) (by kernel_rfl) hS1 (fun hHeld => ?_)
      clear hS1
      generalize w1.drew = wd at *
      obtain ⟨st, wa1, m1, m2, m3, m4⟩ := Hd.entry (by unfold maxLen; omega) mapT_pl fa HSZ.out.i
      rw [HX1.out] at m1 m2
      unfold pk at m1 m2
      have M4 := Lib.hid m4
      have vk := vd.kept m3.grown (by simp; omega)
      have HSW := Lib.hid (show S wa1 from (HSS.out wa1).2 ⟨m2, by simpa using vk.cell (i := 0) (by simp), by simpa using vk.cell (i := 2) (by simp), by simpa using vk.cell (i := 3) (by simp)⟩)
      have VK := Lib.hid vk
      have BK := Lib.hid (below_row Bd1 m3.grown hmb1 (Nat.le_of_lt Hd.lt))
      have hla := Nat.le_trans (Nat.le_of_lt Hd.lt) m3.grown.size
      clear m2 m3 m4 vk vd Bd1
      refine wpAnyL_pure (i := 0) (v := ?vp1) rfl (by kernel_rfl) (by kernel_rfl) (by kernel_rfl) (fun _ _ _ h => h) (Or.inl ⟨by rfl, ?hyp1⟩) ?_
      case hyp1 => (intro w _; (go_simp) <;> (with_reducible rfl))
      try simp only [Act.put, List.getElem_toArray, List.getElem_cons_zero, List.getElem_cons_succ, List.setIfInBounds_toArray, List.set_cons_zero, List.set_cons_succ]
      refine wpAnyL_pure (i := 1) (v := ?vp2) rfl (by kernel_rfl) (by kernel_rfl) (by kernel_rfl) (fun _ _ _ h => h) (Or.inl ⟨by rfl, ?hyp2⟩) ?_
      case hyp2 => (intro w _; (go_simp) <;> (with_reducible rfl))
      try simp only [Act.put, List.getElem_toArray, List.getElem_cons_zero, List.getElem_cons_succ, List.setIfInBounds_toArray, List.set_cons_zero, List.set_cons_succ]
      refine wpAnyL_take (i := 2) (v := ?vp3) rfl (by kernel_rfl) (by kernel_rfl) (by kernel_rfl) (by kernel_rfl) (fun _ _ _ h => h) (Or.inl ⟨by rfl, ?hyp3⟩) (by assumption) ?_
      case hyp3 => (intro w hSw; replace hSw := (HSS.out w).1 hSw; (go_simp) <;> (with_reducible rfl))
      try simp only [Act.put, List.getElem_toArray, List.getElem_cons_zero, List.getElem_cons_succ, List.setIfInBounds_toArray, List.set_cons_zero, List.set_cons_succ]
      refine wpAnyL_pure (i := 3) (v := ?vp4) rfl (by kernel_rfl) (by kernel_rfl) (by kernel_rfl) (fun _ _ _ h => h) (Or.inl ⟨by rfl, ?hyp4⟩) ?_
      case hyp4 => (intro w _; (go_simp) <;> (with_reducible rfl))
      try simp only [Act.put, List.getElem_toArray, List.getElem_cons_zero, List.getElem_cons_succ, List.setIfInBounds_toArray, List.set_cons_zero, List.set_cons_succ]
      refine wpAnyL_take (i := 4) (v := ?vp5) rfl (by kernel_rfl) (by kernel_rfl) (by kernel_rfl) (by kernel_rfl) (fun _ _ _ h => h) (Or.inl ⟨by rfl, ?hyp5⟩) (by assumption) ?_
      case hyp5 => (intro w hSw; replace hSw := (HSS.out w).1 hSw; (go_simp) <;> (with_reducible rfl))
      try simp only [Act.put, List.getElem_toArray, List.getElem_cons_zero, List.getElem_cons_succ, List.setIfInBounds_toArray, List.set_cons_zero, List.set_cons_succ]
      refine wpAnyL_pure (i := 5) (v := ?vp6) rfl (by kernel_rfl) (by kernel_rfl) (by kernel_rfl) (fun _ _ _ h => h) (Or.inl ⟨by rfl, ?hyp6⟩) ?_
      case hyp6 => (intro w _; (go_simp) <;> (with_reducible rfl))
      try simp only [Act.put, List.getElem_toArray, List.getElem_cons_zero, List.getElem_cons_succ, List.setIfInBounds_toArray, List.set_cons_zero, List.set_cons_succ]
      refine wpAnyL_take (i := 6) (v := ?vp7) rfl (by kernel_rfl) (by kernel_rfl) (by kernel_rfl) (by kernel_rfl) (fun _ _ _ h => h) (Or.inl ⟨by rfl, ?hyp7⟩) (by assumption) ?_
      case hyp7 => (intro w hSw; replace hSw := (HSS.out w).1 hSw; (go_simp) <;> (with_reducible rfl))
      try simp only [Act.put, List.getElem_toArray, List.getElem_cons_zero, List.getElem_cons_succ, List.setIfInBounds_toArray, List.set_cons_zero, List.set_cons_succ]
      refine wpAnyL_pure (i := 7) (v := ?vp8) rfl (by kernel_rfl) (by kernel_rfl) (by kernel_rfl) (fun _ _ _ h => h) (Or.inl ⟨by rfl, ?hyp8⟩) ?_
      case hyp8 => (intro w _; (go_simp) <;> (with_reducible rfl))
      try simp only [Act.put, List.getElem_toArray, List.getElem_cons_zero, List.getElem_cons_succ, List.setIfInBounds_toArray, List.set_cons_zero, List.set_cons_succ]
      refine wpAnyL_take (i := 8) (v := ?vp9) rfl (by kernel_rfl) (by kernel_rfl) (by kernel_rfl) (by kernel_rfl) (fun _ _ _ h => h) (Or.inl ⟨by rfl, ?hyp9⟩) (by assumption) ?_
      case hyp9 => (intro w hSw; replace hSw := (HSS.out w).1 hSw; (go_simp) <;> (with_reducible rfl))
      try simp only [Act.put, List.getElem_toArray, List.getElem_cons_zero, List.getElem_cons_succ, List.setIfInBounds_toArray, List.set_cons_zero, List.set_cons_succ]
      refine wpAnyL_pure (i := 9) (v := ?vp10) rfl (by kernel_rfl) (by kernel_rfl) (by kernel_rfl) (fun _ _ _ h => h) (Or.inl ⟨by rfl, ?hyp10⟩) ?_
      case hyp10 => (intro w _; (go_simp) <;> (with_reducible rfl))
      try simp only [Act.put, List.getElem_toArray, List.getElem_cons_zero, List.getElem_cons_succ, List.setIfInBounds_toArray, List.set_cons_zero, List.set_cons_succ]
      refine wpAnyL_all (rs := [10]) (by kernel_rfl) (by simp) (fun j hj => ?_)
      obtain rfl := List.mem_singleton.1 hj
      clear hj
      refine wpOpL (by rfl) (fun K hK => ?_)
      go_simp
      refine hK.out _ _ (fun _ _ => HSW.out) ?_
      clear hK K
      try simp only [Act.put, List.getElem_toArray, List.getElem_cons_zero, List.getElem_cons_succ, List.setIfInBounds_toArray, List.set_cons_zero, List.set_cons_succ]
      obtain ⟨wb1, s1, s2, s3⟩ := M4.out wa1 y rfl (wf_of hyb)
      refine wpAnyL_pure (i := 11) (v := ?vp11) rfl (by kernel_rfl) (by kernel_rfl) (by kernel_rfl) (fun _ _ _ h => h) (Or.inl ⟨by rfl, ?hyp11⟩) ?_
      case hyp11 => (intro w _; (go_simp) <;> (with_reducible rfl))
      try simp only [Act.put, List.getElem_toArray, List.getElem_cons_zero, List.getElem_cons_succ, List.setIfInBounds_toArray, List.set_cons_zero, List.set_cons_succ]
      refine wpAnyL_all (rs := [12]) (by kernel_rfl) (by simp) (fun j hj => ?_)
      obtain rfl := List.mem_singleton.1 hj
      clear hj
      refine wpOpL (by rfl) (fun K hK => ?_)
      go_simp
      refine hK.out _ _ (fun h => absurd h (by decide)) ?_
      clear hK K
      try simp only [Act.put, List.getElem_toArray, List.getElem_cons_zero, List.getElem_cons_succ, List.setIfInBounds_toArray, List.set_cons_zero, List.set_cons_succ]
      refine wpAnyL_done (by kernel_rfl) ?_ _
      have VB := Lib.hid (VK.out.kept s3.grown (by simp; omega))
      have BB := Lib.hid (below_row BK.out s3.grown hmb1 hla)
      have SB := Lib.hid s2
      clear s1 s2 s3 m1 hHeld Hd VK BK M4 HSW HSS hla
      have vm := VB.out
      have H2 := SB.out
      rw [HG2.out] at H2
      have B2 := BB.out
      clear VB SB BB S
      go_upto_region 6 with (fail)
      have e1 := vm.cell (i := 1) (by simp)
      have e2 := vm.cell (i := 2) (by simp)
      have e3 := vm.cell (i := 3) (by simp)
      simp only [List.getD_cons_zero, List.getD_cons_succ] at e1 e2 e3
      have fa := HSZ.out.t
      obtain ⟨S, hS⟩ : ∃ S : World → Prop, ∀ w', S w' ↔ ((Instr.lookup 53 (.map (some mb)) (.agg #[.string X.t, .string X.i]) false).run Tryz.prog w' = .ok (.int .i64 x2) w' ∧ w'.cell? ⟨bb, 1, none⟩ = some (.string X.t) ∧ w'.cell? ⟨bb, 2, none⟩ = some (.string X.i) ∧ w'.cell? ⟨bb, 3, none⟩ = some (.int .i64 X.q)) := ⟨_, fun _ => Iff.rfl⟩
      have HSS := Lib.hid hS
      have Hd : BalM wb1.drew mb (2 * i + 1) g2 _ := H2
      have hS1 : S wb1.drew := by
        obtain ⟨k2, -⟩ := Hd.look mapT_pl fa HSZ.out.i
        rw [HX2.out] at k2
        exact (hS _).2 ⟨k2, e1, e2, e3⟩
      have vd : Vals wb1.drew bb [.string X.f, .string X.t, .string X.i, .int .i64 X.q] := vm
      have Bd1 := below_dr B2
      clear hS H2 vm e1 e2 e3 B2
      refine wp_region_L (S := S) (lx := [12]) (by kernel_rfl) hS1 (fun hHeld => ?_)
      clear hS1
      generalize wb1.drew = wd at *
      obtain ⟨st, wa2, m1, m2, m3, m4⟩ := Hd.entry (by unfold maxLen; omega) mapT_pl fa HSZ.out.i
      rw [HX2.out] at m1 m2
      unfold pk at m1 m2
      have M4 := Lib.hid m4
      have vk := vd.kept m3.grown (by simp; omega)
      have HSW := Lib.hid (show S wa2 from (HSS.out wa2).2 ⟨m2, by simpa using vk.cell (i := 1) (by simp), by simpa using vk.cell (i := 2) (by simp), by simpa using vk.cell (i := 3) (by simp)⟩)
      have VK := Lib.hid vk
      have BK := Lib.hid (below_row Bd1 m3.grown hmb1 (Nat.le_of_lt Hd.lt))
      have hla := Nat.le_trans (Nat.le_of_lt Hd.lt) m3.grown.size
      clear m2 m3 m4 vk vd Bd1
      refine wpAnyL_pure (i := 0) (v := ?vp12) rfl (by kernel_rfl) (by kernel_rfl) (by kernel_rfl) (fun _ _ _ h => h) (Or.inl ⟨by rfl, ?hyp12⟩) ?_
      case hyp12 => (intro w _; (go_simp) <;> (with_reducible rfl))
      try simp only [Act.put, List.getElem_toArray, List.getElem_cons_zero, List.getElem_cons_succ, List.setIfInBounds_toArray, List.set_cons_zero, List.set_cons_succ]
      refine wpAnyL_pure (i := 1) (v := ?vp13) rfl (by kernel_rfl) (by kernel_rfl) (by kernel_rfl) (fun _ _ _ h => h) (Or.inl ⟨by rfl, ?hyp13⟩) ?_
      case hyp13 => (intro w _; (go_simp) <;> (with_reducible rfl))
      try simp only [Act.put, List.getElem_toArray, List.getElem_cons_zero, List.getElem_cons_succ, List.setIfInBounds_toArray, List.set_cons_zero, List.set_cons_succ]
      refine wpAnyL_take (i := 2) (v := ?vp14) rfl (by kernel_rfl) (by kernel_rfl) (by kernel_rfl) (by kernel_rfl) (fun _ _ _ h => h) (Or.inl ⟨by rfl, ?hyp14⟩) (by assumption) ?_
      case hyp14 => (intro w hSw; replace hSw := (HSS.out w).1 hSw; (go_simp) <;> (with_reducible rfl))
      try simp only [Act.put, List.getElem_toArray, List.getElem_cons_zero, List.getElem_cons_succ, List.setIfInBounds_toArray, List.set_cons_zero, List.set_cons_succ]
      refine wpAnyL_pure (i := 3) (v := ?vp15) rfl (by kernel_rfl) (by kernel_rfl) (by kernel_rfl) (fun _ _ _ h => h) (Or.inl ⟨by rfl, ?hyp15⟩) ?_
      case hyp15 => (intro w _; (go_simp) <;> (with_reducible rfl))
      try simp only [Act.put, List.getElem_toArray, List.getElem_cons_zero, List.getElem_cons_succ, List.setIfInBounds_toArray, List.set_cons_zero, List.set_cons_succ]
      refine wpAnyL_take (i := 4) (v := ?vp16) rfl (by kernel_rfl) (by kernel_rfl) (by kernel_rfl) (by kernel_rfl) (fun _ _ _ h => h) (Or.inl ⟨by rfl, ?hyp16⟩) (by assumption) ?_
      case hyp16 => (intro w hSw; replace hSw := (HSS.out w).1 hSw; (go_simp) <;> (with_reducible rfl))
      try simp only [Act.put, List.getElem_toArray, List.getElem_cons_zero, List.getElem_cons_succ, List.setIfInBounds_toArray, List.set_cons_zero, List.set_cons_succ]
      refine wpAnyL_pure (i := 5) (v := ?vp17) rfl (by kernel_rfl) (by kernel_rfl) (by kernel_rfl) (fun _ _ _ h => h) (Or.inl ⟨by rfl, ?hyp17⟩) ?_
      case hyp17 => (intro w _; (go_simp) <;> (with_reducible rfl))
      try simp only [Act.put, List.getElem_toArray, List.getElem_cons_zero, List.getElem_cons_succ, List.setIfInBounds_toArray, List.set_cons_zero, List.set_cons_succ]
      refine wpAnyL_take (i := 6) (v := ?vp18) rfl (by kernel_rfl) (by kernel_rfl) (by kernel_rfl) (by kernel_rfl) (fun _ _ _ h => h) (Or.inl ⟨by rfl, ?hyp18⟩) (by assumption) ?_
      case hyp18 => (intro w hSw; replace hSw := (HSS.out w).1 hSw; (go_simp) <;> (with_reducible rfl))
      try simp only [Act.put, List.getElem_toArray, List.getElem_cons_zero, List.getElem_cons_succ, List.setIfInBounds_toArray, List.set_cons_zero, List.set_cons_succ]
      refine wpAnyL_pure (i := 7) (v := ?vp19) rfl (by kernel_rfl) (by kernel_rfl) (by kernel_rfl) (fun _ _ _ h => h) (Or.inl ⟨by rfl, ?hyp19⟩) ?_
      case hyp19 => (intro w _; (go_simp) <;> (with_reducible rfl))
      try simp only [Act.put, List.getElem_toArray, List.getElem_cons_zero, List.getElem_cons_succ, List.setIfInBounds_toArray, List.set_cons_zero, List.set_cons_succ]
      refine wpAnyL_take (i := 8) (v := ?vp20) rfl (by kernel_rfl) (by kernel_rfl) (by kernel_rfl) (by kernel_rfl) (fun _ _ _ h => h) (Or.inl ⟨by rfl, ?hyp20⟩) (by assumption) ?_
      case hyp20 => (intro w hSw; replace hSw := (HSS.out w).1 hSw; (go_simp) <;> (with_reducible rfl))
      try simp only [Act.put, List.getElem_toArray, List.getElem_cons_zero, List.getElem_cons_succ, List.setIfInBounds_toArray, List.set_cons_zero, List.set_cons_succ]
      refine wpAnyL_pure (i := 9) (v := ?vp21) rfl (by kernel_rfl) (by kernel_rfl) (by kernel_rfl) (fun _ _ _ h => h) (Or.inl ⟨by rfl, ?hyp21⟩) ?_
      case hyp21 => (intro w _; (go_simp) <;> (with_reducible rfl))
      try simp only [Act.put, List.getElem_toArray, List.getElem_cons_zero, List.getElem_cons_succ, List.setIfInBounds_toArray, List.set_cons_zero, List.set_cons_succ]
      refine wpAnyL_all (rs := [10]) (by kernel_rfl) (by simp) (fun j hj => ?_)
      obtain rfl := List.mem_singleton.1 hj
      clear hj
      refine wpOpL (by rfl) (fun K hK => ?_)
      go_simp
      refine hK.out _ _ (fun _ _ => HSW.out) ?_
      clear hK K
      try simp only [Act.put, List.getElem_toArray, List.getElem_cons_zero, List.getElem_cons_succ, List.setIfInBounds_toArray, List.set_cons_zero, List.set_cons_succ]
      obtain ⟨wb2, s1, s2, s3⟩ := M4.out wa2 y2 rfl (wf_of hyb2)
      refine wpAnyL_pure (i := 11) (v := ?vp22) rfl (by kernel_rfl) (by kernel_rfl) (by kernel_rfl) (fun _ _ _ h => h) (Or.inl ⟨by rfl, ?hyp22⟩) ?_
      case hyp22 => (intro w _; (go_simp) <;> (with_reducible rfl))
      try simp only [Act.put, List.getElem_toArray, List.getElem_cons_zero, List.getElem_cons_succ, List.setIfInBounds_toArray, List.set_cons_zero, List.set_cons_succ]
      refine wpAnyL_all (rs := [12]) (by kernel_rfl) (by simp) (fun j hj => ?_)
      obtain rfl := List.mem_singleton.1 hj
      clear hj
      refine wpOpL (by rfl) (fun K hK => ?_)
      go_simp
      refine hK.out _ _ (fun h => absurd h (by decide)) ?_
      clear hK K
      try simp only [Act.put, List.getElem_toArray, List.getElem_cons_zero, List.getElem_cons_succ, List.setIfInBounds_toArray, List.set_cons_zero, List.set_cons_succ]
      refine wpAnyL_done (by kernel_rfl) ?_ _
      have VB := Lib.hid (VK.out.kept s3.grown (by simp; omega))
      have BB := Lib.hid (below_row BK.out s3.grown hmb1 hla)
      have SB := Lib.hid s2
      clear s1 s2 s3 m1 hHeld Hd VK BK M4 HSW HSS hla
      go_wp2
      go_roundw
      case rel => exact ⟨i + 1, _, by go_num, by omega, by rw [HST2.out, show 2 * (i + 1) = 2 * i + 1 + 1 by omega]; exact SB.out, BB.out⟩
      case measure => simp [intOf]; omega
    · obtain rfl : i = l := by omega
      go_wp2
      go_ret
      exact ⟨mb, hf, rfl, Nat.le_refl _, HR, B⟩
end Go.Proofs
end

section
namespace Go.Proofs
set_option linter.unusedVariables false
set_option linter.unusedSimpArgs false

/-- byte i of a string -/
def byteAt (s : ByteArray) (i : Nat) : Nat := if h : i < s.size then s[i].toNat else 0

theorem byteAt_eq {s : ByteArray} {i : Nat} (h : i < s.size) : s[i].toNat = byteAt s i := by simp [byteAt, h]
theorem byteAt_lt (s : ByteArray) (i : Nat) : byteAt s i < 256 := by
  unfold byteAt
  split
  · exact UInt8.toNat_lt _
  · omega

/-- the number that the first i bytes say -/
def dec (s : ByteArray) : Nat → Nat
  | 0 => 0
  | i + 1 => 10 * dec s i + (byteAt s i - 48)

/-- the first i bytes are decimal digits -/
def Digi (s : ByteArray) (n : Nat) : Prop := ∀ i, i < n → 48 ≤ byteAt s i ∧ byteAt s i ≤ 57

theorem byteAt_extract (s : ByteArray) (n i : Nat) (h : n + i < s.size) : byteAt (s.extract n s.size) i = byteAt s (n + i) := by
  have h1 : (s.extract n s.size).size = s.size - n := by rw [ByteArray.size_extract]; omega
  have h2 : i < (s.extract n s.size).size := by omega
  rw [← byteAt_eq h2, ← byteAt_eq h]
  rw [ByteArray.getElem_extract]

theorem dec_split (s : ByteArray) (n : Nat) (hn : n ≤ s.size) : ∀ k, n + k ≤ s.size → dec s (n + k) = dec s n * 10 ^ k + dec (s.extract n s.size) k := by
  intro k
  induction k with
  | zero => intro _; simp [dec]
  | succ k ih =>
    intro h
    rw [← Nat.add_assoc, dec, dec, ih (by omega), byteAt_extract s n k (by omega), Nat.pow_succ]
    have : dec s n * (10 ^ k * 10) = 10 * (dec s n * 10 ^ k) := by rw [Nat.mul_comm (10 ^ k) 10, Nat.mul_left_comm]
    omega

theorem dec_lt (s : ByteArray) : ∀ n, Digi s n → dec s n < 10 ^ n := by
  intro n
  induction n with
  | zero => intro _; simp [dec]
  | succ n ih =>
    intro h
    have h1 := ih (fun i hi => h i (by omega))
    have h2 := h n (by omega)
    rw [dec, Nat.pow_succ]
    omega

/-- a text of a number -/
def TextOk (s : ByteArray) : Prop := 0 < s.size ∧ (1 < s.size → byteAt s 0 ≠ 48) ∧ Digi s s.size

instance (s : ByteArray) (n : Nat) : Decidable (Digi s n) := inferInstanceAs (Decidable (∀ i, i < n → 48 ≤ byteAt s i ∧ byteAt s i ≤ 57))
instance (s : ByteArray) : Decidable (TextOk s) := inferInstanceAs (Decidable (_ ∧ _ ∧ _))

end Go.Proofs
end

section
open Go.RowKit Go.Deep Go.Maps
namespace Go.Proofs
set_option linter.unusedVariables false
set_option linter.unusedSimpArgs false

/-- a name -/
def NameOk (s : ByteArray) : Prop := 1 ≤ s.size ∧ s.size ≤ 12 ∧ ∀ i, i < s.size → (97 ≤ byteAt s i ∧ byteAt s i ≤ 122) ∨ (i ≠ 0 ∧ 48 ≤ byteAt s i ∧ byteAt s i ≤ 57)
theorem bytes_ne {a b : ByteArray} (h : a ≠ b) : ¬ (a.toList = b.toList) := by
  rw [ByteArray.toList_eq, ByteArray.toList_eq]
  exact fun e => h (ByteArray.ext (Array.toList_inj.mp e))
/-- a move that is accepted -/
structure MvOk (m : Mv) : Prop where
  f : NameOk m.f
  t : NameOk m.t
  i : NameOk m.i
  ne : m.f ≠ m.t
  q0 : 1 ≤ m.q
  q1 : m.q ≤ 1000000000

set_option maxRecDepth 100000 in
set_option maxHeartbeats 2000000 in
theorem name_calls (s : ByteArray) (w : World) (h : NameOk s) : Calls Tryz.prog 50 #[.string s] w fun e w' => e = .returned (.bool true) ∧ w' = w := by
  obtain ⟨h1, h2, h3⟩ := h
  have H3 := Lib.hid h3
  have s1 : ¬ ((s.size : Int) < 1) := by omega
  have s2 : ¬ ((s.size : Int) > 12) := by omega
  clear h3
  go_enter Tryz.func50, Tryz.ntmps50
  go_wp2
  go_loopw [15] (fun iv wr => ∃ i : Nat, iv = .int .i64 (i : Int) ∧ i ≤ s.size ∧ wr = w)
    (fun iv _ => s.size - (intOf iv).toNat)
  case atStart => exact ⟨0, rfl, Nat.zero_le _, rfl⟩
  case round =>
    obtain ⟨i, rfl, hi, rfl⟩ := hrel
    by_cases hlt : i < s.size
    · obtain ⟨c, hc⟩ : ∃ c : Nat, ∀ h : i < s.size, (s[i]'h).toNat = c := ⟨byteAt s i, fun h => byteAt_eq h⟩
      have hce : c = byteAt s i := by rw [← hc hlt, byteAt_eq hlt]
      have hcc := H3.out i hlt
      rw [← hce] at hcc
      have i0 : (0 : Int) ≤ (i : Int) := by omega
      have i1 : (i : Int) < (s.size : Int) := by omega
      clear hce
      rcases hcc with ⟨ha, hb⟩ | ⟨hz, ha, hb⟩
      · go_wp2
        go_roundw
        case rel => exact ⟨i + 1, by go_num, by omega, trivial⟩
        case measure => simp [intOf]; omega
      · have e0 : ((i : Int) == 0) = false := by simp; omega
        have hn : ¬ (97 ≤ c) := by omega
        go_wp2
        go_roundw
        case rel => exact ⟨i + 1, by go_num, by omega, trivial⟩
        case measure => simp [intOf]; omega
    · obtain rfl : i = s.size := by omega
      go_wp2
      go_ret
      exact ⟨rfl, rfl⟩

set_option maxRecDepth 100000 in
set_option maxHeartbeats 2000000 in
theorem entry_calls (L : List Mv) (v : Value) (w : World) (hv : InMv w v L) (hL : 1 ≤ L.length ∧ L.length ≤ 32) (hG : ∀ k, k < L.length → MvOk (L.getD k mv0)) :
    Calls Tryz.prog 32 #[v] w fun e w' => e = .returned (.bool true) ∧ Below w.heap.size w w' := by
  obtain ⟨ad, c, rfl, rd⟩ := hv
  have LP := rd.2.1
  have LP2 := rd.2.2.1
  unfold maxLen at LP2
  obtain ⟨l, hl⟩ : ∃ n, L.length = n := ⟨_, rfl⟩
  rw [hl] at LP rd hL
  rw [hl]
  have HN := Lib.hid hl
  have HG := Lib.hid hG
  obtain ⟨hL1, hL2⟩ := hL
  have j1 : (l : Int) ≥ 1 := by omega
  have j2 : (l : Int) ≤ 32 := by omega
  clear hl hG
  have HNM := Lib.hid (fun (s : ByteArray) (W : World) (h : NameOk s) => name_calls s W h)
  go_enter Tryz.func32, Tryz.ntmps32
  go_wp2
  go_loopw [7] (fun iv wr => ∃ i : Nat, iv = .int .i64 (i : Int) ∧ i ≤ l ∧ Below w.heap.size w wr)
    (fun iv _ => l - (intOf iv).toNat)
  case atStart => exact ⟨0, rfl, Nat.zero_le _, Below.refl _ _⟩
  case round =>
    obtain ⟨i, rfl, hi, B⟩ := hrel
    have rdx := rd.mono B
    by_cases h1 : i < l
    · have hip : i < L.length := by rw [HN.out]; exact h1
      have hok := HG.out i hip
      obtain ⟨X, hX⟩ : ∃ X, L.getD i mv0 = X := ⟨_, rfl⟩
      rw [hX] at hok
      obtain ⟨b, o, rfl, c0, c1, c2, c3⟩ := mv_cells rdx hip hX
      have i0 : (0 : Int) ≤ (i : Int) := by omega
      have i1 : (i : Int) < (l : Int) := by omega
      clear rdx hX
      go_upto_region 4 with (fail)
      have vm := Vals.newL wr wr.heap.size [.string X.f, .string X.t, .string X.i, .int .i64 X.q] 35 rfl
      have bm := below_alloc wr (.cells #[.string X.f, .string X.t, .string X.i, .int .i64 X.q] 35)
      have B1 := Lib.hid (below_trans B bm)
      clear c0 c1 c2 c3 bm B
      generalize wr.alloc (.cells #[.string X.f, .string X.t, .string X.i, .int .i64 X.q] 35) = w1 at *
      have x0 := vm.cell (i := 0) (by simp)
      have x1 := vm.cell (i := 1) (by simp)
      have x2 := vm.cell (i := 2) (by simp)
      have x3 := vm.cell (i := 3) (by simp)
      simp only [List.getD_cons_zero, List.getD_cons_succ] at x0 x1 x2 x3
      have lv := vm.lt
      have z1 : ¬ (X.q < 1) := by have := hok.q0; omega
      have z2 : ¬ (X.q > 1000000000) := by have := hok.q1; omega
      have zl : ¬ (X.f.toList = X.t.toList) := bytes_ne hok.ne
      have zb : (X.f.toList == X.t.toList) = false := by rw [beq_eq_false_iff_ne]; exact zl
      have HOK := Lib.hid hok
      clear hok
      go_wp2_with fail
      refine (HNM.out X.f _ HOK.out.f).mono ?_
      rintro e wz ⟨rfl, rfl⟩
      go_wp2_with fail
      refine (HNM.out X.t _ HOK.out.t).mono ?_
      rintro e wz ⟨rfl, rfl⟩
      go_wp2_with fail
      refine (HNM.out X.i _ HOK.out.i).mono ?_
      rintro e wz ⟨rfl, rfl⟩
      go_wp2
      go_roundw
      case rel => exact ⟨i + 1, by go_num, by omega, B1.out⟩
      case measure => simp [intOf]; omega
    · obtain rfl : i = l := by omega
      go_wp2
      go_ret
      exact ⟨rfl, B⟩
end Go.Proofs
end

section
open Go.RowKit Go.Deep Go.Maps
namespace Go.Proofs
set_option linter.unusedVariables false
set_option linter.unusedSimpArgs false

def outP : ByteArray := ⟨#[111, 117, 116]⟩
def isOut (a : ByteArray) : Bool := Lib.hasPrefix a.data.toList outP.data.toList
/-- what is told of the first k places -/
def refN (f c : Bal) (P : List Pl) : Nat → Int
  | 0 => 0
  | k + 1 => if f (P.getD k pl0).1 (P.getD k pl0).2 + c (P.getD k pl0).1 (P.getD k pl0).2 < 0 ∧ isOut (P.getD k pl0).1 = false then 10 else refN f c P k
theorem sz_of_name {s : ByteArray} (h : NameOk s) : SzB s := by have := h.2.1; unfold SzB maxLen; omega
theorem szM_of {m : Mv} (h : MvOk m) : SzM m := ⟨sz_of_name h.f, sz_of_name h.t, sz_of_name h.i, by have := h.q0; omega, h.q1⟩
theorem bd_z0 {L : List Mv} (hG : ∀ k, k < L.length → SzM (L.getD k mv0)) : ∀ k, k ≤ L.length → Bd (doN z0 L k) (2000000000 * (k : Int))
  | 0, _ => fun _ _ => by unfold doN z0; omega
  | k + 1, hk => by
    have h1 := bd_z0 hG k (by omega)
    have h2 := (bd_step h1 (hG k (by omega))).2
    rw [show 2000000000 * ((k + 1 : Nat) : Int) = 2000000000 * (k : Int) + 2000000000 by omega]
    exact h2
theorem pls_sz {L : List Mv} (hG : ∀ k, k < L.length → SzM (L.getD k mv0)) : ∀ k, k ≤ L.length → ∀ p ∈ plsN L k, SzB p.1 ∧ SzB p.2
  | 0, _, p, hp => by cases hp
  | k + 1, hk, p, hp => by
    rw [plsN, List.mem_append] at hp
    have := hG k (by omega)
    rcases hp with hp | hp
    · exact pls_sz hG k (by omega) p hp
    · simp only [List.mem_cons, List.not_mem_nil, or_false] at hp
      rcases hp with rfl | rfl
      · exact ⟨this.f, this.i⟩
      · exact ⟨this.t, this.i⟩
theorem pl_mem {P : List Pl} {i : Nat} (hi : i < P.length) : P.getD i pl0 ∈ P := by
  have e : P.getD i pl0 = P[i] := by simp [List.getD, List.getElem?_eq_getElem hi]
  rw [e]
  exact List.getElem_mem hi

set_option maxRecDepth 100000 in
set_option maxHeartbeats 8000000 in
theorem refused_calls (w : World) (mb n : Nat) (f : Bal) (L : List Mv) (v : Value) (H : BalZ w mb n f) (hv : InMv w v L) (hL : L.length ≤ 32) (hG : ∀ k, k < L.length → SzM (L.getD k mv0)) (hB : Bd f 500000000000) :
    Calls Tryz.prog 36 #[.map (some mb), v] w fun e w' => e = .returned (.int .i64 (refN f (doN z0 L L.length) (plsN L L.length) (2 * L.length))) ∧ Below w.heap.size w w' := by
  have HCH := Lib.hid (fun (W : World) (h : InMv W v L) => changes_calls W L v h hL hG)
  have HPL := Lib.hid (fun (W : World) (h : InMv W v L) => places_calls L v W h (by omega))
  have hcb := bd_z0 hG L.length (Nat.le_refl _)
  have hps := pls_sz hG L.length (Nat.le_refl _)
  have hpl := plsN_len L L.length
  obtain ⟨C, hC⟩ : ∃ C, doN z0 L L.length = C := ⟨_, rfl⟩
  obtain ⟨P, hP⟩ : ∃ C, plsN L L.length = C := ⟨_, rfl⟩
  obtain ⟨l, hl⟩ : ∃ C, 2 * L.length = C := ⟨_, rfl⟩
  have hcb2 : Bd C 64000000000 := fun a i => by
    rw [hC] at hcb
    have := hcb a i
    omega
  rw [hC] at HCH
  rw [hP] at HPL
  rw [hP] at hps hpl
  rw [hl] at hpl HCH
  rw [hC, hP, hl]
  have HB := Lib.hid hB
  have HCB := Lib.hid hcb2
  have HPS := Lib.hid hps
  have HLN := Lib.hid hpl
  have hl64 : l ≤ 64 := by omega
  have HV := Lib.hid hv
  have HH := Lib.hid H
  have HPX := Lib.hid (fun (a : ByteArray) (W : World) => Tryz.strings_HasPrefix a outP W)
  unfold outP at HPX
  clear hB hcb hcb2 hps hpl hv H hC hP hl hG hL
  go_enter Tryz.func36, Tryz.ntmps36
  go_wp2_with fail
  refine (HCH.out w HV.out).mono ?_
  rintro e w1 ⟨cb, hh, rfl, hcb0, HC1, B1⟩
  go_wp2_with fail
  refine (HPL.out w1 (HV.out.mono B1)).mono ?_
  rintro e w2 ⟨pv, rfl, ⟨ad, c, rfl, rd⟩, B2⟩
  have HC2 : BalM w2 cb l C hh := HC1.below B2
  have HB2 := Lib.hid (B1.trans (B2.mono B1.size))
  have H2 : BalZ w2 mb n f := BalM.below HH.out HB2.out
  rw [HLN.out] at rd ⊢
  have LP := rd.2.1
  have LP2 := rd.2.2.1
  unfold maxLen at LP2
  clear B1 B2 HC1 HCH HPL
  go_wp2
  go_loopw [5, 15] (fun ev iv wr => ∃ i : Nat, iv = .int .i64 (i : Int) ∧ i ≤ l ∧ ev = .int .i64 (refN f C P i) ∧ Below w2.heap.size w2 wr)
    (fun _ iv _ => l - (intOf iv).toNat)
  case atStart => exact ⟨0, rfl, Nat.zero_le _, rfl, Below.refl _ _⟩
  case round =>
    obtain ⟨i, rfl, hi, rfl, B⟩ := hrel
    by_cases h1 : i < l
    · have hip : i < P.length := by rw [HLN.out]; exact h1
      obtain ⟨X, hX⟩ : ∃ X, P.getD i pl0 = X := ⟨_, rfl⟩
      obtain ⟨b, o, rfl, c0, c1⟩ := pl_cells (rd.mono B) hip hX
      obtain ⟨s1, s2⟩ := HPS.out _ (pl_mem hip)
      rw [hX] at s1 s2
      have i0 : (0 : Int) ≤ (i : Int) := by omega
      have i1 : (i : Int) < (l : Int) := by omega
      have hst : refN f C P (i + 1) = if f X.1 X.2 + C X.1 X.2 < 0 ∧ isOut X.1 = false then 10 else refN f C P i := by rw [refN, hX]
      have HST := Lib.hid hst
      obtain ⟨R, hR⟩ : ∃ R, refN f C P i = R := ⟨_, rfl⟩
      rw [hR] at hst ⊢
      have b1 := HB.out X.1 X.2
      have b2 := HCB.out X.1 X.2
      obtain ⟨x, hx⟩ : ∃ x, f X.1 X.2 = x := ⟨_, rfl⟩
      obtain ⟨y, hy⟩ : ∃ x, C X.1 X.2 = x := ⟨_, rfl⟩
      rw [hx] at b1 hst
      rw [hy] at b2 hst
      have HST := Lib.hid hst
      have HX := Lib.hid hx
      have HY := Lib.hid hy
      obtain ⟨z, hz⟩ : ∃ z, x + y = z := ⟨_, rfl⟩
      have hwr : IntKind.i64.wrap (x + y) = z := by rw [← hz]; exact IntWalk.i64_in _ (by omega)
      have z1 : ¬ (z > 1099511627776) := by omega
      have z2 : ¬ (z < -1099511627776) := by omega
      rw [hz] at HST
      clear hst hR hX hx hy hz b1 b2
      go_upto_region 6 with (fail)
      have vm := Vals.newL wr wr.heap.size [.string X.1, .string X.2] 81 rfl
      have bm := below_alloc wr (.cells #[.string X.1, .string X.2] 81)
      have B1 := below_trans B bm
      clear c0 c1 bm B
      generalize wr.alloc (.cells #[.string X.1, .string X.2] 81) = w3 at *
      obtain ⟨bb, hbb⟩ : ∃ q, wr.heap.size = q := ⟨_, rfl⟩
      rw [hbb] at vm ⊢
      clear hbb
      have e0 := vm.cell (i := 0) (by simp)
      have e1 := vm.cell (i := 1) (by simp)
      simp only [List.getD_cons_zero, List.getD_cons_succ] at e0 e1
      obtain ⟨S, hS⟩ : ∃ S : World → Prop, ∀ w', S w' ↔ ((Instr.lookup 54 (.map (some mb)) (.agg #[.string X.1, .string X.2]) false).run Tryz.prog w' = .ok (.int .i64 x) w' ∧ (Instr.lookup 53 (.map (some cb)) (.agg #[.string X.1, .string X.2]) false).run Tryz.prog w' = .ok (.int .i64 y) w' ∧ w'.cell? ⟨bb, 0, none⟩ = some (.string X.1) ∧ w'.cell? ⟨bb, 1, none⟩ = some (.string X.2)) := ⟨_, fun _ => Iff.rfl⟩
      have HSS := Lib.hid hS
      have Bd1 := below_dr B1
      have hS1 : S w3.drew := by
        obtain ⟨k1, -⟩ := (BalM.below H2 Bd1).look mapT_bal s1 s2
        obtain ⟨k2, -⟩ := (HC2.below Bd1).look mapT_pl s1 s2
        rw [HX.out] at k1
        rw [HY.out] at k2
        exact (hS _).2 ⟨k1, k2, e0, e1⟩
      have vd : Vals w3.drew bb [.string X.1, .string X.2] := vm
      have HBD := Lib.hid Bd1
      clear hS vm e0 e1 B1 Bd1 s1 s2
      refine wp_region_L (S := S) (lx := [7]) (by kernel_rfl) hS1 (fun hHeld => ?_)
      clear hS1
      generalize w3.drew = wd at *
      refine wpAnyL_pure (i := 0) (v := ?vp1) rfl (by kernel_rfl) (by kernel_rfl) (by kernel_rfl) (fun _ _ _ h => h) (Or.inl ⟨by rfl, ?hyp1⟩) ?_
      case hyp1 => (intro w _; (go_simp) <;> (with_reducible rfl))
      try simp only [Act.put, List.getElem_toArray, List.getElem_cons_zero, List.getElem_cons_succ, List.setIfInBounds_toArray, List.set_cons_zero, List.set_cons_succ]
      refine wpAnyL_take (i := 1) (v := ?vp2) rfl (by kernel_rfl) (by kernel_rfl) (by kernel_rfl) (by kernel_rfl) (fun _ _ _ h => h) (Or.inl ⟨by rfl, ?hyp2⟩) (by assumption) ?_
      case hyp2 => (intro w hSw; replace hSw := (HSS.out w).1 hSw; (go_simp) <;> (with_reducible rfl))
      try simp only [Act.put, List.getElem_toArray, List.getElem_cons_zero, List.getElem_cons_succ, List.setIfInBounds_toArray, List.set_cons_zero, List.set_cons_succ]
      refine wpAnyL_take (i := 2) (v := ?vp3) rfl (by kernel_rfl) (by kernel_rfl) (by kernel_rfl) (by kernel_rfl) (fun _ _ _ h => h) (Or.inl ⟨by rfl, ?hyp3⟩) (by assumption) ?_
      case hyp3 => (intro w hSw; replace hSw := (HSS.out w).1 hSw; (go_simp) <;> (with_reducible rfl))
      try simp only [Act.put, List.getElem_toArray, List.getElem_cons_zero, List.getElem_cons_succ, List.setIfInBounds_toArray, List.set_cons_zero, List.set_cons_succ]
      refine wpAnyL_pure (i := 3) (v := ?vp4) rfl (by kernel_rfl) (by kernel_rfl) (by kernel_rfl) (fun _ _ _ h => h) (Or.inl ⟨by rfl, ?hyp4⟩) ?_
      case hyp4 => (intro w _; (go_simp) <;> (with_reducible rfl))
      try simp only [Act.put, List.getElem_toArray, List.getElem_cons_zero, List.getElem_cons_succ, List.setIfInBounds_toArray, List.set_cons_zero, List.set_cons_succ]
      refine wpAnyL_take (i := 4) (v := ?vp5) rfl (by kernel_rfl) (by kernel_rfl) (by kernel_rfl) (by kernel_rfl) (fun _ _ _ h => h) (Or.inl ⟨by rfl, ?hyp5⟩) (by assumption) ?_
      case hyp5 => (intro w hSw; replace hSw := (HSS.out w).1 hSw; (go_simp) <;> (with_reducible rfl))
      try simp only [Act.put, List.getElem_toArray, List.getElem_cons_zero, List.getElem_cons_succ, List.setIfInBounds_toArray, List.set_cons_zero, List.set_cons_succ]
      refine wpAnyL_take (i := 5) (v := ?vp6) rfl (by kernel_rfl) (by kernel_rfl) (by kernel_rfl) (by kernel_rfl) (fun _ _ _ h => h) (Or.inl ⟨by rfl, ?hyp6⟩) (by assumption) ?_
      case hyp6 => (intro w hSw; replace hSw := (HSS.out w).1 hSw; (go_simp) <;> (with_reducible rfl))
      try simp only [Act.put, List.getElem_toArray, List.getElem_cons_zero, List.getElem_cons_succ, List.setIfInBounds_toArray, List.set_cons_zero, List.set_cons_succ]
      refine wpAnyL_pure (i := 6) (v := ?vp7) rfl (by kernel_rfl) (by kernel_rfl) (by kernel_rfl) (fun _ _ _ h => h) (Or.inl ⟨by rfl, ?hyp7⟩) ?_
      case hyp7 => (intro w _; (go_simp) <;> (with_reducible rfl))
      try simp only [Act.put, List.getElem_toArray, List.getElem_cons_zero, List.getElem_cons_succ, List.setIfInBounds_toArray, List.set_cons_zero, List.set_cons_succ]
      refine wpAnyL_pure (i := 7) (v := ?vp8) rfl (by kernel_rfl) (by kernel_rfl) (by kernel_rfl) (fun _ _ _ h => h) (Or.inl ⟨by rfl, ?hyp8⟩) ?_
      case hyp8 => (intro w _; (go_simp) <;> (with_reducible rfl))
      try simp only [Act.put, List.getElem_toArray, List.getElem_cons_zero, List.getElem_cons_succ, List.setIfInBounds_toArray, List.set_cons_zero, List.set_cons_succ]
      refine wpAnyL_done (by kernel_rfl) ?_ _
      have e0 := vd.cell (i := 0) (by simp)
      have lvd := vd.lt
      simp only [List.getD_cons_zero, List.getD_cons_succ] at e0
      clear hHeld HSS
      by_cases hz0 : z < 0
      · obtain ⟨q, hq⟩ : ∃ q, isOut X.1 = q := ⟨_, rfl⟩
        have HP2 := HPX.out X.1
        unfold isOut outP at hq
        rw [hq] at HP2
        have hq2 : isOut X.1 = q := hq
        have HQ := Lib.hid hq2
        have HP3 := Lib.hid HP2
        clear hq hq2 HP2
        go_wp2_with fail
        refine (HP3.out wd).mono ?_
        rintro e wz ⟨rfl, rfl⟩
        cases q with
        | false =>
          have HR := Lib.hid (show refN f C P (i + 1) = 10 by rw [HST.out, if_pos ⟨hz0, HQ.out⟩])
          go_wp2
          go_roundw
          case rel => exact ⟨i + 1, by go_num, by omega, by rw [HR.out], HBD.out⟩
          case measure => simp [intOf]; omega
        | true =>
          have HR := Lib.hid (show refN f C P (i + 1) = R by rw [HST.out, if_neg (fun h => by rw [HQ.out] at h; cases h.2)])
          go_wp2
          go_roundw
          case rel => exact ⟨i + 1, by go_num, by omega, by rw [HR.out], HBD.out⟩
          case measure => simp [intOf]; omega
      · have HR := Lib.hid (show refN f C P (i + 1) = R by rw [HST.out, if_neg (fun h => hz0 h.1)])
        go_wp2
        go_roundw
        case rel => exact ⟨i + 1, by go_num, by omega, by rw [HR.out], HBD.out⟩
        case measure => simp [intOf]; omega
    · obtain rfl : i = l := by omega
      go_wp2
      go_ret
      exact ⟨rfl, HB2.out.trans (B.mono HB2.out.size)⟩
end Go.Proofs
end

