/- panel: Best and Table. -/
import Derived.Test.YtopfohklnnnhbaaPanPlan
open Go.RowKit Go.Shelf Go.Deep
namespace Go.Proofs
set_option linter.unusedVariables false
set_option linter.unusedSimpArgs false

theorem ownsRow_base {w : World} {B B' e k : Nat} {v : Value} {n : Nat} {cs : List Value} (h : w.ownsRow B e k v n cs) (hb : B' ≤ B) : w.ownsRow B' e k v n cs := by
  obtain ⟨hl, h1⟩ := h
  refine ⟨hl, ?_⟩
  rcases h1 with h1 | ⟨g, cap, cur, h0, hg, r⟩
  · exact .inl h1
  · exact .inr ⟨g, cap, cur, h0, Nat.le_trans hb hg, r⟩
theorem grown_none_below {w w' : World} (h : w.grownBy w' (Value.slice none 0 0).ownBlock) : Below w.heap.size w w' :=
  (Below.refl _ _).grown h (Nat.le_refl _) (fun k e => by cases e)

/-- shapes that Check takes -/
def Shapes (w : World) (ad : Option Addr) (n c : Nat) (sh : List Shp) : Prop := sh.length = n ∧ RdV w ad c n 4 (flat scl sh) ∧ (∀ s ∈ sh, ShpOk s) ∧ n ≤ 16
theorem Shapes.mono {w w' : World} {ad n c sh} (h : Shapes w ad n c sh) (hb : Below w.heap.size w w') : Shapes w' ad n c sh := ⟨h.1, h.2.1.mono hb, h.2.2.1, h.2.2.2⟩

set_option maxRecDepth 100000 in
set_option maxHeartbeats 1000000 in
theorem pbest_calls (W H kf : Nat) (ad : Option Addr) (n c : Nat) (sh : List Shp) (w : World) (hW : 1 ≤ W ∧ W ≤ 64) (hH : 1 ≤ H ∧ H ≤ 64) (hkf : kf ≤ 8) (hsh : Shapes w ad n c sh) :
    Calls Try.prog 4 #[.int .i64 (W : Int), .int .i64 (H : Int), .int .i64 (kf : Int), .slice ad n c] w fun e w' =>
      ∃ (av : Option Addr) (cv k : Nat), k = (planV kf sh W H).length ∧ e = .returned (.tuple #[.slice av k cv, .int .i64 (VV kf sh W H), .int .i64 0]) ∧ w'.ownsRow w.heap.size 35 2 (.slice av k cv) k (flat ccl (planV kf sh W H)) ∧ Below w.heap.size w w' := by
  have CK := Lib.hid (pcheck_calls W H kf ad n c sh w hW hH hkf hsh.2.2.2 hsh.1 hsh.2.1 hsh.2.2.1)
  have FI := Lib.hid (fun (w1 : World) (hb : Below w.heap.size w w1) => fill_calls W H kf ad n c sh w1 hW hH hkf hsh.2.2.2 hsh.1 (hsh.2.1.mono hb) (fun s hs => (hsh.2.2.1 s hs).2.2.2.2.2))
  have PL := Lib.hid (fun (b : Nat) (w2 : World) (hS : Saw w2 b kf ad n c sh (tabV kf sh W H)) => plan_calls W H kf ad n c sh hW.2 hH.2 hkf hsh.2.2.2 (fun s hs => (hsh.2.2.1 s hs).2.2.2.2.2) (b + 1) b (Nat.lt_succ_self _) (W + H) W H (Nat.le_refl _) hW.1 (Nat.le_refl _) hH.1 (Nat.le_refl _) w2 (.slice none 0 0) [] hS.lt hS (ownsRow_nil _ _ _ _) (by
    have h1 : W * H ≤ 64 * 64 := Nat.mul_le_mul hW.2 hH.2
    simp only [List.length_nil]; omega))
  have hVt : tabV kf sh W H W H = VV kf sh W H := tabV_in (Nat.le_refl _) (Nat.le_refl _)
  have hW65 : W < 65 := by omega
  have hH65 : H < 65 := by omega
  have hW65' : (W : Int) < 65 := by omega
  have hH65' : (H : Int) < 65 := by omega
  obtain ⟨V, hV⟩ : ∃ V, VV kf sh W H = V := ⟨_, rfl⟩
  obtain ⟨L, hL⟩ : ∃ L, planV kf sh W H = L := ⟨_, rfl⟩
  rw [hV] at hVt ⊢
  rw [hL] at PL ⊢
  obtain ⟨T, hT⟩ : ∃ T, tabV kf sh W H = T := ⟨_, rfl⟩
  rw [hT] at FI PL hVt
  have HVT := Lib.hid hVt
  clear hV hL hT hVt hsh
  go_enter Try.func4, Try.ntmps4
  go_wp2_with fail
  refine CK.out.mono ?_
  rintro e w1 ⟨rfl, b1⟩
  have B1 := Lib.hid b1
  clear b1 CK
  go_wp2_with fail
  refine (FI.out _ B1.out).mono ?_
  rintro e w2 ⟨b, rfl, hb, hS, b2⟩
  have B2 := Lib.hid (below_trans B1.out b2)
  have hbw : w.heap.size ≤ b := Nat.le_trans B1.out.size hb
  have ct := hS.tab W H hW65 hH65
  rw [HVT.out] at ct
  have HS := Lib.hid hS
  clear b2 B1 FI hS HVT hb
  go_upto_region 5 with (fail)
  go_region_held3 (fun w' => w'.cell? ⟨b, 2 + W * 65 + H, none⟩ = some (.int .i64 V))
    (first | exact ct | exact cth)
    (first | ((go_at_call 8); (with_reducible refine (PL.out _ _ HS.out.drew).mono ?_); rintro e w3 ⟨u, rfl, hown3, hg3, hat3⟩; obtain ⟨av, cv, rfl⟩ := ownsRow_form hown3; have cth : w3.cell? ⟨b, 2 + W * 65 + H, none⟩ = some (.int .i64 V) := ((grown_none_below hg3).cell (p := ⟨b, 2 + W * 65 + H, none⟩) HS.out.lt).trans ct))
  have HO := Lib.hid hown3
  have HG := Lib.hid hg3
  clear hown3 hg3 hat3 cth ct HS PL
  obtain ⟨k, hk⟩ : ∃ k, L.length = k := ⟨_, rfl⟩
  simp only [List.nil_append] at HO ⊢
  rw [hk] at HO ⊢
  go_wp2
  go_ret3
  exact ⟨av, cv, k, hk.symm, rfl, ownsRow_base HO.out (by omega), B2.out.drew.trans ((grown_none_below HG.out).mono B2.out.size)⟩

theorem info_int : (Try.prog.info? 3).map (fun i => (i.zero, i.size, i.bytes)) = some (some (.int .i64 0), 1, 8) := by kernel_rfl
theorem info_ints : (Try.prog.info? 33).map (fun i => (i.zero, i.size, i.bytes)) = some (some (.slice none 0 0), 1, 24) := by kernel_rfl
/-- a row of the table -/
def rowL (T : Nat → Nat → Int) (i H : Nat) : List Value := (List.range H).map fun j => .int .i64 (T i (j + 1))
theorem rowL_rd {w : World} {b kf ad n c sh T} (h : Saw w b kf ad n c sh T) {i H : Nat} (hi : i < 65) (hH : H ≤ 64) : RdV w (some ⟨b, 2 + i * 65 + 1, none⟩) 64 H 1 (rowL T i H) := by
  refine ⟨by simp [rowL], hH, by unfold maxLen; omega, .inr ⟨b, _, rfl, fun j u hj => ?_⟩⟩
  have hj2 := (List.getElem?_eq_some_iff.1 hj).1
  simp only [rowL, List.length_map, List.length_range] at hj2
  have e : u = .int .i64 (T i (j + 1)) := by
    simp only [rowL, List.getElem?_map, List.getElem?_range hj2, Option.map_some, Option.some.injEq] at hj
    exact hj.symm
  rw [e, show 2 + i * 65 + 1 + j = 2 + i * 65 + (j + 1) by omega]
  exact h.tab i (j + 1) hi (by omega)

theorem Vals.rd1 {w : World} {b : Nat} {v0 : Value} (h : Vals w b [v0]) : RdV w (some ⟨b, 0, none⟩) 1 1 1 [v0] := by
  refine ⟨rfl, Nat.le_refl _, by unfold maxLen; omega, .inr ⟨b, 0, rfl, fun j u hj => ?_⟩⟩
  have hj2 := (List.getElem?_eq_some_iff.1 hj).1
  have e := h.cell hj2
  rw [Nat.zero_add, e, getD_of hj]
theorem ownsRow_at {w : World} {B e n c : Nat} {ad : Option Addr} {cs : List Value} {k : Nat} (h : w.ownsRow B e k (.slice ad n c) n cs) (hn : 0 < n) : ∃ g, ad = some ⟨g, 0, none⟩ ∧ B ≤ g ∧ g < w.heap.size ∧ ∀ j u, cs[j]? = some u → w.cell? ⟨g, j, none⟩ = some u := by
  obtain ⟨hl, h1⟩ := h
  rcases h1 with ⟨h0, h2⟩ | ⟨g, cap, cur, h0, hg, hh, hnc, hcm, hcs, ht⟩
  · omega
  · cases h0
    refine ⟨g, rfl, hg, lt_of_block hh, fun j u hj => ?_⟩
    rw [← ht, List.getElem?_take] at hj
    split at hj
    · simp only [World.cell?, hh]
      simpa using hj
    · cases hj
theorem rowL_get {T : Nat → Nat → Int} {i H j : Nat} (h : j < H) : (rowL T i H)[j]? = some (.int .i64 (T i (j + 1))) := by simp [rowL, h]
theorem rowL_one {T : Nat → Nat → Int} {i H : Nat} : ∀ u ∈ rowL T i H, u.oneCell' = true := by
  intro u hu
  obtain ⟨j, _, rfl⟩ := List.mem_map.1 hu
  rfl

/-- the last row so far -/
def LastRow (T : Nat → Nat → Int) (H k : Nat) (w : World) (rows : List Value) : Prop :=
  k = 0 ∨ ∃ r cr, rows.getD (k - 1) undef = .slice (some ⟨r, 0, none⟩) H cr ∧ ∀ j, j < H → w.cell? ⟨r, j, none⟩ = some (.int .i64 (T k (j + 1)))

set_option maxRecDepth 100000 in
set_option maxHeartbeats 1000000 in
theorem ptable_calls (W H kf : Nat) (ad : Option Addr) (n c : Nat) (sh : List Shp) (w : World) (hW : 1 ≤ W ∧ W ≤ 64) (hH : 1 ≤ H ∧ H ≤ 64) (hkf : kf ≤ 8) (hsh : Shapes w ad n c sh) :
    Calls Try.prog 5 #[.int .i64 (W : Int), .int .i64 (H : Int), .int .i64 (kf : Int), .slice ad n c] w fun e w' =>
      ∃ (g cg r cr : Nat), e = .returned (.tuple #[.slice (some ⟨g, 0, none⟩) W cg, .int .i64 0]) ∧ w'.cell? ⟨g, W - 1, none⟩ = some (.slice (some ⟨r, 0, none⟩) H cr) ∧ w'.cell? ⟨r, H - 1, none⟩ = some (.int .i64 (VV kf sh W H)) ∧ Below w.heap.size w w' := by
  have CK := Lib.hid (pcheck_calls W H kf ad n c sh w hW hH hkf hsh.2.2.2 hsh.1 hsh.2.1 hsh.2.2.1)
  have FI := Lib.hid (fun (w1 : World) (hb : Below w.heap.size w w1) => fill_calls W H kf ad n c sh w1 hW hH hkf hsh.2.2.2 hsh.1 (hsh.2.1.mono hb) (fun s hs => (hsh.2.2.1 s hs).2.2.2.2.2))
  have hVt : tabV kf sh W H W H = VV kf sh W H := tabV_in (Nat.le_refl _) (Nat.le_refl _)
  obtain ⟨V, hV⟩ : ∃ V, VV kf sh W H = V := ⟨_, rfl⟩
  rw [hV] at hVt ⊢
  obtain ⟨T, hT⟩ : ∃ T, tabV kf sh W H = T := ⟨_, rfl⟩
  rw [hT] at FI hVt
  have HVT := Lib.hid hVt
  clear hV hT hVt hsh
  go_enter Try.func5, Try.ntmps5
  go_wp2_with fail
  refine CK.out.mono ?_
  rintro e w1 ⟨rfl, b1⟩
  have B1 := Lib.hid b1
  clear b1 CK
  go_wp2_with fail
  refine (FI.out _ B1.out).mono ?_
  rintro e w2 ⟨b, rfl, hb, hS, b2⟩
  have B2 := Lib.hid (below_trans B1.out b2)
  have hbw : w.heap.size ≤ b := Nat.le_trans B1.out.size hb
  have HS := Lib.hid hS
  have hbl := hS.lt
  clear b2 B1 FI hS hb
  go_wp2
  go_loopw [12, 13] (fun ov iv wr => ∃ (k : Nat) (av : Option Addr) (cv : Nat) (rows : List Value), k ≤ W ∧ iv = .int .i64 ((k : Int) + 1) ∧ ov = .slice av k cv ∧ wr.ownsRow w2.heap.size 33 1 (.slice av k cv) k rows ∧ rows.length = k ∧ LastRow T H k wr rows ∧ Below w2.heap.size w2 wr) (fun _ iv _ => ((W : Int) + 1 - intOf iv).toNat)
  case atStart => exact ⟨0, none, 0, [], Nat.zero_le _, rfl, rfl, ownsRow_nil _ _ _ _, rfl, .inl rfl, Below.refl _ _⟩
  case round =>
    obtain ⟨k, av, cv, rows, hk, rfl, rfl, hown, hrl, hlast, hB⟩ := hrel
    by_cases hkW : k < W
    · have t1 : (k : Int) + 1 ≤ (W : Int) := by omega
      have t2 : (k : Int) + 1 < 65 := by omega
      have t3 : (0 : Int) ≤ (k : Int) + 1 := by omega
      have t4 : (H : Int) + 1 ≤ 65 := by omega
      obtain ⟨hp, hhp⟩ : ∃ z : Int, (H : Int) + 1 = z := ⟨_, rfl⟩
      have q1 : IntKind.i64.wrap ((H : Int) + 1) = hp := by rw [← hhp]; exact IntWalk.i64_in _ (by omega)
      have t5 : (1 : Int) ≤ hp := by omega
      have t6 : hp ≤ 65 := by omega
      have t7 : hp.toNat = H + 1 := by omega
      have hS := HS.out.mono hB
      have rd := rowL_rd hS (i := k + 1) (H := H) (by omega) hH.2
      have HOWN := Lib.hid hown
      have HB := Lib.hid hB
      have RD := Lib.hid rd
      clear hown hlast hB hS rd
      have hH1 : 0 < H := hH.1
      have hwr := HB.out.size
      have hk2 : k < 64 := by omega
      go_wp2_with (first
        | (at_builtin; refine wpList_append_rv rfl (.const (.slice none 0 0)) (.tmp 40) _ rfl wr.heap.size 3 _ 1 8 Try.underlying33 info_int rfl (by decide) _ 0 [] rfl (ownsRow_nil _ _ _ _) _ H 64 (rowL T (k + 1) H) rfl RD.out rowL_one (by unfold maxLen; omega) (by omega) (Nat.le_refl _) H (by omega) _ rfl ?_; intro ad1 c1 w5 hown5 hg5 hn5 hb5 hk5; have O5 := Lib.hid hown5; have B5 := Lib.hid hb5; have O6 := Lib.hid (ownsRow_mono (ownsRow_mono HOWN.out hb5) (below_alloc w5 (.cells #[.slice ad1 H c1] 33))); have V6 := Lib.hid ((Vals.newL w5 w5.heap.size [.slice ad1 H c1] 33 rfl).rd1); have S6 := Lib.hid (Nat.le_trans hwr (Nat.le_trans hb5.size (below_alloc w5 (.cells #[.slice ad1 H c1] 33)).size)); clear hown5 hg5 hn5 hb5 hk5)
        | (at_builtin; refine wpList_append_rv rfl (.tmp 32) (.tmp 42) _ rfl w2.heap.size 33 _ 1 24 Try.underlying30 info_ints rfl (by decide) _ k rows rfl O6.out _ 1 1 [.slice ad1 H c1] rfl V6.out (by intro u hu; rw [List.mem_singleton.1 hu]; rfl) (by unfold maxLen; omega) (by omega) S6.out (k + 1) rfl _ rfl ?_; intro ad2 c2 w7 hown7 hg7 hn7 hb7 hk7; have O7 := Lib.hid hown7; have G7 := Lib.hid hg7; have B7 := Lib.hid hb7; clear hown7 hg7 hn7 hb7 hk7))
      obtain ⟨g1, rfl, hg1, hg2, hcl⟩ := ownsRow_at O5.out hH1
      have hlr : LastRow T H (k + 1) w7 (rows ++ [.slice (some ⟨g1, 0, none⟩) H c1]) := by
        refine .inr ⟨g1, c1, ?_, fun j hj => ?_⟩
        · rw [Nat.add_sub_cancel, ← hrl]; simp [List.getD]
        · have h1 := hcl j _ (by rw [List.nil_append]; exact rowL_get hj)
          have h2 := ((below_alloc w5 (.cells #[.slice (some ⟨g1, 0, none⟩) H c1] 33)).cell (p := ⟨g1, j, none⟩) hg2).trans h1
          have hne : some g1 ≠ (Value.slice av k cv).ownBlock := fun e => by
            have := (ownsRow_block HOWN.out g1 e.symm).2
            omega
          exact G7.out.cell h2 hne
      have hB7 : Below w2.heap.size w2 w7 := (HB.out.trans (B5.out.mono hwr)).trans (((below_alloc w5 _).mono (Nat.le_trans hwr B5.out.size)).trans B7.out)
      go_roundw
      case rel => exact ⟨k + 1, ad2, c2, _, by omega, by go_num, rfl, O7.out, by rw [List.length_append, hrl]; rfl, hlr, hB7⟩
      case measure => simp [intOf]; omega
    · obtain rfl : k = W := by omega
      have hk0 : 0 < k := hW.1
      obtain ⟨g, rfl, hg1, hg2, hcl⟩ := ownsRow_at hown hk0
      rcases hlast with h0 | ⟨r, cr, hr, hcr⟩
      · omega
      have hlt : k - 1 < rows.length := by omega
      have h1 := hcl (k - 1) _ (show rows[k - 1]? = some (.slice (some ⟨r, 0, none⟩) H cr) by rw [← hr]; simp [List.getD, hlt])
      have h2 := hcr (H - 1) (by omega)
      rw [show H - 1 + 1 = H by omega, HVT.out] at h2
      have H1 := Lib.hid h1
      have H2 := Lib.hid h2
      have HB := Lib.hid (B2.out.trans (hB.mono B2.out.size))
      clear hown hcl hr hcr h1 h2 hB
      go_wp2
      go_ret2
      exact ⟨g, cv, r, cr, rfl, H1.out, H2.out, HB.out⟩

end Go.Proofs
