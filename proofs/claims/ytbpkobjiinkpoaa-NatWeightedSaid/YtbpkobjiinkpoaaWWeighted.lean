/- The walk of NatWeighted: whatever comes in, it returns true and changes nothing that was there. -/
import Derived.Test.YtbpkobjiinkpoaaWgtLaw
open Go.RowKit Go.Deep Go.Shelf
namespace Go.Proofs
set_option linter.unusedVariables false
set_option linter.unusedSimpArgs false
attribute [local go_sem] Oper.semAt_some

set_option maxRecDepth 100000 in
set_option maxHeartbeats 1000000 in
theorem walk_weighted (v : Value) (xs : List Nat) (b : Nat) (w : World) (hx : In w v xs) (hb : b < 4294967296) :
    Calls Try.prog 4 #[v, .int .u32 (b : Int)] w (RetTrue w) := by
  have CU := fun (W : World) (hb : Below w.heap.size w W) => whole_calls v xs 10 10 W (hx.mono hb) rfl (by omega)
  obtain ⟨ad, c, rfl, hs⟩ := hx
  obtain ⟨nx, hnx⟩ : ∃ n, xs.length = n := ⟨_, rfl⟩
  rw [hnx] at CU ⊢
  have HCU := Lib.hid CU
  have hsl := hs
  clear CU hnx
  obtain ⟨m, hm0⟩ : ∃ n, val (xs.take 10) = n := ⟨_, rfl⟩
  have hlm : (limbs m).length ≤ 10 := by
    rw [← hm0]
    exact Nat.le_trans (limbs_length_val _ (fun x hx => hs.2.2.1 x (List.mem_of_mem_take hx))) (by rw [List.length_take]; omega)
  rw [hm0] at HCU
  clear hs hsl hm0
  refine (callsIn_wide (n := 9)).1 ?_
  refine callsIn_of_wp_marks Try.func4 rfl trivial ?_ rfl
  simp only [Try.ntmps4, List.size_toArray, List.length_cons, List.length_nil, Nat.reduceAdd, Nat.reduceSub, Array.replicate_succ, Array.replicate_zero, List.push_toArray, List.append_toArray, List.nil_append, List.cons_append]
  refine wpIn_wide.2 ?_
  go_wp2_with fail
  have vb := Vals.newL w w.heap.size [.int .u32 (b : Int)] 24 rfl
  have b0 := below_alloc w (.cells #[.int .u32 (b : Int)] 24)
  have sz := World.size_alloc w (.cells #[.int .u32 (b : Int)] 24)
  have vr := Vals.newL (w.alloc (.cells #[.int .u32 (b : Int)] 24)) (w.heap.size + 1) [.bool false] 4 sz.symm
  have b1 := below_alloc (w.alloc (.cells #[.int .u32 (b : Int)] 24)) (.cells #[.bool false] 4)
  replace vb := vb.mono b1
  have B := below_trans b0 b1
  clear b0 b1 sz
  have lt0 := vb.lt
  generalize (w.alloc (.cells #[.int .u32 (b : Int)] 24)).alloc (.cells #[.bool false] 4) = w0 at *
  refine (HCU.out _ B).mono ?_
  rintro e w1 ⟨v5, rfl, ha, hfa, b1⟩
  replace vb := vb.mono b1
  replace vr := vr.mono b1
  replace B := below_trans B b1
  have ap5 := hfa.apart lt0
  clear b1 HCU hfa lt0
  have cb := vb.cell (i := 0) (by simp)
  have fb := vb.frozen 0
  have lb := vb.lt
  simp only [List.getD_cons_zero] at cb
  go_upto_if 15 with (fail)
  go_cut [] from 12 (fun we => ∃ d : Nat, 2 ≤ d ∧ d < 4294967296 ∧ Only w.heap.size w1 we ∧ Vals we w.heap.size [.int .u32 (d : Int)])
  case first =>
    by_cases h2 : b < 2
    · have t1 : (b : Int) < 2 := by omega
      have t2 : IntKind.u32.wrap ((b : Int) + 2) = ((b + 2 : Nat) : Int) := by rw [IntKind.wrap_u32]; omega
      go_wp2
      go_meet
      exact ⟨b + 2, by omega, by omega, only_set _ ⟨w.heap.size, 0, none⟩ _, vb.set 0 _⟩
    · have t1 : ¬ (b : Int) < 2 := by omega
      go_wp2
      go_meet
      exact ⟨b, by omega, hb, Only.refl _ _, vb⟩
  case rest =>
    obtain ⟨d, hd2, hd, ho, vb⟩ := hcut
    rename World => w2
    replace vr := vr.only ho (by omega)
    replace ha := ha.only ho ap5
    replace B := below_only B ho (Nat.le_refl _) B.size
    clear ho ap5 hb cb fb lb
    go_wp2_with fail
    have n6 := (own_made w2).num (by show limbs 0 = []; exact limbs_zero)
    have bl := below_alloc w2 (.cells #[] 24)
    refine (of_calls 1 1 _ rfl (by omega)).mono ?_
    rintro e w3 ⟨v7, rfl, h7, f7, b3⟩
    have h6 : Num w3 _ 0 := n6.1.mono b3
    replace b3 := below_trans bl b3
    replace vb := vb.mono b3
    replace vr := vr.mono b3
    replace ha := ha.mono b3
    replace B := below_trans B b3
    clear bl b3 n6
    obtain ⟨a7, c7, rfl, s7⟩ := h7
    have H7 := Lib.hid (show Num w3 (.slice a7 (limbs 1).length c7) 1 from ⟨_, _, rfl, s7⟩)
    clear s7 f7
    go_upto_region 6 with (fail)
    obtain ⟨w4, hw4, hst, b4, sz4⟩ := wst_new w3 d _ _ 23 23 3 24 h6 H7.out
    rw [hw4]
    clear hw4 h6 H7
    obtain ⟨g, hg⟩ : ∃ g, w3.heap.size = g := ⟨_, rfl⟩
    have ha4 := ha.mono b4
    have vb4 := vb.mono b4
    have cb := vb4.c1
    have lrb := vr.lt
    rw [hg] at hst sz4 lrb ⊢
    go_wp2_with fail
    refine (digits_ok _ m d w4 ha4 (by omega) hd2 hd).mono ?_
    rintro e w5 ⟨Bs, Bb, vq, rfl, hBs, hBb, hcs, hcb, hnum, hfr, b5⟩
    replace hst := wst_mono hst b5
    have hB5 := below_trans b4 b5
    have sz5 := b5.size
    clear b4 b5 ha4 vb4 cb
    have hnil : (binOp .eql 31 (.func (.func 34) #[] #[.pointer (some ⟨Bs, 0, none⟩), .pointer (some ⟨Bb, 0, none⟩)]) .nilFunc).run Try.prog w5 = .ok (.bool false) w5 := by rfl
    go_wp2_with fail
    refine (wpIn_wide (n := 9)).1 ?_
    have HN := Lib.hid (show (digs d m).length ≤ 320 from digs_room d m 10 hlm)
    refine' wpIn_rangeFunc_ownG (F := Fence.wide) (n := 9) rfl (by omega) (gf := 34) (lb := #[.pointer (some ⟨Bs, 0, none⟩), .pointer (some ⟨Bb, 0, none⟩)]) rfl trivial (enters_of Try.func34 (by kernel_rfl) rfl)
      (digits_stops 8 (by omega) g (FourB g) (fourB_mine g) Bs Bb d m vq hd (.inr hd2) (by omega) w5 (by omega) (fun k hk => by have := hk.2; omega) (fun h => by have := h.2; omega) hcs hcb hnum (fresh_off w5 hfr (by omega)))
      (fun h k => KeepB.trans h k) (fun W l o o' hl h1 h2 _ => KeepB.turn (fourB_mine g) W l o o' (by omega) h1 h2) (Below.refl _ _) (fun _ => rfl)
      (fun (pre : List (Dg d)) W => WSt g d pre W ∧ Below w3.heap.size w3 W)
      (fun _ _ _ => False)
      (OwnFrom.and (Own.from (wst_own g d) _) (ownFrom_below (Nat.le_refl _) (by omega)))
      (fun _ _ _ _ _ hs _ _ => hs)
      ⟨hst, hB5⟩ _ ?assign ?body ?done ?stop
    case assign =>
      intro l x W K hK
      gi_wp2
      exact hK
    case stop =>
      rintro D c pre W _ _ h _
      exact h.elim
    case body =>
      rintro l pre x W ⟨hst, hB⟩ hlt
      have hcells := Lib.hid (wst_cells hst)
      obtain ⟨vs, vw, c6, c7, c8, c9, ns, nw, os, ow⟩ := hst
      have hx2 := x.2
      obtain ⟨xv, hxv⟩ : ∃ n, (x.1 : Nat) = n := ⟨_, rfl⟩
      rw [hxv] at hx2 ⊢
      have ls := ws_room d pre hd
      have lw := pow_room d pre.length hd
      have hn := HN.out
      have HEND := Lib.hid (show ws d (pre ++ [x]) = ws d pre + d ^ pre.length * xv ∧ d ^ (pre ++ [x]).length = d ^ pre.length * d ∧ (((pre ++ [x]).length : Nat) : Int) = (pre.length : Int) + 1 ∧ lastD d (pre ++ [x]) = xv from ⟨by rw [ws_snoc, hxv], by rw [List.length_append, List.length_singleton, Nat.pow_succ], by rw [List.length_append, List.length_singleton, Int.natCast_add]; rfl, by rw [lastD_snoc, hxv]⟩)
      obtain ⟨k, hk⟩ : ∃ k, pre.length = k := ⟨_, rfl⟩
      rw [hk] at c8 nw hlt ls lw HEND
      obtain ⟨S, hS⟩ : ∃ s, ws d pre = s := ⟨_, rfl⟩
      rw [hS] at ns ls HEND
      obtain ⟨p, hp⟩ : ∃ p, d ^ k = p := ⟨_, rfl⟩
      rw [hp] at nw lw HEND
      obtain ⟨z, hz⟩ : ∃ z, lastD d pre = z := ⟨_, rfl⟩
      rw [hz] at c9
      have hk3 : k < 320 := by omega
      clear hk hS hp hz hxv hn hlt
      have vb' := vb.mono hB
      have lg := c9.lt
      have cb := vb'.c1
      have e6 := c6.c1
      have e7 := c7.c1
      have e8 := c8.c1
      have e9 := c9.c1
      have t0 : ¬ ((d : Int) ≤ (xv : Int)) := by omega
      have t1 : ¬ ((400 : Int) < (k : Int)) := by omega
      have hgl : w3.heap.size ≤ g := by omega
      have wx : IntKind.u64.wrap (xv : Int) = (xv : Int) := by rw [IntKind.wrap_u64]; omega
      have wd : IntKind.u64.wrap (d : Int) = (d : Int) := by rw [IntKind.wrap_u64]; omega
      gi_wp2
      refine wpIn_region_T (S := fun w' => w'.cell? ⟨g, 0, none⟩ = some vs ∧ w'.cell? ⟨g + 1, 0, none⟩ = some vw) (L := 7) (by kernel_rfl) (by kernel_rfl) ⟨e6, e7⟩ (fun hHeld => ?_)
      have kd : Kc g W W.drew := ⟨Nat.le_refl _, fun _ _ _ => rfl⟩
      replace c6 := c6.drewV
      replace c7 := c7.drewV
      replace c8 := c8.drewV
      replace c9 := c9.drewV
      replace vb' := vb'.drewV
      replace ns := ns.drewV
      replace nw := nw.drewV
      replace hB := hB.drew
      have kc := kd
      clear kd e6 e7 e8 e9 cb
      generalize W.drew = z0 at *
      refine wpAnyT_take (i := 0) (v := ?v0a) rfl (by kernel_rfl) (by rfl) (by kernel_rfl) (by kernel_rfl) (by kernel_rfl) (fun _ _ _ h => h) (Or.inl ⟨by rfl, ?hy0a⟩) (by assumption) ?_
      case hy0a => (intro w hSw; (try dsimp only at hSw); (go_simp) <;> (with_reducible rfl))
      try simp only [Act.put, List.setIfInBounds_toArray, List.set_cons_zero, List.set_cons_succ]
      refine wpAnyT_take (i := 1) (v := ?v1a) rfl (by kernel_rfl) (by rfl) (by kernel_rfl) (by kernel_rfl) (by kernel_rfl) (fun _ _ _ h => h) (Or.inl ⟨by rfl, ?hy1a⟩) (by assumption) ?_
      case hy1a => (intro w hSw; (try dsimp only at hSw); (go_simp) <;> (with_reducible rfl))
      try simp only [Act.put, List.setIfInBounds_toArray, List.set_cons_zero, List.set_cons_succ]
      refine wpAnyT_take (i := 2) (v := ?v2a) rfl (by kernel_rfl) (by rfl) (by kernel_rfl) (by kernel_rfl) (by kernel_rfl) (fun _ _ _ h => h) (Or.inl ⟨by rfl, ?hy2a⟩) (by assumption) ?_
      case hy2a => (intro w hSw; (try dsimp only at hSw); (go_simp) <;> (with_reducible rfl))
      try simp only [Act.put, List.setIfInBounds_toArray, List.set_cons_zero, List.set_cons_succ]
      refine wpAnyT_take (i := 3) (v := ?v3a) rfl (by kernel_rfl) (by rfl) (by kernel_rfl) (by kernel_rfl) (by kernel_rfl) (fun _ _ _ h => h) (Or.inl ⟨by rfl, ?hy3a⟩) (by assumption) ?_
      case hy3a => (intro w hSw; (try dsimp only at hSw); (go_simp) <;> (with_reducible rfl))
      try simp only [Act.put, List.setIfInBounds_toArray, List.set_cons_zero, List.set_cons_succ]
      refine wpAnyT_one (i := 4) (by kernel_rfl) rfl (fun K hK => ?_)
      go_simp
      go_at_call 14
      (with_reducible refine (of_calls xv _ _ rfl (by omega)).mono ?_)
      rintro e z1 ⟨vo, rfl, no, fo, b1⟩
      replace c6 := c6.mono b1
      replace c7 := c7.mono b1
      replace c8 := c8.mono b1
      replace c9 := c9.mono b1
      replace ns := ns.mono b1
      replace nw := nw.mono b1
      replace vb' := vb'.mono b1
      replace hB := hB.trans (b1.mono hB.size)
      replace kc := kc.trans (Kc.below b1)
      have lg := c9.lt
      clear b1
      go_wp2_with fail
      refine hK.out _ _ (fun hne => ⟨c6.c1, c7.c1⟩) (fun hHeld => ?_)
      clear hK K
      try simp only [Act.put, List.setIfInBounds_toArray, List.set_cons_zero, List.set_cons_succ]
      refine wpAnyT_one (i := 5) (by kernel_rfl) rfl (fun K hK => ?_)
      go_simp
      go_at_call 16
      (with_reducible refine (lmul_calls vw vo p xv _ nw no (by omega) (by have := limbs_length_le (n := xv) (k := 1) (by omega); omega)).mono ?_)
      rintro e z2 ⟨vm, rfl, nm, fm, b1⟩
      replace c6 := c6.mono b1
      replace c7 := c7.mono b1
      replace c8 := c8.mono b1
      replace c9 := c9.mono b1
      replace ns := ns.mono b1
      replace nw := nw.mono b1
      replace vb' := vb'.mono b1
      replace hB := hB.trans (b1.mono hB.size)
      replace kc := kc.trans (Kc.below b1)
      have lg := c9.lt
      clear b1
      go_wp2_with fail
      refine hK.out _ _ (fun hne => ⟨c6.c1, c7.c1⟩) (fun hHeld => ?_)
      clear hK K
      try simp only [Act.put, List.setIfInBounds_toArray, List.set_cons_zero, List.set_cons_succ]
      refine wpAnyT_one (i := 6) (by kernel_rfl) rfl (fun K hK => ?_)
      go_simp
      go_at_call 15
      (with_reducible refine (ladd_calls vs vm S (p * xv) _ ns nm (by omega) (by have := limbs_length_mul p xv; have := limbs_length_le (n := xv) (k := 1) (by omega); omega)).mono ?_)
      rintro e z3 ⟨vn, rfl, nn, fn, b1⟩
      have lz2 : g + 4 ≤ z2.heap.size := by have := c9.lt; omega
      replace c6 := c6.mono b1
      replace c7 := c7.mono b1
      replace c8 := c8.mono b1
      replace c9 := c9.mono b1
      replace ns := ns.mono b1
      replace nw := nw.mono b1
      replace vb' := vb'.mono b1
      replace hB := hB.trans (b1.mono hB.size)
      replace kc := kc.trans (Kc.below b1)
      have lg := c9.lt
      clear b1
      go_wp2_with fail
      refine hK.out _ _ (fun hne => ⟨c6.c1, c7.c1⟩) (fun hHeld => ?_)
      clear hK K
      try simp only [Act.put, List.setIfInBounds_toArray, List.set_cons_zero, List.set_cons_succ]
      have on := fresh_off z3 fn lz2
      obtain ⟨an, cn, rfl, sn⟩ := nn
      have HNN := Lib.hid (show Num z3 (.slice an (limbs (S + p * xv)).length cn) (S + p * xv) from ⟨_, _, rfl, sn⟩)
      clear sn fn
      obtain ⟨ln, hln⟩ : ∃ n, (limbs (S + p * xv)).length = n := ⟨_, rfl⟩
      rw [hln] at HNN on ⊢
      clear hln
      have f6 := c6.frozen 0
      have e6 := c6.c1
      refine wpAnyT_one (i := 7) (by kernel_rfl) rfl (fun K hK => ?_)
      go_simp
      go_wp2_with fail
      go_wp2_with fail
      refine hK.out _ _ (fun hne => absurd rfl hne) (fun hHeld => ?_)
      clear hK K
      try simp only [Act.put, List.setIfInBounds_toArray, List.set_cons_zero, List.set_cons_succ]
      refine wpAnyT_done (by kernel_rfl) (onlyEnd_mk ?_) _
      have c6' := c6.set 0 (.slice an ln cn)
      replace c7 := c7.other ⟨g, 0, none⟩ (by show g ≠ g + 1; omega) (.slice an ln cn)
      replace c8 := c8.other ⟨g, 0, none⟩ (by show g ≠ g + 2; omega) (.slice an ln cn)
      replace c9 := c9.other ⟨g, 0, none⟩ (by show g ≠ g + 3; omega) (.slice an ln cn)
      replace vb' := vb'.other ⟨g, 0, none⟩ (by show g ≠ w.heap.size; omega) (.slice an ln cn)
      have HN2 := HNN.out.put (on.apart (Nat.le_refl _) (by omega)) (.slice an ln cn)
      replace nw := nw.put (ow.apart (Nat.le_refl _) (by omega)) (.slice an ln cn)
      replace kc := kc.trans (Kc.set _ (.slice an ln cn) (Nat.le_refl _) (by omega))
      replace hB := hB.setCell (p := ⟨g, 0, none⟩) hgl (.slice an ln cn)
      clear c6 ns HNN e6 f6 hHeld
      generalize z3.setCell ⟨g, 0, none⟩ (.slice an ln cn) = y1 at *
      have c6 := c6'
      have ns := HN2
      have hgy : g + 4 ≤ y1.heap.size := by have := c9.lt; omega
      clear c6' HN2
      have e7 := c7.c1
      have cb := vb'.c1
      gi_wp2
      refine wpIn_region_T (S := fun w' => w'.cell? ⟨g + 1, 0, none⟩ = some vw ∧ w'.cell? ⟨w.heap.size, 0, none⟩ = some (.int .u32 (d : Int))) (L := 5) (by kernel_rfl) (by kernel_rfl) ⟨e7, cb⟩ (fun hHeld => ?_)
      have kd : Kc g y1 y1.drew := ⟨Nat.le_refl _, fun _ _ _ => rfl⟩
      replace c6 := c6.drewV
      replace c7 := c7.drewV
      replace c8 := c8.drewV
      replace c9 := c9.drewV
      replace vb' := vb'.drewV
      replace ns := ns.drewV
      replace nw := nw.drewV
      replace hB := hB.drew
      replace kc := kc.trans kd
      have hgy2 : g + 4 ≤ y1.drew.heap.size := hgy
      clear kd e7 cb
      generalize y1.drew = y2 at *
      refine wpAnyT_take (i := 0) (v := ?v0b) rfl (by kernel_rfl) (by rfl) (by kernel_rfl) (by kernel_rfl) (by kernel_rfl) (fun _ _ _ h => h) (Or.inl ⟨by rfl, ?hy0b⟩) (by assumption) ?_
      case hy0b => (intro w hSw; (try dsimp only at hSw); (go_simp) <;> (with_reducible rfl))
      try simp only [Act.put, List.setIfInBounds_toArray, List.set_cons_zero, List.set_cons_succ]
      refine wpAnyT_take (i := 1) (v := ?v1b) rfl (by kernel_rfl) (by rfl) (by kernel_rfl) (by kernel_rfl) (by kernel_rfl) (fun _ _ _ h => h) (Or.inl ⟨by rfl, ?hy1b⟩) (by assumption) ?_
      case hy1b => (intro w hSw; (try dsimp only at hSw); (go_simp) <;> (with_reducible rfl))
      try simp only [Act.put, List.setIfInBounds_toArray, List.set_cons_zero, List.set_cons_succ]
      refine wpAnyT_take (i := 2) (v := ?v2b) rfl (by kernel_rfl) (by rfl) (by kernel_rfl) (by kernel_rfl) (by kernel_rfl) (fun _ _ _ h => h) (Or.inl ⟨by rfl, ?hy2b⟩) (by assumption) ?_
      case hy2b => (intro w hSw; (try dsimp only at hSw); (go_simp) <;> (with_reducible rfl))
      try simp only [Act.put, List.setIfInBounds_toArray, List.set_cons_zero, List.set_cons_succ]
      refine wpAnyT_one (i := 3) (by kernel_rfl) rfl (fun K hK => ?_)
      go_simp
      go_at_call 14
      (with_reducible refine (of_calls d _ _ rfl (by omega)).mono ?_)
      rintro e y3 ⟨vo, rfl, no, fo, b1⟩
      have hy3 : g + 4 ≤ y3.heap.size := Nat.le_trans hgy2 b1.size
      replace c6 := c6.mono b1
      replace c7 := c7.mono b1
      replace c8 := c8.mono b1
      replace c9 := c9.mono b1
      replace ns := ns.mono b1
      replace nw := nw.mono b1
      replace vb' := vb'.mono b1
      replace hB := hB.trans (b1.mono hB.size)
      replace kc := kc.trans (Kc.below b1)
      have lg := c9.lt
      clear b1
      go_wp2_with fail
      refine hK.out _ _ (fun hne => ⟨c7.c1, vb'.c1⟩) (fun hHeld => ?_)
      clear hK K
      try simp only [Act.put, List.setIfInBounds_toArray, List.set_cons_zero, List.set_cons_succ]
      refine wpAnyT_one (i := 4) (by kernel_rfl) rfl (fun K hK => ?_)
      go_simp
      go_at_call 16
      (with_reducible refine (lmul_calls vw vo p d _ nw no (by omega) (by have := limbs_length_le (n := d) (k := 1) (by omega); omega)).mono ?_)
      rintro e y4 ⟨vm, rfl, nm, fm, b1⟩
      replace c6 := c6.mono b1
      replace c7 := c7.mono b1
      replace c8 := c8.mono b1
      replace c9 := c9.mono b1
      replace ns := ns.mono b1
      replace nw := nw.mono b1
      replace vb' := vb'.mono b1
      replace hB := hB.trans (b1.mono hB.size)
      replace kc := kc.trans (Kc.below b1)
      have lg := c9.lt
      clear b1
      go_wp2_with fail
      refine hK.out _ _ (fun hne => ⟨c7.c1, vb'.c1⟩) (fun hHeld => ?_)
      clear hK K
      try simp only [Act.put, List.setIfInBounds_toArray, List.set_cons_zero, List.set_cons_succ]
      have om := fresh_off y4 fm hy3
      obtain ⟨am, cm, rfl, sm⟩ := nm
      have HNM := Lib.hid (show Num y4 (.slice am (limbs (p * d)).length cm) (p * d) from ⟨_, _, rfl, sm⟩)
      clear sm fm
      obtain ⟨lm, hlmm⟩ : ∃ n, (limbs (p * d)).length = n := ⟨_, rfl⟩
      rw [hlmm] at HNM om ⊢
      clear hlmm
      have f7 := c7.frozen 0
      have e7 := c7.c1
      refine wpAnyT_one (i := 5) (by kernel_rfl) rfl (fun K hK => ?_)
      go_simp
      go_wp2_with fail
      go_wp2_with fail
      refine hK.out _ _ (fun hne => absurd rfl hne) (fun hHeld => ?_)
      clear hK K
      try simp only [Act.put, List.setIfInBounds_toArray, List.set_cons_zero, List.set_cons_succ]
      refine wpAnyT_done (by kernel_rfl) (onlyEnd_mk ?_) _
      have c7' := c7.set 0 (.slice am lm cm)
      replace c6 := c6.other ⟨g + 1, 0, none⟩ (by show g + 1 ≠ g; omega) (.slice am lm cm)
      replace c8 := c8.other ⟨g + 1, 0, none⟩ (by show g + 1 ≠ g + 2; omega) (.slice am lm cm)
      replace c9 := c9.other ⟨g + 1, 0, none⟩ (by show g + 1 ≠ g + 3; omega) (.slice am lm cm)
      have nw' := HNM.out.put (om.apart (b := g + 1) (by omega) (by omega)) (.slice am lm cm)
      replace ns := ns.put (on.apart (b := g + 1) (by omega) (by omega)) (.slice am lm cm)
      replace kc := kc.trans (Kc.set (b := g + 1) _ (.slice am lm cm) (by omega) (by omega))
      replace hB := hB.setCell (p := ⟨g + 1, 0, none⟩) (by show w3.heap.size ≤ g + 1; omega) (.slice am lm cm)
      clear c7 nw HNM e7 f7 hHeld vb'
      generalize y4.setCell ⟨g + 1, 0, none⟩ (.slice am lm cm) = y5 at *
      have e8 := c8.c1
      have f8 := c8.frozen 0
      have e9 := c9.c1
      have f9 := c9.frozen 0
      have l8 := c8.lt
      have l9 := c9.lt
      gi_wp2
      replace c6 := (c6.other ⟨g + 2, 0, none⟩ (by show g + 2 ≠ g; omega) (.int .i64 ((k : Int) + 1))).other ⟨g + 3, 0, none⟩ (by show g + 3 ≠ g; omega) (.int .u32 (xv : Int))
      replace c7' := (c7'.other ⟨g + 2, 0, none⟩ (by show g + 2 ≠ g + 1; omega) (.int .i64 ((k : Int) + 1))).other ⟨g + 3, 0, none⟩ (by show g + 3 ≠ g + 1; omega) (.int .u32 (xv : Int))
      replace c8 := (c8.set 0 (.int .i64 ((k : Int) + 1))).other ⟨g + 3, 0, none⟩ (by show g + 3 ≠ g + 2; omega) (.int .u32 (xv : Int))
      replace c9 := (c9.other ⟨g + 2, 0, none⟩ (by show g + 2 ≠ g + 3; omega) (.int .i64 ((k : Int) + 1))).set 0 (.int .u32 (xv : Int))
      replace ns := (ns.put (on.apart (b := g + 2) (by omega) (by omega)) (.int .i64 ((k : Int) + 1))).put (on.apart (b := g + 3) (by omega) (by omega)) (.int .u32 (xv : Int))
      replace nw' := (nw'.put (om.apart (b := g + 2) (by omega) (by omega)) (.int .i64 ((k : Int) + 1))).put (om.apart (b := g + 3) (by omega) (by omega)) (.int .u32 (xv : Int))
      replace kc := (kc.trans (Kc.set (b := g + 2) _ (.int .i64 ((k : Int) + 1)) (by omega) (by omega))).trans (Kc.set (b := g + 3) _ (.int .u32 (xv : Int)) (by omega) (by omega))
      replace hB := (hB.setCell (p := ⟨g + 2, 0, none⟩) (by show w3.heap.size ≤ g + 2; omega) (.int .i64 ((k : Int) + 1))).setCell (p := ⟨g + 3, 0, none⟩) (by show w3.heap.size ≤ g + 3; omega) (.int .u32 (xv : Int))
      exact ⟨KeepsOthers.of_set kc hcells.out, kc.keep (by omega), ⟨_, _, c6, c7', by rw [HEND.out.2.2.1]; exact c8, by rw [HEND.out.2.2.2]; exact c9, by rw [HEND.out.1]; exact ns, by rw [HEND.out.2.1]; exact nw', on, om⟩, hB⟩
    case done =>
      rintro D zs W hD rfl ⟨hst, hB⟩ hK
      obtain ⟨vs, vw, c6, c7, c8, c9, ns, nw, os, ow⟩ := hst
      rw [ws_digs d hd2 m] at ns
      have hlast := lastD_digs d hd2 m
      obtain ⟨z, hz⟩ : ∃ z, lastD d (digs d m) = z := ⟨_, rfl⟩
      rw [hz] at c9 hlast
      replace ha := ha.mono hB
      replace vr := vr.mono hB
      replace B := below_trans B hB
      have e6 := c6.c1
      clear c7 c8 nw os ow hz
      go_wp2_with fail
      refine (lsame_calls vs v5 m _ ns ha).mono ?_
      rintro e y1 ⟨rfl, b7⟩
      replace c9 := c9.mono b7
      replace vr := vr.mono b7
      have hK1 := dfd_mono hK b7
      replace B := below_trans B b7
      clear hK ns ha e6 c6 b7
      have e9 := c9.c1
      have t1 : ((z : Int) == 0) = false := by rw [beq_eq_false_iff_ne]; omega
      have t2 : ¬ ((z : Int) = 0) := by omega
      have t3 : ((z : Int) != 0) = true := by rw [bne, t1]; rfl
      go_wp2_with fail
      refine (lives_calls _).mono ?_
      rintro e y2 ⟨rfl, b8⟩
      replace vr := vr.mono b8
      have hK2 := dfd_mono hK1 b8
      replace B := below_trans B b8
      have cr := vr.c1
      have fr := vr.frozen 0
      go_wp2
      try rw [t3]
      exact leave1 rfl _ _ _ w _ _ D rfl (B.setCell (p := ⟨w.heap.size + 1, 0, none⟩) (Nat.le_succ _) _) (vr.set 0 _) (Nat.le_succ _) ((Below.heap_setCell _ _ _ _ (by show D ≠ w.heap.size + 1; omega)).trans hK2) (by omega)
end Go.Proofs
