/- Open. Open: the walk. Plain law: moves of one kind at items that differ. strconv.Itoa off the shelf; the table that it reads. wire.course, metal, Check: which scalings are valid. The reference's Check of a scaling. -/
import Derived.Test.YtghbjhcbldnenaaGreatDoorPk10
import Derived.Test.YtghbjhcbldnenaaGreatDoorPk08
import Derived.Test.YtghbjhcbldnenaaGreatDoorPk06
import Derived.Test.YtghbjhcbldnenaaGreatDoorShelf
import Derived.Lib.LaidTab
import Derived.Lib.AppendIntMem
import Derived.Lib.ItoaLen
import Derived.Deep.QuietTactic
import Derived.BigQuiet

section
open Go.RowKit Go.Deep Go.Maps
namespace Go.Proofs
set_option linter.unusedVariables false
set_option linter.unusedSimpArgs false

/-- the bytes of entries -/
def encA : List (List Mv) → List Nat
  | [] => []
  | L :: r => encB L ++ encA r
/-- the balances behind the first k entries -/
def balA (es : List (List Mv)) : Nat → Bal
  | 0 => z0
  | k + 1 => doN (balA es k) (es.getD k []) (es.getD k []).length
theorem encA_drop (es : List (List Mv)) {i : Nat} (h : i < es.length) : encA (es.drop i) = encB (es.getD i []) ++ encA (es.drop (i + 1)) := by
  have hg : es.getD i [] = es[i] := by simp [List.getD, List.getElem?_eq_getElem h]
  rw [List.drop_eq_getElem_cons h, encA, hg]
theorem nz_z0 : nz z0 = fun _ _ => false := by
  funext a i
  unfold nz z0
  simp
theorem balZ_made (w : World) : BalZ (w.alloc (.map #[] 0)) w.heap.size 0 z0 := by
  unfold BalZ
  rw [nz_z0]
  exact BalM.made w

theorem own_low {w : World} {B C e k : Nat} {v : Value} {n : Nat} {cs : List Value} (h : w.ownsRow C e k v n cs) (hB : B ≤ C) : w.ownsRow B e k v n cs := by
  obtain ⟨hl, h1⟩ := h
  refine ⟨hl, ?_⟩
  rcases h1 with h1 | ⟨g, cap, cur, rfl, hg, r⟩
  · exact .inl h1
  · exact .inr ⟨g, cap, cur, rfl, Nat.le_trans hB hg, r⟩
theorem BookS.lower {w B C b db mb k n f} (h : BookS w C b db mb k n f) (hB : B ≤ C) : BookS w B b db mb k n f := by
  obtain ⟨a, a', ⟨ea, ec, es, x, y⟩, d⟩ := h
  exact ⟨Nat.le_trans hB a, Nat.le_trans hB a', ⟨ea, ec, es, x, own_low y hB⟩, d⟩
theorem encA_take (es : List (List Mv)) {i : Nat} (h : i < es.length) : encA (es.take (i + 1)) = encA (es.take i) ++ encB (es.getD i []) := by
  have hg : es.getD i [] = es[i] := by simp [List.getD, List.getElem?_eq_getElem h]
  have ha : ∀ (A : List (List Mv)) (m : List Mv), encA (A ++ [m]) = encA A ++ encB m := by
    intro A m
    induction A with
    | nil => simp [encA]
    | cons x r ih => simp [encA, ih]
  rw [hg, List.take_succ_eq_append_getElem h, ha]
theorem encA_split (es : List (List Mv)) : ∀ i, i ≤ es.length → encA es = encA (es.take i) ++ encA (es.drop i)
  | 0, _ => by simp [encA]
  | i + 1, h => by
    rw [encA_split es i (by omega), encA_take es (by omega), encA_drop es (by omega), List.append_assoc]

theorem own_cases {w : World} {B : Nat} {ad : Option Addr} {c : Nat} {xs : List Nat} (h : OwnY w B (.slice ad xs.length c) xs) : (ad = none ∧ xs.length = 0 ∧ c = 0) ∨ ∃ g, ad = some ⟨g, 0, none⟩ := by
  obtain ⟨_, h1⟩ := h
  rcases h1 with ⟨e, _⟩ | ⟨g, cap, cur, e, _⟩
  · have := Value.slice.inj e
    exact .inl this
  · exact .inr ⟨g, (Value.slice.inj e).1⟩

theorem slice_none (W : World) : (Instr.slice 49 (.slice none 0 0) (some (.int .i64 0)) none none).run Tryz.prog W = .ok (.slice none 0 0) W := by
  go_simp
theorem slice_same (g T e : Nat) (h2 : T ≤ e) (h1 : e ≤ T) (W : World) : (Instr.slice 49 (.slice (some ⟨g, 0, none⟩) T e) (some (.int .i64 (e : Int))) none none).run Tryz.prog W = .ok (.slice (some ⟨g, 0, none⟩) (T - e) 0) W := by
  go_simp
theorem slice_some (g T dc e : Nat) (h1 : e ≤ T) (h2 : T ≤ dc) (hne : ¬ dc = e) (W : World) : (Instr.slice 49 (.slice (some ⟨g, 0, none⟩) T dc) (some (.int .i64 (e : Int))) none none).run Tryz.prog W = .ok (.slice (some ⟨g, e, none⟩) (T - e) (dc - e)) W := by
  go_simp

theorem slice_from {w : World} {da : Option Addr} {dc T e : Nat} {xs : List Nat} (h : RdT w da dc xs) (hc : (da = none ∧ xs.length = 0 ∧ dc = 0) ∨ ∃ g, da = some ⟨g, 0, none⟩) (hT : xs.length = T) (he : e ≤ T) :
    ∃ v, (∀ W, (Instr.slice 49 (.slice da T dc) (some (.int .i64 (e : Int))) none none).run Tryz.prog W = .ok v W) ∧ InYT w v (xs.drop e) := by
  have h2 := h.1.2.1
  rw [hT] at h2
  have hl : (xs.drop e).length = T - e := by rw [List.length_drop, hT]
  rcases hc with ⟨rfl, h0, rfl⟩ | ⟨g, rfl⟩
  · rw [hT] at h0
    subst h0
    have e0 : e = 0 := by omega
    subst e0
    exact ⟨_, slice_none, none, 0, by rw [hl], by rw [List.drop_zero]; exact h⟩
  · by_cases hd : dc = e
    · subst hd
      refine ⟨_, fun W => slice_same g T dc h2 he W, some ⟨g, 0, none⟩, 0, by rw [hl], ?_⟩
      have hz : xs.drop dc = [] := List.eq_nil_of_length_eq_zero (by rw [hl]; omega)
      rw [hz]
      exact ⟨⟨rfl, Nat.zero_le _, by unfold maxLen; omega, .inl rfl⟩, h.2⟩
    · refine ⟨_, fun W => slice_some g T dc e he h2 hd W, some ⟨g, e, none⟩, dc - e, by rw [hl], ?_⟩
      have := h.drop (n := e) (by omega)
      rwa [Nat.zero_add] at this
end Go.Proofs
end

section
open Go.RowKit Go.Deep Go.Maps
namespace Go.Proofs
set_option linter.unusedVariables false
set_option linter.unusedSimpArgs false

set_option maxRecDepth 100000 in
set_option maxHeartbeats 8000000 in
theorem open_calls (w : World) (B db : Nat) (es : List (List Mv)) (H : DiskS w B db (encA es)) (hE : ∀ L ∈ es, (1 ≤ L.length ∧ L.length ≤ 32) ∧ ∀ k, k < L.length → MvOk (L.getD k mv0)) (hn : es.length ≤ 100) (hl : (encA es).length ≤ 50000) (hlt : ∀ x ∈ encA es, x < 256)
    (hBd : ∀ k, k ≤ es.length → Bd (balA es k) 1000000000000000) (hB : B ≤ w.heap.size) :
    Calls Tryz.prog 5 #[.pointer (some ⟨db, 0, none⟩)] w fun e w' => ∃ b mb n, e = .returned (.tuple #[.pointer (some ⟨b, 0, none⟩), .int .i64 0]) ∧ n ≤ 10000 ∧ BookS w' B b db mb es.length n (balA es es.length) ∧ DiskS w' B db (encA es) ∧ KT [some 51] B w w' := by
  have HDS := Lib.hid H
  have HE := Lib.hid hE
  have HLT := Lib.hid hlt
  have HBD := Lib.hid hBd
  have hmk := @run_makeMap Tryz.prog
  obtain ⟨ad, c, sf, hv, ho, hdb⟩ := H
  have HV := Lib.hid hv
  clear hE hlt hBd hv ho
  go_enter Tryz.func5, Tryz.ntmps5
  go_wp2_with fail
  refine (ready_calls w db _ sf HV.out).mono ?_
  rintro e wz ⟨rfl, rfl⟩
  go_upto_region 7 with (fail)
  obtain ⟨C, hC⟩ : ∃ C, wz.heap.size = C := ⟨_, rfl⟩
  have m0 := balZ_made wz
  have b0 := below_alloc wz (.map #[] 0)
  have s1 : (wz.alloc (.map #[] 0)).heap.size = C + 1 := by rw [World.size_alloc, hC]
  have v0 := Vt.new (wz.alloc (.map #[] 0)) (bcl db (.slice none 0 0) C) 57
  have b1 := below_alloc (wz.alloc (.map #[] 0)) (.cells (bcl db (.slice none 0 0) C).toArray 57)
  unfold bcl at v0 b1
  rw [hC] at m0 b0 hB ⊢
  rw [s1] at v0
  generalize wz.alloc (.map #[] 0) = w1 at *
  have bk : BookS (w1.alloc (.cells #[.pointer (some ⟨db, 0, none⟩), .slice none 0 0, .map (some C), .bool false] 57)) C (C + 1) db C 0 0 z0 :=
    ⟨Nat.le_succ _, Nat.le_refl _, ⟨none, 0, [], v0, World.ownsRow_nil _ _ _ _⟩, BalM.below m0 b1⟩
  have BK := Lib.hid bk
  have BB := Lib.hid (b0.trans (b1.mono (by omega)))
  clear bk m0 b0 b1 v0 s1
  generalize w1.alloc (.cells #[.pointer (some ⟨db, 0, none⟩), .slice none 0 0, .map (some C), .bool false] 57) = w2 at *
  have HC := Lib.hid hC
  obtain ⟨T, hT⟩ : ∃ T, (encA es).length = T := ⟨_, rfl⟩
  rw [hT] at hl
  have HTT := Lib.hid hT
  clear hT hC
  go_wp2
  go_loopw [5] (fun ev wr => ∃ i n : Nat, ev = .int .i64 (((encA (es.take i)).length : Nat) : Int) ∧ i ≤ es.length ∧ n ≤ 64 * i ∧ BookS wr C (C + 1) db C i n (balA es i) ∧ Below C wz wr)
    (fun ev _ => T + 1 - (intOf ev).toNat)
  case atStart => exact ⟨0, 0, rfl, Nat.zero_le _, Nat.le_refl _, BK.out, BB.out⟩
  case round =>
    clear BK BB
    obtain ⟨i, n, rfl, hi, hn64, hbk, hbe⟩ := hrel
    have HBK := Lib.hid hbk
    have HBE := Lib.hid hbe
    have hds := HDS.out.kt (KT.of_below (ts := []) (show Below wz.heap.size wz wr by rw [HC.out]; exact hbe) (by rw [HC.out]; exact hB)) (by simp) (by simp)
    obtain ⟨da, dc, dsf, dv, dow, _⟩ := hds
    have hsp := encA_split es i hi
    obtain ⟨e0, he0⟩ : ∃ e, (encA (es.take i)).length = e := ⟨_, rfl⟩
    have hsl : e0 + (encA (es.drop i)).length = T := by rw [← he0, ← HTT.out, ← List.length_append, ← hsp]
    have hdr : (encA es).drop e0 = encA (es.drop i) := by
      rw [hsp, ← he0]
      exact List.drop_left
    rw [HTT.out] at dv
    rw [he0]
    have hrt := dow.rdT
    have hoc := own_cases dow
    have DV := Lib.hid dv
    have DR := Lib.hid hrt
    have HSL := Lib.hid hsl
    have HDR := Lib.hid hdr
    have HE0 := Lib.hid he0
    have he0T : e0 ≤ T := by omega
    have x1 := dv.vals.cell (i := 1) (by simp [dcl])
    simp only [dcl, List.getD_cons_zero, List.getD_cons_succ] at x1
    have lv := dv.vals.lt
    have LPc := hrt.1.2.1
    rw [HTT.out] at LPc
    clear hbk hbe dv dow hsp hsl hdr hrt he0
    obtain ⟨v8, q8, i8⟩ := slice_from DR.out hoc HTT.out he0T
    rw [HDR.out] at i8
    have I8 := Lib.hid i8
    clear i8 hoc
    go_wp2_with fail
    clear x1 lv q8
    have hCr : C ≤ wr.heap.size := by have := HBE.out.size; have := HC.out; omega
    by_cases h1 : i < es.length
    · obtain ⟨L, hL⟩ : ∃ L, es.getD i [] = L := ⟨_, rfl⟩
      have hmem : L ∈ es := by
        have e : es.getD i [] = es[i] := by simp [List.getD, List.getElem?_eq_getElem h1]
        rw [← hL, e]
        exact List.getElem_mem h1
      obtain ⟨hL1, hG⟩ := HE.out L hmem
      have hd := encA_drop es h1
      have htk := encA_take es h1
      rw [hL] at hd htk
      have i8 := I8.out
      rw [hd] at i8
      have hsl := HSL.out
      rw [hd] at hsl
      have hlb : (encB L ++ encA (es.drop (i + 1))).length ≤ 60000 := by omega
      have hlx : ∀ x ∈ encB L ++ encA (es.drop (i + 1)), x < 256 := fun x hx => HLT.out x (by
        rw [encA_split es i hi, hd]
        exact List.mem_append_right _ hx)
      have hst : balA es (i + 1) = doN (balA es i) L L.length := by rw [balA, hL]
      have HST := Lib.hid hst
      have HTK := Lib.hid htk
      have HG := Lib.hid hG
      clear hd htk hst hL hG hsl
      refine (decode_ok wr v8 L _ i8 hL1 HG.out hlb hlx).mono ?_
      rintro e w5 ⟨mv, rfl, hmv, b5⟩
      clear i8 hlb hlx
      have he6 : 1 ≤ (encB L).length := by unfold encB; simp only [List.length_append, be_len]; omega
      have he7 := encB_len hL1.2 HG.out
      have he8 : (encA (es.take (i + 1))).length = e0 + (encB L).length := by rw [HTK.out, List.length_append, HE0.out]
      have HE8 := Lib.hid he8
      obtain ⟨lb, hlb⟩ : ∃ q, (encB L).length = q := ⟨_, rfl⟩
      rw [hlb] at he6 he7 he8 HE8 ⊢
      have hne : ((lb : Int) == 0) = false := by simp; omega
      have BK5 := Lib.hid (HBK.out.kt (KT.of_below (ts := []) b5 hCr) (by simp) (by simp) (by simp))
      have BE5 := Lib.hid (HBE.out.trans (b5.mono hCr))
      have hC5 := Nat.le_trans hCr b5.size
      have MV5 := Lib.hid hmv
      clear he8 hlb hmv b5
      obtain ⟨ma, mc, hmve, hmr, hmt⟩ := MV5.out
      subst hmve
      obtain ⟨bl, bm, ⟨ea, ec, vs, hb, ho⟩, hbal⟩ := BK5.out
      have b6 := below_alloc w5 (.cells #[.slice ma L.length mc] 36)
      have k6 := KT.of_below (ts := []) b6 hC5
      have VB6 := Lib.hid (hb.kt k6 (by simp))
      have HO6 := Lib.hid (own_kt ho k6 (by simp))
      have HBA6 := Lib.hid (BalM.kt hbal k6 (by simp))
      have MV6 := Lib.hid (MV5.out.kt k6 (by simp))
      have BE6 := Lib.hid (BE5.out.trans (b6.mono hC5))
      have hC6 := Nat.le_trans hC5 b6.size
      have HR6 := Lib.hid (ownsRow_rds (ownsRow_lit w5 36 1 1 [.slice ma L.length mc] _ rfl rfl (by unfold maxLen; omega))).1
      have x1 := hb.vals.cell (i := 1) (by simp [bcl])
      simp only [bcl, List.getD_cons_zero, List.getD_cons_succ] at x1
      have lv := hb.vals.lt
      clear BK5 hb ho hbal b6 k6 hmr hmt BE5
      go_wp2_with (at_builtin; refine wpList_append_rv rfl (.tmp 36) (.tmp 38) _ rfl C 36 _ 1 24 Tryz.underlying55 info_en rfl (by decide) _ i vs rfl HO6.out _ 1 1 _ rfl HR6.out (by intro u hu; simp only [List.mem_cons, List.not_mem_nil, or_false] at hu; subst hu; rfl) (by unfold maxLen; omega) (by omega) hC6 (i + 1) rfl _ rfl ?_; intro ad7 c7 w7 hown7 hg7 hn7 hb7 hk7; have k7 := KT.of_grown (ts := [some 36]) hg7 hC6 (fun b e => ⟨(own_ty HO6.out b e).1, fun o ho => by rw [(own_ty HO6.out b e).2 o ho]; simp⟩); have VB7 := Lib.hid (VB6.out.kt k7 (by decide)); have HO7 := Lib.hid hown7; have HBA7 := Lib.hid (BalM.kt HBA6.out k7 (by decide)); have MV7 := Lib.hid (MV6.out.kt k7 (by decide)); have BE7 := Lib.hid (BE6.out.trans k7.below); have hC7 := Nat.le_trans hC6 k7.size; have f7 := VB7.out.vals.frozen 1; have lv7 := VB7.out.vals.lt; have x7 := VB7.out.vals.cell (i := 1) (by simp [bcl]); have y7 := VB7.out.vals.cell (i := 2) (by simp [bcl]); simp only [bcl, List.getD_cons_zero, List.getD_cons_succ] at x7 y7; clear hown7 hg7 hn7 hb7 hk7 k7)
      have k8 := KT.set (ts := [some 57]) VB7.out 1 (.slice ad7 (i + 1) c7) (Nat.le_succ C) (by simp)
      have VB8 := Lib.hid (VB7.out.set 1 (.slice ad7 (i + 1) c7))
      have HO8 := Lib.hid (own_kt HO7.out k8 (by decide))
      have HBA8 := Lib.hid (BalM.kt HBA7.out k8 (by decide))
      have MV8 := Lib.hid (MV7.out.kt k8 (by decide))
      have BE8 := Lib.hid (BE7.out.trans k8.below)
      have hC8 := Nat.le_trans hC7 k8.size
      clear k8 f7 lv7 x7 y7 VB7 HO7 HBA7 MV7 BE7 VB6 HO6 HBA6 MV6 BE6 HR6
      generalize w7.setCell ⟨C + 1, 1, none⟩ (.slice ad7 (i + 1) c7) = w8 at *
      refine (do_calls w8 C n (balA es i) L _ HBA8.out (by omega) MV8.out.inMv hL1.2 (fun k hk => szM_of (HG.out k hk)) (HBD.out i hi)).mono ?_
      rintro e w9 ⟨rfl, hb9, g9⟩
      have k9 := KT.of_grown (ts := [none]) g9 hC8 (fun b e => by
        cases e
        refine ⟨Nat.le_refl _, fun o ho => ?_⟩
        obtain ⟨es0, c0, e0'⟩ := BalM.obj HBA8.out
        rw [e0'] at ho
        cases ho
        simp [tyOf])
      have FB := Lib.hid (show BookS w9 C (C + 1) db C (i + 1) (n + 2 * L.length) (balA es (i + 1)) from
        ⟨Nat.le_succ _, Nat.le_refl _, ⟨ad7, c7, _, VB8.out.kt k9 (by decide), own_kt HO8.out k9 (by decide)⟩, by rw [HST.out]; exact hb9⟩)
      have FE := Lib.hid (BE8.out.trans k9.below)
      have hsum : IntKind.i64.wrap ((e0 : Int) + (lb : Int)) = ((e0 + lb : Nat) : Int) := by rw [IntWalk.i64_in _ (by omega)]; omega
      clear k9 hb9 g9 VB8 HO8 HBA8 MV8 BE8
      go_wp2
      go_roundw
      case rel => exact ⟨i + 1, n + 2 * L.length, by rw [HE8.out, Int.natCast_add], h1, by omega, FB.out, FE.out⟩
      case measure => simp [intOf]; omega
    · obtain rfl : i = es.length := by omega
      have hd : es.drop es.length = [] := List.drop_length
      have i8 := I8.out
      rw [hd] at i8
      refine (decode_none wr v8 i8).mono ?_
      rintro e w5 ⟨rfl, b5⟩
      have hsl := HSL.out
      rw [hd] at hsl
      simp only [encA, List.length_nil, Nat.add_zero] at hsl
      obtain rfl : e0 = T := hsl
      have BE5 := Lib.hid (HBE.out.trans (b5.mono hCr))
      have BK5 := Lib.hid (HBK.out.kt (KT.of_below (ts := []) b5 hCr) (by simp) (by simp) (by simp))
      have KW := Lib.hid (KT.of_below (ts := [some 51]) (show Below wz.heap.size wz w5 by rw [HC.out]; exact BE5.out) (show B ≤ wz.heap.size by rw [HC.out]; exact hB))
      have DS5 := Lib.hid (HDS.out.kt (KT.of_below (ts := []) (show Below wz.heap.size wz w5 by rw [HC.out]; exact BE5.out) (show B ≤ wz.heap.size by rw [HC.out]; exact hB)) (by simp) (by simp))
      obtain ⟨da5, dc5, sf5, dv5, -, -⟩ := DS5.out
      rw [HTT.out] at dv5
      have x5 := dv5.vals.cell (i := 1) (by simp [dcl])
      simp only [dcl, List.getD_cons_zero, List.getD_cons_succ] at x5
      have lv5 := dv5.vals.lt
      clear hd i8 b5 dv5
      by_cases hT0 : e0 = 0
      · subst hT0
        go_wp2
        go_ret2
        exact ⟨C + 1, C, n, rfl, by omega, BK5.out.lower hB, DS5.out, KW.out⟩
      · have hpos : (e0 : Int) > 0 := by omega
        go_wp2_with fail
        clear x5 lv5
        refine (sync_calls w5 B db (encA es) DS5.out).mono ?_
        rintro e w6 ⟨rfl, d6, k6⟩
        have FIN := Lib.hid (show BookS w6 B (C + 1) db C es.length n (balA es es.length) ∧ DiskS w6 B db (encA es) ∧ KT [some 51] B wz w6 from
          ⟨(BK5.out.lower hB).kt k6 (by decide) (by decide) (by decide), d6, KW.out.trans k6⟩)
        clear d6 k6
        go_wp2
        go_ret2
        exact ⟨C + 1, C, n, rfl, by omega, FIN.out⟩
end Go.Proofs
end

section
open Go.RowKit Go.Deep Go.Maps
namespace Go.Proofs
set_option linter.unusedVariables false
set_option linter.unusedSimpArgs false

/-- L moves from F to T at items it j with q j, j < l, which differ -/
structure Unif (L : List Mv) (F T : ByteArray) : Prop where
  f : ∀ k, k < L.length → (L.getD k mv0).f = F
  t : ∀ k, k < L.length → (L.getD k mv0).t = T
  ne : F ≠ T
  apart : ∀ j k, j < L.length → k < L.length → (L.getD j mv0).i = (L.getD k mv0).i → j = k

theorem upd_same (f : Bal) (a i : ByteArray) (v : Int) : upd f a i v a i = v := by unfold upd; rw [if_pos ⟨rfl, rfl⟩]
theorem upd_item (f : Bal) (a i : ByteArray) (v : Int) {a' i' : ByteArray} (h : i' ≠ i) : upd f a i v a' i' = f a' i' := by unfold upd; rw [if_neg (fun e => h e.2)]
theorem upd_acc (f : Bal) (a i : ByteArray) (v : Int) {a' i' : ByteArray} (h : a' ≠ a) : upd f a i v a' i' = f a' i' := by unfold upd; rw [if_neg (fun e => h e.1)]

/-- an item that is not moved -/
theorem doN_other {f : Bal} {L : List Mv} {a i : ByteArray} : ∀ k, (∀ j, j < k → (L.getD j mv0).i ≠ i) → doN f L k a i = f a i
  | 0, _ => rfl
  | k + 1, h => by
    rw [doN]
    unfold stepM
    rw [upd_item _ _ _ _ (Ne.symm (h k (by omega))), upd_item _ _ _ _ (Ne.symm (h k (by omega)))]
    exact doN_other k (fun j hj => h j (by omega))
/-- an account that has no part -/
theorem doN_acc {f : Bal} {L : List Mv} {a i : ByteArray} : ∀ k, (∀ j, j < k → (L.getD j mv0).f ≠ a ∧ (L.getD j mv0).t ≠ a) → doN f L k a i = f a i
  | 0, _ => rfl
  | k + 1, h => by
    rw [doN]
    unfold stepM
    rw [upd_acc _ _ _ _ (Ne.symm (h k (by omega)).2), upd_acc _ _ _ _ (Ne.symm (h k (by omega)).1)]
    exact doN_acc k (fun j hj => h j (by omega))
/-- what an item's move leaves -/
theorem doN_unif {f : Bal} {L : List Mv} {F T : ByteArray} (U : Unif L F T) {j : Nat} (hj : j < L.length) : ∀ k, j < k → k ≤ L.length →
    doN f L k F (L.getD j mv0).i = f F (L.getD j mv0).i - (L.getD j mv0).q ∧ doN f L k T (L.getD j mv0).i = f T (L.getD j mv0).i + (L.getD j mv0).q
  | 0, h, _ => by omega
  | k + 1, h, hk => by
    by_cases e : j = k
    · subst e
      have ho : ∀ a, doN f L j a (L.getD j mv0).i = f a (L.getD j mv0).i := fun a => doN_other j (fun m hm he => by have := U.apart m j (by omega) hj he; omega)
      rw [doN]
      unfold stepM
      rw [U.f j hj, U.t j hj, ho F, upd_same]
      rw [upd_acc _ _ _ _ U.ne, upd_same, upd_acc _ _ _ _ (Ne.symm U.ne), ho T]
      exact ⟨by omega, rfl⟩
    · have hne : (L.getD j mv0).i ≠ (L.getD k mv0).i := fun he => e (U.apart j k hj (by omega) he)
      have ih := doN_unif U hj k (by omega) (by omega) (f := f)
      rw [doN]
      unfold stepM
      rw [upd_item _ _ _ _ hne, upd_item _ _ _ _ hne, upd_item _ _ _ _ hne, upd_item _ _ _ _ hne]
      exact ih

theorem refN_zero {f c : Bal} {P : List Pl} : ∀ k, (∀ j, j < k → 0 ≤ f (P.getD j pl0).1 (P.getD j pl0).2 + c (P.getD j pl0).1 (P.getD j pl0).2 ∨ isOut (P.getD j pl0).1 = true) → refN f c P k = 0
  | 0, _ => rfl
  | k + 1, h => by
    rw [refN, if_neg (fun e => by
      rcases h k (by omega) with h1 | h1
      · omega
      · rw [h1] at e; cases e.2)]
    exact refN_zero k (fun j hj => h j (by omega))
theorem refN_ten {f c : Bal} {P : List Pl} {j : Nat} (h1 : f (P.getD j pl0).1 (P.getD j pl0).2 + c (P.getD j pl0).1 (P.getD j pl0).2 < 0) (h2 : isOut (P.getD j pl0).1 = false) : ∀ k, j < k → refN f c P k = 10
  | 0, h => by omega
  | k + 1, h => by
    rw [refN]
    by_cases e : j = k
    · subst e
      rw [if_pos ⟨h1, h2⟩]
    · split
      · rfl
      · exact refN_ten h1 h2 k (by omega)
theorem pls_get (L : List Mv) : ∀ k, k ≤ L.length → ∀ j, j < k → (plsN L k).getD (2 * j) pl0 = ((L.getD j mv0).f, (L.getD j mv0).i) ∧ (plsN L k).getD (2 * j + 1) pl0 = ((L.getD j mv0).t, (L.getD j mv0).i)
  | 0, _, j, h => by omega
  | k + 1, hk, j, h => by
    have hl := plsN_len L k
    rw [plsN]
    by_cases e : j = k
    · subst e
      constructor
      · rw [List.getD_eq_getElem?_getD, List.getElem?_append_right (by omega), hl]; simp
      · rw [List.getD_eq_getElem?_getD, List.getElem?_append_right (by omega), hl]; simp
    · obtain ⟨a, b⟩ := pls_get L k (by omega) j (by omega)
      constructor
      · rw [List.getD_eq_getElem?_getD, List.getElem?_append_left (by omega), ← List.getD_eq_getElem?_getD]; exact a
      · rw [List.getD_eq_getElem?_getD, List.getElem?_append_left (by omega), ← List.getD_eq_getElem?_getD]; exact b

theorem z0_at (a i : ByteArray) : z0 a i = 0 := rfl
/-- too little is there -/
theorem code_ten {f : Bal} {L : List Mv} {F T : ByteArray} (U : Unif L F T) (h1 : 1 ≤ L.length) (ho : isOut F = false) (hlt : f F (L.getD 0 mv0).i - (L.getD 0 mv0).q < 0) : refN f (doN z0 L L.length) (plsN L L.length) (2 * L.length) = 10 := by
  obtain ⟨g, -⟩ := pls_get L L.length (Nat.le_refl _) 0 (by omega)
  obtain ⟨d, -⟩ := doN_unif (f := z0) U (show 0 < L.length by omega) L.length (by omega) (Nat.le_refl _)
  refine refN_ten (j := 2 * 0) ?_ ?_ _ (by omega)
  · rw [g]
    dsimp only
    rw [U.f 0 (by omega), d, z0_at]
    omega
  · rw [g]
    dsimp only
    rw [U.f 0 (by omega)]
    exact ho
/-- all is there -/
theorem code_zero {f : Bal} {L : List Mv} {F T : ByteArray} (U : Unif L F T) (hF : isOut F = true ∨ ∀ j, j < L.length → 0 ≤ f F (L.getD j mv0).i - (L.getD j mv0).q) (hT : ∀ j, j < L.length → 0 ≤ f T (L.getD j mv0).i + (L.getD j mv0).q) : refN f (doN z0 L L.length) (plsN L L.length) (2 * L.length) = 0 := by
  refine refN_zero _ (fun j hj => ?_)
  obtain ⟨m, r, hr, rfl⟩ : ∃ m r, r < 2 ∧ j = 2 * m + r := ⟨j / 2, j % 2, by omega, by omega⟩
  have hm : m < L.length := by omega
  obtain ⟨g1, g2⟩ := pls_get L L.length (Nat.le_refl _) m hm
  obtain ⟨d1, d2⟩ := doN_unif U (f := z0) hm L.length hm (Nat.le_refl _)
  rcases (show r = 0 ∨ r = 1 by omega) with rfl | rfl
  · rw [Nat.add_zero, g1]
    dsimp only
    rw [U.f m hm, d1, z0_at]
    rcases hF with hF | hF
    · exact .inr hF
    · left
      have := hF m hm
      omega
  · left
    rw [g2]
    dsimp only
    rw [U.t m hm, d2, z0_at]
    have := hT m hm
    omega
end Go.Proofs
end

section
open Go.RowKit Go.Deep
namespace Go.Proofs
set_option linter.unusedVariables false
set_option linter.unusedSimpArgs false

/-- the library's table of powers lies where it lies at the start -/
def Tab (w : World) : Prop := Lib.TabIs Tryz.prog w "internal/strconv.uint64pow10" .u64 Lib.pow10Tab

theorem Tab.mono {w w' : World} (h : Tab w) (hb : Below w.heap.size w w') : Tab w' := by
  unfold Tab Lib.TabIs World.var? at *
  cases hg : Tryz.prog.globalNamed "internal/strconv.uint64pow10" with
  | none => rw [hg] at h; simp at h
  | some g =>
    rw [hg] at h
    simp only [Option.bind_some] at h ⊢
    by_cases hl : g < w.heap.size
    · rw [hb.block g hl]; exact h
    · rw [Array.getElem?_eq_none (by omega)] at h
      simp at h

theorem Tab.drew {w : World} (h : Tab w) : Tab w.drew := h
theorem Tab.drewN {w : World} (h : Tab w) (n : Nat) : Tab (w.drewN n) := h

/-- a number's text -/
def itB (n : Int) : ByteArray := ⟨(Lib.itoa n).toArray⟩
theorem itB_size (n : Int) (hn : zI n) : (itB n).size ≤ 21 := by
  have := Lib.itoa_length_le n hn.1 (by have := hn.2; omega)
  unfold itB
  simpa [ByteArray.size] using this
theorem itoa_calls (n : Int) (w : World) (hn : zI n) (ht : Tab w) :
    Calls Tryz.prog 26 #[.int .i64 n] w fun e w' => e = .returned (.string (itB n)) ∧ Below w.heap.size w w' :=
  (Tryz.strconv_Itoa n hn.1 (by have := hn.2; omega) w ht).mono fun e w' ⟨he, k, os, hw⟩ => ⟨he, by rw [hw]; exact Lib.below_grow _ w (Nat.le_refl _) k os⟩

end Go.Proofs
end

section
open Go.RowKit Go.Deep
namespace Go.Proofs
set_option linter.unusedVariables false
set_option linter.unusedSimpArgs false

theorem inR_wrap {z : Int} {m : Int} (hz : zI z) (h0 : 0 ≤ m) (hm : m ≤ 1000000000000) : inR (wrap64 (z + 1)) (m + 1) = decide (0 ≤ z ∧ z ≤ m) := by
  unfold inR
  congr 1
  unfold zI at hz
  by_cases h : z < 9223372036854775807
  · rw [wrap64_id (by omega) (by omega)]
    apply propext
    omega
  · have e : z = 9223372036854775807 := by omega
    rw [e]
    have : wrap64 (9223372036854775807 + 1) = -9223372036854775808 := by unfold wrap64; omega
    rw [this]
    apply propext
    omega
theorem getD_mem {zs : List Int} {i : Nat} (hi : i < zs.length) : zs.getD i 0 ∈ zs := by
  have e : zs.getD i 0 = zs[i] := by simp [List.getD, List.getElem?_eq_getElem hi]
  rw [e]
  exact List.getElem_mem hi
theorem steps_all {p : Nat → Bool} {i : Nat} (h : ∀ j, j < i → p j = true) (hi : p i = true) : ∀ j, j < i + 1 → p j = true := fun j hj => by
  by_cases hji : j < i
  · exact h j hji
  · obtain rfl : j = i := by omega
    exact hi
theorem metOk_bad {m : Met} {i : Nat} (n : Nat) (hi : i < m.st.length) (h : inR (m.st.getD i 0) 100000 = false) : metOk n m = false := by
  have : m.st.all (fun z => inR z 100000) = false := by
    rw [List.all_eq_false]
    exact ⟨_, getD_mem hi, by rw [h]; simp⟩
  unfold metOk
  rw [this]
  rfl
theorem metOk_all {m : Met} (n : Nat) (h : ∀ j, j < m.st.length → inR (m.st.getD j 0) 100000 = true) : metOk n m = (inR m.d 30000 && decide (m.st.length = n)) := by
  have : m.st.all (fun z => inR z 100000) = true := by
    rw [List.all_eq_true]
    intro z hz
    obtain ⟨j, hj, rfl⟩ := List.getElem_of_mem hz
    have e : m.st.getD j 0 = m.st[j] := by simp [List.getD, List.getElem?_eq_getElem hj]
    rw [← e]
    exact h j hj
  unfold metOk
  rw [this]
  rfl

set_option maxRecDepth 100000 in
theorem course_calls (c : Crs) (w : World) (h : zI c.l ∧ zI c.f ∧ zI c.t ∧ zI c.w) :
    Calls Tryz.prog 40 #[.agg #[.int .i64 c.l, .int .i64 c.f, .int .i64 c.t, .int .i64 c.w]] w fun e w' => e = .returned (.bool (crsOk c)) ∧ Below w.heap.size w w' := by
  have W1 := fun w : World => within_calls c.l 100000 w
  have W2 := fun w : World => within_calls c.f 10000000 w
  have W3 := fun w : World => within_calls (wrap64 (c.t + 1)) 1000000001 w
  have W4 := fun w : World => within_calls (wrap64 (c.w + 1)) 1001 w
  have e3 := inR_wrap (m := 1000000000) h.2.2.1 (by omega) (by omega)
  have e4 := inR_wrap (m := 1000) h.2.2.2 (by omega) (by omega)
  rw [show (1000000000 : Int) + 1 = 1000000001 by omega] at e3
  rw [show (1000 : Int) + 1 = 1001 by omega] at e4
  rw [e3] at W3
  rw [e4] at W4
  obtain ⟨b1, hb1⟩ : ∃ b, inR c.l 100000 = b := ⟨_, rfl⟩
  obtain ⟨b2, hb2⟩ : ∃ b, inR c.f 10000000 = b := ⟨_, rfl⟩
  obtain ⟨b3, hb3⟩ : ∃ b, decide (0 ≤ c.t ∧ c.t ≤ 1000000000) = b := ⟨_, rfl⟩
  obtain ⟨b4, hb4⟩ : ∃ b, decide (0 ≤ c.w ∧ c.w ≤ 1000) = b := ⟨_, rfl⟩
  have hr : crsOk c = (b1 && b2 && b3 && b4) := by unfold crsOk; rw [hb1, hb2, hb3, hb4]
  rw [hr]
  rw [hb1] at W1
  rw [hb2] at W2
  rw [hb3] at W3
  rw [hb4] at W4
  have H1 := Lib.hid W1
  have H2 := Lib.hid W2
  have H3 := Lib.hid W3
  have H4 := Lib.hid W4
  clear W1 W2 W3 W4 e3 e4 hb1 hb2 hb3 hb4 hr h
  have vs := Vals.newL w (w.heap.size) [.int .i64 c.l, .int .i64 c.f, .int .i64 c.t, .int .i64 c.w] 78 rfl
  have bb := below_alloc w (.cells #[.int .i64 c.l, .int .i64 c.f, .int .i64 c.t, .int .i64 c.w] 78)
  have B := bb
  clear bb
  go_enter Tryz.func40, Tryz.ntmps40
  go_wp2_with fail
  generalize (w.alloc (.cells #[.int .i64 c.l, .int .i64 c.f, .int .i64 c.t, .int .i64 c.w] 78)) = w0 at *
  have cvs0 := vs.cell (i := 0) (by simp)
  have cvs1 := vs.cell (i := 1) (by simp)
  have cvs2 := vs.cell (i := 2) (by simp)
  have cvs3 := vs.cell (i := 3) (by simp)
  simp only [List.getD_cons_zero, List.getD_cons_succ] at cvs0 cvs1 cvs2 cvs3
  have ltvs := vs.lt
  cases b1
  · skip
    go_wp2_with fail
    refine (H1.out _).mono ?_
    rintro e wq ⟨rfl, rfl⟩
    go_wp2
    go_ret
    exact ⟨rfl, B⟩
  · skip
    go_wp2_with fail
    refine (H1.out _).mono ?_
    rintro e wq ⟨rfl, rfl⟩
    cases b2
    · skip
      go_wp2_with fail
      refine (H2.out _).mono ?_
      rintro e wq ⟨rfl, rfl⟩
      go_wp2
      go_ret
      exact ⟨rfl, B⟩
    · skip
      go_wp2_with fail
      refine (H2.out _).mono ?_
      rintro e wq ⟨rfl, rfl⟩
      cases b3
      · skip
        go_wp2_with fail
        refine (H3.out _).mono ?_
        rintro e wq ⟨rfl, rfl⟩
        go_wp2
        go_ret
        exact ⟨rfl, B⟩
      · skip
        go_wp2_with fail
        refine (H3.out _).mono ?_
        rintro e wq ⟨rfl, rfl⟩
        cases b4
        · skip
          go_wp2_with fail
          refine (H4.out _).mono ?_
          rintro e wq ⟨rfl, rfl⟩
          go_wp2
          go_ret
          exact ⟨rfl, B⟩
        · skip
          go_wp2_with fail
          refine (H4.out _).mono ?_
          rintro e wq ⟨rfl, rfl⟩
          go_wp2
          go_ret
          exact ⟨rfl, B⟩

set_option maxRecDepth 100000 in
theorem metal_calls (v : Value) (m : Met) (n : Nat) (w : World) (hv : InZ w v m.st) :
    Calls Tryz.prog 39 #[.agg #[.int .i64 m.d, v], .int .i64 (n : Int)] w fun e w' => e = .returned (.bool (metOk n m)) ∧ Below w.heap.size w w' := by
  obtain ⟨ad, cap, rfl, hrd⟩ := hv
  have hrd0 := hrd
  have W1 := fun w : World => within_calls m.d 30000 w
  obtain ⟨b1, hb1⟩ : ∃ b, inR m.d 30000 = b := ⟨_, rfl⟩
  rw [hb1] at W1
  have WS := fun (z : Int) (w : World) => within_calls z 100000 w
  have H1 := Lib.hid W1
  have HS := Lib.hid WS
  have HB := Lib.hid hb1
  clear W1 WS hb1
  obtain ⟨k, hk⟩ : ∃ k, m.st.length = k := ⟨_, rfl⟩
  have HK := Lib.hid hk
  rw [hk]
  have hcap : k ≤ 9223372036854775807 := by
    have h1 := hrd.1
    have h2 := hrd.2.1
    unfold maxLen at h2
    omega
  clear hk
  have vs := Vals.newL w (w.heap.size) [.int .i64 m.d, .slice ad k cap] 97 rfl
  have bb := below_alloc w (.cells #[.int .i64 m.d, .slice ad k cap] 97)
  have B := bb
  have bb0 := B
  clear bb
  go_enter Tryz.func39, Tryz.ntmps39
  go_wp2_with fail
  generalize (w.alloc (.cells #[.int .i64 m.d, .slice ad k cap] 97)) = w0 at *
  replace hrd := hrd.mono bb0
  clear bb0
  have cvs0 := vs.cell (i := 0) (by simp)
  have cvs1 := vs.cell (i := 1) (by simp)
  simp only [List.getD_cons_zero, List.getD_cons_succ] at cvs0 cvs1
  have ltvs := vs.lt
  go_wp2
  clear cvs0 cvs1 ltvs
  go_loopw [10] (fun iv wr => ∃ i : Nat, iv = .int .i64 (i : Int) ∧ i ≤ k ∧ wr = w0 ∧ ∀ j, j < i → inR (m.st.getD j 0) 100000 = true)
    (fun iv _ => k - (intOf iv).toNat)
  case atStart => exact ⟨0, rfl, Nat.zero_le _, rfl, fun j hj => by omega⟩
  case round =>
    obtain ⟨i, rfl, hi, rfl, hall⟩ := hrel
    by_cases hlt : i < k
    · have hil : i < m.st.length := by rw [HK.out]; exact hlt
      obtain ⟨bz, oz, rfl, hcell⟩ := hrd.at hil
      have ci := hcell i hil
      clear hcell
      obtain ⟨zi, hzi⟩ : ∃ z, m.st.getD i 0 = z := ⟨_, rfl⟩
      rw [hzi] at ci
      have HZ := Lib.hid hzi
      clear hzi
      obtain ⟨b, hb⟩ : ∃ b, inR zi 100000 = b := ⟨_, rfl⟩
      have WI := HS.out zi
      rw [hb] at WI
      have HWI := Lib.hid WI
      have HBI := Lib.hid hb
      clear WI hb
      cases b
      · have HNO := Lib.hid (metOk_bad n hil (by rw [HZ.out]; exact HBI.out))
        go_wp2_with fail
        refine (HWI.out _).mono ?_
        rintro e wq ⟨rfl, rfl⟩
        go_wp2
        go_ret
        exact ⟨by rw [HNO.out]; rfl, B⟩
      · go_wp2_with fail
        refine (HWI.out _).mono ?_
        rintro e wq ⟨rfl, rfl⟩
        go_wp2
        go_roundw
        case rel => exact ⟨i + 1, by go_num, by omega, trivial, steps_all (p := fun j => inR (m.st.getD j 0) 100000) hall (by show inR (m.st.getD i 0) 100000 = true; rw [HZ.out]; exact HBI.out)⟩
        case measure => simp [intOf]; omega
    · obtain rfl : i = k := by omega
      have HF := Lib.hid (metOk_all n (fun j hj => hall j (by rw [← HK.out]; exact hj)))
      rw [HB.out, HK.out] at HF
      clear hall
      have cvs0 := vs.cell (i := 0) (by simp)
      have cvs1 := vs.cell (i := 1) (by simp)
      simp only [List.getD_cons_zero, List.getD_cons_succ] at cvs0 cvs1
      cases b1
      · go_wp2_with fail
        refine (H1.out _).mono ?_
        rintro e wq ⟨rfl, rfl⟩
        go_wp2
        go_ret
        exact ⟨by rw [HF.out]; rfl, B⟩
      · go_wp2_with fail
        refine (H1.out _).mono ?_
        rintro e wq ⟨rfl, rfl⟩
        go_wp2
        go_ret
        refine ⟨?_, B⟩
        rw [HF.out]
        show Ending.returned (Value.bool ((i : Int) == (n : Int))) = _
        congr 2
        rw [Bool.eq_iff_iff]
        simp
        omega

set_option maxRecDepth 100000 in
set_option maxHeartbeats 1000000 in
theorem scheck_calls (S : Scl) (cv mv gv : Value) (w : World) (hS : InS w cv mv gv S) (hI : SclI S) :
    Calls Tryz.prog 21 #[.agg #[cv, mv, gv, .int .i64 S.sf, .int .i64 S.ch]] w fun e w' => e = .returned (.int .i64 (if sclOk S then 0 else 1)) ∧ Below w.heap.size w w' := by
  obtain ⟨R, hR⟩ : ∃ R, (if sclOk S then (0 : Int) else 1) = R := ⟨_, rfl⟩
  rw [hR]
  have HRR := Lib.hid hR
  clear hR
  obtain ⟨⟨adc, cc, rfl, rc⟩, ⟨adm, cm, rfl, rm⟩, ⟨adg, cg, rfl, rg⟩⟩ := hS
  have LC := rc.1
  have LM := rm.1
  have LG := rg.1
  have LC2 := rc.2.1
  have LM2 := rm.2.1
  have LG2 := rg.2.1
  unfold maxLen at LC2 LM2 LG2
  obtain ⟨nc, hnc⟩ : ∃ n, S.cs.length = n := ⟨_, rfl⟩
  obtain ⟨nm, hnm⟩ : ∃ n, S.ms.length = n := ⟨_, rfl⟩
  obtain ⟨ng, hng⟩ : ∃ n, S.gs.length = n := ⟨_, rfl⟩
  rw [hnc] at LC ⊢
  rw [hnm] at LM ⊢
  rw [hng] at LG ⊢
  have HNC := Lib.hid hnc
  have HNM := Lib.hid hnm
  have HNG := Lib.hid hng
  have W1 := fun w : World => within_calls (nc : Int) 96 w
  have W2 := fun w : World => within_calls (nm : Int) 4 w
  have W3 := fun w : World => within_calls (ng : Int) 16 w
  have W4 := fun w : World => within_calls S.sf 100 w
  obtain ⟨b1, hb1⟩ : ∃ b, inR (nc : Int) 96 = b := ⟨_, rfl⟩
  obtain ⟨b2, hb2⟩ : ∃ b, inR (nm : Int) 4 = b := ⟨_, rfl⟩
  obtain ⟨b3, hb3⟩ : ∃ b, inR (ng : Int) 16 = b := ⟨_, rfl⟩
  obtain ⟨b4, hb4⟩ : ∃ b, inR S.sf 100 = b := ⟨_, rfl⟩
  have hr : headOk S = (b1 && b2 && b3 && b4 && decide (0 ≤ S.ch ∧ S.ch ≤ 96)) := by unfold headOk; rw [hnc, hnm, hng, hb1, hb2, hb3, hb4]
  rw [hb1] at W1
  rw [hb2] at W2
  rw [hb3] at W3
  rw [hb4] at W4
  obtain ⟨hd, hhd⟩ : ∃ b, headOk S = b := ⟨_, rfl⟩
  have HHD := Lib.hid hhd
  rw [hhd] at hr
  have HR := Lib.hid hr
  have HG4 := Lib.hid (fun h : b3 = true => by rw [← hb3] at h; unfold inR at h; exact (of_decide_eq_true h).2 : b3 = true → (ng : Int) ≤ 16)
  have H1 := Lib.hid W1
  have H2 := Lib.hid W2
  have H3 := Lib.hid W3
  have H4 := Lib.hid W4
  have HI := Lib.hid hI
  clear W1 W2 W3 W4 hb1 hb2 hb3 hb4 hr hnc hnm hng hhd hI
  have vs := Vals.newL w (w.heap.size) [.slice adc nc cc, .slice adm nm cm, .slice adg ng cg, .int .i64 S.sf, .int .i64 S.ch] 26 rfl
  have bb := below_alloc w (.cells #[.slice adc nc cc, .slice adm nm cm, .slice adg ng cg, .int .i64 S.sf, .int .i64 S.ch] 26)
  have B := bb
  have bb0 := B
  clear bb
  go_enter Tryz.func21, Tryz.ntmps21
  go_upto_region 1 with (fail)
  generalize (w.alloc (.cells #[.slice adc nc cc, .slice adm nm cm, .slice adg ng cg, .int .i64 S.sf, .int .i64 S.ch] 26)) = w0 at *
  replace rc := rc.mono bb0
  replace rm := rm.mono bb0
  replace rg := rg.mono bb0
  clear bb0
  go_cut [3] from 10 to 40 (fun x wx => x = .bool hd ∧ wx = w0)
  case first =>
    have cvs0 := vs.cell (i := 0) (by simp)
    have cvs1 := vs.cell (i := 1) (by simp)
    have cvs2 := vs.cell (i := 2) (by simp)
    have cvs3 := vs.cell (i := 3) (by simp)
    have cvs4 := vs.cell (i := 4) (by simp)
    simp only [List.getD_cons_zero, List.getD_cons_succ] at cvs0 cvs1 cvs2 cvs3 cvs4
    have ltvs := vs.lt
    cases b1
    · skip
      go_wp2_with fail
      refine (H1.out _).mono ?_
      rintro e wq ⟨rfl, rfl⟩
      go_wp2
      go_meet
      exact ⟨by rw [HR.out]; rfl, rfl⟩
    · skip
      go_wp2_with fail
      refine (H1.out _).mono ?_
      rintro e wq ⟨rfl, rfl⟩
      cases b2
      · skip
        go_wp2_with fail
        refine (H2.out _).mono ?_
        rintro e wq ⟨rfl, rfl⟩
        go_wp2
        go_meet
        exact ⟨by rw [HR.out]; rfl, rfl⟩
      · skip
        go_wp2_with fail
        refine (H2.out _).mono ?_
        rintro e wq ⟨rfl, rfl⟩
        cases b3
        · skip
          go_wp2_with fail
          refine (H3.out _).mono ?_
          rintro e wq ⟨rfl, rfl⟩
          go_wp2
          go_meet
          exact ⟨by rw [HR.out]; rfl, rfl⟩
        · skip
          go_wp2_with fail
          refine (H3.out _).mono ?_
          rintro e wq ⟨rfl, rfl⟩
          cases b4
          · skip
            go_wp2_with fail
            refine (H4.out _).mono ?_
            rintro e wq ⟨rfl, rfl⟩
            go_wp2
            go_meet
            exact ⟨by rw [HR.out]; rfl, rfl⟩
          · skip
            go_wp2_with fail
            refine (H4.out _).mono ?_
            rintro e wq ⟨rfl, rfl⟩
            by_cases h0 : 0 ≤ S.ch
            · by_cases h9 : S.ch ≤ 96
              · go_wp2
                go_meet
                exact ⟨by rw [HR.out, decide_eq_true (show 0 ≤ S.ch ∧ S.ch ≤ 96 from ⟨h0, h9⟩)]; rfl, rfl⟩
              · go_wp2
                go_meet
                exact ⟨by rw [HR.out, decide_eq_false (show ¬ (0 ≤ S.ch ∧ S.ch ≤ 96) by omega), decide_eq_false (show ¬ S.ch ≤ 96 by omega)]; rfl, rfl⟩
            · go_wp2
              go_meet
              exact ⟨by rw [HR.out, decide_eq_false (show ¬ (0 ≤ S.ch ∧ S.ch ≤ 96) by omega)]; rfl, rfl⟩
  case rest =>
    obtain ⟨rfl, rfl⟩ := hcut
    clear H1 H2 H3 H4 HR
    have WS := fun (z : Int) (w : World) => within_calls z 2000 w
    have HS := Lib.hid WS
    clear WS
    have cvs0 := vs.cell (i := 0) (by simp)
    have cvs1 := vs.cell (i := 1) (by simp)
    have cvs2 := vs.cell (i := 2) (by simp)
    have cvs3 := vs.cell (i := 3) (by simp)
    have cvs4 := vs.cell (i := 4) (by simp)
    simp only [List.getD_cons_zero, List.getD_cons_succ] at cvs0 cvs1 cvs2 cvs3 cvs4
    have ltvs := vs.lt
    go_wp2
    clear cvs0 cvs1 cvs2 cvs3 cvs4 ltvs
    go_loopw [44, 3] (fun iv ov wr => ∃ i : Nat, iv = .int .i64 (i : Int) ∧ i ≤ ng ∧ ov = .bool (hd && allTo (gOk S.gs) i) ∧ wr = wc)
      (fun iv _ _ => ng - (intOf iv).toNat)
    case atStart => exact ⟨0, rfl, Nat.zero_le _, by rw [show allTo (gOk S.gs) 0 = true from rfl, Bool.and_true], rfl⟩
    case round =>
      obtain ⟨i, rfl, hi, rfl, rfl⟩ := hrel
      by_cases hlt : i < ng
      · have hil : i < S.gs.length := by rw [HNG.out]; exact hlt
        obtain ⟨bz, oz, rfl, hcell⟩ := rg.at hil
        have ci := hcell i hil
        obtain ⟨zi, hzi⟩ : ∃ z, S.gs.getD i 0 = z := ⟨_, rfl⟩
        rw [hzi] at ci
        obtain ⟨zp, hzp⟩ : ∃ z, S.gs.getD (i - 1) 0 = z := ⟨_, rfl⟩
        have cp := hcell (i - 1) (by omega)
        rw [hzp] at cp
        obtain ⟨b, hb⟩ : ∃ b, inR zi 2000 = b := ⟨_, rfl⟩
        have WI := HS.out zi
        rw [hb] at WI
        obtain ⟨o, ho⟩ : ∃ o, (hd && allTo (gOk S.gs) i) = o := ⟨_, rfl⟩
        have hnext : (hd && allTo (gOk S.gs) (i + 1)) = (o && (b && (decide (i = 0) || decide (zi < zp)))) := by
          rw [show allTo (gOk S.gs) (i + 1) = (allTo (gOk S.gs) i && gOk S.gs i) from rfl, ← Bool.and_assoc, ho]
          unfold gOk
          rw [hzi, hzp, hb]
        rw [ho]
        have HWI := Lib.hid WI
        have HNX := Lib.hid hnext
        clear WI hb ho hzi hzp hnext hcell
        have cvs0 := vs.cell (i := 0) (by simp)
        have cvs1 := vs.cell (i := 1) (by simp)
        have cvs2 := vs.cell (i := 2) (by simp)
        have cvs3 := vs.cell (i := 3) (by simp)
        have cvs4 := vs.cell (i := 4) (by simp)
        simp only [List.getD_cons_zero, List.getD_cons_succ] at cvs0 cvs1 cvs2 cvs3 cvs4
        have ltvs := vs.lt
        cases o
        · skip
          go_wp2
          go_roundw
          case rel => first | exact ⟨i + 1, by go_num, by omega, by rw [HNX.out]; rfl, rfl⟩ | exact ⟨i + 1, by go_num, by omega, by rw [HNX.out]; rfl, trivial⟩
          case measure => simp [intOf]; omega
        cases b
        · skip
          go_wp2_with fail
          refine (HWI.out _).mono ?_
          rintro e wq ⟨rfl, rfl⟩
          go_wp2
          go_roundw
          case rel => first | exact ⟨i + 1, by go_num, by omega, by rw [HNX.out]; rfl, rfl⟩ | exact ⟨i + 1, by go_num, by omega, by rw [HNX.out]; rfl, trivial⟩
          case measure => simp [intOf]; omega
        · skip
          go_wp2_with fail
          refine (HWI.out _).mono ?_
          rintro e wq ⟨rfl, rfl⟩
          by_cases h0 : i = 0
          · have h00 : ((i : Int) == 0) = true := by rw [beq_iff_eq]; omega
            go_wp2
            go_roundw
            case rel => first | exact ⟨i + 1, by go_num, by omega, by rw [HNX.out]; rw [decide_eq_true h0]; rfl, rfl⟩ | exact ⟨i + 1, by go_num, by omega, by rw [HNX.out]; rw [decide_eq_true h0]; rfl, trivial⟩
            case measure => simp [intOf]; omega
          have h00 : ((i : Int) == 0) = false := by rw [beq_eq_false_iff_ne]; omega
          have k1 : wrap64 ((i : Int) - 1) = ((i - 1 : Nat) : Int) := by rw [show (i : Int) - 1 = ((i - 1 : Nat) : Int) by omega]; exact wrap64_id (by omega) (by omega)
          have k2 : i - 1 < ng := by omega
          have k3 : (0 : Int) ≤ (i : Int) - 1 := by omega
          have k4 : (i : Int) - 1 < (ng : Int) := by omega
          have k5 : ((i : Int) - 1).toNat = i - 1 := by omega
          by_cases hz : zi < zp
          · skip
            go_wp2
            go_roundw
            case rel => first | exact ⟨i + 1, by go_num, by omega, by rw [HNX.out]; rw [decide_eq_true hz, Bool.or_true]; rfl, rfl⟩ | exact ⟨i + 1, by go_num, by omega, by rw [HNX.out]; rw [decide_eq_true hz, Bool.or_true]; rfl, trivial⟩
            case measure => simp [intOf]; omega
          · skip
            go_wp2
            go_roundw
            case rel => first | exact ⟨i + 1, by go_num, by omega, by rw [HNX.out]; rw [decide_eq_false h0, decide_eq_false (show ¬ zi < zp by omega)]; rfl, rfl⟩ | exact ⟨i + 1, by go_num, by omega, by rw [HNX.out]; rw [decide_eq_false h0, decide_eq_false (show ¬ zi < zp by omega)]; rfl, trivial⟩
            case measure => simp [intOf]; omega
      · obtain rfl : i = ng := by omega
        obtain ⟨h2, hh2⟩ : ∃ b, (hd && allTo (gOk S.gs) i) = b := ⟨_, rfl⟩
        rw [hh2]
        have HH2 := Lib.hid hh2
        clear hh2 HS
        have cvs0 := vs.cell (i := 0) (by simp)
        have cvs1 := vs.cell (i := 1) (by simp)
        have cvs2 := vs.cell (i := 2) (by simp)
        have cvs3 := vs.cell (i := 3) (by simp)
        have cvs4 := vs.cell (i := 4) (by simp)
        simp only [List.getD_cons_zero, List.getD_cons_succ] at cvs0 cvs1 cvs2 cvs3 cvs4
        have ltvs := vs.lt
        go_wp2
        clear cvs0 cvs1 cvs2 cvs3 cvs4 ltvs
        go_loopw [72, 3] (fun iv ov wr => ∃ j : Nat, iv = .int .i64 (j : Int) ∧ j ≤ nm ∧ ov = .bool (h2 && allTo (fun q => metOk i (S.ms.getD q m0)) j) ∧ Below w.heap.size w wr ∧ Vals wr w.heap.size [.slice adc nc cc, .slice adm nm cm, .slice adg i cg, .int .i64 S.sf, .int .i64 S.ch] ∧ RdC wr adc cc S.cs ∧ RdM wr adm cm S.ms)
          (fun iv _ _ => nm - (intOf iv).toNat)
        case atStart => exact ⟨0, rfl, Nat.zero_le _, by rw [show allTo (fun q => metOk i (S.ms.getD q m0)) 0 = true from rfl, Bool.and_true], B, vs, rc, rm⟩
        case round =>
          clear B vs rc rm
          obtain ⟨j, rfl, hj, rfl, B, vs, rc, rm⟩ := hrel
          by_cases hlj : j < nm
          · skip
            have hil : j < S.ms.length := by rw [HNM.out]; exact hlj
            obtain ⟨bm, om, mv, rfl, cb0, cb1, hz⟩ := rm.at hil
            obtain ⟨adv, cv, rfl, hz⟩ := hz
            have hz3 : InZ wr (.slice adv (S.ms.getD j m0).st.length cv) (S.ms.getD j m0).st := ⟨_, _, rfl, hz⟩
            have ME := fun (w : World) (h : InZ w (.slice adv (S.ms.getD j m0).st.length cv) (S.ms.getD j m0).st) => metal_calls _ (S.ms.getD j m0) i w h
            obtain ⟨mb, hmb⟩ : ∃ b, metOk i (S.ms.getD j m0) = b := ⟨_, rfl⟩
            rw [hmb] at ME
            obtain ⟨md, hmd⟩ : ∃ d, (S.ms.getD j m0).d = d := ⟨_, rfl⟩
            obtain ⟨ns, hns⟩ : ∃ d, (S.ms.getD j m0).st.length = d := ⟨_, rfl⟩
            rw [hmd] at cb0
            rw [hns] at cb1
            rw [hmd, hns] at ME
            rw [hns] at hz3
            obtain ⟨MST, hst⟩ : ∃ d, (S.ms.getD j m0).st = d := ⟨_, rfl⟩
            rw [hst] at ME hz3
            have HMB := Lib.hid hmb
            have HME := Lib.hid ME
            clear ME hmb hmd hns hst hz
            obtain ⟨o, ho⟩ : ∃ o, (h2 && allTo (fun q => metOk i (S.ms.getD q m0)) j) = o := ⟨_, rfl⟩
            rw [ho]
            go_upto_region 10 with (fail)
            have vb := Vals.newL wr wr.heap.size [.int .i64 md, .slice adv ns cv] 97 rfl
            have bb := below_alloc wr (.cells #[.int .i64 md, .slice adv ns cv] 97)
            have hsz := vs.lt
            replace vs := vs.mono bb
            replace rc := rc.mono bb
            replace rm := rm.mono bb
            replace B := below_trans B bb
            have hz2 := hz3.mono bb
            clear bb hz3
            clear cb0 cb1
            generalize wr.alloc (.cells #[.int .i64 md, .slice adv ns cv] 97) = W0 at *
            generalize wr.heap.size = bx at *
            have hnext : (h2 && allTo (fun q => metOk i (S.ms.getD q m0)) (j + 1)) = (o && mb) := by
              rw [show allTo (fun q => metOk i (S.ms.getD q m0)) (j + 1) = (allTo (fun q => metOk i (S.ms.getD q m0)) j && metOk i (S.ms.getD j m0)) from rfl, ← Bool.and_assoc, ho, HMB.out]
            have HNX := Lib.hid hnext
            clear hnext ho
            cases o
            · skip
              go_wp2
              go_roundw
              case rel => exact ⟨j + 1, by go_num, by omega, by rw [HNX.out]; rfl, B, vs, rc, rm⟩
              case measure => simp [intOf]; omega
            have cvs0 := vs.cell (i := 0) (by simp)
            have cvs1 := vs.cell (i := 1) (by simp)
            have cvs2 := vs.cell (i := 2) (by simp)
            have cvs3 := vs.cell (i := 3) (by simp)
            have cvs4 := vs.cell (i := 4) (by simp)
            simp only [List.getD_cons_zero, List.getD_cons_succ] at cvs0 cvs1 cvs2 cvs3 cvs4
            have ltvs := vs.lt
            have cvb0 := vb.cell (i := 0) (by simp)
            have cvb1 := vb.cell (i := 1) (by simp)
            simp only [List.getD_cons_zero, List.getD_cons_succ] at cvb0 cvb1
            have ltvb := vb.lt
            go_wp2_with fail
            clear cvs0 cvs1 cvs2 cvs3 cvs4 ltvs cvb0 cvb1 ltvb
            refine (HME.out _ hz2).mono ?_
            rintro e W1 ⟨rfl, b5⟩
            replace vs := vs.mono b5
            replace rc := rc.mono b5
            replace rm := rm.mono b5
            replace B := below_trans B b5
            clear b5
            go_wp2
            go_roundw
            case rel => exact ⟨j + 1, by go_num, by omega, by rw [HNX.out]; rfl, B, vs, rc, rm⟩
            case measure => simp [intOf]; omega
          · obtain rfl : j = nm := by omega
            obtain ⟨h3, hh3⟩ : ∃ b, (h2 && allTo (fun q => metOk i (S.ms.getD q m0)) j) = b := ⟨_, rfl⟩
            rw [hh3]
            have HH3 := Lib.hid hh3
            obtain ⟨nm, hjm⟩ : ∃ q, q = j := ⟨j, rfl⟩
            subst hjm
            clear hh3
            have cvs0 := vs.cell (i := 0) (by simp)
            have cvs1 := vs.cell (i := 1) (by simp)
            have cvs2 := vs.cell (i := 2) (by simp)
            have cvs3 := vs.cell (i := 3) (by simp)
            have cvs4 := vs.cell (i := 4) (by simp)
            simp only [List.getD_cons_zero, List.getD_cons_succ] at cvs0 cvs1 cvs2 cvs3 cvs4
            have ltvs := vs.lt
            go_wp2
            clear cvs0 cvs1 cvs2 cvs3 cvs4 ltvs
            go_loopw [88, 3] (fun iv ov wr => ∃ j : Nat, iv = .int .i64 (j : Int) ∧ j ≤ nc ∧ ov = .bool (h3 && allTo (fun q => crsOk (S.cs.getD q c0)) j) ∧ Below w.heap.size w wr ∧ Vals wr w.heap.size [.slice adc nc cc, .slice adm nm cm, .slice adg i cg, .int .i64 S.sf, .int .i64 S.ch] ∧ RdC wr adc cc S.cs ∧ RdM wr adm cm S.ms)
              (fun iv _ _ => nc - (intOf iv).toNat)
            case atStart => exact ⟨0, rfl, Nat.zero_le _, by rw [show allTo (fun q => crsOk (S.cs.getD q c0)) 0 = true from rfl, Bool.and_true], B, vs, rc, rm⟩
            case round =>
              clear B vs rc rm
              obtain ⟨j, rfl, hj, rfl, B, vs, rc, rm⟩ := hrel
              by_cases hlj : j < nc
              · skip
                have hil : j < S.cs.length := by rw [HNC.out]; exact hlj
                obtain ⟨bm, om, rfl, cb0, cb1, cb2, cb3⟩ := rc.at hil
                have CO := fun w : World => course_calls (S.cs.getD j c0) w (HI.out.cs _ (by
                  have e : S.cs.getD j c0 = S.cs[j] := by simp [List.getD, List.getElem?_eq_getElem hil]
                  rw [e]
                  exact List.getElem_mem hil))
                obtain ⟨mb, hmb⟩ : ∃ b, crsOk (S.cs.getD j c0) = b := ⟨_, rfl⟩
                rw [hmb] at CO
                obtain ⟨cl, hcl⟩ : ∃ d, (S.cs.getD j c0).l = d := ⟨_, rfl⟩
                obtain ⟨cf, hcf⟩ : ∃ d, (S.cs.getD j c0).f = d := ⟨_, rfl⟩
                obtain ⟨ct, hct⟩ : ∃ d, (S.cs.getD j c0).t = d := ⟨_, rfl⟩
                obtain ⟨cw, hcw⟩ : ∃ d, (S.cs.getD j c0).w = d := ⟨_, rfl⟩
                rw [hcl] at cb0
                rw [hcf] at cb1
                rw [hct] at cb2
                rw [hcw] at cb3
                rw [hcl, hcf, hct, hcw] at CO
                have HMB := Lib.hid hmb
                have HCO := Lib.hid CO
                clear CO hmb hcl hcf hct hcw
                obtain ⟨o, ho⟩ : ∃ o, (h3 && allTo (fun q => crsOk (S.cs.getD q c0)) j) = o := ⟨_, rfl⟩
                rw [ho]
                go_upto_region 15 with (fail)
                have vb := Vals.newL wr wr.heap.size [.int .i64 cl, .int .i64 cf, .int .i64 ct, .int .i64 cw] 78 rfl
                have bb := below_alloc wr (.cells #[.int .i64 cl, .int .i64 cf, .int .i64 ct, .int .i64 cw] 78)
                have hsz := vs.lt
                replace vs := vs.mono bb
                replace rc := rc.mono bb
                replace rm := rm.mono bb
                replace B := below_trans B bb
                clear bb
                clear cb0 cb1 cb2 cb3
                generalize wr.alloc (.cells #[.int .i64 cl, .int .i64 cf, .int .i64 ct, .int .i64 cw] 78) = W0 at *
                generalize wr.heap.size = bx at *
                have hnext : (h3 && allTo (fun q => crsOk (S.cs.getD q c0)) (j + 1)) = (o && mb) := by
                  rw [show allTo (fun q => crsOk (S.cs.getD q c0)) (j + 1) = (allTo (fun q => crsOk (S.cs.getD q c0)) j && crsOk (S.cs.getD j c0)) from rfl, ← Bool.and_assoc, ho, HMB.out]
                have HNX := Lib.hid hnext
                clear hnext ho
                cases o
                · skip
                  go_wp2
                  go_roundw
                  case rel => exact ⟨j + 1, by go_num, by omega, by rw [HNX.out]; rfl, B, vs, rc, rm⟩
                  case measure => simp [intOf]; omega
                have cvs0 := vs.cell (i := 0) (by simp)
                have cvs1 := vs.cell (i := 1) (by simp)
                have cvs2 := vs.cell (i := 2) (by simp)
                have cvs3 := vs.cell (i := 3) (by simp)
                have cvs4 := vs.cell (i := 4) (by simp)
                simp only [List.getD_cons_zero, List.getD_cons_succ] at cvs0 cvs1 cvs2 cvs3 cvs4
                have ltvs := vs.lt
                have cvb0 := vb.cell (i := 0) (by simp)
                have cvb1 := vb.cell (i := 1) (by simp)
                have cvb2 := vb.cell (i := 2) (by simp)
                have cvb3 := vb.cell (i := 3) (by simp)
                simp only [List.getD_cons_zero, List.getD_cons_succ] at cvb0 cvb1 cvb2 cvb3
                have ltvb := vb.lt
                go_wp2_with fail
                clear cvs0 cvs1 cvs2 cvs3 cvs4 ltvs cvb0 cvb1 cvb2 cvb3 ltvb
                refine (HCO.out _).mono ?_
                rintro e W1 ⟨rfl, b5⟩
                replace vs := vs.mono b5
                replace rc := rc.mono b5
                replace rm := rm.mono b5
                replace B := below_trans B b5
                clear b5
                go_wp2
                go_roundw
                case rel => exact ⟨j + 1, by go_num, by omega, by rw [HNX.out]; rfl, B, vs, rc, rm⟩
                case measure => simp [intOf]; omega
              · obtain rfl : j = nc := by omega
                obtain ⟨r, hr⟩ : ∃ b, (h3 && allTo (fun q => crsOk (S.cs.getD q c0)) j) = b := ⟨_, rfl⟩
                rw [hr]
                have hfin : sclOk S = r := by
                  unfold sclOk
                  rw [HHD.out, HNG.out, HH2.out, HNM.out, HH3.out, HNC.out, hr]
                have HF := Lib.hid hfin
                clear hr hfin
                cases r
                · go_wp2
                  go_ret
                  exact ⟨by rw [← HRR.out, HF.out]; rfl, B⟩
                · go_wp2
                  go_ret
                  exact ⟨by rw [← HRR.out, HF.out]; rfl, B⟩

end Go.Proofs
end

section
open Go.RowKit Go.Deep
namespace Go.Proofs
set_option linter.unusedVariables false
set_option linter.unusedSimpArgs false

theorem allTo_false {p : Nat → Bool} {i n : Nat} (hi : i < n) (h : p i = false) : allTo p n = false := by
  by_cases hc : allTo p n = true
  · have := allTo_iff.1 hc i hi
    rw [h] at this
    cases this
  · exact Bool.eq_false_iff.2 hc
theorem scl_head {S : Scl} (h : headOk S = false) : sclOk S = false := by unfold sclOk; rw [h]; rfl
theorem scl_g {S : Scl} {i : Nat} (hi : i < S.gs.length) (h : gOk S.gs i = false) : sclOk S = false := by
  unfold sclOk; rw [allTo_false hi h, Bool.and_false]; rfl
theorem scl_m {S : Scl} {i : Nat} (hi : i < S.ms.length) (h : metOk S.gs.length (S.ms.getD i m0) = false) : sclOk S = false := by
  unfold sclOk; rw [allTo_false (p := fun q => metOk S.gs.length (S.ms.getD q m0)) hi h, Bool.and_false]; rfl
theorem scl_c {S : Scl} {i : Nat} (hi : i < S.cs.length) (h : crsOk (S.cs.getD i c0) = false) : sclOk S = false := by
  unfold sclOk; rw [allTo_false (p := fun q => crsOk (S.cs.getD q c0)) hi h, Bool.and_false]
theorem scl_yes {S : Scl} (h : headOk S = true) (hg : ∀ i, i < S.gs.length → gOk S.gs i = true) (hm : ∀ i, i < S.ms.length → metOk S.gs.length (S.ms.getD i m0) = true) (hc : ∀ i, i < S.cs.length → crsOk (S.cs.getD i c0) = true) : sclOk S = true := by
  unfold sclOk
  rw [h, allTo_iff.2 hg, allTo_iff (p := fun q => metOk S.gs.length (S.ms.getD q m0)) |>.2 hm, allTo_iff (p := fun q => crsOk (S.cs.getD q c0)) |>.2 hc]
  rfl
theorem met_parts {n : Nat} {m : Met} (h1 : inR m.d 30000 = true) (h2 : m.st.length = n) (h3 : ∀ j, j < m.st.length → inR (m.st.getD j 0) 100000 = true) : metOk n m = true := by
  rw [metOk_all n h3, h1, h2]; simp
theorem met_no1 {n : Nat} {m : Met} (h1 : inR m.d 30000 = false) : metOk n m = false := by
  unfold metOk; rw [h1, Bool.and_false]; rfl
theorem met_no2 {n : Nat} {m : Met} (h2 : ¬ m.st.length = n) : metOk n m = false := by
  unfold metOk; rw [decide_eq_false h2, Bool.and_false]

end Go.Proofs
end

