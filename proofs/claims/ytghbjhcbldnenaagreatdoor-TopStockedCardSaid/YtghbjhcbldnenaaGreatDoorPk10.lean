/- Post that is carried out. The cursor: take, number, text. The cursor: number. The cursor: text. book.decode. book.decode of what encode wrote. -/
import Derived.Test.YtghbjhcbldnenaaGreatDoorPk09
import Derived.Lib.EndianBits
import Derived.Laws.BytesArg

section
open Go.RowKit Go.Deep Go.Maps
namespace Go.Proofs
set_option linter.unusedVariables false
set_option linter.unusedSimpArgs false

def allT : List (Option TypeId) := [some 51, some 5, some 36, some 57, none]

set_option maxRecDepth 100000 in
set_option maxHeartbeats 8000000 in
theorem post_ok (w : World) (B b db mb k n : Nat) (f : Bal) (L : List Mv) (v : Value) (xs : List Nat) (H : BookS w B b db mb k n f) (HD : DiskS w B db xs) (hv : MvT w v L) (hL : 1 ≤ L.length ∧ L.length ≤ 32) (hG : ∀ k, k < L.length → MvOk (L.getD k mv0)) (hB : Bd f 500000000000)
    (hR : refN f (doN z0 L L.length) (plsN L L.length) (2 * L.length) = 0) (hn : n ≤ 100000) (hk : k ≤ 100000) (hx : xs.length ≤ 50000) (hBw : B ≤ w.heap.size) :
    Calls Tryz.prog 6 #[.pointer (some ⟨b, 0, none⟩), v] w fun e w' => e = .returned (.int .i64 0) ∧ BookS w' B b db mb (k + 1) (n + 2 * L.length) (doN f L L.length) ∧ DiskS w' B db (xs ++ encB L) ∧ KT allT B w w' := by
  have W := would_calls w B b db mb k n f L v H hv.inMv hL hG hB
  rw [hR] at W
  have HW := Lib.hid W
  have HBK := Lib.hid H
  have HDS := Lib.hid HD
  have HMV := Lib.hid hv
  have HG := Lib.hid hG
  have HBF := Lib.hid hB
  clear W hR H HD hv hG hB
  go_enter Tryz.func6, Tryz.ntmps6
  go_wp2_with fail
  refine HW.out.mono ?_
  rintro e w1 ⟨rfl, b1⟩
  have k1 := KT.of_below (ts := []) b1 hBw
  have BK1 := Lib.hid (HBK.out.kt k1 (by simp) (by simp) (by simp))
  have DS1 := Lib.hid (HDS.out.kt k1 (by simp) (by simp))
  have MV1 := Lib.hid (HMV.out.kt k1 (by simp))
  have K1 := Lib.hid (k1.more (us := allT) (by simp))
  have hBw1 := Nat.le_trans hBw b1.size
  clear b1 k1 HBK HDS HMV HW
  go_upto_region 4 with (fail)
  obtain ⟨l0, l1, ⟨ea, ec, es, hb, he⟩, hbal⟩ := BK1.out
  have c0 := hb.vals.cell (i := 0) (by simp [bcl])
  simp only [bcl, List.getD_cons_zero, List.getD_cons_succ] at c0
  have VB := Lib.hid hb
  obtain ⟨S, hS⟩ : ∃ S : World → Prop, ∀ w', S w' ↔ (w'.cell? ⟨b, 0, none⟩ = some (.pointer (some ⟨db, 0, none⟩))) := ⟨_, fun _ => Iff.rfl⟩
  have HSS := Lib.hid hS
  have hS1 : S w1.drew := (hS _).2 c0
  have kd : KT [] B w1 w1.drew := ⟨below_dr (Below.refl _ _), fun _ _ h _ => h⟩
  have BK2 := Lib.hid (BK1.out.kt kd (by simp) (by simp) (by simp))
  have DS2 := Lib.hid (DS1.out.kt kd (by simp) (by simp))
  have MV2 := Lib.hid (MV1.out.kt kd (by simp))
  have K2 := Lib.hid (K1.out.trans (kd.more (by simp)))
  have VB2 := Lib.hid (VB.out.kt kd (by simp))
  have hBw2 : B ≤ w1.drew.heap.size := hBw1
  have hl := VB2.out.vals.lt
  clear hS c0 kd BK1 DS1 MV1 K1 hb he hbal VB hBw1
  refine wp_region_L (S := S) (lx := [6]) (by kernel_rfl) hS1 (fun hHeld => ?_)
  clear hS1
  generalize w1.drew = wd at *
  refine wpAnyL_pure (i := 0) (v := ?vp1) rfl (by kernel_rfl) (by kernel_rfl) (by kernel_rfl) (fun _ _ _ h => h) (Or.inl ⟨by rfl, ?hyp1⟩) ?_
  case hyp1 => (intro w _; (go_simp) <;> (with_reducible rfl))
  try simp only [Act.put, List.getElem_toArray, List.getElem_cons_zero, List.getElem_cons_succ, List.setIfInBounds_toArray, List.set_cons_zero, List.set_cons_succ]
  refine wpAnyL_pure (i := 1) (v := ?vp2) rfl (by kernel_rfl) (by kernel_rfl) (by kernel_rfl) (fun _ _ _ h => h) (Or.inl ⟨by rfl, ?hyp2⟩) ?_
  case hyp2 => (intro w _; (go_simp) <;> (with_reducible rfl))
  try simp only [Act.put, List.getElem_toArray, List.getElem_cons_zero, List.getElem_cons_succ, List.setIfInBounds_toArray, List.set_cons_zero, List.set_cons_succ]
  refine wpAnyL_pure (i := 2) (v := ?vp3) rfl (by kernel_rfl) (by kernel_rfl) (by kernel_rfl) (fun _ _ _ h => h) (Or.inl ⟨by rfl, ?hyp3⟩) ?_
  case hyp3 => (intro w _; (go_simp) <;> (with_reducible rfl))
  try simp only [Act.put, List.getElem_toArray, List.getElem_cons_zero, List.getElem_cons_succ, List.setIfInBounds_toArray, List.set_cons_zero, List.set_cons_succ]
  refine wpAnyL_take (i := 3) (v := ?vp4) rfl (by kernel_rfl) (by kernel_rfl) (by kernel_rfl) (by kernel_rfl) (fun _ _ _ h => h) (Or.inl ⟨by rfl, ?hyp4⟩) (by assumption) ?_
  case hyp4 => (intro w hSw; replace hSw := (HSS.out w).1 hSw; (go_simp) <;> (with_reducible rfl))
  try simp only [Act.put, List.getElem_toArray, List.getElem_cons_zero, List.getElem_cons_succ, List.setIfInBounds_toArray, List.set_cons_zero, List.set_cons_succ]
  refine wpAnyL_pure (i := 4) (v := ?vp5) rfl (by kernel_rfl) (by kernel_rfl) (by kernel_rfl) (fun _ _ _ h => h) (Or.inl ⟨by rfl, ?hyp5⟩) ?_
  case hyp5 => (intro w _; (go_simp) <;> (with_reducible rfl))
  try simp only [Act.put, List.getElem_toArray, List.getElem_cons_zero, List.getElem_cons_succ, List.setIfInBounds_toArray, List.set_cons_zero, List.set_cons_succ]
  refine wpAnyL_all (rs := [5]) (by kernel_rfl) (by simp) (fun j hj => ?_)
  obtain rfl := List.mem_singleton.1 hj
  clear hj
  refine wpOpL (by rfl) (fun K hK => ?_)
  go_simp
  go_at_call 19
  refine (encode_calls L v wd MV2.out.inMv hL HG.out).mono ?_
  rintro e w3 ⟨v3, rfl, i3, b3⟩
  have k3 := KT.of_below (ts := []) b3 hBw2
  have BK3 := Lib.hid (BK2.out.kt k3 (by simp) (by simp) (by simp))
  have DS3 := Lib.hid (DS2.out.kt k3 (by simp) (by simp))
  have MV3 := Lib.hid (MV2.out.kt k3 (by simp))
  have K3 := Lib.hid (K2.out.trans (k3.more (by simp)))
  have hS3 : S w3 := (HSS.out _).2 (by have := (VB2.out.kt k3 (by simp)).vals.cell (i := 0) (by simp [bcl]); simpa [bcl] using this)
  have HS3 := Lib.hid hS3
  have I3 := Lib.hid i3
  have hBw3 := Nat.le_trans hBw2 b3.size
  clear k3 BK2 DS2 MV2 K2 VB2 hS3 i3 b3 hl
  go_wp2_with fail
  refine hK.out _ _ (fun _ _ => HS3.out) ?_
  clear hK K
  try simp only [Act.put, List.getElem_toArray, List.getElem_cons_zero, List.getElem_cons_succ, List.setIfInBounds_toArray, List.set_cons_zero, List.set_cons_succ]
  refine wpAnyL_all (rs := [6]) (by kernel_rfl) (by simp) (fun j hj => ?_)
  obtain rfl := List.mem_singleton.1 hj
  clear hj
  refine wpOpL (by rfl) (fun K hK => ?_)
  go_simp
  go_at_call 18
  refine (append_calls w3 B db xs (encB L) v3 DS3.out I3.out (by have := encB_len hL.2 HG.out; omega) hBw3).mono ?_
  rintro e w4 ⟨rfl, d4, k4⟩
  have BK4 := Lib.hid (BK3.out.kt k4 (by decide) (by decide) (by decide))
  have DS4 := Lib.hid d4
  have MV4 := Lib.hid (MV3.out.kt k4 (by decide))
  have K4 := Lib.hid (K3.out.trans (k4.more (by decide)))
  have hBw4 := Nat.le_trans hBw3 k4.size
  clear BK3 DS3 MV3 K3 k4 d4 hHeld HS3 I3
  go_wp2_with fail
  refine hK.out _ _ (fun h => absurd h (by decide)) ?_
  clear hK K
  try simp only [Act.put, List.getElem_toArray, List.getElem_cons_zero, List.getElem_cons_succ, List.setIfInBounds_toArray, List.set_cons_zero, List.set_cons_succ]
  refine wpAnyL_pure (i := 7) (v := ?vp6) rfl (by kernel_rfl) (by kernel_rfl) (by kernel_rfl) (fun _ _ _ h => h) (Or.inl ⟨by rfl, ?hyp6⟩) ?_
  case hyp6 => (intro w _; (go_simp) <;> (with_reducible rfl))
  try simp only [Act.put, List.getElem_toArray, List.getElem_cons_zero, List.getElem_cons_succ, List.setIfInBounds_toArray, List.set_cons_zero, List.set_cons_succ]
  refine wpAnyL_done (by kernel_rfl) ?_ _
  obtain ⟨l0, l1, ⟨ea, ec, es, hb, he⟩, hbal⟩ := BK4.out
  have c0 := hb.vals.cell (i := 0) (by simp [bcl])
  simp only [bcl, List.getD_cons_zero, List.getD_cons_succ] at c0
  have lv := hb.vals.lt
  clear hb he hbal HSS S
  go_wp2_with fail
  clear c0 lv
  refine (sync_calls w4 B db (xs ++ encB L) DS4.out).mono ?_
  rintro e w5 ⟨rfl, d5, k5⟩
  have BK5 := Lib.hid (BK4.out.kt k5 (by decide) (by decide) (by decide))
  have DS5 := Lib.hid d5
  have MV5 := Lib.hid (MV4.out.kt k5 (by decide))
  have K5 := Lib.hid (K4.out.trans (k5.more (by decide)))
  have hBw5 := Nat.le_trans hBw4 k5.size
  clear BK4 DS4 MV4 K4 k5 d5
  go_upto_region 12 with (fail)
  obtain ⟨l0, l1, ⟨ea, ec, es, hb, he⟩, hbal⟩ := BK5.out
  have kd : KT [] B w5 w5.drew := ⟨below_dr (Below.refl _ _), fun _ _ h _ => h⟩
  have VB := Lib.hid (hb.kt kd (by simp))
  have HE := Lib.hid (own_kt he kd (by simp))
  have HBA := Lib.hid (BalM.kt hbal kd (by simp))
  have DS6 := Lib.hid (DS5.out.kt kd (by simp) (by simp))
  have MV6 := Lib.hid (MV5.out.kt kd (by simp))
  have K6 := Lib.hid (K5.out.trans (kd.more (by simp)))
  have hBw6 : B ≤ w5.drew.heap.size := hBw5
  obtain ⟨S, hS⟩ : ∃ S : World → Prop, ∀ w', S w' ↔ (w'.cell? ⟨b, 1, none⟩ = some (.slice ea k ec)) := ⟨_, fun _ => Iff.rfl⟩
  have HSS := Lib.hid hS
  have HSV := Lib.hid (fun (w' : World) (h : Vt w' b (bcl db (.slice ea k ec) mb) 57) => show S w' from (hS w').2 (by have := h.vals.cell (i := 1) (by simp [bcl]); simpa [bcl] using this))
  clear hS kd BK5 DS5 MV5 K5 hb he hbal
  refine wp_region_L (S := S) (lx := [11]) (by kernel_rfl) (HSV.out _ VB.out) (fun hHeld => ?_)
  generalize w5.drew = wd at *
  refine wpAnyL_pure (i := 0) (v := ?vp7) rfl (by kernel_rfl) (by kernel_rfl) (by kernel_rfl) (fun _ _ _ h => h) (Or.inl ⟨by rfl, ?hyp7⟩) ?_
  case hyp7 => (intro w _; (go_simp) <;> (with_reducible rfl))
  try simp only [Act.put, List.getElem_toArray, List.getElem_cons_zero, List.getElem_cons_succ, List.setIfInBounds_toArray, List.set_cons_zero, List.set_cons_succ]
  refine wpAnyL_pure (i := 1) (v := ?vp8) rfl (by kernel_rfl) (by kernel_rfl) (by kernel_rfl) (fun _ _ _ h => h) (Or.inl ⟨by rfl, ?hyp8⟩) ?_
  case hyp8 => (intro w _; (go_simp) <;> (with_reducible rfl))
  try simp only [Act.put, List.getElem_toArray, List.getElem_cons_zero, List.getElem_cons_succ, List.setIfInBounds_toArray, List.set_cons_zero, List.set_cons_succ]
  refine wpAnyL_pure (i := 2) (v := ?vp9) rfl (by kernel_rfl) (by kernel_rfl) (by kernel_rfl) (fun _ _ _ h => h) (Or.inl ⟨by rfl, ?hyp9⟩) ?_
  case hyp9 => (intro w _; (go_simp) <;> (with_reducible rfl))
  try simp only [Act.put, List.getElem_toArray, List.getElem_cons_zero, List.getElem_cons_succ, List.setIfInBounds_toArray, List.set_cons_zero, List.set_cons_succ]
  refine wpAnyL_pure (i := 3) (v := ?vp10) rfl (by kernel_rfl) (by kernel_rfl) (by kernel_rfl) (fun _ _ _ h => h) (Or.inl ⟨by rfl, ?hyp10⟩) ?_
  case hyp10 => (intro w _; (go_simp) <;> (with_reducible rfl))
  try simp only [Act.put, List.getElem_toArray, List.getElem_cons_zero, List.getElem_cons_succ, List.setIfInBounds_toArray, List.set_cons_zero, List.set_cons_succ]
  refine wpAnyL_take (i := 4) (v := ?vp11) rfl (by kernel_rfl) (by kernel_rfl) (by kernel_rfl) (by kernel_rfl) (fun _ _ _ h => h) (Or.inl ⟨by rfl, ?hyp11⟩) (by assumption) ?_
  case hyp11 => (intro w hSw; replace hSw := (HSS.out w).1 hSw; (go_simp) <;> (with_reducible rfl))
  try simp only [Act.put, List.getElem_toArray, List.getElem_cons_zero, List.getElem_cons_succ, List.setIfInBounds_toArray, List.set_cons_zero, List.set_cons_succ]
  refine wpAnyL_pure (i := 5) (v := ?vp12) rfl (by kernel_rfl) (by kernel_rfl) (by kernel_rfl) (fun _ _ _ h => h) (Or.inl ⟨by rfl, ?hyp12⟩) ?_
  case hyp12 => (intro w _; (go_simp) <;> (with_reducible rfl))
  try simp only [Act.put, List.getElem_toArray, List.getElem_cons_zero, List.getElem_cons_succ, List.setIfInBounds_toArray, List.set_cons_zero, List.set_cons_succ]
  refine wpAnyL_all (rs := [6]) (by kernel_rfl) (by simp) (fun j hj => ?_)
  obtain rfl := List.mem_singleton.1 hj
  clear hj
  refine wpOpL (by rfl) (fun K hK => ?_)
  go_simp
  go_at_call 20
  refine (clone_calls wd v L MV6.out.inMv hL).mono ?_
  rintro e w7 ⟨ca, cc, rfl, b7⟩
  have k7 := KT.of_below (ts := []) b7 hBw6
  have VB7 := Lib.hid (VB.out.kt k7 (by simp))
  have HE7 := Lib.hid (own_kt HE.out k7 (by simp))
  have HBA7 := Lib.hid (BalM.kt HBA.out k7 (by simp))
  have DS7 := Lib.hid (DS6.out.kt k7 (by simp) (by simp))
  have MV7 := Lib.hid (MV6.out.kt k7 (by simp))
  have K7 := Lib.hid (K6.out.trans (k7.more (by simp)))
  have hBw7 := Nat.le_trans hBw6 b7.size
  clear k7 b7 VB HE HBA DS6 MV6 K6
  go_wp2_with fail
  refine hK.out _ _ (fun _ _ => HSV.out _ VB7.out) ?_
  clear hK K
  try simp only [Act.put, List.getElem_toArray, List.getElem_cons_zero, List.getElem_cons_succ, List.setIfInBounds_toArray, List.set_cons_zero, List.set_cons_succ]
  refine wpAnyL_all (rs := [7]) (by kernel_rfl) (by simp) (fun j hj => ?_)
  obtain rfl := List.mem_singleton.1 hj
  clear hj
  refine wpOpL (by rfl) (fun K hK => ?_)
  go_simp
  have b8 := below_alloc w7 (.cells #[.slice ca L.length cc] 36)
  have k8 := KT.of_below (ts := []) b8 hBw7
  have VB8 := Lib.hid (VB7.out.kt k8 (by simp))
  have HE8 := Lib.hid (own_kt HE7.out k8 (by simp))
  have HBA8 := Lib.hid (BalM.kt HBA7.out k8 (by simp))
  have DS8 := Lib.hid (DS7.out.kt k8 (by simp) (by simp))
  have MV8 := Lib.hid (MV7.out.kt k8 (by simp))
  have K8 := Lib.hid (K7.out.trans (k8.more (by simp)))
  have hBw8 := Nat.le_trans hBw7 b8.size
  have HR8 := Lib.hid (ownsRow_rds (ownsRow_lit w7 36 1 1 [.slice ca L.length cc] _ rfl rfl (by unfold maxLen; omega))).1
  clear k8 b8 VB7 HE7 HBA7 DS7 MV7 K7
  refine hK.out _ _ (fun _ _ => HSV.out _ VB8.out) ?_
  clear hK K
  try simp only [Act.put, List.getElem_toArray, List.getElem_cons_zero, List.getElem_cons_succ, List.setIfInBounds_toArray, List.set_cons_zero, List.set_cons_succ]
  refine wpAnyL_all (rs := [8]) (by kernel_rfl) (by simp) (fun j hj => ?_)
  obtain rfl := List.mem_singleton.1 hj
  clear hj
  refine wpOpL (by rfl) (fun K hK => ?_)
  refine step_append_rv (by rfl) (.tmp 40) (.tmp 43) _ (by rfl) B 36 _ 1 24 Tryz.underlying55 info_en (by rfl) (by decide) _ k es (by rfl) HE8.out _ 1 1 [.slice ca L.length cc] (by rfl) HR8.out (by intro u hu; simp only [List.mem_cons, List.not_mem_nil, or_false] at hu; subst hu; rfl) (by unfold maxLen; omega) (by omega) hBw8 (k + 1) rfl _ rfl ?_
  intro ad9 c9 w9 hown9 hg9 hn9 hb9 hk9
  have k9 := KT.of_grown (ts := [some 36]) hg9 hBw8 (fun b e => ⟨(own_ty HE8.out b e).1, fun o ho => by rw [(own_ty HE8.out b e).2 o ho]; simp⟩)
  have VB9 := Lib.hid (VB8.out.kt k9 (by decide))
  have HE9 := Lib.hid hown9
  have HBA9 := Lib.hid (BalM.kt HBA8.out k9 (by decide))
  have DS9 := Lib.hid (DS8.out.kt k9 (by decide) (by decide))
  have MV9 := Lib.hid (MV8.out.kt k9 (by decide))
  have K9 := Lib.hid (K8.out.trans (k9.more (by decide)))
  have hBw9 := Nat.le_trans hBw8 k9.size
  clear k9 VB8 HE8 HBA8 DS8 MV8 K8 hown9 hg9 hn9 hb9 hk9 HR8
  refine hK.out _ _ (fun _ _ => HSV.out _ VB9.out) ?_
  clear hK K hHeld
  try simp only [Act.put, List.getElem_toArray, List.getElem_cons_zero, List.getElem_cons_succ, List.setIfInBounds_toArray, List.set_cons_zero, List.set_cons_succ]
  have f1 := VB9.out.vals.frozen 1
  have lv := VB9.out.vals.lt
  have x1 := VB9.out.vals.cell (i := 1) (by simp [bcl])
  simp only [bcl, List.getD_cons_zero, List.getD_cons_succ] at x1
  refine wpAnyL_pure (i := 9) (v := ?vp13) rfl (by kernel_rfl) (by kernel_rfl) (by kernel_rfl) (fun _ _ _ h => h) (Or.inl ⟨by rfl, ?hyp13⟩) ?_
  case hyp13 => (intro w _; (go_simp) <;> (with_reducible rfl))
  try simp only [Act.put, List.getElem_toArray, List.getElem_cons_zero, List.getElem_cons_succ, List.setIfInBounds_toArray, List.set_cons_zero, List.set_cons_succ]
  refine wpAnyL_pure (i := 10) (v := ?vp14) rfl (by kernel_rfl) (by kernel_rfl) (by kernel_rfl) (fun _ _ _ h => h) (Or.inl ⟨by rfl, ?hyp14⟩) ?_
  case hyp14 => (intro w _; (go_simp) <;> (with_reducible rfl))
  try simp only [Act.put, List.getElem_toArray, List.getElem_cons_zero, List.getElem_cons_succ, List.setIfInBounds_toArray, List.set_cons_zero, List.set_cons_succ]
  refine wpAnyL_all (rs := [11]) (by kernel_rfl) (by simp) (fun j hj => ?_)
  obtain rfl := List.mem_singleton.1 hj
  clear hj
  refine wpOpL (by rfl) (fun K hK => ?_)
  go_simp
  refine hK.out _ _ (fun h => absurd h (by decide)) ?_
  clear hK K f1 lv x1
  try simp only [Act.put, List.getElem_toArray, List.getElem_cons_zero, List.getElem_cons_succ, List.setIfInBounds_toArray, List.set_cons_zero, List.set_cons_succ]
  refine wpAnyL_done (by kernel_rfl) ?_ _
  have k10 := KT.set (ts := [some 57]) VB9.out 1 (.slice ad9 (k + 1) c9) l0 (by simp)
  have VB10 := Lib.hid (VB9.out.set 1 (.slice ad9 (k + 1) c9))
  have HE10 := Lib.hid (own_kt HE9.out k10 (by decide))
  have HBA10 := Lib.hid (BalM.kt HBA9.out k10 (by decide))
  have DS10 := Lib.hid (DS9.out.kt k10 (by decide) (by decide))
  have MV10 := Lib.hid (MV9.out.kt k10 (by decide))
  have K10 := Lib.hid (K9.out.trans (k10.more (by decide)))
  have hBw10 := Nat.le_trans hBw9 k10.size
  clear k10 VB9 HE9 HBA9 DS9 MV9 K9
  generalize w9.setCell ⟨b, 1, none⟩ (.slice ad9 (k + 1) c9) = w10 at *
  have x2 := VB10.out.vals.cell (i := 2) (by simp [bcl])
  simp only [bcl, List.set_cons_succ, List.set_cons_zero, List.getD_cons_zero, List.getD_cons_succ] at x2
  have lv := VB10.out.vals.lt
  go_wp2_with fail
  clear x2 lv
  refine (do_calls w10 mb n f L v HBA10.out (by omega) MV10.out.inMv hL.2 (fun k hk => szM_of (HG.out k hk)) (fun a i => by have := HBF.out a i; omega)).mono ?_
  rintro e w11 ⟨rfl, hb11, g11⟩
  have k11 := KT.of_grown (ts := [none]) g11 hBw10 (fun b e => by
    cases e
    refine ⟨l1, fun o ho => ?_⟩
    obtain ⟨es0, c0, e0⟩ := BalM.obj HBA10.out
    rw [e0] at ho
    cases ho
    simp [tyOf])
  have FIN := Lib.hid (show BookS w11 B b db mb (k + 1) (n + 2 * L.length) (doN f L L.length) ∧ DiskS w11 B db (xs ++ encB L) ∧ KT allT B w w11 from
    ⟨⟨l0, l1, ⟨ad9, c9, _, VB10.out.kt k11 (by decide), own_kt HE10.out k11 (by decide)⟩, hb11⟩, DS10.out.kt k11 (by decide) (by decide), K10.out.trans (k11.more (by decide))⟩)
  clear k11 hb11 g11
  go_wp2
  go_ret
  exact ⟨rfl, FIN.out⟩
end Go.Proofs
end

section
open Go.RowKit Go.Deep Go.Maps
namespace Go.Proofs
set_option linter.unusedVariables false
set_option linter.unusedSimpArgs false

/-- bytes in a block of bytes -/
def RdT (w : World) (ad : Option Addr) (c : Nat) (xs : List Nat) : Prop := RdV w ad c xs.length 1 (nby xs) ∧ ∀ a, ad = some a → ∃ cs q, w.heap[a.block]? = some (.cells cs 5 q)
theorem RdT.kt {ts B w w' ad c xs} (h : RdT w ad c xs) (k : KT ts B w w') (he : some 5 ∉ ts) : RdT w' ad c xs := by
  obtain ⟨⟨h1, h2, h3, h4⟩, ht⟩ := h
  refine ⟨⟨h1, h2, h3, ?_⟩, fun a ha => ?_⟩
  · rcases h4 with h4 | ⟨b, o, rfl, h4⟩
    · exact .inl h4
    · refine .inr ⟨b, o, rfl, fun j u hj => ?_⟩
      obtain ⟨cs, q, hb⟩ := ht _ rfl
      rw [← h4 j u hj]
      exact World.cell?_of_block ((k.keep b _ hb he).trans hb.symm)
  · obtain ⟨cs, q, hb⟩ := ht a ha
    exact ⟨cs, q, k.keep _ _ hb he⟩
theorem OwnY.rdT {w B xs ad c} (h : OwnY w B (.slice ad xs.length c) xs) : RdT w ad c xs := by
  obtain ⟨r1, r2⟩ := ownsRow_rds h
  refine ⟨r1, fun a ha => ?_⟩
  obtain ⟨_, h1⟩ := h
  rcases h1 with ⟨e, _⟩ | ⟨g, cap, cur, e, _, hh, _⟩
  · have e1 := (Value.slice.inj e).1
    subst e1
    cases ha
  · have e1 := (Value.slice.inj e).1
    subst e1
    cases ha
    exact ⟨_, _, hh⟩
theorem nby_take (xs : List Nat) (n : Nat) : nby (xs.take n) = (nby xs).take n := by simp [nby, List.map_take]
theorem nby_drop (xs : List Nat) (n : Nat) : nby (xs.drop n) = (nby xs).drop n := by simp [nby, List.map_drop]
theorem RdT.take {w b o c xs} (h : RdT w (some ⟨b, o, none⟩) c xs) {n : Nat} (hn : n ≤ xs.length) : RdT w (some ⟨b, o, none⟩) c (xs.take n) := by
  obtain ⟨h1, h2⟩ := h
  refine ⟨?_, h2⟩
  have := h1.take n hn
  rw [Nat.mul_one] at this
  rw [nby_take, show (xs.take n).length = n by rw [List.length_take]; omega]
  exact this
theorem RdT.drop {w b o c xs} (h : RdT w (some ⟨b, o, none⟩) c xs) {n : Nat} (hn : n ≤ xs.length) : RdT w (some ⟨b, o + n, none⟩) (c - n) (xs.drop n) := by
  obtain ⟨⟨h1, h3, h4, h5⟩, h2⟩ := h
  refine ⟨⟨by rw [nby_len]; simp, by rw [List.length_drop]; omega, by omega, ?_⟩, fun a ha => by cases ha; exact h2 ⟨b, o, none⟩ rfl⟩
  rcases h5 with h5 | ⟨b', o', e, h5⟩
  · left; omega
  · cases e
    refine .inr ⟨b, o + n, rfl, fun j u hj => ?_⟩
    rw [nby_drop, List.getElem?_drop] at hj
    rw [Nat.add_assoc]
    exact h5 _ u hj
/-- the cursor -/
def CurS (w : World) (cb : Nat) (xs : List Nat) (ov : Bool) : Prop := ∃ ad c, Vt w cb [.slice ad xs.length c, .bool ov] 84 ∧ RdT w ad c xs
def InYT (w : World) (v : Value) (xs : List Nat) : Prop := ∃ ad c, v = .slice ad xs.length c ∧ RdT w ad c xs
theorem InYT.inY {w v xs} (h : InYT w v xs) : InY w v xs := by
  obtain ⟨ad, c, e, h⟩ := h
  exact ⟨ad, c, e, h.1⟩
theorem InYT.kt {ts B w w' v xs} (h : InYT w v xs) (k : KT ts B w w') (he : some 5 ∉ ts) : InYT w' v xs := by
  obtain ⟨ad, c, e, h⟩ := h
  exact ⟨ad, c, e, h.kt k he⟩

set_option maxRecDepth 100000 in
set_option maxHeartbeats 4000000 in
/-- n bytes are there -/
theorem take_ok (w : World) (B cb : Nat) (xs : List Nat) (n : Nat) (H : CurS w cb xs false) (hn : 1 ≤ n ∧ n ≤ xs.length) (hx : xs.length ≤ 100000) (hB : B ≤ cb) :
    Calls Tryz.prog 29 #[.pointer (some ⟨cb, 0, none⟩), .int .i64 (n : Int)] w fun e w' => ∃ v, e = .returned v ∧ InYT w' v (xs.take n) ∧ CurS w' cb (xs.drop n) false ∧ KT [some 84] B w w' := by
  obtain ⟨ad, c, hv, hr⟩ := H
  obtain ⟨hn1, hn2⟩ := hn
  obtain ⟨m, hm⟩ : ∃ n, xs.length = n := ⟨_, rfl⟩
  obtain ⟨b, o, rfl⟩ : ∃ b o, ad = some ⟨b, o, none⟩ := by
    obtain ⟨⟨_, h2, _, h4⟩, _⟩ := hr
    rcases h4 with h4 | ⟨b, o, e, _⟩
    · omega
    · exact ⟨b, o, e⟩
  rw [hm] at hv hn2 hx
  have LP := hr.1.2.1
  have LP2 := hr.1.2.2.1
  unfold maxLen at LP2
  rw [hm] at LP
  have HM := Lib.hid hm
  have HV := Lib.hid hv
  have HR := Lib.hid hr
  have x0 := hv.vals.cell (i := 0) (by simp)
  have x1 := hv.vals.cell (i := 1) (by simp)
  simp only [List.getD_cons_zero, List.getD_cons_succ] at x0 x1
  have lv := hv.vals.lt
  have f0 := hv.vals.frozen 0
  clear hm hv hr
  have i0 : (0 : Int) ≤ (n : Int) := by omega
  have i1 : (n : Int) ≤ (m : Int) := by omega
  have i2 : (n : Int) ≤ (c : Int) := by omega
  have i3 : (m : Int) ≤ (c : Int) := by omega
  have hmn : (xs.drop n).length = m - n := by rw [List.length_drop, HM.out]
  have htn : (xs.take n).length = n := by rw [List.length_take, HM.out]; omega
  have HMN := Lib.hid hmn
  have HTN := Lib.hid htn
  clear hmn htn
  go_enter Tryz.func29, Tryz.ntmps29
  go_wp2
  · rename_i hcn
    go_ret
    have hcn2 : c = n := by assumption
    subst hcn2
    have K := KT.set (ts := [some 84]) HV.out 0 (.slice (some ⟨b, o, none⟩) (m - c) 0) hB (by simp)
    have hd : xs.drop c = [] := List.eq_nil_of_length_eq_zero (by rw [HMN.out]; omega)
    have ht : xs.take c = xs := List.take_of_length_le (by rw [HM.out]; omega)
    refine ⟨.slice (some ⟨b, o, none⟩) c c, rfl, ⟨_, c, by rw [HTN.out], ?_⟩, ⟨some ⟨b, o, none⟩, 0, ?_, ?_⟩, K⟩
    · rw [ht]; exact HR.out.kt K (by decide)
    · rw [HMN.out]; exact HV.out.set 0 (.slice (some ⟨b, o, none⟩) (m - c) 0)
    · rw [hd]
      exact ⟨⟨rfl, Nat.zero_le _, by unfold maxLen; omega, .inl rfl⟩, (HR.out.kt K (by decide)).2⟩
  · rename_i hcn
    go_ret
    have K := KT.set (ts := [some 84]) HV.out 0 (.slice (some ⟨b, o + n, none⟩) (m - n) (c - n)) hB (by simp)
    refine ⟨.slice (some ⟨b, o, none⟩) n c, rfl, ⟨_, c, by rw [HTN.out], ?_⟩, ⟨some ⟨b, o + n, none⟩, c - n, ?_, ?_⟩, K⟩
    · exact (HR.out.kt K (by decide)).take (by rw [HM.out]; exact hn2)
    · rw [HMN.out]; exact HV.out.set 0 (.slice (some ⟨b, o + n, none⟩) (m - n) (c - n))
    · exact (HR.out.kt K (by decide)).drop (by rw [HM.out]; exact hn2)

theorem run_make_y {P : Program} (t e : TypeId) (z : Value) (bytes : Nat) (ht : P.underlying t = some (.slice e)) (h2 : (P.info? e).map (fun i => (i.zero, i.size, i.bytes)) = some (some z, 1, bytes)) (hz1 : z.cells = #[z]) (n : Nat) (hn : n * bytes ≤ 281474976710656) (hn' : n ≤ 1099511627776) :
    ∀ w : World, (Instr.makeSlice t (.int .i64 (n : Int)) (.int .i64 (n : Int))).run P w = .ok (.slice (some ⟨w.heap.size, 0, none⟩) n n) (w.alloc (.cells (Array.replicate n z) e)) := by
  intro w
  obtain ⟨i, hi, z0, z1, z2⟩ := info_parts h2
  obtain ⟨X, hX⟩ : ∃ X, n * bytes = X := ⟨_, rfl⟩
  have hr := run_make (P := P) w t e i _ ht hi z0 .i64 .i64 n n (by omega) (Int.le_refl _) (by rw [z2, ← Int.natCast_mul, Nat.mul_comm, hX]; omega) (by omega)
  rw [hz1, z1, Nat.mul_one] at hr
  simp only [Int.toNat_natCast] at hr
  rw [made_vals, List.toArray_replicate] at hr
  exact hr
/-- bytes of zero -/
def zer (n : Nat) : List Nat := List.replicate n 0
set_option maxRecDepth 100000 in
set_option maxHeartbeats 4000000 in
/-- it is over, or too few are there -/
theorem take_no (w : World) (B cb : Nat) (xs : List Nat) (ov : Bool) (n : Nat) (H : CurS w cb xs ov) (hn : n ≤ 4) (hx : xs.length ≤ 100000) (hB : B ≤ cb) (hBw : B ≤ w.heap.size) (ho : ov = true ∨ (ov = false ∧ xs.length < n)) :
    Calls Tryz.prog 29 #[.pointer (some ⟨cb, 0, none⟩), .int .i64 (n : Int)] w fun e w' => ∃ v, e = .returned v ∧ InYT w' v (zer n) ∧ CurS w' cb xs true ∧ KT [some 84] B w w' := by
  obtain ⟨ad, c, hv, hr⟩ := H
  obtain ⟨m, hm⟩ : ∃ n, xs.length = n := ⟨_, rfl⟩
  rw [hm] at hv hx ho
  have HM := Lib.hid hm
  have HV := Lib.hid hv
  have HR := Lib.hid hr
  have x0 := hv.vals.cell (i := 0) (by simp)
  have x1 := hv.vals.cell (i := 1) (by simp)
  simp only [List.getD_cons_zero, List.getD_cons_succ] at x0 x1
  have lv := hv.vals.lt
  have f1 := hv.vals.frozen 1
  clear hm hv hr
  have K := KT.set (ts := [some 84]) HV.out 1 (.bool true) hB (by simp)
  have V1 := HV.out.set 1 (.bool true)
  have HK := Lib.hid K
  have HV1 := Lib.hid V1
  clear K V1
  have fin : ∀ w', w' = w.setCell ⟨cb, 1, none⟩ (.bool true) → ∀ n, n ≤ 4 → InYT (w'.alloc (.cells (Array.replicate n (.int .u8 0)) 5)) (.slice (some ⟨w'.heap.size, 0, none⟩) n n) (zer n) ∧ CurS (w'.alloc (.cells (Array.replicate n (.int .u8 0)) 5)) cb xs true ∧ KT [some 84] B w (w'.alloc (.cells (Array.replicate n (.int .u8 0)) 5)) := by
    rintro w' rfl n hn
    have hk := HK.out.trans (KT.of_below (below_alloc (w.setCell ⟨cb, 1, none⟩ (.bool true)) (.cells (Array.replicate n (.int .u8 0)) 5)) (Nat.le_trans hBw HK.out.size))
    have hl : (zer n).length = n := by simp [zer]
    have ho := ownsRow_lit (w.setCell ⟨cb, 1, none⟩ (.bool true)) 5 1 n (nby (zer n)) (Array.replicate n (.int .u8 0)) (by rw [← List.toArray_replicate]; simp [nby, zer]) (by rw [nby_len, hl]; omega) (by unfold maxLen; omega)
    refine ⟨⟨_, n, by rw [hl], ?_⟩, ⟨ad, c, ?_, HR.out.kt hk (by decide)⟩, hk⟩
    · have : OwnY ((w.setCell ⟨cb, 1, none⟩ (.bool true)).alloc (.cells (Array.replicate n (.int .u8 0)) 5)) (w.setCell ⟨cb, 1, none⟩ (.bool true)).heap.size (.slice (some ⟨(w.setCell ⟨cb, 1, none⟩ (.bool true)).heap.size, 0, none⟩) (zer n).length n) (zer n) := by unfold OwnY; rw [hl]; exact ho
      exact this.rdT
    · rw [HM.out]
      exact HV1.out.mono (below_alloc _ _)
  have fin2 := fin _ rfl n hn
  rw [show (w.setCell ⟨cb, 1, none⟩ (.bool true)).heap.size = w.heap.size by simp [World.setCell]] at fin2
  have FIN := Lib.hid fin2
  clear fin2
  clear fin
  have M := run_make_y (P := Tryz.prog) 49 5 (.int .u8 0) 1 Tryz.underlying49 info_u8 rfl n (by omega) (by omega)
  rcases ho with rfl | ⟨rfl, ho⟩
  · go_enter Tryz.func29, Tryz.ntmps29
    go_wp2
    go_ret
    exact ⟨.slice (some ⟨w.heap.size, 0, none⟩) n n, rfl, FIN.out⟩
  · have ho2 : (n : Int) > (m : Int) := by omega
    go_enter Tryz.func29, Tryz.ntmps29
    go_wp2
    go_ret
    exact ⟨.slice (some ⟨w.heap.size, 0, none⟩) n n, rfl, FIN.out⟩
end Go.Proofs
end

section
open Go.RowKit Go.Deep Go.Maps
namespace Go.Proofs
set_option linter.unusedVariables false
set_option linter.unusedSimpArgs false

theorem or_byte (a b : Nat) (ha : a < 1099511627776) (hb : b < 256) : bits BinOp.or IntKind.i64 ((a : Int) * 256) (b : Int) = ((a * 256 + b : Nat) : Int) := by
  have h := bits_join IntKind.i64 62 (by simp [IntKind.bits]) (fun n h0 h1 => IntWalk.i64_in n (by omega)) 8 ((a : Int) * 256) (b : Int) (by omega) (by omega) (by omega) (by omega) (by omega) (by omega)
  rw [h]
  omega
/-- the number that the first k bytes tell -/
def nmT (ys : List Nat) : Nat → Nat
  | 0 => 0
  | k + 1 => nmT ys k * 256 + ys.getD k 0

set_option maxRecDepth 100000 in
set_option maxHeartbeats 4000000 in
theorem number_of (w : World) (cb size : Nat) (ys : List Nat) (Post : World → Prop) (hl : ys.length ≤ 4) (hy : ∀ y ∈ ys, y < 256)
    (HT : Calls Tryz.prog 29 #[.pointer (some ⟨cb, 0, none⟩), .int .i64 (size : Int)] w fun e w1 => ∃ v, e = .returned v ∧ InYT w1 v ys ∧ Post w1) :
    Calls Tryz.prog 28 #[.pointer (some ⟨cb, 0, none⟩), .int .i64 (size : Int)] w fun e w' => e = .returned (.int .i64 ((nmT ys ys.length : Nat) : Int)) ∧ Post w' := by
  have HH := Lib.hid HT
  obtain ⟨n, hn⟩ : ∃ n, ys.length = n := ⟨_, rfl⟩
  rw [hn] at hl ⊢
  have HN := Lib.hid hn
  have HY := Lib.hid hy
  clear hn hy HT
  go_enter Tryz.func28, Tryz.ntmps28
  go_wp2_with fail
  refine HH.out.mono ?_
  rintro e w1 ⟨v, rfl, ⟨ad, c, rfl, rd, _⟩, hP⟩
  rw [HN.out] at rd ⊢
  have HP := Lib.hid hP
  have LP := rd.2.1
  have LP2 := rd.2.2.1
  unfold maxLen at LP2
  have HR := Lib.hid rd
  clear hP rd HH
  go_wp2
  go_loopw [5, 12] (fun sv iv wr => ∃ i : Nat, iv = .int .i64 (i : Int) ∧ i ≤ n ∧ sv = .int .i64 ((nmT ys i : Nat) : Int) ∧ nmT ys i < 256 ^ i ∧ wr = w1)
    (fun _ iv _ => n - (intOf iv).toNat)
  case atStart => exact ⟨0, rfl, Nat.zero_le _, rfl, by simp [nmT], rfl⟩
  case round =>
    obtain ⟨i, rfl, hi, rfl, hsm, rfl⟩ := hrel
    by_cases h1 : i < n
    · have hip : i < ys.length := by rw [HN.out]; exact h1
      have hcx : ys.getD i 0 < 256 := by
        have e : ys.getD i 0 = ys[i] := by simp [List.getD, List.getElem?_eq_getElem hip]
        rw [e]; exact HY.out _ (List.getElem_mem hip)
      obtain ⟨-, -, -, r4⟩ := HR.out
      rcases r4 with r4 | ⟨b, o, rfl, r4⟩
      · omega
      have ce := r4 i _ (nby_get ys hip)
      obtain ⟨x, hx⟩ : ∃ x, ys.getD i 0 = x := ⟨_, rfl⟩
      rw [hx] at ce hcx
      have hst : nmT ys (i + 1) = nmT ys i * 256 + x := by rw [nmT, hx]
      obtain ⟨s, hs⟩ : ∃ s, nmT ys i = s := ⟨_, rfl⟩
      rw [hs] at hsm hst ⊢
      have h3 : 256 ^ i ≤ 256 ^ 3 := Nat.pow_le_pow_right (by decide) (by omega)
      have hs3 : s < 16777216 := by
        have : (256 : Nat) ^ 3 = 16777216 := by decide
        omega
      have HPW := Lib.hid (show nmT ys (i + 1) < 256 ^ (i + 1) by
        rw [hst, Nat.pow_succ]
        omega)
      have HST := Lib.hid hst
      have hor := or_byte s x (by omega) hcx
      rw [← hst] at hor
      have hwr : IntKind.i64.wrap ((s : Int) * 256) = (s : Int) * 256 := IntWalk.i64_in _ (by omega)
      have i0 : (0 : Int) ≤ (i : Int) := by omega
      have i1 : (i : Int) < (n : Int) := by omega
      clear hx hs hst r4 hsm h3
      go_wp2
      go_roundw
      case rel => exact ⟨i + 1, by go_num, by omega, rfl, HPW.out, trivial⟩
      case measure => simp [intOf]; omega
    · obtain rfl : i = n := by omega
      go_wp2
      go_ret
      exact ⟨rfl, HP.out⟩

theorem zer_len (n : Nat) : (zer n).length = n := by simp [zer]
theorem zer_lt (n : Nat) : ∀ y ∈ zer n, y < 256 := by
  intro y hy
  unfold zer at hy
  have := (List.mem_replicate.1 hy).2
  omega
theorem nm_zer (n : Nat) : ∀ k, nmT (zer n) k = 0
  | 0 => rfl
  | k + 1 => by
    rw [nmT, nm_zer n k]
    unfold zer
    by_cases h : k < n
    · simp [List.getD, h]
    · simp [List.getD, h]
theorem number_ok (w : World) (B cb : Nat) (xs : List Nat) (n : Nat) (H : CurS w cb xs false) (hn : 1 ≤ n ∧ n ≤ xs.length) (hn4 : n ≤ 4) (hx : xs.length ≤ 100000) (hlt : ∀ x ∈ xs, x < 256) (hB : B ≤ cb) :
    Calls Tryz.prog 28 #[.pointer (some ⟨cb, 0, none⟩), .int .i64 (n : Int)] w fun e w' => e = .returned (.int .i64 ((nmT (xs.take n) n : Nat) : Int)) ∧ CurS w' cb (xs.drop n) false ∧ KT [some 84] B w w' := by
  have htn : (xs.take n).length = n := by rw [List.length_take]; omega
  have h := number_of w cb n (xs.take n) (fun w' => CurS w' cb (xs.drop n) false ∧ KT [some 84] B w w') (by omega) (fun y hy => hlt y (List.mem_of_mem_take hy)) (take_ok w B cb xs n H hn hx hB)
  rw [htn] at h
  exact h
theorem number_no (w : World) (B cb : Nat) (xs : List Nat) (ov : Bool) (n : Nat) (H : CurS w cb xs ov) (hn : n ≤ 4) (hx : xs.length ≤ 100000) (hB : B ≤ cb) (hBw : B ≤ w.heap.size) (ho : ov = true ∨ (ov = false ∧ xs.length < n)) :
    Calls Tryz.prog 28 #[.pointer (some ⟨cb, 0, none⟩), .int .i64 (n : Int)] w fun e w' => e = .returned (.int .i64 0) ∧ CurS w' cb xs true ∧ KT [some 84] B w w' := by
  have h := number_of w cb n (zer n) (fun w' => CurS w' cb xs true ∧ KT [some 84] B w w') (by rw [zer_len]; omega) (zer_lt n) (take_no w B cb xs ov n H hn hx hB hBw ho)
  rw [nm_zer] at h
  exact h

/-- a number's bytes tell it -/
theorem nm_snoc (ys zs : List Nat) : ∀ k, k ≤ ys.length → nmT (ys ++ zs) k = nmT ys k
  | 0, _ => rfl
  | k + 1, h => by
    rw [nmT, nmT, nm_snoc ys zs k (by omega)]
    congr 1
    simp [List.getD, List.getElem?_append_left (show k < ys.length by omega)]
theorem nm_be (n size : Nat) : ∀ j, j ≤ size → nmT (beT n size j) j = n / 256 ^ (size - j) % 256 ^ j
  | 0, _ => by simp [nmT, Nat.mod_one]
  | j + 1, h => by
    have hl := beT_len n size j
    have e1 : nmT (beT n size (j + 1)) j = nmT (beT n size j) j := by rw [beT]; exact nm_snoc _ _ _ (by omega)
    have e2 : (beT n size (j + 1)).getD j 0 = n / 256 ^ (size - 1 - j) % 256 := by
      rw [beT]
      simp [List.getD, List.getElem?_append_right (show (beT n size j).length ≤ j by omega), hl]
    rw [nmT, e1, e2, nm_be n size j (by omega)]
    have e3 : size - j = (size - 1 - j) + 1 := by omega
    have e4 : size - (j + 1) = size - 1 - j := by omega
    rw [e3, e4]
    obtain ⟨q, hq⟩ : ∃ q, n / 256 ^ (size - 1 - j) = q := ⟨_, rfl⟩
    have e5 : n / 256 ^ (size - 1 - j + 1) = q / 256 := by rw [Nat.pow_succ, ← Nat.div_div_eq_div_mul, hq]
    rw [e5, hq, Nat.pow_succ, Nat.mul_comm (256 ^ j) 256, Nat.mod_mul]
    omega
theorem nm_be_all {n size : Nat} (h : n < 256 ^ size) : nmT (be n size) size = n := by
  unfold be
  rw [nm_be n size size (Nat.le_refl _), Nat.sub_self, Nat.pow_zero, Nat.div_one, Nat.mod_eq_of_lt h]
end Go.Proofs
end

section
open Go.RowKit Go.Deep Go.Maps
namespace Go.Proofs
set_option linter.unusedVariables false
set_option linter.unusedSimpArgs false

theorem str_back (s : ByteArray) : strOfNums ((sb s).map fun (x : Nat) => (x : Int)) = s := by
  apply ByteArray.ext
  apply Array.ext'
  simp [strOfNums, sb]
  conv => rhs; rw [← List.map_id s.data.toList]
  apply List.map_congr_left
  intro b _
  simp

set_option maxRecDepth 100000 in
set_option maxHeartbeats 4000000 in
/-- a string that stands there -/
theorem text_calls (w : World) (B cb : Nat) (s : ByteArray) (xs : List Nat) (H : CurS w cb (str1 s ++ xs) false) (hs : 1 ≤ s.size ∧ s.size ≤ 255) (hx : (str1 s ++ xs).length ≤ 100000) (hlt : ∀ x ∈ str1 s ++ xs, x < 256) (hB : B ≤ cb) :
    Calls Tryz.prog 31 #[.pointer (some ⟨cb, 0, none⟩)] w fun e w' => e = .returned (.string s) ∧ CurS w' cb xs false ∧ KT [some 84] B w w' := by
  have hl := str1_len s
  have N1 := number_ok w B cb (str1 s ++ xs) 1 H ⟨by omega, by rw [List.length_append, hl]; omega⟩ (by omega) hx hlt hB
  have e1 : nmT ((str1 s ++ xs).take 1) 1 = s.size := by simp [nmT, str1]
  have e2 : (str1 s ++ xs).drop 1 = sb s ++ xs := by simp [str1]
  rw [e1, e2] at N1
  have hln : (sb s ++ xs).length ≤ 100000 := by rw [List.length_append, sb_len]; rw [List.length_append, hl] at hx; omega
  have HN1 := Lib.hid N1
  have HLN := Lib.hid hln
  clear N1 e1 e2 hl hx hlt H
  go_enter Tryz.func31, Tryz.ntmps31
  go_wp2_with fail
  refine HN1.out.mono ?_
  rintro e w1 ⟨rfl, C1, K1⟩
  have T1 := take_ok w1 B cb (sb s ++ xs) s.size C1 ⟨hs.1, by rw [List.length_append, sb_len]; omega⟩ HLN.out hB
  have e3 : (sb s ++ xs).take s.size = sb s := by rw [← sb_len s]; exact List.take_left
  have e4 : (sb s ++ xs).drop s.size = xs := by rw [← sb_len s]; exact List.drop_left
  rw [e3, e4] at T1
  have HT := Lib.hid T1
  have HK := Lib.hid K1
  clear T1 e3 e4 C1 K1 HN1
  go_wp2_with fail
  refine HT.out.mono ?_
  rintro e w2 ⟨v, rfl, ⟨ad, c, rfl, rd, _⟩, C2, K2⟩
  rw [sb_len] at rd ⊢
  have hcv : ∀ dst, Tryz.prog.underlying dst = some .string → (convert 49 dst (.slice ad s.size c)).run Tryz.prog w2 = .ok (.string s) w2 := by
    obtain ⟨r1, r2, r3, r4⟩ := rd
    rcases r4 with r4 | ⟨b, o, rfl, r4⟩
    · have := hs.1
      omega
    · have := run_convert_bytes_arg (P := Tryz.prog) w2 49 5 Tryz.underlying49 Tryz.underlying5 b o s.size c ((sb s).map fun (x : Nat) => (x : Int)) (by rw [List.length_map, sb_len]) (fun i hi => by
        have hi' : i < (sb s).length := by rw [sb_len]; exact hi
        have h1 := r4 i _ (nby_get (sb s) hi')
        rw [h1]
        simp [List.getD, hi'])
      rw [str_back] at this
      exact this
  have hcv2 := hcv 9 Tryz.underlying9
  clear hcv rd
  go_wp2
  go_ret
  exact ⟨rfl, C2, HK.out.trans K2⟩
end Go.Proofs
end

section
open Go.RowKit Go.Deep Go.Maps
namespace Go.Proofs
set_option linter.unusedVariables false
set_option linter.unusedSimpArgs false

theorem cur_new (w : World) (ad : Option Addr) (c : Nat) (xs : List Nat) (h : RdT w ad c xs) : CurS (w.alloc (.cells #[.slice ad xs.length c, .bool false] 84)) w.heap.size xs false :=
  ⟨ad, c, Vt.new w [.slice ad xs.length c, .bool false] 84, h.kt (KT.of_below (ts := []) (below_alloc w _) (Nat.le_refl _)) (by simp)⟩

set_option maxRecDepth 100000 in
set_option maxHeartbeats 4000000 in
/-- nothing is left -/
theorem decode_none (w : World) (v : Value) (H : InYT w v []) :
    Calls Tryz.prog 13 #[v] w fun e w' => e = .returned (.tuple #[.slice none 0 0, .int .i64 0]) ∧ Below w.heap.size w w' := by
  obtain ⟨ad, c, rfl, hr⟩ := H
  have hc := cur_new w ad c [] hr
  have bb := below_alloc w (.cells #[.slice ad ([] : List Nat).length c, .bool false] 84)
  have hsz : w.heap.size ≤ (w.alloc (.cells #[.slice ad ([] : List Nat).length c, .bool false] 84)).heap.size := bb.size
  rw [List.length_nil] at hc bb hsz ⊢
  clear hr
  go_enter Tryz.func13, Tryz.ntmps13
  go_upto_region 2 with (fail)
  obtain ⟨B, hB⟩ : ∃ B, w.heap.size = B := ⟨_, rfl⟩
  generalize w.alloc (.cells #[.slice ad 0 c, .bool false] 84) = w0 at *
  rw [hB] at hc bb hsz ⊢
  have HB := Lib.hid hB
  clear hB
  go_wp2_with fail
  refine (number_no w0 B B [] false 2 hc (by omega) (by simp) (Nat.le_refl _) hsz (.inr ⟨rfl, by simp⟩)).mono ?_
  rintro e w1 ⟨rfl, c1, k1⟩
  have hs1 := Nat.le_trans hsz k1.size
  go_wp2_with fail
  refine (number_no w1 B B [] true 4 c1 (by omega) (by simp) (Nat.le_refl _) hs1 (.inl rfl)).mono ?_
  rintro e w2 ⟨rfl, c2, k2⟩
  have hs2 := Nat.le_trans hs1 k2.size
  go_wp2_with fail
  refine (take_no w2 B B [] true 0 c2 (by omega) (by simp) (Nat.le_refl _) hs2 (.inl rfl)).mono ?_
  rintro e w3 ⟨v3, rfl, ⟨a3, d3, rfl, r3⟩, c3, k3⟩
  have hb3 := Lib.hid (bb.trans (k1.trans (k2.trans k3)).below)
  obtain ⟨a4, d4, v4, -⟩ := c3
  have x1 := v4.vals.cell (i := 1) (by simp)
  simp only [List.getD_cons_zero, List.getD_cons_succ] at x1
  have lv := v4.vals.lt
  clear c1 c2 k1 k2 k3 v4 r3 hc bb hsz hs1 hs2
  go_wp2
  go_ret2
  exact ⟨rfl, by rw [HB.out]; exact hb3.out⟩

def encsF : List Mv → List Nat
  | [] => []
  | m :: r => encM m ++ encsF r
theorem bodyN_eq (L : List Mv) : ∀ k, k ≤ L.length → bodyN L k = [L.length] ++ encsF (L.take k)
  | 0, _ => by simp [bodyN, encsF]
  | k + 1, h => by
    have hg : L.getD k mv0 = L[k] := by simp [List.getD, List.getElem?_eq_getElem (show k < L.length by omega)]
    have ha : ∀ (A : List Mv) (m : Mv), encsF (A ++ [m]) = encsF A ++ encM m := by
      intro A m
      induction A with
      | nil => simp [encsF]
      | cons x r ih => simp [encsF, ih]
    rw [bodyN, bodyN_eq L k (by omega), hg, List.take_succ_eq_append_getElem (by omega), ha, List.append_assoc]
theorem bodyL_eq (L : List Mv) : bodyL L = L.length :: encsF L := by
  unfold bodyL
  rw [bodyN_eq L L.length (Nat.le_refl _), List.take_length]
  rfl
theorem encsF_drop (L : List Mv) {i : Nat} (h : i < L.length) : encsF (L.drop i) = encM (L.getD i mv0) ++ encsF (L.drop (i + 1)) := by
  have hg : L.getD i mv0 = L[i] := by simp [List.getD, List.getElem?_eq_getElem h]
  rw [List.drop_eq_getElem_cons h, encsF, hg]
theorem encsF_lt {L : List Mv} (hG : ∀ m ∈ L, MvOk m) : ∀ x ∈ encsF L, x < 256 := by
  induction L with
  | nil => intro x hx; cases hx
  | cons m r ih =>
    intro x hx
    rw [encsF, List.mem_append] at hx
    rcases hx with hx | hx
    · exact encM_lt (hG m (by simp)) x hx
    · exact ih (fun y hy => hG y (by simp [hy])) x hx
theorem encsF_len {L : List Mv} (hG : ∀ m ∈ L, MvOk m) : (encsF L).length ≤ 43 * L.length := by
  induction L with
  | nil => simp [encsF]
  | cons m r ih =>
    have h1 := encM_len (hG m (by simp))
    have h2 := ih (fun y hy => hG y (by simp [hy]))
    rw [encsF, List.length_append, List.length_cons]
    omega
end Go.Proofs
end

section
open Go.RowKit Go.Deep Go.Maps
namespace Go.Proofs
set_option linter.unusedVariables false
set_option linter.unusedSimpArgs false

theorem CurS.kt {ts B w w' cb xs ov} (h : CurS w cb xs ov) (k : KT ts B w w') (h1 : some 84 ∉ ts) (h2 : some 5 ∉ ts) : CurS w' cb xs ov := by
  obtain ⟨ad, c, a, b⟩ := h
  exact ⟨ad, c, a.kt k h1, b.kt k h2⟩

set_option maxRecDepth 100000 in
set_option maxHeartbeats 8000000 in
theorem decode_ok (w : World) (v : Value) (L : List Mv) (more : List Nat) (H : InYT w v (encB L ++ more)) (hL : 1 ≤ L.length ∧ L.length ≤ 32) (hG : ∀ k, k < L.length → MvOk (L.getD k mv0)) (hlen : (encB L ++ more).length ≤ 60000) (hlt : ∀ x ∈ encB L ++ more, x < 256) :
    Calls Tryz.prog 13 #[v] w fun e w' => ∃ mv, e = .returned (.tuple #[mv, .int .i64 (((encB L).length : Nat) : Int)]) ∧ MvT w' mv L ∧ Below w.heap.size w w' := by
  have hE := encB_len hL.2 hG
  have hBl : (bodyL L).length ≤ 2000 := by unfold encB at hE; simp only [List.length_append, be_len] at hE; omega
  have hel : (encB L).length = 6 + (bodyL L).length := by unfold encB; simp only [List.length_append, be_len]
  have hbx : ∀ x ∈ bodyL L, x < 256 := bodyN_lt hL.2 hG L.length (Nat.le_refl _)
  have hxs : encB L ++ more = be (bodyL L).length 2 ++ (be (smB (bodyL L)) 4 ++ (bodyL L ++ more)) := by unfold encB; simp only [List.append_assoc]
  have hsm : smB (bodyL L) < 4294967296 := smN_lt _ (by omega) _
  have hb1 : 1 ≤ (bodyL L).length := by rw [bodyL_eq]; simp
  rw [hxs] at H hlen hlt
  rw [hel]
  have hbeq := bodyL_eq L
  obtain ⟨bd, hbd⟩ : ∃ b, bodyL L = b := ⟨_, rfl⟩
  rw [hbd] at H hlen hlt hBl hbx hsm hb1 hbeq ⊢
  obtain ⟨n, hn⟩ : ∃ b, bd.length = b := ⟨_, rfl⟩
  obtain ⟨s, hs⟩ : ∃ b, smB bd = b := ⟨_, rfl⟩
  rw [hn, hs] at H hlen hlt
  rw [hn] at hBl hb1 ⊢
  rw [hs] at hsm
  have HNN := Lib.hid hn
  have HSS := Lib.hid hs
  have HBE := Lib.hid hbeq
  have HBX := Lib.hid hbx
  have HLT := Lib.hid hlt
  have HG := Lib.hid hG
  have HLEN := Lib.hid hlen
  clear hel hxs hbd hn hs hbeq hbx hlt hE hG hlen
  obtain ⟨ad, c, rfl, hr⟩ := H
  obtain ⟨xs, hxs⟩ : ∃ xs, be n 2 ++ (be s 4 ++ (bd ++ more)) = xs := ⟨_, rfl⟩
  rw [hxs] at hr HLT HLEN ⊢
  have hd2 : xs.drop 2 = be s 4 ++ (bd ++ more) := by rw [← hxs]; have := List.drop_left (l₁ := be n 2) (l₂ := be s 4 ++ (bd ++ more)); rwa [be_len] at this
  have ht2 : xs.take 2 = be n 2 := by rw [← hxs]; have := List.take_left (l₁ := be n 2) (l₂ := be s 4 ++ (bd ++ more)); rwa [be_len] at this
  have hl0 : xs.length = 2 + (4 + (n + more.length)) := by rw [← hxs]; simp only [List.length_append, be_len, HNN.out]
  have hd4 : (be s 4 ++ (bd ++ more)).drop 4 = bd ++ more := by have := List.drop_left (l₁ := be s 4) (l₂ := bd ++ more); rwa [be_len] at this
  have ht4 : (be s 4 ++ (bd ++ more)).take 4 = be s 4 := by have := List.take_left (l₁ := be s 4) (l₂ := bd ++ more); rwa [be_len] at this
  have htn : (bd ++ more).take n = bd := by rw [← HNN.out]; exact List.take_left
  have hdn : (bd ++ more).drop n = more := by rw [← HNN.out]; exact List.drop_left
  have hc := cur_new w ad c xs hr
  have bb := below_alloc w (.cells #[.slice ad xs.length c, .bool false] 84)
  have hll := HLEN.out
  obtain ⟨B, hB⟩ : ∃ B, w.heap.size = B := ⟨_, rfl⟩
  have hBW : ∀ w0, w.alloc (.cells #[.slice ad xs.length c, .bool false] 84) = w0 → CurS w0 B xs false ∧ Below B w w0 := by
    rintro w0 rfl
    rw [← hB]
    exact ⟨hc, bb⟩
  obtain ⟨m0, hm0⟩ : ∃ m, xs.length = m := ⟨_, rfl⟩
  rw [hm0] at hBW hl0 hll ⊢
  have HBW := Lib.hid hBW
  have HL0 := Lib.hid hl0
  have hm6 : 6 + n ≤ m0 := by omega
  have hbm : (bd ++ more).length ≤ 60000 := by rw [List.length_append, HNN.out]; omega
  have hbm4 : (be s 4 ++ (bd ++ more)).length ≤ 60000 := by rw [List.length_append, be_len, List.length_append, HNN.out]; omega
  have HBM := Lib.hid hbm
  have HBM4 := Lib.hid hbm4
  clear hl0 hbm hbm4
  have HD2 := Lib.hid hd2
  have HT2 := Lib.hid ht2
  have HD4 := Lib.hid hd4
  have HT4 := Lib.hid ht4
  have HTN := Lib.hid htn
  have HDN := Lib.hid hdn
  have HM0 := Lib.hid hm0
  have HB := Lib.hid hB
  have HXS := Lib.hid hxs
  clear hc bb hr hd2 ht2 hd4 ht4 htn hdn hxs hm0 hBW
  go_enter Tryz.func13, Tryz.ntmps13
  go_upto_region 2 with (fail)
  clear hB
  obtain ⟨hc, bb⟩ := HBW.out _ rfl
  generalize w.alloc (.cells #[.slice ad m0 c, .bool false] 84) = w0 at *
  clear HBW
  go_wp2_with fail
  refine (number_ok w0 B B xs 2 hc ⟨by omega, by rw [HM0.out]; omega⟩ (by omega) (by rw [HM0.out]; omega) HLT.out (Nat.le_refl _)).mono ?_
  rintro e w1 ⟨rfl, c1, k1⟩
  rw [HD2.out] at c1
  rw [HT2.out, nm_be_all (by omega)]
  have hs1 := k1.size
  have L4 : ∀ x ∈ be s 4 ++ (bd ++ more), x < 256 := by rw [← HD2.out]; exact fun x hx => HLT.out x (List.mem_of_mem_drop hx)
  have LM : ∀ x ∈ bd ++ more, x < 256 := fun x hx => L4 x (List.mem_append_right _ hx)
  go_wp2_with fail
  refine (number_ok w1 B B _ 4 c1 ⟨by omega, by rw [List.length_append, be_len]; omega⟩ (by omega) (by have := HBM4.out; omega) L4 (Nat.le_refl _)).mono ?_
  rintro e w2 ⟨rfl, c2, k2⟩
  rw [HD4.out] at c2
  rw [HT4.out, nm_be_all (by omega)]
  go_wp2_with fail
  refine (take_ok w2 B B _ n c2 ⟨hb1, by rw [List.length_append, HNN.out]; omega⟩ (by have := HBM.out; omega) (Nat.le_refl _)).mono ?_
  rintro e w3 ⟨v3, rfl, i3, c3, k3⟩
  rw [HTN.out] at i3
  rw [HDN.out] at c3
  have K3 := Lib.hid (k1.trans (k2.trans k3))
  have BB3 := Lib.hid (bb.trans K3.out.below)
  have I3 := Lib.hid i3
  obtain ⟨a5, c5, rfl, r5⟩ := i3
  have R5 := Lib.hid r5
  rw [HNN.out] at I3 ⊢
  obtain ⟨a4, d4, v4, -⟩ := c3
  have x1 := v4.vals.cell (i := 1) (by simp)
  simp only [List.getD_cons_zero, List.getD_cons_succ] at x1
  have lv := v4.vals.lt
  have hw32 : (s : Int) % 4294967296 = (s : Int) := by omega
  clear c1 c2 k1 k2 k3 v4 hc bb r5 L4 LM hs1
  go_wp2_with fail
  clear x1 lv hw32
  refine (sum_calls _ bd w3 I3.out.inY HBX.out (by rw [HNN.out]; omega)).mono ?_
  rintro e wz ⟨rfl, rfl⟩
  rw [HSS.out]
  have hc5 := cur_new wz a5 c5 bd R5.out
  have bb5 := below_alloc wz (.cells #[.slice a5 bd.length c5, .bool false] 84)
  rw [HNN.out] at hc5 bb5
  go_upto_region 8 with (fail)
  obtain ⟨C, hC⟩ : ∃ C, wz.heap.size = C := ⟨_, rfl⟩
  have hBC : B ≤ C := by rw [← hC]; have := BB3.out.size; have := HB.out; omega
  rw [hC] at hc5 bb5 ⊢
  generalize wz.alloc (.cells #[.slice a5 n c5, .bool false] 84) = w5 at *
  have BB5 := Lib.hid (BB3.out.trans (bb5.mono hBC))
  clear bb5 hC
  obtain ⟨l, hl⟩ : ∃ l, L.length = l := ⟨_, rfl⟩
  have hbe := HBE.out
  rw [hl] at hL hbe
  have HLl := Lib.hid hl
  obtain ⟨hL1, hL2⟩ := hL
  have ht1 : nmT (bd.take 1) 1 = l := by rw [hbe]; simp [nmT]
  have hd1 : bd.drop 1 = encsF L := by rw [hbe]; rfl
  clear hl hbe
  go_wp2_with fail
  refine (number_ok w5 C C bd 1 hc5 ⟨by omega, by rw [HNN.out]; exact hb1⟩ (by omega) (by rw [HNN.out]; omega) HBX.out (Nat.le_refl _)).mono ?_
  rintro e w6 ⟨rfl, c6, k6⟩
  rw [hd1] at c6
  rw [ht1]
  have HK6 := Lib.hid k6
  have HC6 := Lib.hid c6
  have hs6 : C ≤ w6.heap.size := Nat.le_of_lt (by obtain ⟨_, _, vv, _⟩ := c6; exact vv.vals.lt)
  clear c6 k6 hc5 ht1 hd1
  go_wp2
  have hall : ∀ m ∈ L, MvOk m := fun m hm => by
    obtain ⟨k, hk, rfl⟩ := List.mem_iff_getElem.1 hm
    have := HG.out k hk
    have e : L.getD k mv0 = L[k] := by simp [List.getD, List.getElem?_eq_getElem hk]
    rwa [e] at this
  have HALL := Lib.hid hall
  clear hall
  go_loopw [8, 36] (fun ov kv wr => ∃ i : Nat, kv = .int .i64 (i : Int) ∧ i ≤ l ∧ (∃ a c, ov = .slice a i c) ∧ wr.ownsRow C 35 4 ov i (flat mvcl (L.take i)) ∧ CurS wr C (encsF (L.drop i)) false ∧ KT [some 84, some 35] C w6 wr)
    (fun _ kv _ => l - (intOf kv).toNat)
  case atStart => exact ⟨0, rfl, Nat.zero_le _, ⟨_, _, rfl⟩, ownsRow_nil _ _ _ _, HC6.out, KT.refl _ _ _⟩
  case round =>
    clear HC6
    obtain ⟨i, rfl, hi, ⟨oa, oc, rfl⟩, hown, hcur, hk⟩ := hrel
    by_cases h1 : i < l
    · have hip : i < L.length := by rw [HLl.out]; exact h1
      have hok := HG.out i hip
      have hed := encsF_drop L hip
      have htk : L.take (i + 1) = L.take i ++ [L.getD i mv0] := by
        have e : L.getD i mv0 = L[i] := by simp [List.getD, List.getElem?_eq_getElem hip]
        rw [e, List.take_succ_eq_append_getElem hip]
      have hm' : ∀ m ∈ L.drop i, MvOk m := fun m hm => HALL.out m (List.mem_of_mem_drop hm)
      have hx1 := encsF_lt hm'
      have hx2 := encsF_len hm'
      have hx3 : (L.drop i).length ≤ 32 := by rw [List.length_drop, HLl.out]; omega
      obtain ⟨X, hX⟩ : ∃ X, L.getD i mv0 = X := ⟨_, rfl⟩
      rw [hX] at hok hed htk
      obtain ⟨E, hE⟩ : ∃ E, encsF (L.drop (i + 1)) = E := ⟨_, rfl⟩
      rw [hE] at hed
      obtain ⟨qn, hq⟩ : ∃ q : Nat, X.q = (q : Int) := ⟨X.q.toNat, by have := hok.q0; omega⟩
      have hqb : qn ≤ 1000000000 := by have := hok.q1; omega
      have hed2 : encsF (L.drop i) = str1 X.f ++ (str1 X.t ++ (str1 X.i ++ (be qn 4 ++ E))) := by
        rw [hed]; unfold encM
        rw [hq, show ((qn : Int)).toNat = qn by omega]
        simp only [List.append_assoc]
      rw [hed2] at hcur hx1 hx2
      have hT0 : flat mvcl (L.take (i + 1)) = flat mvcl (L.take i) ++ [.string X.f, .string X.t, .string X.i, .int .i64 (qn : Int)] := by rw [htk, flat_append]; simp [flat, mvcl, hq]
      have hT := Lib.hid hT0
      clear hT0
      have HE := Lib.hid hE
      have HOK := Lib.hid hok
      have zf := hok.f
      have zt := hok.t
      have zi := hok.i
      have l1 := str1_len X.f
      have l2 := str1_len X.t
      have l3 := str1_len X.i
      have hlen1 : (str1 X.f ++ (str1 X.t ++ (str1 X.i ++ (be qn 4 ++ E)))).length ≤ 2000 := by omega
      have hlen2 : (str1 X.t ++ (str1 X.i ++ (be qn 4 ++ E))).length ≤ 2000 := by rw [List.length_append] at hlen1; omega
      have hlen3 : (str1 X.i ++ (be qn 4 ++ E)).length ≤ 2000 := by rw [List.length_append] at hlen2; omega
      have hlen4 : (be qn 4 ++ E).length ≤ 2000 := by rw [List.length_append] at hlen3; omega
      have hy2 := fun x (hx : x ∈ str1 X.t ++ (str1 X.i ++ (be qn 4 ++ E))) => hx1 x (List.mem_append_right _ hx)
      have hy3 := fun x (hx : x ∈ str1 X.i ++ (be qn 4 ++ E)) => hy2 x (List.mem_append_right _ hx)
      have hy4 := fun x (hx : x ∈ be qn 4 ++ E) => hy3 x (List.mem_append_right _ hx)
      have i0 : (0 : Int) ≤ (i : Int) := by omega
      have i1 : (i : Int) < (l : Int) := by omega
      have HY1 := Lib.hid hx1
      have HY2 := Lib.hid hy2
      have HY3 := Lib.hid hy3
      have HY4 := Lib.hid hy4
      have HL1 := Lib.hid hlen1
      have HL2 := Lib.hid hlen2
      have HL3 := Lib.hid hlen3
      have HL4 := Lib.hid hlen4
      have z1 := zf.1
      have z2 := zf.2.1
      have z3 := zt.1
      have z4 := zt.2.1
      have z5 := zi.1
      have z6 := zi.2.1
      have HOW := Lib.hid hown
      have HKK := Lib.hid hk
      have HCU := Lib.hid hcur
      clear hed hed2 htk hm' hx1 hx2 hx3 hX hE hq hok zf zt zi l1 l2 l3 hlen1 hlen2 hlen3 hlen4 hy2 hy3 hy4 hown hk hcur
      go_wp2_with fail
      refine (text_calls wr C C X.f _ HCU.out ⟨z1, by omega⟩ (by have := HL1.out; omega) HY1.out (Nat.le_refl _)).mono ?_
      rintro e w7 ⟨rfl, c7, k7⟩
      have H7 := Lib.hid c7
      have K7 := Lib.hid k7
      clear c7 k7
      go_wp2_with fail
      refine (text_calls w7 C C X.t _ H7.out ⟨z3, by omega⟩ (by have := HL2.out; omega) HY2.out (Nat.le_refl _)).mono ?_
      rintro e w8 ⟨rfl, c8, k8⟩
      have H8 := Lib.hid c8
      have K8 := Lib.hid (K7.out.trans k8)
      clear c8 k8
      go_wp2_with fail
      refine (text_calls w8 C C X.i _ H8.out ⟨z5, by omega⟩ (by have := HL3.out; omega) HY3.out (Nat.le_refl _)).mono ?_
      rintro e w9 ⟨rfl, c9, k9⟩
      have H9 := Lib.hid c9
      have K9 := Lib.hid (K8.out.trans k9)
      clear c9 k9
      go_upto_region 11 with (fail)
      have vm := Vt.new w9 [.string X.f, .string X.t, .string X.i, .int .i64 0] 35
      have bm := below_alloc w9 (.cells #[.string X.f, .string X.t, .string X.i, .int .i64 0] 35)
      have o9 := own_kt HOW.out K9.out (by decide)
      have hnb : (Value.slice oa i oc).ownBlock ≠ some w9.heap.size := fun e => by
        have := (ownsRow_block o9 _ e).2
        omega
      have o10 := ownsRow_mono o9 bm
      have hC9 : C ≤ w9.heap.size := Nat.le_trans hs6 (Nat.le_trans HKK.out.size K9.out.size)
      have k10 := (K9.out.more (us := [some 84, some 35]) (by simp)).trans (KT.of_below bm hC9)
      have c10 := H9.out.kt (KT.of_below (ts := []) bm hC9) (by simp) (by simp)
      obtain ⟨mb, hmb⟩ : ∃ m, w9.heap.size = m := ⟨_, rfl⟩
      rw [hmb] at vm hnb hC9 ⊢
      generalize w9.alloc (.cells #[.string X.f, .string X.t, .string X.i, .int .i64 0] 35) = w10 at *
      clear bm o9 hmb H9 H8 H7 K7 K8 HCU
      have h4d : (be qn 4 ++ E).drop 4 = E := by have := List.drop_left (l₁ := be qn 4) (l₂ := E); rwa [be_len] at this
      have h4t : (be qn 4 ++ E).take 4 = be qn 4 := by have := List.take_left (l₁ := be qn 4) (l₂ := E); rwa [be_len] at this
      have NO := number_ok w10 C C (be qn 4 ++ E) 4 c10 ⟨by omega, by rw [List.length_append, be_len]; omega⟩ (by omega) (by have := HL4.out; omega) HY4.out (Nat.le_refl _)
      rw [h4d, h4t, nm_be_all (by omega)] at NO
      have HNO := Lib.hid NO
      have VM := Lib.hid vm
      have O10 := Lib.hid o10
      have K10 := Lib.hid k10
      clear NO vm o10 k10 c10 h4d h4t
      go_wp2_with fail
      refine HNO.out.mono ?_
      rintro e w11 ⟨rfl, c11, k11⟩
      have v11 := VM.out.kt k11 (by decide)
      have o11 := own_kt O10.out k11 (by decide)
      have k12 := K10.out.trans (k11.more (by simp))
      have f3 := v11.vals.frozen 3
      have lv := v11.vals.lt
      have ks := KT.set (ts := [some 35]) v11 3 (.int .i64 (qn : Int)) hC9 (by simp)
      have V12 := Lib.hid (v11.set 3 (.int .i64 (qn : Int)))
      have O12 := Lib.hid (ownsRow_other o11 ⟨mb, 3, none⟩ hnb (.int .i64 (qn : Int)))
      have C12 := Lib.hid (c11.kt ks (by decide) (by decide))
      have K12 := Lib.hid (k12.trans (ks.more (by simp)))
      have x3 := v11.vals.cell (i := 3) (by simp)
      simp only [List.getD_cons_zero, List.getD_cons_succ] at x3
      clear VM O10 K10 c11 k11 o11 k12 ks HNO v11
      go_upto_region 12 with (fail)
      clear f3 lv x3
      generalize w11.setCell ⟨mb, 3, none⟩ (.int .i64 (qn : Int)) = w12 at *
      have x0 := V12.out.vals.cell (i := 0) (by simp)
      have x1 := V12.out.vals.cell (i := 1) (by simp)
      have x2 := V12.out.vals.cell (i := 2) (by simp)
      have x3 := V12.out.vals.cell (i := 3) (by simp)
      simp only [List.set_cons_succ, List.set_cons_zero, List.getD_cons_zero, List.getD_cons_succ] at x0 x1 x2 x3
      have lv := V12.out.vals.lt
      have hC12 : C ≤ w12.heap.size := by omega
      have bz := below_alloc w12 (.cells #[.string X.f, .string X.t, .string X.i, .int .i64 (qn : Int)] 35)
      have HR := Lib.hid (ownsRow_rds (ownsRow_lit w12 35 4 1 [.string X.f, .string X.t, .string X.i, .int .i64 (qn : Int)] _ rfl rfl (by unfold maxLen; omega))).1
      have HO := Lib.hid (ownsRow_mono O12.out bz)
      have kz := KT.of_below (ts := [some 35]) bz hC12
      have CZ := Lib.hid (C12.out.kt kz (by decide) (by decide))
      have KZ := Lib.hid (K12.out.trans (kz.more (by simp)))
      have hle := Nat.le_trans hC12 bz.size
      clear bz kz O12 C12 K12
      go_wp2_with (at_builtin; refine wpList_append_rv rfl (.tmp 48) (.tmp 50) _ rfl C 35 _ 4 56 Tryz.underlying36 info_mv rfl (by decide) _ i _ rfl HO.out _ 1 1 _ rfl HR.out (by intro u hu; simp only [List.mem_cons, List.not_mem_nil, or_false] at hu; rcases hu with rfl | rfl | rfl | rfl <;> rfl) (by unfold maxLen; omega) (by omega) hle (i + 1) rfl _ hT.out ?_; intro ad7 c7 w7' hown7 hg7 hn7 hb7 hk7; have O7 := Lib.hid hown7; have hkg := KT.of_grown (ts := [some 35]) hg7 hle (fun b e => ⟨(own_ty HO.out b e).1, fun o ho => by rw [(own_ty HO.out b e).2 o ho]; simp⟩); have C7 := Lib.hid (CZ.out.kt hkg (by decide) (by decide)); have K7' := Lib.hid (KZ.out.trans (hkg.more (by simp))); clear hown7 hg7 hn7 hb7 hk7 hkg)
      clear x0 x1 x2 x3 lv
      go_roundw
      case rel => exact ⟨i + 1, by go_num, by omega, ⟨ad7, c7, rfl⟩, O7.out, by rw [HE.out]; exact C7.out, HKK.out.trans K7'.out⟩
      case measure => simp [intOf]; omega
    · obtain rfl : i = l := by omega
      have hd0 : L.drop i = [] := List.drop_eq_nil_of_le (by rw [HLl.out]; omega)
      have ht0 : L.take i = L := List.take_of_length_le (by rw [HLl.out]; omega)
      rw [hd0] at hcur
      rw [ht0] at hown
      obtain ⟨a9, d9, v9, -⟩ := hcur
      have x0 := v9.vals.cell (i := 0) (by simp)
      have x1 := v9.vals.cell (i := 1) (by simp)
      simp only [List.getD_cons_zero, List.getD_cons_succ, encsF, List.length_nil] at x0 x1
      have lv := v9.vals.lt
      have hmv : MvT wr (.slice oa i oc) L := by
        obtain ⟨r1, r2⟩ := ownsRow_rds hown
        refine ⟨oa, oc, by rw [HLl.out], by rw [HLl.out]; exact r1, fun a ha => ?_⟩
        obtain ⟨_, h2⟩ := hown
        rcases h2 with ⟨e, _⟩ | ⟨g, cap, cur, e, _, hh, _⟩
        · have e1 := (Value.slice.inj e).1
          rw [ha] at e1
          cases e1
        · have e1 := (Value.slice.inj e).1
          rw [ha] at e1
          cases e1
          exact ⟨_, _, hh⟩
      have HMV := Lib.hid hmv
      have hw6 : IntKind.i64.wrap (6 + (n : Int)) = 6 + (n : Int) := IntWalk.i64_in _ (by omega)
      have HBW := Lib.hid (BB5.out.trans ((HK6.out.below.trans hk.below).mono hBC))
      clear hd0 ht0 v9 hown hk hmv
      go_wp2_with fail
      clear x0 x1 lv
      refine (entry_calls L _ wr HMV.out.inMv ⟨by rw [HLl.out]; exact hL1, by rw [HLl.out]; exact hL2⟩ HG.out).mono ?_
      rintro e w7 ⟨rfl, b7⟩
      have HE7 := Lib.hid (HMV.out.kt (KT.of_below (ts := []) b7 (Nat.le_refl _)) (by simp))
      have hBr : B ≤ wr.heap.size := by have := HBW.out.size; have := HB.out; omega
      have HB7 := Lib.hid (HBW.out.trans (b7.mono hBr))
      clear b7
      go_wp2
      go_ret2
      exact ⟨.slice oa i oc, rfl, HE7.out, by rw [HB.out]; exact HB7.out⟩
end Go.Proofs
end

