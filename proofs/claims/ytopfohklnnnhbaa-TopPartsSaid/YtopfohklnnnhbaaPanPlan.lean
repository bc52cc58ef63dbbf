/- panel: plan appends the best plan of a rectangle. -/
import Derived.Test.YtopfohklnnnhbaaPanSt
open Go.RowKit Go.Shelf Go.Deep
namespace Go.Proofs
set_option linter.unusedVariables false
set_option linter.unusedSimpArgs false
attribute [local go_sem] Oper.semAt_some

def LastIs {L : List Wy} (V : Int) (pre : List { z : Wy // z ∈ L }) : Prop := ∃ pre0 z, pre = pre0 ++ [z] ∧ (∀ y ∈ pre0, y.1.v ≠ V) ∧ z.1.v = V
def AtOr (u v : Value) (lo : Nat) : Prop := u.ownBlock = v.ownBlock ∨ ∃ g, u.ownBlock = some g ∧ lo ≤ g
/-- how plan leaves its range -/
def PlanEnd (w : World) (B kf : Nat) (sh : List Shp) (i j : Nat) (xs : List (Nat × Nat)) (v : Value) (V : Int) {L : List Wy} (co : Code) (pre : List { z : Wy // z ∈ L }) (W' : World) : Prop :=
  (∃ u, Boxed W' (w.heap.size + 1) 26 u ∧ W'.ownsRow B 35 2 u (xs ++ lastPlan kf sh i j pre).length (flat ccl (xs ++ lastPlan kf sh i j pre)) ∧ (co = .exit 0 ∧ LastIs V pre ∧ AtOr u v w.heap.size)) ∧ w.grownBy W' v.ownBlock
theorem planEnd_own {w : World} {B kf : Nat} {sh : List Shp} {i j : Nat} {xs : List (Nat × Nat)} {v : Value} {V : Int} {L : List Wy} {B2 : Nat} (hB : w.heap.size ≤ B2) (co : Code) : OwnFrom B2 (fun (pre : List { z : Wy // z ∈ L }) W' => PlanEnd w B kf sh i j xs v V co pre W') :=
  OwnFrom.and (Own.from (holdsRow_own B (w.heap.size + 1) 26 35 2 (fun (pre : List { z : Wy // z ∈ L }) => (xs ++ lastPlan kf sh i j pre).length) (fun (pre : List { z : Wy // z ∈ L }) => flat ccl (xs ++ lastPlan kf sh i j pre)) (fun pre u => co = .exit 0 ∧ LastIs V pre ∧ AtOr u v w.heap.size)) _) (grown_own hB _)

set_option maxRecDepth 100000 in
set_option maxHeartbeats 8000000 in
theorem plan_calls (W H kf : Nat) (ad : Option Addr) (n c : Nat) (sh : List Shp) (hW : W ≤ 64) (hH : H ≤ 64) (hkf : kf ≤ 8) (hn : n ≤ 16) (hsh : ∀ s ∈ sh, s.v ≤ 1000000) (B b : Nat) (hb : b < B) :
    ∀ (N i j : Nat), i + j ≤ N → 1 ≤ i → i ≤ W → 1 ≤ j → j ≤ H → ∀ (w : World) (v : Value) (xs : List (Nat × Nat)), B ≤ w.heap.size → Saw w b kf ad n c sh (tabV kf sh W H) → w.ownsRow B 35 2 v xs.length (flat ccl xs) →
      xs.length + 2 * (i * j) ≤ 100000 → Calls Try.prog 8 #[.pointer (some ⟨b, 0, none⟩), v, .int .i64 (i : Int), .int .i64 (j : Int)] w (RetPlan B w v (xs ++ planV kf sh i j)) := by
  have HT := Lib.hid (show ∀ a b, 0 ≤ tabV kf sh W H a b ∧ tabV kf sh W H a b ≤ 1000000000000 from tabS_bound (kf := kf) (sh := sh) (H := H) (i := W + 1) (j := 1) hsh hH (by omega))
  have HTV := Lib.hid (fun (a b : Nat) (ha : a ≤ W) (hb : b ≤ H) => tabV_in (kf := kf) (sh := sh) ha hb)
  have HTL := Lib.hid (fun (i j : Nat) (h1 : 1 ≤ i) (h2 : i ≤ W) (h3 : 1 ≤ j) (h4 : j ≤ H) => (waysL_congr (T := tabV kf sh W H) (T' := VV kf sh) (kf := kf) (sh := sh) (i := i) (j := j) (fun a b ha hb _ => tabV_in (by omega) (by omega)) h1 h3))
  intro N
  induction N with
  | zero => intro i j h h1; omega
  | succ N ih =>
    intro i j hN hi1 hi2 hj1 hj2 w v xs hBw hS hown hlen
    have IH := Lib.hid ih
    have HL1 := HTL.out i j hi1 hi2 hj1 hj2
    have hTV := HTV.out i j hi2 hj2
    obtain ⟨T, hT⟩ : ∃ T, tabV kf sh W H = T := ⟨_, rfl⟩
    rw [hT] at hS HT HTV HTL IH HL1 hTV
    obtain ⟨V, hV⟩ : ∃ V, VV kf sh i j = V := ⟨_, rfl⟩
    rw [hV] at hTV
    obtain ⟨L, hL⟩ : ∃ L, L = waysL T kf sh i j := ⟨_, rfl⟩
    have hL2 : L = waysL (VV kf sh) kf sh i j := hL.trans HL1
    have hvB := ownsRow_block hown
    obtain ⟨ad0, c0, rfl⟩ := ownsRow_form hown
    have hblk : ∀ g, (Value.slice ad0 xs.length c0).ownBlock = some g → B ≤ g ∧ g < w.heap.size := hvB
    obtain ⟨nx, hnx⟩ : ∃ k, xs.length = k := ⟨_, rfl⟩
    rw [hnx] at hown hlen hvB hblk ⊢
    obtain ⟨w1, hw1, b1, hsz1, c4, hbx, c6, c7⟩ := four_boxes w (.pointer (some ⟨b, 0, none⟩)) (.slice ad0 nx c0) (.int .i64 (i : Int)) (.int .i64 (j : Int)) 38 26 3 3
    have hi64 : i ≤ 64 := by omega
    have hj64 : j ≤ 64 := by omega
    have HW1 := Lib.hid hw1
    clear hw1
    have HS := Lib.hid hS
    have HOWN := Lib.hid hown
    have HBX := Lib.hid hbx
    have HC := Lib.hid (And.intro c4 (And.intro c6 c7))
    have HBK := Lib.hid hblk
    have HLL := Lib.hid (And.intro hL hL2)
    have HTT := Lib.hid hT
    have HVV := Lib.hid hV
    have HNX := Lib.hid hnx
    have WC := Lib.hid (fun w1 : World => ways_calls b i j w1)
    have B1 := Lib.hid b1
    have hTij : T i j = V := hTV
    clear ih hS hown hbx hvB hblk hL hL2 HL1 hT hV hnx hTV b1
    refine (callsIn_wide (n := 9)).1 ?_
    refine callsIn_of_wp_marks Try.func8 rfl trivial ?_ rfl
    simp only [Try.ntmps8, List.size_toArray, List.length_cons, List.length_nil, Nat.reduceAdd, Nat.reduceSub, Array.replicate_succ, Array.replicate_zero, List.push_toArray, List.append_toArray, List.nil_append, List.cons_append]
    refine wpIn_wide.2 ?_
    go_wp2_with fail
    rw [HW1.out]
    clear HW1
    refine (WC.out _).mono ?_
    rintro e w2 ⟨s, x, y, rfl, hs, hx, hy, cs, cx, cy, b2⟩
    have hsz2 := b2.size
    have B2 := Lib.hid (below_trans B1.out b2)
    have hbx2 : Boxed w2 (w.heap.size + 1) 26 (.slice ad0 nx c0) := (b2.block _ (by omega)).trans HBX.out
    have d4 : w2.cell? ⟨w.heap.size, 0, none⟩ = some (.pointer (some ⟨b, 0, none⟩)) := (b2.cell (p := ⟨w.heap.size, 0, none⟩) (by show w.heap.size < _; omega)).trans HC.out.1
    have d6 : w2.cell? ⟨w.heap.size + 2, 0, none⟩ = some (.int .i64 (i : Int)) := (b2.cell (p := ⟨w.heap.size + 2, 0, none⟩) (by show w.heap.size + 2 < _; omega)).trans HC.out.2.1
    have d7 : w2.cell? ⟨w.heap.size + 3, 0, none⟩ = some (.int .i64 (j : Int)) := (b2.cell (p := ⟨w.heap.size + 3, 0, none⟩) (by show w.heap.size + 3 < _; omega)).trans HC.out.2.2
    have hS2 := HS.out.mono B2.out
    have hown2 := ownsRow_mono HOWN.out B2.out
    have STOPS := Lib.hid (ways_mem 8 (by omega) (w.heap.size + 1) b kf ad n c sh T s x y i j L HLL.out.1 hi1 hi64 hj1 hj64 hkf HT.out hn (by omega) (by omega) (by omega) (by omega) w2 (by omega) ⟨hS2, cs, cx, cy⟩)
    have HD := Lib.hid (And.intro d4 (And.intro d6 d7))
    have HBX2 := Lib.hid hbx2
    have HS2 := Lib.hid hS2
    have HOWN2 := Lib.hid hown2
    clear hbx2 hS2 hown2 cs cx cy HC HBX WC B1 c4 c6 c7 b2 d4 d6 d7 HS HOWN
    go_wp2_with fail
    refine (wpIn_wide (n := 9)).1 ?_
    refine' wpIn_rangeWaysM (L := L) (lb := #[.pointer (some ⟨s, 0, none⟩), .pointer (some ⟨x, 0, none⟩), .pointer (some ⟨y, 0, none⟩)]) rfl STOPS.out rfl
      (fun (pre : List { z : Wy // z ∈ L }) W' => (∀ z ∈ pre, z.1.v ≠ V) ∧ Below w2.heap.size w2 W')
      (fun co pre W' => PlanEnd w B kf sh i j xs (.slice ad0 nx c0) V co pre W')
      (pure_below_own (fun (pre : List { z : Wy // z ∈ L }) => ∀ z ∈ pre, z.1.v ≠ V))
      (fun co => planEnd_own (by omega) co)
      ⟨fun z hz => (by cases hz), Below.refl _ _⟩ (w.heap.size + 3) (fun z pz => { tmps := #[.pointer (some ⟨b, 0, none⟩), .slice ad0 nx c0, .int .i64 (i : Int), .int .i64 (j : Int), .pointer (some ⟨w.heap.size, 0, none⟩), .pointer (some ⟨w.heap.size + 1, 0, none⟩), .pointer (some ⟨w.heap.size + 2, 0, none⟩), .pointer (some ⟨w.heap.size + 3, 0, none⟩), .slice none 0 0, .pointer (some ⟨pz, 0, none⟩), undef, undef, undef, .pointer (some ⟨b, 0, none⟩), .int .i64 (i : Int), .int .i64 (j : Int), .func (.func 11) #[] #[.pointer (some ⟨s, 0, none⟩), .pointer (some ⟨x, 0, none⟩), .pointer (some ⟨y, 0, none⟩)], .agg #[.int .i64 (z.1.k : Int), .int .i64 (z.1.p : Int), .int .i64 z.1.v], undef, undef, undef, undef, undef, undef, undef, undef, undef, undef, undef, undef, undef, undef, undef, undef, undef, undef, undef, undef, undef, undef, undef, undef, undef, undef, undef, undef, undef, undef, undef, undef, undef, undef, undef, undef, undef, undef, undef, undef, undef, undef, undef, undef, undef, undef, undef, undef, undef, undef, undef, undef, undef, undef, undef, undef, undef, undef, undef, undef, undef, undef, undef, undef, undef, undef, undef], defers := [] }) ?assign ?body ?done ?stop
    case assign =>
      rintro l pre z W' K ⟨hpre, hB'⟩ hK
      have v := Vals.newL W' W'.heap.size [.int .i64 (z.1.k : Int), .int .i64 (z.1.p : Int), .int .i64 z.1.v] 50 rfl
      have bb := below_alloc W' (.cells #[.int .i64 (z.1.k : Int), .int .i64 (z.1.p : Int), .int .i64 z.1.v] 50)
      have hlt := hB'.size
      have h1 := (KeepsOthers.alloc W' (.cells #[.int .i64 (z.1.k : Int), .int .i64 (z.1.p : Int), .int .i64 z.1.v] 50)).from w2.heap.size
      have h2 := KeepO.of_below (g := w.heap.size + 1) bb
      have h3 := below_trans hB' bb
      clear bb hB'
      gi_wp2
      generalize hpp : W'.heap.size = p at *
      exact hK _ _ h1 h2 ⟨hpre, h3⟩ ⟨p, by omega, v, rfl⟩
    case body =>
      rintro l pre ⟨⟨zk, zp, zv⟩, hz⟩ pz W' ⟨hpre, hB'⟩ hpz hvz hlt
      have hm := mem_ways (HLL.out.2 ▸ hz)
      dsimp only at hm
      have HPRE := Lib.hid hpre
      have hvz2 := hvz
      have e2 := hvz2.cell (i := 2) (by simp [wcl])
      simp only [wcl, List.getD_cons_zero, List.getD_cons_succ] at e2
      have d4 := (hB'.cell (p := ⟨w.heap.size, 0, none⟩) (by show w.heap.size < _; omega)).trans HD.out.1
      have d6 := (hB'.cell (p := ⟨w.heap.size + 2, 0, none⟩) (by show w.heap.size + 2 < _; omega)).trans HD.out.2.1
      have d7 := (hB'.cell (p := ⟨w.heap.size + 3, 0, none⟩) (by show w.heap.size + 3 < _; omega)).trans HD.out.2.2
      have hS3 := HS2.out.mono hB'
      have ct := hS3.tab i j (by omega) (by omega)
      rw [hTij] at ct
      have i65 : (i : Int) < 65 := by omega
      have j65 : (j : Int) < 65 := by omega
      have HVZ := Lib.hid hvz
      have HB' := Lib.hid hB'
      have HS3 := Lib.hid hS3
      have HHS := Lib.hid (show W'.drew.cell? ⟨pz, 2, none⟩ = some (.int .i64 zv) ∧ W'.drew.cell? ⟨w.heap.size, 0, none⟩ = some (.pointer (some ⟨b, 0, none⟩)) ∧ W'.drew.cell? ⟨w.heap.size + 2, 0, none⟩ = some (.int .i64 (i : Int)) ∧ W'.drew.cell? ⟨w.heap.size + 3, 0, none⟩ = some (.int .i64 (j : Int)) ∧ W'.drew.cell? ⟨b, 2 + i * 65 + j, none⟩ = some (.int .i64 V) from ⟨e2, d4, d6, d7, ct⟩)
      clear hpre hvz hvz2 hB' hS3 e2 d4 d6 d7 ct
      by_cases hzv : zv = V
      · have u0 : (zv != V) = false := by simp [hzv]
        obtain ⟨K, hKK⟩ : ∃ K : Int, (zk : Int) = K := ⟨_, rfl⟩
        have HKK := Lib.hid hKK
        obtain ⟨W3, hW3⟩ : ∃ W3, W'.drew = W3 := ⟨_, rfl⟩
        have hB3 : Below w2.heap.size w2 W3 := hW3 ▸ HB'.out.drew
        have vz3 : Vals W3 pz (wcl ⟨zk, zp, zv⟩) := hW3 ▸ HVZ.out
        have kf3 : KeepsFrom w2.heap.size W' W3 := hW3 ▸ (KeepsOthers.drew W').from _
        have st3 : PSt w W' W3 B b kf ad n c sh T (.slice ad0 nx c0) i j pz w2.heap.size (wcl ⟨zk, zp, zv⟩) (.slice ad0 nx c0) (.slice ad0 nx c0) xs :=
          ⟨by rw [HNX.out]; exact ownsRow_mono HOWN2.out hB3, ((pan_grown (below_trans B2.out hB3)).but _), .inl rfl, (hB3.block _ (by omega)).trans HBX2.out, (hB3.cell (p := ⟨w.heap.size, 0, none⟩) (by show w.heap.size < _; omega)).trans HD.out.1, (hB3.cell (p := ⟨w.heap.size + 2, 0, none⟩) (by show w.heap.size + 2 < _; omega)).trans HD.out.2.1, (hB3.cell (p := ⟨w.heap.size + 3, 0, none⟩) (by show w.heap.size + 3 < _; omega)).trans HD.out.2.2, HS2.out.mono hB3, vz3, kf3⟩
        have bb4 := below_alloc W3 (.cells #[.int .i64 K, .int .i64 (zp : Int)] 35)
        have st4 := PSt.call HBK.out hb hpz st3 ((pan_grown bb4).but _) (ownsRow_mono st3.own bb4) (.inl rfl)
        have own4 : (W3.alloc (.cells #[.int .i64 K, .int .i64 (zp : Int)] 35)).ownsRow B 35 2 (.slice ad0 nx c0) nx (flat ccl xs) := by have h := st4.own; rw [HNX.out] at h; exact h
        have rd4 := (Vals.newL W3 W3.heap.size [.int .i64 K, .int .i64 (zp : Int)] 35 rfl).rd2
        have hB4 : B ≤ (W3.alloc (.cells #[.int .i64 K, .int .i64 (zp : Int)] 35)).heap.size := by have := hB3.size; have := bb4.size; omega
        have hnx2 : nx + 1 ≤ 200000 := by omega
        have pzlt := vz3.lt
        have APP := Lib.hid (fun (ad1 : Option Addr) (c1 : Nat) (w5 : World) (h1 : w5.ownsRow B 35 2 (.slice ad1 (nx + 1) c1) (nx + 1) (flat ccl xs ++ [.int .i64 K, .int .i64 (zp : Int)])) (h2 : (W3.alloc (.cells #[.int .i64 K, .int .i64 (zp : Int)] 35)).grownBy w5 (.slice ad0 nx c0 : Value).ownBlock)
            (h3 : (Value.slice ad1 (nx + 1) c1).ownBlock = (.slice ad0 nx c0 : Value).ownBlock ∨ (Value.slice ad1 (nx + 1) c1).ownBlock = some (W3.alloc (.cells #[.int .i64 K, .int .i64 (zp : Int)] 35)).heap.size) =>
          PSt.call (ys' := xs ++ [(zk, zp)]) HBK.out hb hpz st4 h2 (by rw [List.length_append, HNX.out, flat_append]; show World.ownsRow _ _ _ _ _ (nx + 1) (flat ccl xs ++ [.int .i64 (zk : Int), .int .i64 (zp : Int)]); rw [HKK.out]; exact h1) (h3.imp id (fun e => ⟨_, e, Nat.le_refl _⟩)))
        have cx3 := st3.box.cell
        have e0 := vz3.cell (i := 0) (by simp [wcl])
        have e1 := vz3.cell (i := 1) (by simp [wcl])
        simp only [wcl, List.getD_cons_zero, List.getD_cons_succ] at e0 e1
        rw [hKK] at e0 ⊢
        have OWN4 := Lib.hid own4
        have RD4 := Lib.hid rd4
        have H4 := Lib.hid hB4
        have HW3 := Lib.hid hW3
        have HZV := Lib.hid hzv
        clear hKK hW3 hB3 vz3 kf3 st3 bb4 st4 own4 rd4 hB4 hzv
        rcases (show (zk ≠ 3 ∧ zk ≠ 4) ∨ (zk = 3 ∧ 1 ≤ zp ∧ zp < i) ∨ (zk = 4 ∧ 1 ≤ zp ∧ zp < j) from (by
          rcases hm with ⟨a, _⟩ | ⟨a, _⟩ | ⟨a, b, c, _⟩ | ⟨a, b, c, _⟩
          · exact .inl ⟨by rw [a]; decide, by rw [a]; decide⟩
          · exact .inl (by rcases a with a | a <;> exact ⟨by rw [a]; decide, by rw [a]; decide⟩)
          · exact .inr (.inl ⟨a, b, c⟩)
          · exact .inr (.inr ⟨a, b, c⟩))) with ⟨n3, n4⟩ | ⟨zk3, hp1, hp2⟩ | ⟨zk3, hp1, hp2⟩
        · have k3 : (K == 3) = false := beq_false_of_ne (by have := HKK.out; omega)
          have k4 : (K == 4) = false := beq_false_of_ne (by have := HKK.out; omega)
          gi_wp2
          refine wpIn_region_held (S := fun w' => w'.cell? ⟨pz, 2, none⟩ = some (.int .i64 zv) ∧ w'.cell? ⟨w.heap.size, 0, none⟩ = some (.pointer (some ⟨b, 0, none⟩)) ∧ w'.cell? ⟨w.heap.size + 2, 0, none⟩ = some (.int .i64 (i : Int)) ∧ w'.cell? ⟨w.heap.size + 3, 0, none⟩ = some (.int .i64 (j : Int)) ∧ w'.cell? ⟨b, 2 + i * 65 + j, none⟩ = some (.int .i64 V)) (by kernel_rfl) (by kernel_rfl) HHS.out (fun hHeld => ?_)
          refine wpAnyH_take (i := 0) (v := ?vc2x0) rfl (by kernel_rfl) (by kernel_rfl) (by kernel_rfl) (fun _ _ _ h => h) (Or.inl ⟨by rfl, ?hyc2x0⟩) (by assumption) ?_
          case hyc2x0 => (intro w hSw; (try dsimp only at hSw); (go_simp) <;> (with_reducible rfl))
          try simp only [Act.put, List.getElem_toArray, List.getElem_cons_zero, List.getElem_cons_succ, List.setIfInBounds_toArray, List.set_cons_zero, List.set_cons_succ]
          refine wpAnyH_take (i := 1) (v := ?vc2x1) rfl (by kernel_rfl) (by kernel_rfl) (by kernel_rfl) (fun _ _ _ h => h) (Or.inl ⟨by rfl, ?hyc2x1⟩) (by assumption) ?_
          case hyc2x1 => (intro w hSw; (try dsimp only at hSw); (go_simp) <;> (with_reducible rfl))
          try simp only [Act.put, List.getElem_toArray, List.getElem_cons_zero, List.getElem_cons_succ, List.setIfInBounds_toArray, List.set_cons_zero, List.set_cons_succ]
          refine wpAnyH_take (i := 2) (v := ?vc2x2) rfl (by kernel_rfl) (by kernel_rfl) (by kernel_rfl) (fun _ _ _ h => h) (Or.inl ⟨by rfl, ?hyc2x2⟩) (by assumption) ?_
          case hyc2x2 => (intro w hSw; (try dsimp only at hSw); (go_simp) <;> (with_reducible rfl))
          try simp only [Act.put, List.getElem_toArray, List.getElem_cons_zero, List.getElem_cons_succ, List.setIfInBounds_toArray, List.set_cons_zero, List.set_cons_succ]
          refine wpAnyH_take (i := 3) (v := ?vc2x3) rfl (by kernel_rfl) (by kernel_rfl) (by kernel_rfl) (fun _ _ _ h => h) (Or.inl ⟨by rfl, ?hyc2x3⟩) (by assumption) ?_
          case hyc2x3 => (intro w hSw; (try dsimp only at hSw); (go_simp) <;> (with_reducible rfl))
          try simp only [Act.put, List.getElem_toArray, List.getElem_cons_zero, List.getElem_cons_succ, List.setIfInBounds_toArray, List.set_cons_zero, List.set_cons_succ]
          refine wpAnyH_take (i := 4) (v := ?vc2x4) rfl (by kernel_rfl) (by kernel_rfl) (by kernel_rfl) (fun _ _ _ h => h) (Or.inl ⟨by rfl, ?hyc2x4⟩) (by assumption) ?_
          case hyc2x4 => (intro w hSw; (try dsimp only at hSw); (go_simp) <;> (with_reducible rfl))
          try simp only [Act.put, List.getElem_toArray, List.getElem_cons_zero, List.getElem_cons_succ, List.setIfInBounds_toArray, List.set_cons_zero, List.set_cons_succ]
          refine wpAnyH_take (i := 5) (v := ?vc2x5) rfl (by kernel_rfl) (by kernel_rfl) (by kernel_rfl) (fun _ _ _ h => h) (Or.inl ⟨by rfl, ?hyc2x5⟩) (by assumption) ?_
          case hyc2x5 => (intro w hSw; (try dsimp only at hSw); (go_simp) <;> (with_reducible rfl))
          try simp only [Act.put, List.getElem_toArray, List.getElem_cons_zero, List.getElem_cons_succ, List.setIfInBounds_toArray, List.set_cons_zero, List.set_cons_succ]
          refine wpAnyH_take (i := 6) (v := ?vc2x6) rfl (by kernel_rfl) (by kernel_rfl) (by kernel_rfl) (fun _ _ _ h => h) (Or.inl ⟨by rfl, ?hyc2x6⟩) (by assumption) ?_
          case hyc2x6 => (intro w hSw; (try dsimp only at hSw); (go_simp) <;> (with_reducible rfl))
          try simp only [Act.put, List.getElem_toArray, List.getElem_cons_zero, List.getElem_cons_succ, List.setIfInBounds_toArray, List.set_cons_zero, List.set_cons_succ]
          refine wpAnyH_take (i := 7) (v := ?vc2x7) rfl (by kernel_rfl) (by kernel_rfl) (by kernel_rfl) (fun _ _ _ h => h) (Or.inl ⟨by rfl, ?hyc2x7⟩) (by assumption) ?_
          case hyc2x7 => (intro w hSw; (try dsimp only at hSw); (go_simp) <;> (with_reducible rfl))
          try simp only [Act.put, List.getElem_toArray, List.getElem_cons_zero, List.getElem_cons_succ, List.setIfInBounds_toArray, List.set_cons_zero, List.set_cons_succ]
          refine wpAnyH_take (i := 8) (v := ?vc2x8) rfl (by kernel_rfl) (by kernel_rfl) (by kernel_rfl) (fun _ _ _ h => h) (Or.inl ⟨by rfl, ?hyc2x8⟩) (by assumption) ?_
          case hyc2x8 => (intro w hSw; (try dsimp only at hSw); (go_simp) <;> (with_reducible rfl))
          try simp only [Act.put, List.getElem_toArray, List.getElem_cons_zero, List.getElem_cons_succ, List.setIfInBounds_toArray, List.set_cons_zero, List.set_cons_succ]
          refine wpAnyH_take (i := 9) (v := ?vc2x9) rfl (by kernel_rfl) (by kernel_rfl) (by kernel_rfl) (fun _ _ _ h => h) (Or.inl ⟨by rfl, ?hyc2x9⟩) (by assumption) ?_
          case hyc2x9 => (intro w hSw; (try dsimp only at hSw); (go_simp) <;> (with_reducible rfl))
          try simp only [Act.put, List.getElem_toArray, List.getElem_cons_zero, List.getElem_cons_succ, List.setIfInBounds_toArray, List.set_cons_zero, List.set_cons_succ]
          refine wpAnyH_take (i := 10) (v := ?vc2x10) rfl (by kernel_rfl) (by kernel_rfl) (by kernel_rfl) (fun _ _ _ h => h) (Or.inl ⟨by rfl, ?hyc2x10⟩) (by assumption) ?_
          case hyc2x10 => (intro w hSw; (try dsimp only at hSw); (go_simp) <;> (with_reducible rfl))
          try simp only [Act.put, List.getElem_toArray, List.getElem_cons_zero, List.getElem_cons_succ, List.setIfInBounds_toArray, List.set_cons_zero, List.set_cons_succ]
          refine wpAnyH_done (by kernel_rfl) (onlyEnd_mkP ?_) _
          clear hHeld
          rw [HW3.out]
          gi_wp2_with (gi_at_builtin; refine wpListIn_append_rv rfl (.tmp 29) (.tmp 32) _ rfl B 35 _ 2 16 Try.underlying26 info_cut rfl (by decide) _ nx _ rfl OWN4.out _ 1 1 [.int .i64 K, .int .i64 (zp : Int)] rfl RD4.out (by intro u hu; simp only [List.mem_cons, List.not_mem_nil, or_false] at hu; rcases hu with rfl | rfl <;> rfl) (by unfold maxLen; omega) (by omega) H4.out (nx + 1) rfl _ rfl ?_; intro ad1 c1 w5 hown5 hg5 hn5 hb5 hk5; have st5 := APP.out ad1 c1 w5 hown5 hg5 hk5; have cx5 := st5.box.cell; have fx5 := st5.box.frozen; have st6 := PSt.put HBK.out hb hBw hpz st5; have f0 := st6.vz.cell (i := 0) (by simp [wcl]); have f1 := st6.vz.cell (i := 1) (by simp [wcl]); have g4 := st6.c4; have g6 := st6.c6; have g7 := st6.c7; have gx := st6.box.cell; simp only [wcl, List.getD_cons_zero, List.getD_cons_succ] at f0 f1; rw [HKK.out] at f0; have ST6 := Lib.hid st6; clear st5 st6 hown5 hg5 hb5 hk5)
          have st := ST6.out
          have zk3 : ¬ zk = 3 := n3
          have zr : ¬ zk = 4 := n4
          have hys : xs ++ lastPlan kf sh i j (pre ++ [⟨⟨zk, zp, zv⟩, hz⟩]) = xs ++ [(zk, zp)] := by
            rw [lastPlan_snoc]
            unfold restV
            simp [zk3, zr]
          refine ⟨st.kfr, ?_⟩
          unfold PlanEnd
          refine ⟨⟨_, st.box, ?_, rfl, ⟨pre, _, rfl, HPRE.out, HZV.out⟩, ?_⟩, st.grw⟩
          · rw [hys]; exact st.own
          · rcases st.at_ with e | ⟨gg, e, hgt⟩
            · exact .inl e
            · exact .inr ⟨gg, e, by omega⟩
        · have k3 : (K == 3) = true := by have := HKK.out; subst zk3; rw [← this]; rfl
          have ZK3 := Lib.hid zk3
          have hA1 : (zp + 1) ≤ i := hp2
          have hA := Nat.mul_le_mul_right j hA1
          rw [Nat.add_mul, Nat.one_mul] at hA
          have hlA := planV_len kf sh (i + j) zp j (by omega) hp1 hj1
          clear zk3
          gi_wp2
          refine wpIn_region_held (S := fun w' => w'.cell? ⟨pz, 2, none⟩ = some (.int .i64 zv) ∧ w'.cell? ⟨w.heap.size, 0, none⟩ = some (.pointer (some ⟨b, 0, none⟩)) ∧ w'.cell? ⟨w.heap.size + 2, 0, none⟩ = some (.int .i64 (i : Int)) ∧ w'.cell? ⟨w.heap.size + 3, 0, none⟩ = some (.int .i64 (j : Int)) ∧ w'.cell? ⟨b, 2 + i * 65 + j, none⟩ = some (.int .i64 V)) (by kernel_rfl) (by kernel_rfl) HHS.out (fun hHeld => ?_)
          refine wpAnyH_take (i := 0) (v := ?vd3x0) rfl (by kernel_rfl) (by kernel_rfl) (by kernel_rfl) (fun _ _ _ h => h) (Or.inl ⟨by rfl, ?hyd3x0⟩) (by assumption) ?_
          case hyd3x0 => (intro w hSw; (try dsimp only at hSw); (go_simp) <;> (with_reducible rfl))
          try simp only [Act.put, List.getElem_toArray, List.getElem_cons_zero, List.getElem_cons_succ, List.setIfInBounds_toArray, List.set_cons_zero, List.set_cons_succ]
          refine wpAnyH_take (i := 1) (v := ?vd3x1) rfl (by kernel_rfl) (by kernel_rfl) (by kernel_rfl) (fun _ _ _ h => h) (Or.inl ⟨by rfl, ?hyd3x1⟩) (by assumption) ?_
          case hyd3x1 => (intro w hSw; (try dsimp only at hSw); (go_simp) <;> (with_reducible rfl))
          try simp only [Act.put, List.getElem_toArray, List.getElem_cons_zero, List.getElem_cons_succ, List.setIfInBounds_toArray, List.set_cons_zero, List.set_cons_succ]
          refine wpAnyH_take (i := 2) (v := ?vd3x2) rfl (by kernel_rfl) (by kernel_rfl) (by kernel_rfl) (fun _ _ _ h => h) (Or.inl ⟨by rfl, ?hyd3x2⟩) (by assumption) ?_
          case hyd3x2 => (intro w hSw; (try dsimp only at hSw); (go_simp) <;> (with_reducible rfl))
          try simp only [Act.put, List.getElem_toArray, List.getElem_cons_zero, List.getElem_cons_succ, List.setIfInBounds_toArray, List.set_cons_zero, List.set_cons_succ]
          refine wpAnyH_take (i := 3) (v := ?vd3x3) rfl (by kernel_rfl) (by kernel_rfl) (by kernel_rfl) (fun _ _ _ h => h) (Or.inl ⟨by rfl, ?hyd3x3⟩) (by assumption) ?_
          case hyd3x3 => (intro w hSw; (try dsimp only at hSw); (go_simp) <;> (with_reducible rfl))
          try simp only [Act.put, List.getElem_toArray, List.getElem_cons_zero, List.getElem_cons_succ, List.setIfInBounds_toArray, List.set_cons_zero, List.set_cons_succ]
          refine wpAnyH_take (i := 4) (v := ?vd3x4) rfl (by kernel_rfl) (by kernel_rfl) (by kernel_rfl) (fun _ _ _ h => h) (Or.inl ⟨by rfl, ?hyd3x4⟩) (by assumption) ?_
          case hyd3x4 => (intro w hSw; (try dsimp only at hSw); (go_simp) <;> (with_reducible rfl))
          try simp only [Act.put, List.getElem_toArray, List.getElem_cons_zero, List.getElem_cons_succ, List.setIfInBounds_toArray, List.set_cons_zero, List.set_cons_succ]
          refine wpAnyH_take (i := 5) (v := ?vd3x5) rfl (by kernel_rfl) (by kernel_rfl) (by kernel_rfl) (fun _ _ _ h => h) (Or.inl ⟨by rfl, ?hyd3x5⟩) (by assumption) ?_
          case hyd3x5 => (intro w hSw; (try dsimp only at hSw); (go_simp) <;> (with_reducible rfl))
          try simp only [Act.put, List.getElem_toArray, List.getElem_cons_zero, List.getElem_cons_succ, List.setIfInBounds_toArray, List.set_cons_zero, List.set_cons_succ]
          refine wpAnyH_take (i := 6) (v := ?vd3x6) rfl (by kernel_rfl) (by kernel_rfl) (by kernel_rfl) (fun _ _ _ h => h) (Or.inl ⟨by rfl, ?hyd3x6⟩) (by assumption) ?_
          case hyd3x6 => (intro w hSw; (try dsimp only at hSw); (go_simp) <;> (with_reducible rfl))
          try simp only [Act.put, List.getElem_toArray, List.getElem_cons_zero, List.getElem_cons_succ, List.setIfInBounds_toArray, List.set_cons_zero, List.set_cons_succ]
          refine wpAnyH_take (i := 7) (v := ?vd3x7) rfl (by kernel_rfl) (by kernel_rfl) (by kernel_rfl) (fun _ _ _ h => h) (Or.inl ⟨by rfl, ?hyd3x7⟩) (by assumption) ?_
          case hyd3x7 => (intro w hSw; (try dsimp only at hSw); (go_simp) <;> (with_reducible rfl))
          try simp only [Act.put, List.getElem_toArray, List.getElem_cons_zero, List.getElem_cons_succ, List.setIfInBounds_toArray, List.set_cons_zero, List.set_cons_succ]
          refine wpAnyH_take (i := 8) (v := ?vd3x8) rfl (by kernel_rfl) (by kernel_rfl) (by kernel_rfl) (fun _ _ _ h => h) (Or.inl ⟨by rfl, ?hyd3x8⟩) (by assumption) ?_
          case hyd3x8 => (intro w hSw; (try dsimp only at hSw); (go_simp) <;> (with_reducible rfl))
          try simp only [Act.put, List.getElem_toArray, List.getElem_cons_zero, List.getElem_cons_succ, List.setIfInBounds_toArray, List.set_cons_zero, List.set_cons_succ]
          refine wpAnyH_take (i := 9) (v := ?vd3x9) rfl (by kernel_rfl) (by kernel_rfl) (by kernel_rfl) (fun _ _ _ h => h) (Or.inl ⟨by rfl, ?hyd3x9⟩) (by assumption) ?_
          case hyd3x9 => (intro w hSw; (try dsimp only at hSw); (go_simp) <;> (with_reducible rfl))
          try simp only [Act.put, List.getElem_toArray, List.getElem_cons_zero, List.getElem_cons_succ, List.setIfInBounds_toArray, List.set_cons_zero, List.set_cons_succ]
          refine wpAnyH_take (i := 10) (v := ?vd3x10) rfl (by kernel_rfl) (by kernel_rfl) (by kernel_rfl) (fun _ _ _ h => h) (Or.inl ⟨by rfl, ?hyd3x10⟩) (by assumption) ?_
          case hyd3x10 => (intro w hSw; (try dsimp only at hSw); (go_simp) <;> (with_reducible rfl))
          try simp only [Act.put, List.getElem_toArray, List.getElem_cons_zero, List.getElem_cons_succ, List.setIfInBounds_toArray, List.set_cons_zero, List.set_cons_succ]
          refine wpAnyH_done (by kernel_rfl) (onlyEnd_mkP ?_) _
          clear hHeld
          rw [HW3.out]
          gi_wp2_with (gi_at_builtin; refine wpListIn_append_rv rfl (.tmp 29) (.tmp 32) _ rfl B 35 _ 2 16 Try.underlying26 info_cut rfl (by decide) _ nx _ rfl OWN4.out _ 1 1 [.int .i64 K, .int .i64 (zp : Int)] rfl RD4.out (by intro u hu; simp only [List.mem_cons, List.not_mem_nil, or_false] at hu; rcases hu with rfl | rfl <;> rfl) (by unfold maxLen; omega) (by omega) H4.out (nx + 1) rfl _ rfl ?_; intro ad1 c1 w5 hown5 hg5 hn5 hb5 hk5; have st5 := APP.out ad1 c1 w5 hown5 hg5 hk5; have cx5 := st5.box.cell; have fx5 := st5.box.frozen; have st6 := PSt.put HBK.out hb hBw hpz st5; have f0 := st6.vz.cell (i := 0) (by simp [wcl]); have f1 := st6.vz.cell (i := 1) (by simp [wcl]); have g4 := st6.c4; have g6 := st6.c6; have g7 := st6.c7; have gx := st6.box.cell; simp only [wcl, List.getD_cons_zero, List.getD_cons_succ] at f0 f1; rw [HKK.out] at f0; have ST6 := Lib.hid st6; clear st5 st6 hown5 hg5 hb5 hk5)
          refine ⟨trivial, ?_⟩
          have hlen1 : (xs ++ [(zk, zp)]).length + 2 * (zp * j) ≤ 100000 := by
            simp only [List.length_append, List.length_cons, List.length_nil, HNX.out]
            omega
          refine ((callsIn_wide.2 (IH.out zp j (by omega) hp1 (by omega) hj1 hj2 _ (.slice ad1 (nx + 1) c1) (xs ++ [(zk, zp)]) (Nat.le_trans hBw ST6.out.grw.size) ST6.out.saw (by have h := ST6.out.own; exact h) hlen1)).inRound _).mono ?_
          rintro e w7 ⟨u2, rfl, hownq, hgq, hatq⟩
          obtain ⟨n2, hn1⟩ : ∃ q, (xs ++ [(zk, zp)] ++ planV kf sh zp j).length = q := ⟨_, rfl⟩
          obtain ⟨ad2, c2, rfl⟩ := ownsRow_form hownq
          have st7 := PSt.call HBK.out hb hpz ST6.out hgq hownq hatq
          rw [hn1] at st7 ⊢
          have cx7 := st7.box.cell
          have fx7 := st7.box.frozen
          have ST8 := Lib.hid (PSt.put HBK.out hb hBw hpz st7)
          clear st7 hownq hgq hatq ST6
          gi_wp2
          generalize w7.setCell ⟨w.heap.size + 1, 0, none⟩ (.slice ad2 n2 c2) = w8 at *
          have st8 := ST8.out
          have h6 := st8.c6
          have h7 := st8.c7
          have h4 := st8.c4
          have k0 := st8.saw.k0
          obtain ⟨zz, hzz⟩ : ∃ q : Int, (i : Int) - (zp : Int) - (kf : Int) = q := ⟨_, rfl⟩
          have q1 : IntKind.i64.wrap ((i : Int) - (zp : Int)) = (i : Int) - (zp : Int) := IntWalk.i64_in _ (by omega)
          have q2 : IntKind.i64.wrap ((i : Int) - (zp : Int) - (kf : Int)) = zz := by rw [hzz]; exact IntWalk.i64_in _ (by omega)
          have HH9 := Lib.hid (show w8.drew.cell? ⟨w.heap.size + 2, 0, none⟩ = some (.int .i64 (i : Int)) ∧ w8.drew.cell? ⟨w.heap.size, 0, none⟩ = some (.pointer (some ⟨b, 0, none⟩)) ∧ w8.drew.cell? ⟨b, 0, none⟩ = some (.int .i64 (kf : Int)) from ⟨h6, h4, k0⟩)
          have ST9 := Lib.hid st8.drew
          clear st8 h6 h7 h4 k0 ST8
          refine wpIn_region_held (S := fun w' => w'.cell? ⟨w.heap.size + 2, 0, none⟩ = some (.int .i64 (i : Int)) ∧ w'.cell? ⟨w.heap.size, 0, none⟩ = some (.pointer (some ⟨b, 0, none⟩)) ∧ w'.cell? ⟨b, 0, none⟩ = some (.int .i64 (kf : Int))) (by kernel_rfl) (by kernel_rfl) HH9.out (fun hHeld => ?_)
          refine wpAnyH_take (i := 0) (v := ?ve4x0) rfl (by kernel_rfl) (by kernel_rfl) (by kernel_rfl) (fun _ _ _ h => h) (Or.inl ⟨by rfl, ?hye4x0⟩) (by assumption) ?_
          case hye4x0 => (intro w hSw; (try dsimp only at hSw); (go_simp) <;> (with_reducible rfl))
          try simp only [Act.put, List.getElem_toArray, List.getElem_cons_zero, List.getElem_cons_succ, List.setIfInBounds_toArray, List.set_cons_zero, List.set_cons_succ]
          refine wpAnyH_take (i := 1) (v := ?ve4x1) rfl (by kernel_rfl) (by kernel_rfl) (by kernel_rfl) (fun _ _ _ h => h) (Or.inl ⟨by rfl, ?hye4x1⟩) (by assumption) ?_
          case hye4x1 => (intro w hSw; (try dsimp only at hSw); (go_simp) <;> (with_reducible rfl))
          try simp only [Act.put, List.getElem_toArray, List.getElem_cons_zero, List.getElem_cons_succ, List.setIfInBounds_toArray, List.set_cons_zero, List.set_cons_succ]
          refine wpAnyH_take (i := 2) (v := ?ve4x2) rfl (by kernel_rfl) (by kernel_rfl) (by kernel_rfl) (fun _ _ _ h => h) (Or.inl ⟨by rfl, ?hye4x2⟩) (by assumption) ?_
          case hye4x2 => (intro w hSw; (try dsimp only at hSw); (go_simp) <;> (with_reducible rfl))
          try simp only [Act.put, List.getElem_toArray, List.getElem_cons_zero, List.getElem_cons_succ, List.setIfInBounds_toArray, List.set_cons_zero, List.set_cons_succ]
          refine wpAnyH_take (i := 3) (v := ?ve4x3) rfl (by kernel_rfl) (by kernel_rfl) (by kernel_rfl) (fun _ _ _ h => h) (Or.inl ⟨by rfl, ?hye4x3⟩) (by assumption) ?_
          case hye4x3 => (intro w hSw; (try dsimp only at hSw); (go_simp) <;> (with_reducible rfl))
          try simp only [Act.put, List.getElem_toArray, List.getElem_cons_zero, List.getElem_cons_succ, List.setIfInBounds_toArray, List.set_cons_zero, List.set_cons_succ]
          refine wpAnyH_take (i := 4) (v := ?ve4x4) rfl (by kernel_rfl) (by kernel_rfl) (by kernel_rfl) (fun _ _ _ h => h) (Or.inl ⟨by rfl, ?hye4x4⟩) (by assumption) ?_
          case hye4x4 => (intro w hSw; (try dsimp only at hSw); (go_simp) <;> (with_reducible rfl))
          try simp only [Act.put, List.getElem_toArray, List.getElem_cons_zero, List.getElem_cons_succ, List.setIfInBounds_toArray, List.set_cons_zero, List.set_cons_succ]
          refine wpAnyH_take (i := 5) (v := ?ve4x5) rfl (by kernel_rfl) (by kernel_rfl) (by kernel_rfl) (fun _ _ _ h => h) (Or.inl ⟨by rfl, ?hye4x5⟩) (by assumption) ?_
          case hye4x5 => (intro w hSw; (try dsimp only at hSw); (go_simp) <;> (with_reducible rfl))
          try simp only [Act.put, List.getElem_toArray, List.getElem_cons_zero, List.getElem_cons_succ, List.setIfInBounds_toArray, List.set_cons_zero, List.set_cons_succ]
          refine wpAnyH_take (i := 6) (v := ?ve4x6) rfl (by kernel_rfl) (by kernel_rfl) (by kernel_rfl) (fun _ _ _ h => h) (Or.inl ⟨by rfl, ?hye4x6⟩) (by assumption) ?_
          case hye4x6 => (intro w hSw; (try dsimp only at hSw); (go_simp) <;> (with_reducible rfl))
          try simp only [Act.put, List.getElem_toArray, List.getElem_cons_zero, List.getElem_cons_succ, List.setIfInBounds_toArray, List.set_cons_zero, List.set_cons_succ]
          refine wpAnyH_take (i := 7) (v := ?ve4x7) rfl (by kernel_rfl) (by kernel_rfl) (by kernel_rfl) (fun _ _ _ h => h) (Or.inl ⟨by rfl, ?hye4x7⟩) (by assumption) ?_
          case hye4x7 => (intro w hSw; (try dsimp only at hSw); (go_simp) <;> (with_reducible rfl))
          try simp only [Act.put, List.getElem_toArray, List.getElem_cons_zero, List.getElem_cons_succ, List.setIfInBounds_toArray, List.set_cons_zero, List.set_cons_succ]
          refine wpAnyH_take (i := 8) (v := ?ve4x8) rfl (by kernel_rfl) (by kernel_rfl) (by kernel_rfl) (fun _ _ _ h => h) (Or.inl ⟨by rfl, ?hye4x8⟩) (by assumption) ?_
          case hye4x8 => (intro w hSw; (try dsimp only at hSw); (go_simp) <;> (with_reducible rfl))
          try simp only [Act.put, List.getElem_toArray, List.getElem_cons_zero, List.getElem_cons_succ, List.setIfInBounds_toArray, List.set_cons_zero, List.set_cons_succ]
          refine wpAnyH_done (by kernel_rfl) (onlyEnd_mkP ?_) _
          clear hHeld
          generalize w8.drew = w9 at *
          by_cases hr : 1 ≤ i - zp - kf
          · obtain ⟨r, hr0⟩ : ∃ r : Nat, i - zp - kf = r := ⟨_, rfl⟩
            obtain rfl : zz = (r : Int) := by omega
            have hr1 : 1 ≤ r := by omega
            have tr : (1 : Int) ≤ (r : Int) := by omega
            have zr : 1 ≤ i - zp - kf := hr
            have st9 := ST9.out
            have gx := st9.box.cell
            have g4 := st9.c4
            have g6 := st9.c6
            have g7 := st9.c7
            have hsum := Nat.mul_le_mul_right j (show zp + r ≤ i by omega)
            rw [Nat.add_mul] at hsum
            clear st9 HH9
            gi_wp2_with fail
            refine ⟨trivial, ?_⟩
            have hlen2 : (xs ++ [(zk, zp)] ++ planV kf sh zp j).length + 2 * (r * j) ≤ 100000 := by
              simp only [List.length_append, List.length_cons, List.length_nil, HNX.out]
              omega
            refine ((callsIn_wide.2 (IH.out r j (by omega) hr1 (by omega) hj1 hj2 _ (.slice ad2 n2 c2) (xs ++ [(zk, zp)] ++ planV kf sh zp j) (Nat.le_trans hBw ST9.out.grw.size) ST9.out.saw (by have h := ST9.out.own; exact h) hlen2)).inRound _).mono ?_
            rintro e w10 ⟨u3, rfl, hownq, hgq, hatq⟩
            obtain ⟨n3, hn2⟩ : ∃ q, (xs ++ [(zk, zp)] ++ planV kf sh zp j ++ planV kf sh r j).length = q := ⟨_, rfl⟩
            obtain ⟨ad3, c3, rfl⟩ := ownsRow_form hownq
            have st7 := PSt.call HBK.out hb hpz ST9.out hgq hownq hatq
            rw [hn2] at st7 ⊢
            have cx7 := st7.box.cell
            have fx7 := st7.box.frozen
            have ST11 := Lib.hid (PSt.put HBK.out hb hBw hpz st7)
            clear st7 hownq hgq hatq ST9
            gi_wp2
            generalize w10.setCell ⟨w.heap.size + 1, 0, none⟩ (.slice ad3 n3 c3) = w11 at *
            have st := ST11.out
            have hys : xs ++ lastPlan kf sh i j (pre ++ [⟨⟨zk, zp, zv⟩, hz⟩]) = xs ++ [(zk, zp)] ++ planV kf sh zp j ++ planV kf sh r j := by
              rw [lastPlan_snoc]
              unfold restV
              simp [ZK3.out, hr0, hr1]
            refine ⟨st.kfr, ?_⟩
            unfold PlanEnd
            refine ⟨⟨_, st.box, ?_, rfl, ⟨pre, _, rfl, HPRE.out, HZV.out⟩, ?_⟩, st.grw⟩
            · rw [hys]; exact st.own
            · rcases st.at_ with e | ⟨gg, e, hgt⟩
              · exact .inl e
              · exact .inr ⟨gg, e, by omega⟩
          · have tr : ¬ ((1 : Int) ≤ zz) := by omega
            have st := ST9.out
            clear HH9
            gi_wp2
            have hys : xs ++ lastPlan kf sh i j (pre ++ [⟨⟨zk, zp, zv⟩, hz⟩]) = xs ++ [(zk, zp)] ++ planV kf sh zp j := by
              rw [lastPlan_snoc]
              unfold restV
              have hr' : ¬ 1 ≤ i - zp - kf := hr
              simp only [ZK3.out, if_pos, if_neg hr', List.append_nil, List.append_assoc, List.cons_append, List.nil_append] <;> simp
            refine ⟨st.kfr, ?_⟩
            unfold PlanEnd
            refine ⟨⟨_, st.box, ?_, rfl, ⟨pre, _, rfl, HPRE.out, HZV.out⟩, ?_⟩, st.grw⟩
            · rw [hys]; exact st.own
            · rcases st.at_ with e | ⟨gg, e, hgt⟩
              · exact .inl e
              · exact .inr ⟨gg, e, by omega⟩
        · have k3 : (K == 3) = false := by have := HKK.out; subst zk3; rw [← this]; rfl
          have ZK3 := Lib.hid zk3
          have k4 : (K == 4) = true := by have := HKK.out; subst zk3; rw [← this]; rfl
          have hA1 : (zp + 1) ≤ j := hp2
          have hA := Nat.mul_le_mul_left i hA1
          rw [Nat.mul_add, Nat.mul_one] at hA
          have hlA := planV_len kf sh (i + j) i zp (by omega) hi1 hp1
          clear zk3
          gi_wp2
          refine wpIn_region_held (S := fun w' => w'.cell? ⟨pz, 2, none⟩ = some (.int .i64 zv) ∧ w'.cell? ⟨w.heap.size, 0, none⟩ = some (.pointer (some ⟨b, 0, none⟩)) ∧ w'.cell? ⟨w.heap.size + 2, 0, none⟩ = some (.int .i64 (i : Int)) ∧ w'.cell? ⟨w.heap.size + 3, 0, none⟩ = some (.int .i64 (j : Int)) ∧ w'.cell? ⟨b, 2 + i * 65 + j, none⟩ = some (.int .i64 V)) (by kernel_rfl) (by kernel_rfl) HHS.out (fun hHeld => ?_)
          refine wpAnyH_take (i := 0) (v := ?vf5x0) rfl (by kernel_rfl) (by kernel_rfl) (by kernel_rfl) (fun _ _ _ h => h) (Or.inl ⟨by rfl, ?hyf5x0⟩) (by assumption) ?_
          case hyf5x0 => (intro w hSw; (try dsimp only at hSw); (go_simp) <;> (with_reducible rfl))
          try simp only [Act.put, List.getElem_toArray, List.getElem_cons_zero, List.getElem_cons_succ, List.setIfInBounds_toArray, List.set_cons_zero, List.set_cons_succ]
          refine wpAnyH_take (i := 1) (v := ?vf5x1) rfl (by kernel_rfl) (by kernel_rfl) (by kernel_rfl) (fun _ _ _ h => h) (Or.inl ⟨by rfl, ?hyf5x1⟩) (by assumption) ?_
          case hyf5x1 => (intro w hSw; (try dsimp only at hSw); (go_simp) <;> (with_reducible rfl))
          try simp only [Act.put, List.getElem_toArray, List.getElem_cons_zero, List.getElem_cons_succ, List.setIfInBounds_toArray, List.set_cons_zero, List.set_cons_succ]
          refine wpAnyH_take (i := 2) (v := ?vf5x2) rfl (by kernel_rfl) (by kernel_rfl) (by kernel_rfl) (fun _ _ _ h => h) (Or.inl ⟨by rfl, ?hyf5x2⟩) (by assumption) ?_
          case hyf5x2 => (intro w hSw; (try dsimp only at hSw); (go_simp) <;> (with_reducible rfl))
          try simp only [Act.put, List.getElem_toArray, List.getElem_cons_zero, List.getElem_cons_succ, List.setIfInBounds_toArray, List.set_cons_zero, List.set_cons_succ]
          refine wpAnyH_take (i := 3) (v := ?vf5x3) rfl (by kernel_rfl) (by kernel_rfl) (by kernel_rfl) (fun _ _ _ h => h) (Or.inl ⟨by rfl, ?hyf5x3⟩) (by assumption) ?_
          case hyf5x3 => (intro w hSw; (try dsimp only at hSw); (go_simp) <;> (with_reducible rfl))
          try simp only [Act.put, List.getElem_toArray, List.getElem_cons_zero, List.getElem_cons_succ, List.setIfInBounds_toArray, List.set_cons_zero, List.set_cons_succ]
          refine wpAnyH_take (i := 4) (v := ?vf5x4) rfl (by kernel_rfl) (by kernel_rfl) (by kernel_rfl) (fun _ _ _ h => h) (Or.inl ⟨by rfl, ?hyf5x4⟩) (by assumption) ?_
          case hyf5x4 => (intro w hSw; (try dsimp only at hSw); (go_simp) <;> (with_reducible rfl))
          try simp only [Act.put, List.getElem_toArray, List.getElem_cons_zero, List.getElem_cons_succ, List.setIfInBounds_toArray, List.set_cons_zero, List.set_cons_succ]
          refine wpAnyH_take (i := 5) (v := ?vf5x5) rfl (by kernel_rfl) (by kernel_rfl) (by kernel_rfl) (fun _ _ _ h => h) (Or.inl ⟨by rfl, ?hyf5x5⟩) (by assumption) ?_
          case hyf5x5 => (intro w hSw; (try dsimp only at hSw); (go_simp) <;> (with_reducible rfl))
          try simp only [Act.put, List.getElem_toArray, List.getElem_cons_zero, List.getElem_cons_succ, List.setIfInBounds_toArray, List.set_cons_zero, List.set_cons_succ]
          refine wpAnyH_take (i := 6) (v := ?vf5x6) rfl (by kernel_rfl) (by kernel_rfl) (by kernel_rfl) (fun _ _ _ h => h) (Or.inl ⟨by rfl, ?hyf5x6⟩) (by assumption) ?_
          case hyf5x6 => (intro w hSw; (try dsimp only at hSw); (go_simp) <;> (with_reducible rfl))
          try simp only [Act.put, List.getElem_toArray, List.getElem_cons_zero, List.getElem_cons_succ, List.setIfInBounds_toArray, List.set_cons_zero, List.set_cons_succ]
          refine wpAnyH_take (i := 7) (v := ?vf5x7) rfl (by kernel_rfl) (by kernel_rfl) (by kernel_rfl) (fun _ _ _ h => h) (Or.inl ⟨by rfl, ?hyf5x7⟩) (by assumption) ?_
          case hyf5x7 => (intro w hSw; (try dsimp only at hSw); (go_simp) <;> (with_reducible rfl))
          try simp only [Act.put, List.getElem_toArray, List.getElem_cons_zero, List.getElem_cons_succ, List.setIfInBounds_toArray, List.set_cons_zero, List.set_cons_succ]
          refine wpAnyH_take (i := 8) (v := ?vf5x8) rfl (by kernel_rfl) (by kernel_rfl) (by kernel_rfl) (fun _ _ _ h => h) (Or.inl ⟨by rfl, ?hyf5x8⟩) (by assumption) ?_
          case hyf5x8 => (intro w hSw; (try dsimp only at hSw); (go_simp) <;> (with_reducible rfl))
          try simp only [Act.put, List.getElem_toArray, List.getElem_cons_zero, List.getElem_cons_succ, List.setIfInBounds_toArray, List.set_cons_zero, List.set_cons_succ]
          refine wpAnyH_take (i := 9) (v := ?vf5x9) rfl (by kernel_rfl) (by kernel_rfl) (by kernel_rfl) (fun _ _ _ h => h) (Or.inl ⟨by rfl, ?hyf5x9⟩) (by assumption) ?_
          case hyf5x9 => (intro w hSw; (try dsimp only at hSw); (go_simp) <;> (with_reducible rfl))
          try simp only [Act.put, List.getElem_toArray, List.getElem_cons_zero, List.getElem_cons_succ, List.setIfInBounds_toArray, List.set_cons_zero, List.set_cons_succ]
          refine wpAnyH_take (i := 10) (v := ?vf5x10) rfl (by kernel_rfl) (by kernel_rfl) (by kernel_rfl) (fun _ _ _ h => h) (Or.inl ⟨by rfl, ?hyf5x10⟩) (by assumption) ?_
          case hyf5x10 => (intro w hSw; (try dsimp only at hSw); (go_simp) <;> (with_reducible rfl))
          try simp only [Act.put, List.getElem_toArray, List.getElem_cons_zero, List.getElem_cons_succ, List.setIfInBounds_toArray, List.set_cons_zero, List.set_cons_succ]
          refine wpAnyH_done (by kernel_rfl) (onlyEnd_mkP ?_) _
          clear hHeld
          rw [HW3.out]
          gi_wp2_with (gi_at_builtin; refine wpListIn_append_rv rfl (.tmp 29) (.tmp 32) _ rfl B 35 _ 2 16 Try.underlying26 info_cut rfl (by decide) _ nx _ rfl OWN4.out _ 1 1 [.int .i64 K, .int .i64 (zp : Int)] rfl RD4.out (by intro u hu; simp only [List.mem_cons, List.not_mem_nil, or_false] at hu; rcases hu with rfl | rfl <;> rfl) (by unfold maxLen; omega) (by omega) H4.out (nx + 1) rfl _ rfl ?_; intro ad1 c1 w5 hown5 hg5 hn5 hb5 hk5; have st5 := APP.out ad1 c1 w5 hown5 hg5 hk5; have cx5 := st5.box.cell; have fx5 := st5.box.frozen; have st6 := PSt.put HBK.out hb hBw hpz st5; have f0 := st6.vz.cell (i := 0) (by simp [wcl]); have f1 := st6.vz.cell (i := 1) (by simp [wcl]); have g4 := st6.c4; have g6 := st6.c6; have g7 := st6.c7; have gx := st6.box.cell; simp only [wcl, List.getD_cons_zero, List.getD_cons_succ] at f0 f1; rw [HKK.out] at f0; have ST6 := Lib.hid st6; clear st5 st6 hown5 hg5 hb5 hk5)
          refine ⟨trivial, ?_⟩
          have hlen1 : (xs ++ [(zk, zp)]).length + 2 * (i * zp) ≤ 100000 := by
            simp only [List.length_append, List.length_cons, List.length_nil, HNX.out]
            omega
          refine ((callsIn_wide.2 (IH.out i zp (by omega) hi1 hi2 hp1 (by omega) _ (.slice ad1 (nx + 1) c1) (xs ++ [(zk, zp)]) (Nat.le_trans hBw ST6.out.grw.size) ST6.out.saw (by have h := ST6.out.own; exact h) hlen1)).inRound _).mono ?_
          rintro e w7 ⟨u2, rfl, hownq, hgq, hatq⟩
          obtain ⟨n2, hn1⟩ : ∃ q, (xs ++ [(zk, zp)] ++ planV kf sh i zp).length = q := ⟨_, rfl⟩
          obtain ⟨ad2, c2, rfl⟩ := ownsRow_form hownq
          have st7 := PSt.call HBK.out hb hpz ST6.out hgq hownq hatq
          rw [hn1] at st7 ⊢
          have cx7 := st7.box.cell
          have fx7 := st7.box.frozen
          have ST8 := Lib.hid (PSt.put HBK.out hb hBw hpz st7)
          clear st7 hownq hgq hatq ST6
          gi_wp2
          generalize w7.setCell ⟨w.heap.size + 1, 0, none⟩ (.slice ad2 n2 c2) = w8 at *
          have st8 := ST8.out
          have h6 := st8.c6
          have h7 := st8.c7
          have h4 := st8.c4
          have k0 := st8.saw.k0
          obtain ⟨zz, hzz⟩ : ∃ q : Int, (j : Int) - (zp : Int) - (kf : Int) = q := ⟨_, rfl⟩
          have q1 : IntKind.i64.wrap ((j : Int) - (zp : Int)) = (j : Int) - (zp : Int) := IntWalk.i64_in _ (by omega)
          have q2 : IntKind.i64.wrap ((j : Int) - (zp : Int) - (kf : Int)) = zz := by rw [hzz]; exact IntWalk.i64_in _ (by omega)
          have HH9 := Lib.hid (show w8.drew.cell? ⟨w.heap.size + 3, 0, none⟩ = some (.int .i64 (j : Int)) ∧ w8.drew.cell? ⟨w.heap.size, 0, none⟩ = some (.pointer (some ⟨b, 0, none⟩)) ∧ w8.drew.cell? ⟨b, 0, none⟩ = some (.int .i64 (kf : Int)) from ⟨h7, h4, k0⟩)
          have ST9 := Lib.hid st8.drew
          clear st8 h6 h7 h4 k0 ST8
          refine wpIn_region_held (S := fun w' => w'.cell? ⟨w.heap.size + 3, 0, none⟩ = some (.int .i64 (j : Int)) ∧ w'.cell? ⟨w.heap.size, 0, none⟩ = some (.pointer (some ⟨b, 0, none⟩)) ∧ w'.cell? ⟨b, 0, none⟩ = some (.int .i64 (kf : Int))) (by kernel_rfl) (by kernel_rfl) HH9.out (fun hHeld => ?_)
          refine wpAnyH_take (i := 0) (v := ?vg6x0) rfl (by kernel_rfl) (by kernel_rfl) (by kernel_rfl) (fun _ _ _ h => h) (Or.inl ⟨by rfl, ?hyg6x0⟩) (by assumption) ?_
          case hyg6x0 => (intro w hSw; (try dsimp only at hSw); (go_simp) <;> (with_reducible rfl))
          try simp only [Act.put, List.getElem_toArray, List.getElem_cons_zero, List.getElem_cons_succ, List.setIfInBounds_toArray, List.set_cons_zero, List.set_cons_succ]
          refine wpAnyH_take (i := 1) (v := ?vg6x1) rfl (by kernel_rfl) (by kernel_rfl) (by kernel_rfl) (fun _ _ _ h => h) (Or.inl ⟨by rfl, ?hyg6x1⟩) (by assumption) ?_
          case hyg6x1 => (intro w hSw; (try dsimp only at hSw); (go_simp) <;> (with_reducible rfl))
          try simp only [Act.put, List.getElem_toArray, List.getElem_cons_zero, List.getElem_cons_succ, List.setIfInBounds_toArray, List.set_cons_zero, List.set_cons_succ]
          refine wpAnyH_take (i := 2) (v := ?vg6x2) rfl (by kernel_rfl) (by kernel_rfl) (by kernel_rfl) (fun _ _ _ h => h) (Or.inl ⟨by rfl, ?hyg6x2⟩) (by assumption) ?_
          case hyg6x2 => (intro w hSw; (try dsimp only at hSw); (go_simp) <;> (with_reducible rfl))
          try simp only [Act.put, List.getElem_toArray, List.getElem_cons_zero, List.getElem_cons_succ, List.setIfInBounds_toArray, List.set_cons_zero, List.set_cons_succ]
          refine wpAnyH_take (i := 3) (v := ?vg6x3) rfl (by kernel_rfl) (by kernel_rfl) (by kernel_rfl) (fun _ _ _ h => h) (Or.inl ⟨by rfl, ?hyg6x3⟩) (by assumption) ?_
          case hyg6x3 => (intro w hSw; (try dsimp only at hSw); (go_simp) <;> (with_reducible rfl))
          try simp only [Act.put, List.getElem_toArray, List.getElem_cons_zero, List.getElem_cons_succ, List.setIfInBounds_toArray, List.set_cons_zero, List.set_cons_succ]
          refine wpAnyH_take (i := 4) (v := ?vg6x4) rfl (by kernel_rfl) (by kernel_rfl) (by kernel_rfl) (fun _ _ _ h => h) (Or.inl ⟨by rfl, ?hyg6x4⟩) (by assumption) ?_
          case hyg6x4 => (intro w hSw; (try dsimp only at hSw); (go_simp) <;> (with_reducible rfl))
          try simp only [Act.put, List.getElem_toArray, List.getElem_cons_zero, List.getElem_cons_succ, List.setIfInBounds_toArray, List.set_cons_zero, List.set_cons_succ]
          refine wpAnyH_take (i := 5) (v := ?vg6x5) rfl (by kernel_rfl) (by kernel_rfl) (by kernel_rfl) (fun _ _ _ h => h) (Or.inl ⟨by rfl, ?hyg6x5⟩) (by assumption) ?_
          case hyg6x5 => (intro w hSw; (try dsimp only at hSw); (go_simp) <;> (with_reducible rfl))
          try simp only [Act.put, List.getElem_toArray, List.getElem_cons_zero, List.getElem_cons_succ, List.setIfInBounds_toArray, List.set_cons_zero, List.set_cons_succ]
          refine wpAnyH_take (i := 6) (v := ?vg6x6) rfl (by kernel_rfl) (by kernel_rfl) (by kernel_rfl) (fun _ _ _ h => h) (Or.inl ⟨by rfl, ?hyg6x6⟩) (by assumption) ?_
          case hyg6x6 => (intro w hSw; (try dsimp only at hSw); (go_simp) <;> (with_reducible rfl))
          try simp only [Act.put, List.getElem_toArray, List.getElem_cons_zero, List.getElem_cons_succ, List.setIfInBounds_toArray, List.set_cons_zero, List.set_cons_succ]
          refine wpAnyH_take (i := 7) (v := ?vg6x7) rfl (by kernel_rfl) (by kernel_rfl) (by kernel_rfl) (fun _ _ _ h => h) (Or.inl ⟨by rfl, ?hyg6x7⟩) (by assumption) ?_
          case hyg6x7 => (intro w hSw; (try dsimp only at hSw); (go_simp) <;> (with_reducible rfl))
          try simp only [Act.put, List.getElem_toArray, List.getElem_cons_zero, List.getElem_cons_succ, List.setIfInBounds_toArray, List.set_cons_zero, List.set_cons_succ]
          refine wpAnyH_take (i := 8) (v := ?vg6x8) rfl (by kernel_rfl) (by kernel_rfl) (by kernel_rfl) (fun _ _ _ h => h) (Or.inl ⟨by rfl, ?hyg6x8⟩) (by assumption) ?_
          case hyg6x8 => (intro w hSw; (try dsimp only at hSw); (go_simp) <;> (with_reducible rfl))
          try simp only [Act.put, List.getElem_toArray, List.getElem_cons_zero, List.getElem_cons_succ, List.setIfInBounds_toArray, List.set_cons_zero, List.set_cons_succ]
          refine wpAnyH_done (by kernel_rfl) (onlyEnd_mkP ?_) _
          clear hHeld
          generalize w8.drew = w9 at *
          by_cases hr : 1 ≤ j - zp - kf
          · obtain ⟨r, hr0⟩ : ∃ r : Nat, j - zp - kf = r := ⟨_, rfl⟩
            obtain rfl : zz = (r : Int) := by omega
            have hr1 : 1 ≤ r := by omega
            have tr : (1 : Int) ≤ (r : Int) := by omega
            have zr : 1 ≤ j - zp - kf := hr
            have st9 := ST9.out
            have gx := st9.box.cell
            have g4 := st9.c4
            have g6 := st9.c6
            have g7 := st9.c7
            have hsum := Nat.mul_le_mul_left i (show zp + r ≤ j by omega)
            rw [Nat.mul_add] at hsum
            clear st9 HH9
            gi_wp2_with fail
            refine ⟨trivial, ?_⟩
            have hlen2 : (xs ++ [(zk, zp)] ++ planV kf sh i zp).length + 2 * (i * r) ≤ 100000 := by
              simp only [List.length_append, List.length_cons, List.length_nil, HNX.out]
              omega
            refine ((callsIn_wide.2 (IH.out i r (by omega) hi1 hi2 hr1 (by omega) _ (.slice ad2 n2 c2) (xs ++ [(zk, zp)] ++ planV kf sh i zp) (Nat.le_trans hBw ST9.out.grw.size) ST9.out.saw (by have h := ST9.out.own; exact h) hlen2)).inRound _).mono ?_
            rintro e w10 ⟨u3, rfl, hownq, hgq, hatq⟩
            obtain ⟨n3, hn2⟩ : ∃ q, (xs ++ [(zk, zp)] ++ planV kf sh i zp ++ planV kf sh i r).length = q := ⟨_, rfl⟩
            obtain ⟨ad3, c3, rfl⟩ := ownsRow_form hownq
            have st7 := PSt.call HBK.out hb hpz ST9.out hgq hownq hatq
            rw [hn2] at st7 ⊢
            have cx7 := st7.box.cell
            have fx7 := st7.box.frozen
            have ST11 := Lib.hid (PSt.put HBK.out hb hBw hpz st7)
            clear st7 hownq hgq hatq ST9
            gi_wp2
            generalize w10.setCell ⟨w.heap.size + 1, 0, none⟩ (.slice ad3 n3 c3) = w11 at *
            have st := ST11.out
            have hys : xs ++ lastPlan kf sh i j (pre ++ [⟨⟨zk, zp, zv⟩, hz⟩]) = xs ++ [(zk, zp)] ++ planV kf sh i zp ++ planV kf sh i r := by
              rw [lastPlan_snoc]
              unfold restV
              simp [ZK3.out, hr0, hr1]
            refine ⟨st.kfr, ?_⟩
            unfold PlanEnd
            refine ⟨⟨_, st.box, ?_, rfl, ⟨pre, _, rfl, HPRE.out, HZV.out⟩, ?_⟩, st.grw⟩
            · rw [hys]; exact st.own
            · rcases st.at_ with e | ⟨gg, e, hgt⟩
              · exact .inl e
              · exact .inr ⟨gg, e, by omega⟩
          · have tr : ¬ ((1 : Int) ≤ zz) := by omega
            have st := ST9.out
            clear HH9
            gi_wp2
            have hys : xs ++ lastPlan kf sh i j (pre ++ [⟨⟨zk, zp, zv⟩, hz⟩]) = xs ++ [(zk, zp)] ++ planV kf sh i zp := by
              rw [lastPlan_snoc]
              unfold restV
              have hr' : ¬ 1 ≤ j - zp - kf := hr
              simp only [ZK3.out, if_pos, if_neg hr', List.append_nil, List.append_assoc, List.cons_append, List.nil_append] <;> simp
            refine ⟨st.kfr, ?_⟩
            unfold PlanEnd
            refine ⟨⟨_, st.box, ?_, rfl, ⟨pre, _, rfl, HPRE.out, HZV.out⟩, ?_⟩, st.grw⟩
            · rw [hys]; exact st.own
            · rcases st.at_ with e | ⟨gg, e, hgt⟩
              · exact .inl e
              · exact .inr ⟨gg, e, by omega⟩
      · have u0 : (zv != V) = true := by simpa using hzv
        gi_wp2
        refine wpIn_region_held (S := fun w' => w'.cell? ⟨pz, 2, none⟩ = some (.int .i64 zv) ∧ w'.cell? ⟨w.heap.size, 0, none⟩ = some (.pointer (some ⟨b, 0, none⟩)) ∧ w'.cell? ⟨w.heap.size + 2, 0, none⟩ = some (.int .i64 (i : Int)) ∧ w'.cell? ⟨w.heap.size + 3, 0, none⟩ = some (.int .i64 (j : Int)) ∧ w'.cell? ⟨b, 2 + i * 65 + j, none⟩ = some (.int .i64 V)) (by kernel_rfl) (by kernel_rfl) HHS.out (fun hHeld => ?_)
        refine wpAnyH_take (i := 0) (v := ?vb1x0) rfl (by kernel_rfl) (by kernel_rfl) (by kernel_rfl) (fun _ _ _ h => h) (Or.inl ⟨by rfl, ?hyb1x0⟩) (by assumption) ?_
        case hyb1x0 => (intro w hSw; (try dsimp only at hSw); (go_simp) <;> (with_reducible rfl))
        try simp only [Act.put, List.getElem_toArray, List.getElem_cons_zero, List.getElem_cons_succ, List.setIfInBounds_toArray, List.set_cons_zero, List.set_cons_succ]
        refine wpAnyH_take (i := 1) (v := ?vb1x1) rfl (by kernel_rfl) (by kernel_rfl) (by kernel_rfl) (fun _ _ _ h => h) (Or.inl ⟨by rfl, ?hyb1x1⟩) (by assumption) ?_
        case hyb1x1 => (intro w hSw; (try dsimp only at hSw); (go_simp) <;> (with_reducible rfl))
        try simp only [Act.put, List.getElem_toArray, List.getElem_cons_zero, List.getElem_cons_succ, List.setIfInBounds_toArray, List.set_cons_zero, List.set_cons_succ]
        refine wpAnyH_take (i := 2) (v := ?vb1x2) rfl (by kernel_rfl) (by kernel_rfl) (by kernel_rfl) (fun _ _ _ h => h) (Or.inl ⟨by rfl, ?hyb1x2⟩) (by assumption) ?_
        case hyb1x2 => (intro w hSw; (try dsimp only at hSw); (go_simp) <;> (with_reducible rfl))
        try simp only [Act.put, List.getElem_toArray, List.getElem_cons_zero, List.getElem_cons_succ, List.setIfInBounds_toArray, List.set_cons_zero, List.set_cons_succ]
        refine wpAnyH_take (i := 3) (v := ?vb1x3) rfl (by kernel_rfl) (by kernel_rfl) (by kernel_rfl) (fun _ _ _ h => h) (Or.inl ⟨by rfl, ?hyb1x3⟩) (by assumption) ?_
        case hyb1x3 => (intro w hSw; (try dsimp only at hSw); (go_simp) <;> (with_reducible rfl))
        try simp only [Act.put, List.getElem_toArray, List.getElem_cons_zero, List.getElem_cons_succ, List.setIfInBounds_toArray, List.set_cons_zero, List.set_cons_succ]
        refine wpAnyH_take (i := 4) (v := ?vb1x4) rfl (by kernel_rfl) (by kernel_rfl) (by kernel_rfl) (fun _ _ _ h => h) (Or.inl ⟨by rfl, ?hyb1x4⟩) (by assumption) ?_
        case hyb1x4 => (intro w hSw; (try dsimp only at hSw); (go_simp) <;> (with_reducible rfl))
        try simp only [Act.put, List.getElem_toArray, List.getElem_cons_zero, List.getElem_cons_succ, List.setIfInBounds_toArray, List.set_cons_zero, List.set_cons_succ]
        refine wpAnyH_take (i := 5) (v := ?vb1x5) rfl (by kernel_rfl) (by kernel_rfl) (by kernel_rfl) (fun _ _ _ h => h) (Or.inl ⟨by rfl, ?hyb1x5⟩) (by assumption) ?_
        case hyb1x5 => (intro w hSw; (try dsimp only at hSw); (go_simp) <;> (with_reducible rfl))
        try simp only [Act.put, List.getElem_toArray, List.getElem_cons_zero, List.getElem_cons_succ, List.setIfInBounds_toArray, List.set_cons_zero, List.set_cons_succ]
        refine wpAnyH_take (i := 6) (v := ?vb1x6) rfl (by kernel_rfl) (by kernel_rfl) (by kernel_rfl) (fun _ _ _ h => h) (Or.inl ⟨by rfl, ?hyb1x6⟩) (by assumption) ?_
        case hyb1x6 => (intro w hSw; (try dsimp only at hSw); (go_simp) <;> (with_reducible rfl))
        try simp only [Act.put, List.getElem_toArray, List.getElem_cons_zero, List.getElem_cons_succ, List.setIfInBounds_toArray, List.set_cons_zero, List.set_cons_succ]
        refine wpAnyH_take (i := 7) (v := ?vb1x7) rfl (by kernel_rfl) (by kernel_rfl) (by kernel_rfl) (fun _ _ _ h => h) (Or.inl ⟨by rfl, ?hyb1x7⟩) (by assumption) ?_
        case hyb1x7 => (intro w hSw; (try dsimp only at hSw); (go_simp) <;> (with_reducible rfl))
        try simp only [Act.put, List.getElem_toArray, List.getElem_cons_zero, List.getElem_cons_succ, List.setIfInBounds_toArray, List.set_cons_zero, List.set_cons_succ]
        refine wpAnyH_take (i := 8) (v := ?vb1x8) rfl (by kernel_rfl) (by kernel_rfl) (by kernel_rfl) (fun _ _ _ h => h) (Or.inl ⟨by rfl, ?hyb1x8⟩) (by assumption) ?_
        case hyb1x8 => (intro w hSw; (try dsimp only at hSw); (go_simp) <;> (with_reducible rfl))
        try simp only [Act.put, List.getElem_toArray, List.getElem_cons_zero, List.getElem_cons_succ, List.setIfInBounds_toArray, List.set_cons_zero, List.set_cons_succ]
        refine wpAnyH_take (i := 9) (v := ?vb1x9) rfl (by kernel_rfl) (by kernel_rfl) (by kernel_rfl) (fun _ _ _ h => h) (Or.inl ⟨by rfl, ?hyb1x9⟩) (by assumption) ?_
        case hyb1x9 => (intro w hSw; (try dsimp only at hSw); (go_simp) <;> (with_reducible rfl))
        try simp only [Act.put, List.getElem_toArray, List.getElem_cons_zero, List.getElem_cons_succ, List.setIfInBounds_toArray, List.set_cons_zero, List.set_cons_succ]
        refine wpAnyH_take (i := 10) (v := ?vb1x10) rfl (by kernel_rfl) (by kernel_rfl) (by kernel_rfl) (fun _ _ _ h => h) (Or.inl ⟨by rfl, ?hyb1x10⟩) (by assumption) ?_
        case hyb1x10 => (intro w hSw; (try dsimp only at hSw); (go_simp) <;> (with_reducible rfl))
        try simp only [Act.put, List.getElem_toArray, List.getElem_cons_zero, List.getElem_cons_succ, List.setIfInBounds_toArray, List.set_cons_zero, List.set_cons_succ]
        refine wpAnyH_done (by kernel_rfl) (onlyEnd_mkP ?_) _
        clear hHeld
        gi_wp2
        exact ⟨(KeepsOthers.drew W').from _, KeepO.drew _ _, ⟨fun y hy => by rcases List.mem_append.1 hy with hy | hy; exact HPRE.out y hy; rw [List.mem_singleton.1 hy]; exact hzv, HB'.out.drew⟩⟩
    case stop =>
      rintro D co pre W' hD hp hend hK
      unfold PlanEnd at hend
      obtain ⟨⟨u, hbx, hown, rfl, ⟨pre0, z, rfl, h1, h2⟩, hat⟩, hg⟩ := hend
      have hf := find_prefix (L := L) (pre := pre0.map (·.1)) (z := z.1) (V := V) (by rw [List.map_append] at hp; exact hp) (fun y hy => by obtain ⟨q, hq, rfl⟩ := List.mem_map.1 hy; exact h1 q hq) h2
      have hplan := planV_eq (kf := kf) (sh := sh) hi1 hj1 (x := z.1) (by rw [← HLL.out.2, HVV.out]; exact hf) (by rw [← HLL.out.2]; exact z.2)
      rw [lastPlan_snoc, ← hplan] at hown
      obtain ⟨ad3, c3, rfl⟩ := ownsRow_form hown
      have cb := hbx.cell
      have HOWN3 := Lib.hid hown
      have HG := Lib.hid hg
      have HAT := Lib.hid hat
      have HK := Lib.hid hK
      obtain ⟨nz, hnz⟩ : ∃ k, (xs ++ planV kf sh i j).length = k := ⟨_, rfl⟩
      rw [hnz] at cb HOWN3 HAT
      have HNZ := Lib.hid hnz
      have hwD : w.heap.size ≤ D := by omega
      have hwW : w.heap.size ≤ W'.heap.size := hg.size
      clear hf hplan hown hbx hg hat hK h1 h2 hp hnz
      refine wpIn_wide.2 ?_
      dsimp only
      go_wp2
      refine leaves_marks (lo := w.heap.size) (W0 := W') (fun W'' hW'' => ?_) _ W' hwW (Shut.refl _ _) ⟨D, rfl, hwD, HK.out, fun E h => (by cases h), trivial⟩
      refine ⟨_, results_tmp rfl _ _ _, ⟨.slice ad3 nz c3, rfl, ?_, grown_shut HG.out hW'' (Nat.le_refl _), HAT.out⟩⟩
      rw [HNZ.out]
      exact ownsRow_shut HOWN3.out hW''
    case done =>
      rintro D ys W' hD hys ⟨hall, _⟩ hK
      obtain ⟨x, hx, hm, hv⟩ := first_way (kf := kf) (sh := sh) hi1 hj1
      rw [← HLL.out.2, ← hys] at hm
      obtain ⟨q, hq, rfl⟩ := List.mem_map.1 hm
      exact absurd (hv.trans HVV.out) (hall q hq)

end Go.Proofs
