/- tone.Parse, for all strings. -/
import Derived.Test.YtpflnpekcdjheaaGreatDoorTone8
import Derived.Test.YtpflnpekcdjheaaGreatDoorShelfC
import Derived.Test.YtpflnpekcdjheaaGreatDoorParseLaw
import Derived.Test.YtpflnpekcdjheaaGreatDoorRowsV
import Derived.Lib.AtoiErrMem
open Go.RowKit Go.Deep
namespace Go.Proofs
set_option linter.unusedVariables false
set_option linter.unusedSimpArgs false

/-- the library's variables that the parser reads -/
structure Glob (w : World) : Prop where
  len : ∃ m, w.cell? ⟨0, 0, none⟩ = some (.int .i64 m)
  syn : ∃ ev, w.cell? ⟨1, 0, none⟩ = some ev ∧ (ev = .nilIface ∨ ∃ te pe, ev = .iface te pe)
  rng : ∃ ev, w.cell? ⟨2, 0, none⟩ = some ev ∧ (ev = .nilIface ∨ ∃ te pe, ev = .iface te pe)
theorem Glob.mono {w w' : World} (h : Glob w) (hb : Below w.heap.size w w') : Glob w' := by
  obtain ⟨⟨m, h1⟩, ⟨e, h2, h3⟩, ⟨f, h4, h5⟩⟩ := h
  exact ⟨⟨m, (hb.cell (cell_ltV h1)).trans h1⟩, ⟨e, (hb.cell (cell_ltV h2)).trans h2, h3⟩, ⟨f, (hb.cell (cell_ltV h4)).trans h4, h5⟩⟩
theorem Glob.drewN {w : World} (h : Glob w) (n : Nat) : Glob (w.drewN n) := ⟨h.len, h.syn, h.rng⟩

theorem av_i64 (l : List UInt8) : i64 (avL l) := by
  unfold avL i64
  cases h : Lib.atoiAll l with
  | ok v => have := Lib.atoiAll_bounds h; exact ⟨this.1, by have := this.2; omega⟩
  | range =>
    show -9223372036854775808 ≤ Lib.atoiSat l ∧ Lib.atoiSat l ≤ 9223372036854775807
    unfold Lib.atoiSat
    split
    · exact ⟨by decide, by decide⟩
    · exact ⟨by decide, by decide⟩
  | _ =>
    show -9223372036854775808 ≤ (0 : Int) ∧ (0 : Int) ≤ 9223372036854775807
    exact ⟨by decide, by decide⟩
theorem atoi_any (s : ByteArray) (w : World) (hs : s.size ≤ 1000) (hg : Glob w) :
    Calls Tryz.prog 12 #[.string s] w fun e w' => ∃ u, e = .returned (.tuple #[.int .i64 (avL s.data.toList), u]) ∧ Below w.heap.size w w' := by
  obtain ⟨ev, h1, h2⟩ := hg.syn
  obtain ⟨fv, h3, h4⟩ := hg.rng
  unfold avL
  cases h : Lib.atoiAll s.data.toList with
  | ok v =>
    refine (Any.strconv_Atoi_ok Tryz.laysC172 s (by omega) v h w).mono ?_
    rintro e w' ⟨rfl, hw⟩
    refine ⟨_, rfl, ?_⟩
    rcases hw with rfl | ⟨t, rfl⟩
    · exact Below.refl _ _
    · exact Lib.bytesWorld_below w _ t
  | range =>
    refine (Any.strconv_Atoi_range Tryz.laysC172 s (by omega) h fv w h3 h4).mono ?_
    rintro e w' ⟨N, rfl, _, _, hb⟩
    exact ⟨_, rfl, hb⟩
  | _ =>
    refine (Any.strconv_Atoi_syntax Tryz.laysC172 s (by omega) h ev w h1 h2).mono ?_
    rintro e w' ⟨N, rfl, _, _, hb⟩
    exact ⟨_, rfl, hb⟩

theorem cut_len (l sep : List UInt8) : (Lib.cut l sep).1.length ≤ l.length ∧ (Lib.cut l sep).2.1.length ≤ l.length := by
  unfold Lib.cut
  split
  · exact ⟨by rw [List.length_take]; omega, by rw [List.length_drop]; omega⟩
  · exact ⟨Nat.le_refl _, Nat.zero_le _⟩
theorem splitB_le (sep : ByteArray) (save : Nat) : ∀ (k : Nat) (s : ByteArray), ∀ p ∈ Lib.splitB sep save k s, p.size ≤ s.size
  | 0, s, p, hp => by rw [Lib.splitB_zero] at hp; rw [List.mem_singleton.1 hp]; exact Nat.le_refl _
  | k + 1, s, p, hp => by
    unfold Lib.splitB at hp
    split at hp
    · rw [List.mem_singleton.1 hp]; exact Nat.le_refl _
    · rcases List.mem_cons.1 hp with h | h
      · rw [h, ByteArray.size_extract]; omega
      · have h1 := splitB_le sep save k _ p h
        rw [ByteArray.size_extract] at h1
        omega
theorem info_str16 : (Tryz.prog.info? 9).map (fun i => (i.zero, i.size, i.bytes)) = some (some (.string ⟨#[]⟩), 1, 16) := by kernel_rfl
theorem Vals.rdS {w : World} {b : Nat} {v : Value} (h : Vals w b [v]) : RdV w (some ⟨b, 0, none⟩) 1 1 1 [v] := by
  refine ⟨rfl, Nat.le_refl _, by unfold maxLen; omega, .inr ⟨b, 0, rfl, fun j u hj => ?_⟩⟩
  have hj2 := (List.getElem?_eq_some_iff.1 hj).1
  have e := h.cell hj2
  rw [Nat.zero_add, e, getD_of hj]
theorem toList_mk (l : List UInt8) : (⟨l.toArray⟩ : ByteArray).data.toList = l := rfl
theorem size_mk (l : List UInt8) : (⟨l.toArray⟩ : ByteArray).size = l.length := by simp [ByteArray.size]

/-- the pieces that the parser finds -/
def headS (s : ByteArray) : List UInt8 := (Lib.cut s.data.toList [47]).1
def tailS (s : ByteArray) : List UInt8 := (Lib.cut s.data.toList [47]).2.1
def piecesS (s : ByteArray) : List (List UInt8) := Lib.split (headS s) [46]
def progT (s : ByteArray) : T4 := ⟨avL ((piecesS s).getD 0 []), avL ((piecesS s).getD 1 []), avL ((piecesS s).getD 2 []), avL (tailS s)⟩
def progOk (s : ByteArray) : Bool := decide ((piecesS s).length = 3 ∧ s.size ≤ 32) && (validB (progT s).a (progT s).b (progT s).c (progT s).d && (textT (progT s) == s.data.toList))
def parT (s : ByteArray) : T4 × Int := if progOk s then (progT s, 0) else (⟨0, 0, 0, 0⟩, 2)

set_option maxRecDepth 100000 in
set_option maxHeartbeats 2000000 in
theorem parse_calls (s : ByteArray) (w : World) (hs : s.size ≤ 1000) (ht : Tab w) (hg : Glob w) : Calls Tryz.prog 4 #[.string s] w (RetT w (parT s)) := by
  obtain ⟨A, hA⟩ : ∃ A, headS s = A := ⟨_, rfl⟩
  obtain ⟨D, hD⟩ : ∃ D, tailS s = D := ⟨_, rfl⟩
  have hcl := cut_len s.data.toList [47]
  have hA2 : (Lib.cut s.data.toList [47]).1 = A := hA
  have hD2 : (Lib.cut s.data.toList [47]).2.1 = D := hD
  have hss : s.data.toList.length = s.size := rfl
  rw [hA2, hD2, hss] at hcl
  obtain ⟨N, hN⟩ : ∃ N, Lib.countB ⟨A.toArray⟩ ⟨#[46]⟩ = N := ⟨_, rfl⟩
  obtain ⟨PB, hPB⟩ : ∃ PB, Lib.splitB ⟨#[46]⟩ 0 N ⟨A.toArray⟩ = PB := ⟨_, rfl⟩
  have hPl : PB.length = N + 1 := by rw [← hPB]; exact Lib.splitB_all _ (by decide) 0 N _ hN
  have hNs : N ≤ 1000 := by
    have h1 := Lib.countB_le ⟨#[46]⟩ (by decide) _ (⟨A.toArray⟩ : ByteArray) (Nat.le_refl _)
    rw [hN, size_mk] at h1
    omega
  have hPs : ∀ p ∈ PB, p.size ≤ 1000 := by
    intro p hp
    rw [← hPB] at hp
    have h1 := splitB_le _ _ _ _ p hp
    rw [size_mk A] at h1
    omega
  have hPP : PB.map (·.data.toList) = piecesS s := by
    rw [← hPB, Lib.splitB_data]
    unfold piecesS Lib.split
    rw [hA]
    have e : Lib.count A [46] = N := hN
    rw [e]
  have HPP := Lib.hid hPP
  have HPS := Lib.hid hPs
  have HPL := Lib.hid hPl
  have HDD := Lib.hid hD
  have HCUT := Lib.hid (show (Lib.cut s.data.toList [47]).1 = A ∧ (Lib.cut s.data.toList [47]).2.1 = D from ⟨hA2, hD2⟩)
  have HSP := Lib.hid (show (Lib.countB ⟨A.toArray⟩ ⟨#[46]⟩ = N) ∧ Lib.splitB ⟨#[46]⟩ 0 N ⟨A.toArray⟩ = PB from ⟨hN, hPB⟩)
  obtain ⟨m0, hm0⟩ := hg.len
  obtain ⟨sa, hsa⟩ : ∃ sa : ByteArray, ⟨A.toArray⟩ = sa := ⟨_, rfl⟩
  obtain ⟨sd, hsd⟩ : ∃ sd : ByteArray, ⟨D.toArray⟩ = sd := ⟨_, rfl⟩
  have hsal : sa.size ≤ 1000 := by rw [← hsa, size_mk]; omega
  have hsdl : sd.size ≤ 1000 := by rw [← hsd, size_mk]; omega
  have HSD := Lib.hid (show sd.data.toList = tailS s by rw [← hsd, hD])
  clear hA hD hA2 hD2 hcl hN hPB hPl hPs hPP hss
  have vr := Vals.newL w (w.heap.size) [.int .i64 0, .int .i64 0, .int .i64 0, .int .i64 0] 23 rfl
  have bb := below_alloc w (.cells #[.int .i64 0, .int .i64 0, .int .i64 0, .int .i64 0] 23)
  have B := bb
  clear bb
  go_enter Tryz.func4, Tryz.ntmps4
  go_wp2_with fail
  generalize (w.alloc (.cells #[.int .i64 0, .int .i64 0, .int .i64 0, .int .i64 0] 23)) = w0 at *
  replace ht := ht.mono B
  replace hg := hg.mono B
  replace hm0 := (B.cell (cell_ltV hm0)).trans hm0
  refine (Tryz.strings_Cut s ⟨#[47]⟩ m0 w0 (by omega) hm0).mono ?_
  rintro e w1' ⟨rfl, n1, rfl⟩
  rw [show (⟨#[47]⟩ : ByteArray).data.toList = [47] from rfl, HCUT.out.1, HCUT.out.2]
  obtain ⟨fb, hfb⟩ : ∃ b, (Lib.cut s.data.toList [47]).2.2 = b := ⟨_, rfl⟩
  rw [hfb, hsa, hsd]
  rw [hsa] at HSP
  clear hfb hsa hsd HCUT
  replace vr := vr.drewN n1
  replace B := below_drewN B n1
  replace ht := ht.drewN n1
  replace hg := hg.drewN n1
  have hm1 : (w0.drewN n1).cell? ⟨0, 0, none⟩ = some (.int .i64 m0) := hm0
  clear hm0
  generalize w0.drewN n1 = w1 at *
  go_wp2_with fail
  refine (Tryz.strings_Split sa ⟨#[46]⟩ m0 w1 (by omega) hm1 (by decide)).mono ?_
  rintro e w2 ⟨rfl, hw2⟩
  rw [HSP.out.1] at hw2 ⊢
  rw [HSP.out.2] at hw2
  have hown := ownsRow_lit w1 9 1 (N + 1) (PB.map Value.string) _ rfl (by rw [List.length_map, HPL.out, Nat.mul_one]) (by unfold maxLen; omega)
  have b2 := below_alloc w1 (.cells (PB.map Value.string).toArray 9)
  rw [← hw2] at hown b2
  have HOW := Lib.hid hown
  have hsz2 := b2.size
  have hlt2 : w1.heap.size < w2.heap.size := by rw [hw2, World.size_alloc]; omega
  have bz := below_alloc w2 (.cells #[.string sd] 9)
  have hszz := bz.size
  clear hw2 hm1 hown HSP
  go_upto_region 3 with (at_builtin; refine wpList_append_rv rfl (.tmp 20) (.tmp 22) _ rfl w1.heap.size 9 _ 1 16 Tryz.underlying35 info_str16 rfl (by decide) _ (N + 1) _ rfl (ownsRow_mono HOW.out bz) _ 1 1 [.string sd] rfl (Vals.newL w2 w2.heap.size [.string sd] 9 rfl).rdS (by intro u hu; simp only [List.mem_cons, List.not_mem_nil, or_false] at hu; subst hu; rfl) (by unfold maxLen; omega) (by omega) (by omega) (N + 1 + 1) rfl _ rfl ?_; intro adl cl w3 hown3 hg3 hn3 hb3 hk3)
  have b13 := (b2.trans (bz.mono b2.size)).trans hb3
  replace vr := vr.mono b13
  replace B := below_trans B b13
  replace ht := ht.mono b13
  replace hg := hg.mono b13
  have HOW3 := Lib.hid hown3
  clear bz hszz hsz2 hlt2 b2 b13 hown3 hg3 hn3 hb3 hk3 HOW
  have cvr0 := vr.cell (i := 0) (by simp)
  have cvr1 := vr.cell (i := 1) (by simp)
  have cvr2 := vr.cell (i := 2) (by simp)
  have cvr3 := vr.cell (i := 3) (by simp)
  simp only [List.getD_cons_zero, List.getD_cons_succ] at cvr0 cvr1 cvr2 cvr3
  have ltvr := vr.lt
  have fvr0 := vr.frozen 0
  have fvr1 := vr.frozen 1
  have fvr2 := vr.frozen 2
  have fvr3 := vr.frozen 3
  by_cases h4 : N = 2 ∧ s.size ≤ 32
  · obtain ⟨rfl, hs32⟩ := h4
    obtain ⟨p0, p1, p2, hP3⟩ : ∃ p0 p1 p2, PB = [p0, p1, p2] := by
      have h := HPL.out
      rcases PB with _ | ⟨a, _ | ⟨b, _ | ⟨c, _ | ⟨d, t⟩⟩⟩⟩
      · simp at h
      · simp at h
      · simp at h
      · exact ⟨a, b, c, rfl⟩
      · simp at h
    subst hP3
    have z0 := HPS.out p0 (by simp)
    have z1 := HPS.out p1 (by simp)
    have z2 := HPS.out p2 (by simp)
    obtain ⟨x0, hx0⟩ : ∃ x, avL p0.data.toList = x := ⟨_, rfl⟩
    obtain ⟨x1, hx1⟩ : ∃ x, avL p1.data.toList = x := ⟨_, rfl⟩
    obtain ⟨x2, hx2⟩ : ∃ x, avL p2.data.toList = x := ⟨_, rfl⟩
    obtain ⟨x3, hx3⟩ : ∃ x, avL sd.data.toList = x := ⟨_, rfl⟩
    have hpt : progT s = ⟨x0, x1, x2, x3⟩ := by
      unfold progT
      rw [← HPP.out, ← HSD.out, ← hx0, ← hx1, ← hx2, ← hx3]
      rfl
    have hpl : (piecesS s).length = 3 := by rw [← HPP.out]; rfl
    have HPT := Lib.hid (show ∀ o : T4 × Int, (o = if validB x0 x1 x2 x3 && (textT ⟨x0, x1, x2, x3⟩ == s.data.toList) then ((⟨x0, x1, x2, x3⟩ : T4), (0 : Int)) else (⟨0, 0, 0, 0⟩, 2)) → parT s = o from fun o ho => by
      unfold parT progOk
      rw [hpt, decide_eq_true ⟨hpl, hs32⟩, Bool.true_and, ho])
    have i0 : i64 x0 := by rw [← hx0]; exact av_i64 _
    have i1 : i64 x1 := by rw [← hx1]; exact av_i64 _
    have i2 : i64 x2 := by rw [← hx2]; exact av_i64 _
    have i3 : i64 x3 := by rw [← hx3]; exact av_i64 _
    have HI := Lib.hid (show i64 x0 ∧ i64 x1 ∧ i64 x2 ∧ i64 x3 from ⟨i0, i1, i2, i3⟩)
    have HX := Lib.hid (show avL p0.data.toList = x0 ∧ avL p1.data.toList = x1 ∧ avL p2.data.toList = x2 ∧ avL sd.data.toList = x3 from ⟨hx0, hx1, hx2, hx3⟩)
    obtain ⟨⟨_, k2, _, k4⟩, _⟩ := ownsRow_rds HOW3.out
    rcases k4 with k4 | ⟨bl, ol, rfl, hcells⟩
    · omega
    have d0 := Lib.hid (hcells 0 (.string p0) rfl)
    have d1 := Lib.hid (hcells 1 (.string p1) rfl)
    have d2 := Lib.hid (hcells 2 (.string p2) rfl)
    have d3 := Lib.hid (hcells 3 (.string sd) rfl)
    rw [Nat.add_zero] at d0
    have n4 : ¬ ((32 : Int) < (s.size : Int)) := by omega
    clear hcells hpt hpl hx0 hx1 hx2 hx3 i0 i1 i2 i3 HPS HPP HPL HOW3 k2 cvr0 cvr1 cvr2 cvr3 ltvr fvr0 fvr1 fvr2 fvr3
    have hs3 := Lib.hid (show s.size ≤ 1000 from hs)
    clear hs
    go_wp2_with fail
    have v8 := Vals.newL w3 w3.heap.size [.int .i64 0, .int .i64 0, .int .i64 0, .int .i64 0] 37 rfl
    have bel := below_alloc w3 (.cells #[.int .i64 0, .int .i64 0, .int .i64 0, .int .i64 0] 37)
    generalize w3.alloc (.cells #[.int .i64 0, .int .i64 0, .int .i64 0, .int .i64 0] 37) = r0 at *
    obtain ⟨g8, hg8⟩ : ∃ g, w3.heap.size = g := ⟨_, rfl⟩
    rw [hg8] at v8 ⊢
    refine wp_loop_rounds 5 ?_
    rw [rounds_succ]
    have e0 := (bel.cell (cell_ltV d0.out)).trans d0.out
    go_wp2_with fail
    refine (atoi_any p0 _ z0 (hg.mono bel)).mono ?_
    rw [HX.out.1]
    rintro e q0 ⟨u0, rfl, bb⟩
    replace bel := bel.trans (bb.mono bel.size)
    replace v8 := v8.mono bb
    clear bb e0
    have cv80 := v8.cell (i := 0) (by simp)
    have cv81 := v8.cell (i := 1) (by simp)
    have cv82 := v8.cell (i := 2) (by simp)
    have cv83 := v8.cell (i := 3) (by simp)
    simp only [List.getD_cons_zero, List.getD_cons_succ] at cv80 cv81 cv82 cv83
    have ltv8 := v8.lt
    have fv80 := v8.frozen 0
    have fv81 := v8.frozen 1
    have fv82 := v8.frozen 2
    have fv83 := v8.frozen 3
    go_wp2_with fail
    clear cv80 cv81 cv82 cv83 ltv8 fv80 fv81 fv82 fv83
    have v8' := v8.set 0 (.int .i64 x0)
    replace bel := bel.setCell (p := ⟨g8, 0, none⟩) (by show w3.heap.size ≤ g8; omega) (.int .i64 x0)
    simp only [List.set_cons_zero, List.set_cons_succ] at v8'
    generalize q0.setCell ⟨g8, 0, none⟩ (.int .i64 x0) = r1 at *
    clear v8
    have v8 := v8'
    clear v8'
    rw [rounds_succ]
    have e1 := (bel.cell (cell_ltV d1.out)).trans d1.out
    go_wp2_with fail
    refine (atoi_any p1 _ z1 (hg.mono bel)).mono ?_
    rw [HX.out.2.1]
    rintro e q1 ⟨u1, rfl, bb⟩
    replace bel := bel.trans (bb.mono bel.size)
    replace v8 := v8.mono bb
    clear bb e1
    have cv80 := v8.cell (i := 0) (by simp)
    have cv81 := v8.cell (i := 1) (by simp)
    have cv82 := v8.cell (i := 2) (by simp)
    have cv83 := v8.cell (i := 3) (by simp)
    simp only [List.getD_cons_zero, List.getD_cons_succ] at cv80 cv81 cv82 cv83
    have ltv8 := v8.lt
    have fv80 := v8.frozen 0
    have fv81 := v8.frozen 1
    have fv82 := v8.frozen 2
    have fv83 := v8.frozen 3
    go_wp2_with fail
    clear cv80 cv81 cv82 cv83 ltv8 fv80 fv81 fv82 fv83
    have v8' := v8.set 1 (.int .i64 x1)
    replace bel := bel.setCell (p := ⟨g8, 1, none⟩) (by show w3.heap.size ≤ g8; omega) (.int .i64 x1)
    simp only [List.set_cons_zero, List.set_cons_succ] at v8'
    generalize q1.setCell ⟨g8, 1, none⟩ (.int .i64 x1) = r2 at *
    clear v8
    have v8 := v8'
    clear v8'
    rw [rounds_succ]
    have e2 := (bel.cell (cell_ltV d2.out)).trans d2.out
    go_wp2_with fail
    refine (atoi_any p2 _ z2 (hg.mono bel)).mono ?_
    rw [HX.out.2.2.1]
    rintro e q2 ⟨u2, rfl, bb⟩
    replace bel := bel.trans (bb.mono bel.size)
    replace v8 := v8.mono bb
    clear bb e2
    have cv80 := v8.cell (i := 0) (by simp)
    have cv81 := v8.cell (i := 1) (by simp)
    have cv82 := v8.cell (i := 2) (by simp)
    have cv83 := v8.cell (i := 3) (by simp)
    simp only [List.getD_cons_zero, List.getD_cons_succ] at cv80 cv81 cv82 cv83
    have ltv8 := v8.lt
    have fv80 := v8.frozen 0
    have fv81 := v8.frozen 1
    have fv82 := v8.frozen 2
    have fv83 := v8.frozen 3
    go_wp2_with fail
    clear cv80 cv81 cv82 cv83 ltv8 fv80 fv81 fv82 fv83
    have v8' := v8.set 2 (.int .i64 x2)
    replace bel := bel.setCell (p := ⟨g8, 2, none⟩) (by show w3.heap.size ≤ g8; omega) (.int .i64 x2)
    simp only [List.set_cons_zero, List.set_cons_succ] at v8'
    generalize q2.setCell ⟨g8, 2, none⟩ (.int .i64 x2) = r3 at *
    clear v8
    have v8 := v8'
    clear v8'
    rw [rounds_succ]
    have e3 := (bel.cell (cell_ltV d3.out)).trans d3.out
    go_wp2_with fail
    refine (atoi_any sd _ hsdl (hg.mono bel)).mono ?_
    rw [HX.out.2.2.2]
    rintro e q3 ⟨u3, rfl, bb⟩
    replace bel := bel.trans (bb.mono bel.size)
    replace v8 := v8.mono bb
    clear bb e3
    have cv80 := v8.cell (i := 0) (by simp)
    have cv81 := v8.cell (i := 1) (by simp)
    have cv82 := v8.cell (i := 2) (by simp)
    have cv83 := v8.cell (i := 3) (by simp)
    simp only [List.getD_cons_zero, List.getD_cons_succ] at cv80 cv81 cv82 cv83
    have ltv8 := v8.lt
    have fv80 := v8.frozen 0
    have fv81 := v8.frozen 1
    have fv82 := v8.frozen 2
    have fv83 := v8.frozen 3
    go_wp2_with fail
    clear cv80 cv81 cv82 cv83 ltv8 fv80 fv81 fv82 fv83
    have v8' := v8.set 3 (.int .i64 x3)
    replace bel := bel.setCell (p := ⟨g8, 3, none⟩) (by show w3.heap.size ≤ g8; omega) (.int .i64 x3)
    simp only [List.set_cons_zero, List.set_cons_succ] at v8'
    generalize q3.setCell ⟨g8, 3, none⟩ (.int .i64 x3) = r4 at *
    clear v8
    have v8 := v8'
    clear v8'
    rw [rounds_succ]
    have cv80 := v8.cell (i := 0) (by simp)
    have cv81 := v8.cell (i := 1) (by simp)
    have cv82 := v8.cell (i := 2) (by simp)
    have cv83 := v8.cell (i := 3) (by simp)
    simp only [List.getD_cons_zero, List.getD_cons_succ] at cv80 cv81 cv82 cv83
    have ltv8 := v8.lt
    go_wp2_with fail
    clear cv80 cv81 cv82 cv83 ltv8
    have v10 := Vals.newL r4 r4.heap.size [.int .i64 x0, .int .i64 x1, .int .i64 x2, .int .i64 x3] 23 rfl
    have b10 := below_alloc r4 (.cells #[.int .i64 x0, .int .i64 x1, .int .i64 x2, .int .i64 x3] 23)
    have bel5 := bel.trans (b10.mono bel.size)
    have hg10 := bel.size
    clear bel v8 b10 d0 d1 d2 d3
    generalize r4.alloc (.cells #[.int .i64 x0, .int .i64 x1, .int .i64 x2, .int .i64 x3] 23) = r5 at *
    by_cases hv : validB x0 x1 x2 x3 = true
    · refine (text_ok ⟨x0, x1, x2, x3⟩ r5 hv (ht.mono bel5)).mono ?_
      rintro e r6 ⟨rfl, bb⟩
      have bel6 := bel5.trans (bb.mono bel5.size)
      replace v10 := v10.mono bb
      replace vr := vr.mono bel6
      replace B := below_trans B bel6
      obtain ⟨TT, hTT⟩ : ∃ T, textT ⟨x0, x1, x2, x3⟩ = T := ⟨_, rfl⟩
      rw [hTT] at HPT ⊢
      clear bb bel5 bel6 hTT ht hg
      by_cases heq : (TT == s.data.toList) = true
      · have HNO := Lib.hid (HPT.out (⟨x0, x1, x2, x3⟩, 0) (by rw [hv, heq]; rfl))
        have heq3 : (TT == s.toList) = true := by rw [Lib.toList_data]; exact heq
        have cv100 := v10.cell (i := 0) (by simp)
        have cv101 := v10.cell (i := 1) (by simp)
        have cv102 := v10.cell (i := 2) (by simp)
        have cv103 := v10.cell (i := 3) (by simp)
        simp only [List.getD_cons_zero, List.getD_cons_succ] at cv100 cv101 cv102 cv103
        have ltv10 := v10.lt
        have cvr0 := vr.cell (i := 0) (by simp)
        have cvr1 := vr.cell (i := 1) (by simp)
        have cvr2 := vr.cell (i := 2) (by simp)
        have cvr3 := vr.cell (i := 3) (by simp)
        simp only [List.getD_cons_zero, List.getD_cons_succ] at cvr0 cvr1 cvr2 cvr3
        have ltvr := vr.lt
        have fvr0 := vr.frozen 0
        have fvr1 := vr.frozen 1
        have fvr2 := vr.frozen 2
        have fvr3 := vr.frozen 3
        go_wp2
        obtain ⟨te, hgq⟩ := vr.set4 (.int .i64 x0) (.int .i64 x1) (.int .i64 x2) (.int .i64 x3)
        refine bodyPost_ret_by (results_cell_tmp rfl _ _ (w.heap.size) te _ (0, 0) _ rfl hgq Tryz.underlying23 rfl (by kernel_rfl) (.int .i64 0) rfl) rfl ?_
        rw [HNO.out]
        exact ⟨rfl, below_set4 B (by omega) _ _ _ _⟩
      · have heq2 : (TT == s.data.toList) = false := by simpa using heq
        have HNO := Lib.hid (HPT.out (⟨0, 0, 0, 0⟩, 2) (by rw [heq2, Bool.and_false]; rfl))
        have heq3 : (TT == s.toList) = false := by rw [Lib.toList_data]; exact heq2
        clear heq
        have cvr0 := vr.cell (i := 0) (by simp)
        have cvr1 := vr.cell (i := 1) (by simp)
        have cvr2 := vr.cell (i := 2) (by simp)
        have cvr3 := vr.cell (i := 3) (by simp)
        simp only [List.getD_cons_zero, List.getD_cons_succ] at cvr0 cvr1 cvr2 cvr3
        have ltvr := vr.lt
        have fvr0 := vr.frozen 0
        have fvr1 := vr.frozen 1
        have fvr2 := vr.frozen 2
        have fvr3 := vr.frozen 3
        go_wp2
        obtain ⟨te, hgq⟩ := vr.set4 (.int .i64 0) (.int .i64 0) (.int .i64 0) (.int .i64 0)
        refine bodyPost_ret_by (results_cell_tmp rfl _ _ (w.heap.size) te _ (0, 0) _ rfl hgq Tryz.underlying23 rfl (by kernel_rfl) (.int .i64 2) rfl) rfl ?_
        rw [HNO.out]
        exact ⟨rfl, below_set4 B (by omega) _ _ _ _⟩
    · have hv2 : validB x0 x1 x2 x3 = false := by simpa using hv
      refine (text_bad ⟨x0, x1, x2, x3⟩ r5 HI.out hv2).mono ?_
      rintro e r6 ⟨rfl, bb⟩
      have bel6 := bel5.trans (bb.mono bel5.size)
      replace vr := vr.mono bel6
      replace B := below_trans B bel6
      have HNO := Lib.hid (HPT.out (⟨0, 0, 0, 0⟩, 2) (by rw [hv2, Bool.false_and]; rfl))
      clear bb bel5 bel6 hv hv2
      have cvr0 := vr.cell (i := 0) (by simp)
      have cvr1 := vr.cell (i := 1) (by simp)
      have cvr2 := vr.cell (i := 2) (by simp)
      have cvr3 := vr.cell (i := 3) (by simp)
      simp only [List.getD_cons_zero, List.getD_cons_succ] at cvr0 cvr1 cvr2 cvr3
      have ltvr := vr.lt
      have fvr0 := vr.frozen 0
      have fvr1 := vr.frozen 1
      have fvr2 := vr.frozen 2
      have fvr3 := vr.frozen 3
      go_wp2
      obtain ⟨te, hgq⟩ := vr.set4 (.int .i64 0) (.int .i64 0) (.int .i64 0) (.int .i64 0)
      refine bodyPost_ret_by (results_cell_tmp rfl _ _ (w.heap.size) te _ (0, 0) _ rfl hgq Tryz.underlying23 rfl (by kernel_rfl) (.int .i64 2) rfl) rfl ?_
      rw [HNO.out]
      exact ⟨rfl, below_set4 B (by omega) _ _ _ _⟩
  · have hno : parT s = (⟨0, 0, 0, 0⟩, 2) := by
      unfold parT progOk
      have hl : (piecesS s).length = N + 1 := by rw [← HPP.out, List.length_map, HPL.out]
      rw [decide_eq_false (by rw [hl]; omega), Bool.false_and, if_neg (by decide)]
    have HNO := Lib.hid hno
    clear hno
    by_cases hn2 : N = 2
    · subst hn2
      have q1 : (32 : Int) < (s.size : Int) := by omega
      go_wp2
      obtain ⟨te, hgq⟩ := vr.set4 (.int .i64 0) (.int .i64 0) (.int .i64 0) (.int .i64 0)
      refine bodyPost_ret_by (results_cell_tmp rfl _ _ (w.heap.size) te _ (0, 0) _ rfl hgq Tryz.underlying23 rfl (by kernel_rfl) (.int .i64 2) rfl) rfl ?_
      rw [HNO.out]
      exact ⟨rfl, below_set4 B (by omega) _ _ _ _⟩
    · have q1 : (((N : Int) + 1 + 1) == 4) = false := by rw [beq_eq_false_iff_ne]; omega
      have q2 : (((N : Int) + 1 + 1) != 4) = true := by rw [bne, q1]; rfl
      go_wp2
      obtain ⟨te, hgq⟩ := vr.set4 (.int .i64 0) (.int .i64 0) (.int .i64 0) (.int .i64 0)
      refine bodyPost_ret_by (results_cell_tmp rfl _ _ (w.heap.size) te _ (0, 0) _ rfl hgq Tryz.underlying23 rfl (by kernel_rfl) (.int .i64 2) rfl) rfl ?_
      rw [HNO.out]
      exact ⟨rfl, below_set4 B (by omega) _ _ _ _⟩

end Go.Proofs
