/- The reference's Divisions. -/
import Derived.Test.YtnogieknjcbchaaDoorTDivP
import Derived.Test.YtnogieknjcbchaaDoorTRefL
open Go.RowKit Go.Deep
namespace Go.Proofs
set_option linter.unusedVariables false
set_option linter.unusedSimpArgs false

theorem lg_sign {s : T4} {σ p q : Int} (hσ : σ = 1 ∨ σ = -1) : lg s (σ * p) (σ * q) = lg s p q * σ := by
  rcases hσ with rfl | rfl
  · rw [Int.one_mul, Int.one_mul, Int.mul_one]
  · rw [show -1 * p = -p by omega, show -1 * q = -q by omega, lg_neg]; omega

theorem logI_lg (s : T4) (n d : Int) : logI s n d = lg s n d := by
  unfold logI lg
  have e : hidT s n d = (⟨s.a * d, s.b * d, s.c * d⟩ : H3).add ⟨-(n * s.d), 0, 0⟩ := by
    unfold hidT H3.add
    congr 1 <;> dsimp only <;> grind
  rw [e, sg_add]
  unfold ov un
  dsimp only
  congr 2
  · simp [overN]
  · simp [underN]

/-- where the reference's search stands -/
def RSt (s : T4) (m : Int) (full : List (Int × Int)) (p0 q0 p1 q1 σ : Int) (pre : List (Int × Int)) : Prop :=
  DInv s m (octT s + 1) p0 q0 p1 q1 σ ∧ ∃ L, Chain s m p0 q0 p1 q1 σ L ∧ full = pre ++ L

theorem rst_zero {s : T4} {m : Int} {full pre : List (Int × Int)} {p0 q0 p1 q1 σ : Int} (h : RSt s m full p0 q0 p1 q1 σ pre) (h0 : lg s p1 q1 = 0) : full = pre := by
  obtain ⟨_, L, hL, hf⟩ := h
  rw [hf, chain_zero hL h0, List.append_nil]

/-- what a round knows of its numbers -/
theorem rst_round {s : T4} {m : Int} {full pre : List (Int × Int)} {p0 q0 p1 q1 σ : Int} {c : Nat} (hE : octT s ≤ 120) (hm : 1 ≤ m ∧ m ≤ 64) (h : RSt s m full p0 q0 p1 q1 σ pre) (h0 : lg s p1 q1 ≠ 0)
    (hc : onSide s p0 q0 p1 q1 σ c) (hq : c = 0 ∨ q0 + c * q1 ≤ m) :
    ∃ X Y v U V : Int, c ≤ 64 ∧ (σ = 1 ∨ σ = -1) ∧ lg s X Y = v ∧ (v = -1 ∨ v = 0 ∨ v = 1) ∧ wrap64 (p0 + wrap64 (((c : Int) + 1) * p1)) = X ∧ wrap64 (q0 + wrap64 (((c : Int) + 1) * q1)) = Y ∧ wrap64 (p0 + wrap64 ((c : Int) * p1)) = U ∧ wrap64 (q0 + wrap64 ((c : Int) * q1)) = V ∧
      1 ≤ Y ∧ Y ≤ 1200 ∧ X.natAbs ≤ 2000000 ∧
      (v * σ < 0 → (∃ L, full = pre ++ (U, V) :: L) ∧ RSt s m full p1 q1 U V (-σ) (pre ++ [(U, V)])) ∧ (0 ≤ v * σ → m < Y → full = pre) ∧ (0 ≤ v * σ → Y ≤ m → onSide s p0 q0 p1 q1 σ ((c + 1 : Nat) : Int) ∧ q0 + ((c + 1 : Nat) : Int) * q1 ≤ m) := by
  obtain ⟨hD, L, hL, hf⟩ := h
  have hD0 := hD
  obtain ⟨sign, hq0, hq1, hp0, hp1, det, s1, sd⟩ := hD
  have b1 : (octT s + 1) * q0 ≤ 121 * q0 := Int.mul_le_mul_of_nonneg_right (by omega) hq0.1
  have b2 : (octT s + 1) * q1 ≤ 121 * q1 := Int.mul_le_mul_of_nonneg_right (by omega) (by omega)
  have p0b : 0 ≤ p0 ∧ p0 ≤ 121 * 64 := by rcases hp0 with h | h <;> omega
  have p1b : 0 ≤ p1 ∧ p1 ≤ 121 * q1 := by omega
  have cq : 0 ≤ (c : Int) * q1 ∧ (c : Int) * q1 ≤ 64 := by
    refine ⟨Int.mul_nonneg (by omega) (by omega), ?_⟩
    rcases hq with rfl | hq
    · omega
    · omega
  have cc : (c : Int) ≤ (c : Int) * q1 := by
    have := Int.mul_le_mul_of_nonneg_left hq1.1 (show 0 ≤ (c : Int) by omega)
    omega
  have cp : 0 ≤ (c : Int) * p1 := Int.mul_nonneg (by omega) p1b.1
  have cp2 : (c : Int) * p1 ≤ (c : Int) * (121 * q1) := Int.mul_le_mul_of_nonneg_left p1b.2 (by omega)
  have e1 : (c : Int) * (121 * q1) = 121 * ((c : Int) * q1) := by grind
  have e2 : ((c : Int) + 1) * p1 = (c : Int) * p1 + p1 := by grind
  have e3 : ((c : Int) + 1) * q1 = (c : Int) * q1 + q1 := by grind
  have os : onSide s p0 q0 p1 q1 σ ((c : Int) + 1) ↔ ¬ lg s (p0 + ((c : Int) + 1) * p1) (q0 + ((c : Int) + 1) * q1) * σ < 0 := by
    unfold onSide
    rw [lg_sign sign]
    omega
  refine ⟨p0 + ((c : Int) + 1) * p1, q0 + ((c : Int) + 1) * q1, _, p0 + (c : Int) * p1, q0 + (c : Int) * q1, by omega, sign, rfl, lg_cases _ _ _, ?_, ?_, ?_, ?_, by omega, by omega, by omega, fun hv => ?_, fun hv hy => ?_, fun hv hy => ?_⟩
  · rw [wrap64_small (x := ((c : Int) + 1) * p1) (by omega), wrap64_small (by omega)]
  · rw [wrap64_small (x := ((c : Int) + 1) * q1) (by omega), wrap64_small (by omega)]
  · rw [wrap64_small (x := (c : Int) * p1) (by omega), wrap64_small (by omega)]
  · rw [wrap64_small (x := (c : Int) * q1) (by omega), wrap64_small (by omega)]
  · have hn : ¬ onSide s p0 q0 p1 q1 σ ((c : Int) + 1) := fun h => os.1 h hv
    have hqm : q0 + (c : Int) * q1 ≤ m := by
      rcases hq with rfl | hq
      · exact absurd sd hn
      · exact hq
    obtain ⟨l, hl, hc2⟩ := chain_found hD0 hL h0 hc hn hqm
    exact ⟨⟨l, by rw [hf, hl]⟩, (dinv_next hD0 hc hn hqm).2, l, hc2, by rw [hf, hl]; simp⟩
  · rw [hf, chain_full hD0 hL h0 (os.2 (Int.not_lt.2 hv)) hy, List.append_nil]
  · refine ⟨?_, ?_⟩
    · rw [Int.natCast_succ]; exact os.2 (Int.not_lt.2 hv)
    · rw [Int.natCast_succ]; exact hy

theorem rst_first {s : T4} {m : Int} {full L0 : List (Int × Int)} (hd : 1 ≤ s.d) (h01 : 0 < lg s 0 1) (hm : 1 ≤ m) (hf : full = (octT s, 1) :: L0) (hL : Chain s m 1 0 (octT s) 1 (-1) L0) : RSt s m full 1 0 (octT s) 1 (-1) [(octT s, 1)] :=
  ⟨dinv_first hd hm h01, L0, hL, hf⟩

theorem ownF_one (w : World) (x y : Int) : OwnF (w.alloc (.cells #[.int .i64 x, .int .i64 y] 29)) w.heap.size (.slice (some ⟨w.heap.size, 0, none⟩) 1 1) [(x, y)] :=
  ⟨rfl, .inr ⟨w.heap.size, 1, #[.int .i64 x, .int .i64 y], rfl, Nat.le_refl _, by rw [heap_alloc_new], Nat.le_refl _, by decide, rfl, rfl⟩⟩

theorem rst_now {s : T4} {m : Int} {full pre : List (Int × Int)} {p0 q0 p1 q1 σ : Int} (hE : octT s ≤ 120) (hm : 1 ≤ m ∧ m ≤ 64) (h : RSt s m full p0 q0 p1 q1 σ pre) : 1 ≤ q1 ∧ q1 ≤ 1200 ∧ p1.natAbs ≤ 2000000 ∧ onSide s p0 q0 p1 q1 σ 0 ∧ (σ = 1 ∨ σ = -1) := by
  obtain ⟨hD, L, hL, hf⟩ := h
  have hd1 := hD.s1
  obtain ⟨sign, hq0, hq1, hp0, hp1, det, s1, sd⟩ := hD
  have b2 : (octT s + 1) * q1 ≤ 121 * q1 := Int.mul_le_mul_of_nonneg_right (by omega) (by omega)
  exact ⟨hq1.1, by omega, by omega, onSide_down hd1 sd (by omega), sign⟩

set_option maxRecDepth 100000 in
set_option maxHeartbeats 2000000 in
theorem rdivisions_calls (s : T4) (m : Int) (w : World) (full L0 : List (Int × Int)) (hs : validB s.a s.b s.c s.d = true) (hE : s.a.natAbs ≤ 24 ∧ s.b.natAbs ≤ 24 ∧ s.c.natAbs ≤ 24) (hm : 1 ≤ m) (hm2 : m ≤ 64) (h01 : 0 < lg s 0 1) (hf : full = (octT s, 1) :: L0) (hL : Chain s m 1 0 (octT s) 1 (-1) L0) :
    Calls Tryd.prog 19 #[.agg #[.int .i64 s.a, .int .i64 s.b, .int .i64 s.c, .int .i64 s.d], .int .i64 m] w (RetFr w full) := by
  obtain ⟨d1, d2⟩ : 1 ≤ s.d ∧ s.d ≤ 24 := ⟨(validB_parts hs).2.1, (validB_parts hs).2.2.1⟩
  have hO : octT s ≤ 120 := octT_le d1 24 hE.1 hE.2.1 hE.2.2
  have R := fun w : World => rsides_calls s.a s.b s.c w (by omega) (by omega) (by omega)
  have l1 := over_len (a := s.a) (b := s.b) (c := s.c) (by omega) (by omega) (by omega)
  have l2 := under_len (a := s.a) (b := s.b) (c := s.c) (by omega) (by omega) (by omega)
  have BI := fun (v1 v2 : Value) (w : World) (h1 : Num w v1 _) (h2 : Num w v2 _) => rbinary_calls v1 v2 (overN s.a s.b s.c) (underN s.a s.b s.c) s.d w h1 h2 (over_ne s.a s.b s.c) (under_ne s.a s.b s.c) ⟨d1, d2⟩ (by omega) (by omega)
  have eo : flr (overN s.a s.b s.c) (underN s.a s.b s.c) / s.d = octT s := rfl
  rw [eo] at BI
  clear eo
  have LG := fun (n d : Int) (w : World) (hd : 1 ≤ d ∧ d ≤ 1200) (hn : n.natAbs ≤ 2000000) => rlog_calls s n d (lg s n d) w hs hd hn (logI_lg s n d)
  have hst0 := rst_first d1 h01 hm hf hL
  have hlen := full_length d1 h01 ⟨hm, hm2⟩ hf hL
  have HLEN := Lib.hid hlen
  have HST0 := Lib.hid hst0
  have HO := Lib.hid hO
  have HR := Lib.hid R
  have HBI := Lib.hid BI
  have HLG := Lib.hid LG
  clear R BI LG l1 l2 hst0 hlen hO hf hL hs h01 hE
  generalize overN s.a s.b s.c = O at *
  generalize underN s.a s.b s.c = U at *
  obtain ⟨E, hEq⟩ : ∃ E, octT s = E := ⟨_, rfl⟩
  have HEQ := Lib.hid hEq
  rw [hEq] at HST0 HBI
  clear hEq
  have vs := Vals.newL w (w.heap.size) [.int .i64 s.a, .int .i64 s.b, .int .i64 s.c, .int .i64 s.d] 23 rfl
  have bb := below_alloc w (.cells #[.int .i64 s.a, .int .i64 s.b, .int .i64 s.c, .int .i64 s.d] 23)
  have B := bb
  clear bb
  go_enter Tryd.func19, Tryd.ntmps19
  go_wp2_with fail
  generalize (w.alloc (.cells #[.int .i64 s.a, .int .i64 s.b, .int .i64 s.c, .int .i64 s.d] 23)) = w0 at *
  have cvs0 := vs.cell (i := 0) (by simp)
  have cvs1 := vs.cell (i := 1) (by simp)
  have cvs2 := vs.cell (i := 2) (by simp)
  have cvs3 := vs.cell (i := 3) (by simp)
  simp only [List.getD_cons_zero, List.getD_cons_succ] at cvs0 cvs1 cvs2 cvs3
  have ltvs := vs.lt
  try go_wp2_with fail
  clear cvs0 cvs1 cvs2 cvs3 ltvs
  refine (HR.out _).mono ?_
  rintro e w1 ⟨v1, v2, rfl, h5, h6, b1⟩
  replace vs := vs.mono b1
  replace B := below_trans B b1
  clear b1
  have cvs0 := vs.cell (i := 0) (by simp)
  have cvs1 := vs.cell (i := 1) (by simp)
  have cvs2 := vs.cell (i := 2) (by simp)
  have cvs3 := vs.cell (i := 3) (by simp)
  simp only [List.getD_cons_zero, List.getD_cons_succ] at cvs0 cvs1 cvs2 cvs3
  have ltvs := vs.lt
  try go_wp2_with fail
  clear cvs0 cvs1 cvs2 cvs3 ltvs
  refine (HBI.out _ _ _ h5 h6).mono ?_
  rintro e w2 ⟨rfl, b2⟩
  replace vs := vs.mono b2
  replace h5 := h5.mono b2
  replace h6 := h6.mono b2
  replace B := below_trans B b2
  clear b2
  clear h5 h6
  clear HR HBI
  go_upto_region 3 with (fail)
  have sz0 := World.size_alloc w2 (.cells #[.int .i64 1, .int .i64 0] 29)
  have va := Vals.newL w2 w2.heap.size [.int .i64 1, .int .i64 0] 29 rfl
  have bb := below_alloc w2 (.cells #[.int .i64 1, .int .i64 0] 29)
  have vb := Vals.newL (w2.alloc (.cells #[.int .i64 1, .int .i64 0] 29)) (w2.heap.size + 1) [.int .i64 E, .int .i64 1] 29 sz0.symm
  have bc := below_alloc (w2.alloc (.cells #[.int .i64 1, .int .i64 0] 29)) (.cells #[.int .i64 E, .int .i64 1] 29)
  have bd := below_trans bb bc
  have h7 : w.heap.size < w2.heap.size := vs.lt
  replace va := va.mono bc
  replace vs := vs.mono bd
  replace B := below_trans B bd
  have sz1 := World.size_alloc (w2.alloc (.cells #[.int .i64 1, .int .i64 0] 29)) (.cells #[.int .i64 E, .int .i64 1] 29)
  rw [sz0] at sz1
  clear bb bc bd sz0
  generalize (w2.alloc (.cells #[.int .i64 1, .int .i64 0] 29)).alloc (.cells #[.int .i64 E, .int .i64 1] 29) = W0 at *
  generalize w2.heap.size = b7 at *
  have ho := ownF_one W0 E 1
  have bb := below_alloc W0 (.cells #[.int .i64 E, .int .i64 1] 29)
  rw [sz1] at ho
  replace va := va.mono bb
  replace vs := vs.mono bb
  replace B := below_trans B bb
  have cvb0 := vb.cell (i := 0) (by simp)
  have cvb1 := vb.cell (i := 1) (by simp)
  simp only [List.getD_cons_zero, List.getD_cons_succ] at cvb0 cvb1
  go_upto_region 4 with (fail)
  clear cvb0 cvb1
  try rw [sz1]
  replace vb := vb.mono bb
  clear bb
  generalize W0.alloc (.cells #[.int .i64 E, .int .i64 1] 29) = W1 at *
  clear sz1
  go_wp2
  go_loopw [9, 10] (fun ov sv wr => ∃ (p0 q0 p1 q1 σ : Int) (pre : List (Int × Int)) (ad : Option Addr) (cap : Nat), ov = .slice ad pre.length cap ∧ sv = .int .i64 σ ∧ RSt s m full p0 q0 p1 q1 σ pre ∧ Below w.heap.size w wr ∧ Vals wr w.heap.size [.int .i64 s.a, .int .i64 s.b, .int .i64 s.c, .int .i64 s.d] ∧ Vals wr b7 [.int .i64 p0, .int .i64 q0] ∧ Vals wr (b7 + 1) [.int .i64 p1, .int .i64 q1] ∧ OwnF wr (b7 + 1 + 1) (.slice ad pre.length cap) pre)
    (fun ov _ _ => full.length - lenV ov)
  case atStart => exact ⟨1, 0, E, 1, -1, [(E, 1)], _, 1, rfl, rfl, HST0.out, B, vs, va, vb, ho⟩
  case round =>
    clear B vs va vb ho HST0 HEQ
    obtain ⟨p0, q0, p1, q1, σ, pre, ad, cap, rfl, rfl, hst, B, vs, va, vb, ho⟩ := hrel
    obtain ⟨n1, n2, n3, n4, sign⟩ := rst_now HO.out ⟨hm, hm2⟩ hst
    obtain ⟨z, hz⟩ : ∃ z, lg s p1 q1 = z := ⟨_, rfl⟩
    have LZ := HLG.out p1 q1
    rw [hz] at LZ
    have HLZ := Lib.hid (fun w : World => LZ w ⟨n1, n2⟩ n3)
    have HZ := Lib.hid hz
    have HST := Lib.hid hst
    have N4 := Lib.hid n4
    obtain ⟨k, hk⟩ : ∃ k, pre.length = k := ⟨_, rfl⟩
    have HK := Lib.hid hk
    rw [hk] at ho ⊢
    clear hk LZ hz hst n1 n2 n3 n4
    have SIGN := Lib.hid sign
    clear sign
    have cvs0 := vs.cell (i := 0) (by simp)
    have cvs1 := vs.cell (i := 1) (by simp)
    have cvs2 := vs.cell (i := 2) (by simp)
    have cvs3 := vs.cell (i := 3) (by simp)
    simp only [List.getD_cons_zero, List.getD_cons_succ] at cvs0 cvs1 cvs2 cvs3
    have ltvs := vs.lt
    have cvb0 := vb.cell (i := 0) (by simp)
    have cvb1 := vb.cell (i := 1) (by simp)
    simp only [List.getD_cons_zero, List.getD_cons_succ] at cvb0 cvb1
    have ltvb := vb.lt
    go_wp2_with fail
    clear cvs0 cvs1 cvs2 cvs3 ltvs cvb0 cvb1 ltvb
    refine (HLZ.out _).mono ?_
    rintro e w11 ⟨rfl, bb⟩
    replace vs := vs.mono bb
    replace va := va.mono bb
    replace vb := vb.mono bb
    replace ho := ho.mono bb
    replace B := below_trans B bb
    clear bb
    clear HLZ
    by_cases hz0 : z = 0
    · subst hz0
      have hfp := rst_zero HST.out HZ.out
      have HFP := Lib.hid hfp
      clear hfp HZ
      go_wp2
      go_ret
      exact ⟨_, rfl, by rw [HFP.out]; exact ho.inF, B⟩
    have hl0 : lg s p1 q1 ≠ 0 := by rw [HZ.out]; exact hz0
    have HL0 := Lib.hid hl0
    clear hl0 HZ
    go_wp2
    go_loopw [11] (fun cv wi => ∃ c : Nat, cv = .int .i64 (c : Int) ∧ onSide s p0 q0 p1 q1 σ c ∧ (c = 0 ∨ q0 + (c : Int) * q1 ≤ m) ∧ Below w.heap.size w wi ∧ Vals wi w.heap.size [.int .i64 s.a, .int .i64 s.b, .int .i64 s.c, .int .i64 s.d] ∧ Vals wi b7 [.int .i64 p0, .int .i64 q0] ∧ Vals wi (b7 + 1) [.int .i64 p1, .int .i64 q1] ∧ OwnF wi (b7 + 1 + 1) (.slice ad k cap) pre)
      (fun cv _ => 100 - (intOf cv).toNat)
    case atStart => exact ⟨0, rfl, N4.out, .inl rfl, B, vs, va, vb, ho⟩
    case round =>
      clear B vs va vb ho
      obtain ⟨c, rfl, hc, hcq, B, vs, va, vb, ho⟩ := hrel
      obtain ⟨X, Y, v, U, V, c64, sign, hv, v3, wX, wY, wU, wV, hY, hY2, hX, f1, f2, f3⟩ := rst_round HO.out ⟨hm, hm2⟩ HST.out HL0.out hc hcq
      have LX := HLG.out X Y
      rw [hv] at LX
      have HLX := Lib.hid (fun w : World => LX w ⟨hY, hY2⟩ hX)
      have WX := Lib.hid wX
      have WY := Lib.hid wY
      have WU := Lib.hid wU
      have WV := Lib.hid wV
      have F1 := Lib.hid f1
      have F2 := Lib.hid f2
      have F3 := Lib.hid f3
      have vm : wrap64 (v * σ) = v * σ := wrap64_small (by rcases v3 with rfl | rfl | rfl <;> rcases sign with rfl | rfl <;> decide)
      have VM := Lib.hid vm
      clear LX wX wY wU wV f1 f2 f3 hv hc hcq v3 sign vm
      have cva0 := va.cell (i := 0) (by simp)
      have cva1 := va.cell (i := 1) (by simp)
      simp only [List.getD_cons_zero, List.getD_cons_succ] at cva0 cva1
      have ltva := va.lt
      have cvb0 := vb.cell (i := 0) (by simp)
      have cvb1 := vb.cell (i := 1) (by simp)
      simp only [List.getD_cons_zero, List.getD_cons_succ] at cvb0 cvb1
      have ltvb := vb.lt
      go_upto_region 9 with (fail)
      clear cva0 cva1 ltva cvb0 cvb1 ltvb
      rw [WX.out, WY.out]
      clear WX WY
      have l12 : b7 + 1 < wr.heap.size := vb.lt
      have vn := Vals.newL wr wr.heap.size [.int .i64 X, .int .i64 Y] 29 rfl
      have bb := below_alloc wr (.cells #[.int .i64 X, .int .i64 Y] 29)
      replace vs := vs.mono bb
      replace va := va.mono bb
      replace vb := vb.mono bb
      replace ho := ho.mono bb
      replace B := below_trans B bb
      clear bb
      generalize wr.alloc (.cells #[.int .i64 X, .int .i64 Y] 29) = w12 at *
      generalize wr.heap.size = b12 at *
      have cvs0 := vs.cell (i := 0) (by simp)
      have cvs1 := vs.cell (i := 1) (by simp)
      have cvs2 := vs.cell (i := 2) (by simp)
      have cvs3 := vs.cell (i := 3) (by simp)
      simp only [List.getD_cons_zero, List.getD_cons_succ] at cvs0 cvs1 cvs2 cvs3
      have ltvs := vs.lt
      have cvn0 := vn.cell (i := 0) (by simp)
      have cvn1 := vn.cell (i := 1) (by simp)
      simp only [List.getD_cons_zero, List.getD_cons_succ] at cvn0 cvn1
      have ltvn := vn.lt
      go_wp2_with fail
      clear cvs0 cvs1 cvs2 cvs3 ltvs cvn0 cvn1 ltvn
      refine (HLX.out _).mono ?_
      rintro e w13 ⟨rfl, bb⟩
      replace vs := vs.mono bb
      replace va := va.mono bb
      replace vb := vb.mono bb
      replace ho := ho.mono bb
      replace vn := vn.mono bb
      replace B := below_trans B bb
      clear bb
      have cvn0 := vn.cell (i := 0) (by simp)
      have cvn1 := vn.cell (i := 1) (by simp)
      simp only [List.getD_cons_zero, List.getD_cons_succ] at cvn0 cvn1
      have ltvn := vn.lt
      go_upto_region 10 with (fail)
      clear cvn0 cvn1 ltvn
      rw [VM.out]
      clear VM HLX
      by_cases hvs : v * σ < 0
      · skip
        obtain ⟨⟨Lr, hfr⟩, hst2⟩ := F1.out hvs
        have hlt : k < full.length := by rw [hfr, ← HK.out]; simp
        have HLT := Lib.hid hlt
        have HST2 := Lib.hid hst2
        clear hfr hlt hst2 F1 F2 F3
        have tt : decide (v * σ < 0) = true := decide_eq_true hvs
        by_cases hYm : m < Y
        · skip
          have cvn0 := vn.cell (i := 0) (by simp)
          have cvn1 := vn.cell (i := 1) (by simp)
          simp only [List.getD_cons_zero, List.getD_cons_succ] at cvn0 cvn1
          have ltvn := vn.lt
          go_upto_region 14 with (fail)
          clear cvn0 cvn1 ltvn
          clear vn
          have ne1 : b7 ≠ b7 + 1 := by omega
          have ne2 : b7 + 1 ≠ b7 := by omega
          have cva0 := va.cell (i := 0) (by simp)
          have cva1 := va.cell (i := 1) (by simp)
          simp only [List.getD_cons_zero, List.getD_cons_succ] at cva0 cva1
          have ltva := va.lt
          have cvb0 := vb.cell (i := 0) (by simp)
          have cvb1 := vb.cell (i := 1) (by simp)
          simp only [List.getD_cons_zero, List.getD_cons_succ] at cvb0 cvb1
          have ltvb := vb.lt
          have fva0 := va.frozen 0
          have fva1 := va.frozen 1
          have fvb0 := vb.frozen 0
          have fvb1 := vb.frozen 1
          go_region
          clear cva0 cva1 ltva cvb0 cvb1 ltvb fva0 fva1 fvb0 fvb1
          rw [WU.out, WV.out]
          have nvs := ((vs.off2 (g := b7) (by omega) (.int .i64 p1) (.int .i64 q1)).off2 (g := b7 + 1) (by omega) (.int .i64 U) (.int .i64 V)).drew
          have nva := ((va.put2 (.int .i64 p1) (.int .i64 q1)).off2 (g := b7 + 1) (by omega) (.int .i64 U) (.int .i64 V)).drew
          have nvb := ((vb.off2 (g := b7) (by omega) (.int .i64 p1) (.int .i64 q1)).put2 (.int .i64 U) (.int .i64 V)).drew
          have nho := ((ho.off2 (g := b7) (by omega) (.int .i64 p1) (.int .i64 q1)).off2 (g := b7 + 1) (by omega) (.int .i64 U) (.int .i64 V)).drew
          have nB := (below_put2 (b := b7 + 1) (below_put2 (b := b7) B (by omega) (.int .i64 p1) (.int .i64 q1)) (by omega) (.int .i64 U) (.int .i64 V)).drew
          clear vs va vb ho B WU WV
          generalize World.drew _ = W9 at *
          have vq := Vals.newL W9 W9.heap.size [.int .i64 U, .int .i64 V] 29 rfl
          have bq := below_alloc W9 (.cells #[.int .i64 U, .int .i64 V] 29)
          have ho5 := nho.mono bq
          have hB5 : b7 + 1 + 1 ≤ (W9.alloc (.cells #[.int .i64 U, .int .i64 V] 29)).heap.size := (nvb.mono bq).lt
          have hl5 : pre.length ≤ 1000000 := by have := HLEN.out; have := HLT.out; rw [HK.out]; omega
          have HL5 := Lib.hid hl5
          have ks : wrap64 (-σ) = -σ := wrap64_small (by rcases SIGN.out with h | h <;> omega)
          have KS := Lib.hid ks
          clear hl5 ks
          have cnvb0 := nvb.cell (i := 0) (by simp)
          have cnvb1 := nvb.cell (i := 1) (by simp)
          simp only [List.getD_cons_zero, List.getD_cons_succ] at cnvb0 cnvb1
          have ltnvb := nvb.lt
          go_upto_region 6 with (at_builtin; refine wpList_append_frac rfl (.tmp 96) (.tmp 98) 44 rfl Tryd.underlying44 info_frac (b7 + 1 + 1) (.slice ad k cap) pre rfl ho5 hB5 _ 1 U V rfl vq HL5.out ?_; intro ad2 c2 w25 ho6 bb6 hoth)
          clear cnvb0 cnvb1 ltnvb
          replace nvs := (nvs.mono bq).low bb6 (by omega)
          replace nva := (nva.mono bq).low bb6 (by omega)
          replace nvb := (nvb.mono bq).low bb6 (by omega)
          replace nB := (below_trans nB bq).trans (bb6.mono (by omega))
          clear ho5 hB5 bb6 hoth vq bq nho
          go_wp2
          rw [KS.out]
          go_roundw
          case rel => exact ⟨p1, q1, U, V, -σ, pre ++ [(U, V)], ad2, c2, by rw [List.length_append]; rfl, rfl, HST2.out, nB, nvs, nva, nvb, by rw [List.length_append]; exact ho6⟩
          case measure =>
            have := HLT.out
            have hkk := HK.out
            simp only [lenV]
            omega
        · skip
          have cvn0 := vn.cell (i := 0) (by simp)
          have cvn1 := vn.cell (i := 1) (by simp)
          simp only [List.getD_cons_zero, List.getD_cons_succ] at cvn0 cvn1
          have ltvn := vn.lt
          go_upto_region 14 with (fail)
          clear cvn0 cvn1 ltvn
          clear vn
          have ne1 : b7 ≠ b7 + 1 := by omega
          have ne2 : b7 + 1 ≠ b7 := by omega
          have cva0 := va.cell (i := 0) (by simp)
          have cva1 := va.cell (i := 1) (by simp)
          simp only [List.getD_cons_zero, List.getD_cons_succ] at cva0 cva1
          have ltva := va.lt
          have cvb0 := vb.cell (i := 0) (by simp)
          have cvb1 := vb.cell (i := 1) (by simp)
          simp only [List.getD_cons_zero, List.getD_cons_succ] at cvb0 cvb1
          have ltvb := vb.lt
          have fva0 := va.frozen 0
          have fva1 := va.frozen 1
          have fvb0 := vb.frozen 0
          have fvb1 := vb.frozen 1
          go_region
          clear cva0 cva1 ltva cvb0 cvb1 ltvb fva0 fva1 fvb0 fvb1
          rw [WU.out, WV.out]
          have nvs := ((vs.off2 (g := b7) (by omega) (.int .i64 p1) (.int .i64 q1)).off2 (g := b7 + 1) (by omega) (.int .i64 U) (.int .i64 V)).drew
          have nva := ((va.put2 (.int .i64 p1) (.int .i64 q1)).off2 (g := b7 + 1) (by omega) (.int .i64 U) (.int .i64 V)).drew
          have nvb := ((vb.off2 (g := b7) (by omega) (.int .i64 p1) (.int .i64 q1)).put2 (.int .i64 U) (.int .i64 V)).drew
          have nho := ((ho.off2 (g := b7) (by omega) (.int .i64 p1) (.int .i64 q1)).off2 (g := b7 + 1) (by omega) (.int .i64 U) (.int .i64 V)).drew
          have nB := (below_put2 (b := b7 + 1) (below_put2 (b := b7) B (by omega) (.int .i64 p1) (.int .i64 q1)) (by omega) (.int .i64 U) (.int .i64 V)).drew
          clear vs va vb ho B WU WV
          generalize World.drew _ = W9 at *
          have vq := Vals.newL W9 W9.heap.size [.int .i64 U, .int .i64 V] 29 rfl
          have bq := below_alloc W9 (.cells #[.int .i64 U, .int .i64 V] 29)
          have ho5 := nho.mono bq
          have hB5 : b7 + 1 + 1 ≤ (W9.alloc (.cells #[.int .i64 U, .int .i64 V] 29)).heap.size := (nvb.mono bq).lt
          have hl5 : pre.length ≤ 1000000 := by have := HLEN.out; have := HLT.out; rw [HK.out]; omega
          have HL5 := Lib.hid hl5
          have ks : wrap64 (-σ) = -σ := wrap64_small (by rcases SIGN.out with h | h <;> omega)
          have KS := Lib.hid ks
          clear hl5 ks
          have cnvb0 := nvb.cell (i := 0) (by simp)
          have cnvb1 := nvb.cell (i := 1) (by simp)
          simp only [List.getD_cons_zero, List.getD_cons_succ] at cnvb0 cnvb1
          have ltnvb := nvb.lt
          go_upto_region 6 with (at_builtin; refine wpList_append_frac rfl (.tmp 96) (.tmp 98) 44 rfl Tryd.underlying44 info_frac (b7 + 1 + 1) (.slice ad k cap) pre rfl ho5 hB5 _ 1 U V rfl vq HL5.out ?_; intro ad2 c2 w25 ho6 bb6 hoth)
          clear cnvb0 cnvb1 ltnvb
          replace nvs := (nvs.mono bq).low bb6 (by omega)
          replace nva := (nva.mono bq).low bb6 (by omega)
          replace nvb := (nvb.mono bq).low bb6 (by omega)
          replace nB := (below_trans nB bq).trans (bb6.mono (by omega))
          clear ho5 hB5 bb6 hoth vq bq nho
          go_wp2
          rw [KS.out]
          go_roundw
          case rel => exact ⟨p1, q1, U, V, -σ, pre ++ [(U, V)], ad2, c2, by rw [List.length_append]; rfl, rfl, HST2.out, nB, nvs, nva, nvb, by rw [List.length_append]; exact ho6⟩
          case measure =>
            have := HLT.out
            have hkk := HK.out
            simp only [lenV]
            omega
      · skip
        have tt : decide (v * σ < 0) = false := decide_eq_false hvs
        by_cases hYm : m < Y
        · skip
          have hfp := F2.out (Int.not_lt.1 hvs) hYm
          have HFP := Lib.hid hfp
          clear hfp F1 F2 F3
          have cvn0 := vn.cell (i := 0) (by simp)
          have cvn1 := vn.cell (i := 1) (by simp)
          simp only [List.getD_cons_zero, List.getD_cons_succ] at cvn0 cvn1
          have ltvn := vn.lt
          go_wp2
          go_ret
          clear cvn0 cvn1 ltvn
          exact ⟨_, rfl, by rw [HFP.out]; exact ho.inF, B⟩
        · skip
          obtain ⟨g1, g2⟩ := F3.out (Int.not_lt.1 hvs) (by omega)
          have G1 := Lib.hid g1
          have G2 := Lib.hid g2
          clear g1 g2 F1 F2 F3
          have cvn0 := vn.cell (i := 0) (by simp)
          have cvn1 := vn.cell (i := 1) (by simp)
          simp only [List.getD_cons_zero, List.getD_cons_succ] at cvn0 cvn1
          have ltvn := vn.lt
          go_wp2
          clear cvn0 cvn1 ltvn
          go_roundw
          case rel => first | exact ⟨c + 1, by go_num, G1.out, .inr G2.out, B, vs, va, vb, ho⟩ | exact ⟨c + 1, by omega, G1.out, .inr G2.out⟩
          case measure => simp [intOf]; omega

end Go.Proofs
