/- temper: Tones of steps that close. -/
import Derived.Test.YthkeekoljediiaaCircJ
open Go.RowKit Go.Deep
namespace Go.Proofs
set_option linter.unusedVariables false
set_option linter.unusedSimpArgs false

/-- the exponents of the n-th tone -/
def expA (e : Nat → Nat) (T : Int) : Nat → Int
  | 0 => 0
  | n + 1 => expA e T n + (19 * (e n : Int) - T)
def expB (e : Nat → Nat) (T : Int) : Nat → Int
  | 0 => 0
  | n + 1 => expB e T n + (T - 12 * (e n : Int))
theorem expA_sum (e : Nat → Nat) (T : Int) (n : Nat) : expA e T n = 19 * (sumN e n : Int) - (n : Int) * T := by
  induction n with
  | zero => simp [expA, sumN]
  | succ n ih => unfold expA sumN; rw [ih, Int.natCast_add, Int.natCast_add, Int.add_mul]; omega
theorem expB_sum (e : Nat → Nat) (T : Int) (n : Nat) : expB e T n = (n : Int) * T - 12 * (sumN e n : Int) := by
  induction n with
  | zero => simp [expB, sumN]
  | succ n ih => unfold expB sumN; rw [ih, Int.natCast_add, Int.natCast_add, Int.add_mul]; omega
theorem getD_snoc {α : Type} (L : List α) (x d : α) {n : Nat} (h : L.length = n) : (L ++ [x]).getD n d = x := by
  subst h
  simp [List.getD]

set_option maxRecDepth 100000 in
set_option maxHeartbeats 1000000 in
theorem gtones_calls (T g cc : Nat) (e : Nat → Nat) (w : World) (hT : 8 ≤ T ∧ T ≤ 23) (he : ∀ i, i < 12 → e i ≤ 3) (hcc : 12 ≤ cc) (hg : g < w.heap.size) (hc : ∀ i, i < 12 → w.cell? ⟨g, i, none⟩ = some (.int .i64 (e i : Int))) : Calls Try.prog 9 #[.slice (some ⟨g, 0, none⟩) 12 cc, .int .i64 (T : Int)] w fun e' w' =>
    ((∃ ad c L, e' = .returned (.tuple #[.slice ad 12 c, .int .i64 0]) ∧ w'.ownsRow (w.heap.size + 1) 37 4 (.slice ad 12 c) 12 (flat tcl L) ∧ L.length = 12 ∧ okT (L.getD 11 ⟨0, 0, 0, 0⟩) ∧ octT (L.getD 11 ⟨0, 0, 0, 0⟩) = 0 ∧ Exps (L.getD 11 ⟨0, 0, 0, 0⟩) (expA e T 11) (expB e T 11) T) ∨
      e' = .returned (.tuple #[.slice none 0 0, .int .i64 5])) ∧ Below w.heap.size w w' := by
  have HR := Lib.hid (gright_calls T (.slice (some ⟨g, 0, none⟩) 12 cc) e w (by omega) he ⟨g, cc, rfl, hg, hc⟩)
  have h11c : (11 : Int) ≤ (cc : Int) := by omega
  have h11n : 11 ≤ cc := by omega
  have HC := Lib.hid (show ∀ i, i < 12 → w.cell? ⟨g, i, none⟩ = some (.int .i64 (e i : Int)) from hc)
  have HE := Lib.hid he
  clear hc he
  go_enter Try.func9, Try.ntmps9
  go_wp2_with fail
  refine HR.out.mono ?_
  rintro e' w' ⟨rfl, rfl⟩
  have b1 := below_alloc w (.cells #[.int .i64 0, .int .i64 0, .int .i64 0, .int .i64 1] 37)
  have v6 := Vals.newL w w.heap.size [.int .i64 0, .int .i64 0, .int .i64 0, .int .i64 1] 37 rfl
  have hown := ownsRow_lit (w.alloc (.cells #[.int .i64 0, .int .i64 0, .int .i64 0, .int .i64 1] 37)) 37 4 1 [.int .i64 0, .int .i64 0, .int .i64 0, .int .i64 1] _ rfl rfl (by unfold maxLen; omega)
  have b2 := below_alloc (w.alloc (.cells #[.int .i64 0, .int .i64 0, .int .i64 0, .int .i64 1] 37)) (.cells #[.int .i64 0, .int .i64 0, .int .i64 0, .int .i64 1] 37)
  rw [World.size_alloc] at hown
  replace v6 := v6.mono b2
  have B := below_trans b1 b2
  go_wp2
  go_loopw [7, 25] (fun ov iv wr => ∃ (i : Nat) (ad : Option Addr) (c : Nat) (x : T4) (L : List T4), i ≤ 11 ∧ iv = .int .i64 (i : Int) ∧ ov = .slice ad (i + 1) c ∧ wr.ownsRow (w.heap.size + 1) 37 4 (.slice ad (i + 1) c) (i + 1) (flat tcl L) ∧
      L.length = i + 1 ∧ L.getD i ⟨0, 0, 0, 0⟩ = x ∧ okT x ∧ (1 ≤ i → octT x = 0) ∧ Exps x (expA e T i) (expB e T i) T ∧ Vals wr w.heap.size (tcl x) ∧ Below w.heap.size w wr) (fun _ iv _ => (11 - intOf iv).toNat)
  case atStart => exact ⟨0, _, _, ⟨0, 0, 0, 1⟩, [⟨0, 0, 0, 1⟩], by omega, rfl, rfl, hown, rfl, rfl, unit_ok, fun h => by omega, unit_exps T, v6, B⟩
  case round =>
    clear hown v6 B b1 b2 HR
    obtain ⟨i, ad, c, x, L, hi, rfl, rfl, hown, hLl, hLx, hox, hoct, hex, v6', B⟩ := hrel
    by_cases h11 : i < 11
    · have t1 : (i : Int) < 11 := by omega
      have ce := (B.cell (p := ⟨g, i, none⟩) hg).trans (HC.out i (by omega))
      have hs3 := HE.out i (by omega)
      obtain ⟨_, _, _, hof, hef⟩ := fif_facts (s := (e i : Int)) (T := (T : Int)) (by omega) (by omega) (by omega) (by omega)
      have ST := fun w : World => gstepped_calls x (e i : Int) (T : Int) w hox (by omega) (by omega) (by omega) (by omega)
      have ME := fun h => mul_exps (T := (T : Int)) hox hof hex hef h
      have CD : (mulT x (fifT (e i : Int) (T : Int))).2 = 0 ∨ (mulT x (fifT (e i : Int) (T : Int))).2 = 5 := redT_code _ _ _ _
      have EA : expA e T (i + 1) = expA e T i + (19 * (e i : Int) - (T : Int)) := rfl
      have EB : expB e T (i + 1) = expB e T i + ((T : Int) - 12 * (e i : Int)) := rfl
      rw [← EA, ← EB] at ME
      obtain ⟨s, hs⟩ : ∃ s, e i = s := ⟨_, rfl⟩
      rw [hs] at ST ME CD ce hs3
      obtain ⟨⟨y, er⟩, hy⟩ : ∃ t, mulT x (fifT (s : Int) (T : Int)) = t := ⟨_, rfl⟩
      rw [hy] at ST ME CD
      dsimp only at ME CD
      obtain ⟨xa, xb, xc, xd⟩ := x
      have v6 : Vals wr w.heap.size [.int .i64 xa, .int .i64 xb, .int .i64 xc, .int .i64 xd] := v6'
      have HOW := Lib.hid hown
      have HL := Lib.hid hLl
      have HME := Lib.hid ME
      have HBB := Lib.hid B
      clear hown hLl hLx hoct hex hof hef ME EA EB hs hox hy v6'
      obtain ⟨ya, yb, yc, yd⟩ := y
      dsimp only at ST
      have HST := Lib.hid ST
      clear ST
      have cv60 := v6.cell (i := 0) (by simp)
      have cv61 := v6.cell (i := 1) (by simp)
      have cv62 := v6.cell (i := 2) (by simp)
      have cv63 := v6.cell (i := 3) (by simp)
      simp only [List.getD_cons_zero, List.getD_cons_succ] at cv60 cv61 cv62 cv63
      have ltv6 := v6.lt
      go_wp2_with fail
      clear cv60 cv61 cv62 cv63 ltv6 ce
      refine (HST.out _).mono ?_
      rintro e' w3 ⟨rfl, b3⟩
      replace v6 := v6.mono b3
      have HO3 := Lib.hid (ownsRow_mono HOW.out b3)
      have B3 := Lib.hid (below_trans HBB.out b3)
      clear b3 HOW HBB B
      dsimp only
      rcases CD with rfl | rfl
      case inr =>
        have b4 := below_alloc w3 (.cells #[.int .i64 ya, .int .i64 yb, .int .i64 yc, .int .i64 yd] 37)
        have B4 := Lib.hid (below_trans B3.out b4)
        clear b4
        go_wp2
        go_ret2
        exact ⟨.inr rfl, B4.out⟩
      obtain ⟨hoy, hey⟩ := HME.out rfl
      have b4 := below_alloc w3 (.cells #[.int .i64 ya, .int .i64 yb, .int .i64 yc, .int .i64 yd] 37)
      replace v6 := v6.mono b4
      have HO4 := Lib.hid (ownsRow_mono HO3.out b4)
      have B4 := Lib.hid (below_trans B3.out b4)
      clear b4 HO3 B3 HME
      by_cases hfo : (foldT ⟨ya, yb, yc, yd⟩).2 = 0
      · have OC := fun w : World => octave_ok ⟨ya, yb, yc, yd⟩ w hoy hfo
        obtain ⟨hoz, hez, hzo⟩ := fold_exps hoy hey hfo
        obtain ⟨oz, ho⟩ : ∃ z, octT ⟨ya, yb, yc, yd⟩ = z := ⟨_, rfl⟩
        obtain ⟨⟨za, zb, zc, zd⟩, hz⟩ : ∃ z, (foldT ⟨ya, yb, yc, yd⟩).1 = z := ⟨_, rfl⟩
        rw [ho, hz] at OC
        rw [hz] at hoz hez hzo
        dsimp only at OC
        have HOC := Lib.hid OC
        have HZ := Lib.hid (And.intro hoz (And.intro hez hzo))
        clear OC ho hz hoz hez hzo hoy hey hfo
        go_wp2_with fail
        generalize w3.alloc (.cells #[.int .i64 ya, .int .i64 yb, .int .i64 yc, .int .i64 yd] 37) = w4 at *
        refine (HOC.out _).mono ?_
        rintro e' w5 ⟨rfl, b5⟩
        replace v6 := v6.mono b5
        have hown5 := Lib.hid (ownsRow_mono HO4.out b5)
        have B5 := Lib.hid (below_trans B4.out b5)
        clear b5 HO4 B4
        have cv60 := v6.cell (i := 0) (by simp)
        have cv61 := v6.cell (i := 1) (by simp)
        have cv62 := v6.cell (i := 2) (by simp)
        have cv63 := v6.cell (i := 3) (by simp)
        simp only [List.getD_cons_zero, List.getD_cons_succ] at cv60 cv61 cv62 cv63
        have ltv6 := v6.lt
        have fv60 := v6.frozen 0
        have fv61 := v6.frozen 1
        have fv62 := v6.frozen 2
        have fv63 := v6.frozen 3
        go_upto_region 14 with (fail)
        clear cv60 cv61 cv62 cv63 ltv6 fv60 fv61 fv62 fv63
        have v6n := v6.set4 (.int .i64 za) (.int .i64 zb) (.int .i64 zc) (.int .i64 zd)
        have hown6 := own_lowC (own_lowC (own_lowC (own_lowC hown5.out ⟨w.heap.size, 0, none⟩ (Nat.lt_succ_self _) (.int .i64 za)) ⟨w.heap.size, 1, none⟩ (Nat.lt_succ_self _) (.int .i64 zb)) ⟨w.heap.size, 2, none⟩ (Nat.lt_succ_self _) (.int .i64 zc)) ⟨w.heap.size, 3, none⟩ (Nat.lt_succ_self _) (.int .i64 zd)
        have B6 := below_set4 B5.out (Nat.le_refl _) (.int .i64 za) (.int .i64 zb) (.int .i64 zc) (.int .i64 zd)
        have HOWN := Lib.hid hown6
        clear v6 B5 hown5 hown6
        generalize (((w5.setCell ⟨w.heap.size, 0, none⟩ (.int .i64 za)).setCell ⟨w.heap.size, 1, none⟩ (.int .i64 zb)).setCell ⟨w.heap.size, 2, none⟩ (.int .i64 zc)).setCell ⟨w.heap.size, 3, none⟩ (.int .i64 zd) = w6 at *
        have cv6n0 := v6n.cell (i := 0) (by simp)
        have cv6n1 := v6n.cell (i := 1) (by simp)
        have cv6n2 := v6n.cell (i := 2) (by simp)
        have cv6n3 := v6n.cell (i := 3) (by simp)
        simp only [List.getD_cons_zero, List.getD_cons_succ] at cv6n0 cv6n1 cv6n2 cv6n3
        have ltv6n := v6n.lt
        have bz := below_alloc w6 (.cells #[.int .i64 za, .int .i64 zb, .int .i64 zc, .int .i64 zd] 37)
        have hszw := B6.size
        have hsz6 := v6n.lt
        go_wp2_with (at_builtin; refine wpList_append_rv rfl (.tmp 48) (.tmp 50) _ rfl (w.heap.size + 1) 37 _ 4 32 Try.underlying33 info_tone4 rfl (by decide) _ (i + 1) _ rfl (ownsRow_mono HOWN.out bz) _ 1 1 [.int .i64 za, .int .i64 zb, .int .i64 zc, .int .i64 zd] rfl (Vals.newL w6 w6.heap.size [.int .i64 za, .int .i64 zb, .int .i64 zc, .int .i64 zd] 37 rfl).rdQ (by intro u hu; simp only [List.mem_cons, List.not_mem_nil, or_false] at hu; rcases hu with rfl | rfl | rfl | rfl <;> rfl) (by unfold maxLen; omega) (by omega) (by rw [World.size_alloc]; omega) (i + 1 + 1) rfl _ rfl ?_; intro adn cn w7 hown7 hg7 hn7 hb7 hk7)
        have B7 := (B6.trans (bz.mono B6.size)).trans (hb7.mono (Nat.le_succ _))
        have v7 := (v6n.mono bz).belowT hb7 (Nat.lt_succ_self _)
        have hfl : flat tcl (L ++ [⟨za, zb, zc, zd⟩]) = flat tcl L ++ [.int .i64 za, .int .i64 zb, .int .i64 zc, .int .i64 zd] := by rw [flat_append]; rfl
        go_roundw
        case rel => exact ⟨i + 1, adn, cn, ⟨za, zb, zc, zd⟩, L ++ [⟨za, zb, zc, zd⟩], by omega, by go_num, rfl, by rw [hfl]; exact hown7, by rw [List.length_append, HL.out]; rfl, getD_snoc L _ _ HL.out, HZ.out.1, fun _ => HZ.out.2.2, HZ.out.2.1, v7, B7⟩
        case measure => simp [intOf]; omega
      · have OC := fun w : World => octave_far ⟨ya, yb, yc, yd⟩ w hoy hfo
        dsimp only at OC
        have HOC := Lib.hid OC
        clear OC hoy hey hfo
        go_wp2_with fail
        generalize w3.alloc (.cells #[.int .i64 ya, .int .i64 yb, .int .i64 yc, .int .i64 yd] 37) = w4 at *
        refine (HOC.out _).mono ?_
        rintro e' w5 ⟨rfl, b5⟩
        replace v6 := v6.mono b5
        have B5 := Lib.hid (below_trans B4.out b5)
        clear b5 HO4 B4
        have cv60 := v6.cell (i := 0) (by simp)
        have cv61 := v6.cell (i := 1) (by simp)
        have cv62 := v6.cell (i := 2) (by simp)
        have cv63 := v6.cell (i := 3) (by simp)
        simp only [List.getD_cons_zero, List.getD_cons_succ] at cv60 cv61 cv62 cv63
        have ltv6 := v6.lt
        have fv60 := v6.frozen 0
        have fv61 := v6.frozen 1
        have fv62 := v6.frozen 2
        have fv63 := v6.frozen 3
        have B6 := Lib.hid (below_set4 B5.out (Nat.le_refl _) (.int .i64 0) (.int .i64 0) (.int .i64 0) (.int .i64 0))
        clear B5
        go_wp2
        go_ret2
        exact ⟨.inr rfl, B6.out⟩
    · obtain rfl : i = 11 := by omega
      have HOWN := Lib.hid hown
      have HX := Lib.hid (And.intro hLl (And.intro hLx (And.intro hox (And.intro (hoct (by omega)) hex))))
      clear hown v6' hLl hLx hox hoct hex
      go_wp2
      go_ret2
      exact ⟨.inl ⟨_, _, L, rfl, HOWN.out, HX.out.1, by rw [HX.out.2.1]; exact HX.out.2.2.1, by rw [HX.out.2.1]; exact HX.out.2.2.2.1, by rw [HX.out.2.1]; exact HX.out.2.2.2.2⟩, B⟩

end Go.Proofs
