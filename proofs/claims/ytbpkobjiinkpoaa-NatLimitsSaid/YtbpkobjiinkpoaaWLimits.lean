/- The walk of NatLimits: whatever comes in, it returns true and changes nothing that was there. -/
import Derived.Test.YtbpkobjiinkpoaaLimits
import Derived.Test.YtbpkobjiinkpoaaRDigits
import Derived.Test.YtbpkobjiinkpoaaRowsV
import Derived.Test.YtbpkobjiinkpoaaVals
open Go.RowKit
namespace Go.Proofs
set_option linter.unusedVariables false
set_option linter.unusedSimpArgs false

def mx (k : Nat) : List Nat := List.replicate k 4294967295
theorem mx_len (k : Nat) : (mx k).length = k := List.length_replicate
theorem full_step {R : List Nat} {i N x : Nat} (hi : i < N) (hl : R.length = N) (h : ∀ j, j < i → R.getD j 0 = x) : ∀ j, j < i + 1 → (R.set i x).getD j 0 = x := by
  intro j hj
  by_cases e : j = i
  · subst e
    simp [List.getD, List.getElem?_set, hl, hi]
  · simp only [List.getD, List.getElem?_set, if_neg (Ne.symm e)]
    have := h j (by omega)
    simpa [List.getD] using this
theorem full_done {R : List Nat} {N v : Nat} (hl : R.length = N) (h : ∀ j, j < N → R.getD j 0 = v) : R = List.replicate N v := by
  refine List.ext_getElem (by rw [hl, List.length_replicate]) fun i h1 h2 => ?_
  have h3 := h i (by omega)
  simp only [List.getD, List.getElem?_eq_getElem h1, Option.getD_some] at h3
  rw [h3, List.getElem_replicate]
theorem Vals.rdN1 {w : World} {b : Nat} {v : Value} (h : Vals w b [v]) : RdV w (some ⟨b, 0, none⟩) 1 1 1 [v] := by
  refine ⟨rfl, Nat.le_refl _, by unfold maxLen; omega, .inr ⟨b, 0, rfl, fun j u hj => ?_⟩⟩
  have hj2 := (List.getElem?_eq_some_iff.1 hj).1
  have e := h.cell hj2
  rw [Nat.zero_add, e, getD_of hj]
theorem num0_size {w w' : World} {v : Value} (h : Num w v 0) (hs : w.heap.size ≤ w'.heap.size) : Num w' v 0 := by
  obtain ⟨ad, c, rfl, h1, h2, h3, h4⟩ := h
  refine ⟨ad, c, rfl, h1, h2, h3, ?_⟩
  rcases h4 with h4 | ⟨b, o, rfl, hb, _⟩
  · exact .inl h4
  · exact .inr ⟨b, o, rfl, by omega, fun i hi => by rw [limbs_zero] at hi; exact absurd hi (Nat.not_lt_zero i)⟩
theorem chk_over {xs : List Nat} (h : 262144 < xs.length) : chk xs = 3 := by unfold chk; rw [if_pos h]
theorem first_over (xs : List Nat) (l : List (List Nat)) (h : 262144 < xs.length) : firstErr (xs :: l) = 3 := by
  unfold firstErr
  rw [chk_over h, if_neg (by decide)]

set_option maxRecDepth 100000 in
set_option maxHeartbeats 2000000 in
theorem full_calls (k : Nat) (w : World) (hk : k < 8) : Calls Try.prog 18 #[.int .i64 (k : Int)] w (RetTrue w) := by
  obtain ⟨N, hN⟩ : ∃ N : Nat, 262144 = N := ⟨_, rfl⟩
  have HN := Lib.hid hN
  have hN1 : 8 < N := by omega
  have hN2 : N ≤ 1000000 := by omega
  obtain ⟨X, hX⟩ : ∃ X, val (mx N) = X := ⟨_, rfl⟩
  have HXL := Lib.hid (show limbs X = mx N by rw [← hX]; exact full_limbs N (by omega))
  have hX1 : 1 ≤ X := by
    rcases Nat.eq_zero_or_pos X with h | h
    · exfalso
      have h1 := HXL.out
      rw [h, limbs_zero] at h1
      have h2 := congrArg List.length h1
      rw [mx_len] at h2
      simp at h2
      omega
    · exact h
  have HOV := Lib.hid (show ∀ n, X < n → 262144 < (limbs n).length from fun n h => by rw [hN]; exact over_full (by rw [show List.replicate N 4294967295 = mx N from rfl, hX]; exact h))
  have HC0 := Lib.hid (show chk (mx N) = 0 by
    unfold chk
    rw [if_neg (by rw [mx_len]; omega), if_neg]
    intro h
    have h2 := List.eq_of_mem_replicate (List.mem_of_getLast? h)
    omega)
  clear hN
  go_enter Try.func18, Try.ntmps18
  go_wp2_with (at_make; refine wpList_make_nums _ rfl _ _ 23 rfl 24 Try.underlying23 info32 _ _ _ _ N rfl rfl (by have := HN.out; omega) (by have := HN.out; omega) (by omega) ?_; intro w1 hr1 hb1 hs1)
  go_loopw [4] (fun iv wr => ∃ (i : Nat) (R : List Nat), i ≤ N ∧ iv = .int .i64 (i : Int) ∧ Row wr w.heap.size R ∧ R.length = N ∧ (∀ j, j < i → R.getD j 0 = 4294967295) ∧ Below w.heap.size w wr) (fun iv _ => ((N : Int) - intOf iv).toNat)
  case atStart => exact ⟨0, _, by omega, rfl, hr1, List.length_replicate, fun j hj => absurd hj (Nat.not_lt_zero j), hb1⟩
  case round =>
    obtain ⟨i, R, hi, rfl, hrow, hRl, hR, hB⟩ := hrel
    have HR := Lib.hid hR
    clear hR hr1 hb1 hs1
    by_cases h10 : i < N
    · have t1 : (i : Int) < (N : Int) := by omega
      have ce := hrow.cell (i := i) (by omega)
      have fe := hrow.free i
      have HS := Lib.hid (hrow.set i 4294967295 (by omega))
      have HB := Lib.hid (hB.setCell (p := ⟨w.heap.size, i, none⟩) (Nat.le_refl _) (.int .u32 ((4294967295 : Nat) : Int)))
      have lt1 := hrow.lt
      have HRL := Lib.hid hRl
      obtain ⟨z, hz⟩ : ∃ z, R.getD i 0 = z := ⟨_, rfl⟩
      rw [hz] at ce
      clear hrow hB hRl hz
      go_wp2
      go_roundw
      case rel => exact ⟨i + 1, _, by omega, by go_num, HS.out, by rw [List.length_set]; exact HRL.out, full_step (by omega) HRL.out HR.out, HB.out⟩
      case measure => simp [intOf]; omega
    · obtain rfl : i = N := by omega
      have hRe : R = mx i := full_done hRl HR.out
      subst hRe
      clear HR
      have hs0 : Sl wr (some ⟨w.heap.size, 0, none⟩) i (mx i) := by
        have := hrow.whole (by rw [mx_len]; unfold maxLen; omega)
        rw [mx_len] at this
        exact this
      have HRM := Lib.hid (show Raw wr (.slice (some ⟨w.heap.size, 0, none⟩) i i) (mx i) from ⟨_, _, by rw [mx_len], hs0⟩)
      have bz := below_alloc wr (.cells #[] 24)
      have HRD := Lib.hid (show Rd (wr.alloc (.cells #[] 24)) (some ⟨w.heap.size, 0, none⟩) i (mx i) from (hs0.mono (Nat.le_refl _) bz).rd)
      have t1 : ¬ (i : Int) < (i : Int) := by omega
      clear hrow hs0 hRl
      go_wp2_with (first
        | (at_builtin; refine wpList_append_rd rfl (.tmp 22) (.tmp 23) _ rfl Try.underlying23 info32 wr.heap.size _ _ rfl (own_made wr) bz.size _ _ _ _ rfl (mx_len i).symm HRD.out (by rw [mx_len]; simp; omega) ?_; intro v2 w2 hown2 hb2; have hown2' := hown2.mono (below_alloc w2 (.cells #[Value.int .u32 1] 24)); have bb2 := bz.trans hb2; clear hown2 hb2)
        | (at_builtin; refine wpList_append_lim rfl (.tmp 24) (.tmp 25) _ rfl Try.underlying23 info32 wr.heap.size _ _ rfl hown2' (by have := bb2.size; rw [World.size_alloc]; omega) _ 1 _ rfl (sl_one w2 1 1 rfl (by omega) 24) (by rw [List.nil_append, mx_len]; omega) ?_; intro v3 w3 hown3 hb3 _ _; have bb3 := (bb2.trans ((below_alloc w2 (.cells #[Value.int .u32 1] 24)).mono bb2.size)).trans hb3; clear hown2' hb3))
      obtain ⟨L, hL⟩ : ∃ L, [] ++ mx i ++ [1] = L := ⟨_, rfl⟩
      have hLl : L.length = i + 1 := by rw [← hL, List.nil_append, List.length_append, mx_len]; rfl
      rw [hL] at hown3
      obtain ⟨adl, cl, rfl, sl, fl⟩ := hown3.sl
      have HRL := Lib.hid (show Raw w3 (.slice adl L.length cl) L from ⟨adl, cl, rfl, sl⟩)
      rw [hLl] at HRL hown3 ⊢
      have HOL := Lib.hid hown3
      have HLL := Lib.hid hLl
      have HNM := Lib.hid (show Num wr (.slice (some ⟨w.heap.size, 0, none⟩) i i) X by have := HRM.out.num HC0.out; rw [hX] at this; exact this)
      have Hi := Lib.hid (show i ≤ 262144 by have := HN.out; omega)
      have HL3 := Lib.hid (show 262144 < L.length by have := HN.out; omega)
      have B3 := hB.trans (bb3.mono hB.size)
      clear hL sl fl hown3 hLl HRD bz bb2 hX
      refine (of_calls (k + 1) _ _ (by omega) (by omega)).mono ?_
      rintro e w4 ⟨vo, rfl, ho, fo, b4⟩
      have bb4 := bb3.trans (b4.mono bb3.size)
      go_wp2_with fail
      refine (add_long _ vo X (k + 1) _ (HNM.out.mono bb4) ho ⟨by rw [HXL.out, mx_len]; exact Hi.out, by have := limbs_length_le (n := k + 1) (k := 1) (by omega); omega, HOV.out _ (by omega)⟩).mono ?_
      rintro e w5 ⟨vs, rfl, hs, fs, b5⟩
      have bb5 := bb4.trans (b5.mono bb4.size)
      clear bb4 ho fo fs
      go_wp2_with fail
      refine (of_calls 1 1 _ rfl (by omega)).mono ?_
      rintro e w6 ⟨v1, rfl, h1, f1, b6⟩
      have bb6 := bb5.trans (b6.mono bb5.size)
      replace hs := hs.mono b6
      go_wp2_with fail
      have e3 := first_over L [limbs 1] HL3.out
      have be6 := (b4.trans (b5.mono b4.size)).trans (b6.mono (Nat.le_trans b4.size b5.size))
      refine (add_err _ v1 L (limbs 1) _ (by have := HRL.out.mono be6; rw [HLL.out] at *; exact this) h1.raw (by rw [e3]; decide)).mono ?_
      rw [e3]
      rintro e w7 ⟨rfl, b7⟩
      have bb7 := bb6.trans (b7.mono bb6.size)
      have be7 := be6.trans (b7.mono be6.size)
      replace hs := hs.mono b7
      clear bb5 bb6 b4 b5 b6 b7 be6 e3 h1 f1
      go_wp2_with fail
      refine (shift_over _ X (k + 1) _ _ (HNM.out.mono bb7) (by omega) (by omega) (by omega) (by rw [HXL.out, mx_len]; exact Hi.out) (HOV.out _ (by
        have h2 : 2 ≤ 2 ^ (k + 1) := by rw [Nat.pow_succ]; have := Nat.pow_pos (n := k) (show 0 < 2 by omega); omega
        have h3 := Nat.mul_le_mul_left X h2
        omega))).mono ?_
      rintro e w8 ⟨vu, rfl, hu, fu, b8⟩
      have bb8 := bb7.trans (b8.mono bb7.size)
      have be8 := be7.trans (b8.mono be7.size)
      replace hs := hs.mono b8
      clear bb7 be7 b8 fu
      go_wp2_with fail
      refine (check_calls _ (mx i) _ (HRM.out.mono bb8)).mono ?_
      rw [HC0.out]
      rintro e w9 ⟨rfl, rfl⟩
      go_wp2_with fail
      refine (check_calls _ L _ (HRL.out.mono be8)).mono ?_
      rw [chk_over HL3.out]
      rintro e w9 ⟨rfl, rfl⟩
      have HO8 := Lib.hid (show w8.ownsRow wr.heap.size 24 1 (.slice adl (i + 1) cl) (i + 1) (lims L) by have := HOL.out.1; rw [HLL.out] at this; exact ownsRow_mono this be8)
      have bz8 := below_alloc w8 (.cells #[Value.int .u32 0] 24)
      have hsz8 := bb8.size
      go_wp2_with (at_builtin; refine wpList_step fun K hK => ?_; rw [if_pos (by rfl)]; refine wp_append_rv (.tmp 58) (.tmp 59) _ rfl wr.heap.size 24 (.int .u32 0) 1 4 Try.underlying23 info32 rfl (by decide) _ (i + 1) _ rfl (ownsRow_mono HO8.out bz8) _ 1 1 [.int .u32 0] rfl (Vals.rdN1 (Vals.newL w8 w8.heap.size [.int .u32 0] 24 rfl)) (by intro u hu; simp only [List.mem_cons, List.not_mem_nil, or_false] at hu; subst hu; rfl) (by unfold maxLen; omega) (by omega) (by rw [World.size_alloc]; omega) (i + 1 + 1) rfl _ rfl ?_; intro adz cz w9 hown9 hg9 hn9 hb9 hk9; refine hK _ _ ?_)
      have ho9 : Own wr.heap.size w9 (.slice adz (L ++ [0]).length cz) (L ++ [0]) := by
        have e : lims L ++ [Value.int .u32 0] = lims (L ++ [0]) := by simp [lims]
        have e2 : (L ++ [0]).length = i + 1 + 1 := by rw [List.length_append, HLL.out]; rfl
        rw [e] at hown9
        refine ⟨?_, fun y hy => ?_⟩
        · rw [e2]; exact hown9
        · rcases List.mem_append.1 hy with h | h
          · exact HOL.out.2 y h
          · rw [List.mem_singleton.1 h]; omega
      obtain ⟨ad9, c9, e9, s9, _⟩ := ho9.sl
      have HR9 := Lib.hid (show Raw w9 (.slice adz (L ++ [0]).length cz) (L ++ [0]) from ⟨ad9, c9, e9, s9⟩)
      have e20 : (L ++ [0]).length = i + 1 + 1 := by rw [List.length_append, HLL.out]; rfl
      rw [e20] at HR9
      clear e20
      have BT := ((B3.trans ((be8).mono (Nat.le_trans hB.size bb3.size))).trans (bz8.mono (Nat.le_trans hB.size hsz8))).trans (hb9.mono hB.size)
      have hsz9 : w8.heap.size ≤ w9.heap.size := by have := hg9.size; rw [World.size_alloc] at this; omega
      have hs9 := num0_size hs hsz9
      have hu9 := num0_size hu hsz9
      clear ho9 hown9 hg9 hn9 hb9 hk9 e9 s9 HO8 bz8 hsz8 bb8 be8 hsz9 hs hu B3 hB bb3
      refine (check_calls _ (L ++ [0]) _ HR9.out).mono ?_
      rw [chk_over (by rw [List.length_append]; have := HL3.out; omega)]
      rintro e w10 ⟨rfl, rfl⟩
      go_wp2_with fail
      refine (is_err vs (.slice none 0 0) 3 _ hs9 (by decide)).mono ?_
      rintro e w10 ⟨rfl, b10⟩
      replace BT := BT.trans (b10.mono BT.size)
      replace hu9 := hu9.mono b10
      clear b10 hs9
      go_wp2_with fail
      refine (is_err (.slice none 0 0) (.slice none 0 0) 3 _ (Num.nil _) (by decide)).mono ?_
      rintro e w11 ⟨rfl, b11⟩
      replace BT := BT.trans (b11.mono BT.size)
      replace hu9 := hu9.mono b11
      clear b11
      go_wp2_with fail
      refine (is_err vu (.slice none 0 0) 3 _ hu9 (by decide)).mono ?_
      rintro e w12 ⟨rfl, b12⟩
      go_wp2
      go_ret
      exact ⟨rfl, BT.trans (b12.mono BT.size)⟩

theorem and_small (z : Int) (m : Nat) (hm : m ≤ 7) (z0 : -9223372036854775808 ≤ z) (z1 : z < 9223372036854775808) : ∃ k : Nat, k ≤ m ∧ bits BinOp.and IntKind.i64 z (m : Int) = (k : Int) := by
  have hlt : (BitVec.ofInt 64 z).toNat &&& m ≤ m := Nat.and_le_right
  refine ⟨(BitVec.ofInt 64 z).toNat &&& m, hlt, ?_⟩
  have em : (BitVec.ofInt 64 (m : Int)).toNat = m := by
    rw [BitVec.ofInt_natCast, BitVec.toNat_ofNat]
    exact Nat.mod_eq_of_lt (by omega)
  have e : (BitVec.ofInt 64 z &&& BitVec.ofInt 64 (m : Int)).toNat = (BitVec.ofInt 64 z).toNat &&& m := by
    rw [BitVec.toNat_and, em]
  show IntKind.i64.wrap ((BitVec.ofInt 64 z &&& BitVec.ofInt 64 (m : Int)).toNat : Int) = _
  rw [e, IntKind.wrap_i64]
  omega
theorem strOf_append (xs ys : List Nat) : strOf xs ++ strOf ys = strOf (xs ++ ys) := by
  apply ByteArray.ext
  apply Array.toList_inj.1
  rw [strOf_toList]
  simp [strOf_toList]
theorem digits_ok_list {L : List Nat} (h0 : 0 < L.length) (h1 : L.getD 0 0 ≠ 48) (h : ∀ x ∈ L, 48 ≤ x ∧ x ≤ 57) : TextOk (strOf L) := by
  have hb : ∀ x ∈ L, x < 256 := fun x hx => by have := h x hx; omega
  refine ⟨by rw [strOf_size]; exact h0, fun _ => by rw [byteAt_strOf L hb 0 h0]; exact h1, fun i hi => ?_⟩
  rw [strOf_size] at hi
  rw [byteAt_strOf L hb i hi]
  simp only [List.getD, List.getElem?_eq_getElem hi, Option.getD_some]
  exact h _ (List.getElem_mem hi)
def ni (M : Nat) : List Nat := List.replicate M 57
theorem ni_len (M : Nat) : (ni M).length = M := List.length_replicate
theorem ni_mem (M : Nat) : ∀ x ∈ ni M, x = 57 := fun x hx => (List.mem_replicate.1 hx).2
theorem ni_get (M i : Nat) (h : i < M) : (ni M).getD i 0 = 57 := by
  unfold ni
  simp [List.getD, h]
theorem ni_ok (M : Nat) (h : 0 < M) : TextOk (strOf (ni M)) := digits_ok_list (by rw [ni_len]; exact h) (by rw [ni_get M 0 h]; omega) (fun x hx => by rw [ni_mem M x hx]; omega)
theorem ni_nine (M : Nat) (h : 0 < M) : TextOk (strOf (ni M ++ [57])) := by
  refine digits_ok_list (by rw [List.length_append, ni_len]; omega) ?_ (fun x hx => ?_)
  · have e : (ni M ++ [57]).getD 0 0 = (ni M).getD 0 0 := by
      simp only [List.getD]
      rw [List.getElem?_append_left (by rw [ni_len]; exact h)]
    rw [e, ni_get M 0 h]
    omega
  · rcases List.mem_append.1 hx with h | h
    · rw [ni_mem M x h]; omega
    · rw [List.mem_singleton.1 h]; omega
theorem ni_bad (M : Nat) : ¬ TextOk (strOf (ni M ++ [120])) := by
  intro h
  have h2 := h.2.2 M (by rw [strOf_size, List.length_append, ni_len]; exact Nat.lt_succ_self M)
  rw [byteAt_strOf _ (fun x hx => ?_) M (by rw [List.length_append, ni_len]; exact Nat.lt_succ_self M)] at h2
  · have e : (ni M ++ [120]).getD M 0 = 120 := by
      simp only [List.getD]
      rw [List.getElem?_append_right (by rw [ni_len]; exact Nat.le_refl _), ni_len, Nat.sub_self]
      rfl
    omega
  · rcases List.mem_append.1 hx with h | h
    · rw [ni_mem M x h]; omega
    · rw [List.mem_singleton.1 h]; omega
theorem ni_dec (M : Nat) : dec (strOf (ni M)) (strOf (ni M)).size + 1 = 10 ^ M := by
  rw [strOf_size, ni_len]
  refine dec_nines _ M fun i hi => ?_
  rw [byteAt_strOf _ (fun x hx => by rw [ni_mem M x hx]; omega) i (by rw [ni_len]; exact hi), ni_get M i hi]
theorem big_room : (10 : Nat) ^ 20000 + 10 < 4294967296 ^ 2077 := by decide +kernel
theorem room_of {x M : Nat} (hM : 20000 = M) (h : x < 10 ^ M + 10) : (limbs x).length ≤ 2077 := by
  subst hM
  exact limbs_length_le (Nat.lt_trans h big_room)
theorem over_two {n k : Nat} (h : 32 * k ≤ n) : k < (limbs (2 ^ n)).length := by
  rcases Nat.lt_or_ge k (limbs (2 ^ n)).length with h1 | h1
  · exact h1
  · have h2 := limbs_length_le_iff.1 h1
    rw [show (4294967296 : Nat) = 2 ^ 32 from rfl, ← Nat.pow_mul] at h2
    have h3 := Nat.pow_le_pow_right (show 0 < 2 by omega) h
    omega
theorem shift_above (v : Value) (k : Nat) (z : Int) (w : World) (h1 : Num w v 1) (hz : z = 8388608 + (k : Int)) (hk : k < 8) : Calls Try.prog 19 #[v, .int .i64 z] w (Got w 0 3) := by
  have l1 : (limbs 1).length ≤ 262144 := by have := limbs_length_le (n := 1) (k := 1) (by omega); omega
  by_cases h0 : k = 0
  · obtain ⟨n, hn⟩ : ∃ n : Nat, 8388608 = n := ⟨_, rfl⟩
    refine shift_over v 1 n z w h1 (by omega) (by omega) (by omega) l1 ?_
    rw [Nat.one_mul]
    exact over_two (by omega)
  · exact shift_long v 1 z w h1 (by omega) (by omega) l1

set_option maxRecDepth 100000 in
set_option maxHeartbeats 2000000 in
theorem walk_limits (n : Int) (w : World) (hn : -9223372036854775808 ≤ n ∧ n < 9223372036854775808) : Calls Try.prog 5 #[.int .i64 n] w (RetTrue w) := by
  obtain ⟨k3, hk3, ek3⟩ := and_small n 3 (by omega) hn.1 hn.2
  have ek3 : bits BinOp.and IntKind.i64 n 3 = (k3 : Int) := ek3
  obtain ⟨kb, hkb, ekb⟩ := and_small (n / 4) 7 (by omega) (by omega) (by omega)
  have ekb : bits BinOp.and IntKind.i64 (n / 4) 7 = (kb : Int) := ekb
  rcases (show k3 = 0 ∨ k3 = 1 ∨ 2 ≤ k3 by omega) with rfl | rfl | h2
  · go_enter Try.func5, Try.ntmps5
    go_wp2_with fail
    refine (lives_calls w).mono ?_
    rintro e w1 ⟨rfl, b1⟩
    go_wp2_with fail
    refine (full_calls kb w1 (by omega)).mono ?_
    rintro e w2 ⟨rfl, b2⟩
    go_wp2
    go_ret
    exact ⟨rfl, below_trans b1 b2⟩
  · obtain ⟨K, hK⟩ : ∃ K : Nat, 262143 = K := ⟨_, rfl⟩
    have HK := Lib.hid hK
    obtain ⟨m, hm⟩ : ∃ m : Nat, 32 * K + 31 = m := ⟨_, rfl⟩
    obtain ⟨TL, hTL⟩ : ∃ TL : List Nat, List.replicate K 0 ++ [2147483648] = TL := ⟨_, rfl⟩
    have el : limbs (2 ^ m) = TL := by rw [← hm, ← hTL]; exact top_limbs K 31 (by omega) (by omega)
    obtain ⟨ln, hln⟩ : ∃ ln : Nat, TL.length = ln := ⟨_, rfl⟩
    have hln2 : ln = K + 1 := by rw [← hln, ← hTL, List.length_append, List.length_replicate]; rfl
    have etop : TL.getD (ln - 1) 0 = 2147483648 := by
      rw [hln2, ← hTL]
      simp only [List.getD]
      rw [List.getElem?_append_right (by rw [List.length_replicate]; omega), List.length_replicate, Nat.add_sub_cancel, Nat.sub_self]
      rfl
    have tl : ((ln : Int) == 262144) = true := by rw [beq_iff_eq]; omega
    have ln1 : 1 < ln := by omega
    have ln3 : ln ≤ 1000000 := by omega
    have HM := Lib.hid (show (8388607 : Int) = (m : Int) by omega)
    have HM2 := Lib.hid (show m ≤ 8388608 by omega)
    have HEL := Lib.hid el
    have HLN := Lib.hid hln
    have HLR := Lib.hid (show (limbs (1 * 2 ^ m)).length ≤ 262144 by rw [Nat.one_mul, el, hln]; omega)
    have HTOP := Lib.hid etop
    clear hK hm hTL el hln hln2 etop
    go_enter Try.func5, Try.ntmps5
    go_wp2_with fail
    refine (lives_calls w).mono ?_
    rintro e w1 ⟨rfl, b1⟩
    go_wp2_with fail
    refine (of_calls 1 1 _ rfl (by omega)).mono ?_
    rintro e w2 ⟨v1, rfl, h1, f1, b2⟩
    replace b2 := below_trans b1 b2
    clear b1 f1
    go_wp2_with fail
    refine (shift_up v1 1 m _ _ h1 HM.out (by omega) HM2.out (by have := limbs_length_le (n := 1) (k := 1) (by omega); omega) HLR.out).mono ?_
    rw [Nat.one_mul]
    rintro e w3 ⟨vv, rfl, hv, fv, b3⟩
    replace b3 := below_trans b2 b3
    obtain ⟨adv, cv, rfl, sv⟩ := hv
    rw [HEL.out] at sv
    rw [HEL.out, HLN.out]
    clear b2 h1 fv
    go_wp2_with fail
    refine (of_calls 1 1 _ rfl (by omega)).mono ?_
    rintro e w4 ⟨v2, rfl, h2, f2, b4⟩
    replace sv := sv.mono (Nat.le_refl _) b4
    replace b4 := below_trans b3 b4
    clear b3 f2
    go_wp2_with fail
    refine (shift_above v2 kb _ _ h2 (by omega) (by omega)).mono ?_
    rintro e w5 ⟨vw, rfl, hw, fw, b5⟩
    replace sv := sv.mono (Nat.le_refl _) b5
    replace b5 := below_trans b4 b5
    obtain ⟨bv, ov, rfl, hbv, ce, fe⟩ := sv.open (i := ln - 1) (by rw [HLN.out]; omega)
    rw [HTOP.out] at ce
    have ei : ((ln - 1 : Nat) : Int) = (ln : Int) - 1 := by omega
    have ln4 : (0 : Int) ≤ (ln : Int) - 1 := by omega
    have ew : IntKind.i64.wrap ((ln : Int) - 1) = ((ln - 1 : Nat) : Int) := by rw [IntWalk.i64_in _ (by omega)]; omega
    clear sv b4 h2 fw
    go_wp2_with fail
    refine (is_err vw (.slice none 0 0) 3 _ hw (by decide)).mono ?_
    rintro e w6 ⟨rfl, b6⟩
    go_wp2
    go_ret
    exact ⟨rfl, below_trans b5 b6⟩
  · obtain ⟨M, hM⟩ : ∃ M : Nat, 20000 = M := ⟨_, rfl⟩
    have HM := Lib.hid hM
    have hM1 : 8 < M := by omega
    have hM2 : M ≤ 100000 := by omega
    have t0 : ((k3 : Int) == 0) = false := by rw [beq_eq_false_iff_ne]; omega
    have t1 : ((k3 : Int) == 1) = false := by rw [beq_eq_false_iff_ne]; omega
    clear hM
    go_enter Try.func5, Try.ntmps5
    go_wp2_with fail
    refine (lives_calls w).mono ?_
    rintro e w1 ⟨rfl, b1⟩
    go_wp2_with (at_make; refine wpList_make_bytes _ rfl _ _ 46 rfl 5 Try.underlying46 info8 _ _ _ _ M rfl rfl (by have := HM.out; omega) (by have := HM.out; omega) (by omega) ?_; intro w2 hc2 hb2 hs2)
    obtain ⟨g, hg⟩ : ∃ g, w1.heap.size = g := ⟨_, rfl⟩
    rw [hg] at hc2 hs2 ⊢
    go_loopw [9] (fun iv wr => ∃ (i : Nat) (R : List Nat), i ≤ M ∧ iv = .int .i64 (i : Int) ∧ CellB wr g R ∧ g < wr.heap.size ∧ R.length = M ∧ (∀ j, j < i → R.getD j 0 = 57) ∧ Below w1.heap.size w1 wr) (fun iv _ => ((M : Int) - intOf iv).toNat)
    case atStart => exact ⟨0, _, by omega, rfl, hc2, hs2, List.length_replicate, fun j hj => absurd hj (Nat.not_lt_zero j), hb2⟩
    case round =>
      obtain ⟨i, R, hi, rfl, hrow, hgs, hRl, hR, hB⟩ := hrel
      have HR := Lib.hid hR
      clear hR hc2 hb2 hs2
      by_cases h10 : i < M
      · have q1 : (i : Int) < (M : Int) := by omega
        obtain ⟨ce, fe⟩ := hrow i (by omega)
        have HS := Lib.hid (hrow.set i 57 57 rfl (by omega))
        have HB := Lib.hid (hB.setCell (p := ⟨g, i, none⟩) (by show w1.heap.size ≤ g; omega) (.int .u8 57))
        have HRL := Lib.hid hRl
        have HGS := Lib.hid (show g < (wr.setCell ⟨g, i, none⟩ (.int .u8 57)).heap.size by simp [World.setCell]; exact hgs)
        obtain ⟨z, hz⟩ : ∃ z, R.getD i 0 = z := ⟨_, rfl⟩
        rw [hz] at ce
        clear hrow hB hRl hz
        go_wp2
        go_roundw
        case rel => exact ⟨i + 1, _, by omega, by go_num, HS.out, HGS.out, by rw [List.length_set]; exact HRL.out, full_step (by omega) HRL.out HR.out, HB.out⟩
        case measure => simp [intOf]; omega
      · obtain rfl : i = M := by omega
        have hRe : R = ni i := full_done hRl HR.out
        subst hRe
        have B0 := below_trans b1 hB
        have HCB := Lib.hid hrow
        have kc := hrow.string 46 Try.underlying46 i i (ni_len i).symm 9 Try.underlying9
        obtain ⟨S, hS⟩ : ∃ S, strOf (ni i) = S := ⟨_, rfl⟩
        rw [hS] at kc
        have HSS := Lib.hid hS
        have hsz : S.size = i := by rw [← hS, strOf_size, ni_len]
        have q1 : ¬ (S.size + 1 > 9223372036854775807) := by omega
        have HSZ := Lib.hid hsz
        clear HR hrow hRl b1 hB hS hsz
        rcases (show k3 = 2 ∨ k3 = 3 by omega) with rfl | rfl
        · have e1 := Lib.hid (show S ++ ⟨#[57]⟩ = strOf (ni i ++ [57]) by rw [← HSS.out, ← strOf_append]; rfl)
          have e2 := Lib.hid (show S ++ ⟨#[120]⟩ = strOf (ni i ++ [120]) by rw [← HSS.out, ← strOf_append]; rfl)
          go_wp2_with fail
          rw [e1.out]
          refine (parse_long _ wr (ni_nine i (by omega)) (by rw [strOf_size, List.length_append, ni_len]; have := HM.out; show 20000 < i + 1; omega) (by rw [strOf_size, List.length_append, ni_len]; show i + 1 ≤ 9223372036854775807; omega)).mono ?_
          rintro e w3 ⟨rfl, rfl⟩
          go_wp2_with fail
          rw [e2.out]
          refine (parse_form _ wr (ni_bad i) (by rw [strOf_size, List.length_append, ni_len]; show i + 1 ≤ 9223372036854775807; omega)).mono ?_
          rintro e w3 ⟨rfl, rfl⟩
          go_wp2_with fail
          refine (is_err (.slice none 0 0) (.slice none 0 0) 3 _ (Num.nil _) (by decide)).mono ?_
          rintro e w4 ⟨rfl, b4⟩
          go_wp2_with fail
          refine (is_err (.slice none 0 0) (.slice none 0 0) 2 _ (Num.nil _) (by decide)).mono ?_
          rintro e w5 ⟨rfl, b5⟩
          go_wp2
          go_ret
          exact ⟨rfl, below_trans (below_trans B0 b4) b5⟩
        · have hok : TextOk S := by rw [← HSS.out]; exact ni_ok i (by omega)
          have hD : dec S S.size + 1 = 10 ^ i := by rw [← HSS.out]; exact ni_dec i
          have hT : strOf (text (dec S S.size)) = S := text_dec S hok
          obtain ⟨D, hDe⟩ : ∃ D, dec S S.size = D := ⟨_, rfl⟩
          have PO := fun w => parse_ok S w hok (by rw [HSZ.out, ← HM.out]; exact Nat.le_refl _)
          rw [hDe] at hD hT PO
          have HPO := Lib.hid PO
          have HT := Lib.hid hT
          have HR1 := Lib.hid (show (limbs D).length ≤ 2077 from room_of HM.out (by omega))
          have HR2 := Lib.hid (show (limbs (D + (kb + 1))).length ≤ 2077 from room_of HM.out (by omega))
          have HL1 := Lib.hid (show (lows D).length ≤ 20000 by rw [HM.out]; exact lows_digits D i (by omega))
          have HL2 := Lib.hid (show 20000 < (lows (D + (kb + 1))).length ∧ (lows (D + (kb + 1))).length ≤ 30000 by
            have h1 : i < (lows (D + (kb + 1))).length := lows_many (by omega)
            have h3 : D + (kb + 1) < 10 ^ (i + 1) := by
              have h4 := Nat.pow_pos (n := i) (show 0 < 10 by omega)
              rw [Nat.pow_succ]
              omega
            have h2 := lows_digits (D + (kb + 1)) (i + 1) h3
            have h5 := HM.out
            omega)
          clear hok hD hT PO hDe
          go_wp2_with fail
          refine (HPO.out wr).mono ?_
          rintro e w3 ⟨vx, rfl, hx, fx, b3⟩
          have kc3 := (HCB.out.mono b3 hgs).string 46 Try.underlying46 i i (ni_len i).symm 9 Try.underlying9
          have hgs3 : g < w3.heap.size := Nat.lt_of_lt_of_le hgs b3.size
          have HC3 := Lib.hid (HCB.out.mono b3 hgs)
          replace b3 := below_trans B0 b3
          clear kc kc3 fx HCB B0
          go_wp2_with fail
          refine (text_ok vx D w3 hx HR1.out HL1.out).mono ?_
          rw [HT.out]
          rintro e w4 ⟨rfl, b4⟩
          have HC4 := Lib.hid (HC3.out.mono b4 hgs3)
          have hgs4 : g < w4.heap.size := Nat.lt_of_lt_of_le hgs3 b4.size
          replace hx := hx.mono b4
          replace b4 := below_trans b3 b4
          clear b3 HC3 hgs3
          go_wp2_with fail
          refine (of_calls (kb + 1) _ _ (by omega) (by omega)).mono ?_
          rintro e w5 ⟨vo, rfl, ho, fo, b5⟩
          have HC5 := Lib.hid (HC4.out.mono b5 hgs4)
          have hgs5 : g < w5.heap.size := Nat.lt_of_lt_of_le hgs4 b5.size
          replace hx := hx.mono b5
          replace b5 := below_trans b4 b5
          clear b4 HC4 hgs4 fo
          go_wp2_with fail
          refine (ladd_calls vx vo D (kb + 1) _ hx ho (by have := HR1.out; omega) (by have := limbs_length_le (n := kb + 1) (k := 1) (by omega); omega)).mono ?_
          rintro e w6 ⟨va, rfl, ha, fa, b6⟩
          have HC6 := Lib.hid (HC5.out.mono b6 hgs5)
          have hgs6 : g < w6.heap.size := Nat.lt_of_lt_of_le hgs5 b6.size
          replace b6 := below_trans b5 b6
          clear b5 HC5 hgs5 fa hx ho
          go_wp2_with fail
          refine (text_long va (D + (kb + 1)) w6 ha HR2.out HL2.out).mono ?_
          rintro e w7 ⟨rfl, b7⟩
          have kc7 := (HC6.out.mono b7 hgs6).string 46 Try.underlying46 i i (ni_len i).symm 9 Try.underlying9
          rw [HSS.out] at kc7
          replace b7 := below_trans b6 b7
          clear b6 HC6 hgs6 ha
          go_wp2
          go_ret
          exact ⟨by simp, b7⟩
end Go.Proofs
