/- The document's parser of tones. -/
import Derived.Test.YtpflnpekcdjheaaGreatDoorWBack
import Derived.Test.YtpflnpekcdjheaaGreatDoorTRef
import Derived.Test.YtpflnpekcdjheaaGreatDoorRText
import Derived.Test.YtpflnpekcdjheaaGreatDoorDec
import Derived.Deep.RegionHeld3
import Derived.Lib.SmallJoins
open Go.RowKit Go.Deep
namespace Go.Proofs
set_option linter.unusedVariables false
set_option linter.unusedSimpArgs false

theorem toList_none {s : ByteArray} (h : s.size = 0) : s.toList.isEmpty = true ∧ s.toList = [] := by
  have h2 : s.toList = [] := by
    rw [Lib.toList_data]
    exact List.eq_nil_of_length_eq_zero h
  rw [h2]
  exact ⟨rfl, rfl⟩
theorem toList_some {s : ByteArray} (h : 0 < s.size) : s.toList.isEmpty = false ∧ ¬ s.toList = [] := by
  have h2 : ¬ s.toList = [] := by
    rw [Lib.toList_data]
    intro e
    have h3 : s.data.toList.length = s.size := rfl
    rw [e] at h3
    simp at h3
    omega
  refine ⟨?_, h2⟩
  cases h3 : s.toList with
  | nil => exact absurd h3 h2
  | cons a l => rfl
/-- the integer at the beginning of s, and the rest, by bytes -/
def ValB (s : ByteArray) (v : Int) (r : ByteArray) : Prop :=
  ∃ (neg : Bool) (t : ByteArray), ((neg = true ∧ 0 < s.size ∧ byteAt s 0 = 45 ∧ t = s.extract 1 s.size) ∨ (neg = false ∧ t = s ∧ (0 < s.size → byteAt s 0 ≠ 45))) ∧
    ∃ j, j ≤ 5 ∧ j ≤ t.size ∧ Digi t j ∧ (j = 5 ∨ j = t.size ∨ (j < t.size ∧ ¬ (48 ≤ byteAt t j ∧ byteAt t j ≤ 57))) ∧ r = t.extract j t.size ∧ v = if neg then -(dec t j : Int) else (dec t j : Int)
def EndB (t : ByteArray) (j : Nat) : Prop := j = 5 ∨ j = t.size ∨ (j < t.size ∧ ¬ (48 ≤ byteAt t j ∧ byteAt t j ≤ 57))
theorem valB_neg {s t : ByteArray} (h0 : 0 < s.size) (h45 : byteAt s 0 = 45) (ht : t = s.extract 1 s.size) (j d : Nat) (h5 : j ≤ 5) (hj : j ≤ t.size) (hd : Digi t j) (he : EndB t j) (hv : dec t j = d) : ValB s (-(d : Int)) (t.extract j t.size) := by
  subst hv
  exact ⟨true, t, .inl ⟨rfl, h0, h45, ht⟩, j, h5, hj, hd, he, rfl, rfl⟩
theorem valB_pos {s : ByteArray} (h : 0 < s.size → byteAt s 0 ≠ 45) (j d : Nat) (h5 : j ≤ 5) (hj : j ≤ s.size) (hd : Digi s j) (he : EndB s j) (hv : dec s j = d) : ValB s (d : Int) (s.extract j s.size) := by
  subst hv
  exact ⟨false, s, .inr ⟨rfl, rfl, h⟩, j, h5, hj, hd, he, rfl, rfl⟩
theorem byte_list (s : ByteArray) (i : Nat) (h : i < s.size) : ∃ b, s.data.toList[i]? = some b ∧ b.toNat = byteAt s i := by
  refine ⟨s[i], ?_, byteAt_eq h⟩
  have h2 : i < s.data.toList.length := h
  rw [List.getElem?_eq_getElem h2]
  rfl
theorem dec_list (t : ByteArray) : ∀ j, j ≤ t.size → dec t j = decL 0 (t.data.toList.take j)
  | 0, _ => rfl
  | j + 1, h => by
    obtain ⟨b, h1, h2⟩ := byte_list t j h
    rw [dec, List.take_add_one, h1, dec_list t j (by omega), ← h2]
    show _ = decL 0 (t.data.toList.take j ++ [b])
    rw [decL_append, Nat.mul_comm]
theorem valB_list {s r : ByteArray} {v : Int} (h : ValB s v r) : ValR s.data.toList v r.data.toList := by
  obtain ⟨neg, t, hs, j, h5, hj, hd, he, hr, hv⟩ := h
  have hlen : t.data.toList.length = t.size := rfl
  refine ⟨neg, t.data.toList, ?_, j, h5, by rw [hlen]; exact hj, ?_, ?_, ?_, ?_⟩
  · rcases hs with ⟨h1, h2, h3, h4⟩ | ⟨h1, h2, h3⟩
    · refine .inl ⟨h1, ?_⟩
      obtain ⟨b, e1, e2⟩ := byte_list s 0 h2
      have hb : b = 45 := by
        apply UInt8.toNat_inj.1
        rw [e2, h3]
        rfl
      subst hb
      rw [h4, Lib.extract_data]
      cases hl : s.data.toList with
      | nil => rw [hl] at e1; cases e1
      | cons a l =>
        rw [hl] at e1
        simp only [List.getElem?_cons_zero, Option.some.injEq] at e1
        subst e1
        have hsz : s.size = l.length + 1 := by
          have h5 : s.data.toList.length = s.size := rfl
          rw [hl] at h5
          exact h5.symm
        rw [List.drop_succ_cons, List.drop_zero, List.take_of_length_le (by omega)]
    · refine .inr ⟨h1, by rw [h2], ?_⟩
      intro hh
      by_cases h0 : 0 < s.size
      · obtain ⟨b, e1, e2⟩ := byte_list s 0 h0
        rw [List.head?_eq_getElem?] at hh
        rw [e1] at hh
        have hb : b = 45 := Option.some.inj hh
        apply h3 h0
        rw [← e2, hb]
        rfl
      · have h6 : s.data.toList = [] := List.eq_nil_of_length_eq_zero (by show s.size = 0; omega)
        rw [h6] at hh
        cases hh
  · intro b hb
    obtain ⟨i, hi⟩ := List.getElem?_of_mem hb
    rw [List.getElem?_take] at hi
    split at hi
    · rename_i hlt
      obtain ⟨c, e1, e2⟩ := byte_list t i (by omega)
      rw [hi] at e1
      have hbc : b = c := Option.some.inj e1
      unfold isDg
      rw [hbc, e2]
      exact hd i hlt
    · cases hi
  · rcases he with h1 | h1 | ⟨h1, h2⟩
    · exact .inl h1
    · exact .inr (.inl (by rw [hlen]; exact h1))
    · obtain ⟨c, e1, e2⟩ := byte_list t j h1
      refine .inr (.inr ⟨c, e1, ?_⟩)
      unfold isDg
      rw [e2]
      exact h2
  · rw [hr, Lib.extract_data, List.take_of_length_le (by rw [List.length_drop]; omega)]
  · rw [hv, dec_list t j hj]

def skipB (s : ByteArray) : ByteArray := if s.size = 0 then s else s.extract 1 s.size
theorem skip_list (s : ByteArray) : (skipB s).data.toList = s.data.toList.drop 1 := by
  unfold skipB
  split
  · rename_i h
    have h2 : s.data.toList = [] := List.eq_nil_of_length_eq_zero h
    rw [h2]
    rfl
  · rw [Lib.extract_data, List.take_of_length_le (by rw [List.length_drop]; show s.size - 1 ≤ _; exact Nat.le_refl _)]
theorem skip_size (s : ByteArray) : (skipB s).size ≤ s.size := by
  unfold skipB
  split
  · exact Nat.le_refl _
  · rw [ByteArray.size_extract]; omega
/-- the four numbers of a text -/
def DecB (s : ByteArray) (x : T4) : Prop := ∃ r1 r2 r3 r4, ValB s x.a r1 ∧ ValB (skipB r1) x.b r2 ∧ ValB (skipB r2) x.c r3 ∧ ValB (skipB r3) x.d r4
theorem not_dg {c : UInt8} (h : c = 46 ∨ c = 47) : ¬ isDg c := by
  unfold isDg
  rcases h with rfl | rfl <;> decide
theorem dec_text (y x : T4) (hv : validB y.a y.b y.c y.d = true) (h : DecB ⟨(textT y).toArray⟩ x) : x = y := by
  have hp := validB_parts hv
  obtain ⟨r1, r2, r3, r4, h1, h2, h3, h4⟩ := h
  have l1 := valB_list h1
  rw [toList_mk, textT_eq, List.append_assoc, List.cons_append] at l1
  obtain ⟨e1, g1⟩ := val_itoa y.a (by omega) _ (.inr ⟨46, _, rfl, not_dg (.inl rfl)⟩) _ _ l1
  have l2 := valB_list h2
  rw [skip_list, g1, List.drop_succ_cons, List.drop_zero, List.append_assoc, List.cons_append] at l2
  obtain ⟨e2, g2⟩ := val_itoa y.b (by omega) _ (.inr ⟨46, _, rfl, not_dg (.inl rfl)⟩) _ _ l2
  have l3 := valB_list h3
  rw [skip_list, g2, List.drop_succ_cons, List.drop_zero] at l3
  obtain ⟨e3, g3⟩ := val_itoa y.c (by omega) _ (.inr ⟨47, _, rfl, not_dg (.inr rfl)⟩) _ _ l3
  have l4 := valB_list h4
  rw [skip_list, g3, List.drop_succ_cons, List.drop_zero, ← List.append_nil (Lib.itoa y.d)] at l4
  obtain ⟨e4, g4⟩ := val_itoa y.d (by omega) _ (.inl rfl) _ _ l4
  cases x; cases y
  simp only at e1 e2 e3 e4
  rw [e1, e2, e3, e4]
/-- both ways find the same -/
theorem ref_prog (s : ByteArray) (x : T4) (h : DecB s x) : (if validB x.a x.b x.c x.d && (textT x == s.data.toList) then (x, (0 : Int)) else (⟨0, 0, 0, 0⟩, 2)) = parT s := by
  by_cases hc : validB x.a x.b x.c x.d = true ∧ textT x = s.data.toList
  · have hs : s = ⟨(textT x).toArray⟩ := by
      apply ByteArray.ext
      apply Array.toList_inj.1
      rw [hc.2]
    rw [if_pos (by rw [hc.1, hc.2]; simp), hs]
    exact (par_text x hc.1).1.symm
  · rw [if_neg (by simpa using hc)]
    unfold parT
    by_cases hk : progOk s = true
    · exfalso
      apply hc
      unfold progOk at hk
      simp only [Bool.and_eq_true, decide_eq_true_eq, beq_iff_eq] at hk
      obtain ⟨_, hv, ht⟩ := hk
      have hs : s = ⟨(textT (progT s)).toArray⟩ := by
        apply ByteArray.ext
        apply Array.toList_inj.1
        rw [ht]
      have hx := dec_text (progT s) x hv (by rw [← hs]; exact h)
      rw [hx]
      exact ⟨hv, ht⟩
    · rw [if_neg hk]

set_option maxRecDepth 100000 in
set_option maxHeartbeats 1000000 in
theorem rvalue_calls (s : ByteArray) (w : World) (hs : s.size ≤ 1000) :
    Calls Tryz.prog 13 #[.string s] w fun e w' => ∃ v r, e = .returned (.tuple #[.int .i64 v, .string r]) ∧ ValB s v r ∧ r.size ≤ s.size ∧ i64 v ∧ Below w.heap.size w w' := by
  by_cases h0 : 0 < s.size
  · obtain ⟨e0, e00⟩ := toList_some h0
    obtain ⟨c0, hc0⟩ : ∃ c : Nat, ∀ h : 0 < s.size, (s[0]'h).toNat = c := ⟨byteAt s 0, fun h => byteAt_eq h⟩
    have hcb0 : c0 = byteAt s 0 := by rw [← hc0 h0, byteAt_eq h0]
    have HCB0 := Lib.hid hcb0
    have k0 : (0 : Int) < (s.size : Int) := by omega
    clear hcb0
    by_cases h45 : c0 = 45
    · have q45 : ((c0 : Int) == 45) = true := by rw [h45]; rfl
      obtain ⟨t, ht⟩ : ∃ t, s.extract 1 s.size = t := ⟨_, rfl⟩
      have htz : t.size + 1 = s.size := by rw [← ht, ByteArray.size_extract]; omega
      have HS := Lib.hid (fun (j d : Nat) h5 hj hd he hv => valB_neg h0 (show byteAt s 0 = 45 by rw [← HCB0.out]; exact h45) ht.symm j d h5 hj hd he hv)
      have k1 : (1 : Int) ≤ (s.size : Int) := by omega
      clear h45
      go_enter Tryz.func13, Tryz.ntmps13
      go_wp2
      try rw [ht]
      clear ht
      have hts : t.size ≤ 1000 := by omega
      go_loopw [5, 6] (fun vv iv wr => ∃ i : Nat, i ≤ 5 ∧ i ≤ t.size ∧ iv = .int .i64 (i : Int) ∧ vv = .int .i64 ((dec t i : Nat) : Int) ∧ Digi t i ∧ wr = w) (fun _ iv _ => 5 - (intOf iv).toNat)
      case atStart => exact ⟨0, by omega, by omega, rfl, rfl, fun j hj => absurd hj (Nat.not_lt_zero j), rfl⟩
      case round =>
        obtain ⟨i, hi5, hit, rfl, rfl, hd, rfl⟩ := hrel
        have hb := dec_lt t i hd
        have hb2 : 10 ^ i ≤ 10 ^ 5 := Nat.pow_le_pow_right (by omega) hi5
        obtain ⟨d, hdv⟩ : ∃ d, dec t i = d := ⟨_, rfl⟩
        rw [hdv] at hb ⊢
        have hb3 : d ≤ 99999 := by have : (10 : Nat) ^ 5 = 100000 := rfl; omega
        have HD := Lib.hid hd
        have HDV := Lib.hid hdv
        clear hd hdv hb hb2
        have nb : (0 : Int) ≤ (d : Int) := by omega
        have n1 : IntKind.i64.wrap (-(d : Int)) = -(d : Int) := IntWalk.i64_in _ (by omega)
        have n2 : wrap64 (-(d : Int)) = -(d : Int) := wrap64_small (by omega)
        by_cases hlt : i < t.size
        · have t1 : (i : Int) < (t.size : Int) := by omega
          by_cases h5 : i < 5
          · have t2 : (i : Int) < 5 := by omega
            obtain ⟨c, hc⟩ : ∃ c : Nat, ∀ h : i < t.size, (t[i]'h).toNat = c := ⟨byteAt t i, fun h => byteAt_eq h⟩
            have hcb : c = byteAt t i := by rw [← hc hlt, byteAt_eq hlt]
            have HCB := Lib.hid hcb
            have hc256 : c < 256 := by rw [hcb]; exact byteAt_lt t i
            clear hcb
            by_cases h48 : 48 ≤ c
            · have t3 : (48 : Int) ≤ (c : Int) := by omega
              by_cases h57 : c ≤ 57
              · have t4 : (c : Int) ≤ 57 := by omega
                have q1 : IntKind.u8.wrap ((c : Int) - 48) = ((c - 48 : Nat) : Int) := by rw [IntKind.wrap_u8]; omega
                have hd9 : d ≤ 9999 := by
                  have h1 := dec_lt t i HD.out
                  have h2 : 10 ^ i ≤ 10 ^ 4 := Nat.pow_le_pow_right (by omega) (by omega)
                  have h3 : (10 : Nat) ^ 4 = 10000 := rfl
                  have h4 := HDV.out
                  omega
                have q4 : IntKind.i64.wrap ((10 : Int) * (d : Int) + ((c - 48 : Nat) : Int)) = ((10 * d + (c - 48) : Nat) : Int) := by rw [IntWalk.i64_in _ (by omega)]; omega
                go_wp2
                go_roundw
                case rel => exact ⟨i + 1, by omega, by omega, by go_num, by rw [dec, HDV.out, ← HCB.out]; first | done | rfl | (congr 1; omega), fun j hj => by
                  by_cases e : j = i
                  · subst e; rw [← HCB.out]; exact ⟨h48, h57⟩
                  · exact HD.out j (by omega), trivial⟩
                case measure => simp [intOf]; omega
              · have t4 : ¬ (c : Int) ≤ 57 := by omega
                go_wp2
                go_region
                go_wp2
                go_ret2
                exact ⟨_, _, rfl, HS.out i d hi5 hit HD.out (.inr (.inr ⟨hlt, by rw [← HCB.out]; omega⟩)) HDV.out, by rw [ByteArray.size_extract]; omega, by unfold i64; omega, (Below.refl _ _).drew⟩
            · have t3 : ¬ (48 : Int) ≤ (c : Int) := by omega
              go_wp2
              go_region
              go_wp2
              go_ret2
              exact ⟨_, _, rfl, HS.out i d hi5 hit HD.out (.inr (.inr ⟨hlt, by rw [← HCB.out]; omega⟩)) HDV.out, by rw [ByteArray.size_extract]; omega, by unfold i64; omega, (Below.refl _ _).drew⟩
          · have t2 : ¬ (i : Int) < 5 := by omega
            go_wp2
            go_region
            go_wp2
            go_ret2
            exact ⟨_, _, rfl, HS.out i d hi5 hit HD.out (.inl (by omega)) HDV.out, by rw [ByteArray.size_extract]; omega, by unfold i64; omega, (Below.refl _ _).drew⟩
        · have t1 : ¬ (i : Int) < (t.size : Int) := by omega
          go_wp2
          go_region
          go_wp2
          go_ret2
          exact ⟨_, _, rfl, HS.out i d hi5 hit HD.out (.inr (.inl (by omega))) HDV.out, by rw [ByteArray.size_extract]; omega, by unfold i64; omega, (Below.refl _ _).drew⟩
    · have q45 : ((c0 : Int) == 45) = false := by rw [beq_eq_false_iff_ne]; omega
      have HS := Lib.hid (fun (j d : Nat) h5 hj hd he hv => valB_pos (s := s) (fun _ => by rw [← HCB0.out]; exact h45) j d h5 hj hd he hv)
      clear h45
      go_enter Tryz.func13, Tryz.ntmps13
      go_wp2
      have hts : s.size ≤ 1000 := by omega
      go_loopw [5, 6] (fun vv iv wr => ∃ i : Nat, i ≤ 5 ∧ i ≤ s.size ∧ iv = .int .i64 (i : Int) ∧ vv = .int .i64 ((dec s i : Nat) : Int) ∧ Digi s i ∧ wr = w) (fun _ iv _ => 5 - (intOf iv).toNat)
      case atStart => exact ⟨0, by omega, by omega, rfl, rfl, fun j hj => absurd hj (Nat.not_lt_zero j), rfl⟩
      case round =>
        obtain ⟨i, hi5, hit, rfl, rfl, hd, rfl⟩ := hrel
        have hb := dec_lt s i hd
        have hb2 : 10 ^ i ≤ 10 ^ 5 := Nat.pow_le_pow_right (by omega) hi5
        obtain ⟨d, hdv⟩ : ∃ d, dec s i = d := ⟨_, rfl⟩
        rw [hdv] at hb ⊢
        have hb3 : d ≤ 99999 := by have : (10 : Nat) ^ 5 = 100000 := rfl; omega
        have HD := Lib.hid hd
        have HDV := Lib.hid hdv
        clear hd hdv hb hb2
        have nb : (0 : Int) ≤ (d : Int) := by omega
        have n1 : IntKind.i64.wrap (-(d : Int)) = -(d : Int) := IntWalk.i64_in _ (by omega)
        have n2 : wrap64 (-(d : Int)) = -(d : Int) := wrap64_small (by omega)
        by_cases hlt : i < s.size
        · have t1 : (i : Int) < (s.size : Int) := by omega
          by_cases h5 : i < 5
          · have t2 : (i : Int) < 5 := by omega
            obtain ⟨c, hc⟩ : ∃ c : Nat, ∀ h : i < s.size, (s[i]'h).toNat = c := ⟨byteAt s i, fun h => byteAt_eq h⟩
            have hcb : c = byteAt s i := by rw [← hc hlt, byteAt_eq hlt]
            have HCB := Lib.hid hcb
            have hc256 : c < 256 := by rw [hcb]; exact byteAt_lt s i
            clear hcb
            by_cases h48 : 48 ≤ c
            · have t3 : (48 : Int) ≤ (c : Int) := by omega
              by_cases h57 : c ≤ 57
              · have t4 : (c : Int) ≤ 57 := by omega
                have q1 : IntKind.u8.wrap ((c : Int) - 48) = ((c - 48 : Nat) : Int) := by rw [IntKind.wrap_u8]; omega
                have hd9 : d ≤ 9999 := by
                  have h1 := dec_lt s i HD.out
                  have h2 : 10 ^ i ≤ 10 ^ 4 := Nat.pow_le_pow_right (by omega) (by omega)
                  have h3 : (10 : Nat) ^ 4 = 10000 := rfl
                  have h4 := HDV.out
                  omega
                have q4 : IntKind.i64.wrap ((10 : Int) * (d : Int) + ((c - 48 : Nat) : Int)) = ((10 * d + (c - 48) : Nat) : Int) := by rw [IntWalk.i64_in _ (by omega)]; omega
                go_wp2
                go_roundw
                case rel => exact ⟨i + 1, by omega, by omega, by go_num, by rw [dec, HDV.out, ← HCB.out]; first | done | rfl | (congr 1; omega), fun j hj => by
                  by_cases e : j = i
                  · subst e; rw [← HCB.out]; exact ⟨h48, h57⟩
                  · exact HD.out j (by omega), trivial⟩
                case measure => simp [intOf]; omega
              · have t4 : ¬ (c : Int) ≤ 57 := by omega
                go_wp2
                go_region
                go_wp2
                go_ret2
                exact ⟨_, _, rfl, HS.out i d hi5 hit HD.out (.inr (.inr ⟨hlt, by rw [← HCB.out]; omega⟩)) HDV.out, by rw [ByteArray.size_extract]; omega, by unfold i64; omega, (Below.refl _ _).drew⟩
            · have t3 : ¬ (48 : Int) ≤ (c : Int) := by omega
              go_wp2
              go_region
              go_wp2
              go_ret2
              exact ⟨_, _, rfl, HS.out i d hi5 hit HD.out (.inr (.inr ⟨hlt, by rw [← HCB.out]; omega⟩)) HDV.out, by rw [ByteArray.size_extract]; omega, by unfold i64; omega, (Below.refl _ _).drew⟩
          · have t2 : ¬ (i : Int) < 5 := by omega
            go_wp2
            go_region
            go_wp2
            go_ret2
            exact ⟨_, _, rfl, HS.out i d hi5 hit HD.out (.inl (by omega)) HDV.out, by rw [ByteArray.size_extract]; omega, by unfold i64; omega, (Below.refl _ _).drew⟩
        · have t1 : ¬ (i : Int) < (s.size : Int) := by omega
          go_wp2
          go_region
          go_wp2
          go_ret2
          exact ⟨_, _, rfl, HS.out i d hi5 hit HD.out (.inr (.inl (by omega))) HDV.out, by rw [ByteArray.size_extract]; omega, by unfold i64; omega, (Below.refl _ _).drew⟩
  · obtain ⟨e0, e00⟩ := toList_none (show s.size = 0 by omega)
    have k0 : ¬ (0 : Int) < (s.size : Int) := by omega
    have HS := Lib.hid (fun (j d : Nat) h5 hj hd he hv => valB_pos (s := s) (fun h => absurd h h0) j d h5 hj hd he hv)
    go_enter Tryz.func13, Tryz.ntmps13
    go_wp2
    have hts : s.size ≤ 1000 := by omega
    go_loopw [5, 6] (fun vv iv wr => ∃ i : Nat, i ≤ 5 ∧ i ≤ s.size ∧ iv = .int .i64 (i : Int) ∧ vv = .int .i64 ((dec s i : Nat) : Int) ∧ Digi s i ∧ wr = w) (fun _ iv _ => 5 - (intOf iv).toNat)
    case atStart => exact ⟨0, by omega, by omega, rfl, rfl, fun j hj => absurd hj (Nat.not_lt_zero j), rfl⟩
    case round =>
      obtain ⟨i, hi5, hit, rfl, rfl, hd, rfl⟩ := hrel
      have hb := dec_lt s i hd
      have hb2 : 10 ^ i ≤ 10 ^ 5 := Nat.pow_le_pow_right (by omega) hi5
      obtain ⟨d, hdv⟩ : ∃ d, dec s i = d := ⟨_, rfl⟩
      rw [hdv] at hb ⊢
      have hb3 : d ≤ 99999 := by have : (10 : Nat) ^ 5 = 100000 := rfl; omega
      have HD := Lib.hid hd
      have HDV := Lib.hid hdv
      clear hd hdv hb hb2
      have nb : (0 : Int) ≤ (d : Int) := by omega
      have n1 : IntKind.i64.wrap (-(d : Int)) = -(d : Int) := IntWalk.i64_in _ (by omega)
      have n2 : wrap64 (-(d : Int)) = -(d : Int) := wrap64_small (by omega)
      by_cases hlt : i < s.size
      · have t1 : (i : Int) < (s.size : Int) := by omega
        by_cases h5 : i < 5
        · have t2 : (i : Int) < 5 := by omega
          obtain ⟨c, hc⟩ : ∃ c : Nat, ∀ h : i < s.size, (s[i]'h).toNat = c := ⟨byteAt s i, fun h => byteAt_eq h⟩
          have hcb : c = byteAt s i := by rw [← hc hlt, byteAt_eq hlt]
          have HCB := Lib.hid hcb
          have hc256 : c < 256 := by rw [hcb]; exact byteAt_lt s i
          clear hcb
          by_cases h48 : 48 ≤ c
          · have t3 : (48 : Int) ≤ (c : Int) := by omega
            by_cases h57 : c ≤ 57
            · have t4 : (c : Int) ≤ 57 := by omega
              have q1 : IntKind.u8.wrap ((c : Int) - 48) = ((c - 48 : Nat) : Int) := by rw [IntKind.wrap_u8]; omega
              have hd9 : d ≤ 9999 := by
                have h1 := dec_lt s i HD.out
                have h2 : 10 ^ i ≤ 10 ^ 4 := Nat.pow_le_pow_right (by omega) (by omega)
                have h3 : (10 : Nat) ^ 4 = 10000 := rfl
                have h4 := HDV.out
                omega
              have q4 : IntKind.i64.wrap ((10 : Int) * (d : Int) + ((c - 48 : Nat) : Int)) = ((10 * d + (c - 48) : Nat) : Int) := by rw [IntWalk.i64_in _ (by omega)]; omega
              go_wp2
              go_roundw
              case rel => exact ⟨i + 1, by omega, by omega, by go_num, by rw [dec, HDV.out, ← HCB.out]; first | done | rfl | (congr 1; omega), fun j hj => by
                by_cases e : j = i
                · subst e; rw [← HCB.out]; exact ⟨h48, h57⟩
                · exact HD.out j (by omega), trivial⟩
              case measure => simp [intOf]; omega
            · have t4 : ¬ (c : Int) ≤ 57 := by omega
              go_wp2
              go_region
              go_wp2
              go_ret2
              exact ⟨_, _, rfl, HS.out i d hi5 hit HD.out (.inr (.inr ⟨hlt, by rw [← HCB.out]; omega⟩)) HDV.out, by rw [ByteArray.size_extract]; omega, by unfold i64; omega, (Below.refl _ _).drew⟩
          · have t3 : ¬ (48 : Int) ≤ (c : Int) := by omega
            go_wp2
            go_region
            go_wp2
            go_ret2
            exact ⟨_, _, rfl, HS.out i d hi5 hit HD.out (.inr (.inr ⟨hlt, by rw [← HCB.out]; omega⟩)) HDV.out, by rw [ByteArray.size_extract]; omega, by unfold i64; omega, (Below.refl _ _).drew⟩
        · have t2 : ¬ (i : Int) < 5 := by omega
          go_wp2
          go_region
          go_wp2
          go_ret2
          exact ⟨_, _, rfl, HS.out i d hi5 hit HD.out (.inl (by omega)) HDV.out, by rw [ByteArray.size_extract]; omega, by unfold i64; omega, (Below.refl _ _).drew⟩
      · have t1 : ¬ (i : Int) < (s.size : Int) := by omega
        go_wp2
        go_region
        go_wp2
        go_ret2
        exact ⟨_, _, rfl, HS.out i d hi5 hit HD.out (.inr (.inl (by omega))) HDV.out, by rw [ByteArray.size_extract]; omega, by unfold i64; omega, (Below.refl _ _).drew⟩

theorem rskip_calls (s : ByteArray) (w : World) : Calls Tryz.prog 14 #[.string s] w fun e w' => e = .returned (.string (skipB s)) ∧ w = w' := by
  by_cases h0 : s.size = 0
  · obtain ⟨e0, e00⟩ := toList_none h0
    have k0 : ((s.size : Int) == 0) = true := by rw [beq_iff_eq]; omega
    have hk : skipB s = s := by unfold skipB; rw [if_pos h0]
    have HK := Lib.hid hk
    clear h0 hk
    go_enter Tryz.func14, Tryz.ntmps14
    go_wp2
    go_ret
    exact ⟨by rw [HK.out]; rfl, rfl⟩
  · obtain ⟨e0, e00⟩ := toList_some (show 0 < s.size by omega)
    have k0 : ((s.size : Int) == 0) = false := by rw [beq_eq_false_iff_ne]; omega
    have k1 : (1 : Int) ≤ (s.size : Int) := by omega
    have hk : skipB s = s.extract 1 s.size := by unfold skipB; rw [if_neg h0]
    have HK := Lib.hid hk
    clear h0 hk
    go_enter Tryz.func14, Tryz.ntmps14
    go_wp2
    go_ret
    exact ⟨by rw [HK.out]; rfl, rfl⟩

theorem textN_step {m : Nat} (h : 10 ≤ m) : text m = text (m / 10) ++ [m % 10 + 48] := by
  unfold text
  rw [if_neg (by omega), if_neg (by omega), lows_pos (by omega), List.reverse_cons]
theorem textN_one {m : Nat} (h : m < 10) : text m = [m + 48] := by
  unfold text
  by_cases h0 : m = 0
  · rw [if_pos h0, h0]
  · rw [if_neg h0, lows_pos h0, Nat.mod_eq_of_lt h, Nat.div_eq_of_lt h, lows_zero]
    rfl
theorem textN_dec : ∀ m : Nat, (text m).map (fun x => UInt8.ofNat x) = Lib.decDigits m := by
  intro m
  induction m using Nat.strongRecOn with
  | ind m ih =>
    rw [Lib.decDigits]
    by_cases h : m < 10
    · rw [dif_pos h, textN_one h, Nat.add_comm]
      rfl
    · rw [dif_neg h, textN_step (by omega), List.map_append, ih (m / 10) (by omega), Nat.add_comm]
      rfl
theorem strOf_decT (m : Nat) : strOf (text m) = ⟨(Lib.decDigits m).toArray⟩ := by
  apply ByteArray.ext
  apply Array.toList_inj.1
  rw [strOf_toList, textN_dec]
set_option maxRecDepth 100000 in
theorem rnumberT_calls (z : Int) (w : World) (h : i64 z) : Calls Tryz.prog 21 #[.int .i64 z] w fun e w' => e = .returned (.string ⟨(Lib.itoa z).toArray⟩) ∧ Below w.heap.size w w' := by
  have hz : z.natAbs < 18446744073709551616 := by unfold i64 at h; omega
  have hl : (limbs z.natAbs).length ≤ 2 := limbs_length_le (by omega)
  have RS := fun w : World => rsize_calls z w h
  have RO := fun w : World => rof_calls z.natAbs (z.natAbs : Int) w rfl hz
  have HRS := Lib.hid RS
  have HRO := Lib.hid RO
  obtain ⟨T, hT⟩ : ∃ T : ByteArray, strOf (text z.natAbs) = T := ⟨_, rfl⟩
  have RT := fun (v : Value) (w : World) (hv : Num w v z.natAbs) => rtext_calls v z.natAbs w hv (by omega)
  rw [hT] at RT
  have HRT := Lib.hid RT
  have hT2 : (⟨(Lib.decDigits z.natAbs).toArray⟩ : ByteArray) = T := by rw [← hT, strOf_decT]
  have HT := Lib.hid hT2
  have hTs : T.size ≤ 30 := by
    rw [← hT2, size_mk]
    have := dec_len 20 z.natAbs (by have : (10 : Nat) ^ 21 = 1000000000000000000000 := rfl; omega)
    omega
  clear RS RO RT hT hT2
  by_cases hn : z < 0
  · have d1 : ¬ (1 + T.size > 9223372036854775807) := by omega
    have hres : (⟨#[45]⟩ : ByteArray) ++ T = ⟨(Lib.itoa z).toArray⟩ := by
      rw [← HT.out]
      apply ByteArray.ext
      apply Array.toList_inj.1
      rw [Joins.data_append]
      unfold Lib.itoa
      rw [if_pos hn]
      rfl
    have HRES := Lib.hid hres
    clear hres
    go_enter Tryz.func21, Tryz.ntmps21
    go_wp2_with fail
    refine (HRS.out w).mono ?_
    rintro e w1 ⟨rfl, rfl⟩
    go_wp2_with fail
    refine (HRO.out _).mono ?_
    rintro e w2 ⟨v2, rfl, h2, _, b2⟩
    go_wp2_with fail
    refine (HRT.out v2 w2 h2).mono ?_
    rintro e w3 ⟨rfl, b3⟩
    go_wp2
    go_ret
    exact ⟨by rw [← HRES.out]; rfl, below_trans b2 b3⟩
  · have hres : T = ⟨(Lib.itoa z).toArray⟩ := by
      rw [← HT.out]
      unfold Lib.itoa
      rw [if_neg hn, show z.natAbs = z.toNat by omega]
    have HRES := Lib.hid hres
    clear hres
    go_enter Tryz.func21, Tryz.ntmps21
    go_wp2_with fail
    refine (HRS.out w).mono ?_
    rintro e w1 ⟨rfl, rfl⟩
    go_wp2_with fail
    refine (HRO.out _).mono ?_
    rintro e w2 ⟨v2, rfl, h2, _, b2⟩
    go_wp2_with fail
    refine (HRT.out v2 w2 h2).mono ?_
    rintro e w3 ⟨rfl, b3⟩
    go_wp2
    go_ret
    exact ⟨by rw [← HRES.out]; rfl, below_trans b2 b3⟩

theorem four_cells {w : World} {g : Nat} {a b c d : Int} (h : Vals w g [.int .i64 a, .int .i64 b, .int .i64 c, .int .i64 d]) : w.cell? ⟨g, 0, none⟩ = some (.int .i64 a) ∧ w.cell? ⟨g, 1, none⟩ = some (.int .i64 b) ∧ w.cell? ⟨g, 2, none⟩ = some (.int .i64 c) ∧ w.cell? ⟨g, 3, none⟩ = some (.int .i64 d) :=
  ⟨by simpa using h.cell (i := 0) (by simp), by simpa using h.cell (i := 1) (by simp), by simpa using h.cell (i := 2) (by simp), by simpa using h.cell (i := 3) (by simp)⟩
set_option maxRecDepth 100000 in
set_option maxHeartbeats 1000000 in
theorem rtextT_calls (s : T4) (w : World) (hS : i64 s.a ∧ i64 s.b ∧ i64 s.c ∧ i64 s.d) : Calls Tryz.prog 9 #[.agg #[.int .i64 s.a, .int .i64 s.b, .int .i64 s.c, .int .i64 s.d]] w fun e w' => e = .returned (.string ⟨(textT s).toArray⟩) ∧ Below w.heap.size w w' := by
  have he : (⟨(textT s).toArray⟩ : ByteArray) = (⟨(Lib.itoa s.a).toArray⟩ : ByteArray) ++ ⟨#[46]⟩ ++ ⟨(Lib.itoa s.b).toArray⟩ ++ ⟨#[46]⟩ ++ ⟨(Lib.itoa s.c).toArray⟩ ++ ⟨#[47]⟩ ++ ⟨(Lib.itoa s.d).toArray⟩ := by
    apply ByteArray.ext
    apply Array.toList_inj.1
    simp only [Joins.data_append, toList_mk, textT_eq]
    simp
  rw [he]
  clear he
  obtain ⟨a, b, c, d⟩ := s
  obtain ⟨ia, ib, ic, id⟩ := hS
  dsimp only at ia ib ic id ⊢
  have NA := fun w : World => rnumberT_calls a w ia
  have NB := fun w : World => rnumberT_calls b w ib
  have NC := fun w : World => rnumberT_calls c w ic
  have ND := fun w : World => rnumberT_calls d w id
  have za := Lib.itoa_length_le a ia.1 ia.2
  have zb := Lib.itoa_length_le b ib.1 ib.2
  have zc := Lib.itoa_length_le c ic.1 ic.2
  have zd := Lib.itoa_length_le d id.1 id.2
  rw [← size_mk] at za zb zc zd
  obtain ⟨ja, ha⟩ : ∃ j : ByteArray, ⟨(Lib.itoa a).toArray⟩ = j := ⟨_, rfl⟩
  obtain ⟨jb, hb⟩ : ∃ j : ByteArray, ⟨(Lib.itoa b).toArray⟩ = j := ⟨_, rfl⟩
  obtain ⟨jc, hc⟩ : ∃ j : ByteArray, ⟨(Lib.itoa c).toArray⟩ = j := ⟨_, rfl⟩
  obtain ⟨jd, hd⟩ : ∃ j : ByteArray, ⟨(Lib.itoa d).toArray⟩ = j := ⟨_, rfl⟩
  rw [ha] at NA za ⊢
  rw [hb] at NB zb ⊢
  rw [hc] at NC zc ⊢
  rw [hd] at ND zd ⊢
  have HNA := Lib.hid NA
  have HNB := Lib.hid NB
  have HNC := Lib.hid NC
  have HND := Lib.hid ND
  clear ha hb hc hd NA NB NC ND ia ib ic id
  have d1 : ¬ (ja.size + 1 > 9223372036854775807) := by omega
  have d2 : ¬ (ja.size + 1 + jb.size > 9223372036854775807) := by omega
  have d3 : ¬ (ja.size + 1 + jb.size + 1 > 9223372036854775807) := by omega
  have d4 : ¬ (ja.size + 1 + jb.size + 1 + jc.size > 9223372036854775807) := by omega
  have d5 : ¬ (ja.size + 1 + jb.size + 1 + jc.size + 1 > 9223372036854775807) := by omega
  have d6 : ¬ (ja.size + 1 + jb.size + 1 + jc.size + 1 + jd.size > 9223372036854775807) := by omega
  have vs := Vals.newL w w.heap.size [.int .i64 a, .int .i64 b, .int .i64 c, .int .i64 d] 23 rfl
  have B := below_alloc w (.cells #[.int .i64 a, .int .i64 b, .int .i64 c, .int .i64 d] 23)
  go_enter Tryz.func9, Tryz.ntmps9
  go_wp2
  generalize w.alloc (.cells #[.int .i64 a, .int .i64 b, .int .i64 c, .int .i64 d] 23) = w0 at *
  go_region_held3 (fun W => W.cell? ⟨w.heap.size, 0, none⟩ = some (.int .i64 a) ∧ W.cell? ⟨w.heap.size, 1, none⟩ = some (.int .i64 b) ∧ W.cell? ⟨w.heap.size, 2, none⟩ = some (.int .i64 c) ∧ W.cell? ⟨w.heap.size, 3, none⟩ = some (.int .i64 d))
    (first | exact four_cells vs | exact four_cells (w := w0.drew) vs)
    (first | (go_at_call_of 21 (Value.int .i64 a); (with_reducible refine (HNA.out _).mono ?_); rintro e w1 ⟨rfl, b1⟩; replace vs := Vals.mono (w := w0.drew) vs b1; replace B := below_trans B.drew b1; clear b1)
           | (go_at_call_of 21 (Value.int .i64 b); (with_reducible refine (HNB.out _).mono ?_); rintro e w2 ⟨rfl, b2⟩; replace vs := vs.mono b2; replace B := below_trans B b2; clear b2)
           | (go_at_call_of 21 (Value.int .i64 c); (with_reducible refine (HNC.out _).mono ?_); rintro e w3 ⟨rfl, b3⟩; replace vs := vs.mono b3; replace B := below_trans B b3; clear b3)
           | (go_at_call_of 21 (Value.int .i64 d); (with_reducible refine (HND.out _).mono ?_); rintro e w4 ⟨rfl, b4⟩; replace vs := vs.mono b4; replace B := below_trans B b4; clear b4))
  go_wp2
  go_ret
  exact ⟨rfl, B⟩

set_option maxRecDepth 100000 in
set_option maxHeartbeats 1000000 in
theorem rparseT_calls (s : ByteArray) (w : World) (hs : s.size ≤ 1000) : Calls Tryz.prog 5 #[.string s] w (RetT w (parT s)) := by
  have vr := Vals.newL w (w.heap.size) [.int .i64 0, .int .i64 0, .int .i64 0, .int .i64 0] 23 rfl
  have bb := below_alloc w (.cells #[.int .i64 0, .int .i64 0, .int .i64 0, .int .i64 0] 23)
  have B := bb
  clear bb
  go_enter Tryz.func5, Tryz.ntmps5
  go_wp2_with fail
  generalize (w.alloc (.cells #[.int .i64 0, .int .i64 0, .int .i64 0, .int .i64 0] 23)) = w0 at *
  refine (rvalue_calls s _ hs).mono ?_
  rintro e w1 ⟨x1, r1, rfl, h1, z1, i1, b1⟩
  replace vr := vr.mono b1
  replace B := below_trans B b1
  clear b1
  go_wp2_with fail
  refine (rskip_calls r1 _).mono ?_
  rintro e wq ⟨rfl, rfl⟩
  go_wp2_with fail
  refine (rvalue_calls (skipB r1) _ (by have := skip_size r1; omega)).mono ?_
  rintro e w2 ⟨x2, r2, rfl, h2, z2, i2, b2⟩
  replace vr := vr.mono b2
  replace B := below_trans B b2
  clear b2
  replace z2 : r2.size ≤ 1000 := by have := skip_size r1; omega
  go_wp2_with fail
  refine (rskip_calls r2 _).mono ?_
  rintro e wq ⟨rfl, rfl⟩
  go_wp2_with fail
  refine (rvalue_calls (skipB r2) _ (by have := skip_size r2; omega)).mono ?_
  rintro e w3 ⟨x3, r3, rfl, h3, z3, i3, b3⟩
  replace vr := vr.mono b3
  replace B := below_trans B b3
  clear b3
  replace z3 : r3.size ≤ 1000 := by have := skip_size r2; omega
  go_wp2_with fail
  refine (rskip_calls r3 _).mono ?_
  rintro e wq ⟨rfl, rfl⟩
  go_wp2_with fail
  refine (rvalue_calls (skipB r3) _ (by have := skip_size r3; omega)).mono ?_
  rintro e w4 ⟨x4, r4, rfl, h4, z4, i4, b4⟩
  replace vr := vr.mono b4
  replace B := below_trans B b4
  clear b4
  replace z4 : r4.size ≤ 1000 := by have := skip_size r3; omega
  have HPT := Lib.hid (ref_prog s ⟨x1, x2, x3, x4⟩ ⟨r1, r2, r3, r4, h1, h2, h3, h4⟩)
  clear h1 h2 h3 h4 z1 z2 z3 z4
  go_wp2_with fail
  have v10 := Vals.newL w4 w4.heap.size [.int .i64 x1, .int .i64 x2, .int .i64 x3, .int .i64 x4] 23 rfl
  have bb := below_alloc w4 (.cells #[.int .i64 x1, .int .i64 x2, .int .i64 x3, .int .i64 x4] 23)
  replace vr := vr.mono bb
  replace B := below_trans B bb
  clear bb
  generalize w4.alloc (.cells #[.int .i64 x1, .int .i64 x2, .int .i64 x3, .int .i64 x4] 23) = w5 at *
  have VA := rvalid_calls ⟨x1, x2, x3, x4⟩ w5 ⟨i1, i2, i3, i4⟩
  have VT := fun w : World => rtextT_calls ⟨x1, x2, x3, x4⟩ w ⟨i1, i2, i3, i4⟩
  dsimp only at VA VT HPT
  by_cases hv : validB x1 x2 x3 x4 = true
  · rw [hv] at VA HPT
    have HVT := Lib.hid VT
    clear VT hv
    refine VA.mono ?_
    rintro e y1 ⟨rfl, bb⟩
    replace v10 := v10.mono bb
    replace vr := vr.mono bb
    replace B := below_trans B bb
    clear bb VA
    have cv100 := v10.cell (i := 0) (by simp)
    have cv101 := v10.cell (i := 1) (by simp)
    have cv102 := v10.cell (i := 2) (by simp)
    have cv103 := v10.cell (i := 3) (by simp)
    simp only [List.getD_cons_zero, List.getD_cons_succ] at cv100 cv101 cv102 cv103
    have ltv10 := v10.lt
    go_wp2_with fail
    clear cv100 cv101 cv102 cv103 ltv10
    refine (HVT.out _).mono ?_
    rintro e y2 ⟨rfl, bb⟩
    obtain ⟨TT, hTT⟩ : ∃ T, textT ⟨x1, x2, x3, x4⟩ = T := ⟨_, rfl⟩
    rw [hTT] at HPT ⊢
    replace v10 := v10.mono bb
    replace vr := vr.mono bb
    replace B := below_trans B bb
    clear bb HVT hTT
    by_cases heq : (TT == s.data.toList) = true
    · have heq3 : (TT == s.toList) = true := by rw [Lib.toList_data]; exact heq
      rw [heq] at HPT
      have cv100 := v10.cell (i := 0) (by simp)
      have cv101 := v10.cell (i := 1) (by simp)
      have cv102 := v10.cell (i := 2) (by simp)
      have cv103 := v10.cell (i := 3) (by simp)
      simp only [List.getD_cons_zero, List.getD_cons_succ] at cv100 cv101 cv102 cv103
      have ltv10 := v10.lt
      have cvr0 := vr.cell (i := 0) (by simp)
      have cvr1 := vr.cell (i := 1) (by simp)
      have cvr2 := vr.cell (i := 2) (by simp)
      have cvr3 := vr.cell (i := 3) (by simp)
      simp only [List.getD_cons_zero, List.getD_cons_succ] at cvr0 cvr1 cvr2 cvr3
      have ltvr := vr.lt
      have fvr0 := vr.frozen 0
      have fvr1 := vr.frozen 1
      have fvr2 := vr.frozen 2
      have fvr3 := vr.frozen 3
      go_wp2
      obtain ⟨te, hgq⟩ := vr.set4 (.int .i64 x1) (.int .i64 x2) (.int .i64 x3) (.int .i64 x4)
      refine bodyPost_ret_by (results_cell_tmp rfl _ _ (w.heap.size) te _ (0, 0) _ rfl hgq Tryz.underlying23 rfl (by kernel_rfl) (.int .i64 0) rfl) rfl ?_
      rw [← HPT.out]
      exact ⟨rfl, below_set4 B (by omega) _ _ _ _⟩
    · have heq2 : (TT == s.data.toList) = false := by simpa using heq
      have heq3 : (TT == s.toList) = false := by rw [Lib.toList_data]; exact heq2
      rw [heq2] at HPT
      clear heq heq2
      have cvr0 := vr.cell (i := 0) (by simp)
      have cvr1 := vr.cell (i := 1) (by simp)
      have cvr2 := vr.cell (i := 2) (by simp)
      have cvr3 := vr.cell (i := 3) (by simp)
      simp only [List.getD_cons_zero, List.getD_cons_succ] at cvr0 cvr1 cvr2 cvr3
      have ltvr := vr.lt
      have fvr0 := vr.frozen 0
      have fvr1 := vr.frozen 1
      have fvr2 := vr.frozen 2
      have fvr3 := vr.frozen 3
      go_wp2
      obtain ⟨te, hgq⟩ := vr.set4 (.int .i64 0) (.int .i64 0) (.int .i64 0) (.int .i64 0)
      refine bodyPost_ret_by (results_cell_tmp rfl _ _ (w.heap.size) te _ (0, 0) _ rfl hgq Tryz.underlying23 rfl (by kernel_rfl) (.int .i64 2) rfl) rfl ?_
      rw [← HPT.out]
      exact ⟨rfl, below_set4 B (by omega) _ _ _ _⟩
  · have hv2 : validB x1 x2 x3 x4 = false := by simpa using hv
    rw [hv2] at VA HPT
    clear VT hv hv2
    refine VA.mono ?_
    rintro e y1 ⟨rfl, bb⟩
    replace v10 := v10.mono bb
    replace vr := vr.mono bb
    replace B := below_trans B bb
    clear bb VA
    have cvr0 := vr.cell (i := 0) (by simp)
    have cvr1 := vr.cell (i := 1) (by simp)
    have cvr2 := vr.cell (i := 2) (by simp)
    have cvr3 := vr.cell (i := 3) (by simp)
    simp only [List.getD_cons_zero, List.getD_cons_succ] at cvr0 cvr1 cvr2 cvr3
    have ltvr := vr.lt
    have fvr0 := vr.frozen 0
    have fvr1 := vr.frozen 1
    have fvr2 := vr.frozen 2
    have fvr3 := vr.frozen 3
    go_wp2
    obtain ⟨te, hgq⟩ := vr.set4 (.int .i64 0) (.int .i64 0) (.int .i64 0) (.int .i64 0)
    refine bodyPost_ret_by (results_cell_tmp rfl _ _ (w.heap.size) te _ (0, 0) _ rfl hgq Tryz.underlying23 rfl (by kernel_rfl) (.int .i64 2) rfl) rfl ?_
    rw [← HPT.out]
    exact ⟨rfl, below_set4 B (by omega) _ _ _ _⟩

end Go.Proofs
