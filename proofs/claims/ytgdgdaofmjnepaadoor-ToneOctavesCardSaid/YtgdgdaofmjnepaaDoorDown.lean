/- nat.down: divided by a power of 2. -/
import Derived.Test.YtgdgdaofmjnepaaDoorOwn
open Go.RowKit
namespace Go.Proofs
set_option linter.unusedVariables false

theorem set_at_end (ds zs : List Nat) (i d : Nat) (hl : ds.length = i) (hi : i < zs.length) : (ds ++ zs.drop i).set i d = (ds ++ [d]) ++ zs.drop (i + 1) := by
  subst hl
  rw [List.set_append_right _ _ (Nat.le_refl _), Nat.sub_self, List.drop_eq_getElem_cons hi, List.set_cons_zero, List.append_assoc]
  rfl

theorem getD_at_end (ds zs : List Nat) (i k : Nat) (hl : ds.length = i) : (ds ++ zs.drop i).getD (i + k) 0 = zs.getD (i + k) 0 := by
  subst hl
  simp [List.getD, List.getElem?_append_right]

theorem cast_shr (x y r : Nat) : ((y : Int) * 4294967296 + (x : Int)) / 2 ^ r % 4294967296 = (((x + 4294967296 * y) / 2 ^ r % 4294967296 : Nat) : Int) := by
  have e1 : (y : Int) * 4294967296 + (x : Int) = ((x + 4294967296 * y : Nat) : Int) := by omega
  have e2 : (2 : Int) ^ r = ((2 ^ r : Nat) : Int) := by simp
  rw [e1, e2, ← Int.natCast_ediv]
  omega

theorem cast_shr0 (x r : Nat) : (x : Int) / 2 ^ r % 4294967296 = (((x + 4294967296 * 0) / 2 ^ r % 4294967296 : Nat) : Int) := by
  have e2 : (2 : Int) ^ r = ((2 ^ r : Nat) : Int) := by simp
  rw [Nat.mul_zero, Nat.add_zero, e2, ← Int.natCast_ediv]
  omega

set_option maxRecDepth 100000 in
theorem down_raw (ad : Option Addr) (c n : Nat) (xs : List Nat) (w : World) (hx : Sl w ad c xs) (h0 : n / 32 < xs.length) (hreach : xs.length ≤ 1000000000) (hn : n ≤ 32000000000) :
    Calls Tryd.prog 133 #[.slice ad xs.length c, .int .i64 n] w (RetNum w (val (xs.drop (n / 32)) / 2 ^ (n % 32))) := by
  obtain ⟨words, hw⟩ : ∃ k, k = n / 32 := ⟨_, rfl⟩
  obtain ⟨rest, hr⟩ : ∃ k, k = n % 32 := ⟨_, rfl⟩
  have ew : (n : Int) / 32 = (words : Int) := by omega
  have er : (n : Int) % 32 = (rest : Int) := by omega
  have hr31 : rest ≤ 31 := by omega
  rw [← hw] at h0
  rw [← hw, ← hr]
  obtain ⟨b, o, rfl, hbs, _, _⟩ := hx.open h0
  have hc := hx.1
  have hcm := hx.2.1
  unfold maxLen at hcm
  have hsd := hx.drop b o words rfl (by omega)
  have hdl : (xs.drop words).length = xs.length - words := List.length_drop
  have Hdl := Lib.hid hdl
  clear hw hr hdl
  go_enter Tryd.func133, Tryd.ntmps133
  go_wp2_with fail
  clear ew er
  refine (own_raw _ _ _ _ w hsd Hdl.out.symm (by have := Hdl.out; omega)).mono ?_
  rintro e w1 ⟨ad', c', rfl, hs1, hf1, hb1⟩
  have Hs1 := Lib.hid hs1
  have hzl : (xs.drop words).length ≤ 4000000000 := by have := Hdl.out; omega
  rw [← Hdl.out]
  generalize xs.drop words = zs at *
  clear Hdl hsd hs1
  go_wp2_with fail
  go_loopw [25] (fun iv wr => ∃ (i : Nat) (ds : List Nat), i ≤ zs.length ∧ ds.length = i ∧ iv = .int .i64 i ∧ Sl wr ad' c' (ds ++ zs.drop i) ∧ Below w.heap.size w wr ∧
      val ds + 4294967296 ^ i * (val (zs.drop i) / 2 ^ rest) = val zs / 2 ^ rest)
    (fun iv _ => zs.length - (intOf iv).toNat)
  case atStart => exact ⟨0, [], Nat.zero_le _, rfl, rfl, by simpa using Hs1.out, hb1, by simp [val]⟩
  case round =>
    obtain ⟨i, ds, hi, hdl, rfl, hsl, hbel, hval⟩ := hrel
    have Hdl := Lib.hid hdl
    have Hval := Lib.hid hval
    have Hsl := Lib.hid hsl
    clear hdl hval hsl
    by_cases hlt : i < zs.length
    · have hfull : (ds ++ zs.drop i).length = zs.length := by rw [List.length_append, List.length_drop, Hdl.out]; omega
      obtain ⟨b2, o2, rfl, hbs2, hcell, hfr⟩ := Hsl.out.open (i := i) (by omega)
      have hB := hf1 _ rfl
      have hz1 := Hsl.out.lt i
      have ez : (ds ++ zs.drop i).getD i 0 = zs.getD i 0 := getD_at_end ds zs i 0 Hdl.out
      rw [ez] at hcell hz1
      have hnext : i + 1 < zs.length → wr.cell? ⟨b2, o2 + (i + 1), none⟩ = some (.int .u32 (zs.getD (i + 1) 0)) ∧ zs.getD (i + 1) 0 < 4294967296 := by
        intro h
        obtain ⟨b3, o3, e3, _, hc3, _⟩ := Hsl.out.open (i := i + 1) (by omega)
        have hl3 := Hsl.out.lt (i + 1)
        cases e3
        have ez3 : (ds ++ zs.drop i).getD (i + 1) 0 = zs.getD (i + 1) 0 := getD_at_end ds zs i 1 Hdl.out
        rw [ez3] at hc3 hl3
        exact ⟨hc3, hl3⟩
      have hvi := val_drop_cons zs i hlt
      obtain ⟨x, ex⟩ : ∃ x, zs.getD i 0 = x := ⟨_, rfl⟩
      rw [ex] at hcell hz1 hvi
      have Hfull := Lib.hid hfull
      clear hfull ez ex
      by_cases hn1 : i + 1 < zs.length
      · obtain ⟨hcell2, hy1⟩ := hnext hn1
        have hvi2 := val_drop_cons zs (i + 1) hn1
        obtain ⟨y, ey⟩ : ∃ x, zs.getD (i + 1) 0 = x := ⟨_, rfl⟩
        rw [ey] at hcell2 hy1 hvi2
        have hor := or_limbs' y x hy1 hz1
        have Hvi := Lib.hid hvi
        have Hvi2 := Lib.hid hvi2
        clear hnext ey hvi hvi2
        go_wp2
        go_roundw
        case rel =>
          have hd := down_digit x (val (zs.drop (i + 1))) rest (by omega) hz1
          have hm : val (zs.drop (i + 1)) % 4294967296 = y := by rw [Hvi2.out, Nat.add_mul_mod_self_left, Nat.mod_eq_of_lt hy1]
          rw [hm, ← Hvi.out] at hd
          have hset := Hsl.out.set i ((x + 4294967296 * y) / 2 ^ rest % 4294967296) (by rw [Hfull.out]; exact hlt) (Nat.mod_lt _ (by omega)) _ (cast_shr x y rest)
          rw [set_at_end _ _ _ _ Hdl.out hlt] at hset
          refine ⟨i + 1, ds ++ [(x + 4294967296 * y) / 2 ^ rest % 4294967296], by omega, by simp [Hdl.out], by go_num, hset, hbel.setCell (p := ⟨b2, o2 + i, none⟩) hB _, ?_⟩
          rw [val_snoc, Hdl.out, ← Hval.out, hd, Nat.pow_succ]
          generalize (x + 4294967296 * y) / 2 ^ rest % 4294967296 = d
          generalize val (zs.drop (i + 1)) / 2 ^ rest = q
          generalize 4294967296 ^ i = p
          grind
        case measure => simp [intOf]; omega
      · have hv0 : val (zs.drop (i + 1)) = 0 := by rw [List.drop_of_length_le (by omega)]; rfl
        have Hvi := Lib.hid hvi
        have Hv0 := Lib.hid hv0
        clear hnext hvi hv0
        go_wp2
        go_roundw
        case rel =>
          have hd := down_digit x (val (zs.drop (i + 1))) rest (by omega) hz1
          rw [← Hvi.out, Hv0.out, Nat.zero_mod] at hd
          have hset := Hsl.out.set i ((x + 4294967296 * 0) / 2 ^ rest % 4294967296) (by rw [Hfull.out]; exact hlt) (Nat.mod_lt _ (by omega)) _ (cast_shr0 x rest)
          rw [set_at_end _ _ _ _ Hdl.out hlt] at hset
          refine ⟨i + 1, ds ++ [(x + 4294967296 * 0) / 2 ^ rest % 4294967296], by omega, by simp [Hdl.out], by go_num, hset, hbel.setCell (p := ⟨b2, o2 + i, none⟩) hB _, ?_⟩
          rw [val_snoc, Hdl.out, ← Hval.out, hd, Nat.pow_succ, Hv0.out]
          generalize (x + 4294967296 * 0) / 2 ^ rest % 4294967296 = d
          generalize 0 / 2 ^ rest = q
          generalize 4294967296 ^ i = p
          grind
        case measure => simp [intOf]; omega
    · obtain rfl : i = zs.length := by omega
      have hsl := Hsl.out
      rw [List.drop_of_length_le (Nat.le_refl _), List.append_nil] at hsl
      have hv : val ds = val zs / 2 ^ rest := by
        have := Hval.out
        rw [List.drop_of_length_le (Nat.le_refl _), val, Nat.zero_div, Nat.mul_zero, Nat.add_zero] at this
        exact this
      have Hv := Lib.hid hv
      clear hv
      go_wp2_with (go_at_call 116; refine (trim_calls _ _ _ ds _ hsl Hdl.out.symm).mono ?_; rintro e w' ⟨kk, rfl, hnum, rfl⟩)
      go_ret
      rw [Hv.out] at hnum
      exact ⟨_, rfl, hnum, fresh_of hf1, hbel⟩

theorem down_div (m n : Nat) : m / 4294967296 ^ (n / 32) / 2 ^ (n % 32) = m / 2 ^ n := by
  have e : (4294967296 : Nat) = 2 ^ 32 := by decide
  rw [e, ← Nat.pow_mul, Nat.div_div_eq_div_mul, ← Nat.pow_add, Nat.div_add_mod]

/-- down divides by a power of 2. -/
theorem down_calls (v : Value) (m n : Nat) (z : Int) (w : World) (hv : Num w v m) (hz : z = (n : Int)) (hreach : (limbs m).length ≤ 1000000000) (hn : n ≤ 32000000000) :
    Calls Tryd.prog 133 #[v, .int .i64 z] w (RetNum w (m / 2 ^ n)) := by
  obtain ⟨ad, c, rfl, hs⟩ := hv
  subst hz
  by_cases h0 : n / 32 < (limbs m).length
  · have := down_raw ad c n _ w hs h0 hreach hn
    rwa [← limbs_drop h0, val_limbs, down_div] at this
  · have hlt : m < 4294967296 ^ (n / 32) := limbs_length_le_iff.1 (by omega)
    have e : m / 2 ^ n = 0 := by rw [← down_div, Nat.div_eq_of_lt hlt, Nat.zero_div]
    rw [e]
    have t0 : ((limbs m).length : Int) ≤ (n : Int) / 32 := by omega
    clear e hlt
    go_enter Tryd.func133, Tryd.ntmps133
    go_wp2
    go_ret
    exact ⟨_, rfl, Num.nil _, trivial, Below.refl _ _⟩

end Go.Proofs
