/- book.put: a number in bytes. book.sum: some number of the bytes. book.encode. The disk: ready, act, Append, Sync. The book: Broken, Would, Count, Balance. Post. -/
import Derived.Test.YtghbjhcbldnenaaGreatDoorPk07
import Derived.Lib.AppendStr
import Derived.Test.YtghbjhcbldnenaaGreatDoorPk08
import Derived.Lib.SliceRun

section
open Go.RowKit Go.Deep Go.Maps
namespace Go.Proofs
set_option linter.unusedVariables false
set_option linter.unusedSimpArgs false

/-- bytes as cells -/
def nby (xs : List Nat) : List Value := xs.map fun (x : Nat) => Value.int .u8 (x : Int)
theorem nby_len (xs : List Nat) : (nby xs).length = xs.length := by simp [nby]
theorem nby_app (xs ys : List Nat) : nby (xs ++ ys) = nby xs ++ nby ys := by simp [nby]
theorem nby_one (xs : List Nat) : ∀ u ∈ nby xs, u.oneCell' = true := by
  intro u hu
  simp only [nby, List.mem_map] at hu
  obtain ⟨b, _, rfl⟩ := hu
  rfl
theorem nby_get (xs : List Nat) {i : Nat} (hi : i < xs.length) : (nby xs)[i]? = some (.int .u8 ((xs.getD i 0 : Nat) : Int)) := by
  simp [nby, List.getD, List.getElem?_eq_getElem hi]
theorem info_u8 : (Tryz.prog.info? 5).map (fun i => (i.zero, i.size, i.bytes)) = some (some (.int .u8 0), 1, 1) := by kernel_rfl
/-- bytes of the call's own -/
def OwnY (w : World) (B : Nat) (v : Value) (xs : List Nat) : Prop := w.ownsRow B 5 1 v xs.length (nby xs)
/-- bytes that can be read -/
def InY (w : World) (v : Value) (xs : List Nat) : Prop := ∃ ad c, v = .slice ad xs.length c ∧ RdV w ad c xs.length 1 (nby xs)
theorem InY.mono {w w' : World} {v : Value} {L : List Nat} (h : InY w v L) (hb : Below w.heap.size w w') : InY w' v L := by
  obtain ⟨ad, c, e, h⟩ := h
  exact ⟨ad, c, e, h.mono hb⟩
theorem OwnY.inY {w B v xs} (h : OwnY w B v xs) : InY w v xs := by
  obtain ⟨ad, c, e, r, _⟩ := ownsRow_rd h
  exact ⟨ad, c, e, r⟩
/-- the first j of the bytes of a number, the highest first -/
def beT (n size : Nat) : Nat → List Nat
  | 0 => []
  | j + 1 => beT n size j ++ [n / 256 ^ (size - 1 - j) % 256]
def be (n size : Nat) : List Nat := beT n size size
theorem beT_len (n size : Nat) : ∀ j, (beT n size j).length = j
  | 0 => rfl
  | j + 1 => by rw [beT, List.length_append, beT_len n size j]; rfl

set_option maxRecDepth 100000 in
set_option maxHeartbeats 4000000 in
theorem put_calls (B : Nat) (v : Value) (xs : List Nat) (n size : Nat) (w : World) (hs : 1 ≤ size ∧ size ≤ 4) (hn : n < 4294967296) (hown : OwnY w B v xs) (hB : B ≤ w.heap.size) (hl : xs.length ≤ 100000) :
    Calls Tryz.prog 37 #[v, .int .u32 (n : Int), .int .i64 (size : Int)] w fun e w' => ∃ v', e = .returned v' ∧ OwnY w' B v' (xs ++ be n size) ∧ Below B w w' := by
  obtain ⟨hs1, hs2⟩ := hs
  obtain ⟨ad, c, rfl⟩ := ownsRow_form hown
  obtain ⟨m, hm⟩ : ∃ m, xs.length = m := ⟨_, rfl⟩
  unfold OwnY at hown
  rw [hm] at hown hl ⊢
  have HM := Lib.hid hm
  have HW := Lib.hid hown
  clear hm hown
  have hsz : IntKind.i64.wrap ((size : Int) - 1) = (size : Int) - 1 := IntWalk.i64_in _ (by omega)
  go_enter Tryz.func37, Tryz.ntmps37
  go_wp2
  go_loopw [0, 7] (fun ov iv wr => ∃ (j : Nat) (i : Int), iv = .int .i64 i ∧ i = (size : Int) - 1 - (j : Int) ∧ j ≤ size ∧ (∃ a c, ov = .slice a (m + j) c) ∧ wr.ownsRow B 5 1 ov (m + j) (nby (xs ++ beT n size j)) ∧ Below B w wr)
    (fun _ iv _ => (intOf iv + 1).toNat)
  case atStart => exact ⟨0, _, rfl, by omega, Nat.zero_le _, ⟨_, _, rfl⟩, by rw [show beT n size 0 = [] from rfl, List.append_nil]; exact HW.out, Below.refl _ _⟩
  case round =>
    obtain ⟨j, i, rfl, hij, hj, ⟨oa, oc, rfl⟩, ho, Bw⟩ := hrel
    by_cases h1 : j < size
    · obtain ⟨k, hk⟩ : ∃ k : Nat, size = k + 1 + j := ⟨size - 1 - j, by omega⟩
      have hi : i = (k : Int) := by omega
      subst hi
      have hk4 : k ≤ 3 := by omega
      have hnx : beT n size (j + 1) = beT n size j ++ [n / 256 ^ k % 256] := by rw [beT, show size - 1 - j = k by omega]
      have HNX := Lib.hid hnx
      have HIJ := Lib.hid hij
      have HK := Lib.hid hk
      clear hnx hij hk
      rcases (show k = 0 ∨ k = 1 ∨ k = 2 ∨ k = 3 by omega) with rfl | rfl | rfl | rfl
      · have hz : (n : Int) % 256 = ((n / 256 ^ 0 % 256 : Nat) : Int) := by
          show _ = ((n / 1 % 256 : Nat) : Int)
          omega
        have bb := below_alloc wr (.cells #[.int .u8 ((n : Int) % 256)] 5)
        have HO := Lib.hid (ownsRow_mono ho bb)
        have HR := Lib.hid (ownsRow_rds (ownsRow_lit wr 5 1 1 [.int .u8 ((n : Int) % 256)] _ rfl rfl (by unfold maxLen; omega))).1
        have HBB := Lib.hid (Bw.trans (bb.mono (Nat.le_trans hB Bw.size)))
        have hle : B ≤ (wr.alloc (.cells #[.int .u8 ((n : Int) % 256)] 5)).heap.size := Nat.le_trans (Nat.le_trans hB Bw.size) bb.size
        have HA := Lib.hid (show nby (xs ++ beT n size (j + 1)) = nby (xs ++ beT n size j) ++ [.int .u8 ((n : Int) % 256)] by rw [HNX.out, ← List.append_assoc, nby_app, hz]; rfl)
        have i2 : (0 : Int) - 1 = (size : Int) - 1 - ((j + 1 : Nat) : Int) := by have := HIJ.out; omega
        have I2 := Lib.hid i2
        clear ho bb hz Bw i2
        go_wp2_with (at_builtin; refine wpList_append_rv rfl (.tmp 14) (.tmp 20) _ rfl B 5 _ 1 1 Tryz.underlying49 info_u8 rfl (by decide) _ (m + j) _ rfl HO.out _ 1 1 _ rfl HR.out (by intro u hu; simp only [List.mem_cons, List.not_mem_nil, or_false] at hu; subst hu; rfl) (by unfold maxLen; omega) (by omega) hle (m + j + 1) rfl _ HA.out ?_; intro ad2 c2 w7 hown7 hg7 hn7 hb7 hk7; have O7 := Lib.hid hown7; have B7 := Lib.hid (HBB.out.trans hb7); clear hown7 hg7 hn7 hb7 hk7)
        go_roundw
        case rel => exact ⟨j + 1, _, rfl, I2.out, by omega, ⟨ad2, c2, rfl⟩, O7.out, B7.out⟩
        case measure => simp [intOf]
      · have hz : (n : Int) / 256 % 256 = ((n / 256 ^ 1 % 256 : Nat) : Int) := by
          show _ = ((n / 256 % 256 : Nat) : Int)
          omega
        have bb := below_alloc wr (.cells #[.int .u8 ((n : Int) / 256 % 256)] 5)
        have HO := Lib.hid (ownsRow_mono ho bb)
        have HR := Lib.hid (ownsRow_rds (ownsRow_lit wr 5 1 1 [.int .u8 ((n : Int) / 256 % 256)] _ rfl rfl (by unfold maxLen; omega))).1
        have HBB := Lib.hid (Bw.trans (bb.mono (Nat.le_trans hB Bw.size)))
        have hle : B ≤ (wr.alloc (.cells #[.int .u8 ((n : Int) / 256 % 256)] 5)).heap.size := Nat.le_trans (Nat.le_trans hB Bw.size) bb.size
        have HA := Lib.hid (show nby (xs ++ beT n size (j + 1)) = nby (xs ++ beT n size j) ++ [.int .u8 ((n : Int) / 256 % 256)] by rw [HNX.out, ← List.append_assoc, nby_app, hz]; rfl)
        have i2 : (1 : Int) - 1 = (size : Int) - 1 - ((j + 1 : Nat) : Int) := by have := HIJ.out; omega
        have I2 := Lib.hid i2
        clear ho bb hz Bw i2
        go_wp2_with (at_builtin; refine wpList_append_rv rfl (.tmp 14) (.tmp 20) _ rfl B 5 _ 1 1 Tryz.underlying49 info_u8 rfl (by decide) _ (m + j) _ rfl HO.out _ 1 1 _ rfl HR.out (by intro u hu; simp only [List.mem_cons, List.not_mem_nil, or_false] at hu; subst hu; rfl) (by unfold maxLen; omega) (by omega) hle (m + j + 1) rfl _ HA.out ?_; intro ad2 c2 w7 hown7 hg7 hn7 hb7 hk7; have O7 := Lib.hid hown7; have B7 := Lib.hid (HBB.out.trans hb7); clear hown7 hg7 hn7 hb7 hk7)
        go_roundw
        case rel => exact ⟨j + 1, _, rfl, I2.out, by omega, ⟨ad2, c2, rfl⟩, O7.out, B7.out⟩
        case measure => simp [intOf]
      · have hz : (n : Int) / 65536 % 256 = ((n / 256 ^ 2 % 256 : Nat) : Int) := by
          show _ = ((n / 65536 % 256 : Nat) : Int)
          omega
        have bb := below_alloc wr (.cells #[.int .u8 ((n : Int) / 65536 % 256)] 5)
        have HO := Lib.hid (ownsRow_mono ho bb)
        have HR := Lib.hid (ownsRow_rds (ownsRow_lit wr 5 1 1 [.int .u8 ((n : Int) / 65536 % 256)] _ rfl rfl (by unfold maxLen; omega))).1
        have HBB := Lib.hid (Bw.trans (bb.mono (Nat.le_trans hB Bw.size)))
        have hle : B ≤ (wr.alloc (.cells #[.int .u8 ((n : Int) / 65536 % 256)] 5)).heap.size := Nat.le_trans (Nat.le_trans hB Bw.size) bb.size
        have HA := Lib.hid (show nby (xs ++ beT n size (j + 1)) = nby (xs ++ beT n size j) ++ [.int .u8 ((n : Int) / 65536 % 256)] by rw [HNX.out, ← List.append_assoc, nby_app, hz]; rfl)
        have i2 : (2 : Int) - 1 = (size : Int) - 1 - ((j + 1 : Nat) : Int) := by have := HIJ.out; omega
        have I2 := Lib.hid i2
        clear ho bb hz Bw i2
        go_wp2_with (at_builtin; refine wpList_append_rv rfl (.tmp 14) (.tmp 20) _ rfl B 5 _ 1 1 Tryz.underlying49 info_u8 rfl (by decide) _ (m + j) _ rfl HO.out _ 1 1 _ rfl HR.out (by intro u hu; simp only [List.mem_cons, List.not_mem_nil, or_false] at hu; subst hu; rfl) (by unfold maxLen; omega) (by omega) hle (m + j + 1) rfl _ HA.out ?_; intro ad2 c2 w7 hown7 hg7 hn7 hb7 hk7; have O7 := Lib.hid hown7; have B7 := Lib.hid (HBB.out.trans hb7); clear hown7 hg7 hn7 hb7 hk7)
        go_roundw
        case rel => exact ⟨j + 1, _, rfl, I2.out, by omega, ⟨ad2, c2, rfl⟩, O7.out, B7.out⟩
        case measure => simp [intOf]
      · have hz : (n : Int) / 16777216 = ((n / 256 ^ 3 % 256 : Nat) : Int) := by
          show _ = ((n / 16777216 % 256 : Nat) : Int)
          omega
        have bb := below_alloc wr (.cells #[.int .u8 ((n : Int) / 16777216)] 5)
        have HO := Lib.hid (ownsRow_mono ho bb)
        have HR := Lib.hid (ownsRow_rds (ownsRow_lit wr 5 1 1 [.int .u8 ((n : Int) / 16777216)] _ rfl rfl (by unfold maxLen; omega))).1
        have HBB := Lib.hid (Bw.trans (bb.mono (Nat.le_trans hB Bw.size)))
        have hle : B ≤ (wr.alloc (.cells #[.int .u8 ((n : Int) / 16777216)] 5)).heap.size := Nat.le_trans (Nat.le_trans hB Bw.size) bb.size
        have HA := Lib.hid (show nby (xs ++ beT n size (j + 1)) = nby (xs ++ beT n size j) ++ [.int .u8 ((n : Int) / 16777216)] by rw [HNX.out, ← List.append_assoc, nby_app, hz]; rfl)
        have i2 : (3 : Int) - 1 = (size : Int) - 1 - ((j + 1 : Nat) : Int) := by have := HIJ.out; omega
        have I2 := Lib.hid i2
        clear ho bb hz Bw i2
        go_wp2_with (at_builtin; refine wpList_append_rv rfl (.tmp 14) (.tmp 20) _ rfl B 5 _ 1 1 Tryz.underlying49 info_u8 rfl (by decide) _ (m + j) _ rfl HO.out _ 1 1 _ rfl HR.out (by intro u hu; simp only [List.mem_cons, List.not_mem_nil, or_false] at hu; subst hu; rfl) (by unfold maxLen; omega) (by omega) hle (m + j + 1) rfl _ HA.out ?_; intro ad2 c2 w7 hown7 hg7 hn7 hb7 hk7; have O7 := Lib.hid hown7; have B7 := Lib.hid (HBB.out.trans hb7); clear hown7 hg7 hn7 hb7 hk7)
        go_roundw
        case rel => exact ⟨j + 1, _, rfl, I2.out, by omega, ⟨ad2, c2, rfl⟩, O7.out, B7.out⟩
        case measure => simp [intOf]
    · obtain rfl : j = size := by omega
      go_wp2
      go_ret
      refine ⟨.slice oa (m + j) oc, rfl, ?_, Bw⟩
      unfold OwnY
      rw [show (xs ++ be n j).length = m + j by rw [List.length_append, HM.out]; unfold be; rw [beT_len]]
      exact ho
end Go.Proofs
end

section
open Go.RowKit Go.Deep Go.Maps
namespace Go.Proofs
set_option linter.unusedVariables false
set_option linter.unusedSimpArgs false

def rotI (x : Nat) : Int := bits BinOp.or IntKind.u32 ((x : Int) * 32 % 4294967296) ((x : Int) / 134217728)
set_option maxRecDepth 100000 in
set_option maxHeartbeats 2000000 in
theorem rot_calls (x : Nat) (w : World) (hx : x < 4294967296) : Calls Tryz.prog 49 #[.int .u32 (x : Int), .int .i64 5] w fun e w' => e = .returned (.int .u32 (rotI x)) ∧ w' = w := by
  have hb : bits BinOp.and IntKind.u64 5 31 = 5 := by kernel_rfl
  go_enter Tryz.func49, Tryz.ntmps49
  go_wp2
  go_ret
  exact ⟨rfl, rfl⟩
def stepS (s c : Nat) : Nat := ((rotI s * 31 % 4294967296 + (c : Int)) % 4294967296).toNat
def smN (xs : List Nat) : Nat → Nat
  | 0 => xs.length + 1
  | k + 1 => stepS (smN xs k) (xs.getD k 0)
/-- the check number -/
def smB (xs : List Nat) : Nat := smN xs xs.length
theorem smN_lt (xs : List Nat) (hl : xs.length ≤ 100000) : ∀ k, smN xs k < 4294967296
  | 0 => by unfold smN; omega
  | k + 1 => by
    unfold smN stepS
    have h1 := Int.emod_nonneg (rotI (smN xs k) * 31 % 4294967296 + ((xs.getD k 0 : Nat) : Int)) (show (4294967296 : Int) ≠ 0 by decide)
    have h2 := Int.emod_lt_of_pos (rotI (smN xs k) * 31 % 4294967296 + ((xs.getD k 0 : Nat) : Int)) (show (0 : Int) < 4294967296 by decide)
    omega

set_option maxRecDepth 100000 in
set_option maxHeartbeats 2000000 in
theorem sum_calls (v : Value) (xs : List Nat) (w : World) (hv : InY w v xs) (hx : ∀ x ∈ xs, x < 256) (hl : xs.length ≤ 100000) :
    Calls Tryz.prog 30 #[v] w fun e w' => e = .returned (.int .u32 ((smB xs : Nat) : Int)) ∧ w' = w := by
  obtain ⟨ad, c, rfl, rd⟩ := hv
  have LP := rd.2.1
  have LP2 := rd.2.2.1
  unfold maxLen at LP2
  have hlt := smN_lt xs hl
  unfold smB
  have hs0 : smN xs 0 = xs.length + 1 := rfl
  obtain ⟨n, hn⟩ : ∃ n, xs.length = n := ⟨_, rfl⟩
  rw [hn] at LP rd hl hs0 ⊢
  have HN := Lib.hid hn
  have HX := Lib.hid hx
  have HL := Lib.hid hlt
  have HS0 := Lib.hid hs0
  have HR := Lib.hid (fun (x : Nat) (w : World) (h : x < 4294967296) => rot_calls x w h)
  clear hn hx hlt hs0
  go_enter Tryz.func30, Tryz.ntmps30
  go_wp2
  go_loopw [3, 12] (fun sv iv wr => ∃ i : Nat, iv = .int .i64 (i : Int) ∧ i ≤ n ∧ sv = .int .u32 ((smN xs i : Nat) : Int) ∧ wr = w)
    (fun _ iv _ => n - (intOf iv).toNat)
  case atStart => exact ⟨0, rfl, Nat.zero_le _, by rw [HS0.out]; first | rfl | (simp; done) | (congr 1; omega), rfl⟩
  case round =>
    obtain ⟨i, rfl, hi, rfl, rfl⟩ := hrel
    by_cases h1 : i < n
    · have hip : i < xs.length := by rw [HN.out]; exact h1
      have hcx : xs.getD i 0 < 256 := by
        have e : xs.getD i 0 = xs[i] := by simp [List.getD, List.getElem?_eq_getElem hip]
        rw [e]; exact HX.out _ (List.getElem_mem hip)
      obtain ⟨-, -, -, r4⟩ := rd
      rcases r4 with r4 | ⟨b, o, rfl, r4⟩
      · omega
      have ce := r4 i _ (nby_get xs hip)
      have HR4 := Lib.hid r4
      obtain ⟨x, hx⟩ : ∃ x, xs.getD i 0 = x := ⟨_, rfl⟩
      rw [hx] at ce hcx
      have hsl := HL.out i
      have hst : smN xs (i + 1) = stepS (smN xs i) x := by rw [smN, hx]
      obtain ⟨s, hs⟩ : ∃ s, smN xs i = s := ⟨_, rfl⟩
      rw [hs] at hsl hst ⊢
      have HST := Lib.hid hst
      have i0 : (0 : Int) ≤ (i : Int) := by omega
      have i1 : (i : Int) < (n : Int) := by omega
      clear hx hs hst r4
      go_wp2_with fail
      refine (HR.out s _ hsl).mono ?_
      rintro e wz ⟨rfl, rfl⟩
      have HV : Hid ((((rotI s * 31 % 4294967296 + (x : Int)) % 4294967296)) = ((smN xs (i + 1) : Nat) : Int)) := Lib.hid (by
        rw [HST.out]
        unfold stepS
        exact (Int.toNat_of_nonneg (Int.emod_nonneg _ (by decide))).symm)
      obtain ⟨r, hr⟩ : ∃ r, rotI s = r := ⟨_, rfl⟩
      rw [hr] at HV ⊢
      clear hr
      go_wp2
      go_roundw
      case rel => exact ⟨i + 1, by go_num, by omega, by rw [← HV.out], trivial⟩
      case measure => simp [intOf]; omega
    · obtain rfl : i = n := by omega
      go_wp2
      go_ret
      exact ⟨rfl, rfl⟩
end Go.Proofs
end

section
open Go.RowKit Go.Deep Go.Maps
namespace Go.Proofs
set_option linter.unusedVariables false
set_option linter.unusedSimpArgs false

/-- a string's bytes -/
def sb (s : ByteArray) : List Nat := s.data.toList.map UInt8.toNat
theorem sb_len (s : ByteArray) : (sb s).length = s.size := by unfold sb; rw [List.length_map, Array.length_toList]; rfl
theorem sb_cells (s : ByteArray) : Lib.strCells s = nby (sb s) := by
  unfold Lib.strCells nby sb
  rw [List.map_map]
  rfl
theorem sb_lt (s : ByteArray) : ∀ x ∈ sb s, x < 256 := by
  intro x hx
  unfold sb at hx
  obtain ⟨b, _, rfl⟩ := List.mem_map.1 hx
  exact b.toNat_lt
def str1 (s : ByteArray) : List Nat := s.size :: sb s
theorem str1_len (s : ByteArray) : (str1 s).length = s.size + 1 := by unfold str1; rw [List.length_cons, sb_len]
def stN (X : Mv) : Nat → List Nat
  | 0 => []
  | 1 => str1 X.f
  | 2 => str1 X.f ++ str1 X.t
  | _ => str1 X.f ++ str1 X.t ++ str1 X.i
def encM (m : Mv) : List Nat := str1 m.f ++ str1 m.t ++ str1 m.i ++ be m.q.toNat 4
def bodyN (L : List Mv) : Nat → List Nat
  | 0 => [L.length]
  | k + 1 => bodyN L k ++ encM (L.getD k mv0)
def bodyL (L : List Mv) : List Nat := bodyN L L.length
/-- an entry in bytes -/
def encB (L : List Mv) : List Nat := be (bodyL L).length 2 ++ be (smB (bodyL L)) 4 ++ bodyL L
theorem be_len (n k : Nat) : (be n k).length = k := by unfold be; rw [beT_len]
theorem encM_len {m : Mv} (h : MvOk m) : (encM m).length ≤ 43 := by
  unfold encM
  simp only [List.length_append, str1_len, be_len]
  have := h.f.2.1
  have := h.t.2.1
  have := h.i.2.1
  omega
theorem bodyN_len {L : List Mv} (hG : ∀ k, k < L.length → MvOk (L.getD k mv0)) : ∀ k, k ≤ L.length → (bodyN L k).length ≤ 1 + 43 * k
  | 0, _ => by simp [bodyN]
  | k + 1, hk => by
    have h1 := bodyN_len hG k (by omega)
    have h2 := encM_len (hG k (by omega))
    rw [bodyN, List.length_append]
    omega
theorem beT_lt (n size : Nat) : ∀ j, ∀ x ∈ beT n size j, x < 256
  | 0, x, hx => by cases hx
  | j + 1, x, hx => by
    rw [beT, List.mem_append] at hx
    rcases hx with hx | hx
    · exact beT_lt n size j x hx
    · rw [List.mem_singleton] at hx
      subst hx
      exact Nat.mod_lt _ (by decide)
theorem str1_lt {s : ByteArray} (h : NameOk s) : ∀ x ∈ str1 s, x < 256 := by
  intro x hx
  unfold str1 at hx
  rcases List.mem_cons.1 hx with rfl | hx
  · have := h.2.1; omega
  · exact sb_lt s x hx
theorem encM_lt {m : Mv} (h : MvOk m) : ∀ x ∈ encM m, x < 256 := by
  intro x hx
  unfold encM be at hx
  simp only [List.mem_append] at hx
  rcases hx with ((hx | hx) | hx) | hx
  · exact str1_lt h.f x hx
  · exact str1_lt h.t x hx
  · exact str1_lt h.i x hx
  · exact beT_lt _ _ _ x hx
theorem bodyN_lt {L : List Mv} (hL : L.length ≤ 32) (hG : ∀ k, k < L.length → MvOk (L.getD k mv0)) : ∀ k, k ≤ L.length → ∀ x ∈ bodyN L k, x < 256
  | 0, _, x, hx => by
    rw [bodyN, List.mem_singleton] at hx
    omega
  | k + 1, hk, x, hx => by
    rw [bodyN, List.mem_append] at hx
    rcases hx with hx | hx
    · exact bodyN_lt hL hG k (by omega) x hx
    · exact encM_lt (hG k (by omega)) x hx
theorem encB_len {L : List Mv} (hL : L.length ≤ 32) (hG : ∀ k, k < L.length → MvOk (L.getD k mv0)) : (encB L).length ≤ 2000 := by
  have := bodyN_len hG L.length (Nat.le_refl _)
  unfold encB bodyL
  simp only [List.length_append, be_len]
  omega

theorem run_idx0 (a b c : ByteArray) (w : World) : (Instr.index 93 (.agg #[.string a, .string b, .string c]) (.int .i64 0)).run Tryz.prog w = .ok (.string a) w := by kernel_rfl
theorem run_idx1 (a b c : ByteArray) (w : World) : (Instr.index 93 (.agg #[.string a, .string b, .string c]) (.int .i64 1)).run Tryz.prog w = .ok (.string b) w := by kernel_rfl
theorem run_idx2 (a b c : ByteArray) (w : World) : (Instr.index 93 (.agg #[.string a, .string b, .string c]) (.int .i64 2)).run Tryz.prog w = .ok (.string c) w := by kernel_rfl

/-- a block of values, its type told -/
def Vt (w : World) (b : Nat) (vs : List Value) (e : TypeId) : Prop := w.heap[b]? = some (.cells vs.toArray e (0, 0))
theorem Vt.vals {w b vs e} (h : Vt w b vs e) : Vals w b vs := ⟨e, h⟩
theorem Vt.new (w : World) (vs : List Value) (e : TypeId) : Vt (w.alloc (.cells vs.toArray e)) w.heap.size vs e := heap_alloc_new w _
theorem Vt.mono {w w' : World} {b vs e} (h : Vt w b vs e) (hb : Below w.heap.size w w') : Vt w' b vs e := (hb.block b (Array.getElem?_eq_some_iff.1 h).1).trans h
theorem Vt.row {w w' : World} {b vs e} (h : Vt w b vs e) {B e' k : Nat} {v : Value} {n : Nat} {cs : List Value} (ho : w.ownsRow B e' k v n cs) (hne : e ≠ e') (hg : w.grownBy w' v.ownBlock) : Vt w' b vs e := by
  refine (hg.block b (Array.getElem?_eq_some_iff.1 h).1 (fun hb => ?_)).trans h
  obtain ⟨_, h1⟩ := ho
  rcases h1 with ⟨rfl, _⟩ | ⟨g, cap, cur, rfl, _, hh, _⟩
  · cases hb
  · cases hb
    unfold Vt at h
    rw [hh] at h
    cases h
    exact hne rfl

set_option maxRecDepth 100000 in
set_option maxHeartbeats 8000000 in
theorem encode_calls (L : List Mv) (v : Value) (w : World) (hv : InMv w v L) (hL : 1 ≤ L.length ∧ L.length ≤ 32) (hG : ∀ k, k < L.length → MvOk (L.getD k mv0)) :
    Calls Tryz.prog 19 #[v] w fun e w' => ∃ v', e = .returned v' ∧ InY w' v' (encB L) ∧ Below w.heap.size w w' := by
  have hbl := fun k hk => bodyN_len hG k hk
  have hblt := bodyN_lt hL.2 hG L.length (Nat.le_refl _)
  obtain ⟨ad, c, rfl, rd⟩ := hv
  have LP := rd.2.1
  have LP2 := rd.2.2.1
  unfold maxLen at LP2
  have hb0 : bodyN L 0 = [L.length] := rfl
  have heB : encB L = be (bodyN L L.length).length 2 ++ be (smB (bodyN L L.length)) 4 ++ bodyN L L.length := rfl
  obtain ⟨l, hl⟩ : ∃ n, L.length = n := ⟨_, rfl⟩
  rw [hl] at LP rd hL hblt hb0 heB
  rw [hl]
  have HN := Lib.hid hl
  have HG := Lib.hid hG
  have HBL := Lib.hid hbl
  have HBT := Lib.hid hblt
  have HB0 := Lib.hid hb0
  have HEB := Lib.hid heB
  have HRD := Lib.hid rd
  obtain ⟨hL1, hL2⟩ := hL
  clear hl hG hbl hblt hb0 heB rd
  have hw8 : (l : Int) % 256 = (l : Int) := by omega
  have bb0 := below_alloc w (.cells #[.int .u8 (l : Int)] 5)
  have ho0 := Lib.hid (ownsRow_lit w 5 1 1 [.int .u8 (l : Int)] _ rfl rfl (by unfold maxLen; omega))
  go_enter Tryz.func19, Tryz.ntmps19
  go_upto_region 2 with (fail)
  generalize w.alloc (.cells #[.int .u8 (l : Int)] 5) = w0 at *
  clear hw8
  go_wp2
  obtain ⟨B, hBdef⟩ : ∃ q, w.heap.size = q := ⟨_, rfl⟩
  rw [hBdef] at ho0 bb0 ⊢
  have HBD := Lib.hid hBdef
  clear hBdef
  go_loopw [3, 15] (fun ov iv wr => ∃ i : Nat, iv = .int .i64 (i : Int) ∧ i ≤ l ∧ (∃ a c, ov = .slice a (bodyN L i).length c) ∧ wr.ownsRow B 5 1 ov (bodyN L i).length (nby (bodyN L i)) ∧ Below B w wr)
    (fun _ iv _ => l - (intOf iv).toNat)
  case atStart => exact ⟨0, rfl, Nat.zero_le _, ⟨_, _, by rw [HB0.out]; rfl⟩, by rw [HB0.out]; exact ho0.out, bb0⟩
  case round =>
    clear ho0 bb0
    obtain ⟨i, rfl, hi, ⟨oa, oc, rfl⟩, hown, Bw⟩ := hrel
    have rdx := HRD.out.mono (show Below w.heap.size w wr by rw [HBD.out]; exact Bw)
    have hBL := HBL.out i (by rw [HN.out]; exact hi)
    by_cases h1 : i < l
    · have hip : i < L.length := by rw [HN.out]; exact h1
      have hok := HG.out i hip
      obtain ⟨X, hX⟩ : ∃ X, L.getD i mv0 = X := ⟨_, rfl⟩
      rw [hX] at hok
      have hnx : bodyN L (i + 1) = bodyN L i ++ encM X := by rw [bodyN, hX]
      have HNX := Lib.hid hnx
      obtain ⟨Y, hY⟩ : ∃ Y, bodyN L i = Y := ⟨_, rfl⟩
      rw [hY] at hown hBL hnx ⊢
      have HNX := Lib.hid hnx
      obtain ⟨b, o, rfl, c0, c1, c2, c3⟩ := mv_cells rdx hip hX
      have i0 : (0 : Int) ≤ (i : Int) := by omega
      have i1 : (i : Int) < (l : Int) := by omega
      clear rdx hX hnx hY
      obtain ⟨y, hy⟩ : ∃ y, Y.length = y := ⟨_, rfl⟩
      rw [hy] at hown hBL ⊢
      have HY := Lib.hid hy
      clear hy
      go_upto_region 5 with (fail)
      have vm := Vt.new wr [.string X.f, .string X.t, .string X.i, .int .i64 X.q] 35
      have bm := below_alloc wr (.cells #[.string X.f, .string X.t, .string X.i, .int .i64 X.q] 35)
      have hws := Bw.size
      have B1 : Below B w (wr.alloc (.cells #[.string X.f, .string X.t, .string X.i, .int .i64 X.q] 35)) := Bw.trans (bm.mono (by have := HBD.out; omega))
      have hown1 := ownsRow_mono hown bm
      clear c0 c1 c2 c3 bm Bw hown hws
      generalize wr.alloc (.cells #[.string X.f, .string X.t, .string X.i, .int .i64 X.q] 35) = w1 at *
      obtain ⟨bb, hbb⟩ : ∃ q, wr.heap.size = q := ⟨_, rfl⟩
      rw [hbb] at vm ⊢
      clear hbb
      have x0 := vm.vals.cell (i := 0) (by simp)
      have x1 := vm.vals.cell (i := 1) (by simp)
      have x2 := vm.vals.cell (i := 2) (by simp)
      simp only [List.getD_cons_zero, List.getD_cons_succ] at x0 x1 x2
      have lv := vm.vals.lt
      have zf := hok.f.2.1
      have zt := hok.t.2.1
      have zi := hok.i.2.1
      have HOK := Lib.hid hok
      have VM := Lib.hid vm
      have HO1 := Lib.hid hown1
      have HB1 := Lib.hid B1
      clear hok vm hown1 B1
      go_wp2
      clear x0 x1 x2 lv
      obtain ⟨I8, hi8, hz8, hs8, hb8⟩ := info_parts info_u8
      have hx0 := fun w => run_idx0 X.f X.t X.i w
      have hx1 := fun w => run_idx1 X.f X.t X.i w
      have hx2 := fun w => run_idx2 X.f X.t X.i w
      go_loopw [3, 26] (fun ov jv wi => ∃ j : Nat, jv = .int .i64 (j : Int) ∧ j ≤ 3 ∧ (∃ a c, ov = .slice a (y + (stN X j).length) c) ∧ wi.ownsRow B 5 1 ov (y + (stN X j).length) (nby (Y ++ stN X j)) ∧ Below B w wi ∧ Vt wi bb [.string X.f, .string X.t, .string X.i, .int .i64 X.q] 35)
        (fun _ jv _ => 3 - (intOf jv).toNat)
      case atStart => exact ⟨0, rfl, by omega, ⟨_, _, rfl⟩, by rw [show stN X 0 = [] from rfl, List.append_nil]; exact HO1.out, HB1.out, VM.out⟩
      case round =>
        clear VM HO1 HB1
        obtain ⟨j, rfl, hj, ⟨oa, oc, rfl⟩, hoi, Bi, vi⟩ := hrel
        have hml : (stN X j).length ≤ 39 := by
          unfold stN
          split <;> simp only [List.length_append, List.length_nil, str1_len] <;> omega
        obtain ⟨m, hm⟩ : ∃ m, (stN X j).length = m := ⟨_, rfl⟩
        rw [hm] at hoi hml ⊢
        have HM := Lib.hid hm
        clear hm
        rcases (show j = 0 ∨ j = 1 ∨ j = 2 ∨ j = 3 by omega) with rfl | rfl | rfl | rfl
        · have HNS := Lib.hid (show nby (Y ++ stN X 1) = nby (Y ++ stN X 0) ++ [.int .u8 (X.f.size : Int)] ++ Lib.strCells X.f by
            rw [sb_cells, show stN X 1 = stN X 0 ++ str1 X.f from rfl, ← List.append_assoc, nby_app (Y ++ stN X 0), List.append_assoc]
            rfl)
          have HNL := Lib.hid (show (stN X 1).length = m + 1 + X.f.size by rw [show stN X 1 = stN X 0 ++ str1 X.f from rfl, List.length_append, str1_len, HM.out]; omega)
          have hw8 : (X.f.size : Int) % 256 = (X.f.size : Int) := by omega
          have bz := below_alloc wr (.cells #[.int .u8 (X.f.size : Int)] 5)
          have HO := Lib.hid (ownsRow_mono hoi bz)
          have HR := Lib.hid (ownsRow_rds (ownsRow_lit wr 5 1 1 [.int .u8 (X.f.size : Int)] _ rfl rfl (by unfold maxLen; omega))).1
          have hBs : B ≤ wr.heap.size := by have := Bi.size; have := HBD.out; omega
          have HBB := Lib.hid (Bi.trans (bz.mono hBs))
          have VV := Lib.hid (vi.mono bz)
          have hle := Nat.le_trans hBs bz.size
          clear hoi Bi vi bz hBs
          go_wp2_with (first | (at_builtin; refine wpList_append_rv rfl (.tmp 29) (.tmp 33) _ rfl B 5 _ 1 1 Tryz.underlying49 info_u8 rfl (by decide) _ (y + m) _ rfl HO.out _ 1 1 _ rfl HR.out (by intro u hu; simp only [List.mem_cons, List.not_mem_nil, or_false] at hu; subst hu; rfl) (by unfold maxLen; omega) (by omega) hle (y + m + 1) rfl _ rfl ?_; intro ad2 c2 w7 hown7 hg7 hn7 hb7 hk7; have O7 := Lib.hid hown7; have V7 := Lib.hid (VV.out.row HO.out (by decide) hg7); have hle7 := Nat.le_trans hle hb7.size; have B7 := Lib.hid (HBB.out.trans hb7); clear hown7 hg7 hn7 hb7 hk7) | (at_builtin; refine Lib.wpList_append_own_string _ rfl (.tmp 35) (.tmp 36) _ _ rfl B 5 I8 Tryz.underlying49 Tryz.underlying9 hi8 hz8 hs8 hb8 _ (y + m + 1) _ rfl O7.out X.f rfl (by unfold maxLen; omega) (by omega) hle7 ?_; intro v9 w9 hown9 hg9 hn9; obtain ⟨ad9, c9, rfl⟩ := ownsRow_form hown9; have O9 := Lib.hid hown9; have V9 := Lib.hid (V7.out.row O7.out (by decide) hg9); have B9 := Lib.hid (B7.out.trans (grown_below O7.out hle7 hg9)); clear hown9 hg9 hn9))
          go_roundw
          case rel => exact ⟨1, rfl, by omega, ⟨ad9, c9, by rw [HNL.out]; congr 1; omega⟩, by rw [HNL.out, HNS.out, show y + (m + 1 + X.f.size) = y + m + 1 + X.f.size by omega]; exact O9.out, B9.out, V9.out⟩
          case measure => simp [intOf]
        · have HNS := Lib.hid (show nby (Y ++ stN X 2) = nby (Y ++ stN X 1) ++ [.int .u8 (X.t.size : Int)] ++ Lib.strCells X.t by
            rw [sb_cells, show stN X 2 = stN X 1 ++ str1 X.t from rfl, ← List.append_assoc, nby_app (Y ++ stN X 1), List.append_assoc]
            rfl)
          have HNL := Lib.hid (show (stN X 2).length = m + 1 + X.t.size by rw [show stN X 2 = stN X 1 ++ str1 X.t from rfl, List.length_append, str1_len, HM.out]; omega)
          have hw8 : (X.t.size : Int) % 256 = (X.t.size : Int) := by omega
          have bz := below_alloc wr (.cells #[.int .u8 (X.t.size : Int)] 5)
          have HO := Lib.hid (ownsRow_mono hoi bz)
          have HR := Lib.hid (ownsRow_rds (ownsRow_lit wr 5 1 1 [.int .u8 (X.t.size : Int)] _ rfl rfl (by unfold maxLen; omega))).1
          have hBs : B ≤ wr.heap.size := by have := Bi.size; have := HBD.out; omega
          have HBB := Lib.hid (Bi.trans (bz.mono hBs))
          have VV := Lib.hid (vi.mono bz)
          have hle := Nat.le_trans hBs bz.size
          clear hoi Bi vi bz hBs
          go_wp2_with (first | (at_builtin; refine wpList_append_rv rfl (.tmp 29) (.tmp 33) _ rfl B 5 _ 1 1 Tryz.underlying49 info_u8 rfl (by decide) _ (y + m) _ rfl HO.out _ 1 1 _ rfl HR.out (by intro u hu; simp only [List.mem_cons, List.not_mem_nil, or_false] at hu; subst hu; rfl) (by unfold maxLen; omega) (by omega) hle (y + m + 1) rfl _ rfl ?_; intro ad2 c2 w7 hown7 hg7 hn7 hb7 hk7; have O7 := Lib.hid hown7; have V7 := Lib.hid (VV.out.row HO.out (by decide) hg7); have hle7 := Nat.le_trans hle hb7.size; have B7 := Lib.hid (HBB.out.trans hb7); clear hown7 hg7 hn7 hb7 hk7) | (at_builtin; refine Lib.wpList_append_own_string _ rfl (.tmp 35) (.tmp 36) _ _ rfl B 5 I8 Tryz.underlying49 Tryz.underlying9 hi8 hz8 hs8 hb8 _ (y + m + 1) _ rfl O7.out X.t rfl (by unfold maxLen; omega) (by omega) hle7 ?_; intro v9 w9 hown9 hg9 hn9; obtain ⟨ad9, c9, rfl⟩ := ownsRow_form hown9; have O9 := Lib.hid hown9; have V9 := Lib.hid (V7.out.row O7.out (by decide) hg9); have B9 := Lib.hid (B7.out.trans (grown_below O7.out hle7 hg9)); clear hown9 hg9 hn9))
          go_roundw
          case rel => exact ⟨2, rfl, by omega, ⟨ad9, c9, by rw [HNL.out]; congr 1; omega⟩, by rw [HNL.out, HNS.out, show y + (m + 1 + X.t.size) = y + m + 1 + X.t.size by omega]; exact O9.out, B9.out, V9.out⟩
          case measure => simp [intOf]
        · have HNS := Lib.hid (show nby (Y ++ stN X 3) = nby (Y ++ stN X 2) ++ [.int .u8 (X.i.size : Int)] ++ Lib.strCells X.i by
            rw [sb_cells, show stN X 3 = stN X 2 ++ str1 X.i from rfl, ← List.append_assoc, nby_app (Y ++ stN X 2), List.append_assoc]
            rfl)
          have HNL := Lib.hid (show (stN X 3).length = m + 1 + X.i.size by rw [show stN X 3 = stN X 2 ++ str1 X.i from rfl, List.length_append, str1_len, HM.out]; omega)
          have hw8 : (X.i.size : Int) % 256 = (X.i.size : Int) := by omega
          have bz := below_alloc wr (.cells #[.int .u8 (X.i.size : Int)] 5)
          have HO := Lib.hid (ownsRow_mono hoi bz)
          have HR := Lib.hid (ownsRow_rds (ownsRow_lit wr 5 1 1 [.int .u8 (X.i.size : Int)] _ rfl rfl (by unfold maxLen; omega))).1
          have hBs : B ≤ wr.heap.size := by have := Bi.size; have := HBD.out; omega
          have HBB := Lib.hid (Bi.trans (bz.mono hBs))
          have VV := Lib.hid (vi.mono bz)
          have hle := Nat.le_trans hBs bz.size
          clear hoi Bi vi bz hBs
          go_wp2_with (first | (at_builtin; refine wpList_append_rv rfl (.tmp 29) (.tmp 33) _ rfl B 5 _ 1 1 Tryz.underlying49 info_u8 rfl (by decide) _ (y + m) _ rfl HO.out _ 1 1 _ rfl HR.out (by intro u hu; simp only [List.mem_cons, List.not_mem_nil, or_false] at hu; subst hu; rfl) (by unfold maxLen; omega) (by omega) hle (y + m + 1) rfl _ rfl ?_; intro ad2 c2 w7 hown7 hg7 hn7 hb7 hk7; have O7 := Lib.hid hown7; have V7 := Lib.hid (VV.out.row HO.out (by decide) hg7); have hle7 := Nat.le_trans hle hb7.size; have B7 := Lib.hid (HBB.out.trans hb7); clear hown7 hg7 hn7 hb7 hk7) | (at_builtin; refine Lib.wpList_append_own_string _ rfl (.tmp 35) (.tmp 36) _ _ rfl B 5 I8 Tryz.underlying49 Tryz.underlying9 hi8 hz8 hs8 hb8 _ (y + m + 1) _ rfl O7.out X.i rfl (by unfold maxLen; omega) (by omega) hle7 ?_; intro v9 w9 hown9 hg9 hn9; obtain ⟨ad9, c9, rfl⟩ := ownsRow_form hown9; have O9 := Lib.hid hown9; have V9 := Lib.hid (V7.out.row O7.out (by decide) hg9); have B9 := Lib.hid (B7.out.trans (grown_below O7.out hle7 hg9)); clear hown9 hg9 hn9))
          go_roundw
          case rel => exact ⟨3, rfl, by omega, ⟨ad9, c9, by rw [HNL.out]; congr 1; omega⟩, by rw [HNL.out, HNS.out, show y + (m + 1 + X.i.size) = y + m + 1 + X.i.size by omega]; exact O9.out, B9.out, V9.out⟩
          case measure => simp [intOf]
        · obtain ⟨qn, hq⟩ : ∃ q : Nat, X.q = (q : Int) := ⟨X.q.toNat, by have := HOK.out.q0; omega⟩
          have hqb : qn ≤ 1000000000 := by have := HOK.out.q1; omega
          have HNX2 := Lib.hid (show bodyN L (i + 1) = Y ++ stN X 3 ++ be qn 4 by
            rw [HNX.out]
            unfold encM
            rw [hq, show ((qn : Int)).toNat = qn by omega, show stN X 3 = str1 X.f ++ str1 X.t ++ str1 X.i from rfl]
            simp only [List.append_assoc])
          have x3 := vi.vals.cell (i := 3) (by simp)
          simp only [List.getD_cons_zero, List.getD_cons_succ] at x3
          rw [hq] at x3
          have lv := vi.vals.lt
          have hw32 : (qn : Int) % 4294967296 = (qn : Int) := by omega
          have hBs : B ≤ wr.heap.size := by have := Bi.size; have := HBD.out; omega
          have hlen : (Y ++ stN X 3).length = y + m := by rw [List.length_append, HY.out, HM.out]
          have hoY : OwnY wr B (.slice oa (y + m) oc) (Y ++ stN X 3) := by unfold OwnY; rw [hlen]; exact hoi
          have HOY := Lib.hid hoY
          have HBi := Lib.hid Bi
          have HLE := Lib.hid hlen
          clear hoi hoY vi Bi hlen hq
          go_wp2_with fail
          clear x3 lv hw32
          refine (put_calls B _ _ qn 4 wr ⟨by omega, by omega⟩ (by omega) HOY.out hBs (by rw [HLE.out]; omega)).mono ?_
          rintro e w2 ⟨v2, rfl, ho2, b2⟩
          obtain ⟨a2, c2, rfl⟩ := ownsRow_form ho2
          rw [← HNX2.out] at ho2
          have HO2 := Lib.hid ho2
          have HB2 := Lib.hid (HBi.out.trans b2)
          have hl2 : (Y ++ stN X 3 ++ be qn 4).length = (bodyN L (i + 1)).length := by rw [HNX2.out]
          have HL3 := Lib.hid (show Y.length + ((stN X 3).length + (be qn 4).length) = (bodyN L (i + 1)).length by rw [HNX2.out]; simp only [List.length_append, Nat.add_assoc])
          clear ho2 b2 hl2
          go_wp2
          go_roundw
          case rel => exact ⟨i + 1, by go_num, by omega, ⟨a2, c2, by rw [HL3.out]⟩, by rw [HL3.out]; exact HO2.out, HB2.out⟩
          case measure => simp [intOf]; omega
    · obtain rfl : i = l := by omega
      obtain ⟨Y, hY⟩ : ∃ Y, bodyN L i = Y := ⟨_, rfl⟩
      have hBT := HBT.out
      have hEB := HEB.out
      rw [hY] at hown hBL hBT hEB ⊢
      obtain ⟨y, hy⟩ : ∃ y, Y.length = y := ⟨_, rfl⟩
      have hoY : OwnY wr B (.slice oa Y.length oc) Y := hown
      have hiY : InY wr (.slice oa Y.length oc) Y := hoY.inY
      rw [hy] at hiY hBL hEB ⊢
      have hw32 : (y : Int) % 4294967296 = (y : Int) := by omega
      have HI := Lib.hid hiY
      have HBw := Lib.hid Bw
      have HEB2 := Lib.hid hEB
      have HBT2 := Lib.hid hBT
      have HY := Lib.hid hy
      clear hoY hiY hown Bw hBT hEB hY hy rdx
      go_wp2_with fail
      clear hw32
      have hnil : OwnY wr wr.heap.size (.slice none 0 0) [] := World.ownsRow_nil _ _ _ _
      refine (put_calls wr.heap.size _ _ y 2 wr ⟨by omega, by omega⟩ (by omega) hnil (Nat.le_refl _) (by simp)).mono ?_
      rintro e w2 ⟨v2, rfl, ho2, b2⟩
      rw [List.nil_append] at ho2
      have HO2 := Lib.hid ho2
      have HI2 := Lib.hid (HI.out.mono b2)
      have HBB := Lib.hid b2
      have hle2 := b2.size
      clear ho2 b2 hnil
      obtain ⟨a2, c2, rfl⟩ := ownsRow_form HO2.out
      go_wp2_with fail
      refine (sum_calls _ Y w2 HI2.out HBT2.out (by rw [HY.out]; omega)).mono ?_
      rintro e wz ⟨rfl, rfl⟩
      have hsm : smB Y < 4294967296 := smN_lt Y (by rw [HY.out]; omega) _
      obtain ⟨s, hs⟩ : ∃ s, smB Y = s := ⟨_, rfl⟩
      rw [hs] at hsm ⊢
      have HS := Lib.hid hs
      clear hs
      go_wp2_with fail
      refine (put_calls wr.heap.size _ _ s 4 _ ⟨by omega, by omega⟩ hsm HO2.out hle2 (by rw [be_len]; omega)).mono ?_
      rintro e w4 ⟨v4, rfl, ho4, b4⟩
      have HI4 := Lib.hid (HI.out.mono (HBB.out.trans b4))
      have HB4 := Lib.hid (HBB.out.trans b4)
      have hle4 := Nat.le_trans hle2 b4.size
      have HO4 := Lib.hid ho4
      clear ho4 b4
      obtain ⟨a4, c4, rfl⟩ := ownsRow_form HO4.out
      obtain ⟨z, hz⟩ : ∃ z, (be y 2 ++ be s 4).length = z := ⟨_, rfl⟩
      have hz6 : z ≤ 6 := by rw [← hz, List.length_append, be_len, be_len]; omega
      have HO5 : Hid (w4.ownsRow wr.heap.size 5 1 (.slice a4 z c4) z (nby (be y 2 ++ be s 4))) := Lib.hid (by have := HO4.out; unfold OwnY at this; rw [hz] at this; exact this)
      rw [hz]
      have HZ := Lib.hid hz
      clear hz HO4
      obtain ⟨ad9, c9, e9, hrd9⟩ := HI4.out
      rw [HY.out] at hrd9 e9
      cases e9
      have HR9 := Lib.hid hrd9
      have hBz : B ≤ wr.heap.size := by have := HBw.out.size; have := HBD.out; omega
      clear hrd9
      go_wp2_with (at_builtin; refine wpList_append_rv rfl (.tmp 52) (.tmp 53) _ rfl wr.heap.size 5 _ 1 1 Tryz.underlying49 info_u8 rfl (by decide) _ z _ rfl HO5.out _ y _ _ rfl HR9.out (nby_one _) (by unfold maxLen; omega) (by omega) hle4 (z + y) rfl _ rfl ?_; intro ad7 c7 w7 hown7 hg7 hn7 hb7 hk7; have O7 := Lib.hid hown7; have B7 := Lib.hid (HB4.out.trans hb7); clear hown7 hg7 hn7 hb7 hk7)
      go_ret
      have hln : (encB L).length = z + y := by rw [HEB2.out, HS.out, List.length_append, HZ.out, HY.out]
      refine ⟨.slice ad7 (z + y) c7, rfl, ⟨ad7, c7, by rw [hln], ?_⟩, by rw [HBD.out]; exact HBw.out.trans (B7.out.mono hBz)⟩
      obtain ⟨r1, -⟩ := ownsRow_rds O7.out
      rw [hln, HEB2.out, HS.out, nby_app]
      exact r1
end Go.Proofs
end

section
open Go.RowKit Go.Deep Go.Maps
namespace Go.Proofs
set_option linter.unusedVariables false
set_option linter.unusedSimpArgs false

/-- the type of a block of cells -/
def tyOf : Obj → Option TypeId
  | .cells _ e _ => some e
  | _ => none
/-- below B, and of whatever type is not in ts, nothing turns -/
structure KT (ts : List (Option TypeId)) (B : Nat) (w w' : World) : Prop where
  below : Below B w w'
  keep : ∀ (b : Nat) (o : Obj), w.heap[b]? = some o → tyOf o ∉ ts → w'.heap[b]? = some o
theorem KT.refl (ts B w) : KT ts B w w := ⟨Below.refl _ _, fun _ _ h _ => h⟩
theorem KT.trans {ts B a b c} (h : KT ts B a b) (k : KT ts B b c) : KT ts B a c := ⟨h.below.trans k.below, fun i o ho hn => k.keep i o (h.keep i o ho hn) hn⟩
theorem KT.more {ts us B a b} (h : KT ts B a b) (hs : ∀ t ∈ ts, t ∈ us) : KT us B a b := ⟨h.below, fun i o ho hn => h.keep i o ho (fun e => hn (hs _ e))⟩
theorem KT.low {ts B C a b} (h : KT ts B a b) (hB : C ≤ B) : KT ts C a b := ⟨h.below.mono hB, h.keep⟩
theorem KT.of_below {ts B w w'} (h : Below w.heap.size w w') (hB : B ≤ w.heap.size) : KT ts B w w' :=
  ⟨h.mono hB, fun i o ho _ => (h.block i (Array.getElem?_eq_some_iff.1 ho).1).trans ho⟩
theorem KT.size {ts B w w'} (h : KT ts B w w') : w.heap.size ≤ w'.heap.size := h.below.size
/-- one block turned -/
theorem KT.of_grown {ts : List (Option TypeId)} {B : Nat} {w w' : World} {row : Option Nat} (h : w.grownBy w' row) (hB : B ≤ w.heap.size) (hr : ∀ b, row = some b → B ≤ b ∧ ∀ o, w.heap[b]? = some o → tyOf o ∈ ts) : KT ts B w w' :=
  ⟨(Below.refl _ _).grown h hB (fun b e => (hr b e).1), fun i o ho hn => by
    refine (h.block i (Array.getElem?_eq_some_iff.1 ho).1 (fun e => ?_)).trans ho
    exact hn ((hr i e.symm).2 o ho)⟩
theorem Vt.kt {ts B w w' b vs e} (h : Vt w b vs e) (k : KT ts B w w') (he : some e ∉ ts) : Vt w' b vs e := k.keep b _ h he
theorem BalM.kt {ts B w w' mb n f h} (H : BalM w mb n f h) (k : KT ts B w w') (he : none ∉ ts) : BalM w' mb n f h := by
  obtain ⟨D, ⟨es, clock, e1, e2⟩, h2⟩ := H
  exact ⟨D, ⟨es, clock, k.keep mb _ e1 he, e2⟩, h2⟩
theorem own_kt {ts B w w' C e k v n cs} (h : World.ownsRow w C e k v n cs) (H : KT ts B w w') (he : some e ∉ ts) : World.ownsRow w' C e k v n cs := by
  obtain ⟨hl, h1⟩ := h
  refine ⟨hl, ?_⟩
  rcases h1 with h1 | ⟨g, cap, cur, rfl, hg, hh, r⟩
  · exact .inl h1
  · exact .inr ⟨g, cap, cur, rfl, hg, H.keep g _ hh he, r⟩
theorem own_ty {w : World} {C e k : Nat} {v : Value} {n : Nat} {cs : List Value} (h : w.ownsRow C e k v n cs) : ∀ b, v.ownBlock = some b → C ≤ b ∧ ∀ o, w.heap[b]? = some o → tyOf o = some e := by
  intro b hb
  obtain ⟨hl, h1⟩ := h
  rcases h1 with ⟨rfl, _⟩ | ⟨g, cap, cur, rfl, hg, hh, r⟩
  · cases hb
  · cases hb
    refine ⟨hg, fun o ho => ?_⟩
    rw [hh] at ho
    cases ho
    rfl
/-- moves in a block of moves -/
def MvT (w : World) (v : Value) (L : List Mv) : Prop := ∃ ad c, v = .slice ad L.length c ∧ RdV w ad c L.length 4 (flat mvcl L) ∧ ∀ a, ad = some a → ∃ cs q, w.heap[a.block]? = some (.cells cs 35 q)
theorem MvT.inMv {w v L} (h : MvT w v L) : InMv w v L := by
  obtain ⟨ad, c, e, h, _⟩ := h
  exact ⟨ad, c, e, h⟩
theorem MvT.kt {ts B w w' v L} (h : MvT w v L) (k : KT ts B w w') (he : some 35 ∉ ts) : MvT w' v L := by
  obtain ⟨ad, c, e, ⟨h1, h2, h3, h4⟩, ht⟩ := h
  refine ⟨ad, c, e, ⟨h1, h2, h3, ?_⟩, fun a ha => ?_⟩
  · rcases h4 with h4 | ⟨b, o, rfl, h4⟩
    · exact .inl h4
    · refine .inr ⟨b, o, rfl, fun j u hj => ?_⟩
      obtain ⟨cs, q, hb⟩ := ht _ rfl
      rw [← h4 j u hj]
      exact World.cell?_of_block ((k.keep b _ hb he).trans hb.symm)
  · obtain ⟨cs, q, hb⟩ := ht a ha
    exact ⟨cs, q, k.keep _ _ hb he⟩

/-- the disk: what it holds -/
def dcl (dv : Value) (sf : Int) : List Value := [.bool true, dv, .int .i64 sf, .bool false, .int .i64 0]
def DiskS (w : World) (B db : Nat) (xs : List Nat) : Prop := ∃ ad c sf, Vt w db (dcl (.slice ad xs.length c) sf) 51 ∧ OwnY w B (.slice ad xs.length c) xs ∧ B ≤ db
theorem DiskS.kt {ts B w w' C db xs} (h : DiskS w B db xs) (k : KT ts C w w') (h1 : some 51 ∉ ts) (h2 : some 5 ∉ ts) : DiskS w' B db xs := by
  obtain ⟨ad, c, sf, a, b, e⟩ := h
  exact ⟨ad, c, sf, a.kt k h1, own_kt b k h2, e⟩

set_option maxHeartbeats 1000000 in
theorem ready_calls (w : World) (db : Nat) (dv : Value) (sf : Int) (h : Vt w db (dcl dv sf) 51) :
    Calls Tryz.prog 12 #[.pointer (some ⟨db, 0, none⟩)] w fun e w' => e = .returned (.int .i64 0) ∧ w' = w := by
  have c0 := h.vals.cell (i := 0) (by simp [dcl])
  have c3 := h.vals.cell (i := 3) (by simp [dcl])
  simp only [dcl, List.getD_cons_zero, List.getD_cons_succ] at c0 c3
  have lv := h.vals.lt
  clear h
  go_enter Tryz.func12, Tryz.ntmps12
  go_wp2
  go_ret
  exact ⟨rfl, rfl⟩
set_option maxHeartbeats 1000000 in
theorem act_calls (w : World) (db : Nat) (dv : Value) (sf : Int) (h : Vt w db (dcl dv sf) 51) :
    Calls Tryz.prog 34 #[.pointer (some ⟨db, 0, none⟩)] w fun e w' => e = .returned (.bool false) ∧ w' = w := by
  have c4 := h.vals.cell (i := 4) (by simp [dcl])
  simp only [dcl, List.getD_cons_zero, List.getD_cons_succ] at c4
  have lv := h.vals.lt
  clear h
  go_enter Tryz.func34, Tryz.ntmps34
  go_wp2
  go_ret
  exact ⟨rfl, rfl⟩

theorem Vt.set {w b vs e} (h : Vt w b vs e) (i : Nat) (u : Value) : Vt (w.setCell ⟨b, i, none⟩ u) b (vs.set i u) e := by
  unfold Vt at *
  rw [heap_setCell_same w b i _ e u h]
  simp
theorem KT.set {ts B w b vs e} (h : Vt w b vs e) (i : Nat) (u : Value) (hB : B ≤ b) (he : some e ∈ ts) : KT ts B w (w.setCell ⟨b, i, none⟩ u) :=
  ⟨(Below.refl _ _).setCell (p := ⟨b, i, none⟩) hB u, fun j o ho hn => by
    refine (Below.heap_setCell _ _ _ _ (fun e' => ?_)).trans ho
    have e2 : j = b := e'
    subst e2
    unfold Vt at h
    rw [h] at ho
    cases ho
    exact hn he⟩

set_option maxRecDepth 100000 in
set_option maxHeartbeats 4000000 in
theorem append_calls (w : World) (B db : Nat) (xs ys : List Nat) (bv : Value) (H : DiskS w B db xs) (hb : InY w bv ys) (hs : xs.length + ys.length ≤ 60000) (hB : B ≤ w.heap.size) :
    Calls Tryz.prog 18 #[.pointer (some ⟨db, 0, none⟩), bv] w fun e w' => e = .returned (.int .i64 0) ∧ DiskS w' B db (xs ++ ys) ∧ KT [some 51, some 5] B w w' := by
  obtain ⟨ad, c, sf, hv, ho, hdb⟩ := H
  obtain ⟨ad2, c2, rfl, rd⟩ := hb
  obtain ⟨n, hn⟩ : ∃ n, xs.length = n := ⟨_, rfl⟩
  obtain ⟨m, hm⟩ : ∃ n, ys.length = n := ⟨_, rfl⟩
  have hln : (xs ++ ys).length = n + m := by rw [List.length_append, hn, hm]
  unfold OwnY at ho
  rw [hn] at hv ho hs
  rw [hm] at rd hs ⊢
  have HN := Lib.hid hn
  have HLN := Lib.hid hln
  have HO := Lib.hid ho
  have HR := Lib.hid rd
  have HV := Lib.hid hv
  have LP := rd.2.1
  have hw1 : IntKind.i64.wrap (65536 - (n : Int)) = 65536 - (n : Int) := IntWalk.i64_in _ (by omega)
  have hgt : ¬ ((m : Int) > 65536 - (n : Int)) := by omega
  have c1 := hv.vals.cell (i := 1) (by simp [dcl])
  simp only [dcl, List.getD_cons_zero, List.getD_cons_succ] at c1
  have lv := hv.vals.lt
  clear hn hm hln ho rd hv
  go_enter Tryz.func18, Tryz.ntmps18
  go_wp2_with fail
  refine (ready_calls w db _ sf HV.out).mono ?_
  rintro e wz ⟨rfl, rfl⟩
  have fz := HV.out.vals.frozen 1
  go_wp2_with (at_builtin; refine wpList_append_rv rfl (.tmp 24) (.tmp 25) _ rfl B 5 _ 1 1 Tryz.underlying49 info_u8 rfl (by decide) _ n _ rfl HO.out _ m _ _ rfl HR.out (nby_one _) (by unfold maxLen; omega) (by omega) hB (n + m) rfl _ rfl ?_; intro ad7 c7 w7 hown7 hg7 hn7 hb7 hk7; have O7 := Lib.hid hown7; have V7 := Lib.hid (HV.out.row HO.out (by decide) hg7); have K7 := Lib.hid (KT.of_grown (ts := [some 51, some 5]) hg7 hB (fun b e => ⟨(own_ty HO.out b e).1, fun o ho => by rw [(own_ty HO.out b e).2 o ho]; simp⟩)); have fz7 := V7.out.vals.frozen 1; have lv7 := V7.out.vals.lt; have cc7 := V7.out.vals.cell (i := 1) (by simp [dcl]); simp only [dcl, List.getD_cons_zero, List.getD_cons_succ] at cc7; clear hown7 hg7 hn7 hb7 hk7)
  have V8 := Lib.hid (V7.out.set 1 (.slice ad7 (n + m) c7))
  have K8 := Lib.hid (K7.out.trans (KT.set V7.out 1 (.slice ad7 (n + m) c7) hdb (by simp)))
  have O8 := Lib.hid (own_kt O7.out (KT.set (ts := [some 51]) V7.out 1 (.slice ad7 (n + m) c7) hdb (by simp)) (by decide))
  clear fz7 lv7 cc7
  generalize w7.setCell ⟨db, 1, none⟩ (.slice ad7 (n + m) c7) = w8 at *
  refine (act_calls w8 db (.slice ad7 (n + m) c7) sf V8.out).mono ?_
  rintro e wy ⟨rfl, rfl⟩
  go_wp2
  go_ret
  refine ⟨rfl, ⟨ad7, c7, sf, by rw [HLN.out]; exact V8.out, ?_, hdb⟩, K8.out⟩
  unfold OwnY
  rw [HLN.out, nby_app]
  exact O8.out

set_option maxRecDepth 100000 in
set_option maxHeartbeats 4000000 in
theorem sync_calls (w : World) (B db : Nat) (xs : List Nat) (H : DiskS w B db xs) :
    Calls Tryz.prog 16 #[.pointer (some ⟨db, 0, none⟩)] w fun e w' => e = .returned (.int .i64 0) ∧ DiskS w' B db xs ∧ KT [some 51] B w w' := by
  obtain ⟨ad, c, sf, hv, ho, hdb⟩ := H
  obtain ⟨n, hn⟩ : ∃ n, xs.length = n := ⟨_, rfl⟩
  rw [hn] at hv
  have HN := Lib.hid hn
  have HO := Lib.hid ho
  have HV := Lib.hid hv
  have c1 := hv.vals.cell (i := 1) (by simp [dcl])
  simp only [dcl, List.getD_cons_zero, List.getD_cons_succ] at c1
  have lv := hv.vals.lt
  have f2 := hv.vals.frozen 2
  clear hn ho hv
  have c2 := HV.out.vals.cell (i := 2) (by simp [dcl])
  simp only [dcl, List.getD_cons_zero, List.getD_cons_succ] at c2
  go_enter Tryz.func16, Tryz.ntmps16
  go_wp2_with fail
  refine (ready_calls w db _ sf HV.out).mono ?_
  rintro e wz ⟨rfl, rfl⟩
  go_wp2_with fail
  refine (act_calls _ db _ sf HV.out).mono ?_
  rintro e wy ⟨rfl, rfl⟩
  go_wp2
  go_ret
  have K8 := KT.set (ts := [some 51]) HV.out 2 (.int .i64 (n : Int)) hdb (by simp)
  exact ⟨rfl, ⟨ad, c, n, by rw [HN.out]; exact HV.out.set 2 (.int .i64 (n : Int)), own_kt HO.out K8 (by decide), hdb⟩, K8⟩
end Go.Proofs
end

section
open Go.RowKit Go.Deep Go.Maps
namespace Go.Proofs
set_option linter.unusedVariables false
set_option linter.unusedSimpArgs false

def bcl (db : Nat) (ev : Value) (mb : Nat) : List Value := [.pointer (some ⟨db, 0, none⟩), ev, .map (some mb), .bool false]
theorem info_en : (Tryz.prog.info? 36).map (fun i => (i.zero, i.size, i.bytes)) = some (some (.slice none 0 0), 1, 24) := by kernel_rfl
/-- a book on a disk: its disk, its entries (what they hold is not told), its balances -/
structure BookS (w : World) (B b db mb k n : Nat) (f : Bal) : Prop where
  low : B ≤ b
  lowm : B ≤ mb
  cells : ∃ ea ec es, Vt w b (bcl db (.slice ea k ec) mb) 57 ∧ w.ownsRow B 36 1 (.slice ea k ec) k es
  bal : BalZ w mb n f
theorem BookS.kt {ts C w w' B b db mb k n f} (h : BookS w B b db mb k n f) (H : KT ts C w w') (h1 : some 57 ∉ ts) (h2 : some 36 ∉ ts) (h3 : none ∉ ts) : BookS w' B b db mb k n f := by
  obtain ⟨a, a', ⟨ea, ec, es, b, c⟩, d⟩ := h
  exact ⟨a, a', ⟨ea, ec, es, b.kt H h1, own_kt c H h2⟩, BalM.kt d H h3⟩

set_option maxHeartbeats 1000000 in
theorem broken_calls (w : World) (b db mb : Nat) (ev : Value) (h : Vt w b (bcl db ev mb) 57) :
    Calls Tryz.prog 35 #[.pointer (some ⟨b, 0, none⟩)] w fun e w' => e = .returned (.bool false) ∧ w' = w := by
  have c0 := h.vals.cell (i := 0) (by simp [bcl])
  have c3 := h.vals.cell (i := 3) (by simp [bcl])
  simp only [bcl, List.getD_cons_zero, List.getD_cons_succ] at c0 c3
  have lv := h.vals.lt
  clear h
  go_enter Tryz.func35, Tryz.ntmps35
  go_wp2
  go_ret
  exact ⟨rfl, rfl⟩
set_option maxHeartbeats 1000000 in
theorem count_calls (w : World) (B b db mb k n : Nat) (f : Bal) (H : BookS w B b db mb k n f) :
    Calls Tryz.prog 9 #[.pointer (some ⟨b, 0, none⟩)] w fun e w' => e = .returned (.int .i64 (k : Int)) ∧ w' = w := by
  obtain ⟨_, _, ⟨ea, ec, es, h, _⟩, _⟩ := H
  have c1 := h.vals.cell (i := 1) (by simp [bcl])
  simp only [bcl, List.getD_cons_zero, List.getD_cons_succ] at c1
  have lv := h.vals.lt
  clear h
  go_enter Tryz.func9, Tryz.ntmps9
  go_wp2
  go_ret
  exact ⟨rfl, rfl⟩
set_option maxHeartbeats 1000000 in
theorem balance_calls (w : World) (B b db mb k n : Nat) (f : Bal) (H : BookS w B b db mb k n f) (a i : ByteArray) (ha : SzB a) (hi : SzB i) :
    Calls Tryz.prog 10 #[.pointer (some ⟨b, 0, none⟩), .string a, .string i] w fun e w' => e = .returned (.int .i64 (f a i)) ∧ w' = w := by
  obtain ⟨_, _, ⟨ea, ec, es, h, _⟩, hb⟩ := H
  have c2 := h.vals.cell (i := 2) (by simp [bcl])
  simp only [bcl, List.getD_cons_zero, List.getD_cons_succ] at c2
  have lv := h.vals.lt
  obtain ⟨k1, -⟩ := BalM.look hb mapT_bal ha hi
  unfold pk at k1
  obtain ⟨x, hx⟩ : ∃ x, f a i = x := ⟨_, rfl⟩
  rw [hx] at k1 ⊢
  clear h hb hx
  go_enter Tryz.func10, Tryz.ntmps10
  go_wp2
  go_ret
  exact ⟨rfl, rfl⟩

set_option maxHeartbeats 2000000 in
theorem would_calls (w : World) (B b db mb k n : Nat) (f : Bal) (L : List Mv) (v : Value) (H : BookS w B b db mb k n f) (hv : InMv w v L) (hL : 1 ≤ L.length ∧ L.length ≤ 32) (hG : ∀ k, k < L.length → MvOk (L.getD k mv0)) (hB : Bd f 500000000000) :
    Calls Tryz.prog 17 #[.pointer (some ⟨b, 0, none⟩), v] w fun e w' => e = .returned (.int .i64 (refN f (doN z0 L L.length) (plsN L L.length) (2 * L.length))) ∧ Below w.heap.size w w' := by
  have H0 := Lib.hid H
  obtain ⟨_, _, ⟨ea, ec, es, h, _⟩, hb⟩ := H
  have HV := Lib.hid h
  have HI := Lib.hid hv
  have HG := Lib.hid hG
  have HB := Lib.hid hB
  obtain ⟨R, hR⟩ : ∃ R, refN f (doN z0 L L.length) (plsN L L.length) (2 * L.length) = R := ⟨_, rfl⟩
  have RF := fun (W : World) (h1 : BalZ W mb n f) (h2 : InMv W v L) => refused_calls W mb n f L v h1 h2 hL.2 (fun k hk => szM_of (hG k hk)) hB
  rw [hR] at RF ⊢
  have HRF := Lib.hid RF
  have HBA := Lib.hid hb
  clear RF hR h hb hv hG hB
  go_enter Tryz.func17, Tryz.ntmps17
  go_wp2_with fail
  refine (broken_calls w b db mb _ HV.out).mono ?_
  rintro e wz ⟨rfl, rfl⟩
  go_wp2_with fail
  refine (entry_calls L v _ HI.out hL HG.out).mono ?_
  rintro e w1 ⟨rfl, b1⟩
  have V1 := HV.out.mono b1
  have c2 := V1.vals.cell (i := 2) (by simp [bcl])
  simp only [bcl, List.getD_cons_zero, List.getD_cons_succ] at c2
  have lv := V1.vals.lt
  go_wp2_with fail
  clear c2 lv
  refine (HRF.out w1 (BalM.below HBA.out b1) (HI.out.mono b1)).mono ?_
  rintro e w2 ⟨rfl, b2⟩
  go_wp2
  go_ret
  exact ⟨rfl, b1.trans (b2.mono b1.size)⟩
end Go.Proofs
end

section
open Go.RowKit Go.Deep Go.Maps
namespace Go.Proofs
set_option linter.unusedVariables false
set_option linter.unusedSimpArgs false

set_option maxHeartbeats 2000000 in
/-- refused -/
theorem post_no (w : World) (B b db mb k n : Nat) (f : Bal) (L : List Mv) (v : Value) (R : Int) (H : BookS w B b db mb k n f) (hv : InMv w v L) (hL : 1 ≤ L.length ∧ L.length ≤ 32) (hG : ∀ k, k < L.length → MvOk (L.getD k mv0)) (hB : Bd f 500000000000)
    (hR : refN f (doN z0 L L.length) (plsN L L.length) (2 * L.length) = R) (hne : R ≠ 0) :
    Calls Tryz.prog 6 #[.pointer (some ⟨b, 0, none⟩), v] w fun e w' => e = .returned (.int .i64 R) ∧ Below w.heap.size w w' := by
  have W := would_calls w B b db mb k n f L v H hv hL hG hB
  rw [hR] at W
  have HW := Lib.hid W
  have hne2 : (R == 0) = false := by simp [hne]
  have hne3 : (R != 0) = true := by simp [hne]
  clear W hR H hv hG hB
  go_enter Tryz.func6, Tryz.ntmps6
  go_wp2_with fail
  refine HW.out.mono ?_
  rintro e w1 ⟨rfl, b1⟩
  go_wp2
  go_ret
  exact ⟨rfl, b1⟩

set_option maxRecDepth 100000 in
set_option maxHeartbeats 2000000 in
theorem clone_calls (w : World) (v : Value) (L : List Mv) (hv : InMv w v L) (hL : 1 ≤ L.length ∧ L.length ≤ 32) :
    Calls Tryz.prog 20 #[v] w fun e w' => ∃ a c, e = .returned (.slice a L.length c) ∧ Below w.heap.size w w' := by
  obtain ⟨ad, c, rfl, rd⟩ := hv
  have LP := rd.2.1
  obtain ⟨bq, oq, rfl⟩ : ∃ b o, ad = some ⟨b, o, none⟩ := by
    obtain ⟨_, h2, _, h4⟩ := rd
    rcases h4 with h4 | ⟨b, o, e, _⟩
    · omega
    · exact ⟨b, o, e⟩
  obtain ⟨l, hl⟩ : ∃ l, L.length = l := ⟨_, rfl⟩
  rw [hl] at rd hL LP ⊢
  have bz := below_alloc w (.cells #[] 35)
  have HO := Lib.hid (ownsRow_made w 35 4)
  have HR := Lib.hid (rd.mono bz)
  have HB := Lib.hid bz
  have hle := bz.size
  clear rd bz hl
  have he := fun w : World => Lib.run_eql_slice_nil (P := Tryz.prog) w 36 35 (some ⟨bq, oq, none⟩) l c 0 0 Tryz.underlying36
  simp only [Option.isNone_some] at he
  go_enter Tryz.func20, Tryz.ntmps20
  go_wp2_with (at_builtin; refine wpList_append_rv rfl (.tmp 5) (.tmp 6) _ rfl w.heap.size 35 _ 4 56 Tryz.underlying36 info_mv rfl (by decide) _ 0 _ rfl HO.out _ l _ _ rfl HR.out (flat_one mvcl_one _) (by unfold maxLen; omega) (by omega) hle l (by omega) _ rfl ?_; intro ad7 c7 w7 hown7 hg7 hn7 hb7 hk7; have B7 := Lib.hid (HB.out.trans hb7); clear hown7 hg7 hn7 hb7 hk7)
  go_ret
  exact ⟨ad7, c7, rfl, B7.out⟩
end Go.Proofs
end

