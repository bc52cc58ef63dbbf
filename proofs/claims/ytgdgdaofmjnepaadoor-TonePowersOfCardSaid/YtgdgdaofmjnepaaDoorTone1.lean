/- tone: size, gcd, valid, reduce. -/
import Derived.Test.YtgdgdaofmjnepaaDoorToneLaw
import Derived.Test.YtgdgdaofmjnepaaDoorVals
import Derived.Test.YtgdgdaofmjnepaaDoorBits
import Derived.StillTailTactics
import Derived.Deep.RegionWith
import Derived.Deep.Cut
import Derived.BigRegion
open Go.RowKit Go.Deep
namespace Go.Proofs
set_option linter.unusedVariables false

theorem u64_neg (n : Nat) (h1 : 1 ≤ n) (h2 : n ≤ 9223372036854775808) : IntKind.u64.wrap (-(IntKind.u64.wrap (-(n : Int)))) = (n : Int) := by
  rw [IntKind.wrap_u64, IntKind.wrap_u64]; omega

theorem size_calls (z : Int) (w : World) (h : -9223372036854775808 ≤ z ∧ z ≤ 9223372036854775807) :
    Calls Tryd.prog 64 #[.int .i64 z] w fun e w' => e = .returned (.int .u64 (z.natAbs : Int)) ∧ w' = w := by
  by_cases hz : z < 0
  · obtain ⟨n, rfl⟩ : ∃ n : Nat, z = -(n : Int) := ⟨z.natAbs, by omega⟩
    rw [Int.natAbs_neg, Int.natAbs_natCast]
    have h1 : 1 ≤ n := by omega
    have h2 : n ≤ 9223372036854775808 := by omega
    have H := u64_neg n h1 h2
    go_enter Tryd.func64, Tryd.ntmps64
    go_wp2
    go_ret
    exact ⟨rfl, rfl⟩
  · obtain ⟨n, rfl⟩ : ∃ n : Nat, z = (n : Int) := ⟨z.natAbs, by omega⟩
    rw [Int.natAbs_natCast]
    have h2 : n ≤ 9223372036854775807 := by omega
    go_enter Tryd.func64, Tryd.ntmps64
    go_wp2
    go_ret
    exact ⟨rfl, rfl⟩

theorem size_neg (n : Nat) (w : World) (h : n ≤ 9223372036854775808) :
    Calls Tryd.prog 64 #[.int .i64 (-(n : Int))] w fun e w' => e = .returned (.int .u64 (n : Int)) ∧ w' = w := by
  have S := size_calls (-(n : Int)) w (by omega)
  rwa [Int.natAbs_neg, Int.natAbs_natCast] at S
theorem size_nat (n : Nat) (w : World) (h : n ≤ 9223372036854775807) :
    Calls Tryd.prog 64 #[.int .i64 (n : Int)] w fun e w' => e = .returned (.int .u64 (n : Int)) ∧ w' = w := by
  have S := size_calls (n : Int) w (by omega)
  rwa [Int.natAbs_natCast] at S

/-- a row of u64 -/
def CellU (w : World) (b : Nat) (ns : List Nat) : Prop := ∀ i, i < ns.length → w.cell? ⟨b, i, none⟩ = some (.int .u64 ((ns.getD i 0 : Nat) : Int))

def gcdTo (ns : List Nat) : Nat → Nat
  | 0 => 0
  | i + 1 => Nat.gcd (gcdTo ns i) (ns.getD i 0)

theorem gcdTo_lt (ns : List Nat) (M : Nat) (hlt : ∀ i, i < ns.length → ns.getD i 0 < M) (h0 : 0 < M) : ∀ i, i ≤ ns.length → gcdTo ns i < M
  | 0, _ => h0
  | i + 1, h => by
    have h1 := gcdTo_lt ns M hlt h0 i (by omega)
    have h2 := hlt i (by omega)
    rw [gcdTo]
    by_cases hz : gcdTo ns i = 0
    · rw [hz, Nat.gcd_zero_left]; exact h2
    · exact Nat.lt_of_le_of_lt (Nat.gcd_le_left _ (by omega)) h1

set_option maxRecDepth 100000 in
theorem gcd_calls (b n c : Nat) (ns : List Nat) (w : World) (hn : n = ns.length) (h8 : ns.length ≤ 10) (hlt : ∀ i, i < ns.length → ns.getD i 0 < 18446744073709551616) (hc : CellU w b ns) :
    Calls Tryd.prog 63 #[.slice (some ⟨b, 0, none⟩) n c] w fun e w' => e = .returned (.int .u64 ((gcdTo ns ns.length : Nat) : Int)) ∧ ∃ k, w' = w.drewN k := by
  have HN := Lib.hid hn
  have hn10 : n ≤ 10 := by omega
  have HLT := Lib.hid hlt
  have HG := Lib.hid (gcdTo_lt ns 18446744073709551616 hlt (by omega))
  have HC := Lib.hid hc
  clear hn hlt hc
  go_enter Tryd.func63, Tryd.ntmps63
  go_wp2
  go_loopw [3, 5, 8] (fun av bv iv wr => ∃ i k : Nat, i ≤ n ∧ iv = .int .i64 i ∧ av = .int .u64 ((gcdTo ns i : Nat) : Int) ∧ wr = w.drewN k)
    (fun _ _ iv _ => n - (intOf iv).toNat)
  case atStart => exact ⟨0, 0, by omega, rfl, rfl, rfl⟩
  case round =>
    obtain ⟨i, k, hi, rfl, rfl, rfl⟩ := hrel
    by_cases hlt : i < n
    · have hcell : (w.drewN k).cell? ⟨b, i, none⟩ = some (.int .u64 ((ns.getD i 0 : Nat) : Int)) := HC.out i (by have := HN.out; omega)
      have hxi := HLT.out i (by have := HN.out; omega)
      have hgi := HG.out i (by have := HN.out; omega)
      have Hstep : Hid (gcdTo ns (i + 1) = Nat.gcd (gcdTo ns i) (ns.getD i 0)) := Lib.hid rfl
      generalize ns.getD i 0 = x at *
      obtain ⟨a0, ea⟩ : ∃ a0, gcdTo ns i = a0 := ⟨_, rfl⟩
      rw [ea] at Hstep hgi
      rw [ea]
      have t1 : (i : Int) < (n : Int) := by omega
      clear ea
      go_wp2
      go_loopw [3, 5] (fun av bv wr => ∃ a b k : Nat, Nat.gcd a b = Nat.gcd a0 x ∧ a < 18446744073709551616 ∧ b < 18446744073709551616 ∧ av = .int .u64 a ∧ bv = .int .u64 b ∧ wr = w.drewN k)
        (fun _ bv _ => (intOf bv).toNat)
      case atStart => exact ⟨a0, x, _, rfl, by omega, by omega, rfl, rfl, rfl⟩
      case round =>
        obtain ⟨a, b, k, hg, ha, hb, rfl, rfl, rfl⟩ := hrel
        have HGG := Lib.hid hg
        clear hg
        by_cases hb0 : b = 0
        · subst hb0
          go_wp2
          go_roundw
          case rel => exact ⟨i + 1, _, by omega, by go_num, by rw [Hstep.out, ← HGG.out, Nat.gcd_zero_right], rfl⟩
          case measure => simp [intOf]; omega
        · have t2 : (0 : Int) < (b : Int) := by omega
          have t3 : ((b : Int) == 0) = false := by rw [beq_eq_false_iff_ne]; omega
          have hm : a % b < b := Nat.mod_lt _ (by omega)
          have hg2 : Nat.gcd b (a % b) = Nat.gcd a0 x := by
            rw [← HGG.out, Nat.gcd_comm b, ← Nat.gcd_rec, Nat.gcd_comm]
          have HG2 := Lib.hid hg2
          clear hg2
          go_wp2_with fail
          go_quiet (fail)
          go_roundw
          case rel =>
            repeat apply Exists.intro
            exact ⟨⟨b, a % b, k + nq, HG2.out, by omega, by omega, rfl, rfl, by rw [World.drewN_drewN]⟩, rfl⟩
          case measure => simp [intOf]; omega
    · obtain rfl : i = n := by omega
      have t1 : ¬ (i : Int) < (i : Int) := by omega
      clear hlt
      go_wp2
      go_ret
      refine ⟨?_, _, rfl⟩
      rw [HN.out]
      rfl

theorem gcdTo_four (a b c d : Nat) : gcdTo [a, b, c, d] [a, b, c, d].length = gcdN a b c d := by
  rw [← gcd_fold]
  simp [gcdTo, List.getD]
theorem gcdTo_two (a b : Nat) : gcdTo [a, b] [a, b].length = Nat.gcd a b := by
  simp [gcdTo, List.getD]

theorem four_lt {a b c d M : Nat} (h1 : a < M) (h2 : b < M) (h3 : c < M) (h4 : d < M) : ∀ i, i < [a, b, c, d].length → [a, b, c, d].getD i 0 < M
  | 0, _ => h1
  | 1, _ => h2
  | 2, _ => h3
  | 3, _ => h4
  | i + 4, h => by simp at h; omega

theorem cellU_new (w : World) (ns : List Nat) (vs : Array Value) (e : TypeId) (hv : vs = (ns.map fun (n : Nat) => Value.int .u64 (n : Int)).toArray) : CellU (w.alloc (.cells vs e)) w.heap.size ns := by
  subst hv
  intro i hi
  unfold World.cell?
  rw [heap_alloc_new]
  simp [hi]

theorem ret_bool {a b : Bool} (h : a = b) : Ending.returned (.bool a) = .returned (.bool b) := by rw [h]

/-- a region whose order is drawn: it reads, then a tail in one order -/
theorem region_tail {P : Program} {id : Nat} {Q : Exit → Act → World → Prop} {a : Act} {w : World} {l : List Oper} (n : Nat) (hm : P.follows .mixedOrders = true) (hB : Region.lexTailB .any l.toArray n = true)
    (h : ∀ w1, w1 = w.drew → wpStill P l.toArray w1 (fun a' => wpList P l.toArray Q (l.drop n) a' w1) (l.take n) a) : (Code.region id l.toArray true).wp P Q a w :=
  wp_region_still_tail n hm hB (h _ rfl)

set_option maxRecDepth 100000 in
theorem tvalid_calls (a b c d : Int) (w : World) (ha : -9223372036854775808 ≤ a ∧ a ≤ 9223372036854775807) (hb : -9223372036854775808 ≤ b ∧ b ≤ 9223372036854775807) (hc : -9223372036854775808 ≤ c ∧ c ≤ 9223372036854775807) (hd : -9223372036854775808 ≤ d ∧ d ≤ 9223372036854775807) :
    Calls Tryd.prog 62 #[.agg #[.int .i64 a, .int .i64 b, .int .i64 c, .int .i64 d]] w fun e w' => e = .returned (.bool (validB a b c d)) ∧ Below w.heap.size w w' := by
  have vx := Vals.newL w w.heap.size [.int .i64 a, .int .i64 b, .int .i64 c, .int .i64 d] 23 rfl
  have B := below_alloc w (.cells #[.int .i64 a, .int .i64 b, .int .i64 c, .int .i64 d] 23)
  have G : ∀ w1 : World, Calls Tryd.prog 63 #[.slice (some ⟨w1.heap.size, 0, none⟩) 4 4] (w1.alloc (.cells #[.int .u64 (a.natAbs : Int), .int .u64 (b.natAbs : Int), .int .u64 (c.natAbs : Int), .int .u64 (d.natAbs : Int)] 59))
      fun e w' => e = .returned (.int .u64 ((gcd4 a b c d : Nat) : Int)) ∧ ∃ k, w' = (w1.alloc (.cells #[.int .u64 (a.natAbs : Int), .int .u64 (b.natAbs : Int), .int .u64 (c.natAbs : Int), .int .u64 (d.natAbs : Int)] 59)).drewN k := fun w1 => by
    have h := gcd_calls w1.heap.size 4 4 [a.natAbs, b.natAbs, c.natAbs, d.natAbs] (w1.alloc (.cells #[.int .u64 (a.natAbs : Int), .int .u64 (b.natAbs : Int), .int .u64 (c.natAbs : Int), .int .u64 (d.natAbs : Int)] 59)) rfl (by simp)
      (four_lt (by omega) (by omega) (by omega) (by omega)) (cellU_new _ _ _ _ (by simp))
    rw [gcdTo_four] at h
    exact h
  have HG := Lib.hid G
  clear G
  have ways : (((gcd4 a b c d : Nat) : Int) == 1) = false ∧ validB a b c d = false ∨ (((gcd4 a b c d : Nat) : Int) == 1) = true ∧ decide (1 ≤ d) = false ∧ validB a b c d = false ∨
      (((gcd4 a b c d : Nat) : Int) == 1) = true ∧ decide (1 ≤ d) = true ∧ decide (d ≤ 24) = false ∧ validB a b c d = false ∨
      (((gcd4 a b c d : Nat) : Int) == 1) = true ∧ decide (1 ≤ d) = true ∧ decide (d ≤ 24) = true ∧ validB a b c d = decide (max a.natAbs (max b.natAbs c.natAbs) ≤ 960) := by
    unfold validB
    rw [← Nat.max_assoc]
    by_cases g1 : gcd4 a b c d = 1
    · rw [g1]
      by_cases d1 : 1 ≤ d
      · by_cases d2 : d ≤ 24
        · right; right; right; simp [d1, d2]
        · right; right; left; simp [d1, d2]
      · right; left; simp [d1]
    · left
      simp only [g1, decide_false, Bool.false_and, and_true]
      rw [beq_eq_false_iff_ne]; omega
  generalize gcd4 a b c d = g at *
  rcases ways with ⟨g1, hv⟩ | ⟨g1, d1, hv⟩ | ⟨g1, d1, d2, hv⟩ | ⟨g1, d1, d2, hv⟩
  all_goals
    rw [hv]
    clear hv
    go_enter Tryd.func62, Tryd.ntmps62
    go_wp2_with fail
    refine region_tail 12 (by kernel_rfl) (by kernel_rfl) ?_
    simp only [List.take_succ_cons, List.take_zero, List.drop_succ_cons, List.drop_zero]
    intro w1 hw
    replace vx : Vals w1 w.heap.size [.int .i64 a, .int .i64 b, .int .i64 c, .int .i64 d] := by rw [hw]; exact vx.drew
    replace B : Below w.heap.size w w1 := by rw [hw]; exact B.drew
    clear hw
    have cx0 := vx.cell (i := 0) (by simp)
    have cx1 := vx.cell (i := 1) (by simp)
    have cx2 := vx.cell (i := 2) (by simp)
    have cx3 := vx.cell (i := 3) (by simp)
    simp only [List.getD_cons_zero, List.getD_cons_succ] at cx0 cx1 cx2 cx3
    repeat (first | still_step | still_call (size_calls _ _ (by assumption)))
    refine wpStill_nil ?_
    go_wp2_with fail
    refine (HG.out w1).mono ?_
    rintro e w2 ⟨rfl, k, rfl⟩
    clear cx0 cx1 cx2 cx3
    have b2 := below_alloc w1 (.cells #[.int .u64 (a.natAbs : Int), .int .u64 (b.natAbs : Int), .int .u64 (c.natAbs : Int), .int .u64 (d.natAbs : Int)] 59)
    replace vx := (vx.mono b2).drewN k
    replace B := below_drewN (below_trans B b2) k
    clear b2
    go_upto_region 2 with (fail)
    generalize World.drewN (w1.alloc (.cells #[.int .u64 (a.natAbs : Int), .int .u64 (b.natAbs : Int), .int .u64 (c.natAbs : Int), .int .u64 (d.natAbs : Int)] 59)) k = w3 at *
    have cx0 := vx.cell (i := 0) (by simp)
    have cx1 := vx.cell (i := 1) (by simp)
    have cx2 := vx.cell (i := 2) (by simp)
    have cx3 := vx.cell (i := 3) (by simp)
    simp only [List.getD_cons_zero, List.getD_cons_succ] at cx0 cx1 cx2 cx3
    go_quiet ((go_at_call 64; exact Calls.quiet_of_same (size_calls _ _ (by assumption))))
    go_wp2
    all_goals
      go_ret
      refine ⟨?_, below_drewN B _⟩
      first
      | rfl
      | (refine ret_bool ?_
         rw [decide_eq_decide]
         simp only [Nat.max_le]
         first | omega | (rename_i h1 h2; rw [if_pos h2] at h1; omega) | (rename_i h1 h2; rw [if_neg h2] at h1; omega))

theorem ret_i64 {k : IntKind} {a b : Int} (h : a = b) : Ending.returned (.int k a) = .returned (.int k b) := by rw [h]
theorem part_neg (n g : Nat) (hn : n ≤ 9223372036854775808) : wrap64 (-wrap64 (IntKind.u64.wrap ((n : Int) / (g : Int)))) = -((n / g : Nat) : Int) := by
  have : n / g ≤ n := Nat.div_le_self _ _
  have e : (n : Int) / (g : Int) = ((n / g : Nat) : Int) := rfl
  rw [e]
  generalize n / g = q at *
  rw [IntKind.wrap_u64]; unfold wrap64; omega
theorem part_nat (n g : Nat) (hn : n ≤ 9223372036854775807) : wrap64 (IntKind.u64.wrap ((n : Int) / (g : Int))) = ((n / g : Nat) : Int) := by
  have : n / g ≤ n := Nat.div_le_self _ _
  have e : (n : Int) / (g : Int) = ((n / g : Nat) : Int) := rfl
  rw [e]
  generalize n / g = q at *
  rw [IntKind.wrap_u64]; unfold wrap64; omega

theorem tpart_calls (z : Int) (g b : Nat) (w : World) (h : -9223372036854775808 ≤ z ∧ z ≤ 9223372036854775807) (hg : 1 ≤ g) (hg2 : g < 18446744073709551616) (hc : w.cell? ⟨b, 0, none⟩ = some (.int .u64 (g : Int))) :
    Calls Tryd.prog 99 #[.int .i64 z, .pointer (some ⟨b, 0, none⟩)] w fun e w' => e = .returned (.int .i64 (z.tdiv g)) ∧ ∃ k, w' = w.drewN k := by
  have hg0 : ((g : Int) == 0) = false := by rw [beq_eq_false_iff_ne]; omega
  by_cases hz : z < 0
  · obtain ⟨n, rfl⟩ : ∃ n : Nat, z = -(n : Int) := ⟨z.natAbs, by omega⟩
    have hn : n ≤ 9223372036854775808 := by omega
    have e2 : (-(n : Int)).tdiv (g : Int) = -((n / g : Nat) : Int) := by rw [Int.neg_tdiv]; rfl
    rw [e2]
    have hle : n / g ≤ n := Nat.div_le_self _ _
    clear e2
    go_enter Tryd.func99, Tryd.ntmps99
    go_wp2_with fail
    go_quiet ((go_at_call 64; exact Calls.quiet_of_same (size_neg _ _ (by assumption))))
    go_wp2
    go_ret
    exact ⟨ret_i64 (part_neg n g hn), _, rfl⟩
  · obtain ⟨n, rfl⟩ : ∃ n : Nat, z = (n : Int) := ⟨z.natAbs, by omega⟩
    have hn : n ≤ 9223372036854775807 := by omega
    have e2 : (n : Int).tdiv (g : Int) = ((n / g : Nat) : Int) := rfl
    rw [e2]
    have hle : n / g ≤ n := Nat.div_le_self _ _
    clear e2
    go_enter Tryd.func99, Tryd.ntmps99
    go_wp2_with fail
    go_quiet ((go_at_call 64; exact Calls.quiet_of_same (size_nat _ _ (by assumption))))
    go_wp2
    go_ret
    exact ⟨ret_i64 (part_nat n g hn), _, rfl⟩

end Go.Proofs
