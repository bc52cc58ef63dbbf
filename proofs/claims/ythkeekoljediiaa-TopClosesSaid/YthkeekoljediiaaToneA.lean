/- tone: size, gcd, valid, reduce. tone: reduce. tone: Make, Check, Comma, joined, Mul, Div. -/
import Derived.Test.YthkeekoljediiaaTPlain
import Derived.Test.YthkeekoljediiaaVals
import Derived.Test.YthkeekoljediiaaNatA
import Derived.StillTailTactics
import Derived.Deep.RegionWith
import Derived.Deep.Cut
import Derived.BigRegion
open Go.RowKit Go.Deep
namespace Go.Proofs
set_option linter.unusedVariables false
set_option linter.unusedSimpArgs false

theorem u64_neg (n : Nat) (h1 : 1 ≤ n) (h2 : n ≤ 9223372036854775808) : IntKind.u64.wrap (-(IntKind.u64.wrap (-(n : Int)))) = (n : Int) := by
  rw [IntKind.wrap_u64, IntKind.wrap_u64]; omega

theorem size_calls (z : Int) (w : World) (h : -9223372036854775808 ≤ z ∧ z ≤ 9223372036854775807) :
    Calls Try.prog 49 #[.int .i64 z] w fun e w' => e = .returned (.int .u64 (z.natAbs : Int)) ∧ w' = w := by
  by_cases hz : z < 0
  · obtain ⟨n, rfl⟩ : ∃ n : Nat, z = -(n : Int) := ⟨z.natAbs, by omega⟩
    rw [Int.natAbs_neg, Int.natAbs_natCast]
    have h1 : 1 ≤ n := by omega
    have h2 : n ≤ 9223372036854775808 := by omega
    have H := u64_neg n h1 h2
    go_enter Try.func49, Try.ntmps49
    go_wp2
    go_ret
    exact ⟨rfl, rfl⟩
  · obtain ⟨n, rfl⟩ : ∃ n : Nat, z = (n : Int) := ⟨z.natAbs, by omega⟩
    rw [Int.natAbs_natCast]
    have h2 : n ≤ 9223372036854775807 := by omega
    go_enter Try.func49, Try.ntmps49
    go_wp2
    go_ret
    exact ⟨rfl, rfl⟩

theorem size_neg (n : Nat) (w : World) (h : n ≤ 9223372036854775808) :
    Calls Try.prog 49 #[.int .i64 (-(n : Int))] w fun e w' => e = .returned (.int .u64 (n : Int)) ∧ w' = w := by
  have S := size_calls (-(n : Int)) w (by omega)
  rwa [Int.natAbs_neg, Int.natAbs_natCast] at S
theorem size_nat (n : Nat) (w : World) (h : n ≤ 9223372036854775807) :
    Calls Try.prog 49 #[.int .i64 (n : Int)] w fun e w' => e = .returned (.int .u64 (n : Int)) ∧ w' = w := by
  have S := size_calls (n : Int) w (by omega)
  rwa [Int.natAbs_natCast] at S

/-- a row of u64 -/
def CellU (w : World) (b : Nat) (ns : List Nat) : Prop := ∀ i, i < ns.length → w.cell? ⟨b, i, none⟩ = some (.int .u64 ((ns.getD i 0 : Nat) : Int))

def gcdTo (ns : List Nat) : Nat → Nat
  | 0 => 0
  | i + 1 => Nat.gcd (gcdTo ns i) (ns.getD i 0)

theorem gcdTo_lt (ns : List Nat) (M : Nat) (hlt : ∀ i, i < ns.length → ns.getD i 0 < M) (h0 : 0 < M) : ∀ i, i ≤ ns.length → gcdTo ns i < M
  | 0, _ => h0
  | i + 1, h => by
    have h1 := gcdTo_lt ns M hlt h0 i (by omega)
    have h2 := hlt i (by omega)
    rw [gcdTo]
    by_cases hz : gcdTo ns i = 0
    · rw [hz, Nat.gcd_zero_left]; exact h2
    · exact Nat.lt_of_le_of_lt (Nat.gcd_le_left _ (by omega)) h1

set_option maxRecDepth 100000 in
theorem gcd_calls (b n c : Nat) (ns : List Nat) (w : World) (hn : n = ns.length) (h8 : ns.length ≤ 10) (hlt : ∀ i, i < ns.length → ns.getD i 0 < 18446744073709551616) (hc : CellU w b ns) :
    Calls Try.prog 48 #[.slice (some ⟨b, 0, none⟩) n c] w fun e w' => e = .returned (.int .u64 ((gcdTo ns ns.length : Nat) : Int)) ∧ ∃ k, w' = w.drewN k := by
  have HN := Lib.hid hn
  have hn10 : n ≤ 10 := by omega
  have HLT := Lib.hid hlt
  have HG := Lib.hid (gcdTo_lt ns 18446744073709551616 hlt (by omega))
  have HC := Lib.hid hc
  clear hn hlt hc
  go_enter Try.func48, Try.ntmps48
  go_wp2
  go_loopw [3, 5, 8] (fun av bv iv wr => ∃ i k : Nat, i ≤ n ∧ iv = .int .i64 i ∧ av = .int .u64 ((gcdTo ns i : Nat) : Int) ∧ wr = w.drewN k)
    (fun _ _ iv _ => n - (intOf iv).toNat)
  case atStart => exact ⟨0, 0, by omega, rfl, rfl, rfl⟩
  case round =>
    obtain ⟨i, k, hi, rfl, rfl, rfl⟩ := hrel
    by_cases hlt : i < n
    · have hcell : (w.drewN k).cell? ⟨b, i, none⟩ = some (.int .u64 ((ns.getD i 0 : Nat) : Int)) := HC.out i (by have := HN.out; omega)
      have hxi := HLT.out i (by have := HN.out; omega)
      have hgi := HG.out i (by have := HN.out; omega)
      have Hstep : Hid (gcdTo ns (i + 1) = Nat.gcd (gcdTo ns i) (ns.getD i 0)) := Lib.hid rfl
      generalize ns.getD i 0 = x at *
      obtain ⟨a0, ea⟩ : ∃ a0, gcdTo ns i = a0 := ⟨_, rfl⟩
      rw [ea] at Hstep hgi
      rw [ea]
      have t1 : (i : Int) < (n : Int) := by omega
      clear ea
      go_wp2
      go_loopw [3, 5] (fun av bv wr => ∃ a b k : Nat, Nat.gcd a b = Nat.gcd a0 x ∧ a < 18446744073709551616 ∧ b < 18446744073709551616 ∧ av = .int .u64 a ∧ bv = .int .u64 b ∧ wr = w.drewN k)
        (fun _ bv _ => (intOf bv).toNat)
      case atStart => exact ⟨a0, x, _, rfl, by omega, by omega, rfl, rfl, rfl⟩
      case round =>
        obtain ⟨a, b, k, hg, ha, hb, rfl, rfl, rfl⟩ := hrel
        have HGG := Lib.hid hg
        clear hg
        by_cases hb0 : b = 0
        · subst hb0
          go_wp2
          go_roundw
          case rel => exact ⟨i + 1, _, by omega, by go_num, by rw [Hstep.out, ← HGG.out, Nat.gcd_zero_right], rfl⟩
          case measure => simp [intOf]; omega
        · have t2 : (0 : Int) < (b : Int) := by omega
          have t3 : ((b : Int) == 0) = false := by rw [beq_eq_false_iff_ne]; omega
          have hm : a % b < b := Nat.mod_lt _ (by omega)
          have hg2 : Nat.gcd b (a % b) = Nat.gcd a0 x := by
            rw [← HGG.out, Nat.gcd_comm b, ← Nat.gcd_rec, Nat.gcd_comm]
          have HG2 := Lib.hid hg2
          clear hg2
          go_wp2_with fail
          go_quiet (fail)
          go_roundw
          case rel =>
            repeat apply Exists.intro
            exact ⟨⟨b, a % b, k + nq, HG2.out, by omega, by omega, rfl, rfl, by rw [World.drewN_drewN]⟩, rfl⟩
          case measure => simp [intOf]; omega
    · obtain rfl : i = n := by omega
      have t1 : ¬ (i : Int) < (i : Int) := by omega
      clear hlt
      go_wp2
      go_ret
      refine ⟨?_, _, rfl⟩
      rw [HN.out]
      rfl

theorem gcdTo_four (a b c d : Nat) : gcdTo [a, b, c, d] [a, b, c, d].length = gcdN a b c d := by
  rw [← gcd_fold]
  simp [gcdTo, List.getD]
theorem gcdTo_two (a b : Nat) : gcdTo [a, b] [a, b].length = Nat.gcd a b := by
  simp [gcdTo, List.getD]

theorem four_lt {a b c d M : Nat} (h1 : a < M) (h2 : b < M) (h3 : c < M) (h4 : d < M) : ∀ i, i < [a, b, c, d].length → [a, b, c, d].getD i 0 < M
  | 0, _ => h1
  | 1, _ => h2
  | 2, _ => h3
  | 3, _ => h4
  | i + 4, h => by simp at h; omega

theorem cellU_new (w : World) (ns : List Nat) (vs : Array Value) (e : TypeId) (hv : vs = (ns.map fun (n : Nat) => Value.int .u64 (n : Int)).toArray) : CellU (w.alloc (.cells vs e)) w.heap.size ns := by
  subst hv
  intro i hi
  unfold World.cell?
  rw [heap_alloc_new]
  simp [hi]

theorem ret_bool {a b : Bool} (h : a = b) : Ending.returned (.bool a) = .returned (.bool b) := by rw [h]

/-- a region whose order is drawn: it reads, then a tail in one order -/
theorem region_tail {P : Program} {id : Nat} {Q : Exit → Act → World → Prop} {a : Act} {w : World} {l : List Oper} (n : Nat) (hm : P.follows .mixedOrders = true) (hB : Region.lexTailB .any l.toArray n = true)
    (h : ∀ w1, w1 = w.drew → wpStill P l.toArray w1 (fun a' => wpList P l.toArray Q (l.drop n) a' w1) (l.take n) a) : (Code.region id l.toArray true).wp P Q a w :=
  wp_region_still_tail n hm hB (h _ rfl)

set_option maxRecDepth 100000 in
theorem tvalid_calls (a b c d : Int) (w : World) (ha : -9223372036854775808 ≤ a ∧ a ≤ 9223372036854775807) (hb : -9223372036854775808 ≤ b ∧ b ≤ 9223372036854775807) (hc : -9223372036854775808 ≤ c ∧ c ≤ 9223372036854775807) (hd : -9223372036854775808 ≤ d ∧ d ≤ 9223372036854775807) :
    Calls Try.prog 26 #[.agg #[.int .i64 a, .int .i64 b, .int .i64 c, .int .i64 d]] w fun e w' => e = .returned (.bool (validB a b c d)) ∧ Below w.heap.size w w' := by
  have vx := Vals.newL w w.heap.size [.int .i64 a, .int .i64 b, .int .i64 c, .int .i64 d] 37 rfl
  have B := below_alloc w (.cells #[.int .i64 a, .int .i64 b, .int .i64 c, .int .i64 d] 37)
  have G : ∀ w1 : World, Calls Try.prog 48 #[.slice (some ⟨w1.heap.size, 0, none⟩) 4 4] (w1.alloc (.cells #[.int .u64 (a.natAbs : Int), .int .u64 (b.natAbs : Int), .int .u64 (c.natAbs : Int), .int .u64 (d.natAbs : Int)] 44))
      fun e w' => e = .returned (.int .u64 ((gcd4 a b c d : Nat) : Int)) ∧ ∃ k, w' = (w1.alloc (.cells #[.int .u64 (a.natAbs : Int), .int .u64 (b.natAbs : Int), .int .u64 (c.natAbs : Int), .int .u64 (d.natAbs : Int)] 44)).drewN k := fun w1 => by
    have h := gcd_calls w1.heap.size 4 4 [a.natAbs, b.natAbs, c.natAbs, d.natAbs] (w1.alloc (.cells #[.int .u64 (a.natAbs : Int), .int .u64 (b.natAbs : Int), .int .u64 (c.natAbs : Int), .int .u64 (d.natAbs : Int)] 44)) rfl (by simp)
      (four_lt (by omega) (by omega) (by omega) (by omega)) (cellU_new _ _ _ _ (by simp))
    rw [gcdTo_four] at h
    exact h
  have HG := Lib.hid G
  clear G
  have ways : (((gcd4 a b c d : Nat) : Int) == 1) = false ∧ validB a b c d = false ∨ (((gcd4 a b c d : Nat) : Int) == 1) = true ∧ decide (1 ≤ d) = false ∧ validB a b c d = false ∨
      (((gcd4 a b c d : Nat) : Int) == 1) = true ∧ decide (1 ≤ d) = true ∧ decide (d ≤ 24) = false ∧ validB a b c d = false ∨
      (((gcd4 a b c d : Nat) : Int) == 1) = true ∧ decide (1 ≤ d) = true ∧ decide (d ≤ 24) = true ∧ validB a b c d = decide (max a.natAbs (max b.natAbs c.natAbs) ≤ 960) := by
    unfold validB
    rw [← Nat.max_assoc]
    by_cases g1 : gcd4 a b c d = 1
    · rw [g1]
      by_cases d1 : 1 ≤ d
      · by_cases d2 : d ≤ 24
        · right; right; right; simp [d1, d2]
        · right; right; left; simp [d1, d2]
      · right; left; simp [d1]
    · left
      simp only [g1, decide_false, Bool.false_and, and_true]
      rw [beq_eq_false_iff_ne]; omega
  generalize gcd4 a b c d = g at *
  rcases ways with ⟨g1, hv⟩ | ⟨g1, d1, hv⟩ | ⟨g1, d1, d2, hv⟩ | ⟨g1, d1, d2, hv⟩
  all_goals
    rw [hv]
    clear hv
    go_enter Try.func26, Try.ntmps26
    go_wp2_with fail
    refine region_tail 12 (by kernel_rfl) (by kernel_rfl) ?_
    simp only [List.take_succ_cons, List.take_zero, List.drop_succ_cons, List.drop_zero]
    intro w1 hw
    replace vx : Vals w1 w.heap.size [.int .i64 a, .int .i64 b, .int .i64 c, .int .i64 d] := by rw [hw]; exact vx.drew
    replace B : Below w.heap.size w w1 := by rw [hw]; exact B.drew
    clear hw
    have cx0 := vx.cell (i := 0) (by simp)
    have cx1 := vx.cell (i := 1) (by simp)
    have cx2 := vx.cell (i := 2) (by simp)
    have cx3 := vx.cell (i := 3) (by simp)
    simp only [List.getD_cons_zero, List.getD_cons_succ] at cx0 cx1 cx2 cx3
    repeat (first | still_step | still_call (size_calls _ _ (by assumption)))
    refine wpStill_nil ?_
    go_wp2_with fail
    refine (HG.out w1).mono ?_
    rintro e w2 ⟨rfl, k, rfl⟩
    clear cx0 cx1 cx2 cx3
    have b2 := below_alloc w1 (.cells #[.int .u64 (a.natAbs : Int), .int .u64 (b.natAbs : Int), .int .u64 (c.natAbs : Int), .int .u64 (d.natAbs : Int)] 44)
    replace vx := (vx.mono b2).drewN k
    replace B := below_drewN (below_trans B b2) k
    clear b2
    go_upto_region 2 with (fail)
    generalize World.drewN (w1.alloc (.cells #[.int .u64 (a.natAbs : Int), .int .u64 (b.natAbs : Int), .int .u64 (c.natAbs : Int), .int .u64 (d.natAbs : Int)] 44)) k = w3 at *
    have cx0 := vx.cell (i := 0) (by simp)
    have cx1 := vx.cell (i := 1) (by simp)
    have cx2 := vx.cell (i := 2) (by simp)
    have cx3 := vx.cell (i := 3) (by simp)
    simp only [List.getD_cons_zero, List.getD_cons_succ] at cx0 cx1 cx2 cx3
    go_quiet ((go_at_call 49; exact Calls.quiet_of_same (size_calls _ _ (by assumption))))
    go_wp2
    all_goals
      go_ret
      refine ⟨?_, below_drewN B _⟩
      first
      | rfl
      | (refine ret_bool ?_
         rw [decide_eq_decide]
         simp only [Nat.max_le]
         first | omega | (rename_i h1 h2; rw [if_pos h2] at h1; omega) | (rename_i h1 h2; rw [if_neg h2] at h1; omega))

theorem ret_i64 {k : IntKind} {a b : Int} (h : a = b) : Ending.returned (.int k a) = .returned (.int k b) := by rw [h]
theorem part_neg (n g : Nat) (hn : n ≤ 9223372036854775808) : wrap64 (-wrap64 (IntKind.u64.wrap ((n : Int) / (g : Int)))) = -((n / g : Nat) : Int) := by
  have : n / g ≤ n := Nat.div_le_self _ _
  have e : (n : Int) / (g : Int) = ((n / g : Nat) : Int) := rfl
  rw [e]
  generalize n / g = q at *
  rw [IntKind.wrap_u64]; unfold wrap64; omega
theorem part_nat (n g : Nat) (hn : n ≤ 9223372036854775807) : wrap64 (IntKind.u64.wrap ((n : Int) / (g : Int))) = ((n / g : Nat) : Int) := by
  have : n / g ≤ n := Nat.div_le_self _ _
  have e : (n : Int) / (g : Int) = ((n / g : Nat) : Int) := rfl
  rw [e]
  generalize n / g = q at *
  rw [IntKind.wrap_u64]; unfold wrap64; omega

theorem tpart_calls (z : Int) (g b : Nat) (w : World) (h : -9223372036854775808 ≤ z ∧ z ≤ 9223372036854775807) (hg : 1 ≤ g) (hg2 : g < 18446744073709551616) (hc : w.cell? ⟨b, 0, none⟩ = some (.int .u64 (g : Int))) :
    Calls Try.prog 50 #[.int .i64 z, .pointer (some ⟨b, 0, none⟩)] w fun e w' => e = .returned (.int .i64 (z.tdiv g)) ∧ ∃ k, w' = w.drewN k := by
  have hg0 : ((g : Int) == 0) = false := by rw [beq_eq_false_iff_ne]; omega
  by_cases hz : z < 0
  · obtain ⟨n, rfl⟩ : ∃ n : Nat, z = -(n : Int) := ⟨z.natAbs, by omega⟩
    have hn : n ≤ 9223372036854775808 := by omega
    have e2 : (-(n : Int)).tdiv (g : Int) = -((n / g : Nat) : Int) := by rw [Int.neg_tdiv]; rfl
    rw [e2]
    have hle : n / g ≤ n := Nat.div_le_self _ _
    clear e2
    go_enter Try.func50, Try.ntmps50
    go_wp2_with fail
    go_quiet ((go_at_call 49; exact Calls.quiet_of_same (size_neg _ _ (by assumption))))
    go_wp2
    go_ret
    exact ⟨ret_i64 (part_neg n g hn), _, rfl⟩
  · obtain ⟨n, rfl⟩ : ∃ n : Nat, z = (n : Int) := ⟨z.natAbs, by omega⟩
    have hn : n ≤ 9223372036854775807 := by omega
    have e2 : (n : Int).tdiv (g : Int) = ((n / g : Nat) : Int) := rfl
    rw [e2]
    have hle : n / g ≤ n := Nat.div_le_self _ _
    clear e2
    go_enter Try.func50, Try.ntmps50
    go_wp2_with fail
    go_quiet ((go_at_call 49; exact Calls.quiet_of_same (size_nat _ _ (by assumption))))
    go_wp2
    go_ret
    exact ⟨ret_i64 (part_nat n g hn), _, rfl⟩

end Go.Proofs

open Go.RowKit Go.Deep
namespace Go.Proofs
set_option linter.unusedVariables false
set_option linter.unusedSimpArgs false

/-- a struct and a number are returned -/
theorem results_cell_tmp {P : Program} {fn : Func} {p q : Tmp} {ty : TypeId} (h : fn.results = #[.cell p ty, .tmp q]) (tmps : Array Value) (w : World) (g : Nat) (t : TypeId) (cs : Array Value) (fr : Nat × Nat) (d : TypeDesc)
    (hp : tmps.getD p undef = .pointer (some ⟨g, 0, none⟩)) (hg : w.heap[g]? = some (.cells cs t fr))
    (hu : P.underlying ty = some d) (hd : (match d with | .struct _ | .array _ _ => true | _ => false) = true) (hi : (P.info? ty).map (·.size) = some cs.size) (v : Value) (hv : tmps.getD q undef = v) :
    (results fn tmps).run P w = .ok (.tuple #[.agg cs, v]) w := by
  have hp' : tmps[p]?.getD undef = .pointer (some ⟨g, 0, none⟩) := by simpa using hp
  have hv' : tmps[q]?.getD undef = v := by simpa using hv
  simp [results, h, hp', hv', asAddr, run_loadVar_row w g t ty cs fr d hg hu hd hi]

theorem Vals.set4 {w : World} {b : Nat} {v0 v1 v2 v3 : Value} (h : Vals w b [v0, v1, v2, v3]) (x y z t : Value) :
    Vals ((((w.setCell ⟨b, 0, none⟩ x).setCell ⟨b, 1, none⟩ y).setCell ⟨b, 2, none⟩ z).setCell ⟨b, 3, none⟩ t) b [x, y, z, t] :=
  (((h.set 0 x).set 1 y).set 2 z).set 3 t

theorem below_set4 {B b : Nat} {a w : World} (h : Below B a w) (hb : B ≤ b) (x y z t : Value) :
    Below B a ((((w.setCell ⟨b, 0, none⟩ x).setCell ⟨b, 1, none⟩ y).setCell ⟨b, 2, none⟩ z).setCell ⟨b, 3, none⟩ t) :=
  (((h.setCell (p := ⟨b, 0, none⟩) hb x).setCell (p := ⟨b, 1, none⟩) hb y).setCell (p := ⟨b, 2, none⟩) hb z).setCell (p := ⟨b, 3, none⟩) hb t

/-- a tone and an error are returned -/
def RetT (w : World) (r : T4 × Int) (e : Ending) (w' : World) : Prop :=
  e = .returned (.tuple #[.agg #[.int .i64 r.1.a, .int .i64 r.1.b, .int .i64 r.1.c, .int .i64 r.1.d], .int .i64 r.2]) ∧ Below w.heap.size w w'

def i64 (z : Int) : Prop := -9223372036854775808 ≤ z ∧ z ≤ 9223372036854775807

theorem tdiv_i64 {z : Int} {g : Nat} (h : i64 z) : i64 (z.tdiv g) := by
  have h1 := natAbs_tdiv' z g
  have h2 : z.natAbs / g ≤ z.natAbs := Nat.div_le_self _ _
  rw [tdiv_sgn]
  unfold sgnV i64 at *
  by_cases hz : z < 0
  · rw [decide_eq_true hz, if_pos rfl]; omega
  · rw [decide_eq_false hz, if_neg (by simp)]; omega

set_option maxRecDepth 100000 in
set_option maxHeartbeats 1000000 in
theorem reduce_calls (a b c d : Int) (w : World) (ha : i64 a) (hb : i64 b) (hc : i64 c) (hd : i64 d) (h1 : 1 ≤ d) :
    Calls Try.prog 24 #[.int .i64 a, .int .i64 b, .int .i64 c, .int .i64 d] w (RetT w (redT a b c d)) := by
  have hg1 : 1 ≤ gcd4 a b c d := gcdN_pos (by omega)
  have hg2 : gcd4 a b c d < 18446744073709551616 := by
    have h2 := Nat.le_of_dvd (by omega) (gcdN_dvd a.natAbs b.natAbs c.natAbs d.natAbs).2.2.2
    unfold gcd4
    unfold i64 at hd
    omega
  have G : ∀ (w1 : World) (n : Nat), n = w1.heap.size → Calls Try.prog 48 #[.slice (some ⟨n, 0, none⟩) 4 4] (w1.alloc (.cells #[.int .u64 (a.natAbs : Int), .int .u64 (b.natAbs : Int), .int .u64 (c.natAbs : Int), .int .u64 (d.natAbs : Int)] 44))
      fun e w' => e = .returned (.int .u64 ((gcd4 a b c d : Nat) : Int)) ∧ ∃ k, w' = (w1.alloc (.cells #[.int .u64 (a.natAbs : Int), .int .u64 (b.natAbs : Int), .int .u64 (c.natAbs : Int), .int .u64 (d.natAbs : Int)] 44)).drewN k := fun w1 n hn => by
    subst hn
    have h := gcd_calls w1.heap.size 4 4 [a.natAbs, b.natAbs, c.natAbs, d.natAbs] (w1.alloc (.cells #[.int .u64 (a.natAbs : Int), .int .u64 (b.natAbs : Int), .int .u64 (c.natAbs : Int), .int .u64 (d.natAbs : Int)] 44)) rfl (by simp)
      (four_lt (by unfold i64 at ha; omega) (by unfold i64 at hb; omega) (by unfold i64 at hc; omega) (by unfold i64 at hd; omega)) (cellU_new _ _ _ _ (by simp))
    rw [gcdTo_four] at h
    exact h
  have HG := Lib.hid G
  clear G
  have hred : redT a b c d = if validB (a.tdiv (gcd4 a b c d)) (b.tdiv (gcd4 a b c d)) (c.tdiv (gcd4 a b c d)) (d.tdiv (gcd4 a b c d)) = true then (⟨a.tdiv (gcd4 a b c d), b.tdiv (gcd4 a b c d), c.tdiv (gcd4 a b c d), d.tdiv (gcd4 a b c d)⟩, 0) else (⟨0, 0, 0, 0⟩, 5) := rfl
  rw [hred]
  clear hred
  have s1 : ∀ w : World, Calls Try.prog 49 #[.int .i64 a] w fun e w' => e = .returned (.int .u64 (a.natAbs : Int)) ∧ w' = w := fun w => size_calls a w ha
  have s2 : ∀ w : World, Calls Try.prog 49 #[.int .i64 b] w fun e w' => e = .returned (.int .u64 (b.natAbs : Int)) ∧ w' = w := fun w => size_calls b w hb
  have s3 : ∀ w : World, Calls Try.prog 49 #[.int .i64 c] w fun e w' => e = .returned (.int .u64 (c.natAbs : Int)) ∧ w' = w := fun w => size_calls c w hc
  have s4 : ∀ w : World, Calls Try.prog 49 #[.int .i64 d] w fun e w' => e = .returned (.int .u64 (d.natAbs : Int)) ∧ w' = w := fun w => size_calls d w hd
  have S1 := Lib.hid s1
  have S2 := Lib.hid s2
  have S3 := Lib.hid s3
  have S4 := Lib.hid s4
  clear s1 s2 s3 s4
  generalize gcd4 a b c d = g at *
  have PA := fun (b : Nat) (w : World) hc => tpart_calls a g b w ha hg1 hg2 hc
  have PB := fun (n : Nat) (w : World) hc => tpart_calls b g n w hb hg1 hg2 hc
  have PC := fun (n : Nat) (w : World) hn => tpart_calls c g n w hc hg1 hg2 hn
  have PD := fun (n : Nat) (w : World) hc => tpart_calls d g n w hd hg1 hg2 hc
  have V := tvalid_calls (a.tdiv g) (b.tdiv g) (c.tdiv g) (d.tdiv g)
  have V1 := fun w => V w (tdiv_i64 ha) (tdiv_i64 hb) (tdiv_i64 hc) (tdiv_i64 hd)
  have HV := Lib.hid V1
  clear V V1
  obtain ⟨x, ex⟩ : ∃ x, a.tdiv g = x := ⟨_, rfl⟩
  obtain ⟨y, ey⟩ : ∃ x, b.tdiv g = x := ⟨_, rfl⟩
  obtain ⟨z, ez⟩ : ∃ x, c.tdiv g = x := ⟨_, rfl⟩
  obtain ⟨t, et⟩ : ∃ x, d.tdiv g = x := ⟨_, rfl⟩
  rw [ex, ey, ez, et] at HV ⊢
  simp only [ex] at PA
  simp only [ey] at PB
  simp only [ez] at PC
  simp only [et] at PD
  have HPA := Lib.hid PA
  have HPB := Lib.hid PB
  have HPC := Lib.hid PC
  have HPD := Lib.hid PD
  clear PA PB PC PD ha hb hc hd h1 hg1 hg2 ex ey ez et
  have vr := Vals.newL w w.heap.size [.int .i64 0, .int .i64 0, .int .i64 0, .int .i64 0] 37 rfl
  have B := below_alloc w (.cells #[.int .i64 0, .int .i64 0, .int .i64 0, .int .i64 0] 37)
  have R1 : RetT w (if validB x y z t = true then (⟨x, y, z, t⟩, 0) else (⟨0, 0, 0, 0⟩, 5)) = RetT w (if validB x y z t = true then (⟨x, y, z, t⟩, 0) else (⟨0, 0, 0, 0⟩, 5)) := rfl
  cases hv : validB x y z t
  all_goals
    rw [hv] at HV
    simp only [Bool.false_eq_true, if_false, if_true]
    clear hv R1
    go_enter Try.func24, Try.ntmps24
    go_wp2_with fail
    refine (S1.out _).mono ?_
    rintro e wq ⟨rfl, rfl⟩
    go_wp2_with fail
    refine (S2.out _).mono ?_
    rintro e wq ⟨rfl, rfl⟩
    go_wp2_with fail
    refine (S3.out _).mono ?_
    rintro e wq ⟨rfl, rfl⟩
    go_wp2_with fail
    refine (S4.out _).mono ?_
    rintro e wq ⟨rfl, rfl⟩
    go_wp2_with fail
    have sz := World.size_alloc w (.cells #[.int .i64 0, .int .i64 0, .int .i64 0, .int .i64 0] 37)
    generalize w.alloc (.cells #[.int .i64 0, .int .i64 0, .int .i64 0, .int .i64 0] 37) = w1 at *
    refine (HG.out w1 _ sz.symm).mono ?_
    rintro e w2 ⟨rfl, k, rfl⟩
    have b2 := below_alloc w1 (.cells #[.int .u64 (a.natAbs : Int), .int .u64 (b.natAbs : Int), .int .u64 (c.natAbs : Int), .int .u64 (d.natAbs : Int)] 44)
    have sz2 : ((w1.alloc (.cells #[.int .u64 (a.natAbs : Int), .int .u64 (b.natAbs : Int), .int .u64 (c.natAbs : Int), .int .u64 (d.natAbs : Int)] 44)).drewN k).heap.size = w.heap.size + 1 + 1 := by
      rw [← sz]; exact World.size_alloc _ _
    replace vr := (vr.mono b2).drewN k
    replace B := below_drewN (below_trans B b2) k
    clear b2 sz
    generalize (w1.alloc (.cells #[.int .u64 (a.natAbs : Int), .int .u64 (b.natAbs : Int), .int .u64 (c.natAbs : Int), .int .u64 (d.natAbs : Int)] 44)).drewN k = w2 at *
    have vg := Vals.newL w2 w2.heap.size [.int .u64 (g : Int)] 44 rfl
    have b2 := below_alloc w2 (.cells #[.int .u64 (g : Int)] 44)
    replace vr := vr.mono b2
    replace B := below_trans B b2
    clear b2 sz2
    go_wp2_with fail
    generalize w2.alloc (.cells #[.int .u64 (g : Int)] 44) = w3 at *
    have cg : w3.cell? ⟨w2.heap.size, 0, none⟩ = some (.int .u64 (g : Int)) := vg.cell (i := 0) (by simp)
    refine (HPA.out _ w3 cg).mono ?_
    rintro e w4 ⟨rfl, k1, rfl⟩
    go_wp2_with fail
    refine (HPB.out _ _ (by exact cg)).mono ?_
    rintro e w4 ⟨rfl, k2, rfl⟩
    go_wp2_with fail
    refine (HPC.out _ _ (by exact cg)).mono ?_
    rintro e w4 ⟨rfl, k3, rfl⟩
    go_wp2_with fail
    refine (HPD.out _ _ (by exact cg)).mono ?_
    rintro e w4 ⟨rfl, k4, hw4⟩
    replace vr : Vals w4 w.heap.size [.int .i64 0, .int .i64 0, .int .i64 0, .int .i64 0] := by rw [hw4]; exact (vr.drewN _).drewN _
    replace B : Below w.heap.size w w4 := by rw [hw4]; exact below_drewN (below_drewN B _) _
    clear hw4 cg vg
    go_wp2_with fail
    have vz := Vals.newL w4 w4.heap.size [.int .i64 x, .int .i64 y, .int .i64 z, .int .i64 t] 37 rfl
    have b5 := below_alloc w4 (.cells #[.int .i64 x, .int .i64 y, .int .i64 z, .int .i64 t] 37)
    replace vr := vr.mono b5
    replace B := below_trans B b5
    clear b5
    generalize w4.alloc (.cells #[.int .i64 x, .int .i64 y, .int .i64 z, .int .i64 t] 37) = w5 at *
    refine (HV.out _).mono ?_
    rintro e w6 ⟨rfl, b6⟩
    replace vr := vr.mono b6
    replace vz := vz.mono b6
    replace B := below_trans B b6
    clear b6
    have cr0 := vr.cell (i := 0) (by simp)
    have cr1 := vr.cell (i := 1) (by simp)
    have cr2 := vr.cell (i := 2) (by simp)
    have cr3 := vr.cell (i := 3) (by simp)
    have cz0 := vz.cell (i := 0) (by simp)
    have cz1 := vz.cell (i := 1) (by simp)
    have cz2 := vz.cell (i := 2) (by simp)
    have cz3 := vz.cell (i := 3) (by simp)
    have fr0 := vr.frozen 0
    have fr1 := vr.frozen 1
    have fr2 := vr.frozen 2
    have fr3 := vr.frozen 3
    simp only [List.getD_cons_zero, List.getD_cons_succ] at cr0 cr1 cr2 cr3 cz0 cz1 cz2 cz3
    clear HPA HPB HPC HPD S1 S2 S3 S4 HG HV
    go_wp2_with fail
    clear cr0 cr1 cr2 cr3 cz0 cz1 cz2 cz3 fr0 fr1 fr2 fr3
  · obtain ⟨te, hg⟩ := vr.set4 (.int .i64 0) (.int .i64 0) (.int .i64 0) (.int .i64 0)
    refine bodyPost_ret_by (results_cell_tmp rfl _ _ w.heap.size te _ (0, 0) _ rfl hg Try.underlying37 rfl (by kernel_rfl) (.int .i64 5) rfl) rfl ?_
    exact ⟨rfl, below_set4 B (Nat.le_refl _) _ _ _ _⟩
  · obtain ⟨te, hg⟩ := vr.set4 (.int .i64 x) (.int .i64 y) (.int .i64 z) (.int .i64 t)
    refine bodyPost_ret_by (results_cell_tmp rfl _ _ w.heap.size te _ (0, 0) _ rfl hg Try.underlying37 rfl (by kernel_rfl) (.int .i64 0) rfl) rfl ?_
    exact ⟨rfl, below_set4 B (Nat.le_refl _) _ _ _ _⟩

end Go.Proofs

open Go.RowKit Go.Deep
namespace Go.Proofs
set_option linter.unusedVariables false
set_option linter.unusedSimpArgs false

theorem abs_mul_le {a b : Int} {A B : Nat} (h1 : a.natAbs ≤ A) (h2 : b.natAbs ≤ B) : (a * b).natAbs ≤ A * B := by
  rw [Int.natAbs_mul]; exact Nat.mul_le_mul h1 h2

theorem join_parts {s t : T4} {σ a b : Int} (ha : a.natAbs ≤ 960) (hb : b.natAbs ≤ 960) (hs : validB s.a s.b s.c s.d = true) (ht : validB t.a t.b t.c t.d = true) (hq : σ = 1 ∨ σ = -1) :
    (a * t.d).natAbs ≤ 960 * 24 ∧ (σ * s.d).natAbs ≤ 1 * 24 ∧ (b * (σ * s.d)).natAbs ≤ 960 * (1 * 24) := by
  have h1 := validB_parts hs
  have h2 := validB_parts ht
  have h3 : (σ * s.d).natAbs ≤ 1 * 24 := abs_mul_le (by omega) (by omega)
  exact ⟨abs_mul_le ha (by omega), h3, abs_mul_le hb h3⟩

theorem join_i64 {s t : T4} {σ a b : Int} (ha : a.natAbs ≤ 960) (hb : b.natAbs ≤ 960) (hs : validB s.a s.b s.c s.d = true) (ht : validB t.a t.b t.c t.d = true) (hq : σ = 1 ∨ σ = -1) :
    i64 (a * t.d + b * (σ * s.d)) := by
  obtain ⟨h1, h2, h3⟩ := join_parts ha hb hs ht hq
  unfold i64
  generalize a * t.d = p at *
  generalize b * (σ * s.d) = q at *
  omega

theorem wrap64_small {x : Int} (h : x.natAbs ≤ 1000000000000000000) : wrap64 x = x := by
  unfold wrap64; omega

theorem wrap_join {s t : T4} {σ a b : Int} (ha : a.natAbs ≤ 960) (hb : b.natAbs ≤ 960) (hs : validB s.a s.b s.c s.d = true) (ht : validB t.a t.b t.c t.d = true) (hq : σ = 1 ∨ σ = -1) :
    wrap64 (wrap64 (a * t.d) + wrap64 (b * wrap64 (σ * s.d))) = a * t.d + b * (σ * s.d) := by
  obtain ⟨h1, h2, h3⟩ := join_parts ha hb hs ht hq
  rw [wrap64_small (x := σ * s.d) (by omega), wrap64_small (x := b * (σ * s.d)) (by omega), wrap64_small (x := a * t.d) (by omega)]
  generalize a * t.d = p at *
  generalize b * (σ * s.d) = q at *
  exact wrap64_small (by omega)

theorem den_i64 {s t : T4} (hs : validB s.a s.b s.c s.d = true) (ht : validB t.a t.b t.c t.d = true) : i64 (s.d * t.d) ∧ 1 ≤ s.d * t.d := by
  have h1 := validB_parts hs
  have h2 := validB_parts ht
  have h3 : (s.d * t.d).natAbs ≤ 24 * 24 := abs_mul_le (by omega) (by omega)
  have h4 := prod_pos h1.2.1 h2.2.1
  unfold i64
  generalize s.d * t.d = p at *
  omega

theorem wrap_den {s t : T4} (hs : validB s.a s.b s.c s.d = true) (ht : validB t.a t.b t.c t.d = true) : wrap64 (s.d * t.d) = s.d * t.d := by
  have h1 := validB_parts hs
  have h2 := validB_parts ht
  exact wrap64_small (Nat.le_trans (abs_mul_le (A := 24) (B := 24) (by omega) (by omega)) (by omega))

theorem validB_i64 {t : T4} (h : validB t.a t.b t.c t.d = true) : i64 t.a ∧ i64 t.b ∧ i64 t.c ∧ i64 t.d := by
  have := validB_parts h
  unfold i64
  omega

set_option maxRecDepth 100000 in
theorem make_ok (a b c d : Int) (w : World) (ha : i64 a) (hb : i64 b) (hc : i64 c) (hd : i64 d) (h1 : 1 ≤ d) :
    Calls Try.prog 10 #[.int .i64 a, .int .i64 b, .int .i64 c, .int .i64 d] w (RetT w (redT a b c d)) := by
  have R := fun w : World => reduce_calls a b c d w ha hb hc hd h1
  generalize redT a b c d = r at *
  obtain ⟨⟨x, y, z, t⟩, k⟩ := r
  have HR := Lib.hid R
  have t1 : ¬ d < 1 := by omega
  clear R ha hb hc hd h1
  have vr := Vals.newL w (w.heap.size) [.int .i64 0, .int .i64 0, .int .i64 0, .int .i64 0] 37 rfl
  have bb := below_alloc w (.cells #[.int .i64 0, .int .i64 0, .int .i64 0, .int .i64 0] 37)
  have B := bb
  clear bb
  go_enter Try.func10, Try.ntmps10
  go_wp2_with fail
  generalize (w.alloc (.cells #[.int .i64 0, .int .i64 0, .int .i64 0, .int .i64 0] 37)) = w0 at *
  refine (HR.out _).mono ?_
  rintro e w1 ⟨rfl, b1⟩
  replace vr := vr.mono b1
  replace B := below_trans B b1
  clear b1
  have cvr0 := vr.cell (i := 0) (by simp)
  have cvr1 := vr.cell (i := 1) (by simp)
  have cvr2 := vr.cell (i := 2) (by simp)
  have cvr3 := vr.cell (i := 3) (by simp)
  simp only [List.getD_cons_zero, List.getD_cons_succ] at cvr0 cvr1 cvr2 cvr3
  have ltvr := vr.lt
  have fvr0 := vr.frozen 0
  have fvr1 := vr.frozen 1
  have fvr2 := vr.frozen 2
  have fvr3 := vr.frozen 3
  go_wp2
  obtain ⟨te, hg⟩ := vr.set4 (.int .i64 x) (.int .i64 y) (.int .i64 z) (.int .i64 t)
  refine bodyPost_ret_by (results_cell_tmp rfl _ _ (w.heap.size) te _ (0, 0) _ rfl hg Try.underlying37 rfl (by kernel_rfl) (.int .i64 k) rfl) rfl ?_
  exact ⟨rfl, below_set4 B (by omega) _ _ _ _⟩

set_option maxRecDepth 100000 in
theorem make_bad (a b c d : Int) (w : World) (h1 : d < 1) :
    Calls Try.prog 10 #[.int .i64 a, .int .i64 b, .int .i64 c, .int .i64 d] w (RetT w (⟨0, 0, 0, 0⟩, 1)) := by
  have vr := Vals.newL w (w.heap.size) [.int .i64 0, .int .i64 0, .int .i64 0, .int .i64 0] 37 rfl
  have bb := below_alloc w (.cells #[.int .i64 0, .int .i64 0, .int .i64 0, .int .i64 0] 37)
  have B := bb
  clear bb
  go_enter Try.func10, Try.ntmps10
  go_wp2_with fail
  generalize (w.alloc (.cells #[.int .i64 0, .int .i64 0, .int .i64 0, .int .i64 0] 37)) = w0 at *
  obtain ⟨te, hg⟩ := vr
  refine bodyPost_ret_by (results_cell_tmp rfl _ _ (w.heap.size) te _ (0, 0) _ rfl hg Try.underlying37 rfl (by kernel_rfl) (.int .i64 1) rfl) rfl ?_
  exact ⟨rfl, B⟩

theorem comma_0 (z : Int) (w : World) (hz : z = 0) :
    Calls Try.prog 69 #[.int .i64 z] w (RetT w (⟨(-19), 12, 0, 1⟩, 0)) := by
  have t0 : (z == 0) = true := by rw [beq_iff_eq]; omega
  have t1 : (z == 1) = false := by rw [beq_eq_false_iff_ne]; omega
  have t2 : (z == 2) = false := by rw [beq_eq_false_iff_ne]; omega
  have t3 : (z == 3) = false := by rw [beq_eq_false_iff_ne]; omega
  subst hz
  clear t0 t1 t2 t3
  have vr := Vals.newL w w.heap.size [.int .i64 (-19), .int .i64 12, .int .i64 0, .int .i64 1] 37 rfl
  have B := below_alloc w (.cells #[.int .i64 (-19), .int .i64 12, .int .i64 0, .int .i64 1] 37)
  go_enter Try.func69, Try.ntmps69
  go_wp2
  obtain ⟨te, hg⟩ := vr
  refine bodyPost_ret_by (results_cell_tmp rfl _ _ (w.heap.size) te _ (0, 0) _ rfl hg Try.underlying37 rfl (by kernel_rfl) (.int .i64 0) rfl) rfl ?_
  exact ⟨rfl, B⟩

theorem comma_1 (z : Int) (w : World) (hz : z = 1) :
    Calls Try.prog 69 #[.int .i64 z] w (RetT w (⟨(-4), 4, (-1), 1⟩, 0)) := by
  have t0 : (z == 0) = false := by rw [beq_eq_false_iff_ne]; omega
  have t1 : (z == 1) = true := by rw [beq_iff_eq]; omega
  have t2 : (z == 2) = false := by rw [beq_eq_false_iff_ne]; omega
  have t3 : (z == 3) = false := by rw [beq_eq_false_iff_ne]; omega
  subst hz
  clear t0 t1 t2 t3
  have vr := Vals.newL w w.heap.size [.int .i64 (-4), .int .i64 4, .int .i64 (-1), .int .i64 1] 37 rfl
  have B := below_alloc w (.cells #[.int .i64 (-4), .int .i64 4, .int .i64 (-1), .int .i64 1] 37)
  go_enter Try.func69, Try.ntmps69
  go_wp2
  obtain ⟨te, hg⟩ := vr
  refine bodyPost_ret_by (results_cell_tmp rfl _ _ (w.heap.size) te _ (0, 0) _ rfl hg Try.underlying37 rfl (by kernel_rfl) (.int .i64 0) rfl) rfl ?_
  exact ⟨rfl, B⟩

theorem comma_2 (z : Int) (w : World) (hz : z = 2) :
    Calls Try.prog 69 #[.int .i64 z] w (RetT w (⟨(-15), 8, 1, 1⟩, 0)) := by
  have t0 : (z == 0) = false := by rw [beq_eq_false_iff_ne]; omega
  have t1 : (z == 1) = false := by rw [beq_eq_false_iff_ne]; omega
  have t2 : (z == 2) = true := by rw [beq_iff_eq]; omega
  have t3 : (z == 3) = false := by rw [beq_eq_false_iff_ne]; omega
  subst hz
  clear t0 t1 t2 t3
  have vr := Vals.newL w w.heap.size [.int .i64 (-15), .int .i64 8, .int .i64 1, .int .i64 1] 37 rfl
  have B := below_alloc w (.cells #[.int .i64 (-15), .int .i64 8, .int .i64 1, .int .i64 1] 37)
  go_enter Try.func69, Try.ntmps69
  go_wp2
  obtain ⟨te, hg⟩ := vr
  refine bodyPost_ret_by (results_cell_tmp rfl _ _ (w.heap.size) te _ (0, 0) _ rfl hg Try.underlying37 rfl (by kernel_rfl) (.int .i64 0) rfl) rfl ?_
  exact ⟨rfl, B⟩

theorem comma_3 (z : Int) (w : World) (hz : z = 3) :
    Calls Try.prog 69 #[.int .i64 z] w (RetT w (⟨7, 0, (-3), 1⟩, 0)) := by
  have t0 : (z == 0) = false := by rw [beq_eq_false_iff_ne]; omega
  have t1 : (z == 1) = false := by rw [beq_eq_false_iff_ne]; omega
  have t2 : (z == 2) = false := by rw [beq_eq_false_iff_ne]; omega
  have t3 : (z == 3) = true := by rw [beq_iff_eq]; omega
  subst hz
  clear t0 t1 t2 t3
  have vr := Vals.newL w w.heap.size [.int .i64 7, .int .i64 0, .int .i64 (-3), .int .i64 1] 37 rfl
  have B := below_alloc w (.cells #[.int .i64 7, .int .i64 0, .int .i64 (-3), .int .i64 1] 37)
  go_enter Try.func69, Try.ntmps69
  go_wp2
  obtain ⟨te, hg⟩ := vr
  refine bodyPost_ret_by (results_cell_tmp rfl _ _ (w.heap.size) te _ (0, 0) _ rfl hg Try.underlying37 rfl (by kernel_rfl) (.int .i64 0) rfl) rfl ?_
  exact ⟨rfl, B⟩

theorem comma_4 (z : Int) (w : World) (hz : z < 0 ∨ 3 < z) :
    Calls Try.prog 69 #[.int .i64 z] w (RetT w (⟨0, 0, 0, 0⟩, 1)) := by
  have t0 : (z == 0) = false := by rw [beq_eq_false_iff_ne]; omega
  have t1 : (z == 1) = false := by rw [beq_eq_false_iff_ne]; omega
  have t2 : (z == 2) = false := by rw [beq_eq_false_iff_ne]; omega
  have t3 : (z == 3) = false := by rw [beq_eq_false_iff_ne]; omega
  clear hz
  have vr := Vals.newL w w.heap.size [.int .i64 0, .int .i64 0, .int .i64 0, .int .i64 0] 37 rfl
  have B := below_alloc w (.cells #[.int .i64 0, .int .i64 0, .int .i64 0, .int .i64 0] 37)
  go_enter Try.func69, Try.ntmps69
  go_wp2
  obtain ⟨te, hg⟩ := vr
  refine bodyPost_ret_by (results_cell_tmp rfl _ _ (w.heap.size) te _ (0, 0) _ rfl hg Try.underlying37 rfl (by kernel_rfl) (.int .i64 1) rfl) rfl ?_
  exact ⟨rfl, B⟩

set_option maxRecDepth 100000 in
theorem joined_ok (s t : T4) (σ : Int) (w : World) (hs : validB s.a s.b s.c s.d = true) (ht : validB t.a t.b t.c t.d = true) (hq : σ = 1 ∨ σ = -1) :
    Calls Try.prog 25 #[.agg #[.int .i64 s.a, .int .i64 s.b, .int .i64 s.c, .int .i64 s.d], .agg #[.int .i64 t.a, .int .i64 t.b, .int .i64 t.c, .int .i64 t.d], .int .i64 σ] w (RetT w (redT (s.a * t.d + t.a * (σ * s.d)) (s.b * t.d + t.b * (σ * s.d)) (s.c * t.d + t.c * (σ * s.d)) (s.d * t.d))) := by
  have VA := fun w : World => tvalid_calls s.a s.b s.c s.d w (validB_i64 hs).1 (validB_i64 hs).2.1 (validB_i64 hs).2.2.1 (validB_i64 hs).2.2.2
  have VB := fun w : World => tvalid_calls t.a t.b t.c t.d w (validB_i64 ht).1 (validB_i64 ht).2.1 (validB_i64 ht).2.2.1 (validB_i64 ht).2.2.2
  rw [hs] at VA
  rw [ht] at VB
  have HA := Lib.hid VA
  have HB := Lib.hid VB
  have R := fun w : World => reduce_calls (s.a * t.d + t.a * (σ * s.d)) (s.b * t.d + t.b * (σ * s.d)) (s.c * t.d + t.c * (σ * s.d)) (s.d * t.d) w (join_i64 (validB_parts hs).2.2.2.1 (validB_parts ht).2.2.2.1 hs ht hq) (join_i64 (validB_parts hs).2.2.2.2.1 (validB_parts ht).2.2.2.2.1 hs ht hq) (join_i64 (validB_parts hs).2.2.2.2.2 (validB_parts ht).2.2.2.2.2 hs ht hq) (den_i64 hs ht).1 (den_i64 hs ht).2
  have E1 := Lib.hid (wrap_join (validB_parts hs).2.2.2.1 (validB_parts ht).2.2.2.1 hs ht hq)
  have E2 := Lib.hid (wrap_join (validB_parts hs).2.2.2.2.1 (validB_parts ht).2.2.2.2.1 hs ht hq)
  have E3 := Lib.hid (wrap_join (validB_parts hs).2.2.2.2.2 (validB_parts ht).2.2.2.2.2 hs ht hq)
  have E4 := Lib.hid (wrap_den hs ht)
  have HR := Lib.hid R
  generalize redT (s.a * t.d + t.a * (σ * s.d)) (s.b * t.d + t.b * (σ * s.d)) (s.c * t.d + t.c * (σ * s.d)) (s.d * t.d) = r at *
  obtain ⟨⟨x, y, z, u⟩, k⟩ := r
  clear VA VB R hs ht hq
  have vs := Vals.newL w (w.heap.size) [.int .i64 s.a, .int .i64 s.b, .int .i64 s.c, .int .i64 s.d] 37 rfl
  have bb := below_alloc w (.cells #[.int .i64 s.a, .int .i64 s.b, .int .i64 s.c, .int .i64 s.d] 37)
  have B := bb
  have sz0 := World.size_alloc w (.cells #[.int .i64 s.a, .int .i64 s.b, .int .i64 s.c, .int .i64 s.d] 37)
  have sz := sz0
  clear sz0
  clear bb
  have vt := Vals.newL (w.alloc (.cells #[.int .i64 s.a, .int .i64 s.b, .int .i64 s.c, .int .i64 s.d] 37)) (w.heap.size + 1) [.int .i64 t.a, .int .i64 t.b, .int .i64 t.c, .int .i64 t.d] 37 sz.symm
  have bb := below_alloc (w.alloc (.cells #[.int .i64 s.a, .int .i64 s.b, .int .i64 s.c, .int .i64 s.d] 37)) (.cells #[.int .i64 t.a, .int .i64 t.b, .int .i64 t.c, .int .i64 t.d] 37)
  replace vs := vs.mono bb
  replace B := below_trans B bb
  clear bb
  have sz1 := World.size_alloc (w.alloc (.cells #[.int .i64 s.a, .int .i64 s.b, .int .i64 s.c, .int .i64 s.d] 37)) (.cells #[.int .i64 t.a, .int .i64 t.b, .int .i64 t.c, .int .i64 t.d] 37)
  rw [sz] at sz1
  clear sz
  have sz := sz1
  clear sz1
  have vr := Vals.newL ((w.alloc (.cells #[.int .i64 s.a, .int .i64 s.b, .int .i64 s.c, .int .i64 s.d] 37)).alloc (.cells #[.int .i64 t.a, .int .i64 t.b, .int .i64 t.c, .int .i64 t.d] 37)) (w.heap.size + 1 + 1) [.int .i64 0, .int .i64 0, .int .i64 0, .int .i64 0] 37 sz.symm
  have bb := below_alloc ((w.alloc (.cells #[.int .i64 s.a, .int .i64 s.b, .int .i64 s.c, .int .i64 s.d] 37)).alloc (.cells #[.int .i64 t.a, .int .i64 t.b, .int .i64 t.c, .int .i64 t.d] 37)) (.cells #[.int .i64 0, .int .i64 0, .int .i64 0, .int .i64 0] 37)
  replace vs := vs.mono bb
  replace vt := vt.mono bb
  replace B := below_trans B bb
  clear sz
  clear bb
  go_enter Try.func25, Try.ntmps25
  go_wp2_with fail
  generalize (((w.alloc (.cells #[.int .i64 s.a, .int .i64 s.b, .int .i64 s.c, .int .i64 s.d] 37)).alloc (.cells #[.int .i64 t.a, .int .i64 t.b, .int .i64 t.c, .int .i64 t.d] 37)).alloc (.cells #[.int .i64 0, .int .i64 0, .int .i64 0, .int .i64 0] 37)) = w0 at *
  refine (HA.out _).mono ?_
  rintro e w1 ⟨rfl, b1⟩
  replace vs := vs.mono b1
  replace vt := vt.mono b1
  replace vr := vr.mono b1
  replace B := below_trans B b1
  clear b1
  have cvt0 := vt.cell (i := 0) (by simp)
  have cvt1 := vt.cell (i := 1) (by simp)
  have cvt2 := vt.cell (i := 2) (by simp)
  have cvt3 := vt.cell (i := 3) (by simp)
  simp only [List.getD_cons_zero, List.getD_cons_succ] at cvt0 cvt1 cvt2 cvt3
  have ltvt := vt.lt
  go_wp2_with fail
  clear cvt0 cvt1 cvt2 cvt3 ltvt
  refine (HB.out _).mono ?_
  rintro e w2 ⟨rfl, b2⟩
  replace vs := vs.mono b2
  replace vt := vt.mono b2
  replace vr := vr.mono b2
  replace B := below_trans B b2
  clear b2
  have cvs0 := vs.cell (i := 0) (by simp)
  have cvs1 := vs.cell (i := 1) (by simp)
  have cvs2 := vs.cell (i := 2) (by simp)
  have cvs3 := vs.cell (i := 3) (by simp)
  simp only [List.getD_cons_zero, List.getD_cons_succ] at cvs0 cvs1 cvs2 cvs3
  have ltvs := vs.lt
  have cvt0 := vt.cell (i := 0) (by simp)
  have cvt1 := vt.cell (i := 1) (by simp)
  have cvt2 := vt.cell (i := 2) (by simp)
  have cvt3 := vt.cell (i := 3) (by simp)
  simp only [List.getD_cons_zero, List.getD_cons_succ] at cvt0 cvt1 cvt2 cvt3
  have ltvt := vt.lt
  go_wp2_with fail
  go_quiet (fail)
  go_wp2_with fail
  clear cvs0 cvs1 cvs2 cvs3 ltvs cvt0 cvt1 cvt2 cvt3 ltvt
  replace vr := vr.drewN nq
  replace B := below_drewN B nq
  clear vs vt
  rw [E1.out, E2.out, E3.out, E4.out]
  generalize w2.drewN nq = w3 at *
  refine (HR.out _).mono ?_
  rintro e w4 ⟨rfl, b4⟩
  replace vr := vr.mono b4
  replace B := below_trans B b4
  clear b4
  have cvr0 := vr.cell (i := 0) (by simp)
  have cvr1 := vr.cell (i := 1) (by simp)
  have cvr2 := vr.cell (i := 2) (by simp)
  have cvr3 := vr.cell (i := 3) (by simp)
  simp only [List.getD_cons_zero, List.getD_cons_succ] at cvr0 cvr1 cvr2 cvr3
  have ltvr := vr.lt
  have fvr0 := vr.frozen 0
  have fvr1 := vr.frozen 1
  have fvr2 := vr.frozen 2
  have fvr3 := vr.frozen 3
  go_wp2
  obtain ⟨te, hg⟩ := vr.set4 (.int .i64 x) (.int .i64 y) (.int .i64 z) (.int .i64 u)
  refine bodyPost_ret_by (results_cell_tmp rfl _ _ (w.heap.size + 1 + 1) te _ (0, 0) _ rfl hg Try.underlying37 rfl (by kernel_rfl) (.int .i64 k) rfl) rfl ?_
  exact ⟨rfl, below_set4 B (by omega) _ _ _ _⟩

set_option maxRecDepth 100000 in
theorem joined_bad0 (s t : T4) (σ : Int) (w : World) (hA : i64 s.a ∧ i64 s.b ∧ i64 s.c ∧ i64 s.d) (hB : i64 t.a ∧ i64 t.b ∧ i64 t.c ∧ i64 t.d) (hs : validB s.a s.b s.c s.d = false) :
    Calls Try.prog 25 #[.agg #[.int .i64 s.a, .int .i64 s.b, .int .i64 s.c, .int .i64 s.d], .agg #[.int .i64 t.a, .int .i64 t.b, .int .i64 t.c, .int .i64 t.d], .int .i64 σ] w (RetT w (⟨0, 0, 0, 0⟩, 2)) := by
  have VA := fun w : World => tvalid_calls s.a s.b s.c s.d w hA.1 hA.2.1 hA.2.2.1 hA.2.2.2
  rw [hs] at VA
  have HA := Lib.hid VA
  clear VA hs hA hB
  have vs := Vals.newL w (w.heap.size) [.int .i64 s.a, .int .i64 s.b, .int .i64 s.c, .int .i64 s.d] 37 rfl
  have bb := below_alloc w (.cells #[.int .i64 s.a, .int .i64 s.b, .int .i64 s.c, .int .i64 s.d] 37)
  have B := bb
  have sz0 := World.size_alloc w (.cells #[.int .i64 s.a, .int .i64 s.b, .int .i64 s.c, .int .i64 s.d] 37)
  have sz := sz0
  clear sz0
  clear bb
  have vt := Vals.newL (w.alloc (.cells #[.int .i64 s.a, .int .i64 s.b, .int .i64 s.c, .int .i64 s.d] 37)) (w.heap.size + 1) [.int .i64 t.a, .int .i64 t.b, .int .i64 t.c, .int .i64 t.d] 37 sz.symm
  have bb := below_alloc (w.alloc (.cells #[.int .i64 s.a, .int .i64 s.b, .int .i64 s.c, .int .i64 s.d] 37)) (.cells #[.int .i64 t.a, .int .i64 t.b, .int .i64 t.c, .int .i64 t.d] 37)
  replace vs := vs.mono bb
  replace B := below_trans B bb
  clear bb
  have sz1 := World.size_alloc (w.alloc (.cells #[.int .i64 s.a, .int .i64 s.b, .int .i64 s.c, .int .i64 s.d] 37)) (.cells #[.int .i64 t.a, .int .i64 t.b, .int .i64 t.c, .int .i64 t.d] 37)
  rw [sz] at sz1
  clear sz
  have sz := sz1
  clear sz1
  have vr := Vals.newL ((w.alloc (.cells #[.int .i64 s.a, .int .i64 s.b, .int .i64 s.c, .int .i64 s.d] 37)).alloc (.cells #[.int .i64 t.a, .int .i64 t.b, .int .i64 t.c, .int .i64 t.d] 37)) (w.heap.size + 1 + 1) [.int .i64 0, .int .i64 0, .int .i64 0, .int .i64 0] 37 sz.symm
  have bb := below_alloc ((w.alloc (.cells #[.int .i64 s.a, .int .i64 s.b, .int .i64 s.c, .int .i64 s.d] 37)).alloc (.cells #[.int .i64 t.a, .int .i64 t.b, .int .i64 t.c, .int .i64 t.d] 37)) (.cells #[.int .i64 0, .int .i64 0, .int .i64 0, .int .i64 0] 37)
  replace vs := vs.mono bb
  replace vt := vt.mono bb
  replace B := below_trans B bb
  clear sz
  clear bb
  go_enter Try.func25, Try.ntmps25
  go_wp2_with fail
  generalize (((w.alloc (.cells #[.int .i64 s.a, .int .i64 s.b, .int .i64 s.c, .int .i64 s.d] 37)).alloc (.cells #[.int .i64 t.a, .int .i64 t.b, .int .i64 t.c, .int .i64 t.d] 37)).alloc (.cells #[.int .i64 0, .int .i64 0, .int .i64 0, .int .i64 0] 37)) = w0 at *
  refine (HA.out _).mono ?_
  rintro e w1 ⟨rfl, b1⟩
  replace vs := vs.mono b1
  replace vt := vt.mono b1
  replace vr := vr.mono b1
  replace B := below_trans B b1
  clear b1
  have cvr0 := vr.cell (i := 0) (by simp)
  have cvr1 := vr.cell (i := 1) (by simp)
  have cvr2 := vr.cell (i := 2) (by simp)
  have cvr3 := vr.cell (i := 3) (by simp)
  simp only [List.getD_cons_zero, List.getD_cons_succ] at cvr0 cvr1 cvr2 cvr3
  have ltvr := vr.lt
  have fvr0 := vr.frozen 0
  have fvr1 := vr.frozen 1
  have fvr2 := vr.frozen 2
  have fvr3 := vr.frozen 3
  go_wp2
  obtain ⟨te, hg⟩ := vr.set4 (.int .i64 0) (.int .i64 0) (.int .i64 0) (.int .i64 0)
  refine bodyPost_ret_by (results_cell_tmp rfl _ _ (w.heap.size + 1 + 1) te _ (0, 0) _ rfl hg Try.underlying37 rfl (by kernel_rfl) (.int .i64 2) rfl) rfl ?_
  exact ⟨rfl, below_set4 B (by omega) _ _ _ _⟩

set_option maxRecDepth 100000 in
theorem joined_bad1 (s t : T4) (σ : Int) (w : World) (hA : i64 s.a ∧ i64 s.b ∧ i64 s.c ∧ i64 s.d) (hB : i64 t.a ∧ i64 t.b ∧ i64 t.c ∧ i64 t.d) (hs : validB s.a s.b s.c s.d = true) (ht : validB t.a t.b t.c t.d = false) :
    Calls Try.prog 25 #[.agg #[.int .i64 s.a, .int .i64 s.b, .int .i64 s.c, .int .i64 s.d], .agg #[.int .i64 t.a, .int .i64 t.b, .int .i64 t.c, .int .i64 t.d], .int .i64 σ] w (RetT w (⟨0, 0, 0, 0⟩, 2)) := by
  have VA := fun w : World => tvalid_calls s.a s.b s.c s.d w hA.1 hA.2.1 hA.2.2.1 hA.2.2.2
  rw [hs] at VA
  have HA := Lib.hid VA
  have VB := fun w : World => tvalid_calls t.a t.b t.c t.d w hB.1 hB.2.1 hB.2.2.1 hB.2.2.2
  rw [ht] at VB
  have HB := Lib.hid VB
  clear VB ht
  clear VA hs hA hB
  have vs := Vals.newL w (w.heap.size) [.int .i64 s.a, .int .i64 s.b, .int .i64 s.c, .int .i64 s.d] 37 rfl
  have bb := below_alloc w (.cells #[.int .i64 s.a, .int .i64 s.b, .int .i64 s.c, .int .i64 s.d] 37)
  have B := bb
  have sz0 := World.size_alloc w (.cells #[.int .i64 s.a, .int .i64 s.b, .int .i64 s.c, .int .i64 s.d] 37)
  have sz := sz0
  clear sz0
  clear bb
  have vt := Vals.newL (w.alloc (.cells #[.int .i64 s.a, .int .i64 s.b, .int .i64 s.c, .int .i64 s.d] 37)) (w.heap.size + 1) [.int .i64 t.a, .int .i64 t.b, .int .i64 t.c, .int .i64 t.d] 37 sz.symm
  have bb := below_alloc (w.alloc (.cells #[.int .i64 s.a, .int .i64 s.b, .int .i64 s.c, .int .i64 s.d] 37)) (.cells #[.int .i64 t.a, .int .i64 t.b, .int .i64 t.c, .int .i64 t.d] 37)
  replace vs := vs.mono bb
  replace B := below_trans B bb
  clear bb
  have sz1 := World.size_alloc (w.alloc (.cells #[.int .i64 s.a, .int .i64 s.b, .int .i64 s.c, .int .i64 s.d] 37)) (.cells #[.int .i64 t.a, .int .i64 t.b, .int .i64 t.c, .int .i64 t.d] 37)
  rw [sz] at sz1
  clear sz
  have sz := sz1
  clear sz1
  have vr := Vals.newL ((w.alloc (.cells #[.int .i64 s.a, .int .i64 s.b, .int .i64 s.c, .int .i64 s.d] 37)).alloc (.cells #[.int .i64 t.a, .int .i64 t.b, .int .i64 t.c, .int .i64 t.d] 37)) (w.heap.size + 1 + 1) [.int .i64 0, .int .i64 0, .int .i64 0, .int .i64 0] 37 sz.symm
  have bb := below_alloc ((w.alloc (.cells #[.int .i64 s.a, .int .i64 s.b, .int .i64 s.c, .int .i64 s.d] 37)).alloc (.cells #[.int .i64 t.a, .int .i64 t.b, .int .i64 t.c, .int .i64 t.d] 37)) (.cells #[.int .i64 0, .int .i64 0, .int .i64 0, .int .i64 0] 37)
  replace vs := vs.mono bb
  replace vt := vt.mono bb
  replace B := below_trans B bb
  clear sz
  clear bb
  go_enter Try.func25, Try.ntmps25
  go_wp2_with fail
  generalize (((w.alloc (.cells #[.int .i64 s.a, .int .i64 s.b, .int .i64 s.c, .int .i64 s.d] 37)).alloc (.cells #[.int .i64 t.a, .int .i64 t.b, .int .i64 t.c, .int .i64 t.d] 37)).alloc (.cells #[.int .i64 0, .int .i64 0, .int .i64 0, .int .i64 0] 37)) = w0 at *
  refine (HA.out _).mono ?_
  rintro e w1 ⟨rfl, b1⟩
  replace vs := vs.mono b1
  replace vt := vt.mono b1
  replace vr := vr.mono b1
  replace B := below_trans B b1
  clear b1
  have cvt0 := vt.cell (i := 0) (by simp)
  have cvt1 := vt.cell (i := 1) (by simp)
  have cvt2 := vt.cell (i := 2) (by simp)
  have cvt3 := vt.cell (i := 3) (by simp)
  simp only [List.getD_cons_zero, List.getD_cons_succ] at cvt0 cvt1 cvt2 cvt3
  have ltvt := vt.lt
  go_wp2_with fail
  clear cvt0 cvt1 cvt2 cvt3 ltvt
  refine (HB.out _).mono ?_
  rintro e w2 ⟨rfl, b2⟩
  replace vs := vs.mono b2
  replace vt := vt.mono b2
  replace vr := vr.mono b2
  replace B := below_trans B b2
  clear b2
  have cvr0 := vr.cell (i := 0) (by simp)
  have cvr1 := vr.cell (i := 1) (by simp)
  have cvr2 := vr.cell (i := 2) (by simp)
  have cvr3 := vr.cell (i := 3) (by simp)
  simp only [List.getD_cons_zero, List.getD_cons_succ] at cvr0 cvr1 cvr2 cvr3
  have ltvr := vr.lt
  have fvr0 := vr.frozen 0
  have fvr1 := vr.frozen 1
  have fvr2 := vr.frozen 2
  have fvr3 := vr.frozen 3
  go_wp2
  obtain ⟨te, hg⟩ := vr.set4 (.int .i64 0) (.int .i64 0) (.int .i64 0) (.int .i64 0)
  refine bodyPost_ret_by (results_cell_tmp rfl _ _ (w.heap.size + 1 + 1) te _ (0, 0) _ rfl hg Try.underlying37 rfl (by kernel_rfl) (.int .i64 2) rfl) rfl ?_
  exact ⟨rfl, below_set4 B (by omega) _ _ _ _⟩

set_option maxRecDepth 100000 in
theorem mulT_ok (s t : T4) (w : World) (hs : validB s.a s.b s.c s.d = true) (ht : validB t.a t.b t.c t.d = true) :
    Calls Try.prog 11 #[.agg #[.int .i64 s.a, .int .i64 s.b, .int .i64 s.c, .int .i64 s.d], .agg #[.int .i64 t.a, .int .i64 t.b, .int .i64 t.c, .int .i64 t.d]] w (RetT w (mulT s t)) := by
  have J := fun w : World => joined_ok s t 1 w hs ht (by omega)
  simp only [Int.one_mul] at J
  change ∀ w : World, Calls _ _ _ w (RetT w (mulT s t)) at J
  generalize mulT s t = r at *
  obtain ⟨⟨x, y, z, u⟩, k⟩ := r
  have HJ := Lib.hid J
  clear J hs ht
  have vs := Vals.newL w (w.heap.size) [.int .i64 s.a, .int .i64 s.b, .int .i64 s.c, .int .i64 s.d] 37 rfl
  have bb := below_alloc w (.cells #[.int .i64 s.a, .int .i64 s.b, .int .i64 s.c, .int .i64 s.d] 37)
  have B := bb
  have sz0 := World.size_alloc w (.cells #[.int .i64 s.a, .int .i64 s.b, .int .i64 s.c, .int .i64 s.d] 37)
  have sz := sz0
  clear sz0
  clear bb
  have vt := Vals.newL (w.alloc (.cells #[.int .i64 s.a, .int .i64 s.b, .int .i64 s.c, .int .i64 s.d] 37)) (w.heap.size + 1) [.int .i64 t.a, .int .i64 t.b, .int .i64 t.c, .int .i64 t.d] 37 sz.symm
  have bb := below_alloc (w.alloc (.cells #[.int .i64 s.a, .int .i64 s.b, .int .i64 s.c, .int .i64 s.d] 37)) (.cells #[.int .i64 t.a, .int .i64 t.b, .int .i64 t.c, .int .i64 t.d] 37)
  replace vs := vs.mono bb
  replace B := below_trans B bb
  clear bb
  have sz1 := World.size_alloc (w.alloc (.cells #[.int .i64 s.a, .int .i64 s.b, .int .i64 s.c, .int .i64 s.d] 37)) (.cells #[.int .i64 t.a, .int .i64 t.b, .int .i64 t.c, .int .i64 t.d] 37)
  rw [sz] at sz1
  clear sz
  have sz := sz1
  clear sz1
  have vr := Vals.newL ((w.alloc (.cells #[.int .i64 s.a, .int .i64 s.b, .int .i64 s.c, .int .i64 s.d] 37)).alloc (.cells #[.int .i64 t.a, .int .i64 t.b, .int .i64 t.c, .int .i64 t.d] 37)) (w.heap.size + 1 + 1) [.int .i64 0, .int .i64 0, .int .i64 0, .int .i64 0] 37 sz.symm
  have bb := below_alloc ((w.alloc (.cells #[.int .i64 s.a, .int .i64 s.b, .int .i64 s.c, .int .i64 s.d] 37)).alloc (.cells #[.int .i64 t.a, .int .i64 t.b, .int .i64 t.c, .int .i64 t.d] 37)) (.cells #[.int .i64 0, .int .i64 0, .int .i64 0, .int .i64 0] 37)
  replace vs := vs.mono bb
  replace vt := vt.mono bb
  replace B := below_trans B bb
  clear sz
  clear bb
  go_enter Try.func11, Try.ntmps11
  go_wp2_with fail
  generalize (((w.alloc (.cells #[.int .i64 s.a, .int .i64 s.b, .int .i64 s.c, .int .i64 s.d] 37)).alloc (.cells #[.int .i64 t.a, .int .i64 t.b, .int .i64 t.c, .int .i64 t.d] 37)).alloc (.cells #[.int .i64 0, .int .i64 0, .int .i64 0, .int .i64 0] 37)) = w0 at *
  refine (HJ.out _).mono ?_
  rintro e w1 ⟨rfl, b1⟩
  replace vs := vs.mono b1
  replace vt := vt.mono b1
  replace vr := vr.mono b1
  replace B := below_trans B b1
  clear b1
  have cvr0 := vr.cell (i := 0) (by simp)
  have cvr1 := vr.cell (i := 1) (by simp)
  have cvr2 := vr.cell (i := 2) (by simp)
  have cvr3 := vr.cell (i := 3) (by simp)
  simp only [List.getD_cons_zero, List.getD_cons_succ] at cvr0 cvr1 cvr2 cvr3
  have ltvr := vr.lt
  have fvr0 := vr.frozen 0
  have fvr1 := vr.frozen 1
  have fvr2 := vr.frozen 2
  have fvr3 := vr.frozen 3
  go_wp2
  obtain ⟨te, hg⟩ := vr.set4 (.int .i64 x) (.int .i64 y) (.int .i64 z) (.int .i64 u)
  refine bodyPost_ret_by (results_cell_tmp rfl _ _ (w.heap.size + 1 + 1) te _ (0, 0) _ rfl hg Try.underlying37 rfl (by kernel_rfl) (.int .i64 k) rfl) rfl ?_
  exact ⟨rfl, below_set4 B (by omega) _ _ _ _⟩

set_option maxRecDepth 100000 in
theorem mulT_bad (s t : T4) (w : World) (hA : i64 s.a ∧ i64 s.b ∧ i64 s.c ∧ i64 s.d) (hB : i64 t.a ∧ i64 t.b ∧ i64 t.c ∧ i64 t.d) (hn : ¬ (validB s.a s.b s.c s.d = true ∧ validB t.a t.b t.c t.d = true)) :
    Calls Try.prog 11 #[.agg #[.int .i64 s.a, .int .i64 s.b, .int .i64 s.c, .int .i64 s.d], .agg #[.int .i64 t.a, .int .i64 t.b, .int .i64 t.c, .int .i64 t.d]] w (RetT w (⟨0, 0, 0, 0⟩, 2)) := by
  have J : ∀ w : World, Calls Try.prog 25 #[.agg #[.int .i64 s.a, .int .i64 s.b, .int .i64 s.c, .int .i64 s.d], .agg #[.int .i64 t.a, .int .i64 t.b, .int .i64 t.c, .int .i64 t.d], .int .i64 1] w (RetT w (⟨0, 0, 0, 0⟩, 2)) := fun w => by
    cases hs : validB s.a s.b s.c s.d
    · exact joined_bad0 s t 1 w hA hB hs
    · cases ht : validB t.a t.b t.c t.d
      · exact joined_bad1 s t 1 w hA hB hs ht
      · exact absurd ⟨hs, ht⟩ hn
  have HJ := Lib.hid J
  clear J hn hA hB
  have vs := Vals.newL w (w.heap.size) [.int .i64 s.a, .int .i64 s.b, .int .i64 s.c, .int .i64 s.d] 37 rfl
  have bb := below_alloc w (.cells #[.int .i64 s.a, .int .i64 s.b, .int .i64 s.c, .int .i64 s.d] 37)
  have B := bb
  have sz0 := World.size_alloc w (.cells #[.int .i64 s.a, .int .i64 s.b, .int .i64 s.c, .int .i64 s.d] 37)
  have sz := sz0
  clear sz0
  clear bb
  have vt := Vals.newL (w.alloc (.cells #[.int .i64 s.a, .int .i64 s.b, .int .i64 s.c, .int .i64 s.d] 37)) (w.heap.size + 1) [.int .i64 t.a, .int .i64 t.b, .int .i64 t.c, .int .i64 t.d] 37 sz.symm
  have bb := below_alloc (w.alloc (.cells #[.int .i64 s.a, .int .i64 s.b, .int .i64 s.c, .int .i64 s.d] 37)) (.cells #[.int .i64 t.a, .int .i64 t.b, .int .i64 t.c, .int .i64 t.d] 37)
  replace vs := vs.mono bb
  replace B := below_trans B bb
  clear bb
  have sz1 := World.size_alloc (w.alloc (.cells #[.int .i64 s.a, .int .i64 s.b, .int .i64 s.c, .int .i64 s.d] 37)) (.cells #[.int .i64 t.a, .int .i64 t.b, .int .i64 t.c, .int .i64 t.d] 37)
  rw [sz] at sz1
  clear sz
  have sz := sz1
  clear sz1
  have vr := Vals.newL ((w.alloc (.cells #[.int .i64 s.a, .int .i64 s.b, .int .i64 s.c, .int .i64 s.d] 37)).alloc (.cells #[.int .i64 t.a, .int .i64 t.b, .int .i64 t.c, .int .i64 t.d] 37)) (w.heap.size + 1 + 1) [.int .i64 0, .int .i64 0, .int .i64 0, .int .i64 0] 37 sz.symm
  have bb := below_alloc ((w.alloc (.cells #[.int .i64 s.a, .int .i64 s.b, .int .i64 s.c, .int .i64 s.d] 37)).alloc (.cells #[.int .i64 t.a, .int .i64 t.b, .int .i64 t.c, .int .i64 t.d] 37)) (.cells #[.int .i64 0, .int .i64 0, .int .i64 0, .int .i64 0] 37)
  replace vs := vs.mono bb
  replace vt := vt.mono bb
  replace B := below_trans B bb
  clear sz
  clear bb
  go_enter Try.func11, Try.ntmps11
  go_wp2_with fail
  generalize (((w.alloc (.cells #[.int .i64 s.a, .int .i64 s.b, .int .i64 s.c, .int .i64 s.d] 37)).alloc (.cells #[.int .i64 t.a, .int .i64 t.b, .int .i64 t.c, .int .i64 t.d] 37)).alloc (.cells #[.int .i64 0, .int .i64 0, .int .i64 0, .int .i64 0] 37)) = w0 at *
  refine (HJ.out _).mono ?_
  rintro e w1 ⟨rfl, b1⟩
  replace vs := vs.mono b1
  replace vt := vt.mono b1
  replace vr := vr.mono b1
  replace B := below_trans B b1
  clear b1
  have cvr0 := vr.cell (i := 0) (by simp)
  have cvr1 := vr.cell (i := 1) (by simp)
  have cvr2 := vr.cell (i := 2) (by simp)
  have cvr3 := vr.cell (i := 3) (by simp)
  simp only [List.getD_cons_zero, List.getD_cons_succ] at cvr0 cvr1 cvr2 cvr3
  have ltvr := vr.lt
  have fvr0 := vr.frozen 0
  have fvr1 := vr.frozen 1
  have fvr2 := vr.frozen 2
  have fvr3 := vr.frozen 3
  go_wp2
  obtain ⟨te, hg⟩ := vr.set4 (.int .i64 0) (.int .i64 0) (.int .i64 0) (.int .i64 0)
  refine bodyPost_ret_by (results_cell_tmp rfl _ _ (w.heap.size + 1 + 1) te _ (0, 0) _ rfl hg Try.underlying37 rfl (by kernel_rfl) (.int .i64 2) rfl) rfl ?_
  exact ⟨rfl, below_set4 B (by omega) _ _ _ _⟩

set_option maxRecDepth 100000 in
theorem divT_ok (s t : T4) (w : World) (hs : validB s.a s.b s.c s.d = true) (ht : validB t.a t.b t.c t.d = true) :
    Calls Try.prog 71 #[.agg #[.int .i64 s.a, .int .i64 s.b, .int .i64 s.c, .int .i64 s.d], .agg #[.int .i64 t.a, .int .i64 t.b, .int .i64 t.c, .int .i64 t.d]] w (RetT w (divT s t)) := by
  have J := fun w : World => joined_ok s t (-1) w hs ht (by omega)
  simp only [Int.neg_mul, Int.one_mul, Int.mul_neg, ← Int.sub_eq_add_neg] at J
  change ∀ w : World, Calls _ _ _ w (RetT w (divT s t)) at J
  generalize divT s t = r at *
  obtain ⟨⟨x, y, z, u⟩, k⟩ := r
  have HJ := Lib.hid J
  clear J hs ht
  have vs := Vals.newL w (w.heap.size) [.int .i64 s.a, .int .i64 s.b, .int .i64 s.c, .int .i64 s.d] 37 rfl
  have bb := below_alloc w (.cells #[.int .i64 s.a, .int .i64 s.b, .int .i64 s.c, .int .i64 s.d] 37)
  have B := bb
  have sz0 := World.size_alloc w (.cells #[.int .i64 s.a, .int .i64 s.b, .int .i64 s.c, .int .i64 s.d] 37)
  have sz := sz0
  clear sz0
  clear bb
  have vt := Vals.newL (w.alloc (.cells #[.int .i64 s.a, .int .i64 s.b, .int .i64 s.c, .int .i64 s.d] 37)) (w.heap.size + 1) [.int .i64 t.a, .int .i64 t.b, .int .i64 t.c, .int .i64 t.d] 37 sz.symm
  have bb := below_alloc (w.alloc (.cells #[.int .i64 s.a, .int .i64 s.b, .int .i64 s.c, .int .i64 s.d] 37)) (.cells #[.int .i64 t.a, .int .i64 t.b, .int .i64 t.c, .int .i64 t.d] 37)
  replace vs := vs.mono bb
  replace B := below_trans B bb
  clear bb
  have sz1 := World.size_alloc (w.alloc (.cells #[.int .i64 s.a, .int .i64 s.b, .int .i64 s.c, .int .i64 s.d] 37)) (.cells #[.int .i64 t.a, .int .i64 t.b, .int .i64 t.c, .int .i64 t.d] 37)
  rw [sz] at sz1
  clear sz
  have sz := sz1
  clear sz1
  have vr := Vals.newL ((w.alloc (.cells #[.int .i64 s.a, .int .i64 s.b, .int .i64 s.c, .int .i64 s.d] 37)).alloc (.cells #[.int .i64 t.a, .int .i64 t.b, .int .i64 t.c, .int .i64 t.d] 37)) (w.heap.size + 1 + 1) [.int .i64 0, .int .i64 0, .int .i64 0, .int .i64 0] 37 sz.symm
  have bb := below_alloc ((w.alloc (.cells #[.int .i64 s.a, .int .i64 s.b, .int .i64 s.c, .int .i64 s.d] 37)).alloc (.cells #[.int .i64 t.a, .int .i64 t.b, .int .i64 t.c, .int .i64 t.d] 37)) (.cells #[.int .i64 0, .int .i64 0, .int .i64 0, .int .i64 0] 37)
  replace vs := vs.mono bb
  replace vt := vt.mono bb
  replace B := below_trans B bb
  clear sz
  clear bb
  go_enter Try.func71, Try.ntmps71
  go_wp2_with fail
  generalize (((w.alloc (.cells #[.int .i64 s.a, .int .i64 s.b, .int .i64 s.c, .int .i64 s.d] 37)).alloc (.cells #[.int .i64 t.a, .int .i64 t.b, .int .i64 t.c, .int .i64 t.d] 37)).alloc (.cells #[.int .i64 0, .int .i64 0, .int .i64 0, .int .i64 0] 37)) = w0 at *
  refine (HJ.out _).mono ?_
  rintro e w1 ⟨rfl, b1⟩
  replace vs := vs.mono b1
  replace vt := vt.mono b1
  replace vr := vr.mono b1
  replace B := below_trans B b1
  clear b1
  have cvr0 := vr.cell (i := 0) (by simp)
  have cvr1 := vr.cell (i := 1) (by simp)
  have cvr2 := vr.cell (i := 2) (by simp)
  have cvr3 := vr.cell (i := 3) (by simp)
  simp only [List.getD_cons_zero, List.getD_cons_succ] at cvr0 cvr1 cvr2 cvr3
  have ltvr := vr.lt
  have fvr0 := vr.frozen 0
  have fvr1 := vr.frozen 1
  have fvr2 := vr.frozen 2
  have fvr3 := vr.frozen 3
  go_wp2
  obtain ⟨te, hg⟩ := vr.set4 (.int .i64 x) (.int .i64 y) (.int .i64 z) (.int .i64 u)
  refine bodyPost_ret_by (results_cell_tmp rfl _ _ (w.heap.size + 1 + 1) te _ (0, 0) _ rfl hg Try.underlying37 rfl (by kernel_rfl) (.int .i64 k) rfl) rfl ?_
  exact ⟨rfl, below_set4 B (by omega) _ _ _ _⟩

set_option maxRecDepth 100000 in
theorem divT_bad (s t : T4) (w : World) (hA : i64 s.a ∧ i64 s.b ∧ i64 s.c ∧ i64 s.d) (hB : i64 t.a ∧ i64 t.b ∧ i64 t.c ∧ i64 t.d) (hn : ¬ (validB s.a s.b s.c s.d = true ∧ validB t.a t.b t.c t.d = true)) :
    Calls Try.prog 71 #[.agg #[.int .i64 s.a, .int .i64 s.b, .int .i64 s.c, .int .i64 s.d], .agg #[.int .i64 t.a, .int .i64 t.b, .int .i64 t.c, .int .i64 t.d]] w (RetT w (⟨0, 0, 0, 0⟩, 2)) := by
  have J : ∀ w : World, Calls Try.prog 25 #[.agg #[.int .i64 s.a, .int .i64 s.b, .int .i64 s.c, .int .i64 s.d], .agg #[.int .i64 t.a, .int .i64 t.b, .int .i64 t.c, .int .i64 t.d], .int .i64 (-1)] w (RetT w (⟨0, 0, 0, 0⟩, 2)) := fun w => by
    cases hs : validB s.a s.b s.c s.d
    · exact joined_bad0 s t (-1) w hA hB hs
    · cases ht : validB t.a t.b t.c t.d
      · exact joined_bad1 s t (-1) w hA hB hs ht
      · exact absurd ⟨hs, ht⟩ hn
  have HJ := Lib.hid J
  clear J hn hA hB
  have vs := Vals.newL w (w.heap.size) [.int .i64 s.a, .int .i64 s.b, .int .i64 s.c, .int .i64 s.d] 37 rfl
  have bb := below_alloc w (.cells #[.int .i64 s.a, .int .i64 s.b, .int .i64 s.c, .int .i64 s.d] 37)
  have B := bb
  have sz0 := World.size_alloc w (.cells #[.int .i64 s.a, .int .i64 s.b, .int .i64 s.c, .int .i64 s.d] 37)
  have sz := sz0
  clear sz0
  clear bb
  have vt := Vals.newL (w.alloc (.cells #[.int .i64 s.a, .int .i64 s.b, .int .i64 s.c, .int .i64 s.d] 37)) (w.heap.size + 1) [.int .i64 t.a, .int .i64 t.b, .int .i64 t.c, .int .i64 t.d] 37 sz.symm
  have bb := below_alloc (w.alloc (.cells #[.int .i64 s.a, .int .i64 s.b, .int .i64 s.c, .int .i64 s.d] 37)) (.cells #[.int .i64 t.a, .int .i64 t.b, .int .i64 t.c, .int .i64 t.d] 37)
  replace vs := vs.mono bb
  replace B := below_trans B bb
  clear bb
  have sz1 := World.size_alloc (w.alloc (.cells #[.int .i64 s.a, .int .i64 s.b, .int .i64 s.c, .int .i64 s.d] 37)) (.cells #[.int .i64 t.a, .int .i64 t.b, .int .i64 t.c, .int .i64 t.d] 37)
  rw [sz] at sz1
  clear sz
  have sz := sz1
  clear sz1
  have vr := Vals.newL ((w.alloc (.cells #[.int .i64 s.a, .int .i64 s.b, .int .i64 s.c, .int .i64 s.d] 37)).alloc (.cells #[.int .i64 t.a, .int .i64 t.b, .int .i64 t.c, .int .i64 t.d] 37)) (w.heap.size + 1 + 1) [.int .i64 0, .int .i64 0, .int .i64 0, .int .i64 0] 37 sz.symm
  have bb := below_alloc ((w.alloc (.cells #[.int .i64 s.a, .int .i64 s.b, .int .i64 s.c, .int .i64 s.d] 37)).alloc (.cells #[.int .i64 t.a, .int .i64 t.b, .int .i64 t.c, .int .i64 t.d] 37)) (.cells #[.int .i64 0, .int .i64 0, .int .i64 0, .int .i64 0] 37)
  replace vs := vs.mono bb
  replace vt := vt.mono bb
  replace B := below_trans B bb
  clear sz
  clear bb
  go_enter Try.func71, Try.ntmps71
  go_wp2_with fail
  generalize (((w.alloc (.cells #[.int .i64 s.a, .int .i64 s.b, .int .i64 s.c, .int .i64 s.d] 37)).alloc (.cells #[.int .i64 t.a, .int .i64 t.b, .int .i64 t.c, .int .i64 t.d] 37)).alloc (.cells #[.int .i64 0, .int .i64 0, .int .i64 0, .int .i64 0] 37)) = w0 at *
  refine (HJ.out _).mono ?_
  rintro e w1 ⟨rfl, b1⟩
  replace vs := vs.mono b1
  replace vt := vt.mono b1
  replace vr := vr.mono b1
  replace B := below_trans B b1
  clear b1
  have cvr0 := vr.cell (i := 0) (by simp)
  have cvr1 := vr.cell (i := 1) (by simp)
  have cvr2 := vr.cell (i := 2) (by simp)
  have cvr3 := vr.cell (i := 3) (by simp)
  simp only [List.getD_cons_zero, List.getD_cons_succ] at cvr0 cvr1 cvr2 cvr3
  have ltvr := vr.lt
  have fvr0 := vr.frozen 0
  have fvr1 := vr.frozen 1
  have fvr2 := vr.frozen 2
  have fvr3 := vr.frozen 3
  go_wp2
  obtain ⟨te, hg⟩ := vr.set4 (.int .i64 0) (.int .i64 0) (.int .i64 0) (.int .i64 0)
  refine bodyPost_ret_by (results_cell_tmp rfl _ _ (w.heap.size + 1 + 1) te _ (0, 0) _ rfl hg Try.underlying37 rfl (by kernel_rfl) (.int .i64 2) rfl) rfl ?_
  exact ⟨rfl, below_set4 B (by omega) _ _ _ _⟩

end Go.Proofs
