/- tone: above, Farey's run. -/
import Derived.Test.YtnogieknjcbchaaDoorToneB
import Derived.Test.YtnogieknjcbchaaDoorToneA
import Derived.Test.YtnogieknjcbchaaDoorTFarey
import Derived.Test.YtnogieknjcbchaaDoorShelfB
import Derived.Deep.RegionHeld3
open Go.RowKit Go.Deep
namespace Go.Proofs
set_option linter.unusedVariables false
set_option linter.unusedSimpArgs false

theorem Num.drew3 {w : World} {v : Value} {n : Nat} (h : Num w v n) : Num w.drew v n := h

/-- a tone against a fraction -/
def aboveI (s : T4) (n d : Nat) : Int := cmpInt (d ^ s.d.toNat * overN s.a s.b s.c) (n ^ s.d.toNat * underN s.a s.b s.c)
theorem aboveI_ge (s : T4) (n d : Nat) : 0 ≤ aboveI s n d ↔ leF (overN s.a s.b s.c) (underN s.a s.b s.c) s.d.toNat n d := cmpInt_ge _ _
theorem aboveI_le (s : T4) (n d : Nat) : aboveI s n d ≤ 0 ↔ geF (overN s.a s.b s.c) (underN s.a s.b s.c) s.d.toNat n d := by
  unfold aboveI geF
  have := cmpInt_pos (d ^ s.d.toNat * overN s.a s.b s.c) (n ^ s.d.toNat * underN s.a s.b s.c)
  omega
theorem aboveI_cases (s : T4) (n d : Nat) : aboveI s n d = -1 ∨ aboveI s n d = 0 ∨ aboveI s n d = 1 := cmpInt_cases _ _

set_option maxRecDepth 100000 in
theorem above_calls (s : T4) (n d : Nat) (w : World) (hs : validB s.a s.b s.c s.d = true) (hn : n < 4294967296) (hd : d < 4294967296) :
    Calls Tryd.prog 26 #[.agg #[.int .i64 s.a, .int .i64 s.b, .int .i64 s.c, .int .i64 s.d], .int .i64 (n : Int), .int .i64 (d : Int)] w fun e w' => e = .returned (.int .i64 (aboveI s n d)) ∧ Below w.heap.size w w' := by
  obtain ⟨p1, p2, p3, p4, p5, p6⟩ := validB_parts hs
  have o1 : ∀ a b c : Int, a.natAbs ≤ 960 → b.natAbs ≤ 960 → c.natAbs ≤ 960 → (limbs (overN a b c)).length ≤ 300 := by
    intro a b c ha hb hc
    unfold overN
    have t2 := limbs_two a.toNat
    have t3 := limbs_three b.toNat
    have t5 := limbs_five c.toNat
    have m1 := limbs_length_mul (3 ^ b.toNat) (5 ^ c.toNat)
    have m2 := limbs_length_mul (2 ^ a.toNat) (3 ^ b.toNat * 5 ^ c.toNat)
    omega
  have q3 := o1 s.a s.b s.c p4 p5 p6
  have q4 : (limbs (underN s.a s.b s.c)).length ≤ 300 := o1 (-s.a) (-s.b) (-s.c) (by omega) (by omega) (by omega)
  have lim : ∀ x : Nat, x < 4294967296 → (limbs x).length ≤ 1 ∧ (limbs x).length * s.d.toNat ≤ 1 * 24 ∧ (limbs (x ^ s.d.toNat)).length ≤ 30 := by
    intro x hx
    have h2 : (limbs x).length ≤ 1 := limbs_length_le (by omega)
    have h3 : (limbs x).length * s.d.toNat ≤ 1 * 24 := Nat.mul_le_mul h2 (by omega)
    exact ⟨h2, h3, by have := limbs_length_pow x s.d.toNat; omega⟩
  obtain ⟨m1, m2, m3⟩ := lim n hn
  obtain ⟨m4, m5, m6⟩ := lim d hd
  have m7 := limbs_length_mul (d ^ s.d.toNat) (overN s.a s.b s.c)
  have m8 := limbs_length_mul (n ^ s.d.toNat) (underN s.a s.b s.c)
  have R := fun w : World => ratio_calls s.a s.b s.c w (by omega) (by omega) (by omega)
  have hdd : s.d = (s.d.toNat : Int) := by omega
  have ON := fun w : World => of_calls n (n : Int) w rfl (by omega)
  have OD := fun w : World => of_calls d (d : Int) w rfl (by omega)
  have PN := fun (v : Value) (w : World) (h : Num w v n) => pow_ok v n s.d.toNat s.d w h hdd (by omega) (.inr (by omega)) (by omega)
  have PD := fun (v : Value) (w : World) (h : Num w v d) => pow_ok v d s.d.toNat s.d w h hdd (by omega) (.inr (by omega)) (by omega)
  have MD := fun (v1 v2 : Value) (w : World) (h1 : Num w v1 (d ^ s.d.toNat)) (h2 : Num w v2 (overN s.a s.b s.c)) => mul_ok v1 v2 _ _ w h1 h2 (by omega)
  have MN := fun (v1 v2 : Value) (w : World) (h1 : Num w v1 (n ^ s.d.toNat)) (h2 : Num w v2 (underN s.a s.b s.c)) => mul_ok v1 v2 _ _ w h1 h2 (by omega)
  have C := fun (v1 v2 : Value) (w : World) (h1 : Num w v1 (d ^ s.d.toNat * overN s.a s.b s.c)) (h2 : Num w v2 (n ^ s.d.toNat * underN s.a s.b s.c)) => cmp_ok v1 v2 _ _ w h1 h2 ⟨by omega, by omega⟩
  change ∀ (v1 v2 : Value) (w : World) (h1 : Num w v1 _) (h2 : Num w v2 _), Calls _ _ _ w fun e w' => e = .returned (.tuple #[.int .i64 (aboveI s n d), _]) ∧ _ at C
  generalize aboveI s n d = r at *
  generalize d ^ s.d.toNat * overN s.a s.b s.c = Mo at *
  generalize n ^ s.d.toNat * underN s.a s.b s.c = Mu at *
  generalize d ^ s.d.toNat = Pd at *
  generalize n ^ s.d.toNat = Pn at *
  generalize overN s.a s.b s.c = O at *
  generalize underN s.a s.b s.c = U at *
  have wd : IntKind.u64.wrap (d : Int) = (d : Int) := by rw [IntKind.wrap_u64]; omega
  have wn : IntKind.u64.wrap (n : Int) = (n : Int) := by rw [IntKind.wrap_u64]; omega
  have HR := Lib.hid R
  have HON := Lib.hid ON
  have HOD := Lib.hid OD
  have HPN := Lib.hid PN
  have HPD := Lib.hid PD
  have HMD := Lib.hid MD
  have HMN := Lib.hid MN
  have HC := Lib.hid C
  clear R ON OD PN PD MD MN C o1 q3 q4 lim m1 m2 m3 m4 m5 m6 m7 m8 hdd p1 p2 p3 p4 p5 p6 hs
  have vs := Vals.newL w (w.heap.size) [.int .i64 s.a, .int .i64 s.b, .int .i64 s.c, .int .i64 s.d] 23 rfl
  have bb := below_alloc w (.cells #[.int .i64 s.a, .int .i64 s.b, .int .i64 s.c, .int .i64 s.d] 23)
  have B := bb
  clear bb
  go_enter Tryd.func26, Tryd.ntmps26
  go_wp2_with fail
  generalize (w.alloc (.cells #[.int .i64 s.a, .int .i64 s.b, .int .i64 s.c, .int .i64 s.d] 23)) = w0 at *
  refine (HR.out _).mono ?_
  rintro e w1 ⟨v1, v2, rfl, h5, h6, b1⟩
  replace vs := vs.mono b1
  replace B := below_trans B b1
  clear b1
  go_upto_region 2 with (fail)
  replace h5 := Num.drew3 h5
  replace h6 := Num.drew3 h6
  go_region_held3 (fun w' => w'.cell? ⟨w.heap.size, 0, none⟩ = some (.int .i64 s.a) ∧ w'.cell? ⟨w.heap.size, 1, none⟩ = some (.int .i64 s.b) ∧ w'.cell? ⟨w.heap.size, 2, none⟩ = some (.int .i64 s.c) ∧ w'.cell? ⟨w.heap.size, 3, none⟩ = some (.int .i64 s.d))
    (first | exact vals4 vs | exact vals4 vs.drew)
    (first | (go_at_call 54; (with_reducible refine (HOD.out _).mono ?_); rintro e x05 ⟨y03, rfl, h7, _, b5⟩; replace vs := vs.drew.mono b5; replace h5 := h5.mono b5; replace h6 := h6.mono b5; replace B := below_trans B.drew b5; clear b5)
           | (go_at_call 53; (with_reducible refine (HPD.out _ _ h7).mono ?_); rintro e x06 ⟨y04, rfl, k1, _, b6⟩; replace vs := vs.mono b6; replace h5 := h5.mono b6; replace h6 := h6.mono b6; replace B := below_trans B b6; clear b6))
  clear h7
  go_upto_region 3 with (fail)
  replace h5 := Num.drew3 h5
  replace h6 := Num.drew3 h6
  replace k1 := Num.drew3 k1
  go_region_held3 (fun w' => w'.cell? ⟨w.heap.size, 0, none⟩ = some (.int .i64 s.a) ∧ w'.cell? ⟨w.heap.size, 1, none⟩ = some (.int .i64 s.b) ∧ w'.cell? ⟨w.heap.size, 2, none⟩ = some (.int .i64 s.c) ∧ w'.cell? ⟨w.heap.size, 3, none⟩ = some (.int .i64 s.d))
    (first | exact vals4 vs | exact vals4 vs.drew)
    (first | (go_at_call 54; (with_reducible refine (HON.out _).mono ?_); rintro e x15 ⟨y13, rfl, h7, _, b5⟩; replace vs := vs.drew.mono b5; replace h5 := h5.mono b5; replace h6 := h6.mono b5; replace k1 := k1.mono b5; replace B := below_trans B.drew b5; clear b5)
           | (go_at_call 53; (with_reducible refine (HPN.out _ _ h7).mono ?_); rintro e x16 ⟨y14, rfl, k2, _, b6⟩; replace vs := vs.mono b6; replace h5 := h5.mono b6; replace h6 := h6.mono b6; replace k1 := k1.mono b6; replace B := below_trans B b6; clear b6))
  clear h7
  clear wd wn
  go_wp2_with fail
  refine (HMD.out _ _ _ k1 h5).mono ?_
  rintro e w11 ⟨v5, rfl, k3, _, b11⟩
  replace vs := vs.mono b11
  replace h5 := h5.mono b11
  replace h6 := h6.mono b11
  replace k1 := k1.mono b11
  replace k2 := k2.mono b11
  replace B := below_trans B b11
  clear b11
  clear k1 h5
  go_wp2_with fail
  refine (HMN.out _ _ _ k2 h6).mono ?_
  rintro e w12 ⟨v6, rfl, k4, _, b12⟩
  replace vs := vs.mono b12
  replace h6 := h6.mono b12
  replace k2 := k2.mono b12
  replace k3 := k3.mono b12
  replace B := below_trans B b12
  clear b12
  clear k2 h6
  go_wp2_with fail
  refine (HC.out _ _ _ k3 k4).mono ?_
  rintro e w13 ⟨rfl, b13⟩
  replace vs := vs.mono b13
  replace k3 := k3.mono b13
  replace k4 := k4.mono b13
  replace B := below_trans B b13
  clear b13
  go_wp2
  go_ret
  exact ⟨rfl, B⟩

theorem lt_of_cell {w : World} {a : Addr} {v : Value} (h : w.cell? a = some v) : a.block < w.heap.size := by
  by_cases hb : a.block < w.heap.size
  · exact hb
  · have e : w.heap[a.block]? = none := by simp; omega
    simp [World.cell?, e] at h
theorem wrap_frac {p n t q : Nat} (h1 : p ≤ 100000000) (h2 : (n + t) * q ≤ 100000000) : wrap64 ((p : Int) + wrap64 (((n : Int) + (t : Int)) * (q : Int))) = ((p + (n + t) * q : Nat) : Int) := by
  have e : ((n : Int) + (t : Int)) * (q : Int) = (((n + t) * q : Nat) : Int) := by simp
  rw [e]
  generalize (n + t) * q = m at *
  rw [wrap64_small (x := (m : Int)) (by omega), wrap64_small (by omega)]
  simp
/-- halving a step of the search -/
theorem half_step {n c t : Nat} (h : ∃ j, t = 2 ^ j) (hc : c < n + t) (hn : n ≤ c) : (∃ j, t / 2 = 2 ^ j ∧ c < n + 2 * (t / 2)) ∨ (t / 2 = 0 ∧ n = c) := by
  obtain ⟨j, rfl⟩ := h
  cases j with
  | zero => right; simp at *; omega
  | succ j =>
    left
    have : 2 ^ (j + 1) / 2 = 2 ^ j := by rw [Nat.pow_succ]; omega
    refine ⟨j, this, ?_⟩
    rw [this]
    rw [Nat.pow_succ] at hc
    omega
/-- where a search by halved steps stands -/
def Steps (c n t : Nat) : Prop := n ≤ c ∧ ((∃ j, t = 2 ^ j ∧ c < n + 2 * t) ∨ (t = 0 ∧ n = c))
theorem steps_first (c k : Nat) (h : c < 2 ^ k) : Steps c 0 (2 ^ k) := ⟨Nat.zero_le _, .inl ⟨k, rfl, by omega⟩⟩
theorem steps_take {c n t : Nat} (h : Steps c n t) (h0 : 0 < t) (hk : n + t ≤ c) : Steps c (n + t) (t / 2) := by
  obtain ⟨h1, ⟨j, h2, h3⟩ | ⟨h2, _⟩⟩ := h
  · refine ⟨hk, ?_⟩
    rcases half_step ⟨j, h2⟩ (show c < n + t + t by omega) hk with ⟨i, h4, h5⟩ | h4
    · exact .inl ⟨i, h4, h5⟩
    · exact .inr h4
  · omega
theorem steps_pass {c n t : Nat} (h : Steps c n t) (h0 : 0 < t) (hk : ¬ n + t ≤ c) : Steps c n (t / 2) := by
  obtain ⟨h1, ⟨j, h2, h3⟩ | ⟨h2, _⟩⟩ := h
  · refine ⟨h1, ?_⟩
    rcases half_step ⟨j, h2⟩ (show c < n + t by omega) h1 with ⟨i, h4, h5⟩ | h4
    · exact .inl ⟨i, h4, h5⟩
    · exact .inr h4
  · omega
theorem steps_end {c n : Nat} (h : Steps c n 0) : n = c := by
  obtain ⟨h1, ⟨j, h2, h3⟩ | ⟨h2, h3⟩⟩ := h
  · have := Nat.two_pow_pos j; omega
  · exact h3
theorem steps_le {c n t : Nat} (h : Steps c n t) : n ≤ c := h.1

set_option maxRecDepth 100000 in
theorem run_up (s : T4) (most pf qf pt qt c bm ba : Nat) (w : World) (hs : validB s.a s.b s.c s.d = true) (hm : 1 ≤ most ∧ most ≤ 4096) (hf : qf ≤ most) (ht : 1 ≤ qt ∧ qt ≤ most) (hpf : pf ≤ 8192) (hpt : pt ≤ 8192)
    (hc : c ≤ (most - qf) / qt) (hP : ∀ k, k ≤ (most - qf) / qt → (0 ≤ aboveI s (pf + k * pt) (qf + k * qt) * 1 ↔ k ≤ c)) (hcm : w.cell? ⟨bm, 0, none⟩ = some (.int .i64 (most : Int))) (hva : Vals w ba [.int .i64 s.a, .int .i64 s.b, .int .i64 s.c, .int .i64 s.d]) :
    Calls Tryd.prog 27 #[.agg #[.int .i64 (pf : Int), .int .i64 (qf : Int)], .agg #[.int .i64 (pt : Int), .int .i64 (qt : Int)], .int .i64 1, .pointer (some ⟨bm, 0, none⟩), .pointer (some ⟨ba, 0, none⟩)] w
      fun e w' => e = .returned (.tuple #[.int .i64 (c : Int), .bool (decide (0 < c))]) ∧ Below w.heap.size w w' := by
  have LN := fun w : World => Tryd.bits_Len (((most - qf) / qt : Nat) : Int) w (by omega) (by have := Nat.div_le_self (most - qf) qt; omega)
  have hlim : (most - qf) / qt ≤ 4096 := Nat.le_trans (Nat.div_le_self _ _) (by omega)
  have hL : Lib.bitLen ((((most - qf) / qt : Nat) : Int)).toNat = bitlen ((most - qf) / qt) := by
    rw [Int.toNat_natCast]
    exact lib_bitlen _ (by omega)
  simp only [hL] at LN
  have hlt : (most - qf) / qt < 2 ^ bitlen ((most - qf) / qt) := bitlen_lt
  have hb13 : bitlen ((most - qf) / qt) ≤ 13 := bitlen_of_lt (by omega)
  have hp13 : 2 ^ bitlen ((most - qf) / qt) ≤ 8192 := Nat.le_trans (Nat.pow_le_pow_right (by omega) hb13) (by decide)
  have hst := steps_first c (bitlen ((most - qf) / qt)) (by omega)
  have hdq : ((most : Int) - (qf : Int)) / (qt : Int) = (((most - qf) / qt : Nat) : Int) := by
    rw [show ((most : Int) - (qf : Int)) = ((most - qf : Nat) : Int) by omega]
    rfl
  have hnz : ((qt : Int) == 0) = false := by rw [beq_eq_false_iff_ne]; omega
  generalize hll : (most - qf) / qt = lim at *
  have HST := Lib.hid hst
  have HP := Lib.hid hP
  have HLN := Lib.hid LN
  generalize bitlen lim = bl at *
  have HDQ := Lib.hid hdq
  have HLL := Lib.hid hll
  have hb64 : bl < 64 := by omega
  have hcl := hc
  have pw : wrap64 ((2 : Int) ^ bl) = ((2 ^ bl : Nat) : Int) := by
    rw [show ((2 : Int) ^ bl) = ((2 ^ bl : Nat) : Int) by simp]
    exact wrap64_small (by omega)
  have HPW := Lib.hid pw
  clear hst hP LN hdq hll hL hlt hc pw
  have hm1 := hm.1
  have hm2 := hm.2
  have ht1 := ht.1
  have ht2 := ht.2
  clear hm ht
  replace hva : Vals w ba [.int .i64 s.a, .int .i64 s.b, .int .i64 s.c, .int .i64 s.d] := hva
  have bba : ba < w.heap.size := hva.lt
  have bbm : bm < w.heap.size := lt_of_cell hcm
  have vf := Vals.newL w (w.heap.size) [.int .i64 (pf : Int), .int .i64 (qf : Int)] 29 rfl
  have bb := below_alloc w (.cells #[.int .i64 (pf : Int), .int .i64 (qf : Int)] 29)
  have B := bb
  have sz0 := World.size_alloc w (.cells #[.int .i64 (pf : Int), .int .i64 (qf : Int)] 29)
  have sz := sz0
  clear sz0
  clear bb
  have vt := Vals.newL (w.alloc (.cells #[.int .i64 (pf : Int), .int .i64 (qf : Int)] 29)) (w.heap.size + 1) [.int .i64 (pt : Int), .int .i64 (qt : Int)] 29 sz.symm
  have bb := below_alloc (w.alloc (.cells #[.int .i64 (pf : Int), .int .i64 (qf : Int)] 29)) (.cells #[.int .i64 (pt : Int), .int .i64 (qt : Int)] 29)
  replace vf := vf.mono bb
  replace B := below_trans B bb
  clear sz
  have bb0 := B
  clear bb
  go_enter Tryd.func27, Tryd.ntmps27
  go_wp2_with fail
  generalize ((w.alloc (.cells #[.int .i64 (pf : Int), .int .i64 (qf : Int)] 29)).alloc (.cells #[.int .i64 (pt : Int), .int .i64 (qt : Int)] 29)) = w0 at *
  replace hva := hva.mono bb0
  replace hcm := (bb0.cell (p := ⟨bm, 0, none⟩) bbm).trans hcm
  clear bb0
  have cvf0 := vf.cell (i := 0) (by simp)
  have cvf1 := vf.cell (i := 1) (by simp)
  simp only [List.getD_cons_zero, List.getD_cons_succ] at cvf0 cvf1
  have ltvf := vf.lt
  have cvt0 := vt.cell (i := 0) (by simp)
  have cvt1 := vt.cell (i := 1) (by simp)
  simp only [List.getD_cons_zero, List.getD_cons_succ] at cvt0 cvt1
  have ltvt := vt.lt
  have k1 : IntKind.i64.wrap ((most : Int) - (qf : Int)) = (most : Int) - (qf : Int) := IntWalk.i64_in _ (by omega)
  have k2 : IntKind.i64.wrap (((most : Int) - (qf : Int)).tdiv (qt : Int)) = (lim : Int) := by
    rw [Int.tdiv_eq_ediv_of_nonneg (by omega), HDQ.out]
    exact IntWalk.i64_in _ (by omega)
  go_quiet (fail)
  clear k1 k2
  clear cvf0 cvf1 ltvf cvt0 cvt1 ltvt
  replace vf := vf.drewN nq
  replace vt := vt.drewN nq
  replace hva := hva.drewN nq
  replace B := below_drewN B nq
  generalize w0.drewN nq = w1 at *
  clear hcm
  go_wp2_with fail
  refine (HLN.out _).mono ?_
  rintro e wx ⟨rfl, rfl⟩
  go_wp2
  go_loopw [10, 12] (fun nv tv wr => ∃ n t : Nat, nv = .int .i64 (n : Int) ∧ tv = .int .i64 (t : Int) ∧ Steps c n t ∧ t ≤ 8192 ∧ Below w.heap.size w wr ∧ Vals wr w.heap.size [.int .i64 (pf : Int), .int .i64 (qf : Int)] ∧ Vals wr (w.heap.size + 1) [.int .i64 (pt : Int), .int .i64 (qt : Int)] ∧ Vals wr ba [.int .i64 s.a, .int .i64 s.b, .int .i64 s.c, .int .i64 s.d])
    (fun _ tv _ => (intOf tv).toNat)
  case atStart => exact ⟨0, 2 ^ bl, rfl, by rw [HPW.out], HST.out, hp13, B, vf, vt, hva⟩
  case round =>
    obtain ⟨n, t, rfl, rfl, hst, ht8, hbel, vf, vt, hva⟩ := hrel
    have hnc := steps_le hst
    have HS := Lib.hid hst
    clear hst
    by_cases h0 : 0 < t
    · have hK : n + t ≤ lim ∨ ¬ n + t ≤ lim := by omega
      rcases hK with hK | hK
      · skip
        have q1 : (n + t) * pt ≤ 4096 * 8192 := Nat.mul_le_mul (by omega) hpt
        have q2 : (n + t) * qt ≤ 4096 * 4096 := Nat.mul_le_mul (by omega) (by omega)
        have b1 : pf + (n + t) * pt < 4294967296 := by omega
        have b2 : qf + (n + t) * qt < 4294967296 := by omega
        have b3 : pf ≤ 100000000 := by omega
        have b4 : qf ≤ 100000000 := by omega
        have b5 : (n + t) * pt ≤ 100000000 := by omega
        have b6 : (n + t) * qt ≤ 100000000 := by omega
        have hk' : (n : Int) + (t : Int) ≤ (lim : Int) := by omega
        have HA := fun w : World => above_calls s (pf + (n + t) * pt) (qf + (n + t) * qt) w hs b1 b2
        have W1 := Lib.hid (show wrap64 ((pf : Int) + wrap64 (((n : Int) + (t : Int)) * (pt : Int))) = ((pf + (n + t) * pt : Nat) : Int) from wrap_frac b3 b5)
        have W2 := Lib.hid (show wrap64 ((qf : Int) + wrap64 (((n : Int) + (t : Int)) * (qt : Int))) = ((qf + (n + t) * qt : Nat) : Int) from wrap_frac b4 b6)
        clear b1 b2 b3 b4 b5 b6 q1 q2
        have hp := HP.out (n + t) hK
        have hv := aboveI_cases s (pf + (n + t) * pt) (qf + (n + t) * qt)
        generalize aboveI s (pf + (n + t) * pt) (qf + (n + t) * qt) = v at *
        generalize pf + (n + t) * pt = X at *
        generalize qf + (n + t) * qt = Y at *
        rcases hv with hv | hv | hv
        · subst hv
          have hpp : ¬ n + t ≤ c := by omega
          have HAA := Lib.hid HA
          clear HA hp
          have cf0 := vf.cell (i := 0) (by simp)
          have cf1 := vf.cell (i := 1) (by simp)
          have ct0 := vt.cell (i := 0) (by simp)
          have ct1 := vt.cell (i := 1) (by simp)
          obtain ⟨ca0, ca1, ca2, ca3⟩ := vals4 hva
          simp only [List.getD_cons_zero, List.getD_cons_succ] at cf0 cf1 ct0 ct1
          go_wp2_with fail
          clear cf0 cf1 ct0 ct1 ca0 ca1 ca2 ca3
          rw [W1.out, W2.out]
          refine (HAA.out _).mono ?_
          rintro e w4 ⟨rfl, b4⟩
          replace vf := vf.mono b4
          replace vt := vt.mono b4
          replace hva := hva.mono b4
          replace hbel := below_trans hbel b4
          clear b4
          go_wp2
          go_roundw
          case rel => exact ⟨n, t / 2, rfl, rfl, steps_pass HS.out h0 hpp, by omega, hbel, vf, vt, hva⟩
          case measure => simp [intOf]; omega
        · subst hv
          have hpp : n + t ≤ c := by omega
          have HAA := Lib.hid HA
          clear HA hp
          have cf0 := vf.cell (i := 0) (by simp)
          have cf1 := vf.cell (i := 1) (by simp)
          have ct0 := vt.cell (i := 0) (by simp)
          have ct1 := vt.cell (i := 1) (by simp)
          obtain ⟨ca0, ca1, ca2, ca3⟩ := vals4 hva
          simp only [List.getD_cons_zero, List.getD_cons_succ] at cf0 cf1 ct0 ct1
          go_wp2_with fail
          clear cf0 cf1 ct0 ct1 ca0 ca1 ca2 ca3
          rw [W1.out, W2.out]
          refine (HAA.out _).mono ?_
          rintro e w4 ⟨rfl, b4⟩
          replace vf := vf.mono b4
          replace vt := vt.mono b4
          replace hva := hva.mono b4
          replace hbel := below_trans hbel b4
          clear b4
          go_wp2
          go_roundw
          case rel => exact ⟨n + t, t / 2, by go_num, rfl, steps_take HS.out h0 hpp, by omega, hbel, vf, vt, hva⟩
          case measure => simp [intOf]; omega
        · subst hv
          have hpp : n + t ≤ c := by omega
          have HAA := Lib.hid HA
          clear HA hp
          have cf0 := vf.cell (i := 0) (by simp)
          have cf1 := vf.cell (i := 1) (by simp)
          have ct0 := vt.cell (i := 0) (by simp)
          have ct1 := vt.cell (i := 1) (by simp)
          obtain ⟨ca0, ca1, ca2, ca3⟩ := vals4 hva
          simp only [List.getD_cons_zero, List.getD_cons_succ] at cf0 cf1 ct0 ct1
          go_wp2_with fail
          clear cf0 cf1 ct0 ct1 ca0 ca1 ca2 ca3
          rw [W1.out, W2.out]
          refine (HAA.out _).mono ?_
          rintro e w4 ⟨rfl, b4⟩
          replace vf := vf.mono b4
          replace vt := vt.mono b4
          replace hva := hva.mono b4
          replace hbel := below_trans hbel b4
          clear b4
          go_wp2
          go_roundw
          case rel => exact ⟨n + t, t / 2, by go_num, rfl, steps_take HS.out h0 hpp, by omega, hbel, vf, vt, hva⟩
          case measure => simp [intOf]; omega
      · have hk' : ¬ ((n : Int) + (t : Int) ≤ (lim : Int)) := by omega
        go_wp2
        go_roundw
        case rel => exact ⟨n, t / 2, rfl, rfl, steps_pass HS.out h0 (by omega), by omega, hbel, vf, vt, hva⟩
        case measure => simp [intOf]; omega
    · obtain rfl : t = 0 := by omega
      obtain rfl := steps_end HS.out
      clear HS
      go_wp2
      go_ret2
      exact ⟨rfl, hbel⟩

set_option maxRecDepth 100000 in
theorem run_down (s : T4) (most pf qf pt qt c bm ba : Nat) (w : World) (hs : validB s.a s.b s.c s.d = true) (hm : 1 ≤ most ∧ most ≤ 4096) (hf : qf ≤ most) (ht : 1 ≤ qt ∧ qt ≤ most) (hpf : pf ≤ 8192) (hpt : pt ≤ 8192)
    (hc : c ≤ (most - qf) / qt) (hP : ∀ k, k ≤ (most - qf) / qt → (0 ≤ aboveI s (pf + k * pt) (qf + k * qt) * (-1) ↔ k ≤ c)) (hcm : w.cell? ⟨bm, 0, none⟩ = some (.int .i64 (most : Int))) (hva : Vals w ba [.int .i64 s.a, .int .i64 s.b, .int .i64 s.c, .int .i64 s.d]) :
    Calls Tryd.prog 27 #[.agg #[.int .i64 (pf : Int), .int .i64 (qf : Int)], .agg #[.int .i64 (pt : Int), .int .i64 (qt : Int)], .int .i64 (-1), .pointer (some ⟨bm, 0, none⟩), .pointer (some ⟨ba, 0, none⟩)] w
      fun e w' => e = .returned (.tuple #[.int .i64 (c : Int), .bool (decide (0 < c))]) ∧ Below w.heap.size w w' := by
  have LN := fun w : World => Tryd.bits_Len (((most - qf) / qt : Nat) : Int) w (by omega) (by have := Nat.div_le_self (most - qf) qt; omega)
  have hlim : (most - qf) / qt ≤ 4096 := Nat.le_trans (Nat.div_le_self _ _) (by omega)
  have hL : Lib.bitLen ((((most - qf) / qt : Nat) : Int)).toNat = bitlen ((most - qf) / qt) := by
    rw [Int.toNat_natCast]
    exact lib_bitlen _ (by omega)
  simp only [hL] at LN
  have hlt : (most - qf) / qt < 2 ^ bitlen ((most - qf) / qt) := bitlen_lt
  have hb13 : bitlen ((most - qf) / qt) ≤ 13 := bitlen_of_lt (by omega)
  have hp13 : 2 ^ bitlen ((most - qf) / qt) ≤ 8192 := Nat.le_trans (Nat.pow_le_pow_right (by omega) hb13) (by decide)
  have hst := steps_first c (bitlen ((most - qf) / qt)) (by omega)
  have hdq : ((most : Int) - (qf : Int)) / (qt : Int) = (((most - qf) / qt : Nat) : Int) := by
    rw [show ((most : Int) - (qf : Int)) = ((most - qf : Nat) : Int) by omega]
    rfl
  have hnz : ((qt : Int) == 0) = false := by rw [beq_eq_false_iff_ne]; omega
  generalize hll : (most - qf) / qt = lim at *
  have HST := Lib.hid hst
  have HP := Lib.hid hP
  have HLN := Lib.hid LN
  generalize bitlen lim = bl at *
  have HDQ := Lib.hid hdq
  have HLL := Lib.hid hll
  have hb64 : bl < 64 := by omega
  have hcl := hc
  have pw : wrap64 ((2 : Int) ^ bl) = ((2 ^ bl : Nat) : Int) := by
    rw [show ((2 : Int) ^ bl) = ((2 ^ bl : Nat) : Int) by simp]
    exact wrap64_small (by omega)
  have HPW := Lib.hid pw
  clear hst hP LN hdq hll hL hlt hc pw
  have hm1 := hm.1
  have hm2 := hm.2
  have ht1 := ht.1
  have ht2 := ht.2
  clear hm ht
  replace hva : Vals w ba [.int .i64 s.a, .int .i64 s.b, .int .i64 s.c, .int .i64 s.d] := hva
  have bba : ba < w.heap.size := hva.lt
  have bbm : bm < w.heap.size := lt_of_cell hcm
  have vf := Vals.newL w (w.heap.size) [.int .i64 (pf : Int), .int .i64 (qf : Int)] 29 rfl
  have bb := below_alloc w (.cells #[.int .i64 (pf : Int), .int .i64 (qf : Int)] 29)
  have B := bb
  have sz0 := World.size_alloc w (.cells #[.int .i64 (pf : Int), .int .i64 (qf : Int)] 29)
  have sz := sz0
  clear sz0
  clear bb
  have vt := Vals.newL (w.alloc (.cells #[.int .i64 (pf : Int), .int .i64 (qf : Int)] 29)) (w.heap.size + 1) [.int .i64 (pt : Int), .int .i64 (qt : Int)] 29 sz.symm
  have bb := below_alloc (w.alloc (.cells #[.int .i64 (pf : Int), .int .i64 (qf : Int)] 29)) (.cells #[.int .i64 (pt : Int), .int .i64 (qt : Int)] 29)
  replace vf := vf.mono bb
  replace B := below_trans B bb
  clear sz
  have bb0 := B
  clear bb
  go_enter Tryd.func27, Tryd.ntmps27
  go_wp2_with fail
  generalize ((w.alloc (.cells #[.int .i64 (pf : Int), .int .i64 (qf : Int)] 29)).alloc (.cells #[.int .i64 (pt : Int), .int .i64 (qt : Int)] 29)) = w0 at *
  replace hva := hva.mono bb0
  replace hcm := (bb0.cell (p := ⟨bm, 0, none⟩) bbm).trans hcm
  clear bb0
  have cvf0 := vf.cell (i := 0) (by simp)
  have cvf1 := vf.cell (i := 1) (by simp)
  simp only [List.getD_cons_zero, List.getD_cons_succ] at cvf0 cvf1
  have ltvf := vf.lt
  have cvt0 := vt.cell (i := 0) (by simp)
  have cvt1 := vt.cell (i := 1) (by simp)
  simp only [List.getD_cons_zero, List.getD_cons_succ] at cvt0 cvt1
  have ltvt := vt.lt
  have k1 : IntKind.i64.wrap ((most : Int) - (qf : Int)) = (most : Int) - (qf : Int) := IntWalk.i64_in _ (by omega)
  have k2 : IntKind.i64.wrap (((most : Int) - (qf : Int)).tdiv (qt : Int)) = (lim : Int) := by
    rw [Int.tdiv_eq_ediv_of_nonneg (by omega), HDQ.out]
    exact IntWalk.i64_in _ (by omega)
  go_quiet (fail)
  clear k1 k2
  clear cvf0 cvf1 ltvf cvt0 cvt1 ltvt
  replace vf := vf.drewN nq
  replace vt := vt.drewN nq
  replace hva := hva.drewN nq
  replace B := below_drewN B nq
  generalize w0.drewN nq = w1 at *
  clear hcm
  go_wp2_with fail
  refine (HLN.out _).mono ?_
  rintro e wx ⟨rfl, rfl⟩
  go_wp2
  go_loopw [10, 12] (fun nv tv wr => ∃ n t : Nat, nv = .int .i64 (n : Int) ∧ tv = .int .i64 (t : Int) ∧ Steps c n t ∧ t ≤ 8192 ∧ Below w.heap.size w wr ∧ Vals wr w.heap.size [.int .i64 (pf : Int), .int .i64 (qf : Int)] ∧ Vals wr (w.heap.size + 1) [.int .i64 (pt : Int), .int .i64 (qt : Int)] ∧ Vals wr ba [.int .i64 s.a, .int .i64 s.b, .int .i64 s.c, .int .i64 s.d])
    (fun _ tv _ => (intOf tv).toNat)
  case atStart => exact ⟨0, 2 ^ bl, rfl, by rw [HPW.out], HST.out, hp13, B, vf, vt, hva⟩
  case round =>
    obtain ⟨n, t, rfl, rfl, hst, ht8, hbel, vf, vt, hva⟩ := hrel
    have hnc := steps_le hst
    have HS := Lib.hid hst
    clear hst
    by_cases h0 : 0 < t
    · have hK : n + t ≤ lim ∨ ¬ n + t ≤ lim := by omega
      rcases hK with hK | hK
      · skip
        have q1 : (n + t) * pt ≤ 4096 * 8192 := Nat.mul_le_mul (by omega) hpt
        have q2 : (n + t) * qt ≤ 4096 * 4096 := Nat.mul_le_mul (by omega) (by omega)
        have b1 : pf + (n + t) * pt < 4294967296 := by omega
        have b2 : qf + (n + t) * qt < 4294967296 := by omega
        have b3 : pf ≤ 100000000 := by omega
        have b4 : qf ≤ 100000000 := by omega
        have b5 : (n + t) * pt ≤ 100000000 := by omega
        have b6 : (n + t) * qt ≤ 100000000 := by omega
        have hk' : (n : Int) + (t : Int) ≤ (lim : Int) := by omega
        have HA := fun w : World => above_calls s (pf + (n + t) * pt) (qf + (n + t) * qt) w hs b1 b2
        have W1 := Lib.hid (show wrap64 ((pf : Int) + wrap64 (((n : Int) + (t : Int)) * (pt : Int))) = ((pf + (n + t) * pt : Nat) : Int) from wrap_frac b3 b5)
        have W2 := Lib.hid (show wrap64 ((qf : Int) + wrap64 (((n : Int) + (t : Int)) * (qt : Int))) = ((qf + (n + t) * qt : Nat) : Int) from wrap_frac b4 b6)
        clear b1 b2 b3 b4 b5 b6 q1 q2
        have hp := HP.out (n + t) hK
        have hv := aboveI_cases s (pf + (n + t) * pt) (qf + (n + t) * qt)
        generalize aboveI s (pf + (n + t) * pt) (qf + (n + t) * qt) = v at *
        generalize pf + (n + t) * pt = X at *
        generalize qf + (n + t) * qt = Y at *
        rcases hv with hv | hv | hv
        · subst hv
          have hpp : n + t ≤ c := by omega
          have HAA := Lib.hid HA
          clear HA hp
          have cf0 := vf.cell (i := 0) (by simp)
          have cf1 := vf.cell (i := 1) (by simp)
          have ct0 := vt.cell (i := 0) (by simp)
          have ct1 := vt.cell (i := 1) (by simp)
          obtain ⟨ca0, ca1, ca2, ca3⟩ := vals4 hva
          simp only [List.getD_cons_zero, List.getD_cons_succ] at cf0 cf1 ct0 ct1
          go_wp2_with fail
          clear cf0 cf1 ct0 ct1 ca0 ca1 ca2 ca3
          rw [W1.out, W2.out]
          refine (HAA.out _).mono ?_
          rintro e w4 ⟨rfl, b4⟩
          replace vf := vf.mono b4
          replace vt := vt.mono b4
          replace hva := hva.mono b4
          replace hbel := below_trans hbel b4
          clear b4
          go_wp2
          go_roundw
          case rel => exact ⟨n + t, t / 2, by go_num, rfl, steps_take HS.out h0 hpp, by omega, hbel, vf, vt, hva⟩
          case measure => simp [intOf]; omega
        · subst hv
          have hpp : n + t ≤ c := by omega
          have HAA := Lib.hid HA
          clear HA hp
          have cf0 := vf.cell (i := 0) (by simp)
          have cf1 := vf.cell (i := 1) (by simp)
          have ct0 := vt.cell (i := 0) (by simp)
          have ct1 := vt.cell (i := 1) (by simp)
          obtain ⟨ca0, ca1, ca2, ca3⟩ := vals4 hva
          simp only [List.getD_cons_zero, List.getD_cons_succ] at cf0 cf1 ct0 ct1
          go_wp2_with fail
          clear cf0 cf1 ct0 ct1 ca0 ca1 ca2 ca3
          rw [W1.out, W2.out]
          refine (HAA.out _).mono ?_
          rintro e w4 ⟨rfl, b4⟩
          replace vf := vf.mono b4
          replace vt := vt.mono b4
          replace hva := hva.mono b4
          replace hbel := below_trans hbel b4
          clear b4
          go_wp2
          go_roundw
          case rel => exact ⟨n + t, t / 2, by go_num, rfl, steps_take HS.out h0 hpp, by omega, hbel, vf, vt, hva⟩
          case measure => simp [intOf]; omega
        · subst hv
          have hpp : ¬ n + t ≤ c := by omega
          have HAA := Lib.hid HA
          clear HA hp
          have cf0 := vf.cell (i := 0) (by simp)
          have cf1 := vf.cell (i := 1) (by simp)
          have ct0 := vt.cell (i := 0) (by simp)
          have ct1 := vt.cell (i := 1) (by simp)
          obtain ⟨ca0, ca1, ca2, ca3⟩ := vals4 hva
          simp only [List.getD_cons_zero, List.getD_cons_succ] at cf0 cf1 ct0 ct1
          go_wp2_with fail
          clear cf0 cf1 ct0 ct1 ca0 ca1 ca2 ca3
          rw [W1.out, W2.out]
          refine (HAA.out _).mono ?_
          rintro e w4 ⟨rfl, b4⟩
          replace vf := vf.mono b4
          replace vt := vt.mono b4
          replace hva := hva.mono b4
          replace hbel := below_trans hbel b4
          clear b4
          go_wp2
          go_roundw
          case rel => exact ⟨n, t / 2, rfl, rfl, steps_pass HS.out h0 hpp, by omega, hbel, vf, vt, hva⟩
          case measure => simp [intOf]; omega
      · have hk' : ¬ ((n : Int) + (t : Int) ≤ (lim : Int)) := by omega
        go_wp2
        go_roundw
        case rel => exact ⟨n, t / 2, rfl, rfl, steps_pass HS.out h0 (by omega), by omega, hbel, vf, vt, hva⟩
        case measure => simp [intOf]; omega
    · obtain rfl : t = 0 := by omega
      obtain rfl := steps_end HS.out
      clear HS
      go_wp2
      go_ret2
      exact ⟨rfl, hbel⟩

end Go.Proofs
