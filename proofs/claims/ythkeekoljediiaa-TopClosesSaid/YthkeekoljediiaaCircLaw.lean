/- The plain law of a ring of twelve fifths: the least costs from the end on, and the steps that follow them. -/
import Derived.Test.YthkeekoljediiaaRing
namespace Go.Proofs
set_option linter.unusedVariables false
set_option linter.unusedSimpArgs false

/-- how many ways there are to have ended -/
def cds (R : Rg) : Nat := 4 ^ (R.sp - 1)
/-- the sum of the last steps -/
def digs (R : Rg) (code : Nat) : Nat := if R.sp = 2 then code % 4 + R.lo else (code % 4 + R.lo) + (code / 4 % 4 + R.lo)
/-- the error of the third that a step ends -/
def nN (R : Rg) (code s : Nat) : Int := (R.pu : Int) - (s : Int) - (digs R code : Int)
def nOk (R : Rg) (code s : Nat) : Bool := decide (-(R.wo : Int) ≤ nN R code s) && decide (nN R code s ≤ (R.wo : Int))
def nPr (R : Rg) (code at_ s : Nat) : Int := R.T ((at_ + 1 - R.sp) % 12) * nN R code s * nN R code s + (if at_ < 12 then R.F at_ * (s : Int) * (s : Int) else 0)
def nCd (R : Rg) (code s : Nat) : Nat := (code * 4 + (s - R.lo)) % cds R
def upS (R : Rg) (at_ sum s : Nat) : Nat := if at_ < 12 then sum + (s - R.lo) else sum
def tryS (R : Rg) (nx : Nat → Nat → Int) (code sum at_ : Nat) (acc : Int × Nat) (s : Nat) : Int × Nat :=
  if nOk R code s = true ∧ upS R at_ sum s < 37 then
    (if 0 ≤ nx (nCd R code s) (upS R at_ sum s) ∧ (acc.1 < 0 ∨ nPr R code at_ s + nx (nCd R code s) (upS R at_ sum s) < acc.1) then (nPr R code at_ s + nx (nCd R code s) (upS R at_ sum s), s) else acc)
  else acc
def lowS (R : Rg) (first : Nat → Nat) (at_ : Nat) : Nat := if at_ < 12 then R.lo else first (at_ - 12)
def cntS (at_ : Nat) : Nat := if at_ < 12 then 3 else 1
/-- the least cost and the least step that leads to it -/
def bst (R : Rg) (first : Nat → Nat) (nx : Nat → Nat → Int) (code sum at_ : Nat) : Int × Nat := (List.range' (lowS R first at_) (cntS at_)).foldl (tryS R nx code sum at_) (-1, 0)
/-- the table, from the end on -/
def RT (R : Rg) (first : Nat → Nat) : Nat → Nat → Nat → Int
  | 0, _, sum => if sum + 12 * R.lo = R.tot then 0 else -1
  | n + 1, code, sum => (bst R first (RT R first n) code sum (11 + R.sp - (n + 1))).1

theorem RgOk.s2 {R : Rg} (h : RgOk R) : 2 ≤ R.sp ∧ R.sp ≤ 3 := by have := h.sp; omega
theorem RgOk.cds {R : Rg} (h : RgOk R) : cds R = 4 ∨ cds R = 16 := by
  rcases h.sp with e | e
  · left; unfold Go.Proofs.cds; rw [e]
  · right; unfold Go.Proofs.cds; rw [e]
theorem nCd_lt {R : Rg} (h : RgOk R) (code s : Nat) : nCd R code s < cds R := Nat.mod_lt _ (by have := h.cds; omega)
theorem digs_le {R : Rg} (h : RgOk R) (code : Nat) : digs R code ≤ 8 := by
  have := h.lo
  unfold digs
  split <;> omega
theorem nN_bound {R : Rg} (h : RgOk R) (code s : Nat) (hs : s ≤ 3) : -11 ≤ nN R code s ∧ nN R code s ≤ 15 := by
  have h1 := digs_le h code
  have h2 := h.pu
  unfold nN
  omega
theorem sq_bound {a z : Int} {A : Int} {m : Int} (ha : 0 ≤ a ∧ a ≤ A) (h1 : -m ≤ z) (h2 : z ≤ m) (hm : 0 ≤ m) : 0 ≤ a * z * z ∧ a * z * z ≤ A * m * m := by
  have hz : 0 ≤ z * z := by
    by_cases h : 0 ≤ z
    · exact Int.mul_nonneg h h
    · have := Int.mul_nonneg (show 0 ≤ -z by omega) (show 0 ≤ -z by omega)
      rwa [Int.neg_mul_neg] at this
  have hz2 : z * z ≤ m * m := by
    have : 0 ≤ (m - z) * (m + z) := Int.mul_nonneg (by omega) (by omega)
    have e : (m - z) * (m + z) = m * m - z * z := by
      rw [Int.sub_mul, Int.mul_add, Int.mul_add, Int.mul_comm z m]
      omega
    omega
  rw [Int.mul_assoc, Int.mul_assoc]
  exact ⟨Int.mul_nonneg ha.1 hz, Int.le_trans (Int.mul_le_mul_of_nonneg_right ha.2 hz) (Int.mul_le_mul_of_nonneg_left hz2 (by omega))⟩
theorem nPr_bound {R : Rg} (h : RgOk R) (code at_ s : Nat) (hs : s ≤ 3) : 0 ≤ nPr R code at_ s ∧ nPr R code at_ s ≤ 12000 := by
  obtain ⟨h1, h2⟩ := nN_bound h code s hs
  obtain ⟨a1, a2⟩ := sq_bound (m := 15) (h.T ((at_ + 1 - R.sp) % 12) (Nat.mod_lt _ (by omega))) (by omega) h2 (by omega)
  unfold nPr
  split
  · rename_i hh
    obtain ⟨b1, b2⟩ := sq_bound (z := (s : Int)) (m := 3) (h.F at_ hh) (by omega) (by omega) (by omega)
    omega
  · omega

/-- what a row of tries comes to: nothing, or one of the steps -/
theorem try_fold {R : Rg} {nx : Nat → Nat → Int} {code sum at_ : Nat} (l : List Nat) (acc : Int × Nat) :
    (l.foldl (tryS R nx code sum at_) acc = acc) ∨ ∃ s ∈ l, nOk R code s = true ∧ upS R at_ sum s < 37 ∧ 0 ≤ nx (nCd R code s) (upS R at_ sum s) ∧ l.foldl (tryS R nx code sum at_) acc = (nPr R code at_ s + nx (nCd R code s) (upS R at_ sum s), s) := by
  induction l generalizing acc with
  | nil => exact .inl rfl
  | cons s l ih =>
    rw [List.foldl_cons]
    have hs : tryS R nx code sum at_ acc s = acc ∨ (nOk R code s = true ∧ upS R at_ sum s < 37 ∧ 0 ≤ nx (nCd R code s) (upS R at_ sum s) ∧ tryS R nx code sum at_ acc s = (nPr R code at_ s + nx (nCd R code s) (upS R at_ sum s), s)) := by
      unfold tryS
      split
      · rename_i h1
        split
        · rename_i h2
          exact .inr ⟨h1.1, h1.2, h2.1, rfl⟩
        · exact .inl rfl
      · exact .inl rfl
    rcases ih (tryS R nx code sum at_ acc s) with h | ⟨t, ht, h1, h2, h3, h4⟩
    · rcases hs with e | ⟨h1, h2, h3, h4⟩
      · left; rw [h, e]
      · right
        exact ⟨s, by simp, h1, h2, h3, by rw [h, h4]⟩
    · right
      exact ⟨t, by simp [ht], h1, h2, h3, h4⟩
theorem bst_cases {R : Rg} {first : Nat → Nat} {nx : Nat → Nat → Int} {code sum at_ : Nat} (h : 0 ≤ (bst R first nx code sum at_).1) :
    ∃ s, s ∈ List.range' (lowS R first at_) (cntS at_) ∧ nOk R code s = true ∧ upS R at_ sum s < 37 ∧ 0 ≤ nx (nCd R code s) (upS R at_ sum s) ∧ bst R first nx code sum at_ = (nPr R code at_ s + nx (nCd R code s) (upS R at_ sum s), s) := by
  rcases try_fold (R := R) (nx := nx) (code := code) (sum := sum) (at_ := at_) (List.range' (lowS R first at_) (cntS at_)) (-1, 0) with e | e
  · exfalso
    unfold bst at h
    rw [e] at h
    exact absurd h (by decide)
  · exact e
/-- steps in their range -/
def StOk (R : Rg) (s : Nat) : Prop := R.lo ≤ s ∧ s ≤ R.lo + 2
theorem mem_steps {R : Rg} {first : Nat → Nat} {at_ s : Nat} (hf : ∀ i, i + 1 < R.sp → StOk R (first i)) (ha : at_ < 11 + R.sp) (hm : s ∈ List.range' (lowS R first at_) (cntS at_)) : StOk R s ∧ (12 ≤ at_ → s = first (at_ - 12)) := by
  rw [List.mem_range'_1] at hm
  unfold lowS cntS at hm
  by_cases h : at_ < 12
  · rw [if_pos h, if_pos h] at hm
    exact ⟨⟨hm.1, by omega⟩, fun h2 => by omega⟩
  · rw [if_neg h, if_neg h] at hm
    have e : s = first (at_ - 12) := by omega
    exact ⟨by rw [e]; exact hf _ (by omega), fun _ => e⟩
theorem StOk.le {R : Rg} (h : RgOk R) {s : Nat} (hs : StOk R s) : s ≤ 3 := by have := h.lo; have := hs.2; omega
theorem RT_bound {R : Rg} (h : RgOk R) {first : Nat → Nat} (hf : ∀ i, i + 1 < R.sp → StOk R (first i)) (n : Nat) (hn : n ≤ 12) (code sum : Nat) : -1 ≤ RT R first n code sum ∧ RT R first n code sum ≤ 12000 * (n : Int) := by
  induction n generalizing code sum with
  | zero =>
    unfold RT
    split <;> omega
  | succ n ih =>
    have e : RT R first (n + 1) code sum = (bst R first (RT R first n) code sum (11 + R.sp - (n + 1))).1 := rfl
    rw [e]
    unfold bst
    rcases try_fold (R := R) (nx := RT R first n) (code := code) (sum := sum) (at_ := 11 + R.sp - (n + 1)) (List.range' (lowS R first (11 + R.sp - (n + 1))) (cntS (11 + R.sp - (n + 1)))) (-1, 0) with e | ⟨s, hs, h1, h2, h3, h4⟩
    · rw [e]
      show -1 ≤ (-1 : Int) ∧ (-1 : Int) ≤ _
      omega
    · rw [h4]
      have hst := (mem_steps hf (by have := h.s2; omega) hs).1
      obtain ⟨b1, b2⟩ := nPr_bound h code (11 + R.sp - (n + 1)) s (hst.le h)
      have := ih (by omega) (nCd R code s) (upS R (11 + R.sp - (n + 1)) sum s)
      dsimp only
      omega
/-- every result of a row of tries is bounded -/
theorem fold_bound {R : Rg} (h : RgOk R) {nx : Nat → Nat → Int} {code sum at_ : Nat} {M : Int} (hM : ∀ c u, nx c u ≤ M) (hM0 : 0 ≤ M) (l : List Nat) (hl : ∀ s ∈ l, s ≤ 3) :
    -1 ≤ (l.foldl (tryS R nx code sum at_) (-1, 0)).1 ∧ (l.foldl (tryS R nx code sum at_) (-1, 0)).1 ≤ 12000 + M := by
  rcases try_fold (R := R) (nx := nx) (code := code) (sum := sum) (at_ := at_) l (-1, 0) with e | ⟨s, hs, h1, h2, h3, h4⟩
  · rw [e]
    show -1 ≤ (-1 : Int) ∧ (-1 : Int) ≤ _
    omega
  · rw [h4]
    obtain ⟨b1, b2⟩ := nPr_bound h code at_ s (hl s hs)
    have := hM (nCd R code s) (upS R at_ sum s)
    dsimp only
    omega

/-! ### the way through the circle -/
def sumE (R : Rg) (e : Nat → Nat) : Nat → Nat
  | 0 => 0
  | n + 1 => sumE R e n + (e n - R.lo)
def offE (R : Rg) (e : Nat → Nat) (i : Nat) : Int := if R.sp = 2 then (R.pu : Int) - (e i : Int) - (e (i + 1) : Int) else (R.pu : Int) - (e i : Int) - (e (i + 1) : Int) - (e (i + 2) : Int)
def PF (R : Rg) (e : Nat → Nat) : Nat → Int
  | 0 => 0
  | n + 1 => PF R e n + R.F n * (e n : Int) * (e n : Int)
def PT (R : Rg) (e : Nat → Nat) : Nat → Int
  | 0 => 0
  | n + 1 => PT R e n + R.T n * offE R e n * offE R e n
def codeE (R : Rg) (e : Nat → Nat) (n : Nat) : Nat := if R.sp = 2 then e (n - 1) - R.lo else (e (n - 2) - R.lo) * 4 + (e (n - 1) - R.lo)
structure Way (R : Rg) (first e : Nat → Nat) (n code sum : Nat) (c : Int) : Prop where
  n1 : R.sp - 1 ≤ n
  n2 : n ≤ 11 + R.sp
  st : ∀ i, i < n → StOk R (e i)
  hsum : sum = sumE R e (min n 12)
  hcode : code = codeE R e n
  rt : 0 ≤ RT R first (11 + R.sp - n) code sum
  off : ∀ i, i + R.sp ≤ n → -(R.wo : Int) ≤ offE R e i ∧ offE R e i ≤ (R.wo : Int)
  cost : PF R e (min n 12) + PT R e (n + 1 - R.sp) + RT R first (11 + R.sp - n) code sum = c

theorem sumE_congr {R : Rg} {e e' : Nat → Nat} (n : Nat) (h : ∀ i, i < n → e' i = e i) : sumE R e' n = sumE R e n := by
  induction n with
  | zero => rfl
  | succ n ih => rw [sumE, sumE, ih (fun i hi => h i (by omega)), h n (by omega)]
theorem PF_congr {R : Rg} {e e' : Nat → Nat} (n : Nat) (h : ∀ i, i < n → e' i = e i) : PF R e' n = PF R e n := by
  induction n with
  | zero => rfl
  | succ n ih => rw [PF, PF, ih (fun i hi => h i (by omega)), h n (by omega)]
theorem offE_congr {R : Rg} (hR : RgOk R) {e e' : Nat → Nat} (i : Nat) (h : ∀ j, j < i + R.sp → e' j = e j) : offE R e' i = offE R e i := by
  unfold offE
  rcases hR.sp with hs | hs
  · rw [if_pos hs, if_pos hs, h i (by omega), h (i + 1) (by omega)]
  · rw [if_neg (by omega), if_neg (by omega), h i (by omega), h (i + 1) (by omega), h (i + 2) (by omega)]
theorem PT_congr {R : Rg} (hR : RgOk R) {e e' : Nat → Nat} (n : Nat) (h : ∀ i, i + 1 < n + R.sp → e' i = e i) : PT R e' n = PT R e n := by
  induction n with
  | zero => rfl
  | succ n ih => rw [PT, PT, ih (fun i hi => h i (by omega)), offE_congr hR n (fun j hj => h j (by omega))]
theorem codeE_congr {R : Rg} (hR : RgOk R) {e e' : Nat → Nat} (n : Nat) (hn : R.sp - 1 ≤ n) (h : ∀ i, i < n → e' i = e i) : codeE R e' n = codeE R e n := by
  unfold codeE
  rcases hR.sp with hs | hs
  · rw [if_pos hs, if_pos hs, h _ (by omega)]
  · rw [if_neg (by omega), if_neg (by omega), h _ (by omega), h _ (by omega)]
theorem Way.congr {R : Rg} (hR : RgOk R) {first e e' : Nat → Nat} {n code sum : Nat} {c : Int} (h : Way R first e n code sum c) (he : ∀ i, i < n → e' i = e i) : Way R first e' n code sum c where
  n1 := h.n1
  n2 := h.n2
  st := fun i hi => by rw [he i hi]; exact h.st i hi
  hsum := by rw [sumE_congr _ (fun i hi => he i (by omega))]; exact h.hsum
  hcode := by rw [codeE_congr hR n h.n1 he]; exact h.hcode
  rt := h.rt
  off := fun i hi => by rw [offE_congr hR i (fun j hj => he j (by omega))]; exact h.off i hi
  cost := by rw [PF_congr _ (fun i hi => he i (by omega)), PT_congr hR _ (fun i hi => he i (by have := h.n1; have := hR.s2; omega))]; exact h.cost
theorem nN_off {R : Rg} (hR : RgOk R) {e : Nat → Nat} {n : Nat} (h1 : R.sp - 1 ≤ n) (hst : ∀ i, i < n → StOk R (e i)) : nN R (codeE R e n) (e n) = offE R e (n + 1 - R.sp) := by
  unfold nN digs codeE offE
  rcases hR.sp with hs | hs
  · rw [if_pos hs, if_pos hs, if_pos hs]
    obtain ⟨m, rfl⟩ : ∃ m, n = m + 1 := ⟨n - 1, by omega⟩
    rw [hs, show m + 1 - 1 = m by omega, show m + 1 + 1 - 2 = m by omega]
    have := hst m (by omega)
    unfold StOk at this
    omega
  · rw [if_neg (by omega), if_neg (by omega), if_neg (by omega)]
    obtain ⟨m, rfl⟩ : ∃ m, n = m + 2 := ⟨n - 2, by omega⟩
    rw [hs, show m + 2 - 1 = m + 1 by omega, show m + 2 - 2 = m by omega, show m + 2 + 1 - 3 = m by omega]
    have h3 := hst m (by omega)
    have h4 := hst (m + 1) (by omega)
    unfold StOk at h3 h4
    omega
theorem nCd_code {R : Rg} (hR : RgOk R) {e : Nat → Nat} {n : Nat} (h1 : R.sp - 1 ≤ n) (hst : ∀ i, i < n + 1 → StOk R (e i)) : nCd R (codeE R e n) (e n) = codeE R e (n + 1) := by
  unfold nCd codeE cds
  rcases hR.sp with hs | hs
  · rw [if_pos hs, if_pos hs, hs]
    rw [show n + 1 - 1 = n by omega]
    have := hst n (by omega)
    unfold StOk at this
    show ((e (n - 1) - R.lo) * 4 + (e n - R.lo)) % 4 = _
    omega
  · rw [if_neg (by omega), if_neg (by omega), hs]
    rw [show n + 1 - 1 = n by omega, show n + 1 - 2 = n - 1 by omega]
    have h3 := hst n (by omega)
    have h4 := hst (n - 1) (by omega)
    unfold StOk at h3 h4
    show (((e (n - 2) - R.lo) * 4 + (e (n - 1) - R.lo)) * 4 + (e n - R.lo)) % 16 = _
    omega
theorem Way.step {R : Rg} (hR : RgOk R) {first e : Nat → Nat} (hf : ∀ i, i + 1 < R.sp → StOk R (first i)) {n code sum : Nat} {c : Int} (h : Way R first e n code sum c) (hn : n < 11 + R.sp)
    (he : e n = (bst R first (RT R first (11 + R.sp - (n + 1))) code sum n).2) : StOk R (e n) ∧ (12 ≤ n → e n = first (n - 12)) ∧ Way R first e (n + 1) (nCd R code (e n)) (upS R n sum (e n)) c := by
  have h0 := h.rt
  have hc := h.cost
  obtain ⟨m, hm⟩ : ∃ m, 11 + R.sp - n = m + 1 := ⟨11 + R.sp - n - 1, by omega⟩
  have hm2 : 11 + R.sp - (n + 1) = m := by omega
  have hnm : 11 + R.sp - (m + 1) = n := by omega
  rw [hm] at h0 hc
  rw [hm2] at he
  have eq : RT R first (m + 1) code sum = (bst R first (RT R first m) code sum n).1 := by
    show (bst R first (RT R first m) code sum (11 + R.sp - (m + 1))).1 = _
    rw [hnm]
  rw [eq] at h0 hc
  obtain ⟨s, hs, k1, k2, k3, k4⟩ := bst_cases h0
  rw [k4] at he hc
  dsimp only at he hc
  obtain ⟨q1, q2⟩ := mem_steps hf hn hs
  rw [← he] at hs k1 k2 k3 k4 q1 q2 hc
  have hst : ∀ i, i < n + 1 → StOk R (e i) := fun i hi => by
    by_cases hi2 : i < n
    · exact h.st i hi2
    · rw [show i = n by omega]; exact q1
  have hnn := nN_off hR h.n1 h.st
  rw [← h.hcode] at hnn
  refine ⟨q1, q2, ?_⟩
  have hsp := hR.s2
  have n1 := h.n1
  refine ⟨by omega, by omega, hst, ?_, ?_, ?_, ?_, ?_⟩
  · unfold upS
    by_cases h12 : n < 12
    · rw [if_pos h12, show min (n + 1) 12 = n + 1 by omega, sumE, h.hsum, show min n 12 = n by omega]
    · rw [if_neg h12, h.hsum, show min n 12 = min (n + 1) 12 by omega]
  · rw [h.hcode]; exact nCd_code hR h.n1 hst
  · rw [hm2]; exact k3
  · intro i hi
    by_cases hi2 : i + R.sp ≤ n
    · exact h.off i hi2
    · have e1 : i = n + 1 - R.sp := by omega
      rw [e1, ← hnn]
      unfold nOk at k1
      simp only [Bool.and_eq_true, decide_eq_true_eq] at k1
      exact k1
  · rw [hm2]
    have e2 : n + 1 + 1 - R.sp = (n + 1 - R.sp) + 1 := by omega
    rw [e2, PT, ← hnn]
    unfold nPr at hc
    have e3 : (n + 1 - R.sp) % 12 = n + 1 - R.sp := Nat.mod_eq_of_lt (by omega)
    rw [e3] at hc
    by_cases h12 : n < 12
    · rw [if_pos h12] at hc
      rw [show min (n + 1) 12 = n + 1 by omega, PF]
      rw [show min n 12 = n by omega] at hc
      omega
    · rw [if_neg h12] at hc
      rw [show min (n + 1) 12 = min n 12 by omega]
      omega
/-- what the steps of a ring must be -/
structure Fine (R : Rg) (e : Nat → Nat) (c : Int) : Prop where
  st : ∀ i, i < 12 → StOk R (e i)
  sum : sumE R e 12 + 12 * R.lo = R.tot
  off : ∀ i, i < 12 → -(R.wo : Int) ≤ offE R (fun j => e (j % 12)) i ∧ offE R (fun j => e (j % 12)) i ≤ (R.wo : Int)
  cost : PF R e 12 + PT R (fun j => e (j % 12)) 12 = c
theorem Way.last {R : Rg} (hR : RgOk R) {first e : Nat → Nat} {code sum : Nat} {c : Int} (h : Way R first e (11 + R.sp) code sum c) (he : ∀ i, i < 11 + R.sp → e i = e (i % 12)) : Fine R e c := by
  have hsp := hR.s2
  have h0 := h.rt
  have hc := h.cost
  rw [Nat.sub_self] at h0 hc
  have hs := h.hsum
  rw [show min (11 + R.sp) 12 = 12 by omega] at hs hc
  rw [show 11 + R.sp + 1 - R.sp = 12 by omega] at hc
  have ht : sum + 12 * R.lo = R.tot := by
    by_cases hh : sum + 12 * R.lo = R.tot
    · exact hh
    · exfalso
      unfold RT at h0
      rw [if_neg hh] at h0
      exact absurd h0 (by decide)
  have hz : RT R first 0 code sum = 0 := by unfold RT; rw [if_pos ht]
  refine ⟨fun i hi => h.st i (by omega), by rw [← hs]; exact ht, fun i hi => ?_, ?_⟩
  · rw [offE_congr hR (e := e) i (fun j hj => (he j (by omega)).symm)]
    exact h.off i (by omega)
  · rw [PT_congr hR (e := e) 12 (fun i hi => (he i (by omega)).symm)]
    omega
/-- behind the twelfth step the first ones lead back -/
theorem Way.close {R : Rg} (hR : RgOk R) {first e : Nat → Nat} (hf : ∀ i, i + 1 < R.sp → StOk R (first i)) {code sum : Nat} {c : Int} (h : Way R first e 12 code sum c) (hfe : ∀ i, i + 1 < R.sp → e i = first i) : Fine R e c := by
  have hsp := hR.s2
  have h' : Way R first (fun j => e (j % 12)) 12 code sum c := h.congr hR (fun i hi => by rw [Nat.mod_eq_of_lt hi])
  have key : ∀ n code sum, 12 ≤ n → n < 11 + R.sp → Way R first (fun j => e (j % 12)) n code sum c → ∃ code' sum', Way R first (fun j => e (j % 12)) (n + 1) code' sum' c := by
    intro n code sum h1 h2 hw
    -- the step that is taken is the one of the beginning
    have h0 := hw.rt
    obtain ⟨m, hm⟩ : ∃ m, 11 + R.sp - n = m + 1 := ⟨11 + R.sp - n - 1, by omega⟩
    have hnm : 11 + R.sp - (m + 1) = n := by omega
    rw [hm] at h0
    have eq : RT R first (m + 1) code sum = (bst R first (RT R first m) code sum n).1 := by
      show (bst R first (RT R first m) code sum (11 + R.sp - (m + 1))).1 = _
      rw [hnm]
    rw [eq] at h0
    obtain ⟨s, hs, k1, k2, k3, k4⟩ := bst_cases h0
    have q2 := (mem_steps hf h2 hs).2 h1
    have e1 : (fun j => e (j % 12)) n = (bst R first (RT R first (11 + R.sp - (n + 1))) code sum n).2 := by
      rw [show 11 + R.sp - (n + 1) = m by omega, k4]
      show e (n % 12) = s
      rw [q2, ← hfe (n - 12) (by omega)]
      congr 1
      omega
    exact ⟨_, _, (hw.step hR hf h2 e1).2.2⟩
  have fin : ∀ code sum, Way R first (fun j => e (j % 12)) (11 + R.sp) code sum c → Fine R e c := by
    intro code sum hw
    have hF := hw.last hR (fun i hi => by show e (i % 12) = e (i % 12 % 12); rw [Nat.mod_mod])
    refine ⟨fun i hi => ?_, ?_, fun i hi => ?_, ?_⟩
    · have := hF.st i hi
      rwa [Nat.mod_eq_of_lt hi] at this
    · rw [← hF.sum, sumE_congr (e := fun j => e (j % 12)) 12 (fun i hi => by rw [Nat.mod_eq_of_lt hi])]
    · have := hF.off i hi
      rw [show (fun j => (fun j => e (j % 12)) (j % 12)) = (fun j => e (j % 12)) from funext fun j => by show e (j % 12 % 12) = e (j % 12); rw [Nat.mod_mod]] at this
      exact this
    · have := hF.cost
      rw [show (fun j => (fun j => e (j % 12)) (j % 12)) = (fun j => e (j % 12)) from funext fun j => by show e (j % 12 % 12) = e (j % 12); rw [Nat.mod_mod]] at this
      rw [← this, PF_congr (e := fun j => e (j % 12)) 12 (fun i hi => by rw [Nat.mod_eq_of_lt hi])]
  rcases hR.sp with hs | hs
  · obtain ⟨c1, u1, w1⟩ := key 12 _ _ (Nat.le_refl _) (by omega) h'
    rw [show 12 + 1 = 11 + R.sp by omega] at w1
    exact fin _ _ w1
  · obtain ⟨c1, u1, w1⟩ := key 12 _ _ (Nat.le_refl _) (by omega) h'
    obtain ⟨c2, u2, w2⟩ := key 13 _ _ (by omega) (by omega) w1
    rw [show 13 + 1 = 11 + R.sp by omega] at w2
    exact fin _ _ w2

end Go.Proofs
