/- append to what the call itself made: where the slice lies behind it. -/
import Derived.Test.YtpflnpekcdjheaaGreatDoorBase
open Go.RowKit
namespace Go.Proofs
set_option linter.unusedVariables false
set_option linter.unusedSimpArgs false

theorem wpList_append_at {P : Program} {w : World} {ops : Array Oper} {rest : List Oper} {o : Oper} {a : Act} {Q : Exit → Act → World → Prop} (hgd : o.guard = none) (s x : Operand) (t : TypeId)
    (ho : o.op = .call { callee := .builtin .append, args := #[s, x], argTypes := #[t, t] })
    (base : Nat) (e : TypeId) (i : TypeInfo) (z : Value) (bytes : Nat) (ht : P.underlying t = some (.slice e)) (hi : P.info? e = some i) (hz : i.zero = some z)
    (hsize : i.size = 1) (hby : i.bytes = bytes) (hzs : z.cells.size = 1)
    (v : Value) (n : Nat) (xs : List Value) (hs : a.eval s = v) (hown : w.ownsRow base e 1 v n xs)
    (ad : Addr) (m c : Nat) (news : List Value) (hx : a.eval x = .slice (some ad) m c) (hl : news.length = m * 1) (hnews : ∀ j u, news[j]? = some u → w.cell? (ad.add j) = some u) (h1 : ∀ u ∈ news, u.oneCell' = true)
    (h63 : n + m ≤ maxLen) (hbytes : (n + m) * bytes ≤ 140737488355328) (hbase : base ≤ w.heap.size)
    (h : ∀ v' w', w'.ownsRow base e 1 v' (n + m) (xs ++ news) → w.grownBy w' v.ownBlock → (v'.ownBlock = v.ownBlock ∨ v'.ownBlock = some w.heap.size) → wpList P ops Q rest (a.put o.dst v') w') : wpList P ops Q (o :: rest) a w :=
  wpList_plain hgd fun _ hK => by
    obtain ⟨v', w', hr, h2, h3, h4⟩ := run_append_own (P := P) w base t o.type e i z 1 bytes ht hi hz hsize hby hzs (by omega) v n xs hown ad m c news hl hnews h1 h63 hbytes hbase
    have hl' : news.length = m * i.size := by rw [hsize]; exact hl
    have hsmall : ((n + m : Nat) : Int) ≤ 9223372036854775807 := by simp only [maxLen] at h63; omega
    have h5 : v'.ownBlock = v.ownBlock ∨ v'.ownBlock = some w.heap.size := by
      have hown2 := hown.2
      rcases hown2 with ⟨rfl, rfl⟩ | ⟨g, cap, cur, rfl, hbg, hg, hnc, hcm, hcs, htake⟩
      · by_cases hm : m = 0
        · rw [h4.2 ⟨rfl, hm⟩]; exact .inl rfl
        · have hr2 := run_append_nil (P := P) w t o.type e i z ht hi hz ad m c news hl' hnews (by omega) (by omega) (by rw [hby]; rw [Nat.zero_add] at hbytes; omega)
          rw [hr] at hr2
          injection hr2 with e1 e2
          rw [e1]; exact .inr rfl
      · by_cases hroom : n + m ≤ cap
        · have hr2 := run_append_room (P := P) w t o.type e i ht hi g n cap cur hg ad m c news hl' hnews h1 hroom (by rw [hsize]; omega)
          rw [hr] at hr2
          injection hr2 with e1 e2
          rw [e1]; exact .inl rfl
        · have holds : ∀ j u, xs[j]? = some u → w.cell? ((⟨g, 0, none⟩ : Addr).add j) = some u := hown.cells (g := g) rfl
          have hr2 := run_append_grow (P := P) w t o.type e i z ht hi hz ⟨g, 0, none⟩ n cap xs (by rw [hsize]; exact hown.1) holds ad m c news hl' hnews (by omega) hsmall (growslice_fits (by omega) (by rw [hby]; exact hbytes))
          rw [hr] at hr2
          injection hr2 with e1 e2
          rw [e1]; exact .inr rfl
    unfold Oper.wp execOp
    simp only [ho, resolve, invoke, builtin, Sem.run_bind, Sem.run_pure, Result.andThen_ok, List.map_toArray, List.map_cons, List.map_nil, hs, hx, hr]
    exact hK _ _ (h v' w' h2 h3 h5)

/-- a number that lies in no block of another slice stays as it is -/
def Clear (o : Option Nat) : Value → Prop
  | .slice (some a) _ _ => o ≠ some a.block
  | _ => True

theorem Num.grownBy {w w' : World} {v : Value} {n : Nat} {o : Option Nat} (h : Num w v n) (hg : w.grownBy w' o) (hc : Clear o v) : Num w' v n := by
  obtain ⟨ad, c, rfl, h1, h2, h3, h4⟩ := h
  rcases h4 with h4 | ⟨b, f, rfl, hb, hcell⟩
  · obtain ⟨rfl, h5⟩ := h4
    exact ⟨none, c, rfl, h1, h2, h3, .inl ⟨rfl, h5⟩⟩
  · have hk : w'.heap[b]? = w.heap[b]? := hg.block b hb (fun e => hc e.symm)
    refine ⟨_, c, rfl, h1, h2, h3, .inr ⟨b, f, rfl, Nat.lt_of_lt_of_le hb hg.size, fun i hi => ?_⟩⟩
    have h5 := hcell i hi
    unfold World.cell? World.frozen? at h5 ⊢
    simp only [hk]
    exact h5

theorem Clear.fresh {v : Value} {r : Nat} {o : Option Nat} (h : Fresh r v) (ho : ∀ k, o = some k → k < r) : Clear o v := by
  cases v with
  | slice a n c =>
    cases a with
    | none => trivial
    | some a => intro e; have h1 := ho _ e; have h2 : r ≤ a.block := h; omega
  | _ => trivial

/-- the slice that append leaves lies clear of what was there and clear -/
theorem Clear.next {w : World} {v : Value} {n : Nat} {o o' : Option Nat} (h : Num w v n) (hc : Clear o v) (ho : o' = o ∨ o' = some w.heap.size) : Clear o' v := by
  rcases ho with rfl | rfl
  · exact hc
  · obtain ⟨ad, c, rfl, h1, h2, h3, h4⟩ := h
    rcases h4 with h4 | ⟨b, f, rfl, hb, hcell⟩
    · obtain ⟨rfl, h5⟩ := h4; trivial
    · intro e
      injection e with e
      have e : w.heap.size = b := e
      omega

end Go.Proofs
