/-
  Several texts in one: ZAlKey, ZAlFit. Conditions: as each law says.
-/
import Derived.Test.YthibphklchalkaaGreatDoorZMAlA
import Derived.Test.YthibphklchalkaaGreatDoorZMRew
import Derived.Test.YthibphklchalkaaGreatDoorZMBase
namespace Go.Proofs.YthibphklchalkaaGreatDoor
open Go.RowKit Go.Maps

theorem st_keyed : Keyed Tryz.prog 53 :=
  Keyed.of_law (deep_law_laid laid_out (m := 9) (by decide) (of_decide_eq_true (by kernel_rfl)) (by kernel_rfl) (by kernel_rfl))

theorem wf_small (n : Nat) (h : n ≤ 1000000) : (Lit.int .i64 (n : Int)).wf = true := by
  have h1 : IntKind.i64.min = -9223372036854775808 := by decide
  have h2 : IntKind.i64.max = 9223372036854775807 := by decide
  show (decide (IntKind.i64.min ≤ (n : Int)) && decide ((n : Int) ≤ IntKind.i64.max)) = true
  rw [h1, h2, decide_eq_true (by omega), decide_eq_true (by omega)]; rfl

theorem st_some (s : Al.St) (h1 : s.i ≤ 1000) (h2 : s.j ≤ 1000) (h3 : s.ahead.length ≤ 1000) : ∃ kl, keyOf Tryz.prog 53 (stV s) = some kl := by
  have hd : ∃ d, Tryz.prog.types.size + 1 = d + 2 := ⟨Tryz.prog.types.size - 1, by have : 1 ≤ Tryz.prog.types.size := of_decide_eq_true (by kernel_rfl); omega⟩
  obtain ⟨d, hd⟩ := hd
  have hk : Tryz.prog.keyType 53 = true := by kernel_rfl
  have hc : Tryz.prog.cellsOf 53 = 4 := by kernel_rfl
  have hc3 : Tryz.prog.cellsOf 3 = 1 := by kernel_rfl
  have hc9 : Tryz.prog.cellsOf 9 = 1 := by kernel_rfl
  have hc4 : Tryz.prog.cellsOf 4 = 1 := by kernel_rfl
  have w1 : (Lit.int .i64 (s.i : Int)).wf = true := wf_small s.i (by omega)
  have w2 : (Lit.int .i64 (s.j : Int)).wf = true := wf_small s.j (by omega)
  have w3 : (bs s.ahead).size ≤ maxLen := by rw [bs_len]; unfold maxLen; omega
  unfold keyOf stV stC
  rw [Tryz.underlying53]
  simp only [hk, Value.formed, Tryz.underlying53, hc, Value.cells]
  rw [hd]
  simp [Program.keyLits, Tryz.underlying53, hc, hc3, hc9, hc4, Tryz.underlying3, Tryz.underlying9, Tryz.underlying4, w1, w2, w3]

theorem st_eq {s s' : Al.St} : stV s = stV s' ↔ s = s' := by
  constructor
  · intro h
    obtain ⟨i, j, a, r⟩ := s
    obtain ⟨i', j', a', r'⟩ := s'
    simp [stV, stC, bs] at h
    obtain ⟨h1, h2, h3, h4⟩ := h
    simp only [Al.St.mk.injEq]
    exact ⟨by omega, by omega, h3, h4⟩
  · intro h; rw [h]

theorem zero_int (w : World) : (zeroValue 3).run Tryz.prog w = .ok (.int .i64 0) w := by kernel_rfl

open Classical in
/-- the map of the least costs of these states -/
noncomputable def costsF (w : Al.Ws) (K : List Al.St) (x : Value) : Option Value := if h : ∃ s ∈ K, stV s = x then some (.int .i64 (Al.cost w h.choose)) else none

theorem costsF_in {w : Al.Ws} {K : List Al.St} {s : Al.St} (h : s ∈ K) : costsF w K (stV s) = some (.int .i64 (Al.cost w s)) := by
  have hex : ∃ s' ∈ K, stV s' = stV s := ⟨s, h, rfl⟩
  unfold costsF
  rw [dif_pos hex]
  have := hex.choose_spec.2
  rw [st_eq.1 this]

theorem costsF_out {w : Al.Ws} {K : List Al.St} {s : Al.St} (h : s ∉ K) : costsF w K (stV s) = none := by
  unfold costsF
  rw [dif_neg]
  rintro ⟨s', h1, h2⟩
  exact h (by rw [← st_eq.1 h2]; exact h1)

theorem costsF_cons {w : Al.Ws} {K : List Al.St} {s : Al.St} : costsF w (s :: K) (stV s) = some (.int .i64 (Al.cost w s)) ∧ ∀ y, y ≠ stV s → costsF w (s :: K) y = costsF w K y := by
  refine ⟨costsF_in List.mem_cons_self, fun y hy => ?_⟩
  by_cases h : ∃ s' ∈ K, stV s' = y
  · obtain ⟨s', h1, rfl⟩ := h
    rw [costsF_in h1, costsF_in (List.mem_cons_of_mem _ h1)]
  · unfold costsF
    rw [dif_neg h, dif_neg]
    rintro ⟨s', h1, h2⟩
    rcases List.mem_cons.1 h1 with rfl | h1
    · exact hy h2.symm
    · exact h ⟨s', h1, h2⟩

end Go.Proofs.YthibphklchalkaaGreatDoor

namespace Al

/-- what may be ahead -/
def aheads (w : Ws) : List (List UInt8) := [] :: (w.left.rules ++ w.right.rules).flatMap (fun r => (List.range (r.to_.length + 1)).map (fun n => r.to_.drop n))

theorem mem_aheads {w : Ws} {a : List UInt8} : a ∈ aheads w ↔ a = [] ∨ ∃ r ∈ w.left.rules ++ w.right.rules, ∃ n, a = r.to_.drop n := by
  unfold aheads
  rw [List.mem_cons, List.mem_flatMap]
  constructor
  · rintro (h | ⟨r, hr, h⟩)
    · exact .inl h
    · rw [List.mem_map] at h
      obtain ⟨n, _, rfl⟩ := h
      exact .inr ⟨r, hr, n, rfl⟩
  · rintro (h | ⟨r, hr, n, rfl⟩)
    · exact .inl h
    · by_cases hn : n ≤ r.to_.length
      · exact .inr ⟨r, hr, List.mem_map.2 ⟨n, List.mem_range.2 (by omega), rfl⟩⟩
      · exact .inl (List.drop_eq_nil_of_le (by omega))

theorem aheads_drop {w : Ws} {a : List UInt8} (n : Nat) (h : a ∈ aheads w) : a.drop n ∈ aheads w := by
  rw [mem_aheads] at h ⊢
  rcases h with rfl | ⟨r, hr, m, rfl⟩
  · exact .inl (by simp)
  · exact .inr ⟨r, hr, m + n, by rw [List.drop_drop]⟩

def Ok (w : Ws) (s : St) : Prop := Within w s ∧ s.ahead ∈ aheads w

theorem ok_zero {w : Ws} : Ok w zero := ⟨within_zero, by rw [mem_aheads]; exact .inl rfl⟩

theorem one_rules {w : Ws} {s : St} {r : R} (h : r ∈ (one w s).rules) : r ∈ w.left.rules ++ w.right.rules := by
  unfold one at h
  rw [List.mem_append]
  split at h
  · exact .inl h
  · exact .inr h

theorem ok_step {w : Ws} (hw : w.Good) {s s' : St} {r : R} (h : (r, s') ∈ moves w s) (hs : Ok w s) : Ok w s' := by
  refine ⟨(move_step hw h hs.1).1, ?_⟩
  obtain ⟨h1, _, h3⟩ := mem_moves.1 h
  unfold nextOf at h3
  simp only at h3
  split at h3
  · cases h3; exact aheads_drop _ hs.2
  · split at h3
    · cases h3
      rw [mem_aheads]
      exact .inr ⟨r, one_rules h1, _, rfl⟩
    · cases h3

/-- all states -/
def states (w : Ws) : List St :=
  (List.range (w.left.letters.length + 1)).flatMap fun i => (List.range (w.right.letters.length + 1)).flatMap fun j => (aheads w).flatMap fun a => [⟨i, j, a, true⟩, ⟨i, j, a, false⟩]

theorem mem_states {w : Ws} {s : St} (h : Ok w s) : s ∈ states w := by
  obtain ⟨⟨h1, h2, _⟩, h3⟩ := h
  obtain ⟨i, j, a, r⟩ := s
  unfold states
  simp only [List.mem_flatMap, List.mem_range]
  refine ⟨i, by simp only at h1; omega, j, by simp only at h2; omega, a, h3, ?_⟩
  cases r <;> simp

theorem flat_le {α β : Type} (f : α → List β) (c : Nat) : ∀ (l : List α), (∀ x ∈ l, (f x).length ≤ c) → (l.flatMap f).length ≤ l.length * c
  | [], _ => by simp
  | x :: l, h => by
    rw [List.flatMap_cons, List.length_append, List.length_cons, Nat.succ_mul]
    have := h x List.mem_cons_self
    have := flat_le f c l (fun y hy => h y (List.mem_cons_of_mem _ hy))
    omega

theorem states_few {w : Ws} (h1 : w.left.letters.length ≤ 12) (h2 : w.right.letters.length ≤ 12) (h3 : (w.left.rules ++ w.right.rules).length ≤ 200) (h4 : ∀ r ∈ w.left.rules ++ w.right.rules, r.to_.length ≤ 1000) :
    (states w).length ≤ 100000000 := by
  have ha : (aheads w).length ≤ 200201 := by
    unfold aheads
    rw [List.length_cons]
    have := flat_le (fun r : R => (List.range (r.to_.length + 1)).map (fun n => r.to_.drop n)) 1001 (w.left.rules ++ w.right.rules) (fun r hr => by
      have := h4 r hr
      simp only [List.length_map, List.length_range]; omega)
    have h5 : (w.left.rules ++ w.right.rules).length * 1001 ≤ 200 * 1001 := Nat.mul_le_mul_right _ h3
    omega
  have e1 : ∀ i j : Nat, ((aheads w).flatMap fun a => [(⟨i, j, a, true⟩ : St), ⟨i, j, a, false⟩]).length ≤ 400402 := fun i j => by
    have := flat_le (fun a => [(⟨i, j, a, true⟩ : St), ⟨i, j, a, false⟩]) 2 (aheads w) (fun _ _ => by simp)
    omega
  have e2 : ∀ i : Nat, ((List.range (w.right.letters.length + 1)).flatMap fun j => (aheads w).flatMap fun a => [(⟨i, j, a, true⟩ : St), ⟨i, j, a, false⟩]).length ≤ 13 * 400402 := fun i => by
    have := flat_le (fun j => (aheads w).flatMap fun a => [(⟨i, j, a, true⟩ : St), ⟨i, j, a, false⟩]) 400402 (List.range (w.right.letters.length + 1)) (fun j _ => e1 i j)
    rw [List.length_range] at this
    exact Nat.le_trans this (Nat.mul_le_mul_right _ (by omega))
  have := flat_le (fun i => (List.range (w.right.letters.length + 1)).flatMap fun j => (aheads w).flatMap fun a => [(⟨i, j, a, true⟩ : St), ⟨i, j, a, false⟩]) (13 * 400402) (List.range (w.left.letters.length + 1)) (fun i _ => e2 i)
  rw [List.length_range] at this
  have h5 : (w.left.letters.length + 1) * (13 * 400402) ≤ 13 * (13 * 400402) := Nat.mul_le_mul_right _ (by omega)
  unfold states
  omega

/-- states, with all that can be reached from them -/
structure Closed (w : Ws) (K : List St) : Prop where
  ok : ∀ s ∈ K, Ok w s
  on : ∀ s ∈ K, ∀ p ∈ moves w s, p.2 ∈ K
  once : K.Nodup

theorem Closed.few {w : Ws} {K : List St} (h : Closed w K) (h1 : w.left.letters.length ≤ 12) (h2 : w.right.letters.length ≤ 12) (h3 : (w.left.rules ++ w.right.rules).length ≤ 200) (h4 : ∀ r ∈ w.left.rules ++ w.right.rules, r.to_.length ≤ 1000) :
    K.length ≤ 100000000 :=
  Nat.le_trans (Go.Proofs.YthibphklchalkaaGreatDoor.nodup_le h.once (fun x hx => mem_states (h.ok x hx))) (states_few h1 h2 h3 h4)

theorem aheads_len {w : Ws} (h4 : ∀ r ∈ w.left.rules ++ w.right.rules, r.to_.length ≤ 1000) {a : List UInt8} (h : a ∈ aheads w) : a.length ≤ 1000 := by
  rcases mem_aheads.1 h with rfl | ⟨r, hr, n, rfl⟩
  · simp
  · have := h4 r hr
    rw [List.length_drop]; omega

end Al
namespace Go.Proofs.YthibphklchalkaaGreatDoor
open Go.RowKit

/-- the moves that remain -/
def mvs (w : Al.Ws) (s : Al.St) (b : List (Al.R × Value)) : List (Al.R × Al.St) := b.filterMap fun p => Al.move w s p.1

theorem mvs_all {w : Al.Ws} {s : Al.St} {b : List (Al.R × Value)} (h : b.map Prod.fst = (Al.one w s).rules) : mvs w s b = Al.moves w s := by
  unfold mvs Al.moves
  rw [← h, List.filterMap_map]
  rfl

theorem nx_none {w : Al.Ws} {s : Al.St} : ∀ {b : List (Al.R × Value)}, nxMove w s b = none → mvs w s b = []
  | [], _ => rfl
  | p :: b, h => by
    unfold nxMove at h
    unfold mvs
    rw [List.filterMap_cons]
    cases hm : Al.move w s p.1 with
    | none => rw [hm] at h; exact nx_none h
    | some q => rw [hm] at h; cases h

theorem nx_some {w : Al.Ws} {s : Al.St} : ∀ {b b' : List (Al.R × Value)} {vals : Array Value}, nxMove w s b = some (vals, b') →
    ∃ p s', p ∈ b ∧ vals = #[ruleV p, stV s'] ∧ mvs w s b = (p.1, s') :: mvs w s b' ∧ ∀ q ∈ b', q ∈ b
  | [], _, _, h => by cases h
  | p :: b, b', vals, h => by
    unfold nxMove at h
    cases hm : Al.move w s p.1 with
    | none =>
      rw [hm] at h
      obtain ⟨q, s', h1, h2, h3, h4⟩ := nx_some h
      refine ⟨q, s', List.mem_cons_of_mem _ h1, h2, ?_, fun x hx => List.mem_cons_of_mem _ (h4 x hx)⟩
      unfold mvs at h3 ⊢
      rw [List.filterMap_cons, hm]
      exact h3
    | some q =>
      rw [hm] at h
      obtain ⟨r, s'⟩ := q
      simp only [Option.some.injEq, Prod.mk.injEq] at h
      obtain ⟨rfl, rfl⟩ := h
      have hr : r = p.1 := by
        unfold Al.move at hm
        split at hm
        · cases hn : Al.nextOf (Al.byLeft w s) s p.1 with
          | none => rw [hn] at hm; cases hm
          | some n => rw [hn] at hm; cases hm; rfl
        · cases hm
      refine ⟨p, s', List.mem_cons_self, rfl, ?_, fun x hx => List.mem_cons_of_mem _ hx⟩
      unfold mvs
      rw [List.filterMap_cons, hm, hr]

end Go.Proofs.YthibphklchalkaaGreatDoor
