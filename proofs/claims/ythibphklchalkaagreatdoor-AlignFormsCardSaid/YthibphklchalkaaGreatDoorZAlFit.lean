/-
  The states within two words are few; the moves that remain. Plain.
-/
import Derived.Test.YthibphklchalkaaGreatDoorZAlKey
namespace Al

/-- what may be ahead -/
def aheads (w : Ws) : List (List UInt8) := [] :: (w.left.rules ++ w.right.rules).flatMap (fun r => (List.range (r.to_.length + 1)).map (fun n => r.to_.drop n))

theorem mem_aheads {w : Ws} {a : List UInt8} : a ∈ aheads w ↔ a = [] ∨ ∃ r ∈ w.left.rules ++ w.right.rules, ∃ n, a = r.to_.drop n := by
  unfold aheads
  rw [List.mem_cons, List.mem_flatMap]
  constructor
  · rintro (h | ⟨r, hr, h⟩)
    · exact .inl h
    · rw [List.mem_map] at h
      obtain ⟨n, _, rfl⟩ := h
      exact .inr ⟨r, hr, n, rfl⟩
  · rintro (h | ⟨r, hr, n, rfl⟩)
    · exact .inl h
    · by_cases hn : n ≤ r.to_.length
      · exact .inr ⟨r, hr, List.mem_map.2 ⟨n, List.mem_range.2 (by omega), rfl⟩⟩
      · exact .inl (List.drop_eq_nil_of_le (by omega))

theorem aheads_drop {w : Ws} {a : List UInt8} (n : Nat) (h : a ∈ aheads w) : a.drop n ∈ aheads w := by
  rw [mem_aheads] at h ⊢
  rcases h with rfl | ⟨r, hr, m, rfl⟩
  · exact .inl (by simp)
  · exact .inr ⟨r, hr, m + n, by rw [List.drop_drop]⟩

def Ok (w : Ws) (s : St) : Prop := Within w s ∧ s.ahead ∈ aheads w

theorem ok_zero {w : Ws} : Ok w zero := ⟨within_zero, by rw [mem_aheads]; exact .inl rfl⟩

theorem one_rules {w : Ws} {s : St} {r : R} (h : r ∈ (one w s).rules) : r ∈ w.left.rules ++ w.right.rules := by
  unfold one at h
  rw [List.mem_append]
  split at h
  · exact .inl h
  · exact .inr h

theorem ok_step {w : Ws} (hw : w.Good) {s s' : St} {r : R} (h : (r, s') ∈ moves w s) (hs : Ok w s) : Ok w s' := by
  refine ⟨(move_step hw h hs.1).1, ?_⟩
  obtain ⟨h1, _, h3⟩ := mem_moves.1 h
  unfold nextOf at h3
  simp only at h3
  split at h3
  · cases h3; exact aheads_drop _ hs.2
  · split at h3
    · cases h3
      rw [mem_aheads]
      exact .inr ⟨r, one_rules h1, _, rfl⟩
    · cases h3

/-- all states -/
def states (w : Ws) : List St :=
  (List.range (w.left.letters.length + 1)).flatMap fun i => (List.range (w.right.letters.length + 1)).flatMap fun j => (aheads w).flatMap fun a => [⟨i, j, a, true⟩, ⟨i, j, a, false⟩]

theorem mem_states {w : Ws} {s : St} (h : Ok w s) : s ∈ states w := by
  obtain ⟨⟨h1, h2, _⟩, h3⟩ := h
  obtain ⟨i, j, a, r⟩ := s
  unfold states
  simp only [List.mem_flatMap, List.mem_range]
  refine ⟨i, by simp only at h1; omega, j, by simp only at h2; omega, a, h3, ?_⟩
  cases r <;> simp

theorem flat_le {α β : Type} (f : α → List β) (c : Nat) : ∀ (l : List α), (∀ x ∈ l, (f x).length ≤ c) → (l.flatMap f).length ≤ l.length * c
  | [], _ => by simp
  | x :: l, h => by
    rw [List.flatMap_cons, List.length_append, List.length_cons, Nat.succ_mul]
    have := h x List.mem_cons_self
    have := flat_le f c l (fun y hy => h y (List.mem_cons_of_mem _ hy))
    omega

theorem states_few {w : Ws} (h1 : w.left.letters.length ≤ 12) (h2 : w.right.letters.length ≤ 12) (h3 : (w.left.rules ++ w.right.rules).length ≤ 200) (h4 : ∀ r ∈ w.left.rules ++ w.right.rules, r.to_.length ≤ 1000) :
    (states w).length ≤ 100000000 := by
  have ha : (aheads w).length ≤ 200201 := by
    unfold aheads
    rw [List.length_cons]
    have := flat_le (fun r : R => (List.range (r.to_.length + 1)).map (fun n => r.to_.drop n)) 1001 (w.left.rules ++ w.right.rules) (fun r hr => by
      have := h4 r hr
      simp only [List.length_map, List.length_range]; omega)
    have h5 : (w.left.rules ++ w.right.rules).length * 1001 ≤ 200 * 1001 := Nat.mul_le_mul_right _ h3
    omega
  have e1 : ∀ i j : Nat, ((aheads w).flatMap fun a => [(⟨i, j, a, true⟩ : St), ⟨i, j, a, false⟩]).length ≤ 400402 := fun i j => by
    have := flat_le (fun a => [(⟨i, j, a, true⟩ : St), ⟨i, j, a, false⟩]) 2 (aheads w) (fun _ _ => by simp)
    omega
  have e2 : ∀ i : Nat, ((List.range (w.right.letters.length + 1)).flatMap fun j => (aheads w).flatMap fun a => [(⟨i, j, a, true⟩ : St), ⟨i, j, a, false⟩]).length ≤ 13 * 400402 := fun i => by
    have := flat_le (fun j => (aheads w).flatMap fun a => [(⟨i, j, a, true⟩ : St), ⟨i, j, a, false⟩]) 400402 (List.range (w.right.letters.length + 1)) (fun j _ => e1 i j)
    rw [List.length_range] at this
    exact Nat.le_trans this (Nat.mul_le_mul_right _ (by omega))
  have := flat_le (fun i => (List.range (w.right.letters.length + 1)).flatMap fun j => (aheads w).flatMap fun a => [(⟨i, j, a, true⟩ : St), ⟨i, j, a, false⟩]) (13 * 400402) (List.range (w.left.letters.length + 1)) (fun i _ => e2 i)
  rw [List.length_range] at this
  have h5 : (w.left.letters.length + 1) * (13 * 400402) ≤ 13 * (13 * 400402) := Nat.mul_le_mul_right _ (by omega)
  unfold states
  omega

/-- states, with all that can be reached from them -/
structure Closed (w : Ws) (K : List St) : Prop where
  ok : ∀ s ∈ K, Ok w s
  on : ∀ s ∈ K, ∀ p ∈ moves w s, p.2 ∈ K
  once : K.Nodup

theorem Closed.few {w : Ws} {K : List St} (h : Closed w K) (h1 : w.left.letters.length ≤ 12) (h2 : w.right.letters.length ≤ 12) (h3 : (w.left.rules ++ w.right.rules).length ≤ 200) (h4 : ∀ r ∈ w.left.rules ++ w.right.rules, r.to_.length ≤ 1000) :
    K.length ≤ 100000000 :=
  Nat.le_trans (Go.Proofs.YthibphklchalkaaGreatDoor.nodup_le h.once (fun x hx => mem_states (h.ok x hx))) (states_few h1 h2 h3 h4)

theorem aheads_len {w : Ws} (h4 : ∀ r ∈ w.left.rules ++ w.right.rules, r.to_.length ≤ 1000) {a : List UInt8} (h : a ∈ aheads w) : a.length ≤ 1000 := by
  rcases mem_aheads.1 h with rfl | ⟨r, hr, n, rfl⟩
  · simp
  · have := h4 r hr
    rw [List.length_drop]; omega

end Al
namespace Go.Proofs.YthibphklchalkaaGreatDoor
open Go.RowKit

/-- the moves that remain -/
def mvs (w : Al.Ws) (s : Al.St) (b : List (Al.R × Value)) : List (Al.R × Al.St) := b.filterMap fun p => Al.move w s p.1

theorem mvs_all {w : Al.Ws} {s : Al.St} {b : List (Al.R × Value)} (h : b.map Prod.fst = (Al.one w s).rules) : mvs w s b = Al.moves w s := by
  unfold mvs Al.moves
  rw [← h, List.filterMap_map]
  rfl

theorem nx_none {w : Al.Ws} {s : Al.St} : ∀ {b : List (Al.R × Value)}, nxMove w s b = none → mvs w s b = []
  | [], _ => rfl
  | p :: b, h => by
    unfold nxMove at h
    unfold mvs
    rw [List.filterMap_cons]
    cases hm : Al.move w s p.1 with
    | none => rw [hm] at h; exact nx_none h
    | some q => rw [hm] at h; cases h

theorem nx_some {w : Al.Ws} {s : Al.St} : ∀ {b b' : List (Al.R × Value)} {vals : Array Value}, nxMove w s b = some (vals, b') →
    ∃ p s', p ∈ b ∧ vals = #[ruleV p, stV s'] ∧ mvs w s b = (p.1, s') :: mvs w s b' ∧ ∀ q ∈ b', q ∈ b
  | [], _, _, h => by cases h
  | p :: b, b', vals, h => by
    unfold nxMove at h
    cases hm : Al.move w s p.1 with
    | none =>
      rw [hm] at h
      obtain ⟨q, s', h1, h2, h3, h4⟩ := nx_some h
      refine ⟨q, s', List.mem_cons_of_mem _ h1, h2, ?_, fun x hx => List.mem_cons_of_mem _ (h4 x hx)⟩
      unfold mvs at h3 ⊢
      rw [List.filterMap_cons, hm]
      exact h3
    | some q =>
      rw [hm] at h
      obtain ⟨r, s'⟩ := q
      simp only [Option.some.injEq, Prod.mk.injEq] at h
      obtain ⟨rfl, rfl⟩ := h
      have hr : r = p.1 := by
        unfold Al.move at hm
        split at hm
        · cases hn : Al.nextOf (Al.byLeft w s) s p.1 with
          | none => rw [hn] at hm; cases hm
          | some n => rw [hn] at hm; cases hm; rfl
        · cases hm
      refine ⟨p, s', List.mem_cons_self, rfl, ?_, fun x hx => List.mem_cons_of_mem _ hx⟩
      unfold mvs
      rw [List.filterMap_cons, hm, hr]

end Go.Proofs.YthibphklchalkaaGreatDoor
