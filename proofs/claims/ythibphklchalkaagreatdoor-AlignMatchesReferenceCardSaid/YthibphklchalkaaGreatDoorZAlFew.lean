/-
  A valid table's sides are of a moderate size. Plain.
-/
import Derived.Test.YthibphklchalkaaGreatDoorZAl7
import Derived.Test.YthibphklchalkaaGreatDoorZAl5
namespace Rw
theorem allOk_mem {α : Type} {ok : α → Bool} {key : α → Int × List UInt8 × List UInt8} : ∀ {l : List α} {seen : List (Int × List UInt8 × List UInt8)}, allOk ok key l seen = true → ∀ x ∈ l, ok x = true
  | [], _, _, x, h => by cases h
  | y :: l, seen, h, x, hx => by
    unfold allOk at h
    rw [Bool.and_eq_true, Bool.and_eq_true] at h
    rcases List.mem_cons.1 hx with rfl | hx
    · exact h.1.2
    · exact allOk_mem h.2 x hx

theorem valid_rules {t : Table} (h : valid t = true) : t.rules.length ≤ 80 ∧ ∀ r ∈ t.rules, ruleOk r = true := by
  unfold valid at h
  simp only [Bool.and_eq_true, decide_eq_true_eq] at h
  exact ⟨h.1.1.1.1.1.1.2, allOk_mem h.1.1.2⟩
end Rw
namespace Al

theorem rulesFrom_mem (k : Int) : ∀ (l : List Rw.Rule) (i : Nat), ∀ r ∈ rulesFrom k i l, (∃ q ∈ l, r.cost = q.cost ∧ r.to_ = q.to_ ∧ Sc.lets k q.from_ = some r.from_) ∧ i ≤ r.index ∧ r.index < i + l.length
  | [], _, r, h => by simp [rulesFrom] at h
  | x :: l, i, r, h => by
    have go : r ∈ rulesFrom k (i + 1) l → (∃ q ∈ x :: l, r.cost = q.cost ∧ r.to_ = q.to_ ∧ Sc.lets k q.from_ = some r.from_) ∧ i ≤ r.index ∧ r.index < i + (x :: l).length := fun h => by
      obtain ⟨⟨q, h1, h2⟩, h3, h4⟩ := rulesFrom_mem k l (i + 1) r h
      exact ⟨⟨q, List.mem_cons_of_mem _ h1, h2⟩, by omega, by simp; omega⟩
    unfold rulesFrom at h
    split at h
    · split at h
      · rename_i f hf
        rcases List.mem_cons.1 h with rfl | h
        · exact ⟨⟨x, List.mem_cons_self, rfl, rfl, hf⟩, Nat.le_refl _, by simp⟩
        · exact go h
      · exact go h
    · exact go h

theorem rulesFrom_sorted (k : Int) : ∀ (l : List Rw.Rule) (i : Nat), (rulesFrom k i l).Pairwise (fun a b => a.index < b.index)
  | [], _ => by simp [rulesFrom]
  | x :: l, i => by
    unfold rulesFrom
    split
    · split
      · rw [List.pairwise_cons]
        refine ⟨fun r h => ?_, rulesFrom_sorted k l _⟩
        have := (rulesFrom_mem k l (i + 1) r h).2.1
        simp only; omega
      · exact rulesFrom_sorted k l _
    · exact rulesFrom_sorted k l _

theorem rulesFrom_len (k : Int) : ∀ (l : List Rw.Rule) (i : Nat), (rulesFrom k i l).length ≤ l.length
  | [], _ => by simp [rulesFrom]
  | x :: l, i => by
    have := rulesFrom_len k l (i + 1)
    unfold rulesFrom
    split
    · split
      · simp only [List.length_cons]; omega
      · simp only [List.length_cons]; omega
    · simp only [List.length_cons]; omega

theorem side_good {t : Rw.Table} (hv : Rw.valid t = true) {k : Int} {x : List UInt8} {S : Side} (h : side t.rules k x = some S) :
    S.Good ∧ S.letters.length ≤ 12 ∧ S.rules.length ≤ 80 ∧ ∀ r ∈ S.rules, r.from_.length ≤ 12 ∧ r.to_.length ≤ 3 := by
  obtain ⟨h1, h2⟩ := Go.Proofs.YthibphklchalkaaGreatDoor.side_rules h
  obtain ⟨v1, v2⟩ := Rw.valid_rules hv
  have key : ∀ r ∈ S.rules, (0 ≤ r.cost ∧ r.cost ≤ 1000) ∧ r.from_ ≠ [] ∧ r.from_.length ≤ 12 ∧ r.to_.length ≤ 3 := fun r hr => by
    rw [h1] at hr
    obtain ⟨⟨q, hq, e1, e2, e3⟩, _⟩ := rulesFrom_mem k _ _ r hr
    have ho := v2 q hq
    unfold Rw.ruleOk Rw.isForm Rw.isCost at ho
    simp only [Bool.and_eq_true, decide_eq_true_eq] at ho
    obtain ⟨l1, l2⟩ := Sc.lets_len e3
    exact ⟨⟨by omega, by omega⟩, l1, l2, by rw [e2]; exact ho.1.2.1⟩
  refine ⟨⟨fun r hr => (key r hr).2.1, fun r hr => (key r hr).1, by rw [h1]; exact rulesFrom_sorted k _ _⟩, (Sc.lets_len h2).2, ?_, fun r hr => (key r hr).2.2⟩
  rw [h1]
  exact Nat.le_trans (rulesFrom_len k _ _) v1

/-- the cheapest way from here on, one step -/
theorem path_done {w : Ws} {s : St} (h : done w s = true) (n : Nat) : path w n s = [] := by
  cases n with
  | zero => rfl
  | succ n => unfold path; rw [if_pos h]

theorem path_next {w : Ws} {s s' : St} {r : R} (h : done w s = false) (hp : pick w s = some (r, s')) (n : Nat) : path w (n + 1) s = (decide (s.i < s'.i), r) :: path w n s' := by
  rw [path, h, hp]; simp

end Al
namespace Go.Proofs.YthibphklchalkaaGreatDoor
theorem few_valid {t : Rw.Table} (hv : Rw.valid t = true) {a b : Int} {x y : List UInt8} {S1 S2 : Al.Side} (h1 : Al.side t.rules a x = some S1) (h2 : Al.side t.rules b y = some S2) : Few ⟨S1, S2⟩ := by
  obtain ⟨g1, l1, n1, z1⟩ := Al.side_good hv h1
  obtain ⟨g2, l2, n2, z2⟩ := Al.side_good hv h2
  refine ⟨⟨g1, g2⟩, ⟨l1, l2⟩, by rw [List.length_append]; show S1.rules.length + S2.rules.length ≤ 200; omega, fun r hr => ?_⟩
  rcases List.mem_append.1 hr with h | h
  · have := z1 r h; omega
  · have := z2 r h; omega
end Go.Proofs.YthibphklchalkaaGreatDoor
