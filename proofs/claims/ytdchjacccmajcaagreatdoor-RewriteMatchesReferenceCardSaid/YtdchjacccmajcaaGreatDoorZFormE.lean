/-
  The letters of words and rules of a valid table; sorted texts. Plain.
-/
import Derived.Test.YtdchjacccmajcaaGreatDoorZFormC
import Derived.Test.YtdchjacccmajcaaGreatDoorZMPlain
import Derived.Test.YtdchjacccmajcaaGreatDoorZMAlC
import Derived.Sort.KeysCollected
namespace Fo

theorem letters_side {rules : List Rw.Rule} {k : Int} {x : List UInt8} {S : Al.Side} (h : Al.side rules k x = some S) : S.letters = letters k x ∧ S.rules = Al.rulesFrom k 0 rules ∧ letters k x ≠ [] := by
  unfold Al.side at h
  unfold letters
  cases h1 : Sc.lets k x with
  | none => rw [h1] at h; cases h
  | some l1 =>
    rw [h1] at h
    simp only at h ⊢
    cases h2 : Sc.lets k (Sc.fold x) with
    | none => rw [h2] at h; cases h
    | some l =>
      rw [h2] at h
      simp only [Option.some.injEq] at h
      subst h
      exact ⟨rfl, rfl, (Sc.lets_len h2).1⟩
theorem side_letters (rules : List Rw.Rule) {k : Int} {x : List UInt8} (h : letters k x ≠ []) : ∃ S, Al.side rules k x = some S := by
  unfold letters at h
  unfold Al.side
  cases h1 : Sc.lets k x with
  | none => rw [h1] at h; exact absurd rfl h
  | some l1 =>
    rw [h1] at h
    simp only at h ⊢
    cases h2 : Sc.lets k (Sc.fold x) with
    | none => rw [h2] at h; exact absurd rfl h
    | some l => exact ⟨_, rfl⟩
theorem side_none (rules : List Rw.Rule) {k : Int} {x : List UInt8} (h : letters k x = []) : Al.side rules k x = none := by
  cases hs : Al.side rules k x with
  | none => rfl
  | some S => exact absurd h (letters_side hs).2.2
theorem letters_len (k : Int) (x : List UInt8) : (letters k x).length ≤ 12 := by
  unfold letters
  cases h1 : Sc.lets k x with
  | none => simp
  | some l1 =>
    simp only
    cases h2 : Sc.lets k (Sc.fold x) with
    | none => simp
    | some l => exact (Sc.lets_len h2).2
theorem letters_rule {d : Rw.Rule} (h : Rw.ruleOk d = true) : ∃ f, Sc.lets d.script d.from_ = some f ∧ letters d.script d.from_ = f ∧ f ≠ [] ∧ f.length ≤ 3 ∧ 0 ≤ d.cost ∧ d.cost ≤ 1000 := by
  unfold Rw.ruleOk Rw.isCost Rw.folded at h
  simp only [Bool.and_eq_true, decide_eq_true_eq] at h
  obtain ⟨⟨h1, -⟩, h2, h3⟩ := h
  cases hl : Sc.lets d.script d.from_ with
  | none => rw [hl] at h1; cases h1
  | some f =>
    rw [hl] at h1
    simp only [Bool.and_eq_true, decide_eq_true_eq] at h1
    refine ⟨f, rfl, ?_, (Sc.lets_len hl).1, by omega, h2, h3⟩
    unfold letters
    rw [hl, h1.1, hl]
    rfl
theorem good_rules {t : Rw.Table} (hv : Rw.valid t = true) (k : Int) : Good (Al.rulesFrom k 0 t.rules) := by
  obtain ⟨v1, v2⟩ := Rw.valid_rules hv
  refine ⟨fun r hr => ?_, fun r hr => ?_⟩
  · obtain ⟨⟨q, hq, e1, e2, e3⟩, _⟩ := Al.rulesFrom_mem k _ _ r hr
    exact List.length_pos_iff.2 (Sc.lets_len e3).1
  · obtain ⟨⟨q, hq, e1, e2, e3⟩, _⟩ := Al.rulesFrom_mem k _ _ r hr
    obtain ⟨f, -, -, -, -, h1, h2⟩ := letters_rule (v2 q hq)
    omega
theorem rules_step {l : List Rw.Rule} {n : Nat} {d : Rw.Rule} {f : List (List UInt8)} (h : l[n]? = some d) (hf : Sc.lets d.script d.from_ = some f) : Al.rulesFrom d.script 0 (l.take (n + 1)) = Al.rulesFrom d.script 0 (l.take n) ++ [⟨n, d.cost, f, d.to_⟩] := by
  rw [Al.rulesFrom_take d.script h]
  simp [Al.rulesFrom, hf]
theorem rules_pass {l : List Rw.Rule} {n : Nat} {d : Rw.Rule} {k : Int} (h : l[n]? = some d) (hk : ¬ d.script = k) : Al.rulesFrom k 0 (l.take (n + 1)) = Al.rulesFrom k 0 (l.take n) := by
  rw [Al.rulesFrom_take k h]
  simp [Al.rulesFrom, hk]
theorem rules_sub {l : List Rw.Rule} {n : Nat} {k : Int} : ∀ r ∈ Al.rulesFrom k 0 (l.take n), r ∈ Al.rulesFrom k 0 l := by
  intro r hr
  have : Al.rulesFrom k 0 l = Al.rulesFrom k 0 (l.take n) ++ Al.rulesFrom k (0 + (l.take n).length) (l.drop n) := by rw [← Al.rulesFrom_append, List.take_append_drop]
  rw [this]
  exact List.mem_append_left _ hr

/-- texts in order -/
def lt (a b : List UInt8) : Prop := a < b
theorem lt_irrefl (a : List UInt8) : ¬ lt a a := List.lt_irrefl a
theorem lt_trans (a b c : List UInt8) (h : lt a b) (g : lt b c) : lt a c := List.lt_trans h g
theorem lt_asymm (a b : List UInt8) (h : lt a b) : ¬ lt b a := List.lt_asymm h
theorem lt_other {a b : List UInt8} (h : ¬ a = b) (g : ¬ a < b) : lt b a := by
  have h1 : b ≤ a := List.not_lt.1 g
  rcases List.le_iff_lt_or_eq.1 h1 with h2 | h2
  · exact h2
  · exact absurd h2.symm h
theorem sorted_lt {ss : List (List UInt8)} (hn : ss.Nodup) : (ss.mergeSort (fun x y => decide (x ≤ y))).Pairwise lt := by
  have tr : ∀ a b c : List UInt8, Go.leB a b = true → Go.leB b c = true → Go.leB a c = true := fun a b c h1 h2 => by simp only [Go.leB, decide_eq_true_eq] at *; exact List.le_trans h1 h2
  have tot : ∀ a b : List UInt8, (Go.leB a b || Go.leB b a) = true := fun a b => by simp only [Go.leB, Bool.or_eq_true, decide_eq_true_eq]; exact List.le_total a b
  have h1 := List.pairwise_mergeSort tr tot ss
  have h2 : (ss.mergeSort Go.leB).Nodup := (List.mergeSort_perm ss Go.leB).nodup_iff.2 hn
  refine (h1.and h2).imp fun {a b} h => ?_
  have h3 : a ≤ b := by simpa [Go.leB] using h.1
  rcases List.le_iff_lt_or_eq.1 h3 with h4 | h4
  · exact h4
  · exact absurd h4 h.2
theorem sorted_mem (ss : List (List UInt8)) (x : List UInt8) : x ∈ ss.mergeSort (fun x y => decide (x ≤ y)) ↔ x ∈ ss := (List.mergeSort_perm ss _).mem_iff
theorem sorted_len (ss : List (List UInt8)) : (ss.mergeSort (fun x y => decide (x ≤ y))).length = ss.length := (List.mergeSort_perm ss _).length_eq

end Fo
