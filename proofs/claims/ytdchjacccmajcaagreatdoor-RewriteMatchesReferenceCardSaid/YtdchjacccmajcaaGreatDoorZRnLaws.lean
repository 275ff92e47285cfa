/-
  Chapter 10's laws, plainly: tables with their rules in the opposite order, with a further rule; lists of forms compared. NO PROGRAM IN THIS TEXT.
-/
import Derived.Test.YtdchjacccmajcaaGreatDoorZRnPure
import Derived.Test.YtdchjacccmajcaaGreatDoorZMPlain
namespace Rw

theorem allOk_iff {α : Type} {ok : α → Bool} {key : α → Int × List UInt8 × List UInt8} : ∀ {l : List α} {seen : List (Int × List UInt8 × List UInt8)}, allOk ok key l seen = true ↔ (∀ x ∈ l, ok x = true) ∧ (l.map key).Nodup ∧ ∀ x ∈ l, key x ∉ seen
  | [], seen => by simp [allOk]
  | x :: l, seen => by
    unfold allOk
    rw [Bool.and_eq_true, Bool.and_eq_true, allOk_iff (l := l), List.map_cons, List.nodup_cons]
    simp only [Bool.not_eq_true', List.mem_append, List.mem_cons, not_or]
    constructor
    · rintro ⟨⟨h1, h2⟩, h3, h4, h5⟩
      refine ⟨fun y hy => ?_, ⟨fun hm => ?_, h4⟩, fun y hy => ?_⟩
      · rcases hy with rfl | hy
        · exact h2
        · exact h3 y hy
      · obtain ⟨y, hy, e⟩ := List.mem_map.1 hm
        exact (h5 y hy).2.1 e
      · rcases hy with rfl | hy
        · intro hc; rw [← List.contains_iff_mem, h1] at hc; cases hc
        · exact (h5 y hy).1
    · rintro ⟨h1, ⟨h2, h3⟩, h4⟩
      refine ⟨⟨?_, h1 x (.inl rfl)⟩, fun y hy => h1 y (.inr hy), h3, fun y hy => ⟨h4 y (.inr hy), fun e => h2 (List.mem_map.2 ⟨y, hy, e⟩), by simp⟩⟩
      rw [Bool.eq_false_iff]
      intro hc
      exact h4 x (.inl rfl) (List.contains_iff_mem.1 hc)
theorem allOk_reverse {α : Type} (ok : α → Bool) (key : α → Int × List UInt8 × List UInt8) (l : List α) : allOk ok key l.reverse [] = allOk ok key l [] := by
  rw [Bool.eq_iff_iff, allOk_iff, allOk_iff]
  have h : (l.reverse.map key).Nodup ↔ (l.map key).Nodup := by rw [List.map_reverse]; exact (List.reverse_perm _).nodup_iff
  rw [h]
  simp
/-- the table with its rules in the opposite order -/
def back (t : Table) : Table := { t with rules := t.rules.reverse }
/-- with a further one -/
def backAnd (t : Table) (x : Rule) : Table := { t with rules := t.rules.reverse ++ [x] }
theorem back_valid (t : Table) : valid (back t) = valid t := by
  unfold valid back
  simp only [List.length_reverse, allOk_reverse]
  congr 6
  simp
theorem valid_all {t : Table} (h : valid t = true) : ∀ r ∈ t.rules, ruleOk r = true := by
  unfold valid at h
  simp only [Bool.and_eq_true] at h
  exact (allOk_iff.1 h.1.1.2).1
theorem valid_pos {t : Table} (h : valid t = true) : 0 < t.rules.length := by
  unfold valid at h
  simp only [Bool.and_eq_true, decide_eq_true_eq] at h
  exact List.length_pos_iff.2 h.1.1.1.1.1.1.1
theorem valid_80 {t : Table} (h : valid t = true) : t.rules.length ≤ 80 := by
  unfold valid at h
  simp only [Bool.and_eq_true, decide_eq_true_eq] at h
  exact h.1.1.1.1.1.1.2
theorem valid_ends {t : Table} (h : valid t = true) : t.ends.length ≤ 40 ∧ ∀ d ∈ t.ends, dropOk 4 d = true := by
  unfold valid dropsOk at h
  simp only [Bool.and_eq_true, decide_eq_true_eq] at h
  exact ⟨h.2.2, (allOk_iff.1 h.2.1).1⟩
theorem valid_drops {t : Table} (h : valid t = true) : t.drops.length ≤ 40 ∧ ∀ d ∈ t.drops, dropOk 12 d = true := by
  unfold valid dropsOk at h
  simp only [Bool.and_eq_true, decide_eq_true_eq] at h
  exact ⟨h.1.2.2, (allOk_iff.1 h.1.2.1).1⟩
theorem valid_costs {t : Table} (h : valid t = true) : isCost t.drop = true ∧ isCost t.order = true ∧ isCost t.initial = true := by
  unfold valid at h
  simp only [Bool.and_eq_true, decide_eq_true_eq] at h
  exact ⟨h.1.1.1.1.1.2, h.1.1.1.1.2, h.1.1.1.2⟩

end Rw
namespace Al
theorem rulesFrom_from (k : Int) : ∀ (l : List Rw.Rule) (i : Nat), ∀ r ∈ rulesFrom k i l, ∃ q ∈ l, q.script = k ∧ r.cost = q.cost ∧ r.to_ = q.to_ ∧ Sc.lets k q.from_ = some r.from_
  | [], _, r, h => by simp [rulesFrom] at h
  | x :: l, i, r, h => by
    have go : r ∈ rulesFrom k (i + 1) l → ∃ q ∈ x :: l, q.script = k ∧ r.cost = q.cost ∧ r.to_ = q.to_ ∧ Sc.lets k q.from_ = some r.from_ := fun h => by
      obtain ⟨q, h1, h2⟩ := rulesFrom_from k l (i + 1) r h
      exact ⟨q, List.mem_cons_of_mem _ h1, h2⟩
    unfold rulesFrom at h
    split at h
    · rename_i hk
      split at h
      · rename_i f hf
        rcases List.mem_cons.1 h with rfl | h
        · exact ⟨x, List.mem_cons_self, hk, rfl, rfl, hf⟩
        · exact go h
      · exact go h
    · exact go h
theorem rulesFrom_has (k : Int) {q : Rw.Rule} {f : List (List UInt8)} (hk : q.script = k) (hf : Sc.lets k q.from_ = some f) : ∀ (l : List Rw.Rule) (i : Nat), q ∈ l → ∃ r ∈ rulesFrom k i l, r.cost = q.cost ∧ r.from_ = f ∧ r.to_ = q.to_
  | [], _, h => by cases h
  | x :: l, i, h => by
    unfold rulesFrom
    rcases List.mem_cons.1 h with rfl | h
    · rw [if_pos hk, hf]
      exact ⟨_, List.mem_cons_self, rfl, rfl, rfl⟩
    · obtain ⟨r, h1, h2⟩ := rulesFrom_has k hk hf l (i + 1) h
      split
      · split
        · exact ⟨r, List.mem_cons_of_mem _ h1, h2⟩
        · exact ⟨r, h1, h2⟩
      · exact ⟨r, h1, h2⟩
/-- rules of a greater table -/
theorem rulesFrom_sub (k : Int) {l m : List Rw.Rule} (i j : Nat) (h : ∀ q ∈ l, q ∈ m) : ∀ r ∈ rulesFrom k i l, ∃ r' ∈ rulesFrom k j m, r'.cost = r.cost ∧ r'.from_ = r.from_ ∧ r'.to_ = r.to_ := by
  intro r hr
  obtain ⟨q, h1, h2, h3, h4, h5⟩ := rulesFrom_from k l i r hr
  obtain ⟨r', h6, h7, h8, h9⟩ := rulesFrom_has k h2 h5 m j (h q h1)
  exact ⟨r', h6, by rw [h7, h3], h8, by rw [h9, h4]⟩
end Al
namespace Fo
section
variable {t : Rw.Table} {k : Int}
theorem alike_back (L : List (List UInt8)) (t : Rw.Table) (k : Int) : Alike L (Al.rulesFrom k 0 t.rules) (Al.rulesFrom k 0 (Rw.back t).rules) :=
  alike_of (Al.rulesFrom_sub k 0 0 fun _q hq => List.mem_reverse.2 hq) (Al.rulesFrom_sub k 0 0 fun _q hq => List.mem_reverse.1 hq)
theorem rules_other (t : Rw.Table) {x : Rw.Rule} {k : Int} (h : ¬ x.script = k) : Al.rulesFrom k 0 (Rw.backAnd t x).rules = Al.rulesFrom k 0 (Rw.back t).rules := by
  unfold Rw.backAnd Rw.back
  rw [Al.rulesFrom_append]
  simp [Al.rulesFrom, h]
theorem rules_and (t : Rw.Table) (x : Rw.Rule) (k : Int) : ∀ r ∈ Al.rulesFrom k 0 t.rules, ∃ r' ∈ Al.rulesFrom k 0 (Rw.backAnd t x).rules, r'.cost = r.cost ∧ r'.from_ = r.from_ ∧ r'.to_ = r.to_ :=
  Al.rulesFrom_sub k 0 0 fun _q hq => List.mem_append_left _ (List.mem_reverse.2 hq)
end
end Fo
namespace Fo
open Al (R fits)
/-- one rule more behind a beginning -/
theorem Pre.rule {t : Rw.Table} {k : Int} {L : List (List UInt8)} {q : Rw.Rule} {f : List (List UInt8)} {i : Nat} {g : List UInt8} {c : Int} (h : Pre L (Al.rulesFrom k 0 t.rules) i g c) (hq : q ∈ t.rules) (hk : q.script = k) (hf : Sc.lets k q.from_ = some f) (h1 : i + f.length ≤ L.length) (h2 : (L.drop i).take f.length = f) :
    Pre L (Al.rulesFrom k 0 t.rules) (i + f.length) (g ++ q.to_) (c + q.cost) := by
  obtain ⟨r, h3, h4, h5, h6⟩ := Al.rulesFrom_has k hk hf t.rules 0 hq
  have := Pre.snoc h h3 (by unfold Al.fits; rw [h5, decide_eq_true h1, decide_eq_true h2]; rfl)
  rw [h5, h6, h4] at this
  exact this
/-- the two lists of forms of two bounds -/
theorem forms_two {t : Rw.Table} {k : Int} {L : List (List UInt8)} (hv : Rw.valid t = true) {most m' : Int} {a b : List (List UInt8)} {m n : List Int} (h1 : Forms lt L (Al.rulesFrom k 0 t.rules) most a m) (h2 : Forms lt L (Al.rulesFrom k 0 t.rules) m' b n) (hm : most ≤ m') : a = (upTo most b n).1 ∧ m = (upTo most b n).2 :=
  Forms.uniq lt_irrefl lt_asymm (good_rules hv k) h1 (h2.upTo hm)
theorem upTo_nil (b : Int) (cs : List Int) : upTo b [] cs = ([], []) := by unfold upTo; rfl
/-- one entry more -/
theorem upTo_step {b : Int} : ∀ {fs : List (List UInt8)} {cs : List Int} {i : Nat} {f : List UInt8} {c : Int}, fs[i]? = some f → cs[i]? = some c →
    (upTo b (fs.take (i + 1)) (cs.take (i + 1))) = (if c ≤ b then ((upTo b (fs.take i) (cs.take i)).1 ++ [f], (upTo b (fs.take i) (cs.take i)).2 ++ [c]) else upTo b (fs.take i) (cs.take i))
  | [], _, i, f, c, h, _ => by simp at h
  | g :: fs, [], i, f, c, _, h => by simp at h
  | g :: fs, d :: cs, 0, f, c, h1, h2 => by
    simp only [List.getElem?_cons_zero, Option.some.injEq] at h1 h2
    subst h1; subst h2
    simp only [Nat.zero_add, List.take_succ_cons, List.take_zero, upTo]
    split <;> rfl
  | g :: fs, d :: cs, i + 1, f, c, h1, h2 => by
    have := upTo_step (b := b) (fs := fs) (cs := cs) (i := i) (f := f) (c := c) (by simpa using h1) (by simpa using h2)
    simp only [List.take_succ_cons, upTo] at this ⊢
    rw [this]
    split <;> split <;> rfl
end Fo
