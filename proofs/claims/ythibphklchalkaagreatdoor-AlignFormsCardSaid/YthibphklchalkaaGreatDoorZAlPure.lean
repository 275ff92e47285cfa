/-
  Bringing two words to one form, plainly: the moves, the least cost, the first of the cheapest derivations. NO PROGRAM IN THIS TEXT.
-/
import Derived.Test.YthibphklchalkaaGreatDoorZRewPure
namespace Al

def endless : Int := 1099511627776

structure R where
  index : Nat
  cost : Int
  from_ : List (List UInt8)
  to_ : List UInt8
deriving DecidableEq

structure Side where
  letters : List (List UInt8)
  rules : List R

def rulesFrom (k : Int) : Nat → List Rw.Rule → List R
  | _, [] => []
  | i, r :: l =>
    if r.script = k then
      match Sc.lets k r.from_ with
      | some f => ⟨i, r.cost, f, r.to_⟩ :: rulesFrom k (i + 1) l
      | none => rulesFrom k (i + 1) l
    else rulesFrom k (i + 1) l

def side (t : List Rw.Rule) (k : Int) (word : List UInt8) : Option Side :=
  match Sc.lets k word with
  | none => none
  | some _ =>
    match Sc.lets k (Sc.fold word) with
    | none => none
    | some l => some ⟨l, rulesFrom k 0 t⟩

def fits (letters : List (List UInt8)) (r : R) (at_ : Nat) : Bool :=
  decide (at_ + r.from_.length ≤ letters.length) && decide ((letters.drop at_).take r.from_.length = r.from_)

structure St where
  i : Nat
  j : Nat
  ahead : List UInt8
  right : Bool
deriving DecidableEq

structure Ws where
  left : Side
  right : Side

def zero : St := ⟨0, 0, [], false⟩

def done (w : Ws) (s : St) : Bool := decide (s.i = w.left.letters.length) && decide (s.j = w.right.letters.length) && s.ahead.isEmpty
def byLeft (w : Ws) (s : St) : Bool := s.right || (s.ahead.isEmpty && decide (s.i < w.left.letters.length))

def nextOf (left : Bool) (s : St) (r : R) : Option St :=
  let i := if left then s.i + r.from_.length else s.i
  let j := if left then s.j else s.j + r.from_.length
  if r.to_.isPrefixOf s.ahead then some ⟨i, j, s.ahead.drop r.to_.length, s.right && !(s.ahead.drop r.to_.length).isEmpty⟩
  else if s.ahead.isPrefixOf r.to_ then some ⟨i, j, r.to_.drop s.ahead.length, !left⟩
  else none

def one (w : Ws) (s : St) : Side := if byLeft w s then w.left else w.right
def at_ (w : Ws) (s : St) : Nat := if byLeft w s then s.i else s.j

def move (w : Ws) (s : St) (r : R) : Option (R × St) :=
  if fits (one w s).letters r (at_ w s) then (nextOf (byLeft w s) s r).map (fun n => (r, n)) else none
def moves (w : Ws) (s : St) : List (R × St) := (one w s).rules.filterMap (move w s)

def costF (w : Ws) : Nat → St → Int
  | 0, _ => endless
  | n + 1, s => (moves w s).foldl (fun h p => min h (p.1.cost + costF w n p.2)) (if done w s then 0 else endless)

def meas (w : Ws) (s : St) : Nat := (w.left.letters.length - s.i) + (w.right.letters.length - s.j)
def cost (w : Ws) (s : St) : Int := costF w (meas w s + 1) s

/-- the rules rewrite letters, and cost something -/
structure Side.Good (S : Side) : Prop where
  some_ : ∀ r ∈ S.rules, r.from_ ≠ []
  cost : ∀ r ∈ S.rules, 0 ≤ r.cost ∧ r.cost ≤ 1000
  index : S.rules.Pairwise (fun a b => a.index < b.index)

structure Ws.Good (w : Ws) : Prop where
  left : w.left.Good
  right : w.right.Good

variable {w : Ws} {s s' : St} {r : R}

theorem Ws.Good.one (h : w.Good) (s : St) : (Al.one w s).Good := by
  unfold Al.one; split
  · exact h.left
  · exact h.right

theorem mem_moves : (r, s') ∈ moves w s ↔ r ∈ (one w s).rules ∧ fits (one w s).letters r (at_ w s) = true ∧ nextOf (byLeft w s) s r = some s' := by
  unfold moves
  rw [List.mem_filterMap]
  constructor
  · rintro ⟨q, hq, h⟩
    unfold move at h
    split at h
    · rename_i hf
      cases hn : nextOf (byLeft w s) s q with
      | none => rw [hn] at h; cases h
      | some n => rw [hn] at h; cases h; exact ⟨hq, hf, hn⟩
    · cases h
  · rintro ⟨h1, h2, h3⟩
    exact ⟨r, h1, by unfold move; rw [if_pos h2, h3]; rfl⟩

theorem nextOf_ij {l : Bool} (h : nextOf l s r = some s') : s'.i = (if l then s.i + r.from_.length else s.i) ∧ s'.j = (if l then s.j else s.j + r.from_.length) := by
  unfold nextOf at h
  simp only at h
  split at h
  · cases h; exact ⟨rfl, rfl⟩
  · split at h
    · cases h; exact ⟨rfl, rfl⟩
    · cases h

theorem fits_le {l : List (List UInt8)} {k : Nat} (h : fits l r k = true) : k + r.from_.length ≤ l.length := by
  unfold fits at h
  rw [Bool.and_eq_true, decide_eq_true_eq] at h
  exact h.1

/-- a place within both words -/
def Within (w : Ws) (s : St) : Prop := s.i ≤ w.left.letters.length ∧ s.j ≤ w.right.letters.length ∧ (s.right = true → s.ahead ≠ [])

theorem within_zero : Within w zero := ⟨Nat.zero_le _, Nat.zero_le _, by simp [zero]⟩

theorem move_step (hw : w.Good) (h : (r, s') ∈ moves w s) (hs : Within w s) : Within w s' ∧ meas w s' < meas w s ∧ (s.i < s'.i ↔ byLeft w s = true) := by
  obtain ⟨h1, h2, h3⟩ := mem_moves.1 h
  have hn := (hw.one s).some_ r h1
  have hn' : 0 < r.from_.length := List.length_pos_iff.2 hn
  have hle := fits_le h2
  obtain ⟨a, b⟩ := nextOf_ij h3
  obtain ⟨u1, u2, u3⟩ := hs
  have hr : s'.right = true → s'.ahead ≠ [] := by
    unfold nextOf at h3
    simp only at h3
    split at h3
    · cases h3; simp
    · split at h3
      · rename_i hp hq
        cases h3
        intro _ he
        simp only [List.drop_eq_nil_iff] at he
        rw [List.isPrefixOf_iff_prefix] at hq
        have := hq.eq_of_length_le he
        rw [← this] at hp
        simp at hp
      · cases h3
  unfold Within meas
  unfold one at_ at hle
  cases hb : byLeft w s with
  | true =>
    rw [hb] at a b hle
    simp only [if_pos] at a b hle
    refine ⟨⟨by omega, by omega, hr⟩, by omega, by simp; omega⟩
  | false =>
    rw [hb] at a b hle
    simp only [Bool.false_eq_true, if_false] at a b hle
    refine ⟨⟨by omega, by omega, hr⟩, by omega, by simp; omega⟩

theorem foldl_congr_mem {α β : Type} {f g : β → α → β} : ∀ {l : List α} {b : β}, (∀ b, ∀ a ∈ l, f b a = g b a) → l.foldl f b = l.foldl g b
  | [], _, _ => rfl
  | x :: l, b, h => by
    rw [List.foldl_cons, List.foldl_cons, h b x List.mem_cons_self]
    exact foldl_congr_mem (fun b a ha => h b a (List.mem_cons_of_mem _ ha))

theorem costF_stable (hw : w.Good) : ∀ (n m : Nat) (s : St), Within w s → meas w s < n → meas w s < m → costF w n s = costF w m s
  | 0, _, _, _, h, _ => by omega
  | _, 0, _, _, _, h => by omega
  | n + 1, m + 1, s, hs, h1, h2 => by
    unfold costF
    refine foldl_congr_mem (fun b p hp => ?_)
    obtain ⟨r, s'⟩ := p
    obtain ⟨a, b', _⟩ := move_step hw hp hs
    rw [costF_stable hw n m s' a (by omega) (by omega)]

/-- the least cost over the moves so far -/
def least (w : Ws) (l : List (R × St)) (h : Int) : Int := l.foldl (fun h p => min h (p.1.cost + cost w p.2)) h
def start (w : Ws) (s : St) : Int := if done w s then 0 else endless

theorem cost_eq (hw : w.Good) (hs : Within w s) : cost w s = least w (moves w s) (start w s) := by
  unfold cost least start
  rw [costF]
  refine foldl_congr_mem (fun b p hp => ?_)
  obtain ⟨r, s'⟩ := p
  obtain ⟨a, b', _⟩ := move_step hw hp hs
  show min b (r.cost + costF w (meas w s) s') = min b (r.cost + costF w (meas w s' + 1) s')
  rw [costF_stable hw _ _ s' a b' (Nat.lt_succ_self _)]

theorem least_le : ∀ (l : List (R × St)) (h : Int), least w l h ≤ h
  | [], _ => Int.le_refl _
  | p :: l, h => by
    unfold least
    rw [List.foldl_cons]
    exact Int.le_trans (least_le l _) (Int.min_le_left _ _)

theorem least_mem : ∀ (l : List (R × St)) (h : Int), (r, s') ∈ l → least w l h ≤ r.cost + cost w s'
  | p :: l, h, hm => by
    unfold least
    rw [List.foldl_cons]
    rcases List.mem_cons.1 hm with rfl | hm
    · exact Int.le_trans (least_le l _) (Int.min_le_right _ _)
    · exact least_mem l _ hm

theorem least_is : ∀ (l : List (R × St)) (h : Int), least w l h = h ∨ ∃ p ∈ l, least w l h = p.1.cost + cost w p.2
  | [], _ => .inl rfl
  | p :: l, h => by
    have e : least w (p :: l) h = least w l (min h (p.1.cost + cost w p.2)) := by unfold least; rw [List.foldl_cons]
    rw [e]
    rcases least_is l (min h (p.1.cost + cost w p.2)) with h1 | ⟨q, hq, h1⟩
    · rw [h1]
      rcases Int.le_total h (p.1.cost + cost w p.2) with h2 | h2
      · exact .inl (Int.min_eq_left h2)
      · exact .inr ⟨p, List.mem_cons_self, Int.min_eq_right h2⟩
    · exact .inr ⟨q, List.mem_cons_of_mem _ hq, h1⟩

theorem cost_le (hw : w.Good) (hs : Within w s) : cost w s ≤ endless := by
  rw [cost_eq hw hs]
  refine Int.le_trans (least_le _ _) ?_
  unfold start endless
  split <;> omega

theorem cost_nonneg (hw : w.Good) : ∀ (n : Nat) (s : St), meas w s ≤ n → Within w s → 0 ≤ cost w s := by
  intro n
  induction n with
  | zero =>
    intro s hn hs
    rw [cost_eq hw hs]
    rcases least_is (w := w) (moves w s) (start w s) with h | ⟨⟨r, s'⟩, hp, h⟩
    · rw [h]; unfold start endless; split <;> omega
    · obtain ⟨_, b, _⟩ := move_step hw hp hs; omega
  | succ n ih =>
    intro s hn hs
    rw [cost_eq hw hs]
    rcases least_is (w := w) (moves w s) (start w s) with h | ⟨⟨r, s'⟩, hp, h⟩
    · rw [h]; unfold start endless; split <;> omega
    · obtain ⟨a, b, _⟩ := move_step hw hp hs
      have := ih s' (by omega) a
      have := ((hw.one s).cost r (mem_moves.1 hp).1).1
      rw [h]; simp only; omega

/-! ## Lists of rules that rewrite a word -/

def written (S : Side) : Nat → List Int → Option (List UInt8 × Int)
  | k, [] => if k = S.letters.length then some ([], 0) else none
  | k, i :: l =>
    match S.rules.find? (fun r => (r.index : Int) == i) with
    | none => none
    | some r => if fits S.letters r k then (written S (k + r.from_.length) l).map (fun p => (r.to_ ++ p.1, r.cost + p.2)) else none

theorem written_cons {S : Side} {k : Nat} {i : Int} {l : List Int} {f : List UInt8} {c : Int} (h : written S k (i :: l) = some (f, c)) :
    ∃ r f' c', S.rules.find? (fun r => (r.index : Int) == i) = some r ∧ r ∈ S.rules ∧ fits S.letters r k = true ∧ written S (k + r.from_.length) l = some (f', c') ∧ f = r.to_ ++ f' ∧ c = r.cost + c' := by
  unfold written at h
  split at h
  · cases h
  · rename_i r hr
    split at h
    · rename_i hf
      cases hw : written S (k + r.from_.length) l with
      | none => rw [hw] at h; cases h
      | some p => rw [hw] at h; cases h; exact ⟨r, p.1, p.2, hr, List.mem_of_find?_eq_some hr, hf, hw, rfl, rfl⟩
    · cases h

theorem written_nil {S : Side} {k : Nat} {f : List UInt8} {c : Int} (h : written S k [] = some (f, c)) : k = S.letters.length ∧ f = [] ∧ c = 0 := by
  unfold written at h
  split at h
  · rename_i hk; cases h; exact ⟨hk, rfl, rfl⟩
  · cases h

/-- what the rest of both forms has in common -/
def Rel (s : St) (f g : List UInt8) : Prop := if s.right then f = s.ahead ++ g else g = s.ahead ++ f

/-- EVERY PAIR OF DERIVATIONS OF ONE FORM COSTS AT LEAST THIS -/
theorem complete (hw : w.Good) : ∀ (n : Nat) (s : St) (dl dr : List Int) (f g : List UInt8) (m k : Int), dl.length + dr.length ≤ n → Within w s → written w.left s.i dl = some (f, m) → written w.right s.j dr = some (g, k) → Rel s f g → cost w s ≤ m + k := by
  intro n
  induction n with
  | zero =>
    intro s dl dr f g m k hn hs hl hr hrel
    obtain rfl : dl = [] := List.length_eq_zero_iff.1 (by omega)
    obtain rfl : dr = [] := List.length_eq_zero_iff.1 (by omega)
    obtain ⟨e1, rfl, rfl⟩ := written_nil hl
    obtain ⟨e2, rfl, rfl⟩ := written_nil hr
    have ha : s.ahead = [] := by
      unfold Rel at hrel
      split at hrel <;> simpa using hrel.symm
    rw [cost_eq hw hs]
    refine Int.le_trans (least_le _ _) ?_
    unfold start done
    rw [ha, decide_eq_true e1, decide_eq_true e2]; simp
  | succ n ih =>
    intro s dl dr f g m k hn hs hl hr hrel
    cases hb : byLeft w s with
    | true =>
      have hone : one w s = w.left := by unfold one; rw [hb]; rfl
      have hat : at_ w s = s.i := by unfold at_; rw [hb]; rfl
      cases dl with
      | nil =>
        exfalso
        obtain ⟨e1, rfl, rfl⟩ := written_nil hl
        unfold byLeft at hb
        unfold Rel at hrel
        cases hsr : s.right with
        | true =>
          rw [hsr] at hrel
          simp only [if_pos] at hrel
          have := hs.2.2 hsr
          exact this (List.append_eq_nil_iff.1 hrel.symm).1
        | false =>
          rw [hsr] at hb
          simp at hb
          omega
      | cons i dl =>
        obtain ⟨r, f', c', hfi, hmem, hfit, hl', rfl, rfl⟩ := written_cons hl
        have key : ∃ s', nextOf true s r = some s' ∧ Rel s' f' g := by
          unfold Rel at hrel
          unfold nextOf
          simp only [if_pos]
          cases hp : r.to_.isPrefixOf s.ahead with
          | true =>
            rw [if_pos rfl]
            refine ⟨_, rfl, ?_⟩
            obtain ⟨q, hq⟩ := List.isPrefixOf_iff_prefix.1 hp
            unfold Rel
            simp only
            rw [← hq, List.drop_left]
            cases hsr : s.right with
            | true =>
              rw [hsr] at hrel
              simp only [if_pos] at hrel
              rw [← hq, List.append_assoc, List.append_cancel_left_eq] at hrel
              cases q with
              | nil => simp at hrel ⊢; exact hrel.symm
              | cons x q => simpa using hrel
            | false =>
              rw [hsr] at hrel
              simp only [Bool.false_eq_true, if_false] at hrel
              unfold byLeft at hb
              rw [hsr] at hb
              simp at hb
              have h1 := hq.trans hb.1
              simp at h1
              rw [h1.2]
              rw [hb.1, h1.1] at hrel
              simpa using hrel
          | false =>
            rw [if_neg (by simp)]
            have hpre : s.ahead <+: r.to_ := by
              cases hsr : s.right with
              | true =>
                rw [hsr] at hrel
                simp only [if_pos] at hrel
                rcases List.prefix_or_prefix_of_prefix (show s.ahead <+: r.to_ ++ f' from ⟨g, hrel.symm⟩) (List.prefix_append _ _) with h | h
                · exact h
                · rw [List.isPrefixOf_iff_prefix.2 h] at hp; cases hp
              | false =>
                unfold byLeft at hb
                rw [hsr] at hb
                simp at hb
                rw [hb.1]; exact List.nil_prefix
            rw [if_pos (List.isPrefixOf_iff_prefix.2 hpre)]
            refine ⟨_, rfl, ?_⟩
            obtain ⟨q, hq⟩ := hpre
            unfold Rel
            simp only [Bool.not_true, Bool.false_eq_true, if_false]
            rw [← hq, List.drop_left]
            cases hsr : s.right with
            | true =>
              rw [hsr] at hrel
              simp only [if_pos] at hrel
              rw [← hq, List.append_assoc, List.append_cancel_left_eq] at hrel
              exact hrel.symm
            | false =>
              rw [hsr] at hrel
              simp only [Bool.false_eq_true, if_false] at hrel
              unfold byLeft at hb
              rw [hsr] at hb
              simp at hb
              rw [hb.1] at hrel hq
              rw [hrel, ← hq]; simp
        obtain ⟨s', hn', hrel'⟩ := key
        have hm : (r, s') ∈ moves w s := mem_moves.2 ⟨by rw [hone]; exact hmem, by rw [hone, hat]; exact hfit, by rw [hb]; exact hn'⟩
        obtain ⟨hs', _, _⟩ := move_step hw hm hs
        obtain ⟨ei, ej⟩ := nextOf_ij hn'
        simp only [if_pos] at ei ej
        have := ih s' dl dr f' g c' k (by simp at hn; omega) hs' (by rw [ei]; exact hl') (by rw [ej]; exact hr) hrel'
        rw [cost_eq hw hs]
        have := least_mem (w := w) (moves w s) (start w s) hm
        omega
    | false =>
      have hone : one w s = w.right := by unfold one; rw [hb]; rfl
      have hat : at_ w s = s.j := by unfold at_; rw [hb]; rfl
      unfold byLeft at hb
      rw [Bool.or_eq_false_iff] at hb
      obtain ⟨hsr, hb2⟩ := hb
      have hrel0 := hrel
      unfold Rel at hrel
      rw [hsr] at hrel
      simp only [Bool.false_eq_true, if_false] at hrel
      cases dr with
      | nil =>
        obtain ⟨e2, rfl, rfl⟩ := written_nil hr
        have ha := (List.append_eq_nil_iff.1 hrel.symm).1
        rw [ha] at hb2
        simp at hb2
        cases dl with
        | nil =>
          exact ih s [] [] f [] m 0 (by simp) hs hl hr hrel0
        | cons i dl =>
          exfalso
          obtain ⟨r, f', c', hfi, hmem, hfit, hl', _, _⟩ := written_cons hl
          have := fits_le hfit
          have := List.length_pos_iff.2 (hw.left.some_ r hmem)
          omega
      | cons i dr =>
        obtain ⟨r, g', c', hfi, hmem, hfit, hr', rfl, rfl⟩ := written_cons hr
        have key : ∃ s', nextOf false s r = some s' ∧ Rel s' f g' := by
          unfold nextOf
          simp only [Bool.false_eq_true, if_false]
          cases hp : r.to_.isPrefixOf s.ahead with
          | true =>
            rw [if_pos rfl]
            refine ⟨_, rfl, ?_⟩
            obtain ⟨q, hq⟩ := List.isPrefixOf_iff_prefix.1 hp
            unfold Rel
            simp only [hsr, Bool.false_and, Bool.false_eq_true, if_false]
            rw [← hq, List.drop_left]
            rw [← hq, List.append_assoc, List.append_cancel_left_eq] at hrel
            exact hrel
          | false =>
            rw [if_neg (by simp)]
            have hpre : s.ahead <+: r.to_ := by
              rcases List.prefix_or_prefix_of_prefix (show s.ahead <+: r.to_ ++ g' from ⟨f, hrel.symm⟩) (List.prefix_append _ _) with h | h
              · exact h
              · rw [List.isPrefixOf_iff_prefix.2 h] at hp; cases hp
            rw [if_pos (List.isPrefixOf_iff_prefix.2 hpre)]
            refine ⟨_, rfl, ?_⟩
            obtain ⟨q, hq⟩ := hpre
            unfold Rel
            simp only [Bool.not_false, if_pos]
            rw [← hq, List.drop_left]
            rw [← hq, List.append_assoc, List.append_cancel_left_eq] at hrel
            exact hrel.symm
        obtain ⟨s', hn', hrel'⟩ := key
        have hb : byLeft w s = false := by unfold byLeft; rw [hsr, hb2]; rfl
        have hm : (r, s') ∈ moves w s := mem_moves.2 ⟨by rw [hone]; exact hmem, by rw [hone, hat]; exact hfit, by rw [hb]; exact hn'⟩
        obtain ⟨hs', _, _⟩ := move_step hw hm hs
        obtain ⟨ei, ej⟩ := nextOf_ij hn'
        simp only [Bool.false_eq_true, if_false] at ei ej
        have := ih s' dl dr f g' m c' (by simp at hn ⊢; omega) hs' (by rw [ei]; exact hl) (by rw [ej]; exact hr') hrel'
        rw [cost_eq hw hs]
        have := least_mem (w := w) (moves w s) (start w s) hm
        omega

end Al
