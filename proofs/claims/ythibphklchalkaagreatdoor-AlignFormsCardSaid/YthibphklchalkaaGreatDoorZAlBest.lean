/-
  The first of the cheapest derivations, plainly: that it is right; the laws. NO PROGRAM IN THIS TEXT.
-/
import Derived.Test.YthibphklchalkaaGreatDoorZAlPure
namespace Al

variable {w : Ws} {s s' : St} {r : R}

/-- the first move on a cheapest way -/
def pick (w : Ws) (s : St) : Option (R × St) := (moves w s).find? (fun p => p.1.cost + cost w p.2 == cost w s)

/-- the cheapest way: by the left side? and the rule -/
def path (w : Ws) : Nat → St → List (Bool × R)
  | 0, _ => []
  | n + 1, s =>
    if done w s then []
    else match pick w s with
      | none => []
      | some (r, s') => (decide (s.i < s'.i), r) :: path w n s'

def lefts (l : List (Bool × R)) : List R := (l.filter (fun p => p.1)).map (fun p => p.2)
def rights (l : List (Bool × R)) : List R := (l.filter (fun p => !p.1)).map (fun p => p.2)
def ints (l : List R) : List Int := l.map (fun r => (r.index : Int))
def form (l : List R) : List UInt8 := l.flatMap R.to_

theorem find_index {S : Side} (hS : S.Good) (hr : r ∈ S.rules) : S.rules.find? (fun q => (q.index : Int) == (r.index : Int)) = some r := by
  have key : ∀ (l : List R), l.Pairwise (fun a b => a.index < b.index) → r ∈ l → l.find? (fun q => (q.index : Int) == (r.index : Int)) = some r := by
    intro l
    induction l with
    | nil => intro _ h; simp at h
    | cons x l ih =>
      intro hp hm
      rw [List.pairwise_cons] at hp
      rcases List.mem_cons.1 hm with rfl | hm
      · simp
      · have := hp.1 r hm
        rw [List.find?_cons_of_neg (by simp; omega)]
        exact ih hp.2 hm
  exact key _ hS.index hr

theorem pick_some (hw : w.Good) (hs : Within w s) (hc : cost w s < endless) (hd : done w s = false) : ∃ p, pick w s = some p ∧ p ∈ moves w s ∧ p.1.cost + cost w p.2 = cost w s := by
  have h := cost_eq hw hs
  rcases least_is (w := w) (moves w s) (start w s) with h1 | ⟨p, hp, h1⟩
  · exfalso
    rw [h1] at h
    unfold start at h
    rw [hd] at h
    simp at h
    omega
  · cases hf : pick w s with
    | none =>
      unfold pick at hf
      rw [List.find?_eq_none] at hf
      exact absurd (by rw [h, h1]; simp) (hf p hp)
    | some q =>
      refine ⟨q, rfl, List.mem_of_find?_eq_some hf, ?_⟩
      simpa using List.find?_some hf

/-- WHAT BEST RETURNS IS RIGHT -/
theorem sound (hw : w.Good) : ∀ (n : Nat) (s : St), meas w s < n → Within w s → cost w s < endless →
    ∃ m k, written w.left s.i (ints (lefts (path w n s))) = some (form (lefts (path w n s)), m) ∧ written w.right s.j (ints (rights (path w n s))) = some (form (rights (path w n s)), k) ∧
      m + k = cost w s ∧ Rel s (form (lefts (path w n s))) (form (rights (path w n s))) := by
  intro n
  induction n with
  | zero => intro s h; omega
  | succ n ih =>
    intro s hn hs hc
    cases hd : done w s with
    | true =>
      have hd' := hd
      unfold done at hd'
      rw [Bool.and_eq_true, Bool.and_eq_true, decide_eq_true_eq, decide_eq_true_eq, List.isEmpty_iff] at hd'
      obtain ⟨⟨e1, e2⟩, e3⟩ := hd'
      have hp : path w (n + 1) s = [] := by unfold path; rw [hd]; rfl
      rw [hp]
      refine ⟨0, 0, ?_, ?_, ?_, ?_⟩
      · unfold written ints lefts; simp [form, e1]
      · unfold written ints rights; simp [form, e2]
      · have h0 := cost_nonneg hw (meas w s) s (Nat.le_refl _) hs
        have h1 := cost_eq hw hs
        have h2 := least_le (w := w) (moves w s) (start w s)
        unfold start at h2
        rw [hd] at h2
        simp only [if_pos] at h2
        unfold start at h1
        rw [hd] at h1
        simp only [if_pos] at h1
        omega
      · unfold Rel
        rw [e3]
        simp [form, lefts, rights]
    | false =>
      obtain ⟨⟨r, s'⟩, hpk, hm, hcs⟩ := pick_some hw hs hc hd
      obtain ⟨hs', hme, hlt⟩ := move_step hw hm hs
      obtain ⟨hmem, hfit, hnx⟩ := mem_moves.1 hm
      have hrc := (hw.one s).cost r hmem
      obtain ⟨m, k, i1, i2, i3, i4⟩ := ih s' (by omega) hs' (by simp only at hcs; omega)
      have hp : path w (n + 1) s = (decide (s.i < s'.i), r) :: path w n s' := by
        rw [path, hd, hpk]; simp
      generalize path w n s' = l at *
      obtain ⟨ei, ej⟩ := nextOf_ij hnx
      rw [hp]
      cases hb : byLeft w s with
      | true =>
        have hone : one w s = w.left := by unfold one; rw [hb]; rfl
        have hat : at_ w s = s.i := by unfold at_; rw [hb]; rfl
        rw [hone] at hmem hfit
        rw [hat] at hfit
        rw [hb] at ei ej hnx
        simp only [if_pos] at ei ej
        have hd1 : decide (s.i < s'.i) = true := decide_eq_true (hlt.2 hb)
        rw [hd1]
        have el : lefts ((true, r) :: l) = r :: lefts l := by simp [lefts]
        have er : rights ((true, r) :: l) = rights l := by simp [rights]
        rw [el, er]
        refine ⟨r.cost + m, k, ?_, ?_, ?_, ?_⟩
        · show written w.left s.i ((r.index : Int) :: ints (lefts l)) = _
          unfold written
          rw [find_index hw.left hmem]
          simp only
          rw [if_pos hfit, ← ei, i1]
          rfl
        · rw [← ej]; exact i2
        · simp only at hcs; omega
        · show Rel s (r.to_ ++ form (lefts l)) (form (rights l))
          generalize form (lefts l) = f at *
          generalize form (rights l) = g at *
          unfold nextOf at hnx
          simp only [if_pos] at hnx
          unfold Rel at i4 ⊢
          split at hnx
          · rename_i hpre
            obtain ⟨q, hq⟩ := List.isPrefixOf_iff_prefix.1 hpre
            cases hnx
            simp only at i4
            rw [← hq, List.drop_left] at i4
            cases hsr : s.right with
            | true =>
              rw [hsr] at i4
              simp only [if_pos]
              rw [← hq]
              cases q with
              | nil => simp at i4 ⊢; exact i4.symm
              | cons x q => simp at i4 ⊢; exact i4
            | false =>
              rw [hsr] at i4
              unfold byLeft at hb
              rw [hsr] at hb
              simp at hb
              have h1 := hq.trans hb.1
              simp at h1
              rw [h1.2] at i4
              rw [hb.1, h1.1]
              simpa using i4
          · rename_i hnp
            split at hnx
            · rename_i hpre
              obtain ⟨q, hq⟩ := List.isPrefixOf_iff_prefix.1 hpre
              cases hnx
              simp only [Bool.not_true, Bool.false_eq_true, if_false] at i4
              rw [← hq, List.drop_left] at i4
              cases hsr : s.right with
              | true =>
                simp only [if_pos]
                rw [i4, ← hq]; simp
              | false =>
                unfold byLeft at hb
                rw [hsr] at hb
                simp at hb
                rw [hb.1] at hq ⊢
                simp only [Bool.false_eq_true, if_false]
                rw [i4, ← hq]; simp
            · cases hnx
      | false =>
        have hone : one w s = w.right := by unfold one; rw [hb]; rfl
        have hat : at_ w s = s.j := by unfold at_; rw [hb]; rfl
        rw [hone] at hmem hfit
        rw [hat] at hfit
        have hd1 : decide (s.i < s'.i) = false := by
          rw [decide_eq_false_iff_not]; intro h; rw [hlt.1 h] at hb; cases hb
        rw [hd1]
        have hsr : s.right = false := by
          unfold byLeft at hb
          rw [Bool.or_eq_false_iff] at hb
          exact hb.1
        rw [hb] at ei ej hnx
        simp only [Bool.false_eq_true, if_false] at ei ej
        have el : lefts ((false, r) :: l) = lefts l := by simp [lefts]
        have er : rights ((false, r) :: l) = r :: rights l := by simp [rights]
        rw [el, er]
        refine ⟨m, r.cost + k, ?_, ?_, ?_, ?_⟩
        · rw [← ei]; exact i1
        · show written w.right s.j ((r.index : Int) :: ints (rights l)) = _
          unfold written
          rw [find_index hw.right hmem]
          simp only
          rw [if_pos hfit, ← ej, i2]
          rfl
        · simp only at hcs; omega
        · show Rel s (form (lefts l)) (r.to_ ++ form (rights l))
          generalize form (lefts l) = f at *
          generalize form (rights l) = g at *
          unfold nextOf at hnx
          simp only [Bool.false_eq_true, if_false] at hnx
          unfold Rel at i4 ⊢
          rw [hsr]
          simp only [Bool.false_eq_true, if_false]
          split at hnx
          · rename_i hpre
            obtain ⟨q, hq⟩ := List.isPrefixOf_iff_prefix.1 hpre
            cases hnx
            simp only [hsr, Bool.false_and, Bool.false_eq_true, if_false] at i4
            rw [← hq, List.drop_left] at i4
            rw [i4, ← hq]; simp
          · split at hnx
            · rename_i hpre
              obtain ⟨q, hq⟩ := List.isPrefixOf_iff_prefix.1 hpre
              cases hnx
              simp only [Bool.not_false, if_pos] at i4
              rw [← hq, List.drop_left] at i4
              rw [i4, ← hq]; simp
            · cases hnx

/-- a derivation -/
structure D where
  cost : Int
  left : List Int
  right : List Int
  form : List UInt8
deriving DecidableEq

def best (w : Ws) : D × Int :=
  if endless ≤ cost w zero then (⟨0, [], [], []⟩, 11)
  else (let p := path w (meas w zero + 1) zero; ⟨cost w zero, ints (lefts p), ints (rights p), form (lefts p)⟩, 0)

def check (w : Ws) (d : D) : Bool :=
  match written w.left 0 d.left, written w.right 0 d.right with
  | some (f, m), some (g, n) => decide (f = d.form) && decide (g = d.form) && decide (m + n = d.cost)
  | _, _ => false

theorem check_iff {d : D} : check w d = true ↔ ∃ m n, written w.left 0 d.left = some (d.form, m) ∧ written w.right 0 d.right = some (d.form, n) ∧ m + n = d.cost := by
  unfold check
  constructor
  · intro h
    split at h
    · rename_i f m g n e1 e2
      rw [Bool.and_eq_true, Bool.and_eq_true, decide_eq_true_eq, decide_eq_true_eq, decide_eq_true_eq] at h
      obtain ⟨⟨rfl, h2⟩, h3⟩ := h
      exact ⟨m, n, e1, by rw [e2, h2], h3⟩
    · cases h
  · rintro ⟨m, n, e1, e2, e3⟩
    rw [e1, e2]
    simp [e3]

theorem best_checks (hw : w.Good) (h : (best w).2 = 0) : check w (best w).1 = true := by
  unfold best at h ⊢
  split
  · rename_i hc; rw [if_pos hc] at h; cases h
  · rename_i hc
    obtain ⟨m, k, h1, h2, h3, h4⟩ := sound hw (meas w zero + 1) zero (Nat.lt_succ_self _) within_zero (by omega)
    rw [check_iff]
    refine ⟨m, k, h1, ?_, h3⟩
    have : form (rights (path w (meas w zero + 1) zero)) = form (lefts (path w (meas w zero + 1) zero)) := by
      unfold Rel at h4
      rw [show zero.right = false from rfl, show zero.ahead = [] from rfl] at h4
      simpa using h4
    simp only
    rw [← this]
    exact h2

theorem written_cost {S : Side} (hS : S.Good) : ∀ (l : List Int) (k : Nat) (f : List UInt8) (c : Int), written S k l = some (f, c) → 0 ≤ c ∧ k + l.length ≤ S.letters.length ∧ c ≤ 1000 * l.length
  | [], k, f, c, h => by obtain ⟨h1, _, rfl⟩ := written_nil h; simp; omega
  | i :: l, k, f, c, h => by
    obtain ⟨r, f', c', hfi, hmem, hfit, hl', rfl, rfl⟩ := written_cons h
    obtain ⟨a, b, d⟩ := written_cost hS l _ _ _ hl'
    have := hS.cost r hmem
    have := List.length_pos_iff.2 (hS.some_ r hmem)
    simp only [List.length_cons]
    refine ⟨by omega, by omega, by omega⟩

/-- small words -/
structure Ws.Small (w : Ws) : Prop where
  left : w.left.letters.length ≤ 12
  right : w.right.letters.length ≤ 12

theorem cheapest (hw : w.Good) (hsm : w.Small) {d : D} (h : check w d = true) : (best w).2 = 0 ∧ (best w).1.cost ≤ d.cost := by
  obtain ⟨m, n, h1, h2, h3⟩ := check_iff.1 h
  obtain ⟨_, a2, a3⟩ := written_cost hw.left _ _ _ _ h1
  obtain ⟨_, b2, b3⟩ := written_cost hw.right _ _ _ _ h2
  have hc := complete hw _ zero d.left d.right d.form d.form m n (Nat.le_refl _) within_zero h1 h2 (by unfold Rel zero; simp)
  have := hsm.left
  have := hsm.right
  have : ¬ endless ≤ cost w zero := by unfold endless; omega
  unfold best
  rw [if_neg this]
  exact ⟨rfl, by simp only; omega⟩

def Ws.swap (w : Ws) : Ws := ⟨w.right, w.left⟩
def D.swap (d : D) : D := ⟨d.cost, d.right, d.left, d.form⟩

theorem check_swap {d : D} : check w.swap d.swap = check w d := by
  rw [Bool.eq_iff_iff, check_iff, check_iff]
  constructor
  · rintro ⟨m, n, a, b, c⟩; exact ⟨n, m, b, a, by simp only [D.swap] at c; omega⟩
  · rintro ⟨m, n, a, b, c⟩; exact ⟨n, m, b, a, by simp only [D.swap]; omega⟩

theorem best_two : (best w).2 = 0 ∨ ((best w).2 = 11 ∧ (best w).1.cost = 0) := by
  unfold best; split
  · exact .inr ⟨rfl, rfl⟩
  · exact .inl rfl

/-- BOTH WORDS EXCHANGED -/
theorem symmetric (hw : w.Good) (hsm : w.Small) : (best w.swap).2 = (best w).2 ∧ (best w.swap).1.cost = (best w).1.cost ∧ ((best w).2 = 0 → check w.swap (best w).1.swap = true) := by
  have hw' : w.swap.Good := ⟨hw.right, hw.left⟩
  have hsm' : w.swap.Small := ⟨hsm.right, hsm.left⟩
  have key : ∀ {v : Ws}, v.Good → v.swap.Good → v.swap.Small → (best v).2 = 0 → (best v.swap).2 = 0 ∧ (best v.swap).1.cost ≤ (best v).1.cost := fun {v} hv hv' hs' h => by
    have := best_checks hv h
    rw [← check_swap] at this
    have c := cheapest hv' hs' this
    exact c
  rcases best_two (w := w) with h | ⟨h, hc⟩
  · obtain ⟨a, b⟩ := key hw hw' hsm' h
    obtain ⟨_, c⟩ := key (v := w.swap) hw' hw hsm a
    refine ⟨by rw [a, h], Int.le_antisymm b c, fun _ => by rw [check_swap]; exact best_checks hw h⟩
  · rcases best_two (w := w.swap) with h' | ⟨h', hc'⟩
    · obtain ⟨a, _⟩ := key (v := w.swap) hw' hw hsm h'
      rw [show w.swap.swap = w from rfl, h] at a; cases a
    · exact ⟨by rw [h, h'], by rw [hc, hc'], fun e => by rw [h] at e; cases e⟩

/-- MORE RULES -/
theorem written_more {S S' : Side} (hl : S'.letters = S.letters) (hr : S.rules <+: S'.rules) : ∀ (l : List Int) (k : Nat) (p : List UInt8 × Int), written S k l = some p → written S' k l = some p
  | [], k, p, h => by unfold written at h ⊢; rw [hl]; exact h
  | i :: l, k, (f, c), h => by
    obtain ⟨r, f', c', hfi, hmem, hfit, hl', rfl, rfl⟩ := written_cons h
    obtain ⟨q, hq⟩ := hr
    have h2 := written_more hl ⟨q, hq⟩ l _ _ hl'
    unfold written
    rw [← hq, List.find?_append, hfi]
    simp only [Option.some_or]
    rw [hl, if_pos hfit, h2]
    rfl

theorem more_check {w' : Ws} (h1 : w'.left.letters = w.left.letters) (h2 : w'.right.letters = w.right.letters) (h3 : w.left.rules <+: w'.left.rules) (h4 : w.right.rules <+: w'.right.rules) {d : D} (h : check w d = true) : check w' d = true := by
  obtain ⟨m, n, a, b, c⟩ := check_iff.1 h
  exact check_iff.2 ⟨m, n, written_more h1 h3 _ _ _ a, written_more h2 h4 _ _ _ b, c⟩

end Al
