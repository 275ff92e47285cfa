/-
  The reference of bringing two words to one form, plainly: lists of rules, the first cheapest move. NO PROGRAM IN THIS TEXT.
-/
import Derived.Test.YthibphklchalkaaGreatDoorZMRr
import Derived.Test.YthibphklchalkaaGreatDoorZAl9
namespace Al

/-- the rules of one script bear their places in the table -/
theorem rf_mem {K : Int} : ∀ {l : List Rw.Rule} {o : Nat} {r : R}, r ∈ rulesFrom K o l → o ≤ r.index ∧ r.index < o + l.length
  | [], _, _, h => by unfold rulesFrom at h; cases h
  | x :: l, o, r, h => by
    unfold rulesFrom at h
    have key : r ∈ rulesFrom K (o + 1) l → o ≤ r.index ∧ r.index < o + (x :: l).length := fun h => by
      have := rf_mem h
      rw [List.length_cons]; omega
    split at h
    · split at h
      · rcases List.mem_cons.1 h with rfl | h
        · rw [List.length_cons]; simp only; omega
        · exact key h
      · exact key h
    · exact key h

theorem rf_none {K : Int} {l : List Rw.Rule} {o : Nat} {i : Int} (h : i < (o : Int) ∨ ((o + l.length : Nat) : Int) ≤ i) : (rulesFrom K o l).find? (fun r => (r.index : Int) == i) = none := by
  rw [List.find?_eq_none]
  intro r hr
  have := rf_mem hr
  simp only [beq_iff_eq]
  omega

theorem rf_at {K : Int} : ∀ {l : List Rw.Rule} {o j : Nat} {x : Rw.Rule}, l[j]? = some x →
    (rulesFrom K o l).find? (fun r => (r.index : Int) == ((o + j : Nat) : Int)) = if x.script = K then (Sc.lets K x.from_).map (fun f => ⟨o + j, x.cost, f, x.to_⟩) else none
  | [], _, _, _, h => by cases h
  | y :: l, o, 0, x, h => by
    obtain rfl : y = x := by simpa using h
    have hn : (rulesFrom K (o + 1) l).find? (fun r => (r.index : Int) == ((o + 0 : Nat) : Int)) = none := rf_none (.inl (by omega))
    unfold rulesFrom
    by_cases hs : y.script = K
    · rw [if_pos hs, if_pos hs]
      cases hl : Sc.lets K y.from_ with
      | none => simp only [Option.map_none]; exact hn
      | some f => simp
    · rw [if_neg hs, if_neg hs]; exact hn
  | y :: l, o, j + 1, x, h => by
    have ih := rf_at (K := K) (l := l) (o := o + 1) (j := j) (x := x) (by simpa using h)
    have e : o + 1 + j = o + (j + 1) := by omega
    rw [e] at ih
    unfold rulesFrom
    by_cases hs : y.script = K
    · rw [if_pos hs]
      cases hl : Sc.lets K y.from_ with
      | none => exact ih
      | some f =>
        simp only
        rw [List.find?_cons_of_neg (by simp only [beq_iff_eq]; omega)]
        exact ih
    · rw [if_neg hs]; exact ih

section
variable {K : Int} {rs : List Rw.Rule} {L : List (List UInt8)} {l : List Int} {n k j : Nat} {f : List UInt8} {c i : Int} {x : Rw.Rule}
theorem refW_out (h : walkW ⟨L, rulesFrom K 0 rs⟩ 0 (l.take n) = some (k, f, c)) (hi : l[n]? = some i) (ho : i < 0 ∨ (rs.length : Int) ≤ i) : walkW ⟨L, rulesFrom K 0 rs⟩ 0 (l.take (n + 1)) = none := by
  rw [walkW_step h hi]
  simp only
  rw [rf_none (by simpa using ho)]
theorem refW_other (h : walkW ⟨L, rulesFrom K 0 rs⟩ 0 (l.take n) = some (k, f, c)) (hi : l[n]? = some (j : Int)) (hx : rs[j]? = some x) (ho : ¬ x.script = K) : walkW ⟨L, rulesFrom K 0 rs⟩ 0 (l.take (n + 1)) = none := by
  rw [walkW_step h hi]
  have := rf_at (K := K) (o := 0) hx
  rw [if_neg ho, Nat.zero_add] at this
  simp only
  rw [this]
theorem refW_unfit (h : walkW ⟨L, rulesFrom K 0 rs⟩ 0 (l.take n) = some (k, f, c)) (hi : l[n]? = some (j : Int)) (hx : rs[j]? = some x) (ho : x.script = K) (hf : fitN K x.from_ L k = none) : walkW ⟨L, rulesFrom K 0 rs⟩ 0 (l.take (n + 1)) = none := by
  rw [walkW_step h hi]
  have := rf_at (K := K) (o := 0) hx
  rw [if_pos ho, Nat.zero_add] at this
  simp only
  rw [this]
  unfold fitN at hf
  cases hl : Sc.lets K x.from_ with
  | none => rfl
  | some g =>
    rw [hl] at hf
    simp only at hf
    split at hf
    · cases hf
    · rename_i hh
      simp only [Option.map_some]
      rw [if_neg]
      exact hh
theorem refW_fit (h : walkW ⟨L, rulesFrom K 0 rs⟩ 0 (l.take n) = some (k, f, c)) (hi : l[n]? = some (j : Int)) (hx : rs[j]? = some x) (ho : x.script = K) {m : Nat} (hf : fitN K x.from_ L k = some m) : walkW ⟨L, rulesFrom K 0 rs⟩ 0 (l.take (n + 1)) = some (k + m, f ++ x.to_, c + x.cost) := by
  rw [walkW_step h hi]
  have := rf_at (K := K) (o := 0) hx
  rw [if_pos ho, Nat.zero_add] at this
  simp only
  rw [this]
  unfold fitN at hf
  cases hl : Sc.lets K x.from_ with
  | none => rw [hl] at hf; cases hf
  | some g =>
    rw [hl] at hf
    simp only at hf
    split at hf
    · rename_i hh
      cases hf
      simp only [Option.map_some]
      rw [if_pos]
      exact hh
    · cases hf
end

/-- the first move on a cheapest way stands where all before it are on none -/
theorem pick_at {w : Ws} {s : St} {i : Nat} {p : R × St} (hp : (moves w s)[i]? = some p) (hn : ∀ q ∈ (moves w s).take i, (q.1.cost + cost w q.2 == cost w s) = false) (he : (p.1.cost + cost w p.2 == cost w s) = true) : pick w s = some p := by
  obtain ⟨hk, h⟩ := List.getElem?_eq_some_iff.1 hp
  unfold pick
  rw [← List.take_append_drop i (moves w s), List.find?_append]
  rw [List.find?_eq_none.2 (fun q hq => by rw [hn q hq]; simp)]
  rw [List.drop_eq_getElem_cons hk, h, List.find?_cons]
  simp [he]
theorem pick_before {w : Ws} {s : St} (hn : ∀ q ∈ moves w s, (q.1.cost + cost w q.2 == cost w s) = false) : pick w s = none :=
  List.find?_eq_none.2 (fun q hq => by rw [hn q hq]; simp)

/-- the least cost, move after move -/
theorem least_take {w : Ws} {l : List (R × St)} {i : Nat} {p : R × St} {h : Int} (hp : l[i]? = some p) : least w (l.take (i + 1)) h = min (least w (l.take i) h) (p.1.cost + cost w p.2) := by
  have : l.take (i + 1) = l.take i ++ [p] := by rw [List.take_add_one, hp]; rfl
  rw [this]
  unfold least
  rw [List.foldl_append, List.foldl_cons, List.foldl_nil]
end Al
