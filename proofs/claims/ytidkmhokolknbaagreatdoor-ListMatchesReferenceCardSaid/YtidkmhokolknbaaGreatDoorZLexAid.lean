/-
  Plain facts for the lexer's walks: where a run of bytes ends, where gaps end, on lists with an index; no program in sight. Conditions: none.
-/
import Derived.Test.YtidkmhokolknbaaGreatDoorZLexPure
namespace Lx

/-- where the run of bytes with 'p' that begins at 'k' ends -/
def run (p : UInt8 → Bool) (l : List UInt8) (k : Nat) : Nat := k + ((l.drop k).takeWhile p).length

theorem drop_cons {l : List UInt8} {k : Nat} (h : k < l.length) : l.drop k = l[k] :: l.drop (k + 1) := List.drop_eq_getElem_cons h

theorem run_step {p : UInt8 → Bool} {l : List UInt8} {k : Nat} (h : k < l.length) (hp : p l[k] = true) : run p l (k + 1) = run p l k := by
  unfold run
  rw [drop_cons h, List.takeWhile_cons, if_pos hp]
  simp
  omega

theorem run_stop {p : UInt8 → Bool} {l : List UInt8} {k : Nat} (h : ∀ hk : k < l.length, p l[k] = false) : run p l k = k := by
  unfold run
  by_cases hk : k < l.length
  · rw [drop_cons hk, List.takeWhile_cons, if_neg (by simp [h hk])]; rfl
  · rw [List.drop_eq_nil_of_le (by omega)]; rfl

theorem run_le (p : UInt8 → Bool) (l : List UInt8) (k : Nat) (hk : k ≤ l.length) : run p l k ≤ l.length := by
  unfold run
  have := congrArg List.length (List.takeWhile_append_dropWhile (p := p) (l := l.drop k))
  rw [List.length_append, List.length_drop] at this
  omega

theorem run_ge (p : UInt8 → Bool) (l : List UInt8) (k : Nat) : k ≤ run p l k := Nat.le_add_right _ _

theorem run_take (p : UInt8 → Bool) (l : List UInt8) (k : Nat) : (l.drop k).take (run p l k - k) = (l.drop k).takeWhile p := by
  unfold run
  rw [Nat.add_sub_cancel_left]
  generalize l.drop k = m
  have e := List.takeWhile_append_dropWhile (p := p) (l := m)
  conv => lhs; arg 2; rw [← e]
  rw [List.take_append, List.take_length, Nat.sub_self, List.take_zero, List.append_nil]

theorem run_drop (p : UInt8 → Bool) (l : List UInt8) (k : Nat) : l.drop (run p l k) = (l.drop k).dropWhile p := by
  unfold run
  rw [← List.drop_drop]
  generalize l.drop k = m
  have e := List.takeWhile_append_dropWhile (p := p) (l := m)
  conv => lhs; arg 2; rw [← e]
  rw [List.drop_append, List.drop_length, Nat.sub_self]
  rfl

/-- where the gaps end that begin at 'k' ('b': inside a comment) -/
def gapTo (b : Bool) (l : List UInt8) (k : Nat) : Nat := l.length - (skip b (l.drop k)).length

theorem skip_len' (b : Bool) (s : List UInt8) : (skip b s).length ≤ s.length := skip_length b s

theorem gapTo_end {b : Bool} {l : List UInt8} {k : Nat} (h : l.length ≤ k) : gapTo b l k = l.length := by
  unfold gapTo
  rw [List.drop_eq_nil_of_le h]
  cases b <;> rfl

theorem gapTo_blank {l : List UInt8} {k : Nat} (h : k < l.length) (hb : isBlank l[k] = true) : gapTo false l (k + 1) = gapTo false l k := by
  unfold gapTo
  rw [drop_cons h]
  simp [skip, hb]

theorem gapTo_hash {l : List UInt8} {k : Nat} (h : k < l.length) (hh : l[k] = 35) : gapTo true l (k + 1) = gapTo false l k := by
  unfold gapTo
  rw [drop_cons h]
  simp [skip, hh, isBlank]

theorem gapTo_stop {l : List UInt8} {k : Nat} (h : k < l.length) (hb : isBlank l[k] = false) (hh : l[k] ≠ 35) : gapTo false l k = k := by
  unfold gapTo
  rw [drop_cons h]
  simp [skip, hb, hh]
  omega

theorem gapTo_in {l : List UInt8} {k : Nat} (h : k < l.length) (hb : l[k] ≠ 10) : gapTo true l (k + 1) = gapTo true l k := by
  unfold gapTo
  rw [drop_cons h]
  simp [skip, hb]

theorem gapTo_out {l : List UInt8} {k : Nat} (h : k < l.length) (hb : l[k] = 10) : gapTo false l k = gapTo true l k := by
  unfold gapTo
  rw [drop_cons h]
  simp [skip, hb, isBlank]

theorem gapTo_le (b : Bool) (l : List UInt8) (k : Nat) : gapTo b l k ≤ l.length := Nat.sub_le _ _

theorem gapTo_ge (b : Bool) (l : List UInt8) (k : Nat) (hk : k ≤ l.length) : k ≤ gapTo b l k := by
  unfold gapTo
  have := skip_length b (l.drop k)
  simp at this
  omega

theorem gapTo_drop (b : Bool) (l : List UInt8) (k : Nat) : l.drop (gapTo b l k) = skip b (l.drop k) := by
  obtain ⟨p, h1, _⟩ := skip_split b (l.drop k)
  have hl := congrArg List.length h1
  simp at hl
  unfold gapTo
  by_cases hk : k ≤ l.length
  · have e : l.length - (skip b (l.drop k)).length = k + p.length := by omega
    rw [e, ← List.drop_drop]
    conv => lhs; rw [h1]
    simp
  · rw [List.drop_eq_nil_of_le (show l.length ≤ k by omega)]
    cases b <;> simp [skip]

/-! ### the token at an offset -/

theorem takeWhile_at {p : UInt8 → Bool} {l : List UInt8} {k : Nat} (h : k < l.length) (hp : p l[k] = true) :
    (l[k] :: l.drop (k + 1)).takeWhile p = (l.drop k).take (run p l (k + 1) - k) ∧ ((l[k] :: l.drop (k + 1)).takeWhile p).length = run p l (k + 1) - k ∧
      (l[k] :: l.drop (k + 1)).dropWhile p = l.drop (run p l (k + 1)) := by
  rw [← drop_cons h, run_step h hp]
  refine ⟨(run_take p l k).symm, ?_, (run_drop p l k).symm⟩
  unfold run
  omega

theorem next_letter_err {l : List UInt8} {k : Nat} (h : k < l.length) (hl : isLetter l[k] = true) (hE : 24 < run isWord l (k + 1) - k) :
    nextTok l[k] (l.drop (k + 1)) = .error 2 := by
  obtain ⟨_, h2, _⟩ := takeWhile_at h (word_of_letter hl)
  unfold nextTok
  rw [if_pos hl, h2, if_pos hE]

theorem next_letter_ok {l : List UInt8} {k : Nat} (h : k < l.length) (hl : isLetter l[k] = true) (hE : run isWord l (k + 1) - k ≤ 24) :
    nextTok l[k] (l.drop (k + 1)) = .ok ⟨1, 0, (l.drop k).take (run isWord l (k + 1) - k)⟩ := by
  obtain ⟨h1, h2, _⟩ := takeWhile_at h (word_of_letter hl)
  unfold nextTok
  rw [if_pos hl, h2, if_neg (by omega), h1]

theorem letter_of_digit {c : UInt8} (h : isDigit c = true) : isLetter c = false := by
  simp [isDigit, isLetter, UInt8.le_iff_toNat_le] at h ⊢
  omega

theorem head_drop {l : List UInt8} {k : Nat} (h : k < l.length) : (l.drop k).head? = some l[k] := by rw [drop_cons h]; rfl

theorem next_digit_err {l : List UInt8} {k : Nat} (h : k < l.length) (hd : isDigit l[k] = true)
    (hE : 13 < run isDigit l (k + 1) - k ∨ ∃ hh : run isDigit l (k + 1) < l.length, isWord l[run isDigit l (k + 1)] = true) :
    nextTok l[k] (l.drop (k + 1)) = .error 4 := by
  obtain ⟨h1, h2, h3⟩ := takeWhile_at h hd
  unfold nextTok
  rw [if_neg (by simp [letter_of_digit hd]), if_pos hd, h2, h3, if_pos]
  rcases hE with hE | ⟨hh, hw⟩
  · simp [hE]
  · have hz := head_drop hh
    rw [hz]
    have : isDigit l[run isDigit l (k + 1)] = false := by
      rw [← h3] at hz
      exact dropWhile_head hz
    simp [isWord, this] at hw
    simp [hw]

theorem next_digit_ok {l : List UInt8} {k : Nat} (h : k < l.length) (hd : isDigit l[k] = true)
    (hE : run isDigit l (k + 1) - k ≤ 13) (hw : ∀ hh : run isDigit l (k + 1) < l.length, isWord l[run isDigit l (k + 1)] = false) :
    nextTok l[k] (l.drop (k + 1)) = .ok ⟨2, value ((l.drop k).take (run isDigit l (k + 1) - k)), (l.drop k).take (run isDigit l (k + 1) - k)⟩ := by
  obtain ⟨h1, h2, h3⟩ := takeWhile_at h hd
  unfold nextTok
  rw [if_neg (by simp [letter_of_digit hd]), if_pos hd, h2, h3, if_neg, h1]
  simp only [Bool.or_eq_true, decide_eq_true_eq, not_or, Bool.not_eq_true]
  refine ⟨by omega, ?_⟩
  by_cases hh : run isDigit l (k + 1) < l.length
  · rw [head_drop hh]
    have := hw hh
    simp [isWord] at this
    simp [this]
  · rw [List.drop_eq_nil_of_le (by omega)]; rfl

theorem next_quote {l : List UInt8} {k : Nat} (h : k < l.length) (hq : l[k] = 34) :
    nextTok l[k] (l.drop (k + 1)) = match l.drop (run inBody l (k + 1)) with
      | [] => .error 6
      | q :: _ => if q = 10 then .error 6 else if run inBody l (k + 1) - (k + 1) > 400 then .error 2 else .ok ⟨3, 0, (l.drop (k + 1)).take (run inBody l (k + 1) - (k + 1))⟩ := by
  have e : ((l.drop (k + 1)).takeWhile inBody).length = run inBody l (k + 1) - (k + 1) := by unfold run; omega
  unfold nextTok
  rw [hq, if_neg (by decide), if_neg (by decide), if_pos rfl, ← run_drop, e, run_take]
  cases List.drop (run inBody l (k + 1)) l <;> rfl

theorem next_quote_open {l : List UInt8} {k : Nat} (h : k < l.length) (hq : l[k] = 34) (hE : ∀ hh : run inBody l (k + 1) < l.length, l[run inBody l (k + 1)] = 10) :
    nextTok l[k] (l.drop (k + 1)) = .error 6 := by
  rw [next_quote h hq]
  by_cases hh : run inBody l (k + 1) < l.length
  · rw [drop_cons hh]; simp [hE hh]
  · rw [List.drop_eq_nil_of_le (by omega)]

theorem next_quote_long {l : List UInt8} {k : Nat} (h : k < l.length) (hq : l[k] = 34) (hh : run inBody l (k + 1) < l.length) (h10 : l[run inBody l (k + 1)] ≠ 10)
    (hE : 400 < run inBody l (k + 1) - (k + 1)) : nextTok l[k] (l.drop (k + 1)) = .error 2 := by
  rw [next_quote h hq, drop_cons hh]
  simp only
  rw [if_neg h10, if_pos hE]

theorem next_quote_ok {l : List UInt8} {k : Nat} (h : k < l.length) (hq : l[k] = 34) (hh : run inBody l (k + 1) < l.length) (h10 : l[run inBody l (k + 1)] ≠ 10)
    (hE : run inBody l (k + 1) - (k + 1) ≤ 400) : nextTok l[k] (l.drop (k + 1)) = .ok ⟨3, 0, (l.drop (k + 1)).take (run inBody l (k + 1) - (k + 1))⟩ := by
  rw [next_quote h hq, drop_cons hh]
  simp only
  rw [if_neg h10, if_neg (by omega)]

/-- neither a letter, a digit nor a quote -/
def isRest (c : UInt8) : Bool := !isLetter c && !isDigit c && c != 34

theorem next_rest {c : UInt8} (h : isRest c = true) (s : List UInt8) : nextTok c s =
    if (c = 33 ∨ isAngle c) ∧ s.head? = some 61 then .ok ⟨4, 0, [c, 61]⟩ else if isAngle c ∨ isPlain c then .ok ⟨4, 0, [c]⟩ else .error 3 := by
  simp [isRest] at h
  unfold nextTok
  rw [if_neg (by simp [h]), if_neg (by simp [h]), if_neg h.2]

theorem take_one {l : List UInt8} {k : Nat} (h : k < l.length) : (l.drop k).take 1 = [l[k]] := by rw [drop_cons h]; rfl
theorem take_two {l : List UInt8} {k : Nat} (h : k + 1 < l.length) : (l.drop k).take 2 = [l[k], l[k + 1]] := by rw [drop_cons (by omega), drop_cons h]; rfl

theorem next_two {l : List UInt8} {k : Nat} (h : k + 1 < l.length) (hr : isRest l[k] = true) (hc : l[k] = 33 ∨ isAngle l[k] = true) (he : l[k + 1] = 61) :
    nextTok l[k] (l.drop (k + 1)) = .ok ⟨4, 0, (l.drop k).take 2⟩ := by
  rw [next_rest hr, head_drop h, if_pos ⟨hc, by rw [he]⟩, take_two h, he]

theorem next_one {l : List UInt8} {k : Nat} (h : k < l.length) (hr : isRest l[k] = true) (hc : (l[k] = 33 ∨ isAngle l[k] = true) → ∀ hh : k + 1 < l.length, l[k + 1] ≠ 61)
    (hs : isAngle l[k] = true ∨ isPlain l[k] = true) : nextTok l[k] (l.drop (k + 1)) = .ok ⟨4, 0, (l.drop k).take 1⟩ := by
  rw [next_rest hr, if_neg, if_pos hs, take_one h]
  rintro ⟨h1, h2⟩
  by_cases hh : k + 1 < l.length
  · rw [head_drop hh] at h2; simp at h2; exact hc h1 hh h2
  · rw [List.drop_eq_nil_of_le (by omega)] at h2; cases h2

theorem next_bad {l : List UInt8} {k : Nat} (h : k < l.length) (hr : isRest l[k] = true) (hc : (l[k] = 33 ∨ isAngle l[k] = true) → ∀ hh : k + 1 < l.length, l[k + 1] ≠ 61)
    (hs : isAngle l[k] = false ∧ isPlain l[k] = false) : nextTok l[k] (l.drop (k + 1)) = .error 3 := by
  rw [next_rest hr, if_neg, if_neg (by simp [hs])]
  rintro ⟨h1, h2⟩
  by_cases hh : k + 1 < l.length
  · rw [head_drop hh] at h2; simp at h2; exact hc h1 hh h2
  · rw [List.drop_eq_nil_of_le (by omega)] at h2; cases h2

/-! ### numbers -/

theorem value_snoc (d : List UInt8) (c : UInt8) : value (d ++ [c]) = 10 * value d + (c.toNat - 48) := by
  simp [value]

theorem value_foldl (d : List UInt8) : ∀ n : Nat, d.all isDigit = true → d.foldl (fun n c => 10 * n + (c.toNat - 48)) n < (n + 1) * 10 ^ d.length := by
  induction d with
  | nil => intro n _; simp
  | cons c d ih =>
    intro n h
    simp only [List.all_cons, Bool.and_eq_true] at h
    have h1 := ih (10 * n + (c.toNat - 48)) h.2
    have h2 := h.1
    simp [isDigit, UInt8.le_iff_toNat_le] at h2
    rw [List.foldl_cons, List.length_cons, Nat.pow_succ]
    refine Nat.lt_of_lt_of_le h1 ?_
    rw [Nat.mul_comm (10 ^ d.length) 10, ← Nat.mul_assoc]
    exact Nat.mul_le_mul_right _ (by omega)

theorem value_lt (d : List UInt8) (h : d.all isDigit = true) : value d < 10 ^ d.length := by
  have := value_foldl d 0 h
  simpa [value] using this

theorem take_snoc {l : List UInt8} {k m : Nat} (h : m < l.length) (hk : k ≤ m) : (l.drop k).take (m + 1 - k) = (l.drop k).take (m - k) ++ [l[m]] := by
  rw [show m + 1 - k = (m - k) + 1 by omega, List.take_succ_eq_append_getElem (by simp; omega)]
  simp
  congr 1
  omega

theorem value_step {l : List UInt8} {k m : Nat} (h : m < l.length) (hk : k ≤ m) :
    value ((l.drop k).take (m + 1 - k)) = 10 * value ((l.drop k).take (m - k)) + (l[m].toNat - 48) := by
  rw [take_snoc h hk, value_snoc]

/-- inside a run of digits -/
theorem digit_in {p : UInt8 → Bool} {l : List UInt8} {k m : Nat} (hk : k ≤ m) (hm : m < run p l k) (h : m < l.length) : p l[m] = true := by
  have hall := all_takeWhile p (l.drop k)
  rw [← run_take] at hall
  have hmem : l[m] ∈ (l.drop k).take (run p l k - k) := by
    rw [List.mem_take_iff_getElem]
    refine ⟨m - k, by simp; omega, ?_⟩
    simp
    congr 1
    omega
  exact List.all_eq_true.1 hall _ hmem

theorem value_bound {l : List UInt8} {k m : Nat} (hm : m ≤ run isDigit l k) (h13 : run isDigit l k ≤ k + 13) : value ((l.drop k).take (m - k)) < 10000000000000 := by
  have hall := all_takeWhile isDigit (l.drop k)
  rw [← run_take] at hall
  have h1 : ((l.drop k).take (m - k)).all isDigit = true := by
    rw [List.all_eq_true] at hall ⊢
    intro x hx
    refine hall x ?_
    have : (l.drop k).take (m - k) = ((l.drop k).take (run isDigit l k - k)).take (m - k) := by
      rw [List.take_take]; congr 1; omega
    rw [this] at hx
    exact List.mem_of_mem_take hx
  have h2 := value_lt _ h1
  have h3 : ((l.drop k).take (m - k)).length ≤ 13 := by simp; omega
  have h4 : 10 ^ ((l.drop k).take (m - k)).length ≤ 10 ^ 13 := Nat.pow_le_pow_right (by omega) h3
  have : (10 : Nat) ^ 13 = 10000000000000 := by decide
  omega

end Lx
