/-
  The lexer's plain laws on lists of bytes: places, parts, beginnings, gaps, longest, again, words; no program in sight. Conditions: as each lemma says.
-/
import Derived.Test.YtdchjacccmajcaaGreatDoorZLexPure
namespace Lx

/-- without the bound on the number of tokens -/
def luN : Nat → List UInt8 → Res
  | 0, _ => .ok []
  | f + 1, s =>
    match skip false s with
    | [] => .ok []
    | c :: r =>
      match nextTok c r with
      | .error e => .error (e, s.length - (r.length + 1))
      | .ok t => shiftR (s.length - (r.length + 1) + t.width) [(s.length - (r.length + 1), t)] (luN f ((c :: r).drop t.width))

def lu (s : List UInt8) : Res := luN (s.length + 1) s

theorem skip_cons_len {b : Bool} {s : List UInt8} {c : UInt8} {r : List UInt8} (h : skip b s = c :: r) : r.length + 1 ≤ s.length := by
  have := skip_length b s
  rw [h] at this
  simpa using this

theorem next_width {c : UInt8} {s : List UInt8} {t : Tk} (h : nextTok c s = .ok t) : 0 < t.width ∧ t.width ≤ s.length + 1 := by
  obtain ⟨h1, r, h2, _⟩ := nextTok_ok h
  refine ⟨h1.width_pos, ?_⟩
  rw [← written_length]
  have := congrArg List.length h2
  simp at this
  omega

theorem luN_fuel : ∀ (f g : Nat) (s : List UInt8), s.length < f → s.length < g → luN f s = luN g s
  | 0, _, _, h, _ => by omega
  | _ + 1, 0, _, _, h => by omega
  | f + 1, g + 1, s, hf, hg => by
    unfold luN
    cases hs : skip false s with
    | nil => rfl
    | cons c r =>
      simp only
      cases hn : nextTok c r with
      | error e => rfl
      | ok t =>
        simp only
        have h1 := skip_cons_len hs
        have h2 := next_width hn
        rw [luN_fuel f g _ (by simp; omega) (by simp; omega)]

theorem lu_eq (s : List UInt8) : lu s = match skip false s with
    | [] => .ok []
    | c :: r =>
      match nextTok c r with
      | .error e => .error (e, s.length - (r.length + 1))
      | .ok t => shiftR (s.length - (r.length + 1) + t.width) [(s.length - (r.length + 1), t)] (lu ((c :: r).drop t.width)) := by
  rw [lu, luN]
  cases hs : skip false s with
  | nil => rfl
  | cons c r =>
    simp only
    cases hn : nextTok c r with
    | error e => rfl
    | ok t =>
      simp only
      have h1 := skip_cons_len hs
      have h2 := next_width hn
      rw [lu, luN_fuel s.length _ _ (by simp; omega) (Nat.lt_succ_self _)]

theorem lexN_fuel : ∀ (f g cnt : Nat) (s : List UInt8), s.length < f → s.length < g → lexN f cnt s = lexN g cnt s
  | 0, _, _, _, h, _ => by omega
  | _ + 1, 0, _, _, _, h => by omega
  | f + 1, g + 1, cnt, s, hf, hg => by
    unfold lexN
    cases hs : skip false s with
    | nil => rfl
    | cons c r =>
      simp only
      cases hn : nextTok c r with
      | error e => rfl
      | ok t =>
        simp only
        have h1 := skip_cons_len hs
        have h2 := next_width hn
        rw [lexN_fuel f g _ _ (by simp; omega) (by simp; omega)]

theorem lx_eq (cnt : Nat) (s : List UInt8) : lx cnt s = match skip false s with
    | [] => .ok []
    | c :: r =>
      match nextTok c r with
      | .error e => .error (e, s.length - (r.length + 1))
      | .ok t => if cnt = 5000 then .error (2, s.length - (r.length + 1)) else
          shiftR (s.length - (r.length + 1) + t.width) [(s.length - (r.length + 1), t)] (lx (cnt + 1) ((c :: r).drop t.width)) := by
  rw [lx, lexN]
  cases hs : skip false s with
  | nil => rfl
  | cons c r =>
    simp only
    cases hn : nextTok c r with
    | error e => rfl
    | ok t =>
      simp only
      have h1 := skip_cons_len hs
      have h2 := next_width hn
      rw [lx, lexN_fuel s.length _ _ _ (by simp; omega) (Nat.lt_succ_self _)]

theorem lexN_lu : ∀ (f cnt : Nat) (s : List UInt8), s.length < f → cnt + s.length ≤ 5000 → lexN f cnt s = luN f s
  | 0, _, _, h, _ => by omega
  | f + 1, cnt, s, hf, hc => by
    unfold lexN luN
    cases hs : skip false s with
    | nil => rfl
    | cons c r =>
      simp only
      cases hn : nextTok c r with
      | error e => rfl
      | ok t =>
        simp only
        have h1 := skip_cons_len hs
        have h2 := next_width hn
        rw [if_neg (by omega), lexN_lu f _ _ (by simp; omega) (by simp; omega)]

theorem lx_lu {s : List UInt8} (h : s.length ≤ 5000) : lx 0 s = lu s := lexN_lu _ _ _ (Nat.lt_succ_self _) (by omega)

theorem lex_lu {s : List UInt8} (h : s.length ≤ 5000) : lex s = match lu s with | .error (e, o) => ([], (e : Int), (o : Int)) | .ok l => (l, 0, 0) := by
  rw [lex, if_neg (by omega), lx_lu h]
  cases lu s <;> rfl

/-! ### shifting -/

theorem shift_shift (i j : Nat) (l : List (Nat × Tk)) : shift i (shift j l) = shift (i + j) l := by
  simp [shift, Nat.add_assoc]
theorem shift_zero (l : List (Nat × Tk)) : shift 0 l = l := by
  simp [shift]
theorem shift_append (i : Nat) (l m : List (Nat × Tk)) : shift i (l ++ m) = shift i l ++ shift i m := by simp [shift]
theorem shift_length (i : Nat) (l : List (Nat × Tk)) : (shift i l).length = l.length := by simp [shift]
theorem shift_get (i k : Nat) (l : List (Nat × Tk)) : (shift i l)[k]? = l[k]?.map fun p => (i + p.1, p.2) := by simp [shift]
theorem shiftR_shiftR (i j : Nat) (a b : List (Nat × Tk)) (r : Res) : shiftR i a (shiftR j b r) = shiftR (i + j) (a ++ shift i b) r := by
  cases r <;> simp [shiftR, shift_append, shift_shift, Nat.add_assoc]
theorem shiftR_zero (r : Res) : shiftR 0 [] r = r := by
  cases r <;> simp [shiftR, shift_zero]

/-! ### gaps ahead -/

theorem skip_free (b : Bool) (s : List UInt8) : ∃ p, s = p ++ skip b s ∧ skip b p = [] ∧ (skip b s ≠ [] → ∀ x, gapHead x = false → ∀ y, skip b (p ++ x :: y) = x :: y) := by
  induction s generalizing b with
  | nil => exact ⟨[], by cases b <;> simp [skip], by cases b <;> simp [skip], fun h => by cases b <;> simp [skip] at h⟩
  | cons c s ih =>
    cases b
    · simp only [skip]
      split
      · rename_i h1
        obtain ⟨p, h2, h3, h4⟩ := ih false
        exact ⟨c :: p, by rw [List.cons_append, ← h2], by simp [skip, h1, h3], fun hn x hx y => by simp [skip, h1, h4 hn x hx y]⟩
      · rename_i h1
        split
        · rename_i h2
          obtain ⟨p, h3, h4, h5⟩ := ih true
          exact ⟨c :: p, by rw [List.cons_append, ← h3], by subst h2; simp [skip, h4, isBlank], fun hn x hx y => by subst h2; simp [skip, isBlank, h5 hn x hx y]⟩
        · refine ⟨[], rfl, rfl, fun _ x hx y => ?_⟩
          simp [gapHead] at hx
          simp [skip, hx]
    · simp only [skip]
      split
      · rename_i h1
        obtain ⟨p, h2, h3, h4⟩ := ih false
        exact ⟨c :: p, by rw [List.cons_append, ← h2], by simp [skip, h1, h3], fun hn x hx y => by simp [skip, h1, h4 hn x hx y]⟩
      · rename_i h1
        obtain ⟨p, h2, h3, h4⟩ := ih true
        exact ⟨c :: p, by rw [List.cons_append, ← h2], by simp [skip, h1, h3], fun hn x hx y => by simp [skip, h1, h4 hn x hx y]⟩

theorem lu_gap {u q : List UInt8} (h : skip false (u ++ q) = skip false q) : lu (u ++ q) = shiftR u.length [] (lu q) := by
  rw [lu_eq, lu_eq q, h]
  cases hs : skip false q with
  | nil => rfl
  | cons c r =>
    have h1 := skip_cons_len hs
    simp only
    cases hn : nextTok c r with
    | error e => simp only [shiftR, List.length_append]; congr 2; omega
    | ok t =>
      simp only
      rw [shiftR_shiftR]
      have e1 : (u ++ q).length - (r.length + 1) = u.length + (q.length - (r.length + 1)) := by simp; omega
      rw [e1]
      simp [shift, Nat.add_assoc]

/-- the first step of a text that does not begin with gaps alone -/
theorem lu_step {p : List UInt8} {c : UInt8} {r : List UInt8} (h : skip false (p ++ c :: r) = c :: r) : lu (p ++ c :: r) =
    match nextTok c r with
    | .error e => .error (e, p.length)
    | .ok t => shiftR (p.length + t.width) [(p.length, t)] (lu ((c :: r).drop t.width)) := by
  rw [lu_eq, h]
  simp only
  have e1 : (p ++ c :: r).length - (r.length + 1) = p.length := by simp
  rw [e1]

/-! ### P7.4 -/

theorem lu_line (q : List UInt8) : ∀ (n : Nat) (p : List UInt8), p.length ≤ n → lu (p ++ 10 :: q) = match lu p with | .error x => .error x | .ok l => shiftR (p.length + 1) l (lu q) := by
  intro n
  induction n with
  | zero =>
    intro p hp
    have : p = [] := List.length_eq_zero_iff.1 (by omega)
    subst this
    rw [lu_eq [], show ([] : List UInt8) ++ 10 :: q = [10] ++ q from rfl, lu_gap (by simp [skip, isBlank])]
    rfl
  | succ n ih =>
    intro p hp
    obtain ⟨g, h1, h2, h3⟩ := skip_free false p
    cases hs : skip false p with
    | nil =>
      have e : p ++ 10 :: q = (p ++ [10]) ++ q := by simp
      rw [lu_eq p, hs, e, lu_gap (by rw [← e]; exact skip_line hs)]
      simp
    | cons c r =>
      rw [hs] at h1 h3
      have hg : gapHead c = false := skip_head hs
      have h4 := h3 (by simp) c hg
      have e : p ++ 10 :: q = g ++ c :: (r ++ 10 :: q) := by
        conv => lhs; rw [h1]
        simp
      rw [e, lu_step (h4 _), nextTok_line]
      conv => rhs; rw [h1, lu_step (h4 _)]
      cases hn : nextTok c r with
      | error x => rfl
      | ok t =>
        simp only
        have hw := next_width hn
        have hl : p.length = g.length + (r.length + 1) := by
          have := congrArg List.length h1
          simpa using this
        have e2 : (c :: (r ++ 10 :: q)).drop t.width = (c :: r).drop t.width ++ 10 :: q := by
          rw [← List.cons_append, List.drop_append_of_le_length (by simpa using hw.2)]
        rw [e2, ih _ (by simp; omega)]
        cases hr : lu ((c :: r).drop t.width) with
        | error x => rfl
        | ok l =>
          have e3 : g.length + t.width + ((List.drop t.width (c :: r)).length + 1) = (g ++ c :: r).length + 1 := by simp; omega
          rw [shiftR_shiftR, e3]
          rfl

theorem lu_parts (p q : List UInt8) : lu (p ++ 10 :: q) = match lu p with | .error x => .error x | .ok l => shiftR (p.length + 1) l (lu q) := lu_line q _ p (Nat.le_refl _)

/-! ### what a text's tokens are -/

def endAt (l : List (Nat × Tk)) : Nat → Nat
  | 0 => 0
  | i + 1 => (l[i]?.map fun p => p.1 + p.2.width).getD 0

theorem endAt_shift (k : Nat) (l : List (Nat × Tk)) (i : Nat) (h : i < l.length) : endAt (shift k l) (i + 1) = k + endAt l (i + 1) := by
  simp [endAt, shift_get, List.getElem?_eq_getElem h, Nat.add_assoc]

structure Places (s : List UInt8) (l : List (Nat × Tk)) : Prop where
  ok : ∀ (i : Nat) (p : Nat × Tk), l[i]? = some p → TokOK p.2
  le : ∀ (i : Nat) (p : Nat × Tk), l[i]? = some p → endAt l i ≤ p.1
  fits : ∀ (i : Nat) (p : Nat × Tk), l[i]? = some p → p.1 + p.2.width ≤ s.length
  here : ∀ (i : Nat) (p : Nat × Tk), l[i]? = some p → (s.drop p.1).take p.2.width = p.2.written
  gap : ∀ (i : Nat) (p : Nat × Tk), l[i]? = some p → skip false ((s.drop (endAt l i)).take (p.1 - endAt l i)) = []
  last : endAt l l.length ≤ s.length
  rest : skip false (s.drop (endAt l l.length)) = []
  good : ∀ (i : Nat) (p : Nat × Tk), l[i]? = some p → Good p.2 (s.drop (p.1 + p.2.width))

theorem getElem?_cons_shift (k : Nat) (x : Nat × Tk) (l : List (Nat × Tk)) (i : Nat) (p : Nat × Tk) (h : (x :: shift k l)[i]? = some p) :
    (i = 0 ∧ p = x) ∨ ∃ j q, i = j + 1 ∧ l[j]? = some q ∧ p = (k + q.1, q.2) := by
  cases i with
  | zero => simp at h; exact .inl ⟨rfl, h.symm⟩
  | succ j =>
    simp [shift_get] at h
    obtain ⟨a, b, h1, h2⟩ := h
    exact .inr ⟨j, (a, b), rfl, h1, h2.symm⟩

theorem endAt_cons (k : Nat) (x : Nat × Tk) (l : List (Nat × Tk)) (j : Nat) (hk : k = x.1 + x.2.width) (hj : j ≤ l.length) : endAt (x :: shift k l) (j + 1) = k + endAt l j := by
  cases j with
  | zero => simp [endAt, hk]
  | succ j => simp [endAt, shift_get, List.getElem?_eq_getElem (show j < l.length by omega), Nat.add_assoc]

theorem places : ∀ (n : Nat) (s : List UInt8) (l : List (Nat × Tk)), s.length ≤ n → lu s = .ok l → Places s l := by
  intro n
  induction n with
  | zero =>
    intro s l hn h
    have : s = [] := List.length_eq_zero_iff.1 (by omega)
    subst this
    rw [lu_eq] at h
    cases h
    exact ⟨fun i p hp => by simp at hp, fun i p hp => by simp at hp, fun i p hp => by simp at hp, fun i p hp => by simp at hp, fun i p hp => by simp at hp, Nat.le_refl _, rfl, fun i p hp => by simp at hp⟩
  | succ n ih =>
    intro s l hn h
    obtain ⟨g, h1, h2, h3⟩ := skip_free false s
    cases hs : skip false s with
    | nil =>
      rw [lu_eq, hs] at h
      cases h
      exact ⟨fun i p hp => by simp at hp, fun i p hp => by simp at hp, fun i p hp => by simp at hp, fun i p hp => by simp at hp, fun i p hp => by simp at hp, Nat.zero_le _, by simpa [endAt] using hs, fun i p hp => by simp at hp⟩
    | cons c r =>
      rw [hs] at h1 h3
      have hg : gapHead c = false := skip_head hs
      have h4 := h3 (by simp) c hg
      have hstep := lu_step (h4 r)
      rw [← h1, h] at hstep
      cases hk : nextTok c r with
      | error e => rw [hk] at hstep; cases hstep
      | ok t =>
        rw [hk] at hstep
        simp only at hstep
        have hw := next_width hk
        obtain ⟨hok, r', hr', hgood⟩ := nextTok_ok hk
        have hl : s.length = g.length + (r.length + 1) := by
          have := congrArg List.length h1
          simpa using this
        cases hm : lu ((c :: r).drop t.width) with
        | error x => rw [hm] at hstep; cases hstep
        | ok m =>
          rw [hm] at hstep
          simp only [shiftR, Except.ok.injEq, List.cons_append, List.nil_append] at hstep
          have P := ih _ _ (by simp; omega) hm
          have hd : ∀ k, s.drop (g.length + t.width + k) = ((c :: r).drop t.width).drop k := fun k => by
            conv => lhs; rw [h1]
            rw [List.drop_append, List.drop_eq_nil_of_le (by omega), List.nil_append, List.drop_drop]
            congr 1
            omega
          have hd0 : s.drop (g.length + t.width) = (c :: r).drop t.width := hd 0
          have hdr : (c :: r).drop t.width = r' := by
            rw [hr', ← written_length, List.drop_append, List.drop_length, Nat.sub_self]; rfl
          subst hstep
          have hE := fun j hj => endAt_cons (g.length + t.width) (g.length, t) m j rfl hj
          refine ⟨?_, ?_, ?_, ?_, ?_, ?_, ?_, ?_⟩
          · intro i p hp
            rcases getElem?_cons_shift _ _ _ _ _ hp with ⟨rfl, rfl⟩ | ⟨j, q, rfl, hq, rfl⟩
            · exact hok
            · exact P.ok j q hq
          · intro i p hp
            rcases getElem?_cons_shift _ _ _ _ _ hp with ⟨rfl, rfl⟩ | ⟨j, q, rfl, hq, rfl⟩
            · exact Nat.zero_le _
            · have hj : j < m.length := (List.getElem?_eq_some_iff.1 hq).1
              rw [hE j (by omega)]
              have := P.le j q hq
              simp only
              omega
          · intro i p hp
            rcases getElem?_cons_shift _ _ _ _ _ hp with ⟨rfl, rfl⟩ | ⟨j, q, rfl, hq, rfl⟩
            · simp only; omega
            · have := P.fits j q hq
              simp at this
              simp only
              omega
          · intro i p hp
            rcases getElem?_cons_shift _ _ _ _ _ hp with ⟨rfl, rfl⟩ | ⟨j, q, rfl, hq, rfl⟩
            · simp only
              conv => lhs; rw [h1]
              rw [List.drop_append, List.drop_length, Nat.sub_self, List.nil_append, List.drop_zero, hr', ← written_length, List.take_append, List.take_length, Nat.sub_self]
              simp
            · simp only
              rw [hd]
              exact P.here j q hq
          · intro i p hp
            rcases getElem?_cons_shift _ _ _ _ _ hp with ⟨rfl, rfl⟩ | ⟨j, q, rfl, hq, rfl⟩
            · simp only [endAt, List.drop_zero, Nat.sub_zero]
              conv => lhs; rw [h1]
              rw [List.take_append, List.take_length, Nat.sub_self]
              simpa using h2
            · have hj : j < m.length := (List.getElem?_eq_some_iff.1 hq).1
              rw [hE j (by omega)]
              simp only
              rw [hd, show g.length + t.width + q.1 - (g.length + t.width + endAt m j) = q.1 - endAt m j by omega]
              exact P.gap j q hq
          · rw [List.length_cons, shift_length, hE _ (Nat.le_refl _)]
            have := P.last
            simp at this
            omega
          · rw [List.length_cons, shift_length, hE _ (Nat.le_refl _), hd]
            exact P.rest
          · intro i p hp
            rcases getElem?_cons_shift _ _ _ _ _ hp with ⟨rfl, rfl⟩ | ⟨j, q, rfl, hq, rfl⟩
            · simp only
              rw [hd0, hdr]
              exact hgood
            · simp only
              rw [Nat.add_assoc, hd]
              exact P.good j q hq

theorem lu_places {s : List UInt8} {l : List (Nat × Tk)} (h : lu s = .ok l) : Places s l := places _ s l (Nat.le_refl _) h

/-! ### a token at the head -/

theorem skip_nongap {c : UInt8} (h : gapHead c = false) (r : List UInt8) : skip false (c :: r) = c :: r := by
  simp [gapHead] at h
  simp [skip, h]

theorem lu_tok {t : Tk} {r : List UInt8} (ht : TokOK t) (hr : Good t r) : lu (t.written ++ r) = shiftR t.width [(0, t)] (lu r) := by
  obtain ⟨c, b, hw, hg⟩ := ht.cons
  have h1 := nextTok_mk ht hw hr
  rw [hw, List.cons_append]
  have := lu_step (p := []) (c := c) (r := b ++ r) (skip_nongap hg _)
  rw [List.nil_append] at this
  rw [this, h1]
  simp only [List.length_nil, Nat.zero_add]
  have e : (c :: (b ++ r)).drop t.width = r := by
    rw [← List.cons_append, ← hw, ← written_length, List.drop_append, List.drop_length, Nat.sub_self]; rfl
  rw [e]

theorem Good.nil (t : Tk) : Good t [] := fun z hz => by simp at hz
theorem Good.gap (t : Tk) {z : UInt8} (hz : gapHead z = true) (r : List UInt8) : Good t (z :: r) := by
  intro y hy
  simp at hy
  subst hy
  simp [gapHead, isBlank] at hz
  rcases hz with ((rfl | rfl) | rfl) | rfl <;> exact ⟨fun _ => by decide, fun _ => by decide, fun _ _ => by decide⟩
theorem Good.head {t : Tk} {r q : List UInt8} (h : Good t r) (e : ∀ z, q.head? = some z → r.head? = some z) : Good t q := fun z hz => h z (e z hz)

theorem head_take {r : List UInt8} {k : Nat} {z : UInt8} (h : (r.take k).head? = some z) : r.head? = some z := by
  cases k with
  | zero => simp at h
  | succ k => cases r <;> simp at h ⊢ <;> exact h

/-- the first token of a text, taken apart -/
theorem first {s : List UInt8} {c : UInt8} {r : List UInt8} {t : Tk} (hs : skip false s = c :: r) (hn : nextTok c r = .ok t) :
    ∃ g q, s = g ++ (t.written ++ q) ∧ skip false g = [] ∧ TokOK t ∧ Good t q ∧ (c :: r).drop t.width = q ∧ (∀ y, lu (g ++ (t.written ++ y)) = shiftR g.length [] (lu (t.written ++ y))) := by
  obtain ⟨g, h1, h2, h3⟩ := skip_free false s
  rw [hs] at h1 h3
  have hg : gapHead c = false := skip_head hs
  obtain ⟨hok, q, hq, hgood⟩ := nextTok_ok hn
  refine ⟨g, q, by rw [h1, hq], h2, hok, hgood, ?_, ?_⟩
  · rw [hq, ← written_length, List.drop_append, List.drop_length, Nat.sub_self]; rfl
  · intro y
    obtain ⟨c', b, hw, hg'⟩ := hok.cons
    apply lu_gap
    rw [hw, List.cons_append, h3 (by simp) c' hg', skip_nongap hg']

theorem lu_gaps {g : List UInt8} (h : skip false g = []) : lu g = .ok [] := by rw [lu_eq, h]

/-- every text is gaps, or gaps and an error, or gaps, a token and a text -/
theorem lu_cases (s : List UInt8) :
    (skip false s = [] ∧ lu s = .ok []) ∨
    (∃ g c r e, s = g ++ c :: r ∧ skip false g = [] ∧ nextTok c r = .error e ∧ gapHead c = false ∧ lu s = .error (e, g.length)) ∨
    (∃ g t q, s = g ++ (t.written ++ q) ∧ skip false g = [] ∧ TokOK t ∧ Good t q ∧ lu s = shiftR (g.length + t.width) [(g.length, t)] (lu q) ∧ (∀ y, lu (g ++ (t.written ++ y)) = shiftR g.length [] (lu (t.written ++ y)))) := by
  cases hs : skip false s with
  | nil => exact .inl ⟨rfl, lu_gaps hs⟩
  | cons c r =>
    cases hn : nextTok c r with
    | error e =>
      obtain ⟨g, h1, h2, h3⟩ := skip_free false s
      rw [hs] at h1 h3
      have hg : gapHead c = false := skip_head hs
      refine .inr (.inl ⟨g, c, r, e, h1, h2, hn, hg, ?_⟩)
      have := lu_step (h3 (by simp) c hg r)
      rw [hn, ← h1] at this
      exact this
    | ok t =>
      obtain ⟨g, q, h1, h2, h3, h4, h5, h6⟩ := first hs hn
      refine .inr (.inr ⟨g, t, q, h1, h2, h3, h4, ?_, h6⟩)
      rw [h1, h6, lu_tok h3 h4, shiftR_shiftR]
      simp [shift]

/-! ### P7.5 -/

theorem beginnings : ∀ (n : Nat) (s : List UInt8) (e o : Nat), s.length ≤ n → lu s = .error (e, o) →
    o < s.length ∧ (∃ l, lu (s.take o) = .ok l) ∧ lu (s.drop o) = .error (e, 0) := by
  intro n
  induction n with
  | zero =>
    intro s e o hn h
    have : s = [] := List.length_eq_zero_iff.1 (by omega)
    subst this
    rw [lu_eq] at h
    cases h
  | succ n ih =>
    intro s e o hn h
    rcases lu_cases s with ⟨_, h1⟩ | ⟨g, c, r, e', rfl, h2, h3, h4, h5⟩ | ⟨g, t, q, rfl, h2, h3, h4, h5, h6⟩
    · rw [h1] at h; cases h
    · rw [h] at h5
      simp only [Except.error.injEq, Prod.mk.injEq] at h5
      obtain ⟨rfl, rfl⟩ := h5
      refine ⟨by simp, ⟨[], ?_⟩, ?_⟩
      · rw [List.take_append, List.take_length, Nat.sub_self]
        simpa using lu_gaps h2
      · rw [List.drop_append, List.drop_length, Nat.sub_self]
        have := lu_step (p := []) (c := c) (r := r) (skip_nongap h4 r)
        rw [h3] at this
        simpa using this
    · rw [h] at h5
      cases hq : lu q with
      | ok l => rw [hq] at h5; cases h5
      | error x =>
        obtain ⟨e1, o1⟩ := x
        rw [hq] at h5
        simp only [shiftR, Except.error.injEq, Prod.mk.injEq] at h5
        obtain ⟨rfl, rfl⟩ := h5
        have hwp := h3.width_pos
        have hwl := written_length t
        obtain ⟨i1, ⟨l, i2⟩, i3⟩ := ih q e o1 (by simp at hn; omega) hq
        refine ⟨by simp; omega, ?_, ?_⟩
        · have e2 : (g ++ (t.written ++ q)).take (g.length + t.width + o1) = g ++ (t.written ++ q.take o1) := by
            rw [List.take_append, List.take_of_length_le (by omega), List.take_append, List.take_of_length_le (by omega)]
            congr 3
            omega
          rw [e2, h6, lu_tok h3 (h4.head fun z hz => head_take hz), i2]
          exact ⟨_, rfl⟩
        · have e2 : (g ++ (t.written ++ q)).drop (g.length + t.width + o1) = q.drop o1 := by
            rw [List.drop_append, List.drop_eq_nil_of_le (by omega), List.drop_append, List.drop_eq_nil_of_le (by omega)]
            simp only [List.nil_append]
            congr 1
            omega
          rw [e2, i3]

/-! ### P7.6 -/

theorem split_at : ∀ (k : Nat) (s : List UInt8) (l : List (Nat × Tk)), lu s = .ok l → k ≤ l.length →
    endAt l k ≤ s.length ∧ ∃ l2, lu (s.drop (endAt l k)) = .ok l2 ∧ l = l.take k ++ shift (endAt l k) l2 ∧
      ∀ tail, (tail = [] ∨ ∃ z y, tail = z :: y ∧ gapHead z = true) → lu (s.take (endAt l k) ++ tail) = shiftR (endAt l k) (l.take k) (lu tail) := by
  intro k
  induction k with
  | zero =>
    intro s l h _
    refine ⟨Nat.zero_le _, l, by simpa [endAt] using h, by simp [endAt, shift_zero], fun tail _ => ?_⟩
    simp [endAt, shiftR_zero]
  | succ k ih =>
    intro s l h hk
    rcases lu_cases s with ⟨_, h1⟩ | ⟨g, c, r, e', rfl, h2, h3, h4, h5⟩ | ⟨g, t, q, rfl, h2, h3, h4, h5, h6⟩
    · rw [h1] at h; cases h; simp at hk
    · rw [h] at h5; cases h5
    · rw [h] at h5
      cases hq : lu q with
      | error x => rw [hq] at h5; cases h5
      | ok m =>
        rw [hq] at h5
        simp only [shiftR, Except.ok.injEq, List.cons_append, List.nil_append] at h5
        subst h5
        have hwl := written_length t
        simp only [List.length_cons, shift_length] at hk
        obtain ⟨i0, l2, i1, i2, i3⟩ := ih q m hq (by omega)
        have hE := endAt_cons (g.length + t.width) (g.length, t) m k rfl (by omega)
        rw [hE]
        refine ⟨by simp; omega, l2, ?_, ?_, ?_⟩
        · have e2 : (g ++ (t.written ++ q)).drop (g.length + t.width + endAt m k) = q.drop (endAt m k) := by
            rw [List.drop_append, List.drop_eq_nil_of_le (by omega), List.drop_append, List.drop_eq_nil_of_le (by omega)]
            simp only [List.nil_append]
            congr 1
            omega
          rw [e2, i1]
        · rw [List.take_succ_cons, List.cons_append]
          congr 1
          have e3 : List.take k (shift (g.length + t.width) m) = shift (g.length + t.width) (m.take k) := by simp [shift]
          rw [e3]
          conv => lhs; rw [i2]
          rw [shift_append, shift_shift]
        · intro tail ht
          have e2 : (g ++ (t.written ++ q)).take (g.length + t.width + endAt m k) ++ tail = g ++ (t.written ++ (q.take (endAt m k) ++ tail)) := by
            rw [List.take_append, List.take_of_length_le (by omega), List.take_append, List.take_of_length_le (by omega)]
            simp only [List.append_assoc]
            congr 4
            omega
          have hgood : Good t (q.take (endAt m k) ++ tail) := by
            cases hz : q.take (endAt m k) with
            | nil =>
              rcases ht with rfl | ⟨z, y, rfl, hzz⟩
              · exact Good.nil t
              · exact Good.gap t hzz y
            | cons z y =>
              refine h4.head fun z' hz' => ?_
              simp at hz'
              exact head_take (by rw [hz, List.head?_cons, hz'])
          rw [e2, h6, lu_tok h3 hgood, i3 tail ht, shiftR_shiftR, shiftR_shiftR]
          have e3 : List.take k (shift (g.length + t.width) m) = shift (g.length + t.width) (m.take k) := by simp [shift]
          rw [List.take_succ_cons, e3]
          simp [shift, Nat.add_assoc]

def toks (l : List (Nat × Tk)) : List Tk := l.map (·.2)
theorem toks_shift (k : Nat) (l : List (Nat × Tk)) : toks (shift k l) = toks l := by simp [toks, shift]
theorem toks_append (l m : List (Nat × Tk)) : toks (l ++ m) = toks l ++ toks m := by simp [toks]

theorem gaps_more {s G : List UInt8} {l : List (Nat × Tk)} (h : lu s = .ok l) (hG : skip false G = []) (k : Nat) (hk : k ≤ l.length) :
    ∃ m, lu (G ++ [10] ++ s.take (endAt l k) ++ (G ++ [10]) ++ s.drop (endAt l k) ++ [10] ++ G) = .ok m ∧ toks m = toks l := by
  obtain ⟨h0, l2, h1, h2, h3⟩ := split_at k s l h hk
  have e : G ++ [10] ++ s.take (endAt l k) ++ (G ++ [10]) ++ s.drop (endAt l k) ++ [10] ++ G =
      G ++ 10 :: (s.take (endAt l k) ++ (G ++ 10 :: (s.drop (endAt l k) ++ 10 :: G))) := by simp
  have hh : G ++ 10 :: (s.drop (endAt l k) ++ 10 :: G) = [] ∨ ∃ z y, G ++ 10 :: (s.drop (endAt l k) ++ 10 :: G) = z :: y ∧ gapHead z = true := by
    cases G with
    | nil => exact .inr ⟨10, _, rfl, by decide⟩
    | cons z y =>
      refine .inr ⟨z, _, rfl, ?_⟩
      simp only [skip] at hG
      split at hG
      · rename_i hb; simp [gapHead, hb]
      · split at hG
        · rename_i hb; simp [gapHead, hb]
        · cases hG
  rw [e, lu_parts, lu_gaps hG]
  simp only
  rw [h3 _ hh, lu_parts G, lu_gaps hG]
  simp only
  rw [lu_parts, h1]
  simp only
  rw [lu_gaps hG]
  refine ⟨_, rfl, ?_⟩
  conv => rhs; rw [h2]
  simp only [toks_append, toks_shift, shift_append]
  simp [toks]

/-! ### P7.7 -/

theorem longest {s : List UInt8} {l : List (Nat × Tk)} (h : lu s = .ok l) {i : Nat} {p q : Nat × Tk} (hp : l[i]? = some p) (hq : l[i + 1]? = some q)
    (he : p.1 + p.2.width = q.1) {m : List (Nat × Tk)} (hm : lu (p.2.written ++ q.2.written) = .ok m) : m.length ≠ 1 := by
  have P := lu_places h
  have hgood : Good p.2 q.2.written := by
    refine (P.good i p hp).head fun z hz => ?_
    rw [he]
    have := P.here (i + 1) q hq
    rw [← this] at hz
    exact head_take hz
  rw [lu_tok (P.ok i p hp) hgood] at hm
  obtain ⟨c, b, hw, hg⟩ := (P.ok (i + 1) q hq).cons
  rw [hw] at hm
  rcases lu_cases (c :: b) with ⟨h1, _⟩ | ⟨g, c, r, e', _, h2, h3, h4, h5⟩ | ⟨g, t, q, _, h2, h3, h4, h5, h6⟩
  · rw [skip_nongap hg] at h1; cases h1
  · rw [h5] at hm; cases hm
  · rw [h5] at hm
    cases hx : lu q with
    | error x => rw [hx] at hm; cases hm
    | ok y =>
      rw [hx] at hm
      simp only [shiftR, Except.ok.injEq] at hm
      rw [← hm]
      simp [shift]

/-! ### P7.3 -/

def allOf (l : List (Nat × Tk)) : List UInt8 := l.flatMap fun p => p.2.written ++ [32]

theorem allOf_cons (x : Nat × Tk) (l : List (Nat × Tk)) : allOf (x :: l) = x.2.written ++ 32 :: allOf l := by simp [allOf]
theorem allOf_shift (k : Nat) (l : List (Nat × Tk)) : allOf (shift k l) = allOf l := by simp [allOf, shift, List.flatMap_map]

theorem again : ∀ (l : List (Nat × Tk)), (∀ p ∈ l, TokOK p.2) → ∃ m, lu (allOf l) = .ok m ∧ toks m = toks l := by
  intro l
  induction l with
  | nil => intro _; exact ⟨[], rfl, rfl⟩
  | cons x l ih =>
    intro h
    obtain ⟨m, h1, h2⟩ := ih fun p hp => h p (List.mem_cons_of_mem _ hp)
    have hx := h x List.mem_cons_self
    have e : lu (32 :: allOf l) = shiftR 1 [] (lu (allOf l)) := lu_gap (u := [32]) (by simp [skip, isBlank])
    rw [allOf_cons, lu_tok hx (Good.gap _ (by decide) _), e, h1]
    exact ⟨_, rfl, by simp [toks, shift] at h2 ⊢; exact h2⟩

theorem allOf_length : ∀ (n : Nat) (s : List UInt8) (l : List (Nat × Tk)), s.length ≤ n → lu s = .ok l → (allOf l).length ≤ 2 * s.length := by
  intro n
  induction n with
  | zero =>
    intro s l hn h
    have : s = [] := List.length_eq_zero_iff.1 (by omega)
    subst this
    rw [lu_eq] at h
    cases h
    simp [allOf]
  | succ n ih =>
    intro s l hn h
    rcases lu_cases s with ⟨_, h1⟩ | ⟨g, c, r, e', rfl, h2, h3, h4, h5⟩ | ⟨g, t, q, rfl, h2, h3, h4, h5, h6⟩
    · rw [h1] at h; cases h; simp [allOf]
    · rw [h] at h5; cases h5
    · rw [h] at h5
      cases hq : lu q with
      | error x => rw [hq] at h5; cases h5
      | ok m =>
        rw [hq] at h5
        simp only [shiftR, Except.ok.injEq, List.cons_append, List.nil_append] at h5
        subst h5
        have hwp := h3.width_pos
        have hwl := written_length t
        have := ih q m (by simp at hn; omega) hq
        rw [allOf_cons, allOf_shift]
        simp
        omega

theorem lu_ok {s : List UInt8} {l : List (Nat × Tk)} (h : lu s = .ok l) : ∀ p ∈ l, TokOK p.2 := by
  intro p hp
  obtain ⟨i, hi⟩ := List.getElem?_of_mem hp
  exact (lu_places h).ok i p hi

/-! ### P7.8 -/

theorem words {name d x : List UInt8} {c : UInt8} {n : Nat} (h1 : TokOK ⟨1, 0, name⟩) (h2 : TokOK ⟨4, 0, [c]⟩) (h3 : TokOK ⟨2, n, d⟩) (h4 : TokOK ⟨3, 0, x⟩) :
    lu (name ++ [c] ++ d ++ [34] ++ x ++ [34]) = .ok [(0, ⟨1, 0, name⟩), (name.length, ⟨4, 0, [c]⟩), (name.length + 1, ⟨2, n, d⟩), (name.length + 1 + d.length, ⟨3, 0, x⟩)] := by
  have hc : isWord c = false := by
    rcases h2 with ⟨h, _⟩ | ⟨h, _⟩ | ⟨h, _⟩ | ⟨_, _, c', ⟨h, _⟩ | ⟨h, h5⟩⟩
    · exact absurd h (by simp)
    · exact absurd h (by simp)
    · exact absurd h (by simp)
    · simp at h
    · simp only [List.cons.injEq, and_true] at h
      subst h
      rcases h5 with h5 | h5
      · simp [isAngle] at h5
        rcases h5 with rfl | rfl <;> decide
      · simp [isPlain] at h5
        rcases h5 with h | h | h | h | h | h | h | h | h | h | h | h | h <;> subst h <;> decide
  have hd : ∃ a b, d = a :: b ∧ isDigit a = true := by
    rcases h3 with ⟨h, _⟩ | ⟨_, _, _, h4, h5⟩ | ⟨h, _⟩ | ⟨h, _⟩
    · exact absurd h (by simp)
    · dsimp only at h4 h5
      cases d with
      | nil => exact absurd rfl h5
      | cons a b => simp at h4; exact ⟨a, b, rfl, h4.1⟩
    · exact absurd h (by simp)
    · exact absurd h (by simp)
  obtain ⟨a, b, hab, ha⟩ := hd
  have ha61 : a ≠ 61 := by intro h; subst h; exact absurd ha (by decide)
  have g1 : Good ⟨1, 0, name⟩ ([c] ++ (d ++ (34 :: (x ++ [34])))) := by
    intro z hz
    simp at hz
    subst hz
    exact ⟨fun _ => hc, fun h => absurd h (by simp), fun h => absurd h (by simp)⟩
  have g2 : Good ⟨4, 0, [c]⟩ (d ++ (34 :: (x ++ [34]))) := by
    intro z hz
    rw [hab] at hz
    simp at hz
    subst hz
    exact ⟨fun h => absurd h (by simp), fun h => absurd h (by simp), fun _ _ => ha61⟩
  have g3 : Good ⟨2, n, d⟩ (34 :: (x ++ [34])) := by
    intro z hz
    simp at hz
    subst hz
    exact ⟨fun h => absurd h (by simp), fun _ => by decide, fun h => absurd h (by simp)⟩
  have e : name ++ [c] ++ d ++ [34] ++ x ++ [34] = (Tk.mk 1 0 name).written ++ ((Tk.mk 4 0 [c]).written ++ ((Tk.mk 2 n d).written ++ ((Tk.mk 3 0 x).written ++ []))) := by
    simp [Tk.written]
  have w1 : (Tk.mk 4 0 [c]).written = [c] := rfl
  have w2 : (Tk.mk 2 n d).written = d := rfl
  have w3 : (Tk.mk 3 0 x).written = 34 :: (x ++ [34]) := rfl
  rw [e, lu_tok h1 (by rw [w1, w2, w3, List.append_nil]; exact g1), lu_tok h2 (by rw [w2, w3, List.append_nil]; exact g2), lu_tok h3 (by rw [w3, List.append_nil]; exact g3), lu_tok h4 (Good.nil _)]
  rw [show lu [] = .ok [] from rfl]
  simp [shiftR, shift, Tk.width]
  omega

end Lx
