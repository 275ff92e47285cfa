/-
 Several texts in one: ZLexLaws, ZLexMore, ZFaPure, ZFaLaws, ZLiPure, ZLiName, ZLiText. Conditions: as each law says.
-/
import Derived.Test.YtdchjacccmajcaaGreatDoorZLexPure
import Derived.Test.YtdchjacccmajcaaGreatDoorZMPlain
namespace Lx

/-- without the bound on the number of tokens -/
def luN : Nat → List UInt8 → Res
 | 0, _ => .ok []
 | f + 1, s =>
  match skip false s with
  | [] => .ok []
  | c :: r =>
   match nextTok c r with
   | .error e => .error (e, s.length - (r.length + 1))
   | .ok t => shiftR (s.length - (r.length + 1) + t.width) [(s.length - (r.length + 1), t)] (luN f ((c :: r).drop t.width))

def lu (s : List UInt8) : Res := luN (s.length + 1) s

theorem skip_cons_len {b : Bool} {s : List UInt8} {c : UInt8} {r : List UInt8} (h : skip b s = c :: r) : r.length + 1 ≤ s.length := by
 have := skip_length b s
 rw [h] at this
 simpa using this

theorem next_width {c : UInt8} {s : List UInt8} {t : Tk} (h : nextTok c s = .ok t) : 0 < t.width ∧ t.width ≤ s.length + 1 := by
 obtain ⟨h1, r, h2, _⟩ := nextTok_ok h
 refine ⟨h1.width_pos, ?_⟩
 rw [← written_length]
 have := congrArg List.length h2
 simp at this
 omega

theorem luN_fuel : ∀ (f g : Nat) (s : List UInt8), s.length < f → s.length < g → luN f s = luN g s
 | 0, _, _, h, _ => by omega
 | _ + 1, 0, _, _, h => by omega
 | f + 1, g + 1, s, hf, hg => by
  unfold luN
  cases hs : skip false s with
  | nil => rfl
  | cons c r =>
   simp only
   cases hn : nextTok c r with
   | error e => rfl
   | ok t =>
    simp only
    have h1 := skip_cons_len hs
    have h2 := next_width hn
    rw [luN_fuel f g _ (by simp; omega) (by simp; omega)]

theorem lu_eq (s : List UInt8) : lu s = match skip false s with
  | [] => .ok []
  | c :: r =>
   match nextTok c r with
   | .error e => .error (e, s.length - (r.length + 1))
   | .ok t => shiftR (s.length - (r.length + 1) + t.width) [(s.length - (r.length + 1), t)] (lu ((c :: r).drop t.width)) := by
 rw [lu, luN]
 cases hs : skip false s with
 | nil => rfl
 | cons c r =>
  simp only
  cases hn : nextTok c r with
  | error e => rfl
  | ok t =>
   simp only
   have h1 := skip_cons_len hs
   have h2 := next_width hn
   rw [lu, luN_fuel s.length _ _ (by simp; omega) (Nat.lt_succ_self _)]

theorem lexN_fuel : ∀ (f g cnt : Nat) (s : List UInt8), s.length < f → s.length < g → lexN f cnt s = lexN g cnt s
 | 0, _, _, _, h, _ => by omega
 | _ + 1, 0, _, _, _, h => by omega
 | f + 1, g + 1, cnt, s, hf, hg => by
  unfold lexN
  cases hs : skip false s with
  | nil => rfl
  | cons c r =>
   simp only
   cases hn : nextTok c r with
   | error e => rfl
   | ok t =>
    simp only
    have h1 := skip_cons_len hs
    have h2 := next_width hn
    rw [lexN_fuel f g _ _ (by simp; omega) (by simp; omega)]

theorem lx_eq (cnt : Nat) (s : List UInt8) : lx cnt s = match skip false s with
  | [] => .ok []
  | c :: r =>
   match nextTok c r with
   | .error e => .error (e, s.length - (r.length + 1))
   | .ok t => if cnt = 5000 then .error (2, s.length - (r.length + 1)) else
     shiftR (s.length - (r.length + 1) + t.width) [(s.length - (r.length + 1), t)] (lx (cnt + 1) ((c :: r).drop t.width)) := by
 rw [lx, lexN]
 cases hs : skip false s with
 | nil => rfl
 | cons c r =>
  simp only
  cases hn : nextTok c r with
  | error e => rfl
  | ok t =>
   simp only
   have h1 := skip_cons_len hs
   have h2 := next_width hn
   rw [lx, lexN_fuel s.length _ _ _ (by simp; omega) (Nat.lt_succ_self _)]

theorem lexN_lu : ∀ (f cnt : Nat) (s : List UInt8), s.length < f → cnt + s.length ≤ 5000 → lexN f cnt s = luN f s
 | 0, _, _, h, _ => by omega
 | f + 1, cnt, s, hf, hc => by
  unfold lexN luN
  cases hs : skip false s with
  | nil => rfl
  | cons c r =>
   simp only
   cases hn : nextTok c r with
   | error e => rfl
   | ok t =>
    simp only
    have h1 := skip_cons_len hs
    have h2 := next_width hn
    rw [if_neg (by omega), lexN_lu f _ _ (by simp; omega) (by simp; omega)]

theorem lx_lu {s : List UInt8} (h : s.length ≤ 5000) : lx 0 s = lu s := lexN_lu _ _ _ (Nat.lt_succ_self _) (by omega)

theorem lex_lu {s : List UInt8} (h : s.length ≤ 5000) : lex s = match lu s with | .error (e, o) => ([], (e : Int), (o : Int)) | .ok l => (l, 0, 0) := by
 rw [lex, if_neg (by omega), lx_lu h]
 cases lu s <;> rfl

/-! ### shifting -/

theorem shift_shift (i j : Nat) (l : List (Nat × Tk)) : shift i (shift j l) = shift (i + j) l := by
 simp [shift, Nat.add_assoc]
theorem shift_zero (l : List (Nat × Tk)) : shift 0 l = l := by
 simp [shift]
theorem shift_append (i : Nat) (l m : List (Nat × Tk)) : shift i (l ++ m) = shift i l ++ shift i m := by simp [shift]
theorem shift_length (i : Nat) (l : List (Nat × Tk)) : (shift i l).length = l.length := by simp [shift]
theorem shift_get (i k : Nat) (l : List (Nat × Tk)) : (shift i l)[k]? = l[k]?.map fun p => (i + p.1, p.2) := by simp [shift]
theorem shiftR_shiftR (i j : Nat) (a b : List (Nat × Tk)) (r : Res) : shiftR i a (shiftR j b r) = shiftR (i + j) (a ++ shift i b) r := by
 cases r <;> simp [shiftR, shift_append, shift_shift, Nat.add_assoc]
theorem shiftR_zero (r : Res) : shiftR 0 [] r = r := by
 cases r <;> simp [shiftR, shift_zero]

/-! ### gaps ahead -/

theorem skip_free (b : Bool) (s : List UInt8) : ∃ p, s = p ++ skip b s ∧ skip b p = [] ∧ (skip b s ≠ [] → ∀ x, gapHead x = false → ∀ y, skip b (p ++ x :: y) = x :: y) := by
 induction s generalizing b with
 | nil => exact ⟨[], by cases b <;> simp [skip], by cases b <;> simp [skip], fun h => by cases b <;> simp [skip] at h⟩
 | cons c s ih =>
  cases b
  ·simp only [skip]
   split
   ·rename_i h1
    obtain ⟨p, h2, h3, h4⟩ := ih false
    exact ⟨c :: p, by rw [List.cons_append, ← h2], by simp [skip, h1, h3], fun hn x hx y => by simp [skip, h1, h4 hn x hx y]⟩
   ·rename_i h1
    split
    ·rename_i h2
     obtain ⟨p, h3, h4, h5⟩ := ih true
     exact ⟨c :: p, by rw [List.cons_append, ← h3], by subst h2; simp [skip, h4, isBlank], fun hn x hx y => by subst h2; simp [skip, isBlank, h5 hn x hx y]⟩
    ·refine ⟨[], rfl, rfl, fun _ x hx y => ?_⟩
     simp [gapHead] at hx
     simp [skip, hx]
  ·simp only [skip]
   split
   ·rename_i h1
    obtain ⟨p, h2, h3, h4⟩ := ih false
    exact ⟨c :: p, by rw [List.cons_append, ← h2], by simp [skip, h1, h3], fun hn x hx y => by simp [skip, h1, h4 hn x hx y]⟩
   ·rename_i h1
    obtain ⟨p, h2, h3, h4⟩ := ih true
    exact ⟨c :: p, by rw [List.cons_append, ← h2], by simp [skip, h1, h3], fun hn x hx y => by simp [skip, h1, h4 hn x hx y]⟩

theorem lu_gap {u q : List UInt8} (h : skip false (u ++ q) = skip false q) : lu (u ++ q) = shiftR u.length [] (lu q) := by
 rw [lu_eq, lu_eq q, h]
 cases hs : skip false q with
 | nil => rfl
 | cons c r =>
  have h1 := skip_cons_len hs
  simp only
  cases hn : nextTok c r with
  | error e => simp only [shiftR, List.length_append]; congr 2; omega
  | ok t =>
   simp only
   rw [shiftR_shiftR]
   have e1 : (u ++ q).length - (r.length + 1) = u.length + (q.length - (r.length + 1)) := by simp; omega
   rw [e1]
   simp [shift, Nat.add_assoc]

/-- the first step of a text that does not begin with gaps alone -/
theorem lu_step {p : List UInt8} {c : UInt8} {r : List UInt8} (h : skip false (p ++ c :: r) = c :: r) : lu (p ++ c :: r) =
  match nextTok c r with
  | .error e => .error (e, p.length)
  | .ok t => shiftR (p.length + t.width) [(p.length, t)] (lu ((c :: r).drop t.width)) := by
 rw [lu_eq, h]
 simp only
 have e1 : (p ++ c :: r).length - (r.length + 1) = p.length := by simp
 rw [e1]

/-! ### P7.4 -/

def endAt (l : List (Nat × Tk)) : Nat → Nat
 | 0 => 0
 | i + 1 => (l[i]?.map fun p => p.1 + p.2.width).getD 0

structure Places (s : List UInt8) (l : List (Nat × Tk)) : Prop where
 ok : ∀ (i : Nat) (p : Nat × Tk), l[i]? = some p → TokOK p.2
 le : ∀ (i : Nat) (p : Nat × Tk), l[i]? = some p → endAt l i ≤ p.1
 fits : ∀ (i : Nat) (p : Nat × Tk), l[i]? = some p → p.1 + p.2.width ≤ s.length
 here : ∀ (i : Nat) (p : Nat × Tk), l[i]? = some p → (s.drop p.1).take p.2.width = p.2.written
 gap : ∀ (i : Nat) (p : Nat × Tk), l[i]? = some p → skip false ((s.drop (endAt l i)).take (p.1 - endAt l i)) = []
 last : endAt l l.length ≤ s.length
 rest : skip false (s.drop (endAt l l.length)) = []
 good : ∀ (i : Nat) (p : Nat × Tk), l[i]? = some p → Good p.2 (s.drop (p.1 + p.2.width))

theorem getElem?_cons_shift (k : Nat) (x : Nat × Tk) (l : List (Nat × Tk)) (i : Nat) (p : Nat × Tk) (h : (x :: shift k l)[i]? = some p) :
  (i = 0 ∧ p = x) ∨ ∃ j q, i = j + 1 ∧ l[j]? = some q ∧ p = (k + q.1, q.2) := by
 cases i with
 | zero => simp at h; exact .inl ⟨rfl, h.symm⟩
 | succ j =>
  simp [shift_get] at h
  obtain ⟨a, b, h1, h2⟩ := h
  exact .inr ⟨j, (a, b), rfl, h1, h2.symm⟩

theorem endAt_cons (k : Nat) (x : Nat × Tk) (l : List (Nat × Tk)) (j : Nat) (hk : k = x.1 + x.2.width) (hj : j ≤ l.length) : endAt (x :: shift k l) (j + 1) = k + endAt l j := by
 cases j with
 | zero => simp [endAt, hk]
 | succ j => simp [endAt, shift_get, List.getElem?_eq_getElem (show j < l.length by omega), Nat.add_assoc]

theorem places : ∀ (n : Nat) (s : List UInt8) (l : List (Nat × Tk)), s.length ≤ n → lu s = .ok l → Places s l := by
 intro n
 induction n with
 | zero =>
  intro s l hn h
  have : s = [] := List.length_eq_zero_iff.1 (by omega)
  subst this
  rw [lu_eq] at h
  cases h
  exact ⟨fun i p hp => by simp at hp, fun i p hp => by simp at hp, fun i p hp => by simp at hp, fun i p hp => by simp at hp, fun i p hp => by simp at hp, Nat.le_refl _, rfl, fun i p hp => by simp at hp⟩
 | succ n ih =>
  intro s l hn h
  obtain ⟨g, h1, h2, h3⟩ := skip_free false s
  cases hs : skip false s with
  | nil =>
   rw [lu_eq, hs] at h
   cases h
   exact ⟨fun i p hp => by simp at hp, fun i p hp => by simp at hp, fun i p hp => by simp at hp, fun i p hp => by simp at hp, fun i p hp => by simp at hp, Nat.zero_le _, by simpa [endAt] using hs, fun i p hp => by simp at hp⟩
  | cons c r =>
   rw [hs] at h1 h3
   have hg : gapHead c = false := skip_head hs
   have h4 := h3 (by simp) c hg
   have hstep := lu_step (h4 r)
   rw [← h1, h] at hstep
   cases hk : nextTok c r with
   | error e => rw [hk] at hstep; cases hstep
   | ok t =>
    rw [hk] at hstep
    simp only at hstep
    have hw := next_width hk
    obtain ⟨hok, r', hr', hgood⟩ := nextTok_ok hk
    have hl : s.length = g.length + (r.length + 1) := by
     have := congrArg List.length h1
     simpa using this
    cases hm : lu ((c :: r).drop t.width) with
    | error x => rw [hm] at hstep; cases hstep
    | ok m =>
     rw [hm] at hstep
     simp only [shiftR, Except.ok.injEq, List.cons_append, List.nil_append] at hstep
     have P := ih _ _ (by simp; omega) hm
     have hd : ∀ k, s.drop (g.length + t.width + k) = ((c :: r).drop t.width).drop k := fun k => by
      conv => lhs; rw [h1]
      rw [List.drop_append, List.drop_eq_nil_of_le (by omega), List.nil_append, List.drop_drop]
      congr 1
      omega
     have hd0 : s.drop (g.length + t.width) = (c :: r).drop t.width := hd 0
     have hdr : (c :: r).drop t.width = r' := by
      rw [hr', ← written_length, List.drop_append, List.drop_length, Nat.sub_self]; rfl
     subst hstep
     have hE := fun j hj => endAt_cons (g.length + t.width) (g.length, t) m j rfl hj
     refine ⟨?_, ?_, ?_, ?_, ?_, ?_, ?_, ?_⟩
     ·intro i p hp
      rcases getElem?_cons_shift _ _ _ _ _ hp with ⟨rfl, rfl⟩ | ⟨j, q, rfl, hq, rfl⟩
      ·exact hok
      ·exact P.ok j q hq
     ·intro i p hp
      rcases getElem?_cons_shift _ _ _ _ _ hp with ⟨rfl, rfl⟩ | ⟨j, q, rfl, hq, rfl⟩
      ·exact Nat.zero_le _
      ·have hj : j < m.length := (List.getElem?_eq_some_iff.1 hq).1
       rw [hE j (by omega)]
       have := P.le j q hq
       simp only
       omega
     ·intro i p hp
      rcases getElem?_cons_shift _ _ _ _ _ hp with ⟨rfl, rfl⟩ | ⟨j, q, rfl, hq, rfl⟩
      ·simp only; omega
      ·have := P.fits j q hq
       simp at this
       simp only
       omega
     ·intro i p hp
      rcases getElem?_cons_shift _ _ _ _ _ hp with ⟨rfl, rfl⟩ | ⟨j, q, rfl, hq, rfl⟩
      ·simp only
       conv => lhs; rw [h1]
       rw [List.drop_append, List.drop_length, Nat.sub_self, List.nil_append, List.drop_zero, hr', ← written_length, List.take_append, List.take_length, Nat.sub_self]
       simp
      ·simp only
       rw [hd]
       exact P.here j q hq
     ·intro i p hp
      rcases getElem?_cons_shift _ _ _ _ _ hp with ⟨rfl, rfl⟩ | ⟨j, q, rfl, hq, rfl⟩
      ·simp only [endAt, List.drop_zero, Nat.sub_zero]
       conv => lhs; rw [h1]
       rw [List.take_append, List.take_length, Nat.sub_self]
       simpa using h2
      ·have hj : j < m.length := (List.getElem?_eq_some_iff.1 hq).1
       rw [hE j (by omega)]
       simp only
       rw [hd, show g.length + t.width + q.1 - (g.length + t.width + endAt m j) = q.1 - endAt m j by omega]
       exact P.gap j q hq
     ·rw [List.length_cons, shift_length, hE _ (Nat.le_refl _)]
      have := P.last
      simp at this
      omega
     ·rw [List.length_cons, shift_length, hE _ (Nat.le_refl _), hd]
      exact P.rest
     ·intro i p hp
      rcases getElem?_cons_shift _ _ _ _ _ hp with ⟨rfl, rfl⟩ | ⟨j, q, rfl, hq, rfl⟩
      ·simp only
       rw [hd0, hdr]
       exact hgood
      ·simp only
       rw [Nat.add_assoc, hd]
       exact P.good j q hq

theorem lu_places {s : List UInt8} {l : List (Nat × Tk)} (h : lu s = .ok l) : Places s l := places _ s l (Nat.le_refl _) h

/-! ### a token at the head -/

theorem skip_nongap {c : UInt8} (h : gapHead c = false) (r : List UInt8) : skip false (c :: r) = c :: r := by
 simp [gapHead] at h
 simp [skip, h]

theorem lu_tok {t : Tk} {r : List UInt8} (ht : TokOK t) (hr : Good t r) : lu (t.written ++ r) = shiftR t.width [(0, t)] (lu r) := by
 obtain ⟨c, b, hw, hg⟩ := ht.cons
 have h1 := nextTok_mk ht hw hr
 rw [hw, List.cons_append]
 have := lu_step (p := []) (c := c) (r := b ++ r) (skip_nongap hg _)
 rw [List.nil_append] at this
 rw [this, h1]
 simp only [List.length_nil, Nat.zero_add]
 have e : (c :: (b ++ r)).drop t.width = r := by
  rw [← List.cons_append, ← hw, ← written_length, List.drop_append, List.drop_length, Nat.sub_self]; rfl
 rw [e]

theorem Good.nil (t : Tk) : Good t [] := fun z hz => by simp at hz
theorem Good.gap (t : Tk) {z : UInt8} (hz : gapHead z = true) (r : List UInt8) : Good t (z :: r) := by
 intro y hy
 simp at hy
 subst hy
 simp [gapHead, isBlank] at hz
 rcases hz with ((rfl | rfl) | rfl) | rfl <;> exact ⟨fun _ => by decide, fun _ => by decide, fun _ _ => by decide⟩
theorem Good.head {t : Tk} {r q : List UInt8} (h : Good t r) (e : ∀ z, q.head? = some z → r.head? = some z) : Good t q := fun z hz => h z (e z hz)

/-- the first token of a text, taken apart -/
theorem first {s : List UInt8} {c : UInt8} {r : List UInt8} {t : Tk} (hs : skip false s = c :: r) (hn : nextTok c r = .ok t) :
  ∃ g q, s = g ++ (t.written ++ q) ∧ skip false g = [] ∧ TokOK t ∧ Good t q ∧ (c :: r).drop t.width = q ∧ (∀ y, lu (g ++ (t.written ++ y)) = shiftR g.length [] (lu (t.written ++ y))) := by
 obtain ⟨g, h1, h2, h3⟩ := skip_free false s
 rw [hs] at h1 h3
 have hg : gapHead c = false := skip_head hs
 obtain ⟨hok, q, hq, hgood⟩ := nextTok_ok hn
 refine ⟨g, q, by rw [h1, hq], h2, hok, hgood, ?_, ?_⟩
 ·rw [hq, ← written_length, List.drop_append, List.drop_length, Nat.sub_self]; rfl
 ·intro y
  obtain ⟨c', b, hw, hg'⟩ := hok.cons
  apply lu_gap
  rw [hw, List.cons_append, h3 (by simp) c' hg', skip_nongap hg']

theorem lu_gaps {g : List UInt8} (h : skip false g = []) : lu g = .ok [] := by rw [lu_eq, h]

/-- every text is gaps, or gaps and an error, or gaps, a token and a text -/
theorem lu_cases (s : List UInt8) :
  (skip false s = [] ∧ lu s = .ok []) ∨
  (∃ g c r e, s = g ++ c :: r ∧ skip false g = [] ∧ nextTok c r = .error e ∧ gapHead c = false ∧ lu s = .error (e, g.length)) ∨
  (∃ g t q, s = g ++ (t.written ++ q) ∧ skip false g = [] ∧ TokOK t ∧ Good t q ∧ lu s = shiftR (g.length + t.width) [(g.length, t)] (lu q) ∧ (∀ y, lu (g ++ (t.written ++ y)) = shiftR g.length [] (lu (t.written ++ y)))) := by
 cases hs : skip false s with
 | nil => exact .inl ⟨rfl, lu_gaps hs⟩
 | cons c r =>
  cases hn : nextTok c r with
  | error e =>
   obtain ⟨g, h1, h2, h3⟩ := skip_free false s
   rw [hs] at h1 h3
   have hg : gapHead c = false := skip_head hs
   refine .inr (.inl ⟨g, c, r, e, h1, h2, hn, hg, ?_⟩)
   have := lu_step (h3 (by simp) c hg r)
   rw [hn, ← h1] at this
   exact this
  | ok t =>
   obtain ⟨g, q, h1, h2, h3, h4, h5, h6⟩ := first hs hn
   refine .inr (.inr ⟨g, t, q, h1, h2, h3, h4, ?_, h6⟩)
   rw [h1, h6, lu_tok h3 h4, shiftR_shiftR]
   simp [shift]

/-! ### P7.5 -/

def toks (l : List (Nat × Tk)) : List Tk := l.map (·.2)
theorem toks_shift (k : Nat) (l : List (Nat × Tk)) : toks (shift k l) = toks l := by simp [toks, shift]
theorem toks_append (l m : List (Nat × Tk)) : toks (l ++ m) = toks l ++ toks m := by simp [toks]

theorem lu_ok {s : List UInt8} {l : List (Nat × Tk)} (h : lu s = .ok l) : ∀ p ∈ l, TokOK p.2 := by
 intro p hp
 obtain ⟨i, hi⟩ := List.getElem?_of_mem hp
 exact (lu_places h).ok i p hi

/-! ### P7.8 -/

theorem words {name d x : List UInt8} {c : UInt8} {n : Nat} (h1 : TokOK ⟨1, 0, name⟩) (h2 : TokOK ⟨4, 0, [c]⟩) (h3 : TokOK ⟨2, n, d⟩) (h4 : TokOK ⟨3, 0, x⟩) :
  lu (name ++ [c] ++ d ++ [34] ++ x ++ [34]) = .ok [(0, ⟨1, 0, name⟩), (name.length, ⟨4, 0, [c]⟩), (name.length + 1, ⟨2, n, d⟩), (name.length + 1 + d.length, ⟨3, 0, x⟩)] := by
 have hc : isWord c = false := by
  rcases h2 with ⟨h, _⟩ | ⟨h, _⟩ | ⟨h, _⟩ | ⟨_, _, c', ⟨h, _⟩ | ⟨h, h5⟩⟩
  ·exact absurd h (by simp)
  ·exact absurd h (by simp)
  ·exact absurd h (by simp)
  ·simp at h
  ·simp only [List.cons.injEq, and_true] at h
   subst h
   rcases h5 with h5 | h5
   ·simp [isAngle] at h5
    rcases h5 with rfl | rfl <;> decide
   ·simp [isPlain] at h5
    rcases h5 with h | h | h | h | h | h | h | h | h | h | h | h | h <;> subst h <;> decide
 have hd : ∃ a b, d = a :: b ∧ isDigit a = true := by
  rcases h3 with ⟨h, _⟩ | ⟨_, _, _, h4, h5⟩ | ⟨h, _⟩ | ⟨h, _⟩
  ·exact absurd h (by simp)
  ·dsimp only at h4 h5
   cases d with
   | nil => exact absurd rfl h5
   | cons a b => simp at h4; exact ⟨a, b, rfl, h4.1⟩
  ·exact absurd h (by simp)
  ·exact absurd h (by simp)
 obtain ⟨a, b, hab, ha⟩ := hd
 have ha61 : a ≠ 61 := by intro h; subst h; exact absurd ha (by decide)
 have g1 : Good ⟨1, 0, name⟩ ([c] ++ (d ++ (34 :: (x ++ [34])))) := by
  intro z hz
  simp at hz
  subst hz
  exact ⟨fun _ => hc, fun h => absurd h (by simp), fun h => absurd h (by simp)⟩
 have g2 : Good ⟨4, 0, [c]⟩ (d ++ (34 :: (x ++ [34]))) := by
  intro z hz
  rw [hab] at hz
  simp at hz
  subst hz
  exact ⟨fun h => absurd h (by simp), fun h => absurd h (by simp), fun _ _ => ha61⟩
 have g3 : Good ⟨2, n, d⟩ (34 :: (x ++ [34])) := by
  intro z hz
  simp at hz
  subst hz
  exact ⟨fun h => absurd h (by simp), fun _ => by decide, fun h => absurd h (by simp)⟩
 have e : name ++ [c] ++ d ++ [34] ++ x ++ [34] = (Tk.mk 1 0 name).written ++ ((Tk.mk 4 0 [c]).written ++ ((Tk.mk 2 n d).written ++ ((Tk.mk 3 0 x).written ++ []))) := by
  simp [Tk.written]
 have w1 : (Tk.mk 4 0 [c]).written = [c] := rfl
 have w2 : (Tk.mk 2 n d).written = d := rfl
 have w3 : (Tk.mk 3 0 x).written = 34 :: (x ++ [34]) := rfl
 rw [e, lu_tok h1 (by rw [w1, w2, w3, List.append_nil]; exact g1), lu_tok h2 (by rw [w2, w3, List.append_nil]; exact g2), lu_tok h3 (by rw [w3, List.append_nil]; exact g3), lu_tok h4 (Good.nil _)]
 rw [show lu [] = .ok [] from rfl]
 simp [shiftR, shift, Tk.width]
 omega

end Lx

namespace Lx

theorem lexN_bound : ∀ (f cnt : Nat) (s : List UInt8) (l : List (Nat × Tk)), lexN f cnt s = .ok l → ∀ p ∈ l, p.1 ≤ s.length
 | 0, cnt, s, l, h, p, hp => by simp [lexN] at h; subst h; simp at hp
 | f + 1, cnt, s, l, h, p, hp => by
  rw [lexN] at h
  split at h
  ·simp at h; subst h; simp at hp
  ·rename_i c r hs
   split at h
   ·simp at h
   ·rename_i t ht
    split at h
    ·simp at h
    ·have hlen := skip_cons_len hs
     have hw := next_width ht
     cases hr : lexN f (cnt + 1) ((c :: r).drop t.width) with
     | error e => rw [hr] at h; simp [shiftR] at h
     | ok m =>
      rw [hr] at h
      simp only [shiftR, Except.ok.injEq] at h
      subst h
      simp only [List.cons_append, List.nil_append, List.mem_cons, shift, List.mem_map] at hp
      rcases hp with rfl | ⟨q, hq, rfl⟩
      ·simp
      ·have := lexN_bound f (cnt + 1) _ m hr q hq
       simp at this ⊢
       omega

theorem value_snoc' (d : List UInt8) (c : UInt8) : value (d ++ [c]) = 10 * value d + (c.toNat - 48) := by
 simp [value]

/-- the digits of a number -/
def dec (n : Nat) : List UInt8 := if n < 10 then [UInt8.ofNat (48 + n)] else dec (n / 10) ++ [UInt8.ofNat (48 + n % 10)]
termination_by n

theorem dec_small {n : Nat} (h : n < 10) : dec n = [UInt8.ofNat (48 + n)] := by rw [dec, if_pos h]
theorem dec_big {n : Nat} (h : ¬ n < 10) : dec n = dec (n / 10) ++ dec (n % 10) := by
 rw [dec, if_neg h, dec_small (by omega : n % 10 < 10)]

theorem digit_of {k : Nat} (h : k < 10) : isDigit (UInt8.ofNat (48 + k)) = true ∧ (UInt8.ofNat (48 + k)).toNat = 48 + k := by
 have e : (UInt8.ofNat (48 + k)).toNat = 48 + k := by simp; omega
 refine ⟨?_, e⟩
 simp only [isDigit, Bool.and_eq_true, decide_eq_true_eq, UInt8.le_iff_toNat_le]
 rw [e]
 exact ⟨by show 48 ≤ _; omega, by show _ ≤ 57; omega⟩

theorem dec_facts (n : Nat) : (dec n).all isDigit = true ∧ dec n ≠ [] ∧ value (dec n) = n ∧ ∀ k, 0 < k → n < 10 ^ k → (dec n).length ≤ k := by
 induction n using Nat.strongRecOn with
 | _ n ih =>
  by_cases h : n < 10
  ·rw [dec_small h]
   obtain ⟨h1, h2⟩ := digit_of h
   refine ⟨by rw [List.all_cons, h1]; rfl, List.cons_ne_nil _ _, ?_, fun k hk _ => hk⟩
   simp only [value, List.foldl_cons, List.foldl_nil]
   rw [h2]; omega
  ·obtain ⟨i1, i2, i3, i4⟩ := ih (n / 10) (by omega)
   obtain ⟨h1, h2⟩ := digit_of (k := n % 10) (by omega)
   rw [dec, if_neg h]
   refine ⟨by rw [List.all_append, i1, List.all_cons, h1]; rfl, by simp, ?_, fun k hk hn => ?_⟩
   ·rw [value_snoc', i3, h2]; omega
   ·match k, hk with
    | 1, _ => omega
    | k + 2, _ =>
     have := i4 (k + 1) (by omega) (by rw [Nat.pow_succ] at hn; omega)
     simp; omega

end Lx

namespace Fa

abbrev T := Nat × Lx.Tk

structure Fact where
 name : List UInt8
 kind : Int
 lo : Int
 hi : Int
 deriving DecidableEq

abbrev Dom := List Fact
abbrev Fail := Int × Int

/-- is this a name? -/
def nm (t : List UInt8) : Bool := t.all Lx.isWord && decide (0 < t.length) && decide (t.length ≤ 24) && t.head?.any Lx.isLetter

def okKind (f : Fact) : Bool := (decide (f.kind = 1) && decide (f.lo = 0) && decide (f.hi = 1)) || (decide (f.kind = 2) && decide (0 ≤ f.lo) && decide (f.lo ≤ f.hi) && decide (f.hi ≤ 1000000))

def valid (d : Dom) : Bool := d.all (fun f => okKind f && nm f.name) && decide ((d.map Fact.name).Nodup) && decide (d.length ≤ 60)

def within (p : Fact × Int) : Bool := decide (p.1.lo ≤ p.2) && decide (p.2 ≤ p.1.hi)
def fits (d : Dom) (c : List Int) : Bool := valid d && decide (c.length = d.length) && (d.zip c).all within

/-- where a name stands, from k on; -1 if nowhere -/
def idxL : Dom → List UInt8 → Nat → Int
 | [], _, _ => -1
 | f :: l, a, k => if f.name = a then (k : Int) else idxL l a (k + 1)
def idx (d : Dom) (a : List UInt8) : Int := idxL d a 0

/-! ### texts -/

def tFlag : List UInt8 := [102, 108, 97, 103]
def tNumber : List UInt8 := [110, 117, 109, 98, 101, 114]
def tTo : List UInt8 := [116, 111]

def factText (f : Fact) : List UInt8 :=
 if f.kind = 1 then f.name ++ 32 :: tFlag ++ [59, 10] else f.name ++ 32 :: tNumber ++ 32 :: Lx.dec f.lo.toNat ++ 32 :: tTo ++ 32 :: Lx.dec f.hi.toNat ++ [59, 10]
def text (d : Dom) : List UInt8 := if valid d then d.flatMap factText else []

/-- the next token of a kind, and of a text unless that is empty -/
def take (k : Nat) (x : List UInt8) (e : Nat) : List T → Except Fail (T × List T)
 | [] => .error (6, e)
 | t :: r => if t.2.kind = k ∧ (x = [] ∨ t.2.text = x) then .ok (t, r) else .error (5, t.1)

/-- the range of a fact -/
def span (e : Nat) (ts : List T) : Except Fail ((Int × Int) × List T) :=
 match take 2 [] e ts with
 | .error x => .error x
 | .ok (lo, r1) =>
  if 1000000 < lo.2.n then .error (10, lo.1) else
  match take 1 tTo e r1 with
  | .error x => .error x
  | .ok (_, r2) =>
   match take 2 [] e r2 with
   | .error x => .error x
   | .ok (hi, r3) => if 1000000 < hi.2.n ∨ hi.2.n < lo.2.n then .error (10, hi.1) else .ok (((lo.2.n : Int), (hi.2.n : Int)), r3)

/-- what a kind's word is followed by -/
def ranges (w : List UInt8) (at_ : Nat) (e : Nat) (r : List T) : Except Fail ((Int × Int × Int) × List T) :=
 if w = tFlag then .ok ((1, 0, 1), r)
 else if w = tNumber then
  match span e r with
  | .error x => .error x
  | .ok ((lo, hi), r') => .ok ((2, lo, hi), r')
 else .error (5, at_)

/-- one fact -/
def factP (d : Dom) (e : Nat) (ts : List T) : Except Fail (Fact × List T) :=
 match take 1 [] e ts with
 | .error x => .error x
 | .ok (name, r1) =>
  if 0 ≤ idx d name.2.text then .error (9, name.1)
  else if d.length = 60 then .error (2, name.1)
  else
  match take 1 [] e r1 with
  | .error x => .error x
  | .ok (word, r2) =>
   match ranges word.2.text word.1 e r2 with
   | .error x => .error x
   | .ok ((k, lo, hi), r3) =>
    match take 4 [59] e r3 with
    | .error x => .error x
    | .ok (_, r4) => .ok (⟨name.2.text, k, lo, hi⟩, r4)

/-- all facts -/
def parseN : Nat → Dom → Nat → List T → Except Fail Dom
 | 0, d, _, _ => .ok d
 | n + 1, d, e, ts =>
  match ts with
  | [] => .ok d
  | t :: r =>
   match factP d e (t :: r) with
   | .error x => .error x
   | .ok (f, r') => parseN n (d ++ [f]) e r'
def parseT (d : Dom) (e : Nat) (ts : List T) : Except Fail Dom := parseN (ts.length + 1) d e ts

/-- what Parse returns -/
def parse (s : List UInt8) : Dom × Int × Int :=
 match Lx.lex s with
 | (l, x, y) => if x ≠ 0 then ([], x, y) else
  match parseT [] s.length l with
  | .error (a, b) => ([], a, b)
  | .ok d => (d, 0, 0)

def least (d : Dom) : List Int := if valid d then d.map Fact.lo else []

/-- the next one, from the last value on; both lists turned round -/
def up : List (Fact × Int) → Option (List Int)
 | [] => none
 | p :: l => if p.2 < p.1.hi then some ((p.2 + 1) :: l.map Prod.snd) else (up l).map fun r => p.1.lo :: r
def next (d : Dom) (c : List Int) : Option (List Int) := if fits d c then (up (d.zip c).reverse).map List.reverse else none

end Fa

namespace Fa
open Lx

/-! ### a piece of a text as tokens -/

/-- before r the bytes s are these tokens -/
def Rd (s : List UInt8) (L : List Tk) (r : List UInt8) : Prop := ∃ l, toks l = L ∧ lu (s ++ r) = shiftR s.length l (lu r)

theorem Rd.nil (r : List UInt8) : Rd [] [] r := ⟨[], rfl, by rw [List.nil_append, List.length_nil, shiftR_zero]⟩
theorem Rd.app {s s' r : List UInt8} {L L' : List Tk} (h : Rd s L (s' ++ r)) (h' : Rd s' L' r) : Rd (s ++ s') (L ++ L') r := by
 obtain ⟨l, e1, e2⟩ := h
 obtain ⟨l', e1', e2'⟩ := h'
 refine ⟨l ++ shift s.length l', by rw [toks_append, toks_shift, e1, e1'], ?_⟩
 rw [List.append_assoc, e2, e2', shiftR_shiftR, List.length_append]
theorem Rd.tok {t : Tk} {r : List UInt8} (ht : TokOK t) (hr : Good t r) (hk : t.kind ≠ 3) : Rd t.text [t] r := by
 have h := lu_tok ht hr
 have hw : t.written = t.text := by unfold Tk.written; rw [if_neg hk]
 refine ⟨[(0, t)], rfl, ?_⟩
 rw [hw] at h
 rw [h, ← written_length, hw]
theorem Rd.blank {z : UInt8} (hz : isBlank z = true) (r : List UInt8) : Rd [z] [] r :=
 ⟨[], rfl, lu_gap (u := [z]) (by simp [skip, hz])⟩
theorem ok_name {a : List UInt8} (h : nm a = true) : TokOK ⟨1, 0, a⟩ := by
 unfold nm at h
 simp only [Bool.and_eq_true, decide_eq_true_eq] at h
 obtain ⟨⟨⟨h1, h2⟩, h3⟩, h4⟩ := h
 refine .inl ⟨rfl, rfl, h3, h1, ?_⟩
 cases a with
 | nil => simp at h2
 | cons c s => exact ⟨c, s, rfl, by simpa using h4⟩
theorem ok_num {n : Nat} (h : n < 10000000000000) : TokOK ⟨2, n, dec n⟩ := by
 obtain ⟨h1, h2, h3, h4⟩ := dec_facts n
 exact .inr (.inl ⟨rfl, h3.symm, h4 13 (by decide) (by simpa using h), h1, h2⟩)
theorem ok_sym {c : UInt8} (h : isPlain c = true) : TokOK ⟨4, 0, [c]⟩ := .inr (.inr (.inr ⟨rfl, rfl, c, .inr ⟨rfl, .inr h⟩⟩))
theorem good_sym {c : UInt8} (h1 : c ≠ 60) (h2 : c ≠ 62) (r : List UInt8) : Good ⟨4, 0, [c]⟩ r := fun z _ =>
 ⟨fun h => absurd h (by simp), fun h => absurd h (by simp), fun _ h => by simp [h1, h2] at h⟩

/-! ### a fact's text -/

abbrev tkName (a : List UInt8) : Tk := ⟨1, 0, a⟩
abbrev tkNum (n : Nat) : Tk := ⟨2, n, dec n⟩
abbrev tkSym (c : UInt8) : Tk := ⟨4, 0, [c]⟩
theorem rd_name {a : List UInt8} (h : nm a = true) {r : List UInt8} (hr : Good (tkName a) r) : Rd a [tkName a] r := Rd.tok (t := tkName a) (ok_name h) hr (by simp)
theorem rd_num {n : Nat} (h : n < 10000000000000) {r : List UInt8} (hr : Good (tkNum n) r) : Rd (dec n) [tkNum n] r := Rd.tok (t := tkNum n) (ok_num h) hr (by simp)
theorem rd_sym {c : UInt8} (h : isPlain c = true) (h1 : c ≠ 60) (h2 : c ≠ 62) (r : List UInt8) : Rd [c] [tkSym c] r := Rd.tok (t := tkSym c) (ok_sym h) (good_sym h1 h2 r) (by simp)
theorem rd_blank (r : List UInt8) : Rd [32] [] r := Rd.blank (by decide) r

theorem valid_parts {d : Dom} (h : valid d = true) : (∀ f ∈ d, okKind f = true ∧ nm f.name = true) ∧ (d.map Fact.name).Nodup ∧ d.length ≤ 60 := by
 unfold valid at h
 simp only [Bool.and_eq_true, List.all_eq_true, decide_eq_true_eq] at h
 exact ⟨h.1.1, h.1.2, h.2⟩
theorem valid_mk {d : Dom} (h1 : ∀ f ∈ d, okKind f = true ∧ nm f.name = true) (h2 : (d.map Fact.name).Nodup) (h3 : d.length ≤ 60) : valid d = true := by
 unfold valid
 simp only [Bool.and_eq_true, List.all_eq_true, decide_eq_true_eq]
 exact ⟨⟨h1, h2⟩, h3⟩

theorem idxL_no : ∀ (d : Dom) (a : List UInt8) (k : Nat), a ∉ d.map Fact.name → idxL d a k = -1
 | [], _, _, _ => rfl
 | f :: d, a, k, h => by
  simp only [List.map_cons, List.mem_cons, not_or] at h
  rw [idxL, if_neg (fun e => h.1 e.symm)]
  exact idxL_no d a (k + 1) h.2
theorem idxL_yes : ∀ (d : Dom) (a : List UInt8) (k : Nat), a ∈ d.map Fact.name → ∃ i : Nat, idxL d a k = ((k + i : Nat) : Int) ∧ i < d.length ∧ (d.map Fact.name)[i]? = some a
 | [], _, _, h => by simp at h
 | f :: d, a, k, h => by
  rw [idxL]
  by_cases e : f.name = a
  ·rw [if_pos e]
   exact ⟨0, by simp, by simp, by simp [e]⟩
  ·rw [if_neg e]
   simp only [List.map_cons, List.mem_cons] at h
   obtain ⟨i, h1, h2, h3⟩ := idxL_yes d a (k + 1) (h.resolve_left fun e' => e e'.symm)
   exact ⟨i + 1, by rw [h1]; congr 1; omega, by simp; omega, by simpa using h3⟩
theorem idx_no {d : Dom} {a : List UInt8} (h : a ∉ d.map Fact.name) : idx d a = -1 := idxL_no d a 0 h
theorem idx_yes {d : Dom} {a : List UInt8} (h : a ∈ d.map Fact.name) : ∃ i : Nat, idx d a = (i : Int) ∧ i < d.length ∧ (d.map Fact.name)[i]? = some a := by
 obtain ⟨i, h1, h2, h3⟩ := idxL_yes d a 0 h
 exact ⟨i, by rw [idx, h1]; simp, h2, h3⟩
theorem idx_neg {d : Dom} {a : List UInt8} : idx d a < 0 ↔ a ∉ d.map Fact.name := by
 constructor
 ·intro h hm
  obtain ⟨i, h1, _⟩ := idx_yes hm
  omega
 ·intro h; rw [idx_no h]; decide
theorem toks_cons {ts : List T} {t : Tk} {L : List Tk} (h : toks ts = t :: L) : ∃ p r, ts = (p, t) :: r ∧ toks r = L := by
 cases ts with
 | nil => simp [toks] at h
 | cons q r =>
  simp only [toks, List.map_cons, List.cons.injEq] at h
  exact ⟨q.1, r, by rw [← h.1], h.2⟩
theorem take_cons (k : Nat) (x : List UInt8) (e : Nat) (t : T) (r : List T) : take k x e (t :: r) = if t.2.kind = k ∧ (x = [] ∨ t.2.text = x) then .ok (t, r) else .error (5, t.1) := rfl
theorem take_ok (k : Nat) (x : List UInt8) {e p : Nat} {t : Tk} {r : List T} (hk : t.kind = k) (hx : x = [] ∨ t.text = x) : take k x e ((p, t) :: r) = .ok ((p, t), r) := by
 show (if t.kind = k ∧ (x = [] ∨ t.text = x) then (Except.ok ((p, t), r) : Except Fail (T × List T)) else .error (5, p)) = _
 rw [if_pos ⟨hk, hx⟩]

theorem take_rest {k : Nat} {x : List UInt8} {e : Nat} {ts : List T} {t : T} {r : List T} (h : take k x e ts = .ok (t, r)) : ts = t :: r ∧ t.2.kind = k ∧ (x = [] ∨ t.2.text = x) := by
 cases ts with
 | nil => simp [take] at h
 | cons u s =>
  rw [take_cons] at h
  split at h
  ·rename_i hc
   simp only [Except.ok.injEq, Prod.mk.injEq] at h
   obtain ⟨rfl, rfl⟩ := h
   exact ⟨rfl, hc⟩
  ·simp at h
theorem take_err {k : Nat} {x : List UInt8} {e : Nat} {ts : List T} {a b : Int} (h : take k x e ts = .error (a, b)) (hp : ∀ p ∈ ts, p.1 ≤ e) : 0 < a ∧ b ≤ e := by
 cases ts with
 | nil => simp [take] at h; omega
 | cons u s =>
  rw [take_cons] at h
  have := hp u List.mem_cons_self
  split at h
  ·simp at h
  ·simp at h; omega

theorem span_out {e : Nat} {ts r : List T} {lo hi : Int} (h : span e ts = .ok ((lo, hi), r)) : 0 ≤ lo ∧ lo ≤ hi ∧ hi ≤ 1000000 ∧ r <:+ ts := by
 unfold span at h
 split at h
 ·simp at h
 ·rename_i t1 r1 h1
  obtain ⟨rfl, -, -⟩ := take_rest h1
  split at h
  ·simp at h
  ·split at h
   ·simp at h
   ·rename_i t2 r2 h2
    obtain ⟨rfl, -, -⟩ := take_rest h2
    split at h
    ·simp at h
    ·rename_i t3 r3 h3
     obtain ⟨rfl, -, -⟩ := take_rest h3
     split at h
     ·simp at h
     ·rename_i hc
      simp only [Except.ok.injEq, Prod.mk.injEq] at h
      obtain ⟨⟨rfl, rfl⟩, rfl⟩ := h
      refine ⟨by omega, by omega, by omega, ?_⟩
      exact ⟨[t1, t2, t3], rfl⟩
theorem span_err {e : Nat} {ts : List T} {a b : Int} (h : span e ts = .error (a, b)) (hp : ∀ p ∈ ts, p.1 ≤ e) : 0 < a ∧ b ≤ e := by
 unfold span at h
 split at h
 ·rename_i x h1
  simp at h; subst h
  exact take_err h1 hp
 ·rename_i t1 r1 h1
  obtain ⟨rfl, -, -⟩ := take_rest h1
  split at h
  ·simp at h
   have := hp t1 List.mem_cons_self
   omega
  ·split at h
   ·rename_i x h2
    simp at h; subst h
    exact take_err h2 fun p q => hp p (by simp [q])
   ·rename_i t2 r2 h2
    obtain ⟨rfl, -, -⟩ := take_rest h2
    split at h
    ·rename_i x h3
     simp at h; subst h
     exact take_err h3 fun p q => hp p (by simp [q])
    ·rename_i t3 r3 h3
     obtain ⟨rfl, -, -⟩ := take_rest h3
     split at h
     ·simp at h
      have := hp t3 (by simp)
      omega
     ·simp at h

theorem ranges_out {w : List UInt8} {p e : Nat} {ts r : List T} {k lo hi : Int} (h : ranges w p e ts = .ok ((k, lo, hi), r)) (a : List UInt8) : okKind ⟨a, k, lo, hi⟩ = true ∧ r <:+ ts := by
 unfold ranges at h
 split at h
 ·simp only [Except.ok.injEq, Prod.mk.injEq] at h
  obtain ⟨⟨rfl, rfl, rfl⟩, rfl⟩ := h
  exact ⟨rfl, List.suffix_refl _⟩
 ·split at h
  ·split at h
   ·simp at h
   ·rename_i lo' hi' r' hs
    simp only [Except.ok.injEq, Prod.mk.injEq] at h
    obtain ⟨⟨rfl, rfl, rfl⟩, rfl⟩ := h
    obtain ⟨h1, h2, h3, h4⟩ := span_out hs
    refine ⟨?_, h4⟩
    unfold okKind
    simp [h1, h2, h3]
  ·simp at h
theorem ranges_err {w : List UInt8} {p e : Nat} {ts : List T} {a b : Int} (h : ranges w p e ts = .error (a, b)) (hp : ∀ q ∈ ts, q.1 ≤ e) (hpe : p ≤ e) : 0 < a ∧ b ≤ e := by
 unfold ranges at h
 split at h
 ·simp at h
 ·split at h
  ·split at h
   ·rename_i x hs
    simp at h; subst h
    exact span_err hs hp
   ·simp at h
  ·simp at h; omega

theorem factP_out {acc : Dom} {e : Nat} {ts r : List T} {f : Fact} (h : factP acc e ts = .ok (f, r)) (hok : ∀ p ∈ ts, TokOK p.2) :
  okKind f = true ∧ nm f.name = true ∧ f.name ∉ acc.map Fact.name ∧ acc.length ≠ 60 ∧ r <:+ ts ∧ r.length < ts.length := by
 unfold factP at h
 split at h
 ·simp at h
 ·rename_i t1 r1 h1
  obtain ⟨rfl, k1, -⟩ := take_rest h1
  split at h
  ·simp at h
  ·rename_i hi
   split at h
   ·simp at h
   ·rename_i hl
    split at h
    ·simp at h
    ·rename_i t2 r2 h2
     obtain ⟨rfl, -, -⟩ := take_rest h2
     split at h
     ·simp at h
     ·rename_i k lo hi' r3 h3
      split at h
      ·simp at h
      ·rename_i t4 r4 h4
       obtain ⟨rfl, -, -⟩ := take_rest h4
       simp only [Except.ok.injEq, Prod.mk.injEq] at h
       obtain ⟨rfl, rfl⟩ := h
       obtain ⟨q1, q2⟩ := ranges_out h3 t1.2.text
       refine ⟨q1, ?_, idx_neg.1 (by simp only; omega), hl, ?_, ?_⟩
       ·have ht := hok t1 List.mem_cons_self
        rcases ht with ⟨_, _, x3, x4, c, s, x5, x6⟩ | ⟨x, _⟩ | ⟨x, _⟩ | ⟨x, _⟩
        ·unfold nm
         simp only
         rw [x4, x5, decide_eq_true (show (c :: s).length ≤ 24 by rw [← x5]; exact x3)]
         simp [x6]
        ·omega
        ·omega
        ·omega
       ·obtain ⟨m, hm⟩ := q2
        exact ⟨t1 :: t2 :: m ++ [t4], by simp [← hm]⟩
       ·obtain ⟨m, hm⟩ := q2
        rw [← hm]
        simp; omega
theorem factP_err {acc : Dom} {e : Nat} {ts : List T} {a b : Int} (h : factP acc e ts = .error (a, b)) (hp : ∀ p ∈ ts, p.1 ≤ e) : 0 < a ∧ b ≤ e := by
 unfold factP at h
 split at h
 ·rename_i x h1
  simp at h; subst h
  exact take_err h1 hp
 ·rename_i t1 r1 h1
  obtain ⟨rfl, -, -⟩ := take_rest h1
  have hp1 := hp t1 List.mem_cons_self
  split at h
  ·simp at h; omega
  ·split at h
   ·simp at h; omega
   ·split at h
    ·rename_i x h2
     simp at h; subst h
     exact take_err h2 fun p q => hp p (by simp [q])
    ·rename_i t2 r2 h2
     obtain ⟨rfl, -, -⟩ := take_rest h2
     split at h
     ·rename_i x h3
      simp at h; subst h
      exact ranges_err h3 (fun p q => hp p (by simp [q])) (hp t2 (by simp))
     ·rename_i k lo hi' r3 h3
      split at h
      ·rename_i x h4
       simp at h; subst h
       obtain ⟨m, hm⟩ := (ranges_out h3 []).2
       exact take_err h4 fun p q => hp p (by simp [← hm, q])
      ·simp at h

theorem parseN_out : ∀ (n : Nat) (acc : Dom) (e : Nat) (ts : List T) (d : Dom), (∀ p ∈ ts, TokOK p.2) → valid acc = true → parseN n acc e ts = .ok d → valid d = true
 | 0, acc, e, ts, d, _, hv, h => by simp [parseN] at h; rw [← h]; exact hv
 | n + 1, acc, e, ts, d, hok, hv, h => by
  cases ts with
  | nil => rw [parseN] at h; simp at h; rw [← h]; exact hv
  | cons t r =>
   rw [parseN] at h
   split at h
   ·simp at h
   ·rename_i f r' hf
    obtain ⟨q1, q2, q3, q4, ⟨m, hm⟩, _⟩ := factP_out hf hok
    obtain ⟨v1, v2, v3⟩ := valid_parts hv
    refine parseN_out n _ e r' d (fun p hp => hok p (by rw [← hm]; simp [hp])) (valid_mk ?_ ?_ ?_) h
    ·intro g hg
     rcases List.mem_append.1 hg with hg | hg
     ·exact v1 g hg
     ·simp at hg; subst hg; exact ⟨q1, q2⟩
    ·rw [List.map_append, List.nodup_append]
     refine ⟨v2, by simp, fun x hx y hy exy => ?_⟩
     simp at hy
     subst hy; subst exy
     exact q3 hx
    ·simp; omega
theorem parseN_err : ∀ (n : Nat) (acc : Dom) (e : Nat) (ts : List T) (a b : Int), (∀ p ∈ ts, TokOK p.2) → (∀ p ∈ ts, p.1 ≤ e) → parseN n acc e ts = .error (a, b) → 0 < a ∧ b ≤ e
 | 0, acc, e, ts, a, b, _, _, h => by simp [parseN] at h
 | n + 1, acc, e, ts, a, b, hok, hp, h => by
  cases ts with
  | nil => rw [parseN] at h; simp at h
  | cons t r =>
   rw [parseN] at h
   split at h
   ·rename_i x hf
    simp at h; subst h
    exact factP_err hf hp
   ·rename_i f r' hf
    obtain ⟨-, -, -, -, ⟨m, hm⟩, _⟩ := factP_out hf hok
    exact parseN_err n _ e r' a b (fun p hp' => hok p (by rw [← hm]; simp [hp'])) (fun p hp' => hp p (by rw [← hm]; simp [hp'])) h

theorem next_err_pos {c : UInt8} {s : List UInt8} {e : Nat} (h : nextTok c s = .error e) : 0 < e := by
 unfold nextTok at h
 repeat' (split at h)
 all_goals (cases h)
 all_goals omega
theorem lu_err : ∀ (n : Nat) (s : List UInt8) (e o : Nat), s.length ≤ n → lu s = .error (e, o) → 0 < e ∧ o ≤ s.length
 | 0, s, e, o, hn, h => by
  have : s = [] := List.length_eq_zero_iff.1 (by omega)
  subst this
  rw [lu_gaps (g := []) (by simp [skip])] at h
  cases h
 | n + 1, s, e, o, hn, h => by
  rcases lu_cases s with ⟨_, h1⟩ | ⟨g, c, r, e', rfl, h2, h3, h4, h5⟩ | ⟨g, t, q, rfl, h2, h3, h4, h5, h6⟩
  ·rw [h1] at h; cases h
  ·rw [h5] at h
   simp only [Except.error.injEq, Prod.mk.injEq] at h
   obtain ⟨rfl, rfl⟩ := h
   exact ⟨next_err_pos h3, by simp⟩
  ·rw [h5] at h
   cases hq : lu q with
   | ok m => rw [hq] at h; cases h
   | error x =>
    obtain ⟨a, b⟩ := x
    rw [hq] at h
    simp only [shiftR, Except.error.injEq, Prod.mk.injEq] at h
    have hwp := h3.width_pos
    have hwl := written_length t
    have := lu_err n q a b (by simp at hn; omega) hq
    simp
    omega
theorem lu_error {s : List UInt8} {e o : Nat} (h : lu s = .error (e, o)) : 0 < e ∧ o ≤ s.length := lu_err _ s e o (Nat.le_refl _) h

/-- the tokens of a text: as they may be, at places of the text -/
theorem lex_toks {s : List UInt8} (h : s.length ≤ 5000) {l : List T} {x y : Int} (hl : lex s = (l, x, y)) : (∀ p ∈ l, TokOK p.2) ∧ (∀ p ∈ l, p.1 ≤ s.length) ∧ 0 ≤ x ∧ y ≤ s.length ∧ (x ≠ 0 → l = []) ∧ (x = 0 → y = 0) := by
 have hx : lx 0 s = lu s := lx_lu h
 rw [lex_lu h] at hl
 cases hu : lu s with
 | error z =>
  rw [hu] at hl
  obtain ⟨a, b⟩ := z
  simp only [Prod.mk.injEq] at hl
  obtain ⟨rfl, rfl, rfl⟩ := hl
  obtain ⟨h1, h2⟩ := lu_error hu
  refine ⟨by simp, by simp, by omega, by omega, fun _ => rfl, by omega⟩
 | ok m =>
  rw [hu] at hl
  simp only [Prod.mk.injEq] at hl
  obtain ⟨rfl, rfl, rfl⟩ := hl
  rw [hu] at hx
  exact ⟨lu_ok hu, lexN_bound _ _ _ _ hx, by omega, by omega, by simp, by simp⟩

theorem parse_out {s : List UInt8} (h : s.length ≤ 5000) : ((parse s).2.1 ≠ 0 → (parse s).1 = [] ∧ (parse s).2.2 ≤ s.length) ∧ ((parse s).2.1 = 0 → valid (parse s).1 = true ∧ (parse s).2.2 = 0) := by
 rcases hl : lex s with ⟨l, x, y⟩
 obtain ⟨h1, h2, h3, h4, h5, h6⟩ := lex_toks h hl
 unfold parse
 rw [hl]
 simp only
 by_cases hx : x = 0
 ·rw [if_neg (by simpa using hx)]
  cases hp : parseT [] s.length l with
  | error z =>
   obtain ⟨a, b⟩ := z
   obtain ⟨q1, q2⟩ := parseN_err _ _ _ _ _ _ h1 h2 hp
   exact ⟨fun _ => ⟨rfl, q2⟩, fun e => by simp at e; omega⟩
  | ok d =>
   have := parseN_out _ _ _ _ _ h1 (by decide) hp
   exact ⟨fun e => absurd rfl e, fun _ => ⟨this, rfl⟩⟩
 ·rw [if_pos hx]
  exact ⟨fun _ => ⟨rfl, h4⟩, fun e => absurd e hx⟩

end Fa

namespace Li

structure Nm where
 script : Int
 words : List (List UInt8)
deriving DecidableEq
structure En where
 id : List UInt8
 names : List Nm
deriving DecidableEq
structure Ls where
 en : En
 from_ : Int
 to_ : Int
 void : Bool
deriving DecidableEq
structure Ch where
 kind : Int
 id : List UInt8
 en : En
 at_ : Int
deriving DecidableEq

/-- is this a name of one script? -/
def nmOk (n : Nm) : Bool := n.words.all (fun w => (Sc.lets n.script w).isSome) && decide (0 < n.words.length) && decide (n.words.length ≤ 6)
/-- is this an identifier? -/
def ident (t : List UInt8) : Bool := t.all Lx.isWord && decide (0 < t.length) && decide (t.length ≤ 24) && t.head?.any Lx.isLetter
def inst (t : Int) : Bool := decide (0 ≤ t) && decide (t ≤ 144001439)
def proper (e : En) : Bool := ident e.id && decide (0 < e.names.length) && decide (e.names.length ≤ 8) && e.names.all nmOk
def elOk (x : Ls) : Bool := proper x.en && inst x.from_ && (decide (x.to_ = -1) || (inst x.to_ && decide (x.from_ < x.to_)))
def ids (l : List Ls) : List (List UInt8) := l.map fun x => x.en.id
def properL (l : List Ls) : Bool := l.all elOk && decide ((ids l).Nodup) && decide (l.length ≤ 400)

def withEntry (c : Ch) : Bool := decide (c.kind = 1) || decide (c.kind = 3)
def dated (c : Ch) : Bool := decide (c.kind = 1) || decide (c.kind = 2)
def formed (c : Ch) : Bool :=
 ident c.id && decide (1 ≤ c.kind) && decide (c.kind ≤ 4) &&
 (if withEntry c then decide (c.en.id = c.id) && proper c.en else decide (c.en.id = []) && decide (c.en.names = [])) &&
 (if dated c then inst c.at_ else decide (c.at_ = 0))

/-- where an Id stands -/
def find : List Ls → List UInt8 → Option Nat
 | [], _ => none
 | x :: l, a => if x.en.id = a then some 0 else (find l a).map (· + 1)
/-- an element after a change of it -/
def upd (x : Ls) (c : Ch) : Ls := if c.kind = 2 then { x with to_ := c.at_ } else if c.kind = 3 then { x with en := c.en } else { x with void := true }
/-- what a change of an element is refused with; 0: nothing -/
def refusal (x : Ls) (c : Ch) : Int :=
 if x.void = true ∨ (c.kind = 2 ∧ x.to_ ≠ -1) then 12 else if c.kind = 2 ∧ c.at_ ≤ x.from_ then 14 else 0
def apply (l : List Ls) (c : Ch) : List Ls × Int :=
 if properL l && formed c then
  if c.kind = 1 then
   match find l c.id with
   | some _ => ([], 9)
   | none => if l.length = 400 then ([], 2) else (l ++ [⟨c.en, c.at_, -1, false⟩], 0)
  else
   match find l c.id with
   | none => ([], 11)
   | some k =>
    match l[k]? with
    | none => ([], 0)
    | some x => if refusal x c ≠ 0 then ([], refusal x c) else (l.set k (upd x c), 0)
 else ([], 1)
def live (t : Int) (x : Ls) : Bool := !x.void && decide (x.from_ ≤ t) && (decide (x.to_ = -1) || decide (t < x.to_))
def at_ (l : List Ls) (t : Int) : List En := if properL l && inst t then (l.filter (live t)).map Ls.en else []
/-- the list after changes, the error of each -/
def run : List Ls → List Ch → List Ls × List Int
 | l, [] => (l, [])
 | l, c :: cs =>
  let r := apply l c
  let l' := if r.2 = 0 then r.1 else l
  ((run l' cs).1, r.2 :: (run l' cs).2)

/-! ### finding -/

end Li
namespace Li
open Sc
def tPlain : List UInt8 := [112, 108, 97, 105, 110]
def tCased : List UInt8 := [99, 97, 115, 101, 100]
def tAbjad : List UInt8 := [97, 98, 106, 97, 100]
def tSyllab : List UInt8 := [115, 121, 108, 108, 97, 98]
def title (k : Int) : List UInt8 := if k = 1 then tPlain else if k = 2 then tCased else if k = 3 then tAbjad else if k = 4 then tSyllab else []
def scriptOf (t : List UInt8) : Int := if t = tPlain then 1 else if t = tCased then 2 else if t = tAbjad then 3 else if t = tSyllab then 4 else 0
def joinW : List (List UInt8) → List UInt8
 | [] => []
 | x :: l => x ++ l.flatMap fun y => 32 :: y
def nameText (n : Nm) : List UInt8 := title n.script ++ 58 :: joinW n.words

def split58 : List UInt8 → Option (List UInt8 × List UInt8)
 | [] => none
 | c :: s => if c = 58 then some ([], s) else (split58 s).map fun p => (c :: p.1, p.2)
def wordsP (k : Int) : Nat → List UInt8 → List (List UInt8) → Option (List (List UInt8))
 | 0, _, ws => some ws
 | f + 1, s, ws =>
  if s = [] then some ws
  else if 12 < (cuts k s).1.length ∨ ((cuts k s).1 ≠ [] ∧ ws.length = 6) then none
  else
   match (cuts k s).2 with
   | [] => some (if (cuts k s).1 = [] then ws else ws ++ [(cuts k s).1.flatten])
   | c :: r => if c = 32 then wordsP k f r (if (cuts k s).1 = [] then ws else ws ++ [(cuts k s).1.flatten]) else none
/-- what a text of a name is read to -/
def nameP (s : List UInt8) : Option Nm :=
 if 20000 < s.length then none
 else match split58 s with
  | none => none
  | some (t, r) =>
   if scriptOf t = 0 then none
   else match wordsP (scriptOf t) (r.length + 1) r [] with
    | none => none
    | some ws => if ws = [] then none else some ⟨scriptOf t, ws⟩

theorem lets_cuts {k : Int} {w : List UInt8} (h : (lets k w).isSome = true) : (cuts k w).2 = [] ∧ (cuts k w).1 ≠ [] ∧ (cuts k w).1.length ≤ 12 ∧ (cuts k w).1.flatten = w ∧ w ≠ [] := by
 unfold lets at h
 split at h
 ·rename_i hc
  have hj := cuts_join k w.length w (Nat.le_refl _)
  rw [hc.1, List.append_nil] at hj
  refine ⟨hc.1, hc.2.1, hc.2.2, hj, fun e => ?_⟩
  subst e
  exact hc.2.1 rfl
 ·cases h
theorem lets_script {k : Int} {w : List UInt8} (h : (lets k w).isSome = true) : k = 1 ∨ k = 2 ∨ k = 3 ∨ k = 4 := by
 obtain ⟨h1, h2, -⟩ := lets_cuts h
 by_cases h0 : len k w = 0
 ·rw [cuts_stop h0] at h2; exact absurd rfl h2
 ·unfold len at h0
  by_cases k1 : k = 1
  ·exact .inl k1
  by_cases k2 : k = 2
  ·exact .inr (.inl k2)
  by_cases k3 : k = 3
  ·exact .inr (.inr (.inl k3))
  by_cases k4 : k = 4
  ·exact .inr (.inr (.inr k4))
  rw [if_neg k1, if_neg k2, if_neg k3, if_neg k4] at h0
  exact absurd rfl h0
end Li
namespace Li
open Sc
theorem small_ge : ∀ c ∈ small, 39 ≤ c.toNat := by decide
theorem acc_ge : ∀ c ∈ acc, 39 ≤ c.toNat := by decide
theorem abj_ge : ∀ c ∈ abj, 39 ≤ c.toNat := by decide
theorem vow_ge : ∀ c ∈ vow, 39 ≤ c.toNat := by decide
theorem ons_ge : ∀ c ∈ ons, 39 ≤ c.toNat := by decide
theorem low_ge {c : UInt8} (h : low c ∈ small) : 39 ≤ c.toNat := by
 have h1 := (small_iff _).1 h
 rw [low_nat] at h1
 split at h1 <;> omega

/-- bytes of a letter are none of the lower ones -/
theorem len_ge {k : Int} {s : List UInt8} : ∀ c ∈ s.take (len k s), 39 ≤ c.toNat := by
 intro c hc
 obtain ⟨i, hi⟩ := List.getElem?_of_mem hc
 rw [List.getElem?_take] at hi
 split at hi
 ·rename_i hlt
  have h2 := len_two k s
  have h0 : ∀ {set : List UInt8}, among s 0 set = true → (∀ c ∈ set, 39 ≤ c.toNat) → i = 0 → 39 ≤ c.toNat := by
   intro set h1 h3 h4
   subst h4
   obtain ⟨d, hd, hm⟩ := among_mem h1
   rw [hi] at hd; obtain rfl := Option.some.inj hd; exact h3 _ hm
  have h1' : ∀ {set : List UInt8}, among s 1 set = true → (∀ c ∈ set, 39 ≤ c.toNat) → i = 1 → 39 ≤ c.toNat := by
   intro set h1 h3 h4
   subst h4
   obtain ⟨d, hd, hm⟩ := among_mem h1
   rw [hi] at hd; obtain rfl := Option.some.inj hd; exact h3 _ hm
  have i01 : i = 0 ∨ i = 1 := by omega
  unfold len at hlt
  split at hlt
  ·split at hlt
   ·rename_i h; exact h0 h small_ge (by omega)
   ·omega
  split at hlt
  ·split at hlt
   ·rename_i h
    rcases i01 with rfl | rfl
    ·obtain ⟨d, hd, hm⟩ := among_mem h
     rw [List.getElem?_map, hi] at hd
     obtain rfl := Option.some.inj hd
     exact low_ge hm
    ·split at hlt
     ·rename_i h3; exact h1' h3 acc_ge rfl
     ·omega
   ·omega
  split at hlt
  ·split at hlt
   ·rename_i h; exact h0 h abj_ge (by omega)
   ·omega
  split at hlt
  ·split at hlt
   ·rename_i h
    simp only [Bool.and_eq_true] at h
    rcases i01 with rfl | rfl
    ·exact h0 h.1 ons_ge rfl
    ·exact h1' h.2 vow_ge rfl
   ·split at hlt
    ·rename_i h
     simp only [Bool.or_eq_true] at h
     rcases h with h | h
     ·exact h0 h vow_ge (by omega)
     ·exact h0 h (by decide) (by omega)
    ·omega
  ·omega
 ·cases hi

theorem cuts_ge (k : Int) : ∀ (n : Nat) (s : List UInt8), s.length ≤ n → ∀ l ∈ (cuts k s).1, ∀ c ∈ l, 39 ≤ c.toNat := by
 intro n
 induction n with
 | zero =>
  intro s h l hl
  have : s = [] := List.length_eq_zero_iff.1 (by omega)
  subst this
  cases hl
 | succ n ih =>
  intro s h l hl
  by_cases h0 : len k s = 0
  ·rw [cuts_stop h0] at hl; cases hl
  ·rw [cuts_step h0] at hl
   simp only [List.mem_cons] at hl
   rcases hl with rfl | hl
   ·exact len_ge
   ·exact ih _ (by simp; omega) l hl

theorem lets_ge {k : Int} {s : List UInt8} {l : List (List UInt8)} (h : lets k s = some l) : ∀ c ∈ s, 39 ≤ c.toNat := by
 have hj := lets_join h
 unfold lets at h
 split at h
 ·obtain rfl := Option.some.inj h
  intro c hc
  rw [← hj, List.mem_flatten] at hc
  obtain ⟨l, hl, hcl⟩ := hc
  exact cuts_ge k _ s (Nat.le_refl _) l hl c hcl
 ·cases h

theorem body_of_ge {c : UInt8} (h : 39 ≤ c.toNat) : Lx.inBody c = true := by
 unfold Lx.inBody
 rw [Bool.and_eq_true, bne_iff_ne, bne_iff_ne]
 constructor
 ·rintro rfl; exact absurd h (by decide)
 ·rintro rfl; exact absurd h (by decide)
def wAdd : List UInt8 := [97, 100, 100]
def wRemove : List UInt8 := [114, 101, 109, 111, 118, 101]
def wCorrect : List UInt8 := [99, 111, 114, 114, 101, 99, 116]
def wVoid : List UInt8 := [118, 111, 105, 100]
def kindWord (k : Int) : List UInt8 := if k = 1 then wAdd else if k = 2 then wRemove else if k = 3 then wCorrect else if k = 4 then wVoid else []
def kindOf (t : List UInt8) : Int := if t = wAdd then 1 else if t = wRemove then 2 else if t = wCorrect then 3 else if t = wVoid then 4 else 0
def quoted (n : Nm) : List UInt8 := 32 :: 34 :: (nameText n ++ [34])
def body (c : Ch) : List UInt8 := kindWord c.kind ++ ([32] ++ (c.id ++ ((if dated c then 32 :: Lx.dec c.at_.toNat else []) ++ (c.en.names.flatMap quoted ++ [59]))))
def text (c : Ch) : Option (List UInt8) := if formed c then some (body c) else none

/-- one token behind the Id -/
def tokP (c : Ch) (t : Lx.Tk) : Option Ch :=
 if t.kind = 2 then some { c with at_ := t.n }
 else if t.kind = 3 then (nameP t.text).map fun n => { c with en := ⟨c.id, c.en.names ++ [n]⟩ }
 else some c
def toksP : Ch → List Lx.Tk → Option Ch
 | c, [] => some c
 | c, t :: l => match tokP c t with | none => none | some c' => toksP c' l
/-- what a text is read to -/
def parse (s : List UInt8) : Option Ch :=
 match Lx.lex s with
 | (l, x, _) =>
  if x ≠ 0 then none
  else match Lx.toks l with
   | a :: b :: r =>
    match toksP ⟨kindOf a.text, b.text, ⟨[], []⟩, 0⟩ r with
    | none => none
    | some c => if text c = some s then some c else none
   | _ => none

end Li
