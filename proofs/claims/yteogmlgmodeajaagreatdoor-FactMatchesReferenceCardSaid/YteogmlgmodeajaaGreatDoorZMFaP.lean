/-
  Several texts in one: ZFaPure, ZFaLaws, ZFaCase, ZFaNext, ZFaRef. Conditions: as each law says.
-/
import Derived.Test.YteogmlgmodeajaaGreatDoorZLexMore
import Derived.Test.YteogmlgmodeajaaGreatDoorZLexLaws
namespace Fa

abbrev T := Nat × Lx.Tk

structure Fact where
  name : List UInt8
  kind : Int
  lo : Int
  hi : Int
  deriving DecidableEq

abbrev Dom := List Fact
abbrev Fail := Int × Int

/-- is this a name? -/
def nm (t : List UInt8) : Bool := t.all Lx.isWord && decide (0 < t.length) && decide (t.length ≤ 24) && t.head?.any Lx.isLetter

def okKind (f : Fact) : Bool := (decide (f.kind = 1) && decide (f.lo = 0) && decide (f.hi = 1)) || (decide (f.kind = 2) && decide (0 ≤ f.lo) && decide (f.lo ≤ f.hi) && decide (f.hi ≤ 1000000))

def valid (d : Dom) : Bool := d.all (fun f => okKind f && nm f.name) && decide ((d.map Fact.name).Nodup) && decide (d.length ≤ 60)

def within (p : Fact × Int) : Bool := decide (p.1.lo ≤ p.2) && decide (p.2 ≤ p.1.hi)
def fits (d : Dom) (c : List Int) : Bool := valid d && decide (c.length = d.length) && (d.zip c).all within

/-- where a name stands, from k on; -1 if nowhere -/
def idxL : Dom → List UInt8 → Nat → Int
  | [], _, _ => -1
  | f :: l, a, k => if f.name = a then (k : Int) else idxL l a (k + 1)
def idx (d : Dom) (a : List UInt8) : Int := idxL d a 0

/-! ### texts -/

def tFlag : List UInt8 := [102, 108, 97, 103]
def tNumber : List UInt8 := [110, 117, 109, 98, 101, 114]
def tTo : List UInt8 := [116, 111]

def factText (f : Fact) : List UInt8 :=
  if f.kind = 1 then f.name ++ 32 :: tFlag ++ [59, 10] else f.name ++ 32 :: tNumber ++ 32 :: Lx.dec f.lo.toNat ++ 32 :: tTo ++ 32 :: Lx.dec f.hi.toNat ++ [59, 10]
def text (d : Dom) : List UInt8 := if valid d then d.flatMap factText else []

def pairText (p : Fact × Int) : List UInt8 := p.1.name ++ [32, 61, 32] ++ Lx.dec p.2.toNat
def joined : List (List UInt8) → List UInt8
  | [] => []
  | x :: l => x ++ l.flatMap fun y => [44, 32] ++ y
def caseText (d : Dom) (c : List Int) : List UInt8 := if fits d c then joined ((d.zip c).map pairText) else []

/-! ### reading -/

/-- the next token of a kind, and of a text unless that is empty -/
def take (k : Nat) (x : List UInt8) (e : Nat) : List T → Except Fail (T × List T)
  | [] => .error (6, e)
  | t :: r => if t.2.kind = k ∧ (x = [] ∨ t.2.text = x) then .ok (t, r) else .error (5, t.1)

/-- the range of a fact -/
def span (e : Nat) (ts : List T) : Except Fail ((Int × Int) × List T) :=
  match take 2 [] e ts with
  | .error x => .error x
  | .ok (lo, r1) =>
    if 1000000 < lo.2.n then .error (10, lo.1) else
    match take 1 tTo e r1 with
    | .error x => .error x
    | .ok (_, r2) =>
      match take 2 [] e r2 with
      | .error x => .error x
      | .ok (hi, r3) => if 1000000 < hi.2.n ∨ hi.2.n < lo.2.n then .error (10, hi.1) else .ok (((lo.2.n : Int), (hi.2.n : Int)), r3)

/-- what a kind's word is followed by -/
def ranges (w : List UInt8) (at_ : Nat) (e : Nat) (r : List T) : Except Fail ((Int × Int × Int) × List T) :=
  if w = tFlag then .ok ((1, 0, 1), r)
  else if w = tNumber then
    match span e r with
    | .error x => .error x
    | .ok ((lo, hi), r') => .ok ((2, lo, hi), r')
  else .error (5, at_)

/-- one fact -/
def factP (d : Dom) (e : Nat) (ts : List T) : Except Fail (Fact × List T) :=
  match take 1 [] e ts with
  | .error x => .error x
  | .ok (name, r1) =>
    if 0 ≤ idx d name.2.text then .error (9, name.1)
    else if d.length = 60 then .error (2, name.1)
    else
    match take 1 [] e r1 with
    | .error x => .error x
    | .ok (word, r2) =>
      match ranges word.2.text word.1 e r2 with
      | .error x => .error x
      | .ok ((k, lo, hi), r3) =>
        match take 4 [59] e r3 with
        | .error x => .error x
        | .ok (_, r4) => .ok (⟨name.2.text, k, lo, hi⟩, r4)

/-- all facts -/
def parseN : Nat → Dom → Nat → List T → Except Fail Dom
  | 0, d, _, _ => .ok d
  | n + 1, d, e, ts =>
    match ts with
    | [] => .ok d
    | t :: r =>
      match factP d e (t :: r) with
      | .error x => .error x
      | .ok (f, r') => parseN n (d ++ [f]) e r'
def parseT (d : Dom) (e : Nat) (ts : List T) : Except Fail Dom := parseN (ts.length + 1) d e ts

/-- what Parse returns -/
def parse (s : List UInt8) : Dom × Int × Int :=
  match Lx.lex s with
  | (l, x, y) => if x ≠ 0 then ([], x, y) else
    match parseT [] s.length l with
    | .error (a, b) => ([], a, b)
    | .ok d => (d, 0, 0)

/-- one value of a case; 'gone': the names that have their value -/
def valP (d : Dom) (gone : List (List UInt8)) (first : Bool) (e : Nat) (ts : List T) : Except Fail ((Int × Int × List UInt8) × List T) :=
  match (if first then Except.ok ((0, ⟨0, 0, []⟩), ts) else take 4 [44] e ts) with
  | .error x => .error x
  | .ok (_, r0) =>
    match take 1 [] e r0 with
    | .error x => .error x
    | .ok (name, r1) =>
      if idx d name.2.text < 0 then .error (7, name.1)
      else if name.2.text ∈ gone then .error (9, name.1)
      else
      match take 4 [61] e r1 with
      | .error x => .error x
      | .ok (_, r2) =>
        match take 2 [] e r2 with
        | .error x => .error x
        | .ok (n, r3) =>
          match d[(idx d name.2.text).toNat]? with
          | none => .error (0, 0)
          | some f => if (n.2.n : Int) < f.lo ∨ f.hi < (n.2.n : Int) then .error (10, n.1) else .ok ((idx d name.2.text, (n.2.n : Int), name.2.text), r3)

def valsN : Nat → Dom → List Int → List (List UInt8) → Bool → Nat → List T → Except Fail (List Int × List (List UInt8))
  | 0, _, c, g, _, _, _ => .ok (c, g)
  | n + 1, d, c, g, first, e, ts =>
    match ts with
    | [] => .ok (c, g)
    | t :: r =>
      match valP d g first e (t :: r) with
      | .error x => .error x
      | .ok ((i, v, a), r') => valsN n d (c.set i.toNat v) (g ++ [a]) false e r'
def valsT (d : Dom) (c : List Int) (g : List (List UInt8)) (first : Bool) (e : Nat) (ts : List T) := valsN (ts.length + 1) d c g first e ts

/-- what ParseCase returns -/
def parseCase (d : Dom) (s : List UInt8) : List Int × Int × Int :=
  if valid d then
    match Lx.lex s with
    | (l, x, y) => if x ≠ 0 then ([], x, y) else
      match valsT d (List.replicate d.length 0) [] true s.length l with
      | .error (a, b) => ([], a, b)
      | .ok (c, g) => if g.length < d.length then ([], 11, s.length) else (c, 0, 0)
  else ([], 1, 0)

/-! ### walking through the cases -/

def least (d : Dom) : List Int := if valid d then d.map Fact.lo else []

/-- the next one, from the last value on; both lists turned round -/
def up : List (Fact × Int) → Option (List Int)
  | [] => none
  | p :: l => if p.2 < p.1.hi then some ((p.2 + 1) :: l.map Prod.snd) else (up l).map fun r => p.1.lo :: r
def next (d : Dom) (c : List Int) : Option (List Int) := if fits d c then (up (d.zip c).reverse).map List.reverse else none

end Fa

namespace Fa
open Lx

/-! ### a piece of a text as tokens -/

/-- before r the bytes s are these tokens -/
def Rd (s : List UInt8) (L : List Tk) (r : List UInt8) : Prop := ∃ l, toks l = L ∧ lu (s ++ r) = shiftR s.length l (lu r)

theorem Rd.nil (r : List UInt8) : Rd [] [] r := ⟨[], rfl, by rw [List.nil_append, List.length_nil, shiftR_zero]⟩
theorem Rd.app {s s' r : List UInt8} {L L' : List Tk} (h : Rd s L (s' ++ r)) (h' : Rd s' L' r) : Rd (s ++ s') (L ++ L') r := by
  obtain ⟨l, e1, e2⟩ := h
  obtain ⟨l', e1', e2'⟩ := h'
  refine ⟨l ++ shift s.length l', by rw [toks_append, toks_shift, e1, e1'], ?_⟩
  rw [List.append_assoc, e2, e2', shiftR_shiftR, List.length_append]
theorem Rd.tok {t : Tk} {r : List UInt8} (ht : TokOK t) (hr : Good t r) (hk : t.kind ≠ 3) : Rd t.text [t] r := by
  have h := lu_tok ht hr
  have hw : t.written = t.text := by unfold Tk.written; rw [if_neg hk]
  refine ⟨[(0, t)], rfl, ?_⟩
  rw [hw] at h
  rw [h, ← written_length, hw]
theorem Rd.blank {z : UInt8} (hz : isBlank z = true) (r : List UInt8) : Rd [z] [] r :=
  ⟨[], rfl, lu_gap (u := [z]) (by simp [skip, hz])⟩
theorem Rd.eq {s : List UInt8} {L : List Tk} (h : Rd s L []) : ∃ l, lu s = .ok l ∧ toks l = L := by
  obtain ⟨l, h1, h2⟩ := h
  rw [List.append_nil, lu_gaps (g := []) (by simp [skip])] at h2
  refine ⟨_, h2, ?_⟩
  rw [toks_append, toks_shift, h1]; simp [toks]

theorem ok_name {a : List UInt8} (h : nm a = true) : TokOK ⟨1, 0, a⟩ := by
  unfold nm at h
  simp only [Bool.and_eq_true, decide_eq_true_eq] at h
  obtain ⟨⟨⟨h1, h2⟩, h3⟩, h4⟩ := h
  refine .inl ⟨rfl, rfl, h3, h1, ?_⟩
  cases a with
  | nil => simp at h2
  | cons c s => exact ⟨c, s, rfl, by simpa using h4⟩
theorem ok_num {n : Nat} (h : n < 10000000000000) : TokOK ⟨2, n, dec n⟩ := by
  obtain ⟨h1, h2, h3, h4⟩ := dec_facts n
  exact .inr (.inl ⟨rfl, h3.symm, h4 13 (by decide) (by simpa using h), h1, h2⟩)
theorem ok_sym {c : UInt8} (h : isPlain c = true) : TokOK ⟨4, 0, [c]⟩ := .inr (.inr (.inr ⟨rfl, rfl, c, .inr ⟨rfl, .inr h⟩⟩))
theorem good_blank {t : Tk} {z : UInt8} (hz : isBlank z = true) (r : List UInt8) : Good t (z :: r) := Good.gap t (by unfold gapHead; rw [hz]; rfl) r
theorem good_not_word {t : Tk} {z : UInt8} (hk : t.kind ≠ 4) (hz : isWord z = false) (r : List UInt8) : Good t (z :: r) := by
  intro y hy
  simp at hy
  subst hy
  exact ⟨fun _ => hz, fun _ => hz, fun h => absurd h hk⟩
theorem good_sym {c : UInt8} (h1 : c ≠ 60) (h2 : c ≠ 62) (r : List UInt8) : Good ⟨4, 0, [c]⟩ r := fun z _ =>
  ⟨fun h => absurd h (by simp), fun h => absurd h (by simp), fun _ h => by simp [h1, h2] at h⟩

/-! ### a fact's text -/

abbrev tkName (a : List UInt8) : Tk := ⟨1, 0, a⟩
abbrev tkNum (n : Nat) : Tk := ⟨2, n, dec n⟩
abbrev tkSym (c : UInt8) : Tk := ⟨4, 0, [c]⟩
def factToks (f : Fact) : List Tk :=
  if f.kind = 1 then [tkName f.name, tkName tFlag, tkSym 59] else [tkName f.name, tkName tNumber, tkNum f.lo.toNat, tkName tTo, tkNum f.hi.toNat, tkSym 59]

theorem okKind_cases {f : Fact} (h : okKind f = true) : (f.kind = 1 ∧ f.lo = 0 ∧ f.hi = 1) ∨ (f.kind = 2 ∧ 0 ≤ f.lo ∧ f.lo ≤ f.hi ∧ f.hi ≤ 1000000) := by
  unfold okKind at h
  simp only [Bool.or_eq_true, Bool.and_eq_true, decide_eq_true_eq] at h
  rcases h with ⟨⟨h1, h2⟩, h3⟩ | ⟨⟨⟨h1, h2⟩, h3⟩, h4⟩
  · exact .inl ⟨h1, h2, h3⟩
  · exact .inr ⟨h1, h2, h3, h4⟩

theorem rd_name {a : List UInt8} (h : nm a = true) {r : List UInt8} (hr : Good (tkName a) r) : Rd a [tkName a] r := Rd.tok (t := tkName a) (ok_name h) hr (by simp)
theorem rd_num {n : Nat} (h : n < 10000000000000) {r : List UInt8} (hr : Good (tkNum n) r) : Rd (dec n) [tkNum n] r := Rd.tok (t := tkNum n) (ok_num h) hr (by simp)
theorem rd_sym {c : UInt8} (h : isPlain c = true) (h1 : c ≠ 60) (h2 : c ≠ 62) (r : List UInt8) : Rd [c] [tkSym c] r := Rd.tok (t := tkSym c) (ok_sym h) (good_sym h1 h2 r) (by simp)
theorem rd_blank (r : List UInt8) : Rd [32] [] r := Rd.blank (by decide) r

theorem rd_fact {f : Fact} (h : okKind f = true) (hn : nm f.name = true) (r : List UInt8) : Rd (factText f) (factToks f) r := by
  have hb : ∀ (t : Tk) (x : List UInt8), Good t (32 :: x) := fun t x => good_blank (by decide) x
  have hend : ∀ x : List UInt8, Rd [59, 10] [tkSym 59] x := fun x =>
    Rd.app (s := [59]) (s' := [10]) (rd_sym (by decide) (by decide) (by decide) _) (Rd.blank (by decide) _)
  rcases okKind_cases h with ⟨k, l, u⟩ | ⟨k, l, u, v⟩
  · have e1 : factText f = f.name ++ ([32] ++ (tFlag ++ [59, 10])) := by unfold factText; rw [if_pos k]; simp
    have e2 : factToks f = [tkName f.name] ++ ([] ++ ([tkName tFlag] ++ [tkSym 59])) := by unfold factToks; rw [if_pos k]; rfl
    rw [e1, e2]
    exact (rd_name hn (hb _ _)).app ((rd_blank _).app ((rd_name (a := tFlag) (by decide) (good_not_word (by decide) (by decide) _)).app (hend r)))
  · have kk : ¬ f.kind = 1 := by omega
    have e1 : factText f = f.name ++ ([32] ++ (tNumber ++ ([32] ++ (dec f.lo.toNat ++ ([32] ++ (tTo ++ ([32] ++ (dec f.hi.toNat ++ [59, 10])))))))) := by unfold factText; rw [if_neg kk]; simp
    have e2 : factToks f = [tkName f.name] ++ ([] ++ ([tkName tNumber] ++ ([] ++ ([tkNum f.lo.toNat] ++ ([] ++ ([tkName tTo] ++ ([] ++ ([tkNum f.hi.toNat] ++ [tkSym 59])))))))) := by unfold factToks; rw [if_neg kk]; rfl
    rw [e1, e2]
    exact (rd_name hn (hb _ _)).app ((rd_blank _).app ((rd_name (a := tNumber) (by decide) (hb _ _)).app ((rd_blank _).app ((rd_num (by omega) (hb _ _)).app ((rd_blank _).app
      ((rd_name (a := tTo) (by decide) (hb _ _)).app ((rd_blank _).app ((rd_num (by omega) (good_not_word (by simp) (by decide) _)).app (hend r)))))))))
theorem rd_facts : ∀ (d : Dom) (r : List UInt8), (∀ f ∈ d, okKind f = true ∧ nm f.name = true) → Rd (d.flatMap factText) (d.flatMap factToks) r
  | [], r, _ => Rd.nil r
  | f :: d, r, h => by
    rw [List.flatMap_cons, List.flatMap_cons]
    exact (rd_fact (h f List.mem_cons_self).1 (h f List.mem_cons_self).2 _).app (rd_facts d r fun g hg => h g (List.mem_cons_of_mem _ hg))

/-! ### a domain, taken apart -/

theorem valid_parts {d : Dom} (h : valid d = true) : (∀ f ∈ d, okKind f = true ∧ nm f.name = true) ∧ (d.map Fact.name).Nodup ∧ d.length ≤ 60 := by
  unfold valid at h
  simp only [Bool.and_eq_true, List.all_eq_true, decide_eq_true_eq] at h
  exact ⟨h.1.1, h.1.2, h.2⟩
theorem valid_mk {d : Dom} (h1 : ∀ f ∈ d, okKind f = true ∧ nm f.name = true) (h2 : (d.map Fact.name).Nodup) (h3 : d.length ≤ 60) : valid d = true := by
  unfold valid
  simp only [Bool.and_eq_true, List.all_eq_true, decide_eq_true_eq]
  exact ⟨⟨h1, h2⟩, h3⟩

theorem nm_len {a : List UInt8} (h : nm a = true) : 0 < a.length ∧ a.length ≤ 24 := by
  unfold nm at h
  simp only [Bool.and_eq_true, decide_eq_true_eq] at h
  exact ⟨h.1.1.2, h.1.2⟩
theorem dec_len {n : Nat} (k : Nat) (hk : 0 < k) (h : n < 10 ^ k) : (dec n).length ≤ k := (dec_facts n).2.2.2 k hk h
theorem factText_len {f : Fact} (h : okKind f = true) (hn : nm f.name = true) : (factText f).length ≤ 60 ∧ 0 < (factText f).length := by
  have := nm_len hn
  rcases okKind_cases h with ⟨k, l, u⟩ | ⟨k, l, u, v⟩
  · unfold factText; rw [if_pos k]
    simp [tFlag]; omega
  · have kk : ¬ f.kind = 1 := by omega
    have h1 := dec_len (n := f.lo.toNat) 7 (by decide) (by omega)
    have h2 := dec_len (n := f.hi.toNat) 7 (by decide) (by omega)
    unfold factText; rw [if_neg kk]
    simp [tNumber, tTo]; omega
theorem facts_len : ∀ (d : Dom), (∀ f ∈ d, okKind f = true ∧ nm f.name = true) → (d.flatMap factText).length ≤ 60 * d.length
  | [], _ => by simp
  | f :: d, h => by
    have h1 := factText_len (h f List.mem_cons_self).1 (h f List.mem_cons_self).2
    have h2 := facts_len d fun g hg => h g (List.mem_cons_of_mem _ hg)
    rw [List.flatMap_cons, List.length_append, List.length_cons]
    omega
theorem text_len (d : Dom) : (text d).length ≤ 3600 := by
  unfold text
  split
  · rename_i h
    obtain ⟨h1, _, h3⟩ := valid_parts h
    have := facts_len d h1
    omega
  · simp
theorem text_nil (d : Dom) : text d = [] ↔ (valid d = false ∨ d = []) := by
  unfold text
  constructor
  · intro h
    split at h
    · rename_i hv
      right
      cases d with
      | nil => rfl
      | cons f d =>
        exfalso
        have := factText_len ((valid_parts hv).1 f List.mem_cons_self).1 ((valid_parts hv).1 f List.mem_cons_self).2
        rw [List.flatMap_cons] at h
        rw [List.append_eq_nil_iff] at h
        rw [h.1] at this
        simp at this
    · rename_i hv
      left
      simpa using hv
  · rintro (h | rfl)
    · rw [h]; rfl
    · rfl

/-! ### where a name stands -/

theorem idxL_no : ∀ (d : Dom) (a : List UInt8) (k : Nat), a ∉ d.map Fact.name → idxL d a k = -1
  | [], _, _, _ => rfl
  | f :: d, a, k, h => by
    simp only [List.map_cons, List.mem_cons, not_or] at h
    rw [idxL, if_neg (fun e => h.1 e.symm)]
    exact idxL_no d a (k + 1) h.2
theorem idxL_yes : ∀ (d : Dom) (a : List UInt8) (k : Nat), a ∈ d.map Fact.name → ∃ i : Nat, idxL d a k = ((k + i : Nat) : Int) ∧ i < d.length ∧ (d.map Fact.name)[i]? = some a
  | [], _, _, h => by simp at h
  | f :: d, a, k, h => by
    rw [idxL]
    by_cases e : f.name = a
    · rw [if_pos e]
      exact ⟨0, by simp, by simp, by simp [e]⟩
    · rw [if_neg e]
      simp only [List.map_cons, List.mem_cons] at h
      obtain ⟨i, h1, h2, h3⟩ := idxL_yes d a (k + 1) (h.resolve_left fun e' => e e'.symm)
      exact ⟨i + 1, by rw [h1]; congr 1; omega, by simp; omega, by simpa using h3⟩
theorem idx_no {d : Dom} {a : List UInt8} (h : a ∉ d.map Fact.name) : idx d a = -1 := idxL_no d a 0 h
theorem idx_yes {d : Dom} {a : List UInt8} (h : a ∈ d.map Fact.name) : ∃ i : Nat, idx d a = (i : Int) ∧ i < d.length ∧ (d.map Fact.name)[i]? = some a := by
  obtain ⟨i, h1, h2, h3⟩ := idxL_yes d a 0 h
  exact ⟨i, by rw [idx, h1]; simp, h2, h3⟩
theorem idx_neg {d : Dom} {a : List UInt8} : idx d a < 0 ↔ a ∉ d.map Fact.name := by
  constructor
  · intro h hm
    obtain ⟨i, h1, _⟩ := idx_yes hm
    omega
  · intro h; rw [idx_no h]; decide
theorem idx_lt (d : Dom) (a : List UInt8) : idx d a < d.length := by
  by_cases h : a ∈ d.map Fact.name
  · obtain ⟨i, h1, h2, _⟩ := idx_yes h
    omega
  · rw [idx_no h]; omega
/-- at a place of a domain whose names differ -/
theorem idx_at {d : Dom} (hn : (d.map Fact.name).Nodup) {i : Nat} {f : Fact} (h : d[i]? = some f) : idx d f.name = (i : Int) := by
  have hm : f.name ∈ d.map Fact.name := List.mem_map_of_mem (List.mem_of_getElem? h)
  obtain ⟨j, h1, h2, h3⟩ := idx_yes hm
  have h4 : (d.map Fact.name)[i]? = some f.name := by rw [List.getElem?_map, h]; rfl
  have hi : i < (d.map Fact.name).length := (List.getElem?_eq_some_iff.1 h4).1
  have := (List.getElem?_inj hi hn).1 (h4.trans h3.symm)
  rw [h1, this]

/-! ### reading -/

theorem toks_cons {ts : List T} {t : Tk} {L : List Tk} (h : toks ts = t :: L) : ∃ p r, ts = (p, t) :: r ∧ toks r = L := by
  cases ts with
  | nil => simp [toks] at h
  | cons q r =>
    simp only [toks, List.map_cons, List.cons.injEq] at h
    exact ⟨q.1, r, by rw [← h.1], h.2⟩
theorem take_cons (k : Nat) (x : List UInt8) (e : Nat) (t : T) (r : List T) : take k x e (t :: r) = if t.2.kind = k ∧ (x = [] ∨ t.2.text = x) then .ok (t, r) else .error (5, t.1) := rfl
theorem take_ok (k : Nat) (x : List UInt8) {e p : Nat} {t : Tk} {r : List T} (hk : t.kind = k) (hx : x = [] ∨ t.text = x) : take k x e ((p, t) :: r) = .ok ((p, t), r) := by
  show (if t.kind = k ∧ (x = [] ∨ t.text = x) then (Except.ok ((p, t), r) : Except Fail (T × List T)) else .error (5, p)) = _
  rw [if_pos ⟨hk, hx⟩]

theorem span_ok {lo hi e p q r : Nat} {ts : List T} (h1 : lo ≤ 1000000) (h2 : hi ≤ 1000000) (h3 : lo ≤ hi) : span e ((p, tkNum lo) :: (q, tkName tTo) :: (r, tkNum hi) :: ts) = .ok (((lo : Int), (hi : Int)), ts) := by
  have a : ¬ 1000000 < lo := by omega
  have b : ¬ (1000000 < hi ∨ hi < lo) := by omega
  unfold span
  rw [take_ok 2 [] rfl (.inl rfl)]
  show (if 1000000 < lo then _ else _) = _
  rw [if_neg a, take_ok 1 tTo rfl (.inr rfl)]
  simp only
  rw [take_ok 2 [] rfl (.inl rfl)]
  show (if 1000000 < hi ∨ hi < lo then _ else _) = _
  rw [if_neg b]

theorem factP_ok {acc : Dom} {e : Nat} {ts : List T} {f : Fact} {L : List Tk} (h : okKind f = true) (hn : f.name ∉ acc.map Fact.name) (hl : acc.length ≠ 60) (ht : toks ts = factToks f ++ L) :
    ∃ r, factP acc e ts = .ok (f, r) ∧ toks r = L := by
  have hi : ¬ 0 ≤ idx acc f.name := by rw [idx_no hn]; decide
  have hm : f = ⟨f.name, f.kind, f.lo, f.hi⟩ := rfl
  unfold factToks at ht
  rcases okKind_cases h with ⟨k, l, u⟩ | ⟨k, l, u, v⟩
  · rw [if_pos k] at ht
    obtain ⟨p1, r1, rfl, ht1⟩ := toks_cons ht
    obtain ⟨p2, r2, rfl, ht2⟩ := toks_cons ht1
    obtain ⟨p3, r3, rfl, ht3⟩ := toks_cons ht2
    refine ⟨r3, ?_, ht3⟩
    unfold factP
    rw [take_ok 1 [] rfl (.inl rfl)]
    simp only [tkName, if_neg hi, if_neg hl]
    rw [take_ok 1 [] rfl (.inl rfl)]
    simp only [ranges, if_true]
    rw [take_ok 4 [59] rfl (.inr rfl)]
    simp only
    conv => rhs; rw [hm, k, l, u]
  · rw [if_neg (show ¬ f.kind = 1 by omega)] at ht
    obtain ⟨p1, r1, rfl, ht1⟩ := toks_cons ht
    obtain ⟨p2, r2, rfl, ht2⟩ := toks_cons ht1
    obtain ⟨p3, r3, rfl, ht3⟩ := toks_cons ht2
    obtain ⟨p4, r4, rfl, ht4⟩ := toks_cons ht3
    obtain ⟨p5, r5, rfl, ht5⟩ := toks_cons ht4
    obtain ⟨p6, r6, rfl, ht6⟩ := toks_cons ht5
    refine ⟨r6, ?_, ht6⟩
    unfold factP
    rw [take_ok 1 [] rfl (.inl rfl)]
    simp only [tkName, if_neg hi, if_neg hl]
    rw [take_ok 1 [] rfl (.inl rfl)]
    simp only [ranges, if_neg (show ¬ tNumber = tFlag by decide), if_true]
    rw [span_ok (by omega) (by omega) (by omega)]
    simp only
    rw [take_ok 4 [59] rfl (.inr rfl)]
    simp only
    conv => rhs; rw [hm, k]
    rw [Int.toNat_of_nonneg l, Int.toNat_of_nonneg (by omega)]

theorem factToks_len (f : Fact) : 0 < (factToks f).length := by unfold factToks; split <;> simp
theorem parseN_ok : ∀ (fs acc : Dom) (n e : Nat) (ts : List T), fs.length < n → toks ts = fs.flatMap factToks → (∀ f ∈ fs, okKind f = true) → ((acc ++ fs).map Fact.name).Nodup → (acc ++ fs).length ≤ 60 → parseN n acc e ts = .ok (acc ++ fs)
  | [], acc, n + 1, e, ts, _, ht, _, _, _ => by
    have : ts = [] := by cases ts <;> simp [toks] at ht ⊢
    subst this
    simp [parseN]
  | f :: fs, acc, n + 1, e, ts, hl, ht, hk, hn, h60 => by
    rw [List.flatMap_cons] at ht
    have hn' : f.name ∉ acc.map Fact.name := by
      rw [List.map_append, List.nodup_append] at hn
      intro hm
      exact hn.2.2 _ hm f.name (by simp) rfl
    have hl' : acc.length ≠ 60 := by simp at h60; omega
    obtain ⟨r, h1, h2⟩ := factP_ok (e := e) (hk f List.mem_cons_self) hn' hl' ht
    have hne : ∃ t r', ts = t :: r' := by
      cases ts with
      | nil =>
        have := factToks_len f
        have e1 := congrArg List.length ht
        simp [toks] at e1
        omega
      | cons t r' => exact ⟨t, r', rfl⟩
    obtain ⟨t, r', rfl⟩ := hne
    rw [parseN]
    rw [h1]
    simp only
    have := parseN_ok fs (acc ++ [f]) n e r (by simp at hl; omega) h2 (fun g hg => hk g (List.mem_cons_of_mem _ hg)) (by simpa using hn) (by simp at h60 ⊢; omega)
    rw [this]
    simp

theorem flat_len : ∀ (d : Dom), d.length ≤ (d.flatMap factToks).length
  | [] => Nat.zero_le _
  | f :: d => by
    have h1 := factToks_len f
    have h2 := flat_len d
    rw [List.flatMap_cons, List.length_append, List.length_cons]
    omega
theorem toks_length (l : List T) : (toks l).length = l.length := by simp [toks]

/-- a domain's text is read as the domain -/
theorem parse_text {d : Dom} (h : valid d = true) : parse (text d) = (d, 0, 0) := by
  obtain ⟨h1, h2, h3⟩ := valid_parts h
  have hlen := text_len d
  have ht : text d = d.flatMap factText := by unfold text; rw [if_pos h]
  obtain ⟨l, hl, hk⟩ := (rd_facts d [] h1).eq
  have hx : lex (text d) = (l, 0, 0) := by rw [lex_lu (by omega), ht, hl]
  unfold parse
  rw [hx]
  simp only [ne_eq, not_true_eq_false, if_false]
  unfold parseT
  have := parseN_ok d [] (l.length + 1) (text d).length l (by have := flat_len d; have := toks_length l; rw [hk] at this; omega) hk (fun f hf => (h1 f hf).1) (by simpa using h2) (by simpa using h3)
  rw [this]
  simp

theorem text_inj {a b : Dom} (ha : valid a = true) (hb : valid b = true) (h : text a = text b) : a = b := by
  have h1 := parse_text ha
  rw [h, parse_text hb] at h1
  simp at h1
  exact h1.symm

/-! ### what is read is valid -/

theorem take_rest {k : Nat} {x : List UInt8} {e : Nat} {ts : List T} {t : T} {r : List T} (h : take k x e ts = .ok (t, r)) : ts = t :: r ∧ t.2.kind = k ∧ (x = [] ∨ t.2.text = x) := by
  cases ts with
  | nil => simp [take] at h
  | cons u s =>
    rw [take_cons] at h
    split at h
    · rename_i hc
      simp only [Except.ok.injEq, Prod.mk.injEq] at h
      obtain ⟨rfl, rfl⟩ := h
      exact ⟨rfl, hc⟩
    · simp at h
theorem take_err {k : Nat} {x : List UInt8} {e : Nat} {ts : List T} {a b : Int} (h : take k x e ts = .error (a, b)) (hp : ∀ p ∈ ts, p.1 ≤ e) : 0 < a ∧ b ≤ e := by
  cases ts with
  | nil => simp [take] at h; omega
  | cons u s =>
    rw [take_cons] at h
    have := hp u List.mem_cons_self
    split at h
    · simp at h
    · simp at h; omega

theorem span_out {e : Nat} {ts r : List T} {lo hi : Int} (h : span e ts = .ok ((lo, hi), r)) : 0 ≤ lo ∧ lo ≤ hi ∧ hi ≤ 1000000 ∧ r <:+ ts := by
  unfold span at h
  split at h
  · simp at h
  · rename_i t1 r1 h1
    obtain ⟨rfl, -, -⟩ := take_rest h1
    split at h
    · simp at h
    · split at h
      · simp at h
      · rename_i t2 r2 h2
        obtain ⟨rfl, -, -⟩ := take_rest h2
        split at h
        · simp at h
        · rename_i t3 r3 h3
          obtain ⟨rfl, -, -⟩ := take_rest h3
          split at h
          · simp at h
          · rename_i hc
            simp only [Except.ok.injEq, Prod.mk.injEq] at h
            obtain ⟨⟨rfl, rfl⟩, rfl⟩ := h
            refine ⟨by omega, by omega, by omega, ?_⟩
            exact ⟨[t1, t2, t3], rfl⟩
theorem span_err {e : Nat} {ts : List T} {a b : Int} (h : span e ts = .error (a, b)) (hp : ∀ p ∈ ts, p.1 ≤ e) : 0 < a ∧ b ≤ e := by
  unfold span at h
  split at h
  · rename_i x h1
    simp at h; subst h
    exact take_err h1 hp
  · rename_i t1 r1 h1
    obtain ⟨rfl, -, -⟩ := take_rest h1
    split at h
    · simp at h
      have := hp t1 List.mem_cons_self
      omega
    · split at h
      · rename_i x h2
        simp at h; subst h
        exact take_err h2 fun p q => hp p (by simp [q])
      · rename_i t2 r2 h2
        obtain ⟨rfl, -, -⟩ := take_rest h2
        split at h
        · rename_i x h3
          simp at h; subst h
          exact take_err h3 fun p q => hp p (by simp [q])
        · rename_i t3 r3 h3
          obtain ⟨rfl, -, -⟩ := take_rest h3
          split at h
          · simp at h
            have := hp t3 (by simp)
            omega
          · simp at h

theorem ranges_out {w : List UInt8} {p e : Nat} {ts r : List T} {k lo hi : Int} (h : ranges w p e ts = .ok ((k, lo, hi), r)) (a : List UInt8) : okKind ⟨a, k, lo, hi⟩ = true ∧ r <:+ ts := by
  unfold ranges at h
  split at h
  · simp only [Except.ok.injEq, Prod.mk.injEq] at h
    obtain ⟨⟨rfl, rfl, rfl⟩, rfl⟩ := h
    exact ⟨rfl, List.suffix_refl _⟩
  · split at h
    · split at h
      · simp at h
      · rename_i lo' hi' r' hs
        simp only [Except.ok.injEq, Prod.mk.injEq] at h
        obtain ⟨⟨rfl, rfl, rfl⟩, rfl⟩ := h
        obtain ⟨h1, h2, h3, h4⟩ := span_out hs
        refine ⟨?_, h4⟩
        unfold okKind
        simp [h1, h2, h3]
    · simp at h
theorem ranges_err {w : List UInt8} {p e : Nat} {ts : List T} {a b : Int} (h : ranges w p e ts = .error (a, b)) (hp : ∀ q ∈ ts, q.1 ≤ e) (hpe : p ≤ e) : 0 < a ∧ b ≤ e := by
  unfold ranges at h
  split at h
  · simp at h
  · split at h
    · split at h
      · rename_i x hs
        simp at h; subst h
        exact span_err hs hp
      · simp at h
    · simp at h; omega

theorem factP_out {acc : Dom} {e : Nat} {ts r : List T} {f : Fact} (h : factP acc e ts = .ok (f, r)) (hok : ∀ p ∈ ts, TokOK p.2) :
    okKind f = true ∧ nm f.name = true ∧ f.name ∉ acc.map Fact.name ∧ acc.length ≠ 60 ∧ r <:+ ts ∧ r.length < ts.length := by
  unfold factP at h
  split at h
  · simp at h
  · rename_i t1 r1 h1
    obtain ⟨rfl, k1, -⟩ := take_rest h1
    split at h
    · simp at h
    · rename_i hi
      split at h
      · simp at h
      · rename_i hl
        split at h
        · simp at h
        · rename_i t2 r2 h2
          obtain ⟨rfl, -, -⟩ := take_rest h2
          split at h
          · simp at h
          · rename_i k lo hi' r3 h3
            split at h
            · simp at h
            · rename_i t4 r4 h4
              obtain ⟨rfl, -, -⟩ := take_rest h4
              simp only [Except.ok.injEq, Prod.mk.injEq] at h
              obtain ⟨rfl, rfl⟩ := h
              obtain ⟨q1, q2⟩ := ranges_out h3 t1.2.text
              refine ⟨q1, ?_, idx_neg.1 (by simp only; omega), hl, ?_, ?_⟩
              · have ht := hok t1 List.mem_cons_self
                rcases ht with ⟨_, _, x3, x4, c, s, x5, x6⟩ | ⟨x, _⟩ | ⟨x, _⟩ | ⟨x, _⟩
                · unfold nm
                  simp only
                  rw [x4, x5, decide_eq_true (show (c :: s).length ≤ 24 by rw [← x5]; exact x3)]
                  simp [x6]
                · omega
                · omega
                · omega
              · obtain ⟨m, hm⟩ := q2
                exact ⟨t1 :: t2 :: m ++ [t4], by simp [← hm]⟩
              · obtain ⟨m, hm⟩ := q2
                rw [← hm]
                simp; omega
theorem factP_err {acc : Dom} {e : Nat} {ts : List T} {a b : Int} (h : factP acc e ts = .error (a, b)) (hp : ∀ p ∈ ts, p.1 ≤ e) : 0 < a ∧ b ≤ e := by
  unfold factP at h
  split at h
  · rename_i x h1
    simp at h; subst h
    exact take_err h1 hp
  · rename_i t1 r1 h1
    obtain ⟨rfl, -, -⟩ := take_rest h1
    have hp1 := hp t1 List.mem_cons_self
    split at h
    · simp at h; omega
    · split at h
      · simp at h; omega
      · split at h
        · rename_i x h2
          simp at h; subst h
          exact take_err h2 fun p q => hp p (by simp [q])
        · rename_i t2 r2 h2
          obtain ⟨rfl, -, -⟩ := take_rest h2
          split at h
          · rename_i x h3
            simp at h; subst h
            exact ranges_err h3 (fun p q => hp p (by simp [q])) (hp t2 (by simp))
          · rename_i k lo hi' r3 h3
            split at h
            · rename_i x h4
              simp at h; subst h
              obtain ⟨m, hm⟩ := (ranges_out h3 []).2
              exact take_err h4 fun p q => hp p (by simp [← hm, q])
            · simp at h

theorem parseN_out : ∀ (n : Nat) (acc : Dom) (e : Nat) (ts : List T) (d : Dom), (∀ p ∈ ts, TokOK p.2) → valid acc = true → parseN n acc e ts = .ok d → valid d = true
  | 0, acc, e, ts, d, _, hv, h => by simp [parseN] at h; rw [← h]; exact hv
  | n + 1, acc, e, ts, d, hok, hv, h => by
    cases ts with
    | nil => rw [parseN] at h; simp at h; rw [← h]; exact hv
    | cons t r =>
      rw [parseN] at h
      split at h
      · simp at h
      · rename_i f r' hf
        obtain ⟨q1, q2, q3, q4, ⟨m, hm⟩, _⟩ := factP_out hf hok
        obtain ⟨v1, v2, v3⟩ := valid_parts hv
        refine parseN_out n _ e r' d (fun p hp => hok p (by rw [← hm]; simp [hp])) (valid_mk ?_ ?_ ?_) h
        · intro g hg
          rcases List.mem_append.1 hg with hg | hg
          · exact v1 g hg
          · simp at hg; subst hg; exact ⟨q1, q2⟩
        · rw [List.map_append, List.nodup_append]
          refine ⟨v2, by simp, fun x hx y hy exy => ?_⟩
          simp at hy
          subst hy; subst exy
          exact q3 hx
        · simp; omega
theorem parseN_err : ∀ (n : Nat) (acc : Dom) (e : Nat) (ts : List T) (a b : Int), (∀ p ∈ ts, TokOK p.2) → (∀ p ∈ ts, p.1 ≤ e) → parseN n acc e ts = .error (a, b) → 0 < a ∧ b ≤ e
  | 0, acc, e, ts, a, b, _, _, h => by simp [parseN] at h
  | n + 1, acc, e, ts, a, b, hok, hp, h => by
    cases ts with
    | nil => rw [parseN] at h; simp at h
    | cons t r =>
      rw [parseN] at h
      split at h
      · rename_i x hf
        simp at h; subst h
        exact factP_err hf hp
      · rename_i f r' hf
        obtain ⟨-, -, -, -, ⟨m, hm⟩, _⟩ := factP_out hf hok
        exact parseN_err n _ e r' a b (fun p hp' => hok p (by rw [← hm]; simp [hp'])) (fun p hp' => hp p (by rw [← hm]; simp [hp'])) h

theorem next_err_pos {c : UInt8} {s : List UInt8} {e : Nat} (h : nextTok c s = .error e) : 0 < e := by
  unfold nextTok at h
  repeat' (split at h)
  all_goals (cases h)
  all_goals omega
theorem lu_err : ∀ (n : Nat) (s : List UInt8) (e o : Nat), s.length ≤ n → lu s = .error (e, o) → 0 < e ∧ o ≤ s.length
  | 0, s, e, o, hn, h => by
    have : s = [] := List.length_eq_zero_iff.1 (by omega)
    subst this
    rw [lu_gaps (g := []) (by simp [skip])] at h
    cases h
  | n + 1, s, e, o, hn, h => by
    rcases lu_cases s with ⟨_, h1⟩ | ⟨g, c, r, e', rfl, h2, h3, h4, h5⟩ | ⟨g, t, q, rfl, h2, h3, h4, h5, h6⟩
    · rw [h1] at h; cases h
    · rw [h5] at h
      simp only [Except.error.injEq, Prod.mk.injEq] at h
      obtain ⟨rfl, rfl⟩ := h
      exact ⟨next_err_pos h3, by simp⟩
    · rw [h5] at h
      cases hq : lu q with
      | ok m => rw [hq] at h; cases h
      | error x =>
        obtain ⟨a, b⟩ := x
        rw [hq] at h
        simp only [shiftR, Except.error.injEq, Prod.mk.injEq] at h
        have hwp := h3.width_pos
        have hwl := written_length t
        have := lu_err n q a b (by simp at hn; omega) hq
        simp
        omega
theorem lu_error {s : List UInt8} {e o : Nat} (h : lu s = .error (e, o)) : 0 < e ∧ o ≤ s.length := lu_err _ s e o (Nat.le_refl _) h

/-- the tokens of a text: as they may be, at places of the text -/
theorem lex_toks {s : List UInt8} (h : s.length ≤ 5000) {l : List T} {x y : Int} (hl : lex s = (l, x, y)) : (∀ p ∈ l, TokOK p.2) ∧ (∀ p ∈ l, p.1 ≤ s.length) ∧ 0 ≤ x ∧ y ≤ s.length ∧ (x ≠ 0 → l = []) ∧ (x = 0 → y = 0) := by
  have hx : lx 0 s = lu s := lx_lu h
  rw [lex_lu h] at hl
  cases hu : lu s with
  | error z =>
    rw [hu] at hl
    obtain ⟨a, b⟩ := z
    simp only [Prod.mk.injEq] at hl
    obtain ⟨rfl, rfl, rfl⟩ := hl
    obtain ⟨h1, h2⟩ := lu_error hu
    refine ⟨by simp, by simp, by omega, by omega, fun _ => rfl, by omega⟩
  | ok m =>
    rw [hu] at hl
    simp only [Prod.mk.injEq] at hl
    obtain ⟨rfl, rfl, rfl⟩ := hl
    rw [hu] at hx
    exact ⟨lu_ok hu, lexN_bound _ _ _ _ hx, by omega, by omega, by simp, by simp⟩

theorem parse_out {s : List UInt8} (h : s.length ≤ 5000) : ((parse s).2.1 ≠ 0 → (parse s).1 = [] ∧ (parse s).2.2 ≤ s.length) ∧ ((parse s).2.1 = 0 → valid (parse s).1 = true ∧ (parse s).2.2 = 0) := by
  rcases hl : lex s with ⟨l, x, y⟩
  obtain ⟨h1, h2, h3, h4, h5, h6⟩ := lex_toks h hl
  unfold parse
  rw [hl]
  simp only
  by_cases hx : x = 0
  · rw [if_neg (by simpa using hx)]
    cases hp : parseT [] s.length l with
    | error z =>
      obtain ⟨a, b⟩ := z
      obtain ⟨q1, q2⟩ := parseN_err _ _ _ _ _ _ h1 h2 hp
      exact ⟨fun _ => ⟨rfl, q2⟩, fun e => by simp at e; omega⟩
    | ok d =>
      have := parseN_out _ _ _ _ _ h1 (by decide) hp
      exact ⟨fun e => absurd rfl e, fun _ => ⟨this, rfl⟩⟩
  · rw [if_pos hx]
    exact ⟨fun _ => ⟨rfl, h4⟩, fun e => absurd e hx⟩

end Fa

namespace Fa
open Lx

/-! ### a case's text as tokens -/

def pairToks (p : Fact × Int) : List Tk := [tkName p.1.name, tkSym 61, tkNum p.2.toNat]
def restToks (ps : List (Fact × Int)) : List Tk := ps.flatMap fun p => tkSym 44 :: pairToks p
def allToks (first : Bool) (ps : List (Fact × Int)) : List Tk := if first then (match ps with | [] => [] | p :: q => pairToks p ++ restToks q) else restToks ps

theorem rd_pair {p : Fact × Int} (hn : nm p.1.name = true) (h0 : 0 ≤ p.2) (h1 : p.2 ≤ 1000000) {r : List UInt8} (hr : r = [] ∨ ∃ x, r = 44 :: x) : Rd (pairText p) (pairToks p) r := by
  have hb : ∀ (t : Tk) (x : List UInt8), Good t (32 :: x) := fun t x => good_blank (by decide) x
  have e1 : pairText p = p.1.name ++ ([32] ++ ([61] ++ ([32] ++ dec p.2.toNat))) := by unfold pairText; simp
  have e2 : pairToks p = [tkName p.1.name] ++ ([] ++ ([tkSym 61] ++ ([] ++ [tkNum p.2.toNat]))) := rfl
  rw [e1, e2]
  refine (rd_name hn (hb _ _)).app ((rd_blank _).app ((rd_sym (by decide) (by decide) (by decide) _).app ((rd_blank _).app (rd_num (by omega) ?_))))
  rcases hr with rfl | ⟨x, rfl⟩
  · exact Good.nil _
  · exact good_not_word (by simp) (by decide) _
def okPair (p : Fact × Int) : Prop := nm p.1.name = true ∧ 0 ≤ p.2 ∧ p.2 ≤ 1000000
theorem rd_rest : ∀ (ps : List (Fact × Int)), (∀ p ∈ ps, okPair p) → Rd ((ps.map pairText).flatMap fun y => [44, 32] ++ y) (restToks ps) []
  | [], _ => Rd.nil []
  | p :: ps, h => by
    obtain ⟨h1, h2, h3⟩ := h p List.mem_cons_self
    rw [List.map_cons, List.flatMap_cons, restToks, List.flatMap_cons]
    refine Rd.app (s := [44, 32] ++ pairText p) (L := tkSym 44 :: pairToks p) ?_ (rd_rest ps fun q hq => h q (List.mem_cons_of_mem _ hq))
    refine Rd.app (s := [44, 32]) (L := [tkSym 44]) ?_ (rd_pair h1 h2 h3 ?_)
    · exact Rd.app (s := [44]) (s' := [32]) (rd_sym (by decide) (by decide) (by decide) _) (rd_blank _)
    · cases ps with
      | nil => left; rfl
      | cons q ps => right; exact ⟨_, rfl⟩
theorem rd_joined {ps : List (Fact × Int)} (h : ∀ p ∈ ps, okPair p) : Rd (joined (ps.map pairText)) (allToks true ps) [] := by
  cases ps with
  | nil => exact Rd.nil []
  | cons p ps =>
    obtain ⟨h1, h2, h3⟩ := h p List.mem_cons_self
    refine Rd.app (s := pairText p) (L := pairToks p) (rd_pair h1 h2 h3 ?_) (rd_rest ps fun q hq => h q (List.mem_cons_of_mem _ hq))
    cases ps with
    | nil => left; rfl
    | cons q ps => right; exact ⟨_, rfl⟩

theorem pair_len {p : Fact × Int} (h : okPair p) : (pairText p).length ≤ 34 := by
  obtain ⟨h1, h2, h3⟩ := h
  have := nm_len h1
  have := dec_len (n := p.2.toNat) 7 (by decide) (by omega)
  unfold pairText
  simp
  omega
theorem rest_len : ∀ (ps : List (Fact × Int)), (∀ p ∈ ps, okPair p) → ((ps.map pairText).flatMap fun y => [44, 32] ++ y).length ≤ 36 * ps.length
  | [], _ => by simp
  | p :: ps, h => by
    have h1 := pair_len (h p List.mem_cons_self)
    have h2 := rest_len ps fun q hq => h q (List.mem_cons_of_mem _ hq)
    rw [List.map_cons, List.flatMap_cons, List.length_append, List.length_append, List.length_cons]
    simp only [List.length_cons, List.length_nil]
    omega
theorem joined_len {ps : List (Fact × Int)} (h : ∀ p ∈ ps, okPair p) : (joined (ps.map pairText)).length ≤ 36 * ps.length := by
  cases ps with
  | nil => simp [joined]
  | cons p ps =>
    have h1 := pair_len (h p List.mem_cons_self)
    have h2 := rest_len ps fun q hq => h q (List.mem_cons_of_mem _ hq)
    rw [List.map_cons, joined, List.length_append, List.length_cons]
    omega

/-! ### reading a case -/

/-- a pair as it may be for a domain -/
def Fit (d : Dom) (p : Fact × Int) : Prop := p.1 ∈ d ∧ within p = true
theorem Fit.ok {d : Dom} (hv : valid d = true) {p : Fact × Int} (h : Fit d p) : okPair p ∧ p.1.lo ≤ p.2 ∧ p.2 ≤ p.1.hi := by
  obtain ⟨h1, h2⟩ := h
  obtain ⟨k1, k2⟩ := (valid_parts hv).1 p.1 h1
  unfold within at h2
  simp only [Bool.and_eq_true, decide_eq_true_eq] at h2
  refine ⟨⟨k2, ?_⟩, h2⟩
  rcases okKind_cases k1 with ⟨_, a, b⟩ | ⟨_, a, b, c⟩ <;> omega

theorem valP_ok {d : Dom} {gone : List (List UInt8)} {first : Bool} {e : Nat} {ts : List T} {p : Fact × Int} {L : List Tk} (hv : valid d = true) (h : Fit d p) (hg : p.1.name ∉ gone)
    (ht : toks ts = (if first then [] else [tkSym 44]) ++ (pairToks p ++ L)) : ∃ r, valP d gone first e ts = .ok ((idx d p.1.name, p.2, p.1.name), r) ∧ toks r = L := by
  obtain ⟨⟨_, h0, h1⟩, hlo, hhi⟩ := h.ok hv
  obtain ⟨i, hi⟩ := List.getElem?_of_mem h.1
  have hx := idx_at (valid_parts hv).2.1 hi
  have hstart : ∃ t r0, (if first then (Except.ok (((0, ⟨0, 0, []⟩) : T), ts) : Except Fail (T × List T)) else take 4 [44] e ts) = .ok (t, r0) ∧ toks r0 = pairToks p ++ L := by
    cases first with
    | true => exact ⟨_, ts, rfl, by simpa using ht⟩
    | false =>
      simp only [Bool.false_eq_true, if_false, List.cons_append, List.nil_append] at ht ⊢
      obtain ⟨p1, r1, rfl, ht1⟩ := toks_cons ht
      exact ⟨_, r1, take_ok 4 [44] rfl (.inr rfl), ht1⟩
  obtain ⟨t, r0, hs, ht⟩ := hstart
  unfold valP
  rw [hs]
  simp only
  unfold pairToks at ht
  obtain ⟨p1, r1, rfl, ht1⟩ := toks_cons ht
  obtain ⟨p2, r2, rfl, ht2⟩ := toks_cons ht1
  obtain ⟨p3, r3, rfl, ht3⟩ := toks_cons ht2
  refine ⟨r3, ?_, ht3⟩
  rw [take_ok 1 [] rfl (.inl rfl)]
  simp only
  rw [if_neg (show ¬ idx d p.1.name < 0 by rw [hx]; omega), if_neg hg, take_ok 4 [61] rfl (.inr rfl)]
  simp only
  rw [take_ok 2 [] rfl (.inl rfl)]
  simp only [hx, Int.toNat_natCast, hi]
  rw [if_neg (by omega), Int.toNat_of_nonneg h0]

def setAll (d : Dom) (c : List Int) (ps : List (Fact × Int)) : List Int := ps.foldl (fun c p => c.set (idx d p.1.name).toNat p.2) c

theorem valsN_ok {d : Dom} (hv : valid d = true) : ∀ (ps : List (Fact × Int)) (c : List Int) (g : List (List UInt8)) (first : Bool) (n e : Nat) (ts : List T), ps.length < n → (∀ p ∈ ps, Fit d p) → (g ++ ps.map fun p => p.1.name).Nodup → toks ts = allToks first ps →
    valsN n d c g first e ts = .ok (setAll d c ps, g ++ ps.map fun p => p.1.name)
  | [], c, g, first, n + 1, e, ts, _, _, _, ht => by
    have : ts = [] := by cases ts <;> cases first <;> simp [toks, allToks, restToks] at ht ⊢
    subst this
    simp [valsN, setAll]
  | p :: ps, c, g, first, n + 1, e, ts, hl, hf, hn, ht => by
    have hg : p.1.name ∉ g := by
      rw [List.nodup_append] at hn
      intro hm
      exact hn.2.2 _ hm p.1.name (by simp) rfl
    have ht' : toks ts = (if first then [] else [tkSym 44]) ++ (pairToks p ++ restToks ps) := by rw [ht]; cases first <;> simp [allToks, restToks]
    obtain ⟨r, h1, h2⟩ := valP_ok (e := e) hv (hf p List.mem_cons_self) hg ht'
    have hne : ∃ t r', ts = t :: r' := by
      cases ts with
      | nil =>
        have e1 := congrArg List.length ht'
        simp [toks, pairToks] at e1
      | cons t r' => exact ⟨t, r', rfl⟩
    obtain ⟨t, r', rfl⟩ := hne
    rw [valsN]
    rw [h1]
    simp only
    have := valsN_ok hv ps (c.set (idx d p.1.name).toNat p.2) (g ++ [p.1.name]) false n e r (by simp at hl; omega) (fun q hq => hf q (List.mem_cons_of_mem _ hq)) (by simpa using hn) (by rw [h2]; rfl)
    rw [this]
    simp [setAll]

theorem rest_toks_len : ∀ ps : List (Fact × Int), ps.length ≤ (restToks ps).length
  | [] => Nat.zero_le _
  | p :: ps => by
    have h2 := rest_toks_len ps
    unfold restToks at h2 ⊢
    rw [List.flatMap_cons, List.length_append, List.length_cons, List.length_cons]
    omega
theorem all_toks_len (ps : List (Fact × Int)) : ps.length ≤ (allToks true ps).length := by
  cases ps with
  | nil => exact Nat.zero_le _
  | cons p ps =>
    have := rest_toks_len ps
    simp [allToks, pairToks]; omega

/-- pairs of a domain's facts, each once, are read so -/
theorem parse_pairs {d : Dom} (hv : valid d = true) {ps : List (Fact × Int)} (hf : ∀ p ∈ ps, Fit d p) (hn : (ps.map fun p => p.1.name).Nodup) (hl : ps.length = d.length) :
    parseCase d (joined (ps.map pairText)) = (setAll d (List.replicate d.length 0) ps, 0, 0) := by
  have hok : ∀ p ∈ ps, okPair p := fun p hp => ((hf p hp).ok hv).1
  have h60 := (valid_parts hv).2.2
  have hlen := joined_len hok
  obtain ⟨l, h1, h2⟩ := (rd_joined hok).eq
  have hx : lex (joined (ps.map pairText)) = (l, 0, 0) := by rw [lex_lu (by omega), h1]
  unfold parseCase
  rw [if_pos hv, hx]
  simp only [ne_eq, not_true_eq_false, if_false]
  unfold valsT
  have := valsN_ok hv ps (List.replicate d.length 0) [] true (l.length + 1) (joined (ps.map pairText)).length l (by have := all_toks_len ps; have := toks_length l; rw [h2] at this; omega) hf (by simpa using hn) h2
  rw [this]
  simp only
  rw [if_neg (by simp; omega)]

theorem setAll_len (d : Dom) : ∀ (ps : List (Fact × Int)) (c : List Int), (setAll d c ps).length = c.length
  | [], _ => rfl
  | p :: ps, c => by
    show (setAll d (c.set _ _) ps).length = _
    rw [setAll_len d ps]; simp
theorem setAll_other (d : Dom) : ∀ (ps : List (Fact × Int)) (c : List Int) (i : Nat), (∀ p ∈ ps, (idx d p.1.name).toNat ≠ i) → (setAll d c ps)[i]? = c[i]?
  | [], _, _, _ => rfl
  | p :: ps, c, i, h => by
    show (setAll d (c.set _ _) ps)[i]? = _
    rw [setAll_other d ps _ i fun q hq => h q (List.mem_cons_of_mem _ hq), List.getElem?_set_ne (h p List.mem_cons_self)]
theorem setAll_at {d : Dom} (hv : (d.map Fact.name).Nodup) : ∀ (ps : List (Fact × Int)) (c : List Int) (i : Nat) (f : Fact) (v : Int), (∀ p ∈ ps, p.1 ∈ d) → (ps.map fun p => p.1.name).Nodup → d[i]? = some f → (f, v) ∈ ps → i < c.length → (setAll d c ps)[i]? = some v
  | p :: ps, c, i, f, v, hd, hn, hf, hm, hi => by
    show (setAll d (c.set _ _) ps)[i]? = _
    rw [List.map_cons, List.nodup_cons] at hn
    rcases List.mem_cons.1 hm with e | hm
    · subst e
      have hx := idx_at hv hf
      rw [setAll_other]
      · simp only [hx, Int.toNat_natCast]
        rw [List.getElem?_set_self hi]
      · intro q hq e
        obtain ⟨j, hj⟩ := List.getElem?_of_mem (hd q (List.mem_cons_of_mem _ hq))
        have hy := idx_at hv hj
        rw [hy, Int.toNat_natCast] at e
        subst e
        rw [hf] at hj
        simp only [Option.some.injEq] at hj
        exact hn.1 (List.mem_map.2 ⟨q, hq, by rw [← hj]⟩)
    · exact setAll_at hv ps _ i f v (fun q hq => hd q (List.mem_cons_of_mem _ hq)) hn.2 hf hm (by simpa using hi)

theorem fits_parts {d : Dom} {c : List Int} (h : fits d c = true) : valid d = true ∧ c.length = d.length ∧ ∀ p ∈ d.zip c, within p = true := by
  unfold fits at h
  simp only [Bool.and_eq_true, List.all_eq_true, decide_eq_true_eq] at h
  exact ⟨h.1.1, h.1.2, h.2⟩
theorem fits_mk {d : Dom} {c : List Int} (h1 : valid d = true) (h2 : c.length = d.length) (h3 : ∀ p ∈ d.zip c, within p = true) : fits d c = true := by
  unfold fits
  simp only [Bool.and_eq_true, List.all_eq_true, decide_eq_true_eq]
  exact ⟨⟨h1, h2⟩, h3⟩
theorem zip_fst_nodup {d : Dom} {c : List Int} (hn : (d.map Fact.name).Nodup) (hl : c.length = d.length) : ((d.zip c).map fun p => p.1.name).Nodup := by
  have : (d.zip c).map (fun p => p.1.name) = d.map Fact.name := by
    have e := List.map_fst_zip (l₁ := d) (l₂ := c) (by omega)
    conv => rhs; rw [← e, List.map_map]
    rfl
  rw [this]; exact hn

/-- whatever pairs a case's are, in whatever order -/
theorem parse_same {d : Dom} {c : List Int} (h : fits d c = true) {ps : List (Fact × Int)} (hm : ∀ p, p ∈ ps ↔ p ∈ d.zip c) (hn : (ps.map fun p => p.1.name).Nodup) (hl : ps.length = d.length) :
    parseCase d (joined (ps.map pairText)) = (c, 0, 0) := by
  obtain ⟨h1, h2, h3⟩ := fits_parts h
  have hd := (valid_parts h1).2.1
  have hfit : ∀ p ∈ ps, Fit d p := fun p hp => by
    have hz := (hm p).1 hp
    refine ⟨?_, h3 p hz⟩
    obtain ⟨a, b⟩ := p
    exact (List.of_mem_zip hz).1
  rw [parse_pairs h1 hfit hn hl]
  congr 1
  apply List.ext_getElem?
  intro i
  by_cases hi : i < d.length
  · have hc : i < c.length := by omega
    have hz : (d[i], c[i]) ∈ ps := (hm _).2 (by
      rw [List.mem_iff_getElem?]
      exact ⟨i, by rw [List.getElem?_zip_eq_some]; exact ⟨List.getElem?_eq_getElem hi, List.getElem?_eq_getElem hc⟩⟩)
    rw [setAll_at hd ps _ i d[i] c[i] (fun p hp => (hfit p hp).1) hn (List.getElem?_eq_getElem hi) hz (by simp; omega), List.getElem?_eq_getElem hc]
  · rw [List.getElem?_eq_none (by rw [setAll_len]; simp; omega), List.getElem?_eq_none (by omega)]

/-- a case's text is read as the case -/
theorem parse_caseText {d : Dom} {c : List Int} (h : fits d c = true) : parseCase d (caseText d c) = (c, 0, 0) := by
  obtain ⟨h1, h2, h3⟩ := fits_parts h
  unfold caseText
  rw [if_pos h]
  exact parse_same h (fun p => Iff.rfl) (zip_fst_nodup (valid_parts h1).2.1 h2) (by simp; omega)
theorem caseText_inj {d : Dom} {a b : List Int} (ha : fits d a = true) (hb : fits d b = true) (h : caseText d a = caseText d b) : a = b := by
  have h1 := parse_caseText ha
  rw [h, parse_caseText hb] at h1
  simp at h1
  exact h1.symm
theorem caseText_len (d : Dom) (c : List Int) : (caseText d c).length ≤ 2160 := by
  unfold caseText
  split
  · rename_i h
    obtain ⟨h1, h2, h3⟩ := fits_parts h
    have h60 := (valid_parts h1).2.2
    have := joined_len (ps := d.zip c) fun p hp => by
      refine (Fit.ok h1 ⟨?_, h3 p hp⟩).1
      obtain ⟨a, b⟩ := p
      exact (List.of_mem_zip hp).1
    have e : (d.zip c).length ≤ d.length := by simp; omega
    omega
  · simp
theorem nodup_rev {α : Type} {l : List α} (h : l.Nodup) : l.reverse.Nodup := by
  unfold List.Nodup at h ⊢
  rw [List.pairwise_reverse]
  exact h.imp fun e => e.symm
/-- turned round -/
theorem valid_reverse {d : Dom} (h : valid d = true) : valid d.reverse = true := by
  obtain ⟨h1, h2, h3⟩ := valid_parts h
  exact valid_mk (fun f hf => h1 f (List.mem_reverse.1 hf)) (by rw [List.map_reverse]; exact nodup_rev h2) (by simpa using h3)
theorem zip_rev : ∀ {d : Dom} {c : List Int} (_ : c.length = d.length), d.reverse.zip c.reverse = (d.zip c).reverse
  | [], [], _ => rfl
  | f :: d, x :: c, h => by
    have h' : c.length = d.length := by simpa using h
    rw [List.reverse_cons, List.reverse_cons, List.zip_append (by simp [h']), zip_rev h']
    simp
theorem fits_reverse {d : Dom} {c : List Int} (h : fits d c = true) : fits d.reverse c.reverse = true := by
  obtain ⟨h1, h2, h3⟩ := fits_parts h
  refine fits_mk (valid_reverse h1) (by simpa using h2) fun p hp => ?_
  rw [zip_rev h2] at hp
  exact h3 p (List.mem_reverse.1 hp)
theorem parse_reverse {d : Dom} {c : List Int} (h : fits d c = true) : parseCase d (caseText d.reverse c.reverse) = (c, 0, 0) := by
  obtain ⟨h1, h2, h3⟩ := fits_parts h
  unfold caseText
  rw [if_pos (fits_reverse h), zip_rev h2]
  refine parse_same h (fun p => List.mem_reverse) ?_ (by simp; omega)
  rw [List.map_reverse]
  exact nodup_rev (zip_fst_nodup (valid_parts h1).2.1 h2)

/-! ### what is read fits -/

theorem valP_out {d : Dom} {gone : List (List UInt8)} {first : Bool} {e : Nat} {ts r : List T} {i v : Int} {a : List UInt8} (h : valP d gone first e ts = .ok ((i, v, a), r)) :
    ∃ (k : Nat) (f : Fact), i = (k : Int) ∧ idx d a = (k : Int) ∧ d[k]? = some f ∧ f.name = a ∧ f.lo ≤ v ∧ v ≤ f.hi ∧ a ∉ gone ∧ r <:+ ts ∧ r.length < ts.length := by
  unfold valP at h
  split at h
  · simp at h
  · rename_i t0 r0 h0
    have hs : r0 <:+ ts := by
      cases first with
      | true => simp only [if_true, Except.ok.injEq, Prod.mk.injEq] at h0; rw [h0.2]; exact List.suffix_refl _
      | false =>
        simp only [Bool.false_eq_true, if_false] at h0
        obtain ⟨rfl, -, -⟩ := take_rest h0
        exact List.suffix_cons _ _
    split at h
    · simp at h
    · rename_i t1 r1 h1
      obtain ⟨rfl, -, -⟩ := take_rest h1
      split at h
      · simp at h
      · rename_i hi
        split at h
        · simp at h
        · rename_i hg
          split at h
          · simp at h
          · rename_i t2 r2 h2
            obtain ⟨rfl, -, -⟩ := take_rest h2
            split at h
            · simp at h
            · rename_i t3 r3 h3
              obtain ⟨rfl, -, -⟩ := take_rest h3
              split at h
              · simp at h
              · rename_i f hf
                split at h
                · simp at h
                · rename_i hc
                  simp only [Except.ok.injEq, Prod.mk.injEq] at h
                  obtain ⟨⟨rfl, rfl, rfl⟩, rfl⟩ := h
                  have hm : t1.2.text ∈ d.map Fact.name := by
                    by_cases hm : t1.2.text ∈ d.map Fact.name
                    · exact hm
                    · exact absurd (idx_neg.2 hm) hi
                  obtain ⟨k, q1, q2, q3⟩ := idx_yes hm
                  rw [q1, Int.toNat_natCast] at hf
                  refine ⟨k, f, q1, q1, hf, ?_, by omega, by omega, hg, ?_, ?_⟩
                  · rw [List.getElem?_map, hf] at q3
                    simpa using q3
                  · obtain ⟨m, hm⟩ := hs
                    exact ⟨m ++ [t1, t2, t3], by rw [← hm]; simp⟩
                  · obtain ⟨m, hm⟩ := hs
                    rw [← hm]; simp; omega
theorem valP_err {d : Dom} {gone : List (List UInt8)} {first : Bool} {e : Nat} {ts : List T} {a b : Int} (h : valP d gone first e ts = .error (a, b)) (hp : ∀ p ∈ ts, p.1 ≤ e) : 0 < a ∧ b ≤ e := by
  unfold valP at h
  split at h
  · rename_i x h0
    simp at h; subst h
    cases first with
    | true => simp at h0
    | false => simp only [Bool.false_eq_true, if_false] at h0; exact take_err h0 hp
  · rename_i t0 r0 h0
    have hs : ∀ p ∈ r0, p.1 ≤ e := by
      cases first with
      | true => simp only [if_true, Except.ok.injEq, Prod.mk.injEq] at h0; rw [← h0.2]; exact hp
      | false =>
        simp only [Bool.false_eq_true, if_false] at h0
        obtain ⟨rfl, -, -⟩ := take_rest h0
        exact fun p q => hp p (by simp [q])
    split at h
    · rename_i x h1
      simp at h; subst h
      exact take_err h1 hs
    · rename_i t1 r1 h1
      obtain ⟨rfl, -, -⟩ := take_rest h1
      have hp1 := hs t1 List.mem_cons_self
      split at h
      · simp at h; omega
      · rename_i hi
        split at h
        · simp at h; omega
        · split at h
          · rename_i x h2
            simp at h; subst h
            exact take_err h2 fun p q => hs p (by simp [q])
          · rename_i t2 r2 h2
            obtain ⟨rfl, -, -⟩ := take_rest h2
            split at h
            · rename_i x h3
              simp at h; subst h
              exact take_err h3 fun p q => hs p (by simp [q])
            · rename_i t3 r3 h3
              obtain ⟨rfl, -, -⟩ := take_rest h3
              split at h
              · rename_i hf
                have := idx_lt d t1.2.text
                have hlt : (idx d t1.2.text).toNat < d.length := by omega
                rw [List.getElem?_eq_getElem hlt] at hf
                cases hf
              · split at h
                · simp at h
                  have := hs t3 (by simp)
                  omega
                · simp at h

/-- so far it fits -/
structure FitTo (d : Dom) (c : List Int) (g : List (List UInt8)) : Prop where
  len : c.length = d.length
  nodup : g.Nodup
  sub : ∀ a ∈ g, a ∈ d.map Fact.name
  at_ : ∀ (k : Nat) (f : Fact), d[k]? = some f → f.name ∈ g → ∃ v, c[k]? = some v ∧ f.lo ≤ v ∧ v ≤ f.hi

theorem FitTo.step {d : Dom} (hd : (d.map Fact.name).Nodup) {c : List Int} {g : List (List UInt8)} (h : FitTo d c g) {k : Nat} {f : Fact} {v : Int} (hf : d[k]? = some f) (h1 : f.lo ≤ v) (h2 : v ≤ f.hi) (hg : f.name ∉ g) : FitTo d (c.set k v) (g ++ [f.name]) := by
  have hk := (List.getElem?_eq_some_iff.1 hf).1
  refine ⟨by rw [List.length_set]; exact h.len, ?_, fun a ha => ?_, fun j q hq hm => ?_⟩
  · rw [List.nodup_append]
    refine ⟨h.nodup, by simp, fun x hx y hy e => ?_⟩
    simp at hy
    subst hy; subst e
    exact hg hx
  · rcases List.mem_append.1 ha with ha | ha
    · exact h.sub a ha
    · simp at ha; subst ha
      exact List.mem_map_of_mem (List.mem_of_getElem? hf)
  · by_cases e : k = j
    · subst e
      rw [hf] at hq; cases hq
      exact ⟨v, by rw [List.getElem?_set_self (by rw [h.len]; exact hk)], h1, h2⟩
    · rw [List.getElem?_set_ne e]
      rcases List.mem_append.1 hm with hm | hm
      · exact h.at_ j q hq hm
      · simp at hm
        exfalso
        have e1 := idx_at hd hf
        have e2 := idx_at hd hq
        rw [hm, e1] at e2
        omega

theorem nodup_le {α : Type} [DecidableEq α] : ∀ (g l : List α), g.Nodup → (∀ a ∈ g, a ∈ l) → g.length ≤ l.length
  | [], _, _, _ => Nat.zero_le _
  | x :: g, l, hn, hs => by
    rw [List.nodup_cons] at hn
    have hx := hs x List.mem_cons_self
    have := nodup_le g (l.erase x) hn.2 fun a ha => (List.mem_erase_of_ne (fun e => hn.1 (by rw [← e]; exact ha))).2 (hs a (List.mem_cons_of_mem _ ha))
    have hl := List.length_erase_of_mem hx
    have hpos := List.length_pos_of_mem hx
    rw [List.length_cons]
    omega
theorem nodup_all {α : Type} [DecidableEq α] {g l : List α} (hn : g.Nodup) (hs : ∀ a ∈ g, a ∈ l) (hl : l.length ≤ g.length) : ∀ a ∈ l, a ∈ g := by
  intro a ha
  by_cases hg : a ∈ g
  · exact hg
  · have := nodup_le (a :: g) l (List.nodup_cons.2 ⟨hg, hn⟩) (fun x hx => by rcases List.mem_cons.1 hx with e | hx; (· rw [e]; exact ha); (· exact hs x hx))
    simp at this
    omega

theorem FitTo.done {d : Dom} (hv : valid d = true) {c : List Int} {g : List (List UInt8)} (h : FitTo d c g) (hl : d.length ≤ g.length) : fits d c = true := by
  refine fits_mk hv h.len fun p hp => ?_
  obtain ⟨k, hk⟩ := List.getElem?_of_mem hp
  rw [List.getElem?_zip_eq_some] at hk
  have hm : p.1.name ∈ g := nodup_all h.nodup h.sub (by simpa using hl) _ (List.mem_map_of_mem (List.mem_of_getElem? hk.1))
  obtain ⟨v, h1, h2, h3⟩ := h.at_ k p.1 hk.1 hm
  rw [hk.2] at h1
  cases h1
  unfold within
  simp [h2, h3]

theorem valsN_out {d : Dom} (hv : valid d = true) : ∀ (n : Nat) (c : List Int) (g : List (List UInt8)) (first : Bool) (e : Nat) (ts : List T) (c' : List Int) (g' : List (List UInt8)), FitTo d c g → valsN n d c g first e ts = .ok (c', g') → FitTo d c' g'
  | 0, c, g, first, e, ts, c', g', hf, h => by
    simp [valsN] at h
    obtain ⟨rfl, rfl⟩ := h
    exact hf
  | n + 1, c, g, first, e, ts, c', g', hf, h => by
    cases ts with
    | nil =>
      rw [valsN] at h
      simp at h
      obtain ⟨rfl, rfl⟩ := h
      exact hf
    | cons t r =>
      rw [valsN] at h
      split at h
      · simp at h
      · rename_i i v a r' hp
        obtain ⟨k, f, rfl, _, q1, rfl, q2, q3, q4, _, _⟩ := valP_out hp
        rw [Int.toNat_natCast] at h
        exact valsN_out hv n _ _ _ e r' c' g' (hf.step (valid_parts hv).2.1 q1 q2 q3 q4) h
theorem valsN_err {d : Dom} : ∀ (n : Nat) (c : List Int) (g : List (List UInt8)) (first : Bool) (e : Nat) (ts : List T) (a b : Int), (∀ p ∈ ts, p.1 ≤ e) → valsN n d c g first e ts = .error (a, b) → 0 < a ∧ b ≤ e
  | 0, c, g, first, e, ts, a, b, _, h => by simp [valsN] at h
  | n + 1, c, g, first, e, ts, a, b, hp, h => by
    cases ts with
    | nil => rw [valsN] at h; simp at h
    | cons t r =>
      rw [valsN] at h
      split at h
      · rename_i x hx
        simp at h; subst h
        exact valP_err hx hp
      · rename_i i v q r' hq
        obtain ⟨_, _, _, _, _, _, _, _, _, ⟨m, hm⟩, _⟩ := valP_out hq
        exact valsN_err n _ _ _ e r' a b (fun p hp' => hp p (by rw [← hm]; simp [hp'])) h

theorem parseCase_out {d : Dom} {s : List UInt8} (h : s.length ≤ 5000) : ((parseCase d s).2.1 ≠ 0 → (parseCase d s).1 = [] ∧ (parseCase d s).2.2 ≤ s.length) ∧ ((parseCase d s).2.1 = 0 → fits d (parseCase d s).1 = true ∧ (parseCase d s).2.2 = 0) := by
  unfold parseCase
  by_cases hv : valid d = true
  · rw [if_pos hv]
    rcases hl : lex s with ⟨l, x, y⟩
    obtain ⟨h1, h2, h3, h4, h5, h6⟩ := lex_toks h hl
    simp only
    by_cases hx : x = 0
    · rw [if_neg (by simpa using hx)]
      cases hp : valsT d (List.replicate d.length 0) [] true s.length l with
      | error z =>
        obtain ⟨a, b⟩ := z
        obtain ⟨q1, q2⟩ := valsN_err _ _ _ _ _ _ _ _ h2 hp
        exact ⟨fun _ => ⟨rfl, q2⟩, fun e => by simp at e; omega⟩
      | ok z =>
        obtain ⟨c, g⟩ := z
        have hf := valsN_out hv _ _ _ _ _ _ _ _ ⟨by simp, by simp, by simp, by simp⟩ hp
        simp only
        split
        · exact ⟨fun _ => ⟨rfl, by simp⟩, fun e => by simp at e⟩
        · rename_i hl
          exact ⟨fun e => absurd rfl e, fun _ => ⟨hf.done hv (by omega), rfl⟩⟩
    · rw [if_pos hx]
      exact ⟨fun _ => ⟨rfl, h4⟩, fun e => absurd e hx⟩
  · rw [if_neg hv]
    exact ⟨fun _ => ⟨rfl, by simp⟩, fun e => by simp at e⟩

end Fa

namespace Fa
open Lx

/-- is a case less? -/
def less : List Int → List Int → Bool
  | x :: a, y :: b => if x = y then less a b else decide (x < y)
  | _, _ => false

/-- the next one, from the front -/
def nx : List (Fact × Int) → Option (List Int)
  | [] => none
  | p :: l => match nx l with
    | some r => some (p.2 :: r)
    | none => if p.2 < p.1.hi then some ((p.2 + 1) :: l.map fun q => q.1.lo) else none

theorem up_app : ∀ (m : List (Fact × Int)) (p : Fact × Int), up (m ++ [p]) = match up m with | some r => some (r ++ [p.2]) | none => if p.2 < p.1.hi then some (m.map (fun q => q.1.lo) ++ [p.2 + 1]) else none
  | [], p => by simp [up]
  | q :: m, p => by
    rw [List.cons_append, up, up]
    by_cases h : q.2 < q.1.hi
    · rw [if_pos h, if_pos h]; simp
    · rw [if_neg h, if_neg h, up_app m p]
      cases up m with
      | some r => simp
      | none =>
        simp only [Option.map_none]
        split <;> simp
theorem up_nx : ∀ l : List (Fact × Int), (up l.reverse).map List.reverse = nx l
  | [] => rfl
  | p :: l => by
    have ih := up_nx l
    rw [List.reverse_cons, up_app, nx]
    cases h : up l.reverse with
    | some r =>
      rw [h] at ih
      simp only [Option.map_some] at ih
      rw [← ih]
      simp
    | none =>
      rw [h] at ih
      simp only [Option.map_none] at ih
      rw [← ih]
      simp only
      split <;> simp [List.map_reverse]
theorem next_nx {d : Dom} {c : List Int} (h : fits d c = true) : next d c = nx (d.zip c) := by
  unfold next
  rw [if_pos h, up_nx]

/-- each value in its range -/
def In (l : List (Fact × Int)) : Prop := ∀ p ∈ l, p.1.lo ≤ p.2 ∧ p.2 ≤ p.1.hi
def InL : List (Fact × Int) → List Int → Prop
  | [], [] => True
  | p :: l, x :: b => p.1.lo ≤ x ∧ x ≤ p.1.hi ∧ InL l b
  | _, _ => False

theorem In.tail {p : Fact × Int} {l : List (Fact × Int)} (h : In (p :: l)) : In l := fun q hq => h q (List.mem_cons_of_mem _ hq)

theorem nx_none : ∀ l : List (Fact × Int), In l → (nx l = none ↔ ∀ p ∈ l, p.2 = p.1.hi)
  | [], _ => by simp [nx]
  | p :: l, h => by
    have ih := nx_none l h.tail
    have hp := h p List.mem_cons_self
    rw [nx]
    cases hn : nx l with
    | some r =>
      simp only [reduceCtorEq, false_iff]
      intro hall
      have := ih.2 fun q hq => hall q (List.mem_cons_of_mem _ hq)
      rw [hn] at this; cases this
    | none =>
      simp only
      have hl := ih.1 hn
      by_cases hlt : p.2 < p.1.hi
      · rw [if_pos hlt]
        simp only [reduceCtorEq, false_iff]
        intro hall
        have := hall p List.mem_cons_self
        omega
      · rw [if_neg hlt]
        simp only [true_iff]
        intro q hq
        rcases List.mem_cons.1 hq with rfl | hq
        · omega
        · exact hl q hq
theorem los_in : ∀ l : List (Fact × Int), In l → InL l (l.map fun q => q.1.lo)
  | [], _ => trivial
  | p :: l, h => by
    have hp := h p List.mem_cons_self
    exact ⟨by simp only; omega, by simp only; omega, los_in l h.tail⟩
theorem selves_in : ∀ l : List (Fact × Int), In l → InL l (l.map fun q => q.2)
  | [], _ => trivial
  | p :: l, h => by
    have hp := h p List.mem_cons_self
    exact ⟨by simp only; omega, by simp only; omega, selves_in l h.tail⟩
theorem nx_in : ∀ (l : List (Fact × Int)) (n : List Int), In l → nx l = some n → InL l n
  | [], n, _, h => by simp [nx] at h
  | p :: l, n, hi, h => by
    have hp := hi p List.mem_cons_self
    rw [nx] at h
    cases hn : nx l with
    | some r =>
      rw [hn] at h
      simp only [Option.some.injEq] at h
      subst h
      exact ⟨by omega, by omega, nx_in l r hi.tail hn⟩
    | none =>
      rw [hn] at h
      simp only at h
      split at h
      · simp only [Option.some.injEq] at h
        subst h
        exact ⟨by omega, by omega, los_in l hi.tail⟩
      · cases h
theorem nx_less : ∀ (l : List (Fact × Int)) (n : List Int), In l → nx l = some n → less (l.map fun q => q.2) n = true
  | [], n, _, h => by simp [nx] at h
  | p :: l, n, hi, h => by
    rw [nx] at h
    cases hn : nx l with
    | some r =>
      rw [hn] at h
      simp only [Option.some.injEq] at h
      subst h
      rw [List.map_cons, less, if_pos rfl]
      exact nx_less l r hi.tail hn
    | none =>
      rw [hn] at h
      simp only at h
      split at h
      · simp only [Option.some.injEq] at h
        subst h
        rw [List.map_cons, less, if_neg (by omega)]
        simp; omega
      · cases h
theorem los_least : ∀ (l : List (Fact × Int)) (b : List Int), InL l b → less b (l.map fun q => q.1.lo) = false
  | [], [], _ => rfl
  | p :: l, x :: b, h => by
    obtain ⟨h1, h2, h3⟩ := h
    rw [List.map_cons, less]
    split
    · exact los_least l b h3
    · simp; omega
theorem his_most : ∀ (l : List (Fact × Int)) (b : List Int), (∀ p ∈ l, p.2 = p.1.hi) → InL l b → less (l.map fun q => q.2) b = false
  | [], [], _, _ => rfl
  | p :: l, x :: b, hh, h => by
    obtain ⟨h1, h2, h3⟩ := h
    have hp := hh p List.mem_cons_self
    rw [List.map_cons, less]
    split
    · exact his_most l b (fun q hq => hh q (List.mem_cons_of_mem _ hq)) h3
    · simp; omega
theorem nx_most : ∀ (l : List (Fact × Int)) (n b : List Int), In l → nx l = some n → InL l b → less (l.map fun q => q.2) b = true → less b n = false
  | [], n, b, _, h, _, _ => by simp [nx] at h
  | p :: l, n, x :: b, hi, h, hb, hl => by
    obtain ⟨h1, h2, h3⟩ := hb
    rw [nx] at h
    rw [List.map_cons, less] at hl
    cases hn : nx l with
    | some r =>
      rw [hn] at h
      simp only [Option.some.injEq] at h
      subst h
      rw [less]
      split at hl
      · rename_i e
        rw [if_pos e.symm]
        exact nx_most l r b hi.tail hn h3 hl
      · rename_i e
        rw [if_neg (fun e' => e e'.symm)]
        simp at hl ⊢; omega
    | none =>
      rw [hn] at h
      simp only at h
      split at h
      · simp only [Option.some.injEq] at h
        subst h
        rw [less]
        split at hl
        · have := his_most l b ((nx_none l hi.tail).1 hn) h3
          rw [this] at hl; cases hl
        · simp only [decide_eq_true_eq] at hl
          split
          · exact los_least l b h3
          · simp; omega
      · cases h

theorem inL_iff : ∀ (d : Dom) (a b : List Int), a.length = d.length → (InL (d.zip a) b ↔ b.length = d.length ∧ ∀ p ∈ d.zip b, within p = true)
  | [], [], b, _ => by cases b <;> simp [InL]
  | f :: d, x :: a, [], _ => by simp [InL]
  | f :: d, x :: a, y :: b, h => by
    have ih := inL_iff d a b (by simpa using h)
    rw [List.zip_cons_cons, List.zip_cons_cons, InL, ih]
    simp only [List.length_cons, List.mem_cons, forall_eq_or_imp, within, Bool.and_eq_true, decide_eq_true_eq, Nat.add_right_cancel_iff]
    constructor
    · rintro ⟨a1, a2, a3, a4⟩; exact ⟨a3, ⟨a1, a2⟩, a4⟩
    · rintro ⟨a3, ⟨a1, a2⟩, a4⟩; exact ⟨a1, a2, a3, a4⟩
theorem in_of_fits {d : Dom} {c : List Int} (h : fits d c = true) : In (d.zip c) := by
  intro p hp
  have := (fits_parts h).2.2 p hp
  unfold within at this
  simpa using this
theorem zip_snd {d : Dom} {c : List Int} (h : c.length = d.length) : (d.zip c).map (fun q => q.2) = c := List.map_snd_zip (by omega)
theorem zip_lo {d : Dom} {c : List Int} (h : c.length = d.length) : (d.zip c).map (fun q => q.1.lo) = d.map Fact.lo := by
  have e := List.map_fst_zip (l₁ := d) (l₂ := c) (by omega)
  conv => rhs; rw [← e, List.map_map]
  rfl

/-- the laws of Next -/
theorem next_laws {d : Dom} {a : List Int} (ha : fits d a = true) :
    (next d a = none ↔ ∀ p ∈ d.zip a, p.2 = p.1.hi) ∧ (∀ n, next d a = some n → fits d n = true ∧ less a n = true) ∧
    (∀ b, fits d b = true → less a b = true → ∃ n, next d a = some n ∧ less b n = false) ∧ fits d (least d) = true ∧ less a (least d) = false := by
  obtain ⟨h1, h2, h3⟩ := fits_parts ha
  have hi := in_of_fits ha
  have e2 := zip_snd h2
  have el : least d = (d.zip a).map fun q => q.1.lo := by rw [zip_lo h2, least, if_pos h1]
  have hll := (inL_iff d a _ h2).1 (los_in _ hi)
  rw [next_nx ha]
  refine ⟨nx_none _ hi, fun n hn => ?_, fun b hb hl => ?_, ?_, ?_⟩
  · have := (inL_iff d a n h2).1 (nx_in _ _ hi hn)
    have hs := nx_less _ _ hi hn
    rw [e2] at hs
    exact ⟨fits_mk h1 this.1 this.2, hs⟩
  · obtain ⟨g1, g2, g3⟩ := fits_parts hb
    have hbl := (inL_iff d a b h2).2 ⟨g2, g3⟩
    cases hn : nx (d.zip a) with
    | none =>
      have := his_most _ _ ((nx_none _ hi).1 hn) hbl
      rw [e2, hl] at this; cases this
    | some n => exact ⟨n, rfl, nx_most _ _ _ hi hn hbl (by rw [e2]; exact hl)⟩
  · rw [el]; exact fits_mk h1 hll.1 hll.2
  · rw [el]
    exact los_least _ _ ((inL_iff d a a h2).2 ⟨h2, h3⟩)

/-! ### the tokens with a line feed after each -/

def apart (l : List T) : List UInt8 := l.flatMap fun p => p.2.written ++ [10]
theorem apart_cons (x : T) (l : List T) : apart (x :: l) = x.2.written ++ 10 :: apart l := by simp [apart]
theorem apart_lu : ∀ (l : List T), (∀ p ∈ l, TokOK p.2) → ∃ m, lu (apart l) = .ok m ∧ toks m = toks l
  | [], _ => ⟨[], rfl, rfl⟩
  | x :: l, h => by
    obtain ⟨m, h1, h2⟩ := apart_lu l fun p hp => h p (List.mem_cons_of_mem _ hp)
    have hx := h x List.mem_cons_self
    have e : lu (10 :: apart l) = shiftR 1 [] (lu (apart l)) := lu_gap (u := [10]) (by simp [skip, isBlank])
    rw [apart_cons, lu_tok hx (Good.gap _ (by decide) _), e, h1]
    exact ⟨_, rfl, by simp [toks, shift] at h2 ⊢; exact h2⟩
theorem apart_length (l : List T) : (apart l).length = (allOf l).length := by
  induction l with
  | nil => rfl
  | cons x l ih => rw [apart_cons, allOf_cons]; simp [ih]

/-- tokens without their places -/
def er (ts : List T) : List T := ts.map fun p => (0, p.2)
theorem er_of_toks {a b : List T} (h : toks a = toks b) : er a = er b := by
  have e : ∀ l : List T, er l = (toks l).map fun t => ((0, t) : T) := fun l => by simp [er, toks]
  rw [e, e, h]
theorem er_length (ts : List T) : (er ts).length = ts.length := by simp [er]

theorem take_er (k : Nat) (x : List UInt8) (e : Nat) (ts : List T) : take k x 0 (er ts) = match take k x e ts with | .error (a, _) => .error (a, 0) | .ok (t, r) => .ok ((0, t.2), er r) := by
  cases ts with
  | nil => rfl
  | cons t r =>
    show take k x 0 ((0, t.2) :: er r) = _
    rw [take_cons, take_cons]
    by_cases h : t.2.kind = k ∧ (x = [] ∨ t.2.text = x)
    · rw [if_pos h, if_pos h]
    · rw [if_neg h, if_neg h]; rfl
theorem span_er (e : Nat) (ts : List T) : span 0 (er ts) = match span e ts with | .error (a, _) => .error (a, 0) | .ok (u, r) => .ok (u, er r) := by
  unfold span
  rw [take_er 2 [] e ts]
  rcases take 2 [] e ts with ⟨a, b⟩ | ⟨lo, r1⟩
  · rfl
  · simp only
    split
    · rfl
    · rw [take_er 1 tTo e r1]
      rcases take 1 tTo e r1 with ⟨a, b⟩ | ⟨t2, r2⟩
      · rfl
      · simp only
        rw [take_er 2 [] e r2]
        rcases take 2 [] e r2 with ⟨a, b⟩ | ⟨hi, r3⟩
        · rfl
        · simp only
          split <;> rfl
theorem ranges_er (w : List UInt8) (p e : Nat) (ts : List T) : ranges w 0 0 (er ts) = match ranges w p e ts with | .error (a, _) => .error (a, 0) | .ok (u, r) => .ok (u, er r) := by
  unfold ranges
  split
  · rfl
  · split
    · rw [span_er e ts]
      rcases span e ts with ⟨a, b⟩ | ⟨⟨lo, hi⟩, r⟩ <;> rfl
    · rfl
theorem factP_er (d : Dom) (e : Nat) (ts : List T) : factP d 0 (er ts) = match factP d e ts with | .error (a, _) => .error (a, 0) | .ok (u, r) => .ok (u, er r) := by
  unfold factP
  rw [take_er 1 [] e ts]
  rcases take 1 [] e ts with ⟨a, b⟩ | ⟨name, r1⟩
  · rfl
  · simp only
    split
    · rfl
    · split
      · rfl
      · rw [take_er 1 [] e r1]
        rcases take 1 [] e r1 with ⟨a, b⟩ | ⟨word, r2⟩
        · rfl
        · simp only
          rw [ranges_er word.2.text word.1 e r2]
          rcases ranges word.2.text word.1 e r2 with ⟨a, b⟩ | ⟨⟨k, lo, hi⟩, r3⟩
          · rfl
          · simp only
            rw [take_er 4 [59] e r3]
            rcases take 4 [59] e r3 with ⟨a, b⟩ | ⟨t, r4⟩ <;> rfl
theorem parseN_er : ∀ (n : Nat) (d : Dom) (e : Nat) (ts : List T), parseN n d 0 (er ts) = match parseN n d e ts with | .error (a, _) => .error (a, 0) | .ok u => .ok u
  | 0, d, e, ts => rfl
  | n + 1, d, e, ts => by
    cases ts with
    | nil => rfl
    | cons t r =>
      rw [parseN]
      show (match factP d 0 (er (t :: r)) with | .error x => Except.error x | .ok (f, r') => parseN n (d ++ [f]) 0 r') = _
      rw [factP_er d e (t :: r)]
      rcases factP d e (t :: r) with ⟨a, b⟩ | ⟨f, r'⟩
      · rfl
      · simp only
        exact parseN_er n (d ++ [f]) e r'

theorem first_er (first : Bool) (e : Nat) (ts : List T) : (if first then (Except.ok (((0, ⟨0, 0, []⟩) : T), er ts) : Except Fail (T × List T)) else take 4 [44] 0 (er ts)) = match (if first then (Except.ok (((0, ⟨0, 0, []⟩) : T), ts) : Except Fail (T × List T)) else take 4 [44] e ts) with | .error (a, _) => .error (a, 0) | .ok (t, r) => .ok ((0, t.2), er r) := by
  cases first
  · simp only [Bool.false_eq_true, if_false]; exact take_er 4 [44] e ts
  · rfl
theorem valP_er (d : Dom) (g : List (List UInt8)) (first : Bool) (e : Nat) (ts : List T) : valP d g first 0 (er ts) = match valP d g first e ts with | .error (a, _) => .error (a, 0) | .ok (u, r) => .ok (u, er r) := by
  unfold valP
  rw [first_er first e ts]
  rcases (if first then (Except.ok (((0, ⟨0, 0, []⟩) : T), ts) : Except Fail (T × List T)) else take 4 [44] e ts) with ⟨a, b⟩ | ⟨t0, r0⟩
  · rfl
  · simp only
    rw [take_er 1 [] e r0]
    rcases take 1 [] e r0 with ⟨a, b⟩ | ⟨name, r1⟩
    · rfl
    · simp only
      split
      · rfl
      · split
        · rfl
        · rw [take_er 4 [61] e r1]
          rcases take 4 [61] e r1 with ⟨a, b⟩ | ⟨t2, r2⟩
          · rfl
          · simp only
            rw [take_er 2 [] e r2]
            rcases take 2 [] e r2 with ⟨a, b⟩ | ⟨n, r3⟩
            · rfl
            · simp only
              cases d[(idx d name.2.text).toNat]? with
              | none => rfl
              | some f => simp only; split <;> rfl
theorem valsN_er : ∀ (n : Nat) (d : Dom) (c : List Int) (g : List (List UInt8)) (first : Bool) (e : Nat) (ts : List T), valsN n d c g first 0 (er ts) = match valsN n d c g first e ts with | .error (a, _) => .error (a, 0) | .ok u => .ok u
  | 0, d, c, g, first, e, ts => rfl
  | n + 1, d, c, g, first, e, ts => by
    cases ts with
    | nil => rfl
    | cons t r =>
      rw [valsN]
      show (match valP d g first 0 (er (t :: r)) with | .error x => Except.error x | .ok ((i, v, a), r') => valsN n d (c.set i.toNat v) (g ++ [a]) false 0 r') = _
      rw [valP_er d g first e (t :: r)]
      rcases valP d g first e (t :: r) with ⟨a, b⟩ | ⟨⟨i, v, a⟩, r'⟩
      · rfl
      · simp only
        exact valsN_er n d _ _ false e r'

/-- the same tokens: the same domain, and the same error -/
theorem parse_toks {s t : List UInt8} {l m : List T} (hs : lex s = (l, 0, 0)) (ht : lex t = (m, 0, 0)) (h : toks m = toks l) : (parse t).1 = (parse s).1 ∧ (parse t).2.1 = (parse s).2.1 := by
  have hl : m.length = l.length := by rw [← toks_length, ← toks_length, h]
  unfold parse
  rw [hs, ht]
  simp only [ne_eq, not_true_eq_false, if_false]
  unfold parseT
  have h1 := parseN_er (l.length + 1) [] s.length l
  have h2 := parseN_er (l.length + 1) [] t.length m
  rw [er_of_toks h, h1] at h2
  rw [hl]
  revert h2
  rcases parseN (l.length + 1) [] s.length l with ⟨a, b⟩ | d <;> rcases parseN (l.length + 1) [] t.length m with ⟨a', b'⟩ | d' <;> intro h2 <;> simp at h2 ⊢ <;> exact h2.symm
theorem parseCase_toks {d : Dom} {s t : List UInt8} {l m : List T} (hs : lex s = (l, 0, 0)) (ht : lex t = (m, 0, 0)) (h : toks m = toks l) : (parseCase d t).1 = (parseCase d s).1 ∧ (parseCase d t).2.1 = (parseCase d s).2.1 := by
  have hl : m.length = l.length := by rw [← toks_length, ← toks_length, h]
  unfold parseCase
  split
  · rw [hs, ht]
    simp only [ne_eq, not_true_eq_false, if_false]
    unfold valsT
    have h1 := valsN_er (l.length + 1) d (List.replicate d.length 0) [] true s.length l
    have h2 := valsN_er (l.length + 1) d (List.replicate d.length 0) [] true t.length m
    rw [er_of_toks h, h1] at h2
    rw [hl]
    revert h2
    rcases valsN (l.length + 1) d (List.replicate d.length 0) [] true s.length l with ⟨a, b⟩ | ⟨c, g⟩ <;> rcases valsN (l.length + 1) d (List.replicate d.length 0) [] true t.length m with ⟨a', b'⟩ | ⟨c', g'⟩ <;> intro h2 <;> simp at h2
    · simp only [h2, and_self]
    · obtain ⟨rfl, rfl⟩ := h2
      simp only
      split <;> simp
  · exact ⟨rfl, rfl⟩

end Fa

namespace Fa

/-- where a reader stands, its first error, the error's place -/
structure RS where
  k : Nat
  er : Int
  at_ : Int

def zT : T := (0, ⟨0, 0, []⟩)
def RS.fault (r : RS) (e a : Int) : RS := if r.er = 0 then ⟨r.k, e, a⟩ else r
def RS.sees (r : RS) (l : List T) (kd : Nat) (x : List UInt8) : Bool :=
  decide (r.er = 0) && match l[r.k]? with | some t => decide (t.2.kind = kd) && decide (x = [] ∨ t.2.text = x) | none => false
def RS.take (r : RS) (l : List T) (e : Nat) (kd : Nat) (x : List UInt8) : T × RS :=
  match l[r.k]? with
  | some t => if r.sees l kd x then (t, ⟨r.k + 1, r.er, r.at_⟩) else (zT, r.fault 5 t.1)
  | none => (zT, r.fault 6 e)

theorem RS.fault_dead {r : RS} (h : r.er ≠ 0) (e a : Int) : r.fault e a = r := by unfold RS.fault; rw [if_neg h]
theorem RS.fault_live {r : RS} (h : r.er = 0) (e a : Int) : r.fault e a = ⟨r.k, e, a⟩ := by unfold RS.fault; rw [if_pos h]
theorem RS.sees_dead {r : RS} (h : r.er ≠ 0) (l : List T) (kd : Nat) (x : List UInt8) : r.sees l kd x = false := by unfold RS.sees; rw [decide_eq_false h]; rfl
theorem RS.take_dead {r : RS} (h : r.er ≠ 0) (l : List T) (e kd : Nat) (x : List UInt8) : r.take l e kd x = (zT, r) := by
  unfold RS.take
  cases l[r.k]? with
  | none => simp only [RS.fault_dead h]
  | some t => simp only [RS.sees_dead h, RS.fault_dead h]; rfl
theorem drop_at {l : List T} {k : Nat} {t : T} (h : l[k]? = some t) : l.drop k = t :: l.drop (k + 1) := by
  obtain ⟨hk, rfl⟩ := List.getElem?_eq_some_iff.1 h
  exact List.drop_eq_getElem_cons hk
theorem drop_end {l : List T} {k : Nat} (h : l[k]? = none) : l.drop k = [] := List.drop_eq_nil_of_le (List.getElem?_eq_none_iff.1 h)
/-- what a taking is, while there is no error -/
theorem RS.take_live {r : RS} (h : r.er = 0) (l : List T) (e kd : Nat) (x : List UInt8) :
    match Fa.take kd x e (l.drop r.k) with
    | .ok (t, rest) => r.take l e kd x = (t, ⟨r.k + 1, 0, r.at_⟩) ∧ rest = l.drop (r.k + 1) ∧ l[r.k]? = some t
    | .error (a, b) => r.take l e kd x = (zT, ⟨r.k, a, b⟩) ∧ a ≠ 0 := by
  cases hx : l[r.k]? with
  | none =>
    rw [drop_end hx]
    refine ⟨?_, by decide⟩
    unfold RS.take
    rw [hx]
    simp only [RS.fault_live h]
  | some t =>
    rw [drop_at hx, take_cons]
    by_cases hc : t.2.kind = kd ∧ (x = [] ∨ t.2.text = x)
    · rw [if_pos hc]
      refine ⟨?_, rfl, rfl⟩
      unfold RS.take RS.sees
      simp only [hx, h, hc.1, hc.2, decide_true, Bool.and_self, if_true]
    · rw [if_neg hc]
      refine ⟨?_, by decide⟩
      unfold RS.take
      have : r.sees l kd x = false := by
        unfold RS.sees
        rw [hx]
        simp only [Bool.and_eq_false_iff, decide_eq_false_iff_not]
        by_cases h1 : t.2.kind = kd
        · exact .inr (.inr fun h2 => hc ⟨h1, h2⟩)
        · exact .inr (.inl h1)
      rw [hx]
      simp only [this, RS.fault_live h]
      rfl

/-- a fact, as the reference reads it -/
def RS.name2 (r1 : RS) (d : Dom) (t : T) : RS := if r1.er = 0 ∧ 0 ≤ idx d t.2.text then r1.fault 9 t.1 else r1
def RS.name3 (r2 : RS) (d : Dom) (t : T) : RS := if r2.er = 0 ∧ d.length = 60 then r2.fault 2 t.1 else r2
def RS.lo6 (r5 : RS) (t : T) : RS := if 1000000 < t.2.n then r5.fault 10 t.1 else r5
def RS.hi9 (r8 : RS) (lo hi : T) : RS := if 1000000 < hi.2.n ∨ hi.2.n < lo.2.n then r8.fault 10 hi.1 else r8
def RS.num (r3 : RS) (l : List T) (e : Nat) : (T × T) × RS :=
  let q4 := r3.take l e 1 tNumber
  let q5 := q4.2.take l e 2 []
  let r6 := q5.2.lo6 q5.1
  let q7 := r6.take l e 1 tTo
  let q8 := q7.2.take l e 2 []
  ((q5.1, q8.1), q8.2.hi9 q5.1 q8.1)
def RS.body (r3 : RS) (l : List T) (e : Nat) (nm : T) : Fact × RS :=
  if r3.sees l 1 tFlag then (⟨nm.2.text, 1, 0, 1⟩, ((⟨r3.k + 1, r3.er, r3.at_⟩ : RS).take l e 4 [59]).2)
  else (⟨nm.2.text, 2, (r3.num l e).1.1.2.n, (r3.num l e).1.2.2.n⟩, ((r3.num l e).2.take l e 4 [59]).2)
def RS.fact (r : RS) (l : List T) (e : Nat) (d : Dom) : Fact × RS :=
  let q := r.take l e 1 []
  ((q.2.name2 d q.1).name3 d q.1).body l e q.1

theorem RS.hi9_dead {r : RS} (h : r.er ≠ 0) (lo hi : T) : r.hi9 lo hi = r := by unfold RS.hi9; rw [RS.fault_dead h]; split <;> rfl
theorem RS.num_dead {r : RS} (h : r.er ≠ 0) (l : List T) (e : Nat) : r.num l e = ((zT, zT), r) := by
  unfold RS.num
  simp only [RS.take_dead h]
  have h6 : r.lo6 zT = r := by unfold RS.lo6; rw [if_neg (by simp [zT])]
  have h9 : r.hi9 zT zT = r := by unfold RS.hi9; rw [if_neg (by simp [zT])]
  simp only [h6, RS.take_dead h, h9]
theorem RS.body_dead {r : RS} (h : r.er ≠ 0) (l : List T) (e : Nat) (t : T) : (r.body l e t).2 = r := by
  unfold RS.body
  rw [RS.sees_dead h]
  simp only [RS.num_dead h, RS.take_dead h, Bool.false_eq_true, if_false]
theorem RS.name_dead {r : RS} (h : r.er ≠ 0) (d : Dom) (t : T) : (r.name2 d t).name3 d t = r := by
  have h2 : r.name2 d t = r := by unfold RS.name2; rw [if_neg (fun e => h e.1)]
  rw [h2]; unfold RS.name3; rw [if_neg (fun e => h e.1)]
theorem RS.num_live {r : RS} (h : r.er = 0) (l : List T) (e : Nat) {r1 : List T} {t : T} (ht : Fa.take 1 tNumber e (l.drop r.k) = .ok (t, r1)) :
    match span e r1 with
    | .error (a, b) => (r.num l e).2.er = a ∧ (r.num l e).2.at_ = b ∧ a ≠ 0
    | .ok ((lo, hi), rest) => (((r.num l e).1.1.2.n : Int) = lo ∧ ((r.num l e).1.2.2.n : Int) = hi) ∧ ∃ k', r.k < k' ∧ rest = l.drop k' ∧ (r.num l e).2 = ⟨k', 0, r.at_⟩ := by
  have h4 := RS.take_live h l e 1 tNumber
  rw [ht] at h4
  obtain ⟨h4, rfl, h4c⟩ := h4
  have h5 := RS.take_live (r := ⟨r.k + 1, 0, r.at_⟩) rfl l e 2 []
  unfold span RS.num
  simp only [h4]
  cases t5 : Fa.take 2 [] e (l.drop (r.k + 1)) with
  | error x =>
    obtain ⟨a, b⟩ := x
    rw [t5] at h5
    obtain ⟨h5, ha⟩ := h5
    simp only [h5]
    have hd : (⟨r.k + 1, a, b⟩ : RS).er ≠ 0 := ha
    have h6 : (⟨r.k + 1, a, b⟩ : RS).lo6 zT = ⟨r.k + 1, a, b⟩ := by unfold RS.lo6; rw [if_neg (by simp [zT])]
    have h9 : (⟨r.k + 1, a, b⟩ : RS).hi9 zT zT = ⟨r.k + 1, a, b⟩ := by unfold RS.hi9; rw [if_neg (by simp [zT])]
    simp only [h6, RS.take_dead hd, h9]
    exact ⟨trivial, trivial, ha⟩
  | ok y =>
    obtain ⟨lo, r2⟩ := y
    rw [t5] at h5
    obtain ⟨h5, rfl, h5c⟩ := h5
    simp only [h5]
    by_cases hlo : 1000000 < lo.2.n
    · rw [if_pos hlo]
      have h6 : (⟨r.k + 1 + 1, 0, r.at_⟩ : RS).lo6 lo = ⟨r.k + 1 + 1, 10, lo.1⟩ := by unfold RS.lo6; rw [if_pos hlo, RS.fault_live rfl]
      have hd : (⟨r.k + 1 + 1, 10, lo.1⟩ : RS).er ≠ 0 := show (10 : Int) ≠ 0 by decide
      have h9 : (⟨r.k + 1 + 1, 10, lo.1⟩ : RS).hi9 lo zT = ⟨r.k + 1 + 1, 10, lo.1⟩ := by exact RS.hi9_dead hd _ _
      simp only [h6, RS.take_dead hd, h9]
      exact ⟨trivial, trivial, by decide⟩
    · rw [if_neg hlo]
      have h6 : (⟨r.k + 1 + 1, 0, r.at_⟩ : RS).lo6 lo = ⟨r.k + 1 + 1, 0, r.at_⟩ := by unfold RS.lo6; rw [if_neg hlo]
      simp only [h6]
      have h7 := RS.take_live (r := ⟨r.k + 1 + 1, 0, r.at_⟩) rfl l e 1 tTo
      cases t7 : Fa.take 1 tTo e (l.drop (r.k + 1 + 1)) with
      | error x =>
        obtain ⟨a, b⟩ := x
        rw [t7] at h7
        obtain ⟨h7, ha⟩ := h7
        simp only [h7]
        have hd : (⟨r.k + 1 + 1, a, b⟩ : RS).er ≠ 0 := ha
        have h9 : (⟨r.k + 1 + 1, a, b⟩ : RS).hi9 lo zT = ⟨r.k + 1 + 1, a, b⟩ := by exact RS.hi9_dead hd _ _
        simp only [RS.take_dead hd, h9]
        exact ⟨trivial, trivial, ha⟩
      | ok y =>
        obtain ⟨to, r3⟩ := y
        rw [t7] at h7
        obtain ⟨h7, rfl, h7c⟩ := h7
        simp only [h7]
        have h8 := RS.take_live (r := ⟨r.k + 1 + 1 + 1, 0, r.at_⟩) rfl l e 2 []
        cases t8 : Fa.take 2 [] e (l.drop (r.k + 1 + 1 + 1)) with
        | error x =>
          obtain ⟨a, b⟩ := x
          rw [t8] at h8
          obtain ⟨h8, ha⟩ := h8
          simp only [h8]
          have hd : (⟨r.k + 1 + 1 + 1, a, b⟩ : RS).er ≠ 0 := ha
          have h9 : (⟨r.k + 1 + 1 + 1, a, b⟩ : RS).hi9 lo zT = ⟨r.k + 1 + 1 + 1, a, b⟩ := by exact RS.hi9_dead hd _ _
          simp only [h9]
          exact ⟨trivial, trivial, ha⟩
        | ok y =>
          obtain ⟨hi, r4⟩ := y
          rw [t8] at h8
          obtain ⟨h8, rfl, h8c⟩ := h8
          simp only [h8]
          by_cases hhi : 1000000 < hi.2.n ∨ hi.2.n < lo.2.n
          · rw [if_pos hhi]
            have h9 : (⟨r.k + 1 + 1 + 1 + 1, 0, r.at_⟩ : RS).hi9 lo hi = ⟨r.k + 1 + 1 + 1 + 1, 10, hi.1⟩ := by unfold RS.hi9; rw [if_pos hhi, RS.fault_live rfl]
            simp only [h9]
            exact ⟨trivial, trivial, by decide⟩
          · rw [if_neg hhi]
            have h9 : (⟨r.k + 1 + 1 + 1 + 1, 0, r.at_⟩ : RS).hi9 lo hi = ⟨r.k + 1 + 1 + 1 + 1, 0, r.at_⟩ := by unfold RS.hi9; rw [if_neg hhi]
            simp only [h9]
            exact ⟨⟨trivial, trivial⟩, r.k + 1 + 1 + 1 + 1, by omega, rfl, rfl⟩

theorem RS.fact_same {r : RS} (h : r.er = 0) (l : List T) (e : Nat) (d : Dom) :
    match factP d e (l.drop r.k) with
    | .error (a, b) => (r.fact l e d).2.er = a ∧ (r.fact l e d).2.at_ = b ∧ a ≠ 0
    | .ok (f, rest) => (r.fact l e d).1 = f ∧ ∃ k', r.k < k' ∧ rest = l.drop k' ∧ (r.fact l e d).2 = ⟨k', 0, r.at_⟩ := by
  have h1 := RS.take_live h l e 1 []
  unfold factP RS.fact
  cases t1 : Fa.take 1 [] e (l.drop r.k) with
  | error x =>
    obtain ⟨a, b⟩ := x
    rw [t1] at h1
    obtain ⟨h1, ha⟩ := h1
    simp only [h1]
    have hd : (⟨r.k, a, b⟩ : RS).er ≠ 0 := ha
    rw [RS.name_dead hd, RS.body_dead hd]
    exact ⟨by first | rfl | trivial, by first | rfl | trivial, ha⟩
  | ok y =>
    obtain ⟨name, r1⟩ := y
    rw [t1] at h1
    obtain ⟨h1, rfl, h1c⟩ := h1
    simp only [h1]
    by_cases hi : 0 ≤ idx d name.2.text
    · rw [if_pos hi]
      have h2 : (⟨r.k + 1, 0, r.at_⟩ : RS).name2 d name = ⟨r.k + 1, 9, name.1⟩ := by unfold RS.name2; rw [if_pos ⟨rfl, hi⟩, RS.fault_live rfl]
      have hd : (⟨r.k + 1, 9, name.1⟩ : RS).er ≠ 0 := show (9 : Int) ≠ 0 by decide
      have h3 : (⟨r.k + 1, 9, name.1⟩ : RS).name3 d name = ⟨r.k + 1, 9, name.1⟩ := by unfold RS.name3; rw [if_neg (fun e => hd e.1)]
      simp only [h2, h3]
      rw [RS.body_dead hd]
      exact ⟨by first | rfl | trivial, by first | rfl | trivial, by decide⟩
    · rw [if_neg hi]
      have h2 : (⟨r.k + 1, 0, r.at_⟩ : RS).name2 d name = ⟨r.k + 1, 0, r.at_⟩ := by unfold RS.name2; rw [if_neg (fun e => hi e.2)]
      simp only [h2]
      by_cases hl : d.length = 60
      · rw [if_pos hl]
        have h3 : (⟨r.k + 1, 0, r.at_⟩ : RS).name3 d name = ⟨r.k + 1, 2, name.1⟩ := by unfold RS.name3; rw [if_pos ⟨rfl, hl⟩, RS.fault_live rfl]
        have hd : (⟨r.k + 1, 2, name.1⟩ : RS).er ≠ 0 := show (2 : Int) ≠ 0 by decide
        simp only [h3]
        rw [RS.body_dead hd]
        exact ⟨by first | rfl | trivial, by first | rfl | trivial, by decide⟩
      · rw [if_neg hl]
        have h3 : (⟨r.k + 1, 0, r.at_⟩ : RS).name3 d name = ⟨r.k + 1, 0, r.at_⟩ := by unfold RS.name3; rw [if_neg (fun e => hl e.2)]
        simp only [h3]
        unfold RS.body
        cases hw : l[r.k + 1]? with
        | none =>
          rw [drop_end hw]
          have hs : (⟨r.k + 1, 0, r.at_⟩ : RS).sees l 1 tFlag = false := by unfold RS.sees; simp [hw]
          have h4 : (⟨r.k + 1, 0, r.at_⟩ : RS).take l e 1 tNumber = (zT, ⟨r.k + 1, 6, e⟩) := by unfold RS.take; simp only [hw]; rw [RS.fault_live rfl]
          have hd : (⟨r.k + 1, 6, e⟩ : RS).er ≠ 0 := show (6 : Int) ≠ 0 by decide
          have h6 : (⟨r.k + 1, 6, e⟩ : RS).lo6 zT = ⟨r.k + 1, 6, e⟩ := by unfold RS.lo6; rw [if_neg (by simp [zT])]
          have h9 : (⟨r.k + 1, 6, e⟩ : RS).hi9 zT zT = ⟨r.k + 1, 6, e⟩ := by unfold RS.hi9; rw [if_neg (by simp [zT])]
          have h5 : (⟨r.k + 1, 0, r.at_⟩ : RS).num l e = ((zT, zT), ⟨r.k + 1, 6, e⟩) := by
            unfold RS.num
            simp only [h4, RS.take_dead hd, h6, h9]
          rw [hs]
          simp only [h5, RS.take_dead hd, Bool.false_eq_true, if_false]
          exact ⟨by first | rfl | trivial, by first | rfl | trivial, by decide⟩
        | some w =>
          rw [drop_at hw]
          simp only [take_cons, true_or, and_true]
          by_cases hk : w.2.kind = 1
          · rw [if_pos hk]
            simp only
            unfold ranges
            by_cases hf : w.2.text = tFlag
            · have hs : (⟨r.k + 1, 0, r.at_⟩ : RS).sees l 1 tFlag = true := by unfold RS.sees; simp [hw, hk, hf]
              rw [if_pos hf, hs]
              simp only [if_true]
              have h5 := RS.take_live (r := ⟨r.k + 1 + 1, 0, r.at_⟩) rfl l e 4 [59]
              cases t5 : Fa.take 4 [59] e (l.drop (r.k + 1 + 1)) with
              | error x =>
                obtain ⟨a, b⟩ := x
                rw [t5] at h5
                simp only [h5.1]
                exact ⟨trivial, trivial, h5.2⟩
              | ok y =>
                obtain ⟨q, r4⟩ := y
                rw [t5] at h5
                obtain ⟨h5, rfl, -⟩ := h5
                simp only [h5]
                exact ⟨trivial, r.k + 1 + 1 + 1, by omega, rfl, rfl⟩
            · have hs : (⟨r.k + 1, 0, r.at_⟩ : RS).sees l 1 tFlag = false := by
                unfold RS.sees
                simp only [hw, hk, hf, decide_true, Bool.true_and, or_false]
                decide
              rw [if_neg hf, hs]
              simp only [Bool.false_eq_true, if_false]
              by_cases hn : w.2.text = tNumber
              · rw [if_pos hn]
                have ht : Fa.take 1 tNumber e (l.drop (r.k + 1)) = .ok (w, l.drop (r.k + 1 + 1)) := by rw [drop_at hw, take_cons, if_pos ⟨hk, .inr hn⟩]
                have h6 := RS.num_live (r := ⟨r.k + 1, 0, r.at_⟩) rfl l e ht
                cases hsp : span e (l.drop (r.k + 1 + 1)) with
                | error x =>
                  obtain ⟨a, b⟩ := x
                  rw [hsp] at h6
                  obtain ⟨e1, e2, e3⟩ := h6
                  have hd : ((⟨r.k + 1, 0, r.at_⟩ : RS).num l e).2.er ≠ 0 := by rw [e1]; exact e3
                  simp only [RS.take_dead hd]
                  exact ⟨e1, e2, e3⟩
                | ok y =>
                  obtain ⟨⟨lo, hi'⟩, rest⟩ := y
                  rw [hsp] at h6
                  obtain ⟨⟨e1, e2⟩, k', hk', rfl, e3⟩ := h6
                  simp only [e3]
                  have h5 := RS.take_live (r := ⟨k', 0, r.at_⟩) rfl l e 4 [59]
                  simp only at hk'
                  cases t5 : Fa.take 4 [59] e (l.drop k') with
                  | error x =>
                    obtain ⟨a, b⟩ := x
                    rw [t5] at h5
                    simp only [h5.1]
                    exact ⟨trivial, trivial, h5.2⟩
                  | ok y =>
                    obtain ⟨q, r4⟩ := y
                    rw [t5] at h5
                    obtain ⟨h5, rfl, -⟩ := h5
                    simp only [h5, e1, e2]
                    exact ⟨trivial, k' + 1, by omega, rfl, rfl⟩
              · rw [if_neg hn]
                have h4 : (⟨r.k + 1, 0, r.at_⟩ : RS).take l e 1 tNumber = (zT, ⟨r.k + 1, 5, w.1⟩) := by
                  have h7 := RS.take_live (r := ⟨r.k + 1, 0, r.at_⟩) rfl l e 1 tNumber
                  rw [drop_at hw, take_cons, if_neg (fun h => h.2.elim (fun e => by cases e) hn)] at h7
                  exact h7.1
                have hd : (⟨r.k + 1, 5, w.1⟩ : RS).er ≠ 0 := show (5 : Int) ≠ 0 by decide
                have h6 : (⟨r.k + 1, 5, w.1⟩ : RS).lo6 zT = ⟨r.k + 1, 5, w.1⟩ := by unfold RS.lo6; rw [if_neg (by simp [zT])]
                have h9 : (⟨r.k + 1, 5, w.1⟩ : RS).hi9 zT zT = ⟨r.k + 1, 5, w.1⟩ := by unfold RS.hi9; rw [if_neg (by simp [zT])]
                have h5 : (⟨r.k + 1, 0, r.at_⟩ : RS).num l e = ((zT, zT), ⟨r.k + 1, 5, w.1⟩) := by
                  unfold RS.num
                  simp only [h4, RS.take_dead hd, h6, h9]
                simp only [h5, RS.take_dead hd]
                exact ⟨by first | rfl | trivial, by first | rfl | trivial, by decide⟩
          · rw [if_neg hk]
            have hs : (⟨r.k + 1, 0, r.at_⟩ : RS).sees l 1 tFlag = false := by unfold RS.sees; simp [hw, hk]
            have h4 : (⟨r.k + 1, 0, r.at_⟩ : RS).take l e 1 tNumber = (zT, ⟨r.k + 1, 5, w.1⟩) := by
              have h7 := RS.take_live (r := ⟨r.k + 1, 0, r.at_⟩) rfl l e 1 tNumber
              rw [drop_at hw, take_cons, if_neg (fun h => hk h.1)] at h7
              exact h7.1
            have hd : (⟨r.k + 1, 5, w.1⟩ : RS).er ≠ 0 := show (5 : Int) ≠ 0 by decide
            have h6 : (⟨r.k + 1, 5, w.1⟩ : RS).lo6 zT = ⟨r.k + 1, 5, w.1⟩ := by unfold RS.lo6; rw [if_neg (by simp [zT])]
            have h9 : (⟨r.k + 1, 5, w.1⟩ : RS).hi9 zT zT = ⟨r.k + 1, 5, w.1⟩ := by unfold RS.hi9; rw [if_neg (by simp [zT])]
            have h5 : (⟨r.k + 1, 0, r.at_⟩ : RS).num l e = ((zT, zT), ⟨r.k + 1, 5, w.1⟩) := by
              unfold RS.num
              simp only [h4, RS.take_dead hd, h6, h9]
            rw [hs]
            simp only [h5, RS.take_dead hd, Bool.false_eq_true, if_false]
            exact ⟨by first | rfl | trivial, by first | rfl | trivial, by decide⟩

/-- a value of a case, as the reference reads it -/
def RS.sep (r : RS) (l : List T) (e : Nat) : RS := if 0 < r.k then (r.take l e 4 [44]).2 else r
def RS.idx2 (r1 : RS) (d : Dom) (t : T) : RS := if r1.er = 0 ∧ idx d t.2.text < 0 then r1.fault 7 t.1 else r1
def RS.gone3 (r2 : RS) (g : List (List UInt8)) (t : T) : RS := if r2.er = 0 ∧ t.2.text ∈ g then r2.fault 9 t.1 else r2
def outOf (d : Dom) (i : Int) (n : T) : Bool := match d[i.toNat]? with | some f => decide ((n.2.n : Int) < f.lo ∨ f.hi < (n.2.n : Int)) | none => false
def RS.in6 (r5 : RS) (d : Dom) (i : Int) (n : T) : RS := if r5.er = 0 ∧ outOf d i n = true then r5.fault 10 n.1 else r5
def RS.val (r : RS) (l : List T) (e : Nat) (d : Dom) (g : List (List UInt8)) : (T × T) × RS :=
  let q1 := (r.sep l e).take l e 1 []
  let r3 := (q1.2.idx2 d q1.1).gone3 g q1.1
  let q4 := r3.take l e 4 [61]
  let q5 := q4.2.take l e 2 []
  ((q1.1, q5.1), q5.2.in6 d (idx d q1.1.2.text) q5.1)
theorem RS.in6_dead {r : RS} (h : r.er ≠ 0) (d : Dom) (i : Int) (n : T) : r.in6 d i n = r := by unfold RS.in6; rw [if_neg (fun e => h e.1)]
theorem RS.gone3_dead {r : RS} (h : r.er ≠ 0) (g : List (List UInt8)) (n : T) : r.gone3 g n = r := by unfold RS.gone3; rw [if_neg (fun e => h e.1)]
theorem RS.idx2_dead {r : RS} (h : r.er ≠ 0) (d : Dom) (n : T) : r.idx2 d n = r := by unfold RS.idx2; rw [if_neg (fun e => h e.1)]
theorem RS.val_same {r : RS} (h : r.er = 0) (l : List T) (e : Nat) (d : Dom) (g : List (List UInt8)) :
    match valP d g (decide (r.k = 0)) e (l.drop r.k) with
    | .error (a, b) => a ≠ 0 → (r.val l e d g).2.er = a ∧ (r.val l e d g).2.at_ = b
    | .ok ((i, v, a), rest) => (r.val l e d g).1.1.2.text = a ∧ idx d a = i ∧ ((r.val l e d g).1.2.2.n : Int) = v ∧ ∃ k', r.k < k' ∧ rest = l.drop k' ∧ (r.val l e d g).2 = ⟨k', 0, r.at_⟩ := by
  have key : ∀ (r0 : RS) (r1 : List T), r.k ≤ r0.k → r0.er = 0 → r0.at_ = r.at_ → r.sep l e = r0 → r1 = l.drop r0.k →
      match (match Fa.take 1 [] e r1 with
        | .error x => .error x
        | .ok (name, r1) =>
          if idx d name.2.text < 0 then .error (7, name.1)
          else if name.2.text ∈ g then .error (9, name.1)
          else
          match Fa.take 4 [61] e r1 with
          | .error x => .error x
          | .ok (_, r2) =>
            match Fa.take 2 [] e r2 with
            | .error x => .error x
            | .ok (n, r3) =>
              match d[(idx d name.2.text).toNat]? with
              | none => .error (0, 0)
              | some f => if (n.2.n : Int) < f.lo ∨ f.hi < (n.2.n : Int) then .error (10, n.1) else .ok ((idx d name.2.text, (n.2.n : Int), name.2.text), r3) : Except Fail ((Int × Int × List UInt8) × List T)) with
      | .error (a, b) => a ≠ 0 → (r.val l e d g).2.er = a ∧ (r.val l e d g).2.at_ = b
      | .ok ((i, v, a), rest) => (r.val l e d g).1.1.2.text = a ∧ idx d a = i ∧ ((r.val l e d g).1.2.2.n : Int) = v ∧ ∃ k', r.k < k' ∧ rest = l.drop k' ∧ (r.val l e d g).2 = ⟨k', 0, r.at_⟩ := by
    intro r0 r1 hle h0 hat hs hr1
    subst hr1
    unfold RS.val
    simp only [hs]
    have h1 := RS.take_live h0 l e 1 []
    cases t1 : Fa.take 1 [] e (l.drop r0.k) with
    | error x =>
      obtain ⟨a, b⟩ := x
      rw [t1] at h1
      obtain ⟨h1, ha⟩ := h1
      have hd : (⟨r0.k, a, b⟩ : RS).er ≠ 0 := ha
      simp only [h1, RS.idx2_dead hd, RS.gone3_dead hd, RS.take_dead hd, RS.in6_dead hd]
      exact fun _ => ⟨by first | rfl | trivial, by first | rfl | trivial⟩
    | ok y =>
      obtain ⟨name, r1⟩ := y
      rw [t1] at h1
      obtain ⟨h1, rfl, h1c⟩ := h1
      simp only [h1]
      by_cases hi : idx d name.2.text < 0
      · rw [if_pos hi]
        have h2 : (⟨r0.k + 1, 0, r0.at_⟩ : RS).idx2 d name = ⟨r0.k + 1, 7, name.1⟩ := by unfold RS.idx2; rw [if_pos ⟨rfl, hi⟩, RS.fault_live rfl]
        have hd : (⟨r0.k + 1, 7, name.1⟩ : RS).er ≠ 0 := show (7 : Int) ≠ 0 by decide
        simp only [h2, RS.gone3_dead hd, RS.take_dead hd, RS.in6_dead hd]
        exact fun _ => ⟨by first | rfl | trivial, by first | rfl | trivial⟩
      · rw [if_neg hi]
        have h2 : (⟨r0.k + 1, 0, r0.at_⟩ : RS).idx2 d name = ⟨r0.k + 1, 0, r0.at_⟩ := by unfold RS.idx2; rw [if_neg (fun e => hi e.2)]
        simp only [h2]
        by_cases hg : name.2.text ∈ g
        · rw [if_pos hg]
          have h3 : (⟨r0.k + 1, 0, r0.at_⟩ : RS).gone3 g name = ⟨r0.k + 1, 9, name.1⟩ := by unfold RS.gone3; rw [if_pos ⟨rfl, hg⟩, RS.fault_live rfl]
          have hd : (⟨r0.k + 1, 9, name.1⟩ : RS).er ≠ 0 := show (9 : Int) ≠ 0 by decide
          simp only [h3, RS.take_dead hd, RS.in6_dead hd]
          exact fun _ => ⟨by first | rfl | trivial, by first | rfl | trivial⟩
        · rw [if_neg hg]
          have h3 : (⟨r0.k + 1, 0, r0.at_⟩ : RS).gone3 g name = ⟨r0.k + 1, 0, r0.at_⟩ := by unfold RS.gone3; rw [if_neg (fun e => hg e.2)]
          simp only [h3]
          have h4 := RS.take_live (r := ⟨r0.k + 1, 0, r0.at_⟩) rfl l e 4 [61]
          cases t4 : Fa.take 4 [61] e (l.drop (r0.k + 1)) with
          | error x =>
            obtain ⟨a, b⟩ := x
            rw [t4] at h4
            obtain ⟨h4, ha⟩ := h4
            have hd : (⟨r0.k + 1, a, b⟩ : RS).er ≠ 0 := ha
            simp only [h4, RS.take_dead hd, RS.in6_dead hd]
            exact fun _ => ⟨by first | rfl | trivial, by first | rfl | trivial⟩
          | ok y =>
            obtain ⟨eq, r2⟩ := y
            rw [t4] at h4
            obtain ⟨h4, rfl, h4c⟩ := h4
            simp only [h4]
            have h5 := RS.take_live (r := ⟨r0.k + 1 + 1, 0, r0.at_⟩) rfl l e 2 []
            cases t5 : Fa.take 2 [] e (l.drop (r0.k + 1 + 1)) with
            | error x =>
              obtain ⟨a, b⟩ := x
              rw [t5] at h5
              obtain ⟨h5, ha⟩ := h5
              have hd : (⟨r0.k + 1 + 1, a, b⟩ : RS).er ≠ 0 := ha
              simp only [h5, RS.in6_dead hd]
              exact fun _ => ⟨by first | rfl | trivial, by first | rfl | trivial⟩
            | ok y =>
              obtain ⟨n, r3⟩ := y
              rw [t5] at h5
              obtain ⟨h5, rfl, h5c⟩ := h5
              simp only [h5]
              cases hf : d[(idx d name.2.text).toNat]? with
              | none => exact fun h => absurd rfl h
              | some f =>
                simp only
                by_cases hb : (n.2.n : Int) < f.lo ∨ f.hi < (n.2.n : Int)
                · rw [if_pos hb]
                  have h6 : (⟨r0.k + 1 + 1 + 1, 0, r0.at_⟩ : RS).in6 d (idx d name.2.text) n = ⟨r0.k + 1 + 1 + 1, 10, n.1⟩ := by
                    unfold RS.in6; rw [if_pos ⟨rfl, by unfold outOf; rw [hf]; exact decide_eq_true hb⟩, RS.fault_live rfl]
                  simp only [h6]
                  exact fun _ => ⟨by first | rfl | trivial, by first | rfl | trivial⟩
                · rw [if_neg hb]
                  have h6 : (⟨r0.k + 1 + 1 + 1, 0, r0.at_⟩ : RS).in6 d (idx d name.2.text) n = ⟨r0.k + 1 + 1 + 1, 0, r0.at_⟩ := by
                    unfold RS.in6; rw [if_neg (fun e => hb (by have := e.2; unfold outOf at this; rw [hf] at this; exact of_decide_eq_true this))]
                  simp only [h6]
                  exact ⟨by first | rfl | trivial, by first | rfl | trivial, by first | rfl | trivial, r0.k + 1 + 1 + 1, by omega, rfl, by rw [hat]⟩
  unfold valP
  by_cases hk : r.k = 0
  · have hs : r.sep l e = r := by unfold RS.sep; rw [if_neg (by omega)]
    simp only [hk, decide_true, if_true]
    have := key r (l.drop r.k) (Nat.le_refl _) h rfl hs rfl
    rw [hk] at this
    exact this
  · have hs : r.sep l e = (r.take l e 4 [44]).2 := by unfold RS.sep; rw [if_pos (by omega)]
    simp only [hk, decide_false, Bool.false_eq_true, if_false]
    have h0 := RS.take_live h l e 4 [44]
    cases t0 : Fa.take 4 [44] e (l.drop r.k) with
    | error x =>
      obtain ⟨a, b⟩ := x
      rw [t0] at h0
      obtain ⟨h0, ha⟩ := h0
      have hd : (⟨r.k, a, b⟩ : RS).er ≠ 0 := ha
      rw [h0] at hs
      unfold RS.val
      simp only [hs, RS.take_dead hd, RS.idx2_dead hd, RS.gone3_dead hd, RS.in6_dead hd]
      exact fun _ => ⟨by first | rfl | trivial, by first | rfl | trivial⟩
    | ok y =>
      obtain ⟨c, r1⟩ := y
      rw [t0] at h0
      obtain ⟨h0, rfl, h0c⟩ := h0
      rw [h0] at hs
      exact key ⟨r.k + 1, 0, r.at_⟩ (l.drop (r.k + 1)) (Nat.le_succ _) rfl rfl hs rfl

end Fa
