/-
  Several texts in one: ZFaPure, ZFaLaws. Conditions: as each law says.
-/
import Derived.Test.YtidkmhokolknbaaGreatDoorZLexMore
import Derived.Test.YtidkmhokolknbaaGreatDoorZLexLaws
namespace Fa

abbrev T := Nat × Lx.Tk

structure Fact where
  name : List UInt8
  kind : Int
  lo : Int
  hi : Int
  deriving DecidableEq

abbrev Dom := List Fact
abbrev Fail := Int × Int

/-- is this a name? -/
def nm (t : List UInt8) : Bool := t.all Lx.isWord && decide (0 < t.length) && decide (t.length ≤ 24) && t.head?.any Lx.isLetter

def okKind (f : Fact) : Bool := (decide (f.kind = 1) && decide (f.lo = 0) && decide (f.hi = 1)) || (decide (f.kind = 2) && decide (0 ≤ f.lo) && decide (f.lo ≤ f.hi) && decide (f.hi ≤ 1000000))

def valid (d : Dom) : Bool := d.all (fun f => okKind f && nm f.name) && decide ((d.map Fact.name).Nodup) && decide (d.length ≤ 60)

def within (p : Fact × Int) : Bool := decide (p.1.lo ≤ p.2) && decide (p.2 ≤ p.1.hi)
def fits (d : Dom) (c : List Int) : Bool := valid d && decide (c.length = d.length) && (d.zip c).all within

/-- where a name stands, from k on; -1 if nowhere -/
def idxL : Dom → List UInt8 → Nat → Int
  | [], _, _ => -1
  | f :: l, a, k => if f.name = a then (k : Int) else idxL l a (k + 1)
def idx (d : Dom) (a : List UInt8) : Int := idxL d a 0

/-! ### texts -/

def tFlag : List UInt8 := [102, 108, 97, 103]
def tNumber : List UInt8 := [110, 117, 109, 98, 101, 114]
def tTo : List UInt8 := [116, 111]

def factText (f : Fact) : List UInt8 :=
  if f.kind = 1 then f.name ++ 32 :: tFlag ++ [59, 10] else f.name ++ 32 :: tNumber ++ 32 :: Lx.dec f.lo.toNat ++ 32 :: tTo ++ 32 :: Lx.dec f.hi.toNat ++ [59, 10]
def text (d : Dom) : List UInt8 := if valid d then d.flatMap factText else []

def joined : List (List UInt8) → List UInt8
  | [] => []
  | x :: l => x ++ l.flatMap fun y => [44, 32] ++ y
/-- the next token of a kind, and of a text unless that is empty -/
def take (k : Nat) (x : List UInt8) (e : Nat) : List T → Except Fail (T × List T)
  | [] => .error (6, e)
  | t :: r => if t.2.kind = k ∧ (x = [] ∨ t.2.text = x) then .ok (t, r) else .error (5, t.1)

/-- the range of a fact -/
def span (e : Nat) (ts : List T) : Except Fail ((Int × Int) × List T) :=
  match take 2 [] e ts with
  | .error x => .error x
  | .ok (lo, r1) =>
    if 1000000 < lo.2.n then .error (10, lo.1) else
    match take 1 tTo e r1 with
    | .error x => .error x
    | .ok (_, r2) =>
      match take 2 [] e r2 with
      | .error x => .error x
      | .ok (hi, r3) => if 1000000 < hi.2.n ∨ hi.2.n < lo.2.n then .error (10, hi.1) else .ok (((lo.2.n : Int), (hi.2.n : Int)), r3)

/-- what a kind's word is followed by -/
def ranges (w : List UInt8) (at_ : Nat) (e : Nat) (r : List T) : Except Fail ((Int × Int × Int) × List T) :=
  if w = tFlag then .ok ((1, 0, 1), r)
  else if w = tNumber then
    match span e r with
    | .error x => .error x
    | .ok ((lo, hi), r') => .ok ((2, lo, hi), r')
  else .error (5, at_)

/-- one fact -/
def factP (d : Dom) (e : Nat) (ts : List T) : Except Fail (Fact × List T) :=
  match take 1 [] e ts with
  | .error x => .error x
  | .ok (name, r1) =>
    if 0 ≤ idx d name.2.text then .error (9, name.1)
    else if d.length = 60 then .error (2, name.1)
    else
    match take 1 [] e r1 with
    | .error x => .error x
    | .ok (word, r2) =>
      match ranges word.2.text word.1 e r2 with
      | .error x => .error x
      | .ok ((k, lo, hi), r3) =>
        match take 4 [59] e r3 with
        | .error x => .error x
        | .ok (_, r4) => .ok (⟨name.2.text, k, lo, hi⟩, r4)

/-- all facts -/
def parseN : Nat → Dom → Nat → List T → Except Fail Dom
  | 0, d, _, _ => .ok d
  | n + 1, d, e, ts =>
    match ts with
    | [] => .ok d
    | t :: r =>
      match factP d e (t :: r) with
      | .error x => .error x
      | .ok (f, r') => parseN n (d ++ [f]) e r'
def parseT (d : Dom) (e : Nat) (ts : List T) : Except Fail Dom := parseN (ts.length + 1) d e ts

/-- what Parse returns -/
def parse (s : List UInt8) : Dom × Int × Int :=
  match Lx.lex s with
  | (l, x, y) => if x ≠ 0 then ([], x, y) else
    match parseT [] s.length l with
    | .error (a, b) => ([], a, b)
    | .ok d => (d, 0, 0)

def least (d : Dom) : List Int := if valid d then d.map Fact.lo else []

/-- the next one, from the last value on; both lists turned round -/
def up : List (Fact × Int) → Option (List Int)
  | [] => none
  | p :: l => if p.2 < p.1.hi then some ((p.2 + 1) :: l.map Prod.snd) else (up l).map fun r => p.1.lo :: r
def next (d : Dom) (c : List Int) : Option (List Int) := if fits d c then (up (d.zip c).reverse).map List.reverse else none

end Fa

namespace Fa
open Lx

/-! ### a piece of a text as tokens -/

/-- before r the bytes s are these tokens -/
def Rd (s : List UInt8) (L : List Tk) (r : List UInt8) : Prop := ∃ l, toks l = L ∧ lu (s ++ r) = shiftR s.length l (lu r)

theorem Rd.nil (r : List UInt8) : Rd [] [] r := ⟨[], rfl, by rw [List.nil_append, List.length_nil, shiftR_zero]⟩
theorem Rd.app {s s' r : List UInt8} {L L' : List Tk} (h : Rd s L (s' ++ r)) (h' : Rd s' L' r) : Rd (s ++ s') (L ++ L') r := by
  obtain ⟨l, e1, e2⟩ := h
  obtain ⟨l', e1', e2'⟩ := h'
  refine ⟨l ++ shift s.length l', by rw [toks_append, toks_shift, e1, e1'], ?_⟩
  rw [List.append_assoc, e2, e2', shiftR_shiftR, List.length_append]
theorem Rd.tok {t : Tk} {r : List UInt8} (ht : TokOK t) (hr : Good t r) (hk : t.kind ≠ 3) : Rd t.text [t] r := by
  have h := lu_tok ht hr
  have hw : t.written = t.text := by unfold Tk.written; rw [if_neg hk]
  refine ⟨[(0, t)], rfl, ?_⟩
  rw [hw] at h
  rw [h, ← written_length, hw]
theorem Rd.blank {z : UInt8} (hz : isBlank z = true) (r : List UInt8) : Rd [z] [] r :=
  ⟨[], rfl, lu_gap (u := [z]) (by simp [skip, hz])⟩
theorem Rd.eq {s : List UInt8} {L : List Tk} (h : Rd s L []) : ∃ l, lu s = .ok l ∧ toks l = L := by
  obtain ⟨l, h1, h2⟩ := h
  rw [List.append_nil, lu_gaps (g := []) (by simp [skip])] at h2
  refine ⟨_, h2, ?_⟩
  rw [toks_append, toks_shift, h1]; simp [toks]

theorem ok_name {a : List UInt8} (h : nm a = true) : TokOK ⟨1, 0, a⟩ := by
  unfold nm at h
  simp only [Bool.and_eq_true, decide_eq_true_eq] at h
  obtain ⟨⟨⟨h1, h2⟩, h3⟩, h4⟩ := h
  refine .inl ⟨rfl, rfl, h3, h1, ?_⟩
  cases a with
  | nil => simp at h2
  | cons c s => exact ⟨c, s, rfl, by simpa using h4⟩
theorem ok_num {n : Nat} (h : n < 10000000000000) : TokOK ⟨2, n, dec n⟩ := by
  obtain ⟨h1, h2, h3, h4⟩ := dec_facts n
  exact .inr (.inl ⟨rfl, h3.symm, h4 13 (by decide) (by simpa using h), h1, h2⟩)
theorem ok_sym {c : UInt8} (h : isPlain c = true) : TokOK ⟨4, 0, [c]⟩ := .inr (.inr (.inr ⟨rfl, rfl, c, .inr ⟨rfl, .inr h⟩⟩))
theorem good_blank {t : Tk} {z : UInt8} (hz : isBlank z = true) (r : List UInt8) : Good t (z :: r) := Good.gap t (by unfold gapHead; rw [hz]; rfl) r
theorem good_not_word {t : Tk} {z : UInt8} (hk : t.kind ≠ 4) (hz : isWord z = false) (r : List UInt8) : Good t (z :: r) := by
  intro y hy
  simp at hy
  subst hy
  exact ⟨fun _ => hz, fun _ => hz, fun h => absurd h hk⟩
theorem good_sym {c : UInt8} (h1 : c ≠ 60) (h2 : c ≠ 62) (r : List UInt8) : Good ⟨4, 0, [c]⟩ r := fun z _ =>
  ⟨fun h => absurd h (by simp), fun h => absurd h (by simp), fun _ h => by simp [h1, h2] at h⟩

/-! ### a fact's text -/

abbrev tkName (a : List UInt8) : Tk := ⟨1, 0, a⟩
abbrev tkNum (n : Nat) : Tk := ⟨2, n, dec n⟩
abbrev tkSym (c : UInt8) : Tk := ⟨4, 0, [c]⟩
def factToks (f : Fact) : List Tk :=
  if f.kind = 1 then [tkName f.name, tkName tFlag, tkSym 59] else [tkName f.name, tkName tNumber, tkNum f.lo.toNat, tkName tTo, tkNum f.hi.toNat, tkSym 59]

theorem okKind_cases {f : Fact} (h : okKind f = true) : (f.kind = 1 ∧ f.lo = 0 ∧ f.hi = 1) ∨ (f.kind = 2 ∧ 0 ≤ f.lo ∧ f.lo ≤ f.hi ∧ f.hi ≤ 1000000) := by
  unfold okKind at h
  simp only [Bool.or_eq_true, Bool.and_eq_true, decide_eq_true_eq] at h
  rcases h with ⟨⟨h1, h2⟩, h3⟩ | ⟨⟨⟨h1, h2⟩, h3⟩, h4⟩
  · exact .inl ⟨h1, h2, h3⟩
  · exact .inr ⟨h1, h2, h3, h4⟩

theorem rd_name {a : List UInt8} (h : nm a = true) {r : List UInt8} (hr : Good (tkName a) r) : Rd a [tkName a] r := Rd.tok (t := tkName a) (ok_name h) hr (by simp)
theorem rd_num {n : Nat} (h : n < 10000000000000) {r : List UInt8} (hr : Good (tkNum n) r) : Rd (dec n) [tkNum n] r := Rd.tok (t := tkNum n) (ok_num h) hr (by simp)
theorem rd_sym {c : UInt8} (h : isPlain c = true) (h1 : c ≠ 60) (h2 : c ≠ 62) (r : List UInt8) : Rd [c] [tkSym c] r := Rd.tok (t := tkSym c) (ok_sym h) (good_sym h1 h2 r) (by simp)
theorem rd_blank (r : List UInt8) : Rd [32] [] r := Rd.blank (by decide) r

theorem rd_fact {f : Fact} (h : okKind f = true) (hn : nm f.name = true) (r : List UInt8) : Rd (factText f) (factToks f) r := by
  have hb : ∀ (t : Tk) (x : List UInt8), Good t (32 :: x) := fun t x => good_blank (by decide) x
  have hend : ∀ x : List UInt8, Rd [59, 10] [tkSym 59] x := fun x =>
    Rd.app (s := [59]) (s' := [10]) (rd_sym (by decide) (by decide) (by decide) _) (Rd.blank (by decide) _)
  rcases okKind_cases h with ⟨k, l, u⟩ | ⟨k, l, u, v⟩
  · have e1 : factText f = f.name ++ ([32] ++ (tFlag ++ [59, 10])) := by unfold factText; rw [if_pos k]; simp
    have e2 : factToks f = [tkName f.name] ++ ([] ++ ([tkName tFlag] ++ [tkSym 59])) := by unfold factToks; rw [if_pos k]; rfl
    rw [e1, e2]
    exact (rd_name hn (hb _ _)).app ((rd_blank _).app ((rd_name (a := tFlag) (by decide) (good_not_word (by decide) (by decide) _)).app (hend r)))
  · have kk : ¬ f.kind = 1 := by omega
    have e1 : factText f = f.name ++ ([32] ++ (tNumber ++ ([32] ++ (dec f.lo.toNat ++ ([32] ++ (tTo ++ ([32] ++ (dec f.hi.toNat ++ [59, 10])))))))) := by unfold factText; rw [if_neg kk]; simp
    have e2 : factToks f = [tkName f.name] ++ ([] ++ ([tkName tNumber] ++ ([] ++ ([tkNum f.lo.toNat] ++ ([] ++ ([tkName tTo] ++ ([] ++ ([tkNum f.hi.toNat] ++ [tkSym 59])))))))) := by unfold factToks; rw [if_neg kk]; rfl
    rw [e1, e2]
    exact (rd_name hn (hb _ _)).app ((rd_blank _).app ((rd_name (a := tNumber) (by decide) (hb _ _)).app ((rd_blank _).app ((rd_num (by omega) (hb _ _)).app ((rd_blank _).app
      ((rd_name (a := tTo) (by decide) (hb _ _)).app ((rd_blank _).app ((rd_num (by omega) (good_not_word (by simp) (by decide) _)).app (hend r)))))))))
theorem rd_facts : ∀ (d : Dom) (r : List UInt8), (∀ f ∈ d, okKind f = true ∧ nm f.name = true) → Rd (d.flatMap factText) (d.flatMap factToks) r
  | [], r, _ => Rd.nil r
  | f :: d, r, h => by
    rw [List.flatMap_cons, List.flatMap_cons]
    exact (rd_fact (h f List.mem_cons_self).1 (h f List.mem_cons_self).2 _).app (rd_facts d r fun g hg => h g (List.mem_cons_of_mem _ hg))

/-! ### a domain, taken apart -/

theorem valid_parts {d : Dom} (h : valid d = true) : (∀ f ∈ d, okKind f = true ∧ nm f.name = true) ∧ (d.map Fact.name).Nodup ∧ d.length ≤ 60 := by
  unfold valid at h
  simp only [Bool.and_eq_true, List.all_eq_true, decide_eq_true_eq] at h
  exact ⟨h.1.1, h.1.2, h.2⟩
theorem nm_len {a : List UInt8} (h : nm a = true) : 0 < a.length ∧ a.length ≤ 24 := by
  unfold nm at h
  simp only [Bool.and_eq_true, decide_eq_true_eq] at h
  exact ⟨h.1.1.2, h.1.2⟩
theorem dec_len {n : Nat} (k : Nat) (hk : 0 < k) (h : n < 10 ^ k) : (dec n).length ≤ k := (dec_facts n).2.2.2 k hk h
theorem factText_len {f : Fact} (h : okKind f = true) (hn : nm f.name = true) : (factText f).length ≤ 60 ∧ 0 < (factText f).length := by
  have := nm_len hn
  rcases okKind_cases h with ⟨k, l, u⟩ | ⟨k, l, u, v⟩
  · unfold factText; rw [if_pos k]
    simp [tFlag]; omega
  · have kk : ¬ f.kind = 1 := by omega
    have h1 := dec_len (n := f.lo.toNat) 7 (by decide) (by omega)
    have h2 := dec_len (n := f.hi.toNat) 7 (by decide) (by omega)
    unfold factText; rw [if_neg kk]
    simp [tNumber, tTo]; omega
theorem facts_len : ∀ (d : Dom), (∀ f ∈ d, okKind f = true ∧ nm f.name = true) → (d.flatMap factText).length ≤ 60 * d.length
  | [], _ => by simp
  | f :: d, h => by
    have h1 := factText_len (h f List.mem_cons_self).1 (h f List.mem_cons_self).2
    have h2 := facts_len d fun g hg => h g (List.mem_cons_of_mem _ hg)
    rw [List.flatMap_cons, List.length_append, List.length_cons]
    omega
theorem text_len (d : Dom) : (text d).length ≤ 3600 := by
  unfold text
  split
  · rename_i h
    obtain ⟨h1, _, h3⟩ := valid_parts h
    have := facts_len d h1
    omega
  · simp
theorem idxL_no : ∀ (d : Dom) (a : List UInt8) (k : Nat), a ∉ d.map Fact.name → idxL d a k = -1
  | [], _, _, _ => rfl
  | f :: d, a, k, h => by
    simp only [List.map_cons, List.mem_cons, not_or] at h
    rw [idxL, if_neg (fun e => h.1 e.symm)]
    exact idxL_no d a (k + 1) h.2
theorem idx_no {d : Dom} {a : List UInt8} (h : a ∉ d.map Fact.name) : idx d a = -1 := idxL_no d a 0 h
theorem toks_cons {ts : List T} {t : Tk} {L : List Tk} (h : toks ts = t :: L) : ∃ p r, ts = (p, t) :: r ∧ toks r = L := by
  cases ts with
  | nil => simp [toks] at h
  | cons q r =>
    simp only [toks, List.map_cons, List.cons.injEq] at h
    exact ⟨q.1, r, by rw [← h.1], h.2⟩
theorem take_ok (k : Nat) (x : List UInt8) {e p : Nat} {t : Tk} {r : List T} (hk : t.kind = k) (hx : x = [] ∨ t.text = x) : take k x e ((p, t) :: r) = .ok ((p, t), r) := by
  show (if t.kind = k ∧ (x = [] ∨ t.text = x) then (Except.ok ((p, t), r) : Except Fail (T × List T)) else .error (5, p)) = _
  rw [if_pos ⟨hk, hx⟩]

theorem span_ok {lo hi e p q r : Nat} {ts : List T} (h1 : lo ≤ 1000000) (h2 : hi ≤ 1000000) (h3 : lo ≤ hi) : span e ((p, tkNum lo) :: (q, tkName tTo) :: (r, tkNum hi) :: ts) = .ok (((lo : Int), (hi : Int)), ts) := by
  have a : ¬ 1000000 < lo := by omega
  have b : ¬ (1000000 < hi ∨ hi < lo) := by omega
  unfold span
  rw [take_ok 2 [] rfl (.inl rfl)]
  show (if 1000000 < lo then _ else _) = _
  rw [if_neg a, take_ok 1 tTo rfl (.inr rfl)]
  simp only
  rw [take_ok 2 [] rfl (.inl rfl)]
  show (if 1000000 < hi ∨ hi < lo then _ else _) = _
  rw [if_neg b]

theorem factP_ok {acc : Dom} {e : Nat} {ts : List T} {f : Fact} {L : List Tk} (h : okKind f = true) (hn : f.name ∉ acc.map Fact.name) (hl : acc.length ≠ 60) (ht : toks ts = factToks f ++ L) :
    ∃ r, factP acc e ts = .ok (f, r) ∧ toks r = L := by
  have hi : ¬ 0 ≤ idx acc f.name := by rw [idx_no hn]; decide
  have hm : f = ⟨f.name, f.kind, f.lo, f.hi⟩ := rfl
  unfold factToks at ht
  rcases okKind_cases h with ⟨k, l, u⟩ | ⟨k, l, u, v⟩
  · rw [if_pos k] at ht
    obtain ⟨p1, r1, rfl, ht1⟩ := toks_cons ht
    obtain ⟨p2, r2, rfl, ht2⟩ := toks_cons ht1
    obtain ⟨p3, r3, rfl, ht3⟩ := toks_cons ht2
    refine ⟨r3, ?_, ht3⟩
    unfold factP
    rw [take_ok 1 [] rfl (.inl rfl)]
    simp only [tkName, if_neg hi, if_neg hl]
    rw [take_ok 1 [] rfl (.inl rfl)]
    simp only [ranges, if_true]
    rw [take_ok 4 [59] rfl (.inr rfl)]
    simp only
    conv => rhs; rw [hm, k, l, u]
  · rw [if_neg (show ¬ f.kind = 1 by omega)] at ht
    obtain ⟨p1, r1, rfl, ht1⟩ := toks_cons ht
    obtain ⟨p2, r2, rfl, ht2⟩ := toks_cons ht1
    obtain ⟨p3, r3, rfl, ht3⟩ := toks_cons ht2
    obtain ⟨p4, r4, rfl, ht4⟩ := toks_cons ht3
    obtain ⟨p5, r5, rfl, ht5⟩ := toks_cons ht4
    obtain ⟨p6, r6, rfl, ht6⟩ := toks_cons ht5
    refine ⟨r6, ?_, ht6⟩
    unfold factP
    rw [take_ok 1 [] rfl (.inl rfl)]
    simp only [tkName, if_neg hi, if_neg hl]
    rw [take_ok 1 [] rfl (.inl rfl)]
    simp only [ranges, if_neg (show ¬ tNumber = tFlag by decide), if_true]
    rw [span_ok (by omega) (by omega) (by omega)]
    simp only
    rw [take_ok 4 [59] rfl (.inr rfl)]
    simp only
    conv => rhs; rw [hm, k]
    rw [Int.toNat_of_nonneg l, Int.toNat_of_nonneg (by omega)]

theorem factToks_len (f : Fact) : 0 < (factToks f).length := by unfold factToks; split <;> simp
theorem parseN_ok : ∀ (fs acc : Dom) (n e : Nat) (ts : List T), fs.length < n → toks ts = fs.flatMap factToks → (∀ f ∈ fs, okKind f = true) → ((acc ++ fs).map Fact.name).Nodup → (acc ++ fs).length ≤ 60 → parseN n acc e ts = .ok (acc ++ fs)
  | [], acc, n + 1, e, ts, _, ht, _, _, _ => by
    have : ts = [] := by cases ts <;> simp [toks] at ht ⊢
    subst this
    simp [parseN]
  | f :: fs, acc, n + 1, e, ts, hl, ht, hk, hn, h60 => by
    rw [List.flatMap_cons] at ht
    have hn' : f.name ∉ acc.map Fact.name := by
      rw [List.map_append, List.nodup_append] at hn
      intro hm
      exact hn.2.2 _ hm f.name (by simp) rfl
    have hl' : acc.length ≠ 60 := by simp at h60; omega
    obtain ⟨r, h1, h2⟩ := factP_ok (e := e) (hk f List.mem_cons_self) hn' hl' ht
    have hne : ∃ t r', ts = t :: r' := by
      cases ts with
      | nil =>
        have := factToks_len f
        have e1 := congrArg List.length ht
        simp [toks] at e1
        omega
      | cons t r' => exact ⟨t, r', rfl⟩
    obtain ⟨t, r', rfl⟩ := hne
    rw [parseN]
    rw [h1]
    simp only
    have := parseN_ok fs (acc ++ [f]) n e r (by simp at hl; omega) h2 (fun g hg => hk g (List.mem_cons_of_mem _ hg)) (by simpa using hn) (by simp at h60 ⊢; omega)
    rw [this]
    simp

theorem flat_len : ∀ (d : Dom), d.length ≤ (d.flatMap factToks).length
  | [] => Nat.zero_le _
  | f :: d => by
    have h1 := factToks_len f
    have h2 := flat_len d
    rw [List.flatMap_cons, List.length_append, List.length_cons]
    omega
theorem toks_length (l : List T) : (toks l).length = l.length := by simp [toks]

/-- a domain's text is read as the domain -/
theorem parse_text {d : Dom} (h : valid d = true) : parse (text d) = (d, 0, 0) := by
  obtain ⟨h1, h2, h3⟩ := valid_parts h
  have hlen := text_len d
  have ht : text d = d.flatMap factText := by unfold text; rw [if_pos h]
  obtain ⟨l, hl, hk⟩ := (rd_facts d [] h1).eq
  have hx : lex (text d) = (l, 0, 0) := by rw [lex_lu (by omega), ht, hl]
  unfold parse
  rw [hx]
  simp only [ne_eq, not_true_eq_false, if_false]
  unfold parseT
  have := parseN_ok d [] (l.length + 1) (text d).length l (by have := flat_len d; have := toks_length l; rw [hk] at this; omega) hk (fun f hf => (h1 f hf).1) (by simpa using h2) (by simpa using h3)
  rw [this]
  simp

theorem next_err_pos {c : UInt8} {s : List UInt8} {e : Nat} (h : nextTok c s = .error e) : 0 < e := by
  unfold nextTok at h
  repeat' (split at h)
  all_goals (cases h)
  all_goals omega
theorem lu_err : ∀ (n : Nat) (s : List UInt8) (e o : Nat), s.length ≤ n → lu s = .error (e, o) → 0 < e ∧ o ≤ s.length
  | 0, s, e, o, hn, h => by
    have : s = [] := List.length_eq_zero_iff.1 (by omega)
    subst this
    rw [lu_gaps (g := []) (by simp [skip])] at h
    cases h
  | n + 1, s, e, o, hn, h => by
    rcases lu_cases s with ⟨_, h1⟩ | ⟨g, c, r, e', rfl, h2, h3, h4, h5⟩ | ⟨g, t, q, rfl, h2, h3, h4, h5, h6⟩
    · rw [h1] at h; cases h
    · rw [h5] at h
      simp only [Except.error.injEq, Prod.mk.injEq] at h
      obtain ⟨rfl, rfl⟩ := h
      exact ⟨next_err_pos h3, by simp⟩
    · rw [h5] at h
      cases hq : lu q with
      | ok m => rw [hq] at h; cases h
      | error x =>
        obtain ⟨a, b⟩ := x
        rw [hq] at h
        simp only [shiftR, Except.error.injEq, Prod.mk.injEq] at h
        have hwp := h3.width_pos
        have hwl := written_length t
        have := lu_err n q a b (by simp at hn; omega) hq
        simp
        omega
theorem lu_error {s : List UInt8} {e o : Nat} (h : lu s = .error (e, o)) : 0 < e ∧ o ≤ s.length := lu_err _ s e o (Nat.le_refl _) h

/-- the tokens of a text: as they may be, at places of the text -/
theorem lex_toks {s : List UInt8} (h : s.length ≤ 5000) {l : List T} {x y : Int} (hl : lex s = (l, x, y)) : (∀ p ∈ l, TokOK p.2) ∧ (∀ p ∈ l, p.1 ≤ s.length) ∧ 0 ≤ x ∧ y ≤ s.length ∧ (x ≠ 0 → l = []) ∧ (x = 0 → y = 0) := by
  have hx : lx 0 s = lu s := lx_lu h
  rw [lex_lu h] at hl
  cases hu : lu s with
  | error z =>
    rw [hu] at hl
    obtain ⟨a, b⟩ := z
    simp only [Prod.mk.injEq] at hl
    obtain ⟨rfl, rfl, rfl⟩ := hl
    obtain ⟨h1, h2⟩ := lu_error hu
    refine ⟨by simp, by simp, by omega, by omega, fun _ => rfl, by omega⟩
  | ok m =>
    rw [hu] at hl
    simp only [Prod.mk.injEq] at hl
    obtain ⟨rfl, rfl, rfl⟩ := hl
    rw [hu] at hx
    exact ⟨lu_ok hu, lexN_bound _ _ _ _ hx, by omega, by omega, by simp, by simp⟩

end Fa
