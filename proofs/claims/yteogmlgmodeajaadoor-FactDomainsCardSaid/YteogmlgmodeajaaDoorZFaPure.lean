/-
  Facts and cases, plain: what is valid, what fits, texts, and what a text's tokens are read to. NO PROGRAM IN THIS TEXT.
-/
import Derived.Test.YteogmlgmodeajaaDoorZLexMore
namespace Fa

abbrev T := Nat × Lx.Tk

structure Fact where
  name : List UInt8
  kind : Int
  lo : Int
  hi : Int
  deriving DecidableEq

abbrev Dom := List Fact
abbrev Fail := Int × Int

/-- is this a name? -/
def nm (t : List UInt8) : Bool := t.all Lx.isWord && decide (0 < t.length) && decide (t.length ≤ 24) && t.head?.any Lx.isLetter

def okKind (f : Fact) : Bool := (decide (f.kind = 1) && decide (f.lo = 0) && decide (f.hi = 1)) || (decide (f.kind = 2) && decide (0 ≤ f.lo) && decide (f.lo ≤ f.hi) && decide (f.hi ≤ 1000000))

def valid (d : Dom) : Bool := d.all (fun f => okKind f && nm f.name) && decide ((d.map Fact.name).Nodup) && decide (d.length ≤ 60)

def within (p : Fact × Int) : Bool := decide (p.1.lo ≤ p.2) && decide (p.2 ≤ p.1.hi)
def fits (d : Dom) (c : List Int) : Bool := valid d && decide (c.length = d.length) && (d.zip c).all within

/-- where a name stands, from k on; -1 if nowhere -/
def idxL : Dom → List UInt8 → Nat → Int
  | [], _, _ => -1
  | f :: l, a, k => if f.name = a then (k : Int) else idxL l a (k + 1)
def idx (d : Dom) (a : List UInt8) : Int := idxL d a 0

/-! ### texts -/

def tFlag : List UInt8 := [102, 108, 97, 103]
def tNumber : List UInt8 := [110, 117, 109, 98, 101, 114]
def tTo : List UInt8 := [116, 111]

def factText (f : Fact) : List UInt8 :=
  if f.kind = 1 then f.name ++ 32 :: tFlag ++ [59, 10] else f.name ++ 32 :: tNumber ++ 32 :: Lx.dec f.lo.toNat ++ 32 :: tTo ++ 32 :: Lx.dec f.hi.toNat ++ [59, 10]
def text (d : Dom) : List UInt8 := if valid d then d.flatMap factText else []

def pairText (p : Fact × Int) : List UInt8 := p.1.name ++ [32, 61, 32] ++ Lx.dec p.2.toNat
def joined : List (List UInt8) → List UInt8
  | [] => []
  | x :: l => x ++ l.flatMap fun y => [44, 32] ++ y
def caseText (d : Dom) (c : List Int) : List UInt8 := if fits d c then joined ((d.zip c).map pairText) else []

/-! ### reading -/

/-- the next token of a kind, and of a text unless that is empty -/
def take (k : Nat) (x : List UInt8) (e : Nat) : List T → Except Fail (T × List T)
  | [] => .error (6, e)
  | t :: r => if t.2.kind = k ∧ (x = [] ∨ t.2.text = x) then .ok (t, r) else .error (5, t.1)

/-- the range of a fact -/
def span (e : Nat) (ts : List T) : Except Fail ((Int × Int) × List T) :=
  match take 2 [] e ts with
  | .error x => .error x
  | .ok (lo, r1) =>
    if 1000000 < lo.2.n then .error (10, lo.1) else
    match take 1 tTo e r1 with
    | .error x => .error x
    | .ok (_, r2) =>
      match take 2 [] e r2 with
      | .error x => .error x
      | .ok (hi, r3) => if 1000000 < hi.2.n ∨ hi.2.n < lo.2.n then .error (10, hi.1) else .ok (((lo.2.n : Int), (hi.2.n : Int)), r3)

/-- what a kind's word is followed by -/
def ranges (w : List UInt8) (at_ : Nat) (e : Nat) (r : List T) : Except Fail ((Int × Int × Int) × List T) :=
  if w = tFlag then .ok ((1, 0, 1), r)
  else if w = tNumber then
    match span e r with
    | .error x => .error x
    | .ok ((lo, hi), r') => .ok ((2, lo, hi), r')
  else .error (5, at_)

/-- one fact -/
def factP (d : Dom) (e : Nat) (ts : List T) : Except Fail (Fact × List T) :=
  match take 1 [] e ts with
  | .error x => .error x
  | .ok (name, r1) =>
    if 0 ≤ idx d name.2.text then .error (9, name.1)
    else if d.length = 60 then .error (2, name.1)
    else
    match take 1 [] e r1 with
    | .error x => .error x
    | .ok (word, r2) =>
      match ranges word.2.text word.1 e r2 with
      | .error x => .error x
      | .ok ((k, lo, hi), r3) =>
        match take 4 [59] e r3 with
        | .error x => .error x
        | .ok (_, r4) => .ok (⟨name.2.text, k, lo, hi⟩, r4)

/-- all facts -/
def parseN : Nat → Dom → Nat → List T → Except Fail Dom
  | 0, d, _, _ => .ok d
  | n + 1, d, e, ts =>
    match ts with
    | [] => .ok d
    | t :: r =>
      match factP d e (t :: r) with
      | .error x => .error x
      | .ok (f, r') => parseN n (d ++ [f]) e r'
def parseT (d : Dom) (e : Nat) (ts : List T) : Except Fail Dom := parseN (ts.length + 1) d e ts

/-- what Parse returns -/
def parse (s : List UInt8) : Dom × Int × Int :=
  match Lx.lex s with
  | (l, x, y) => if x ≠ 0 then ([], x, y) else
    match parseT [] s.length l with
    | .error (a, b) => ([], a, b)
    | .ok d => (d, 0, 0)

/-- one value of a case; 'gone': the names that have their value -/
def valP (d : Dom) (gone : List (List UInt8)) (first : Bool) (e : Nat) (ts : List T) : Except Fail ((Int × Int × List UInt8) × List T) :=
  match (if first then Except.ok ((0, ⟨0, 0, []⟩), ts) else take 4 [44] e ts) with
  | .error x => .error x
  | .ok (_, r0) =>
    match take 1 [] e r0 with
    | .error x => .error x
    | .ok (name, r1) =>
      if idx d name.2.text < 0 then .error (7, name.1)
      else if name.2.text ∈ gone then .error (9, name.1)
      else
      match take 4 [61] e r1 with
      | .error x => .error x
      | .ok (_, r2) =>
        match take 2 [] e r2 with
        | .error x => .error x
        | .ok (n, r3) =>
          match d[(idx d name.2.text).toNat]? with
          | none => .error (0, 0)
          | some f => if (n.2.n : Int) < f.lo ∨ f.hi < (n.2.n : Int) then .error (10, n.1) else .ok ((idx d name.2.text, (n.2.n : Int), name.2.text), r3)

def valsN : Nat → Dom → List Int → List (List UInt8) → Bool → Nat → List T → Except Fail (List Int × List (List UInt8))
  | 0, _, c, g, _, _, _ => .ok (c, g)
  | n + 1, d, c, g, first, e, ts =>
    match ts with
    | [] => .ok (c, g)
    | t :: r =>
      match valP d g first e (t :: r) with
      | .error x => .error x
      | .ok ((i, v, a), r') => valsN n d (c.set i.toNat v) (g ++ [a]) false e r'
def valsT (d : Dom) (c : List Int) (g : List (List UInt8)) (first : Bool) (e : Nat) (ts : List T) := valsN (ts.length + 1) d c g first e ts

/-- what ParseCase returns -/
def parseCase (d : Dom) (s : List UInt8) : List Int × Int × Int :=
  if valid d then
    match Lx.lex s with
    | (l, x, y) => if x ≠ 0 then ([], x, y) else
      match valsT d (List.replicate d.length 0) [] true s.length l with
      | .error (a, b) => ([], a, b)
      | .ok (c, g) => if g.length < d.length then ([], 11, s.length) else (c, 0, 0)
  else ([], 1, 0)

/-! ### walking through the cases -/

def least (d : Dom) : List Int := if valid d then d.map Fact.lo else []

/-- the next one, from the last value on; both lists turned round -/
def up : List (Fact × Int) → Option (List Int)
  | [] => none
  | p :: l => if p.2 < p.1.hi then some ((p.2 + 1) :: l.map Prod.snd) else (up l).map fun r => p.1.lo :: r
def next (d : Dom) (c : List Int) : Option (List Int) := if fits d c then (up (d.zip c).reverse).map List.reverse else none

end Fa
