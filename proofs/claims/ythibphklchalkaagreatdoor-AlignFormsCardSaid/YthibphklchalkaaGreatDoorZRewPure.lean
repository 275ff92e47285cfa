/-
  Tables of rewriting rules, plainly: what is valid. NO PROGRAM IN THIS TEXT.
-/
import Derived.Test.YthibphklchalkaaGreatDoorZScrPure
namespace Rw

structure Rule where
  script : Int
  from_ : List UInt8
  to_ : List UInt8
  cost : Int
deriving DecidableEq

structure Drop where
  script : Int
  word : List UInt8
  cost : Int
deriving DecidableEq

structure Table where
  rules : List Rule
  drops : List Drop
  ends : List Drop
  drop : Int
  order : Int
  initial : Int

def isForm (s : List UInt8) : Bool := decide (s.length ≤ 3) && s.all Sc.small.contains
def isCost (n : Int) : Bool := decide (0 ≤ n) && decide (n ≤ 1000)
def folded (k : Int) (s : List UInt8) (most : Int) : Bool :=
  match Sc.lets k s with
  | none => false
  | some ls => decide (Sc.fold s = s) && decide ((ls.length : Int) ≤ most)

/-- what no two may have in common -/
def Rule.key (r : Rule) : Int × List UInt8 × List UInt8 := (r.script, r.from_, r.to_)
def Drop.key (d : Drop) : Int × List UInt8 × List UInt8 := (d.script, d.word, [])

def ruleOk (r : Rule) : Bool := folded r.script r.from_ 3 && isForm r.to_ && isCost r.cost
def dropOk (most : Int) (d : Drop) : Bool := folded d.script d.word most && isCost d.cost

/-- each is well and none has an earlier one's key -/
def allOk {α : Type} (ok : α → Bool) (key : α → Int × List UInt8 × List UInt8) : List α → List (Int × List UInt8 × List UInt8) → Bool
  | [], _ => true
  | x :: l, seen => !seen.contains (key x) && ok x && allOk ok key l (seen ++ [key x])

def dropsOk (l : List Drop) (most : Int) : Bool := allOk (dropOk most) Drop.key l [] && decide (l.length ≤ 40)

def valid (t : Table) : Bool :=
  decide (t.rules ≠ []) && decide (t.rules.length ≤ 80) && isCost t.drop && isCost t.order && isCost t.initial && allOk ruleOk Rule.key t.rules [] && dropsOk t.drops 12 && dropsOk t.ends 4

/-- the first k are well -/
theorem allOk_append {α : Type} (ok : α → Bool) (key : α → Int × List UInt8 × List UInt8) : ∀ (a b : List α) (seen : List (Int × List UInt8 × List UInt8)), allOk ok key (a ++ b) seen = (allOk ok key a seen && allOk ok key b (seen ++ a.map key))
  | [], b, seen => by simp [allOk]
  | x :: a, b, seen => by
    simp only [List.cons_append, allOk, List.map_cons]
    rw [allOk_append ok key a b]
    simp [Bool.and_assoc]

end Rw
