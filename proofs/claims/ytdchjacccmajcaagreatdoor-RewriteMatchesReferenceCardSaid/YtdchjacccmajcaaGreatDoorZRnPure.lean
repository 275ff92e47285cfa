/-
  Variants of a word, the cost of dropping it, the text of a table, plainly; the chapter's example. NO PROGRAM IN THIS TEXT.
-/
import Derived.Test.YtdchjacccmajcaaGreatDoorZFormRun
import Derived.Test.YtdchjacccmajcaaGreatDoorZLexMore
namespace Rw

structure Vr where
  word : List UInt8
  end_ : Int
  cost : Int
deriving DecidableEq

/-- what remains of a word without an ending -/
def endOf (k : Int) (L : List (List UInt8)) (i : Nat) (d : Drop) : Option Vr :=
  if d.script = k ∧ (Fo.letters k d.word).length < L.length ∧ L.drop (L.length - (Fo.letters k d.word).length) = Fo.letters k d.word then some ⟨(L.take (L.length - (Fo.letters k d.word).length)).flatten, i, d.cost⟩ else none
def endsFrom (k : Int) (L : List (List UInt8)) : Nat → List Drop → List Vr
  | _, [] => []
  | i, d :: l => (endOf k L i d).toList ++ endsFrom k L (i + 1) l
theorem endsFrom_append (k : Int) (L : List (List UInt8)) : ∀ (a b : List Drop) (i : Nat), endsFrom k L i (a ++ b) = endsFrom k L i a ++ endsFrom k L (i + a.length) b
  | [], b, i => by simp [endsFrom]
  | d :: a, b, i => by
    simp only [List.cons_append, endsFrom, endsFrom_append k L a b (i + 1), List.append_assoc, List.length_cons]
    rw [show i + 1 + a.length = i + (a.length + 1) by omega]
theorem endsFrom_step (k : Int) (L : List (List UInt8)) {l : List Drop} {n : Nat} {d : Drop} (h : l[n]? = some d) : endsFrom k L 0 (l.take (n + 1)) = endsFrom k L 0 (l.take n) ++ (endOf k L n d).toList := by
  have hk := (List.getElem?_eq_some_iff.1 h).1
  have ht : l.take (n + 1) = l.take n ++ [d] := by rw [List.take_add_one, h]; rfl
  rw [ht, endsFrom_append, List.length_take, Nat.min_eq_left (by omega), Nat.zero_add]
  simp [endsFrom]
theorem endsFrom_len (k : Int) (L : List (List UInt8)) : ∀ (a : List Drop) (i : Nat), (endsFrom k L i a).length ≤ a.length
  | [], _ => Nat.le_refl _
  | d :: a, i => by
    have := endsFrom_len k L a (i + 1)
    simp only [endsFrom, List.length_append, List.length_cons]
    have : (endOf k L i d).toList.length ≤ 1 := by cases endOf k L i d <;> simp
    omega
def variants (t : Table) (k : Int) (s : List UInt8) : List Vr × Int :=
  if Fo.letters k s = [] ∨ valid t = false then ([], 1) else (⟨(Fo.letters k s).flatten, -1, 0⟩ :: endsFrom k (Fo.letters k s) 0 t.ends, 0)

/-- the cost of dropping a word -/
def dropOf (k : Int) (f : List UInt8) (c : Int) : List Drop → Int
  | [] => c
  | d :: l => if d.script = k ∧ d.word = f then d.cost else dropOf k f c l
def dropping (t : Table) (k : Int) (s : List UInt8) : Int × Int :=
  match Sc.lets k s with
  | none => (0, 1)
  | some _ => if valid t then (dropOf k (Sc.fold s) t.drop t.drops, 0) else (0, 1)
theorem dropOf_step {k : Int} {f : List UInt8} {c : Int} {l : List Drop} {n : Nat} {d : Drop} (h : l[n]? = some d) : dropOf k f c (l.drop n) = if d.script = k ∧ d.word = f then d.cost else dropOf k f c (l.drop (n + 1)) := by
  have hk := (List.getElem?_eq_some_iff.1 h).1
  have : l.drop n = d :: l.drop (n + 1) := by
    rw [List.drop_eq_getElem_cons hk]
    congr 1
    rw [List.getElem?_eq_getElem hk] at h
    exact Option.some.inj h
  rw [this]; rfl

/-! ### texts -/
def scrT : Int → List UInt8
  | 1 => [112, 108, 97, 105, 110]
  | 2 => [99, 97, 115, 101, 100]
  | 3 => [97, 98, 106, 97, 100]
  | 4 => [115, 121, 108, 108, 97, 98]
  | _ => []
def tRule : List UInt8 := [114, 117, 108, 101]
def tTo : List UInt8 := [116, 111]
def tCost : List UInt8 := [99, 111, 115, 116]
def tDrop : List UInt8 := [100, 114, 111, 112]
def tEnd : List UInt8 := [101, 110, 100]
def tCosts : List UInt8 := [99, 111, 115, 116, 115]
def quo (s : List UInt8) : List UInt8 := 34 :: s ++ [34]
/-- words with a blank between them -/
def spaced : List (List UInt8) → List UInt8
  | [] => []
  | x :: l => x ++ l.flatMap fun y => 32 :: y
def lineOf (l : List (List UInt8)) : List UInt8 := spaced l ++ [59, 10]
def ruleWs (r : Rule) : List (List UInt8) := [tRule, scrT r.script, quo r.from_, tTo, quo r.to_, tCost, Lx.dec r.cost.toNat]
def dropWs (w : List UInt8) (d : Drop) : List (List UInt8) := [w, scrT d.script, quo d.word, Lx.dec d.cost.toNat]
def costWs (t : Table) : List (List UInt8) := [tCosts, Lx.dec t.drop.toNat, Lx.dec t.order.toNat, Lx.dec t.initial.toNat]
def ruleT (r : Rule) : List UInt8 := lineOf (ruleWs r)
def dropT (w : List UInt8) (d : Drop) : List UInt8 := lineOf (dropWs w d)
def text (t : Table) : List UInt8 := if valid t then t.rules.flatMap ruleT ++ t.drops.flatMap (dropT tDrop) ++ t.ends.flatMap (dropT tEnd) ++ lineOf (costWs t) else []

/-! ### the example -/
def tab : Table := ⟨[⟨1, [97], [97], 0⟩, ⟨1, [110], [110], 0⟩, ⟨1, [116], [116], 0⟩, ⟨1, [104], [104], 0⟩, ⟨1, [110, 110], [110], 1⟩, ⟨1, [116, 104], [116], 2⟩], [⟨1, [97, 108], 1⟩], [⟨1, [97], 3⟩], 4, 2, 1⟩
def anna : List UInt8 := [97, 110, 110, 97]
theorem tab_valid : valid tab = true := by decide +kernel
theorem let_anna : Fo.letters 1 anna = [[97], [110], [110], [97]] := by decide +kernel
theorem let_tha : Fo.letters 1 [116, 104, 97] = [[116], [104], [97]] := by decide +kernel
theorem let_bab : Fo.letters 1 [98, 97, 98] = [[98], [97], [98]] := by decide +kernel
theorem let_Anna : Fo.letters 1 [65, 110, 110, 97] = [] := by decide +kernel
theorem forms_anna : Fo.Forms Fo.lt (Fo.letters 1 anna) (Al.rulesFrom 1 0 tab.rules) 5 [[97, 110, 97], anna] [1, 0] := Fo.isForms_ok (Fo.good_rules tab_valid 1) (by decide +kernel)
theorem forms_tha : Fo.Forms Fo.lt (Fo.letters 1 [116, 104, 97]) (Al.rulesFrom 1 0 tab.rules) 9 [[116, 97], [116, 104, 97]] [2, 0] := Fo.isForms_ok (Fo.good_rules tab_valid 1) (by decide +kernel)
theorem forms_bab : Fo.Forms Fo.lt (Fo.letters 1 [98, 97, 98]) (Al.rulesFrom 1 0 tab.rules) 100 [] [] := Fo.isForms_ok (Fo.good_rules tab_valid 1) (by decide +kernel)
theorem var_anna : variants tab 1 anna = ([⟨anna, -1, 0⟩, ⟨[97, 110, 110], 0, 3⟩], 0) := by decide +kernel
theorem drop_al : dropping tab 1 [97, 108] = (1, 0) := by decide +kernel
theorem drop_anna : dropping tab 1 anna = (4, 0) := by decide +kernel
/-- the example of a text -/
def tab2 : Table := ⟨[⟨1, [116, 104], [116], 2⟩], [], [⟨1, [97], 3⟩], 4, 2, 1⟩
theorem text_tab2 : text tab2 = [114, 117, 108, 101, 32, 112, 108, 97, 105, 110, 32, 34, 116, 104, 34, 32, 116, 111, 32, 34, 116, 34, 32, 99, 111, 115, 116, 32, 50, 59, 10, 101, 110, 100, 32, 112, 108, 97, 105, 110, 32, 34, 97, 34, 32, 51, 59, 10, 99, 111, 115, 116, 115, 32, 52, 32, 50, 32, 49, 59, 10] := by decide +kernel
theorem valid_tab2 : valid tab2 = true := by decide +kernel
theorem valid_none : valid ⟨[], [], [], 0, 0, 0⟩ = false := by decide +kernel

end Rw
