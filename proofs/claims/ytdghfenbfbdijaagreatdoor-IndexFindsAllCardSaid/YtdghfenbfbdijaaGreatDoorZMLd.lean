/-
 Several texts in one: ZLedPure, ZLedLaws. Conditions: as each law says.
-/
import Derived.Test.YtdghfenbfbdijaaGreatDoorZLexPure
import Derived.Test.YtdghfenbfbdijaaGreatDoorZMLx
namespace Lg
structure Bk where
 id : ByteArray
 at_ : Int
 posts : List (ByteArray × Int)
 deriving DecidableEq
structure S where
 names : List (ByteArray × Bool)
 books : List Bk
 deriving DecidableEq
def empty : S := ⟨[],[]⟩
def nm (t : ByteArray) : Bool := t.data.toList.all Lx.isWord && decide (0 < t.size) && decide (t.size ≤ 24) && t.data.toList.head?.any Lx.isLetter
def sumP : List (ByteArray × Int) → ByteArray → Int
 | [],_ => 0
 | p :: l,a => (if p.1 = a then p.2 else 0) + sumP l a
def sumB : List Bk → ByteArray → Int
 | [],_ => 0
 | b :: l,a => sumP b.posts a + sumB l a
def total : List (ByteArray × Int) → Int
 | [] => 0
 | p :: l => p.2 + total l
def credit (s : S) (a : ByteArray) : Option Bool := (s.names.find? fun p => decide (p.1 = a)).map Prod.snd
def okUnits (n : Int) : Bool := decide (n ≠ 0) && decide (-1000000000000 ≤ n) && decide (n ≤ 1000000000000)
def formed (b : Bk) : Bool := nm b.id && decide (0 ≤ b.at_) && decide (b.at_ ≤ 144001439) && decide (2 ≤ b.posts.length) && decide (b.posts.length ≤ 12) && b.posts.all (fun p => okUnits p.2) && decide (b.posts.map Prod.fst).Nodup
def open_ (s : S) (a : ByteArray) (c : Bool) : Int × S :=
 if nm a = false then (1,s) else if (credit s a).isSome then (9,s) else if 100 ≤ s.names.length then (2,s) else (0,⟨s.names ++ [(a,c)],s.books⟩)
def early (s : S) (b : Bk) : Bool := match s.books.getLast? with | some z => decide (b.at_ < z.at_) | none => false
def lacks (s : S) (l : List (ByteArray × Int)) : Bool := l.any fun p => (credit s p.1).isNone
def below (s : S) (l : List (ByteArray × Int)) : Bool := l.any fun p => credit s p.1 == some false && decide (sumB s.books p.1 + p.2 < 0)
def code (s : S) (b : Bk) : Int :=
 if formed b = false then 1 else if s.books.any (fun z => decide (z.id = b.id)) then 9 else if early s b then 14 else if lacks s b.posts then 11
 else if 2000 ≤ s.books.length then 28 else if total b.posts ≠ 0 then 21 else if below s b.posts then 21 else 0
def book (s : S) (b : Bk) : S := if code s b = 0 then ⟨s.names,s.books ++ [b]⟩ else s
structure Inv (s : S) : Prop where
 names : (s.names.map Prod.fst).Nodup
 namesOk : ∀ p ∈ s.names,nm p.1 = true
 few : s.names.length ≤ 100
 fewB : s.books.length ≤ 2000
 formed : ∀ b ∈ s.books,formed b = true
 zero : ∀ b ∈ s.books,total b.posts = 0
 isOpen : ∀ b ∈ s.books,∀ p ∈ b.posts,(credit s p.1).isSome
 order : s.books.Pairwise fun x y => x.at_ ≤ y.at_
 above : ∀ n a,credit s a = some false → 0 ≤ sumB (s.books.take n) a
def after (l : List Bk) (t : Int) : List Bk := l.filter fun b => decide (t < b.at_)
end Lg
namespace Lg
open Lx
def identP (t : ByteArray) : Prop := (lex t.data.toList).2.1 = 0 ∧ ∃ o n,(lex t.data.toList).1 = [(o,⟨1,n,t.data.toList⟩)]
theorem ident_nm {t : ByteArray} (h : t.size ≤ 5000) : identP t ↔ nm t = true := by
 have hl : t.data.toList.length = t.size := by simp
 unfold identP
 rw [lex_lu (by omega)]
 constructor
 ·rintro ⟨h1,o,n,h2⟩
  cases hu : lu t.data.toList with
  | error x => rw [hu] at h2; simp at h2
  | ok l =>
   rw [hu] at h2
   simp only at h2
   have hok := lu_ok hu (o,⟨1,n,t.data.toList⟩) (by rw [h2]; simp)
   rcases hok with ⟨_,_,k3,k4,c,s,k5,k6⟩ | ⟨k,_⟩ | ⟨k,_⟩ | ⟨k,_⟩
   ·simp only at k3 k4 k5
    unfold nm
    rw [k4,k5]
    have : 0 < t.size := by rw [← hl,k5]; simp
    simp [k6]; omega
   ·simp at k
   ·simp at k
   ·simp at k
 ·intro hn
  unfold nm at hn
  simp only [Bool.and_eq_true,decide_eq_true_eq] at hn
  obtain ⟨⟨⟨k1,k2⟩,k3⟩,k4⟩ := hn
  have hok : TokOK ⟨1,0,t.data.toList⟩ := by
   refine .inl ⟨rfl,rfl,by simp only; omega,k1,?_⟩
   cases hc : t.data.toList with
   | nil => rw [hc] at hl; simp at hl; omega
   | cons c s => rw [hc] at k4; simp at k4; exact ⟨c,s,rfl,k4⟩
  have := lu_tok (r := []) hok (fun z hz => by simp at hz)
  have hw : (⟨1,0,t.data.toList⟩ : Tk).written = t.data.toList := by simp [Tk.written]
  have h0 : lu [] = .ok [] := lu_gaps rfl
  rw [hw,List.append_nil,h0] at this
  rw [this]
  exact ⟨rfl,0,0,rfl⟩
/-! ### filling -/
def openN (as : List ByteArray) (f : Nat → Bool) : Nat → S
 | 0 => empty
 | n + 1 => match as[n]? with | some a => (open_ (openN as f n) a (f n)).2 | none => openN as f n
def bookN (s : S) (l : List Bk) : Nat → S
 | 0 => s
 | n + 1 => match l[n]? with | some b => book (bookN s l n) b | none => bookN s l n
def filled (as : List ByteArray) (f : Nat → Bool) (l : List Bk) : S := bookN (openN as f as.length) l l.length
end Lg
