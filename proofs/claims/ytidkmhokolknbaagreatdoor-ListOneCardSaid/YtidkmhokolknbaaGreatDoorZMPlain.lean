/-
  Several texts in one: ZLedPure, ZLedLaws. Conditions: as each law says.
-/
import Derived.Test.YtidkmhokolknbaaGreatDoorZLexPure
import Derived.Test.YtidkmhokolknbaaGreatDoorZLexLaws
namespace Lg

structure Bk where
  id : ByteArray
  at_ : Int
  posts : List (ByteArray × Int)
  deriving DecidableEq

structure S where
  names : List (ByteArray × Bool)
  books : List Bk
  deriving DecidableEq

def empty : S := ⟨[], []⟩

/-- is this a name? -/
def nm (t : ByteArray) : Bool := t.data.toList.all Lx.isWord && decide (0 < t.size) && decide (t.size ≤ 24) && t.data.toList.head?.any Lx.isLetter

/-- what an account has of postings, of bookings, of bookings up to an instant; what postings add up to -/
def sumP : List (ByteArray × Int) → ByteArray → Int
  | [], _ => 0
  | p :: l, a => (if p.1 = a then p.2 else 0) + sumP l a
def sumB : List Bk → ByteArray → Int
  | [], _ => 0
  | b :: l, a => sumP b.posts a + sumB l a
def sumAt (l : List Bk) (a : ByteArray) (t : Int) : Int := sumB (l.filter fun b => decide (b.at_ ≤ t)) a
def total : List (ByteArray × Int) → Int
  | [] => 0
  | p :: l => p.2 + total l

def credit (s : S) (a : ByteArray) : Option Bool := (s.names.find? fun p => decide (p.1 = a)).map Prod.snd

def okUnits (n : Int) : Bool := decide (n ≠ 0) && decide (-1000000000000 ≤ n) && decide (n ≤ 1000000000000)

def formed (b : Bk) : Bool := nm b.id && decide (0 ≤ b.at_) && decide (b.at_ ≤ 144001439) && decide (2 ≤ b.posts.length) && decide (b.posts.length ≤ 12) && b.posts.all (fun p => okUnits p.2) && decide (b.posts.map Prod.fst).Nodup

def open_ (s : S) (a : ByteArray) (c : Bool) : Int × S :=
  if nm a = false then (1, s) else if (credit s a).isSome then (9, s) else if 100 ≤ s.names.length then (2, s) else (0, ⟨s.names ++ [(a, c)], s.books⟩)

/-- comes a booking too early? -/
def early (s : S) (b : Bk) : Bool := match s.books.getLast? with | some z => decide (b.at_ < z.at_) | none => false
/-- is an account of a booking not open? -/
def lacks (s : S) (l : List (ByteArray × Int)) : Bool := l.any fun p => (credit s p.1).isNone
/-- would an account without credit be below 0? -/
def below (s : S) (l : List (ByteArray × Int)) : Bool := l.any fun p => credit s p.1 == some false && decide (sumB s.books p.1 + p.2 < 0)

def code (s : S) (b : Bk) : Int :=
  if formed b = false then 1 else if s.books.any (fun z => decide (z.id = b.id)) then 9 else if early s b then 14 else if lacks s b.posts then 11
  else if 2000 ≤ s.books.length then 28 else if total b.posts ≠ 0 then 21 else if below s b.posts then 21 else 0

def book (s : S) (b : Bk) : S := if code s b = 0 then ⟨s.names, s.books ++ [b]⟩ else s

def bal (s : S) (a : ByteArray) : Int := if (credit s a).isSome then sumB s.books a else 0
def balAt (s : S) (a : ByteArray) (t : Int) : Int := if (credit s a).isSome then sumAt s.books a t else 0
def errOf (s : S) (a : ByteArray) : Int := if (credit s a).isSome then 0 else 11

/-! ### sums -/

theorem sumP_append (l m : List (ByteArray × Int)) (a : ByteArray) : sumP (l ++ m) a = sumP l a + sumP m a := by
  induction l with
  | nil => simp [sumP]
  | cons p l ih => simp only [List.cons_append, sumP, ih]; omega
theorem sumB_append (l m : List Bk) (a : ByteArray) : sumB (l ++ m) a = sumB l a + sumB m a := by
  induction l with
  | nil => simp [sumB]
  | cons p l ih => simp only [List.cons_append, sumB, ih]; omega
theorem total_append (l m : List (ByteArray × Int)) : total (l ++ m) = total l + total m := by
  induction l with
  | nil => simp [total]
  | cons p l ih => simp only [List.cons_append, total, ih]; omega
theorem sumP_none {l : List (ByteArray × Int)} {a : ByteArray} (h : ∀ p ∈ l, p.1 ≠ a) : sumP l a = 0 := by
  induction l with
  | nil => rfl
  | cons p l ih => simp only [sumP, if_neg (h p List.mem_cons_self), ih (fun q hq => h q (List.mem_cons_of_mem _ hq))]; omega
theorem sumB_none {l : List Bk} {a : ByteArray} (h : ∀ b ∈ l, ∀ p ∈ b.posts, p.1 ≠ a) : sumB l a = 0 := by
  induction l with
  | nil => rfl
  | cons b l ih => simp only [sumB, sumP_none (h b List.mem_cons_self), ih (fun q hq => h q (List.mem_cons_of_mem _ hq))]; omega
/-- where each account stands once, what it has is its units -/
theorem sumP_one {l : List (ByteArray × Int)} (h : (l.map Prod.fst).Nodup) {p : ByteArray × Int} (hp : p ∈ l) : sumP l p.1 = p.2 := by
  induction l with
  | nil => cases hp
  | cons q l ih =>
    rw [List.map_cons, List.nodup_cons] at h
    rcases List.mem_cons.1 hp with rfl | hp
    · simp only [sumP, if_pos]
      rw [sumP_none (fun x hx e => h.1 (by rw [← e]; exact List.mem_map_of_mem hx))]
      omega
    · have hne : q.1 ≠ p.1 := fun e => h.1 (by rw [e]; exact List.mem_map_of_mem hp)
      simp only [sumP, if_neg hne, ih h.2 hp]
      omega

def unitsOk (l : List (ByteArray × Int)) : Prop := l.length ≤ 12 ∧ ∀ p ∈ l, -1000000000000 ≤ p.2 ∧ p.2 ≤ 1000000000000

theorem sumP_bound {l : List (ByteArray × Int)} (h : ∀ p ∈ l, -1000000000000 ≤ p.2 ∧ p.2 ≤ 1000000000000) (a : ByteArray) : -(1000000000000 * (l.length : Int)) ≤ sumP l a ∧ sumP l a ≤ 1000000000000 * (l.length : Int) := by
  induction l with
  | nil => simp [sumP]
  | cons p l ih =>
    have h1 := h p List.mem_cons_self
    have h2 := ih (fun q hq => h q (List.mem_cons_of_mem _ hq))
    simp only [sumP, List.length_cons]
    split <;> omega
theorem total_bound {l : List (ByteArray × Int)} (h : ∀ p ∈ l, -1000000000000 ≤ p.2 ∧ p.2 ≤ 1000000000000) : -(1000000000000 * (l.length : Int)) ≤ total l ∧ total l ≤ 1000000000000 * (l.length : Int) := by
  induction l with
  | nil => simp [total]
  | cons p l ih =>
    have h1 := h p List.mem_cons_self
    have h2 := ih (fun q hq => h q (List.mem_cons_of_mem _ hq))
    simp only [total, List.length_cons]
    omega
theorem sumB_bound {l : List Bk} (h : ∀ b ∈ l, unitsOk b.posts) (a : ByteArray) : -(12000000000000 * (l.length : Int)) ≤ sumB l a ∧ sumB l a ≤ 12000000000000 * (l.length : Int) := by
  induction l with
  | nil => simp [sumB]
  | cons b l ih =>
    have h1 := h b List.mem_cons_self
    have h2 := ih (fun q hq => h q (List.mem_cons_of_mem _ hq))
    have h3 := sumP_bound h1.2 a
    have h4 : (b.posts.length : Int) ≤ 12 := by have := h1.1; omega
    simp only [sumB, List.length_cons]
    omega

theorem formed_units {b : Bk} (h : formed b = true) : unitsOk b.posts := by
  unfold formed at h
  simp only [Bool.and_eq_true, decide_eq_true_eq, List.all_eq_true, okUnits] at h
  exact ⟨h.1.1.2, fun p hp => ⟨(h.1.2 p hp).1.2, (h.1.2 p hp).2⟩⟩
theorem formed_nodup {b : Bk} (h : formed b = true) : (b.posts.map Prod.fst).Nodup := by
  unfold formed at h
  simp only [Bool.and_eq_true, decide_eq_true_eq] at h
  exact h.2
theorem formed_at {b : Bk} (h : formed b = true) : 0 ≤ b.at_ ∧ b.at_ ≤ 144001439 := by
  unfold formed at h
  simp only [Bool.and_eq_true, decide_eq_true_eq] at h
  exact ⟨h.1.1.1.1.1.2, h.1.1.1.1.2⟩
theorem formed_len {b : Bk} (h : formed b = true) : 2 ≤ b.posts.length ∧ b.posts.length ≤ 12 := by
  unfold formed at h
  simp only [Bool.and_eq_true, decide_eq_true_eq] at h
  exact ⟨h.1.1.1.2, h.1.1.2⟩

/-! ### what holds of each ledger -/

structure Inv (s : S) : Prop where
  names : (s.names.map Prod.fst).Nodup
  namesOk : ∀ p ∈ s.names, nm p.1 = true
  few : s.names.length ≤ 100
  fewB : s.books.length ≤ 2000
  formed : ∀ b ∈ s.books, formed b = true
  zero : ∀ b ∈ s.books, total b.posts = 0
  isOpen : ∀ b ∈ s.books, ∀ p ∈ b.posts, (credit s p.1).isSome
  order : s.books.Pairwise fun x y => x.at_ ≤ y.at_
  above : ∀ n a, credit s a = some false → 0 ≤ sumB (s.books.take n) a

theorem inv_empty : Inv empty := ⟨by simp [empty], by simp [empty], by simp [empty], by simp [empty], by simp [empty], by simp [empty], by simp [empty], by simp [empty], by simp [empty, sumB]⟩

theorem credit_snoc {s : S} {a : ByteArray} {c : Bool} (x : ByteArray) : credit ⟨s.names ++ [(a, c)], s.books⟩ x = match credit s x with | some d => some d | none => if a = x then some c else none := by
  unfold credit
  simp only [List.find?_append]
  cases h : s.names.find? fun p => decide (p.1 = x) with
  | some p => simp
  | none =>
    simp only [Option.map_none]
    by_cases e : a = x
    · simp [e]
    · simp [e]

theorem credit_isSome {s : S} {a : ByteArray} : (credit s a).isSome = true ↔ a ∈ s.names.map Prod.fst := by
  unfold credit
  rw [Option.isSome_map, List.find?_isSome]
  simp only [decide_eq_true_eq, List.mem_map]

theorem inv_open {s : S} (h : Inv s) (a : ByteArray) (c : Bool) : Inv (open_ s a c).2 := by
  unfold open_
  split
  · exact h
  · rename_i hn
    split
    · exact h
    · rename_i hc
      split
      · exact h
      · rename_i hl
        have hnone : credit s a = none := by
          cases hx : credit s a with
          | none => rfl
          | some d => rw [hx] at hc; simp at hc
        refine ⟨?_, ?_, ?_, h.fewB, h.formed, h.zero, ?_, h.order, ?_⟩
        · rw [List.map_append, List.nodup_append]
          refine ⟨h.names, by simp, fun x hx y hy e => ?_⟩
          simp at hy
          subst hy; subst e
          exact hc (credit_isSome.2 hx)
        · intro p hp
          rcases List.mem_append.1 hp with hp | hp
          · exact h.namesOk p hp
          · simp at hp; subst hp; simpa using hn
        · rw [List.length_append]; simp; omega
        · intro b hb p hp
          rw [credit_snoc]
          have := h.isOpen b hb p hp
          cases hx : credit s p.1 with
          | none => rw [hx] at this; simp at this
          | some d => rfl
        · intro n x hx
          rw [credit_snoc] at hx
          cases hy : credit s x with
          | some d => rw [hy] at hx; simp at hx; subst hx; exact h.above n x hy
          | none =>
            have : sumB (s.books.take n) x = 0 := sumB_none (fun b hb p hp e => by
              have := h.isOpen b (List.mem_of_mem_take hb) p hp
              rw [e, hy] at this
              simp at this)
            show 0 ≤ sumB (s.books.take n) x
            rw [this]
            exact Int.le_refl _

theorem code_zero {s : S} {b : Bk} (h : code s b = 0) : formed b = true ∧ s.books.any (fun z => decide (z.id = b.id)) = false ∧ early s b = false ∧ lacks s b.posts = false ∧ s.books.length < 2000 ∧ total b.posts = 0 ∧ below s b.posts = false := by
  unfold code at h
  split at h
  · cases h
  · split at h
    · cases h
    · split at h
      · cases h
      · split at h
        · cases h
        · split at h
          · cases h
          · split at h
            · cases h
            · split at h
              · cases h
              · rename_i h1 h2 h3 h4 h5 h6 h7
                exact ⟨by simpa using h1, by simpa using h2, by simpa using h3, by simpa using h4, by omega, by simpa using h6, by simpa using h7⟩

theorem lacks_false {s : S} {l : List (ByteArray × Int)} (h : lacks s l = false) : ∀ p ∈ l, (credit s p.1).isSome = true := by
  intro p hp
  unfold lacks at h
  rw [List.any_eq_false] at h
  have := h p hp
  cases hx : credit s p.1 with
  | none => rw [hx] at this; simp at this
  | some d => rfl

theorem below_false {s : S} {l : List (ByteArray × Int)} (h : below s l = false) : ∀ p ∈ l, credit s p.1 = some false → 0 ≤ sumB s.books p.1 + p.2 := by
  intro p hp hc
  unfold below at h
  rw [List.any_eq_false] at h
  have := h p hp
  simp [hc] at this
  exact this

theorem early_false {s : S} (hs : s.books.Pairwise fun x y => x.at_ ≤ y.at_) {b : Bk} (h : early s b = false) : ∀ z ∈ s.books, z.at_ ≤ b.at_ := by
  intro z hz
  unfold early at h
  cases hl : s.books.getLast? with
  | none => rw [List.getLast?_eq_none_iff] at hl; rw [hl] at hz; cases hz
  | some y =>
    rw [hl] at h
    simp at h
    obtain ⟨ys, hys⟩ := List.getLast?_eq_some_iff.1 hl
    rw [hys] at hz hs
    rcases List.mem_append.1 hz with hz | hz
    · have := (List.pairwise_append.1 hs).2.2 z hz y (by simp)
      omega
    · simp at hz; subst hz; exact h

theorem inv_book {s : S} (h : Inv s) (b : Bk) : Inv (book s b) := by
  unfold book
  split
  · rename_i hc
    obtain ⟨h1, h2, h3, h4, h5, h6, h7⟩ := code_zero hc
    refine ⟨h.names, h.namesOk, h.few, ?_, ?_, ?_, ?_, ?_, ?_⟩
    · rw [List.length_append]; simp; omega
    · intro x hx
      rcases List.mem_append.1 hx with hx | hx
      · exact h.formed x hx
      · simp at hx; subst hx; exact h1
    · intro x hx
      rcases List.mem_append.1 hx with hx | hx
      · exact h.zero x hx
      · simp at hx; subst hx; exact h6
    · intro x hx p hp
      rcases List.mem_append.1 hx with hx | hx
      · exact h.isOpen x hx p hp
      · simp at hx; subst hx; exact lacks_false h4 p hp
    · show (s.books ++ [b]).Pairwise _
      rw [List.pairwise_append]
      refine ⟨h.order, by simp, fun x hx y hy => ?_⟩
      simp at hy; subst hy
      exact early_false h.order h3 x hx
    · intro n a ha
      have ha' : credit s a = some false := ha
      show 0 ≤ sumB ((s.books ++ [b]).take n) a
      by_cases hn : n ≤ s.books.length
      · rw [List.take_append_of_le_length hn]
        exact h.above n a ha'
      · rw [List.take_of_length_le (by rw [List.length_append]; simp; omega), sumB_append]
        have h8 := h.above s.books.length a ha'
        rw [List.take_length] at h8
        simp only [sumB, Int.add_zero]
        by_cases hm : a ∈ b.posts.map Prod.fst
        · obtain ⟨p, hp, rfl⟩ := List.mem_map.1 hm
          rw [sumP_one (formed_nodup h1) hp]
          exact below_false h7 p hp ha'
        · rw [sumP_none (fun p hp e => hm (by rw [← e]; exact List.mem_map_of_mem hp))]
          omega
  · exact h

/-! ### a balance at an instant -/

/-- what comes behind an instant -/
def after (l : List Bk) (t : Int) : List Bk := l.filter fun b => decide (t < b.at_)

theorem sumB_split (l : List Bk) (a : ByteArray) (t : Int) : sumB l a = sumAt l a t + sumB (after l t) a := by
  induction l with
  | nil => rfl
  | cons b l ih =>
    unfold sumAt after at *
    by_cases h : b.at_ ≤ t
    · rw [List.filter_cons_of_pos (by simpa using h), List.filter_cons_of_neg (by simp; omega)]
      simp only [sumB, ih]; omega
    · rw [List.filter_cons_of_neg (by simpa using h), List.filter_cons_of_pos (by simp; omega)]
      simp only [sumB, ih]; omega

theorem sumAt_all {l : List Bk} {a : ByteArray} {t : Int} (h : ∀ b ∈ l, b.at_ ≤ t) : sumAt l a t = sumB l a := by
  unfold sumAt
  rw [List.filter_eq_self.2 (fun b hb => by simpa using h b hb)]

/-- in order, those up to an instant come first -/
theorem filter_take {l : List Bk} (h : l.Pairwise fun x y => x.at_ ≤ y.at_) (t : Int) : ∃ n, l.filter (fun b => decide (b.at_ ≤ t)) = l.take n := by
  induction l with
  | nil => exact ⟨0, rfl⟩
  | cons b l ih =>
    rw [List.pairwise_cons] at h
    by_cases hb : b.at_ ≤ t
    · obtain ⟨n, hn⟩ := ih h.2
      exact ⟨n + 1, by rw [List.filter_cons_of_pos (by simpa using hb), hn, List.take_succ_cons]⟩
    · refine ⟨0, ?_⟩
      rw [List.filter_cons_of_neg (by simpa using hb), List.take_zero, List.filter_eq_nil_iff]
      intro c hc
      have := h.1 c hc
      simp; omega

theorem balAt_above {s : S} (h : Inv s) {a : ByteArray} (hc : credit s a ≠ some true) (t : Int) : 0 ≤ balAt s a t := by
  unfold balAt
  cases hx : credit s a with
  | none => simp
  | some d =>
    cases d with
    | true => exact absurd hx hc
    | false =>
      simp only [Option.isSome_some, if_true]
      obtain ⟨n, hn⟩ := filter_take h.order t
      unfold sumAt
      rw [hn]
      exact h.above n a hx

theorem balAt_last {s : S} {a : ByteArray} {t : Int} (h : ∀ b ∈ s.books, b.at_ ≤ t) : balAt s a t = bal s a := by
  unfold balAt bal
  rw [sumAt_all h]

theorem balAt_max {s : S} (h : Inv s) (a : ByteArray) : balAt s a 144001439 = bal s a := balAt_last fun b hb => (formed_at (h.formed b hb)).2

/-- a further booking -/
theorem sumAt_snoc (l : List Bk) (b : Bk) (a : ByteArray) (t : Int) : sumAt (l ++ [b]) a t = sumAt l a t + if b.at_ ≤ t then sumP b.posts a else 0 := by
  unfold sumAt
  rw [List.filter_append, sumB_append]
  by_cases h : b.at_ ≤ t
  · rw [List.filter_cons_of_pos (by simpa using h), if_pos h]; simp [sumB]
  · rw [List.filter_cons_of_neg (by simpa using h), if_neg h]; simp [sumB]

end Lg

namespace Lg
open Lx

/-! ### names -/

/-- what 'identifier' asks of the tokens of a text -/
def identP (t : ByteArray) : Prop := (lex t.data.toList).2.1 = 0 ∧ ∃ o n, (lex t.data.toList).1 = [(o, ⟨1, n, t.data.toList⟩)]

theorem ident_nm {t : ByteArray} (h : t.size ≤ 5000) : identP t ↔ nm t = true := by
  have hl : t.data.toList.length = t.size := by simp
  unfold identP
  rw [lex_lu (by omega)]
  constructor
  · rintro ⟨h1, o, n, h2⟩
    cases hu : lu t.data.toList with
    | error x => rw [hu] at h2; simp at h2
    | ok l =>
      rw [hu] at h2
      simp only at h2
      have hok := lu_ok hu (o, ⟨1, n, t.data.toList⟩) (by rw [h2]; simp)
      rcases hok with ⟨_, _, k3, k4, c, s, k5, k6⟩ | ⟨k, _⟩ | ⟨k, _⟩ | ⟨k, _⟩
      · simp only at k3 k4 k5
        unfold nm
        rw [k4, k5]
        have : 0 < t.size := by rw [← hl, k5]; simp
        simp [k6]; omega
      · simp at k
      · simp at k
      · simp at k
  · intro hn
    unfold nm at hn
    simp only [Bool.and_eq_true, decide_eq_true_eq] at hn
    obtain ⟨⟨⟨k1, k2⟩, k3⟩, k4⟩ := hn
    have hok : TokOK ⟨1, 0, t.data.toList⟩ := by
      refine .inl ⟨rfl, rfl, by simp only; omega, k1, ?_⟩
      cases hc : t.data.toList with
      | nil => rw [hc] at hl; simp at hl; omega
      | cons c s => rw [hc] at k4; simp at k4; exact ⟨c, s, rfl, k4⟩
    have := lu_tok (r := []) hok (fun z hz => by simp at hz)
    have hw : (⟨1, 0, t.data.toList⟩ : Tk).written = t.data.toList := by simp [Tk.written]
    have h0 : lu [] = .ok [] := lu_gaps rfl
    rw [hw, List.append_nil, h0] at this
    rw [this]
    exact ⟨rfl, 0, 0, rfl⟩

/-! ### filling -/

def openN (as : List ByteArray) (f : Nat → Bool) : Nat → S
  | 0 => empty
  | n + 1 => match as[n]? with | some a => (open_ (openN as f n) a (f n)).2 | none => openN as f n
def bookN (s : S) (l : List Bk) : Nat → S
  | 0 => s
  | n + 1 => match l[n]? with | some b => book (bookN s l n) b | none => bookN s l n

def filled (as : List ByteArray) (f : Nat → Bool) (l : List Bk) : S := bookN (openN as f as.length) l l.length

theorem openN_step {as : List ByteArray} {f : Nat → Bool} {n : Nat} {a : ByteArray} (h : as[n]? = some a) : openN as f (n + 1) = (open_ (openN as f n) a (f n)).2 := by
  show (match as[n]? with | some a => (open_ (openN as f n) a (f n)).2 | none => openN as f n) = _
  rw [h]
theorem bookN_step {s : S} {l : List Bk} {n : Nat} {b : Bk} (h : l[n]? = some b) : bookN s l (n + 1) = book (bookN s l n) b := by
  show (match l[n]? with | some b => book (bookN s l n) b | none => bookN s l n) = _
  rw [h]

theorem inv_openN (as : List ByteArray) (f : Nat → Bool) : ∀ n, Inv (openN as f n)
  | 0 => inv_empty
  | n + 1 => by
    unfold openN
    split
    · exact inv_open (inv_openN as f n) _ _
    · exact inv_openN as f n
theorem inv_bookN {s : S} (h : Inv s) (l : List Bk) : ∀ n, Inv (bookN s l n)
  | 0 => h
  | n + 1 => by
    unfold bookN
    split
    · exact inv_book (inv_bookN h l n) _
    · exact inv_bookN h l n
theorem inv_filled (as : List ByteArray) (f : Nat → Bool) (l : List Bk) : Inv (filled as f l) := inv_bookN (inv_openN as f _) l _

theorem book_names (s : S) (b : Bk) : (book s b).names = s.names := by
  unfold book; split <;> rfl
theorem bookN_names (s : S) (l : List Bk) : ∀ n, (bookN s l n).names = s.names
  | 0 => rfl
  | n + 1 => by
    unfold bookN
    split
    · rw [book_names, bookN_names s l n]
    · exact bookN_names s l n
theorem credit_names {s s' : S} (h : s'.names = s.names) (a : ByteArray) : credit s' a = credit s a := by unfold credit; rw [h]

theorem book_len (s : S) (b : Bk) : (book s b).books.length ≤ s.books.length + 1 := by
  unfold book; split <;> simp
theorem bookN_len (s : S) (l : List Bk) : ∀ n, (bookN s l n).books.length ≤ s.books.length + n
  | 0 => by simp [bookN]
  | n + 1 => by
    have := bookN_len s l n
    unfold bookN
    split
    · rename_i b _
      have := book_len (bookN s l n) b
      omega
    · omega
theorem open_books (s : S) (a : ByteArray) (c : Bool) : (open_ s a c).2.books = s.books := by
  unfold open_; (repeat' split) <;> rfl
theorem open_len (s : S) (a : ByteArray) (c : Bool) : (open_ s a c).2.names.length ≤ s.names.length + 1 := by
  unfold open_; (repeat' split) <;> simp
theorem openN_books (as : List ByteArray) (f : Nat → Bool) : ∀ n, (openN as f n).books = []
  | 0 => rfl
  | n + 1 => by
    unfold openN
    split
    · rw [open_books, openN_books as f n]
    · exact openN_books as f n
theorem openN_len (as : List ByteArray) (f : Nat → Bool) : ∀ n, (openN as f n).names.length ≤ n
  | 0 => by simp [openN, empty]
  | n + 1 => by
    have := openN_len as f n
    unfold openN
    split
    · rename_i a _
      have := open_len (openN as f n) a (f n)
      omega
    · omega
theorem filled_names (as : List ByteArray) (f : Nat → Bool) (l : List Bk) : (filled as f l).names = (openN as f as.length).names := bookN_names _ _ _
theorem filled_len (as : List ByteArray) (f : Nat → Bool) (l : List Bk) : (filled as f l).books.length ≤ l.length := by
  have := bookN_len (openN as f as.length) l l.length
  rw [openN_books] at this
  unfold filled
  simpa using this

/-- what is open, and with which credit: that of the name's first place -/
theorem openN_credit (as : List ByteArray) (f : Nat → Bool) : ∀ n a d, credit (openN as f n) a = some d → ∃ i, i < n ∧ as[i]? = some a ∧ f i = d ∧ ∀ k < i, as[k]? ≠ some a
  | 0, a, d, h => by simp [openN, empty, credit] at h
  | n + 1, a, d, h => by
    unfold openN at h
    split at h
    · rename_i x hx
      unfold open_ at h
      split at h
      · obtain ⟨i, hi, r⟩ := openN_credit as f n a d h
        exact ⟨i, by omega, r⟩
      · split at h
        · obtain ⟨i, hi, r⟩ := openN_credit as f n a d h
          exact ⟨i, by omega, r⟩
        · split at h
          · obtain ⟨i, hi, r⟩ := openN_credit as f n a d h
            exact ⟨i, by omega, r⟩
          · rename_i hnm hsome _
            simp only at h
            rw [credit_snoc] at h
            cases hc : credit (openN as f n) a with
            | some e =>
              rw [hc] at h
              simp at h
              subst h
              obtain ⟨i, hi, r⟩ := openN_credit as f n a e hc
              exact ⟨i, by omega, r⟩
            | none =>
              rw [hc] at h
              simp only at h
              split at h
              · rename_i hxa
                subst hxa
                simp at h
                refine ⟨n, by omega, hx, h, fun k hk hka => ?_⟩
                exact absurd (openN_had as f hka (by simpa using hnm) n hk (by
                  have := openN_len as f n
                  omega)) (by rw [hc]; simp)
              · cases h
    · obtain ⟨i, hi, r⟩ := openN_credit as f n a d h
      exact ⟨i, by omega, r⟩
where
  openN_had (as : List ByteArray) (f : Nat → Bool) {k : Nat} {a : ByteArray} (hk : as[k]? = some a) (hn : nm a = true) : ∀ n, k < n → (openN as f n).names.length < 100 → (credit (openN as f n) a).isSome = true := by
    intro n
    induction n with
    | zero => intro h; omega
    | succ n ih =>
      intro hlt hlen
      by_cases hkn : k = n
      · subst hkn
        rw [openN_step hk] at hlen ⊢
        unfold open_ at hlen ⊢
        rw [if_neg (by simp [hn])] at hlen ⊢
        split
        · assumption
        · rename_i h1
          rw [if_neg h1] at hlen
          split
          · rename_i h2; rw [if_pos h2] at hlen; simp only at hlen; omega
          · simp only
            rw [credit_snoc]
            split
            · rfl
            · simp
      · have h2 : (openN as f n).names.length ≤ (openN as f (n + 1)).names.length := by
          show _ ≤ (match as[n]? with | some a => (open_ (openN as f n) a (f n)).2 | none => openN as f n).names.length
          split
          · unfold open_
            repeat' split
            all_goals simp
          · exact Nat.le_refl _
        have h3 := ih (by omega) (by omega)
        show (credit (match as[n]? with | some a => (open_ (openN as f n) a (f n)).2 | none => openN as f n) a).isSome = true
        split
        · unfold open_
          split
          · exact h3
          · split
            · exact h3
            · split
              · exact h3
              · simp only
                rw [credit_snoc]
                cases hc : credit (openN as f n) a with
                | none => rw [hc] at h3; simp at h3
                | some d => rfl
        · exact h3


/-! ### the laws -/

/-- what accounts have together -/
def sumF (g : ByteArray → Int) : List ByteArray → Int
  | [] => 0
  | a :: l => g a + sumF g l

theorem sumF_append (g : ByteArray → Int) (l m : List ByteArray) : sumF g (l ++ m) = sumF g l + sumF g m := by
  induction l with
  | nil => simp [sumF]
  | cons a l ih => simp only [List.cons_append, sumF, ih]; omega
theorem sumF_congr {g h : ByteArray → Int} {l : List ByteArray} (e : ∀ a ∈ l, g a = h a) : sumF g l = sumF h l := by
  induction l with
  | nil => rfl
  | cons a l ih => simp only [sumF, e a List.mem_cons_self, ih (fun x hx => e x (List.mem_cons_of_mem _ hx))]
theorem sumF_add (g h : ByteArray → Int) (l : List ByteArray) : sumF (fun a => g a + h a) l = sumF g l + sumF h l := by
  induction l with
  | nil => rfl
  | cons a l ih => simp only [sumF, ih]; omega
theorem sumF_zero {l : List ByteArray} : sumF (fun _ => 0) l = 0 := by
  induction l with
  | nil => rfl
  | cons a l ih => simp only [sumF, ih]; rfl
theorem sumF_one {l : List ByteArray} (h : l.Nodup) {x : ByteArray} (hx : x ∈ l) (n : Int) : sumF (fun a => if x = a then n else 0) l = n := by
  induction l with
  | nil => cases hx
  | cons a l ih =>
    rw [List.nodup_cons] at h
    simp only [sumF]
    by_cases e : x = a
    · subst e
      rw [if_pos rfl, sumF_congr (h := fun _ => 0) (fun a ha => if_neg (fun e => h.1 (by rw [e]; exact ha))), sumF_zero]
      omega
    · rw [if_neg e, ih h.2 ((List.mem_cons.1 hx).resolve_left e)]
      omega
theorem sumF_posts {l : List ByteArray} (h : l.Nodup) : ∀ {ps : List (ByteArray × Int)}, (∀ p ∈ ps, p.1 ∈ l) → sumF (sumP ps) l = total ps
  | [], _ => sumF_zero
  | p :: ps, hp => by
    have e : sumF (sumP (p :: ps)) l = sumF (fun a => (if p.1 = a then p.2 else 0) + sumP ps a) l := rfl
    rw [e, sumF_add, sumF_one h (hp p List.mem_cons_self), sumF_posts h (fun q hq => hp q (List.mem_cons_of_mem _ hq))]
    rfl
theorem sumF_books {l : List ByteArray} (h : l.Nodup) : ∀ {bs : List Bk}, (∀ b ∈ bs, total b.posts = 0 ∧ ∀ p ∈ b.posts, p.1 ∈ l) → sumF (sumB bs) l = 0
  | [], _ => sumF_zero
  | b :: bs, hb => by
    have e : sumF (sumB (b :: bs)) l = sumF (fun a => sumP b.posts a + sumB bs a) l := rfl
    rw [e, sumF_add, sumF_posts h (hb b List.mem_cons_self).2, (hb b List.mem_cons_self).1, sumF_books h (fun q hq => hb q (List.mem_cons_of_mem _ hq))]
    rfl

theorem credit_mem {as : List ByteArray} {f : Nat → Bool} {l : List Bk} {a : ByteArray} (h : (credit (filled as f l) a).isSome = true) : a ∈ as := by
  rw [credit_names (filled_names as f l)] at h
  cases hc : credit (openN as f as.length) a with
  | none => rw [hc] at h; simp at h
  | some d =>
    obtain ⟨i, _, hi, _⟩ := openN_credit as f _ a d hc
    exact List.mem_of_getElem? hi

theorem balAt_closed {s : S} (hI : Inv s) (a : ByteArray) (t : Int) : balAt s a t = sumAt s.books a t := by
  unfold balAt
  split
  · rfl
  · rename_i hn
    unfold sumAt
    rw [sumB_none]
    intro b hb p hp e
    exact hn (by rw [← e]; exact hI.isOpen b ((List.mem_filter.1 hb).1) p hp)

/-- P37.2 -/
theorem zero_sum {as : List ByteArray} (h : as.Nodup) (f : Nat → Bool) (l : List Bk) (t : Int) : sumF (fun a => balAt (filled as f l) a t) as = 0 := by
  have hI := inv_filled as f l
  rw [sumF_congr (h := sumB ((filled as f l).books.filter fun b => decide (b.at_ ≤ t))) (fun a _ => balAt_closed hI a t)]
  refine sumF_books h fun b hb => ⟨hI.zero b ((List.mem_filter.1 hb).1), fun p hp => credit_mem (hI.isOpen b ((List.mem_filter.1 hb).1) p hp)⟩

/-- P37.3 -/
theorem not_below {as : List ByteArray} {f : Nat → Bool} {l : List Bk} {t : Int} {i : Nat} {a : ByteArray} (hi : as[i]? = some a) (hk : ∀ k < i, as[k]? ≠ some a) (hf : f i = false) : 0 ≤ balAt (filled as f l) a t := by
  refine balAt_above (inv_filled as f l) (fun hc => ?_) t
  rw [credit_names (filled_names as f l)] at hc
  obtain ⟨j, hj, h1, h2, h3⟩ := openN_credit as f _ a true hc
  rcases Nat.lt_trichotomy i j with h | h | h
  · exact h3 i h hi
  · subst h; rw [hf] at h2; cases h2
  · exact hk j h h1

theorem book_ok {s : S} {b : Bk} (h : code s b = 0) : book s b = ⟨s.names, s.books ++ [b]⟩ := by unfold book; rw [if_pos h]
theorem book_no {s : S} {b : Bk} (h : code s b ≠ 0) : book s b = s := by unfold book; rw [if_neg h]

/-- P37.4 -/
theorem bal_book {s : S} (hI : Inv s) {b : Bk} (h : code s b = 0) (a : ByteArray) (t : Int) : balAt (book s b) a t = balAt s a t + if b.at_ ≤ t then sumP b.posts a else 0 := by
  have hI2 := inv_book hI b
  rw [balAt_closed hI2, balAt_closed hI, book_ok h, sumAt_snoc]
theorem bal_book_max {s : S} (hI : Inv s) {b : Bk} (h : code s b = 0) (a : ByteArray) : balAt (book s b) a 144001439 = balAt s a 144001439 + sumP b.posts a := by
  rw [bal_book hI h, if_pos (formed_at (code_zero h).1).2]
/-- P37.5 -/
theorem bal_before {s : S} (hI : Inv s) {b : Bk} (h : code s b = 0) (a : ByteArray) {t : Int} (ht : t < b.at_) : balAt (book s b) a t = balAt s a t := by
  rw [bal_book hI h, if_neg (by omega)]; omega
theorem bal_after {s : S} (hI : Inv s) {z : Bk} (hz : s.books.getLast? = some z) {t : Int} (ht : z.at_ ≤ t) (a : ByteArray) : balAt s a t = bal s a := by
  refine balAt_last fun b hb => ?_
  obtain ⟨ys, hys⟩ := List.getLast?_eq_some_iff.1 hz
  have ho := hI.order
  rw [hys] at hb ho
  rcases List.mem_append.1 hb with hb | hb
  · have := (List.pairwise_append.1 ho).2.2 b hb z (by simp)
    omega
  · simp at hb; subst hb; exact ht
theorem bal_none {s : S} (h : s.books = []) (a : ByteArray) : bal s a = 0 := by
  unfold bal; rw [h]; split <;> rfl

/-- P37.6 -/
def undo : ByteArray := ⟨#[117, 110, 100, 111]⟩
def back (b : Bk) : Bk := ⟨undo, b.at_, b.posts.map fun p => (p.1, -p.2)⟩

theorem total_neg (l : List (ByteArray × Int)) : total (l.map fun p => (p.1, -p.2)) = -total l := by
  induction l with
  | nil => rfl
  | cons p l ih => simp only [List.map_cons, total, ih]; omega
theorem sumP_neg (l : List (ByteArray × Int)) (a : ByteArray) : sumP (l.map fun p => (p.1, -p.2)) a = -sumP l a := by
  induction l with
  | nil => rfl
  | cons p l ih => simp only [List.map_cons, sumP, ih]; split <;> omega
theorem formed_back {b : Bk} (h : formed b = true) : formed (back b) = true := by
  unfold formed back at *
  simp only [Bool.and_eq_true, decide_eq_true_eq, List.all_eq_true, okUnits, List.length_map, List.map_map] at *
  obtain ⟨⟨⟨⟨⟨⟨h1, h2⟩, h3⟩, h4⟩, h5⟩, h6⟩, h7⟩ := h
  refine ⟨⟨⟨⟨⟨⟨by decide +kernel, h2⟩, h3⟩, h4⟩, h5⟩, fun p hp => ?_⟩, h7⟩
  obtain ⟨q, hq, rfl⟩ := List.mem_map.1 hp
  have := h6 q hq
  simp only
  omega

theorem code_back {s : S} (hI : Inv s) {b : Bk} (h : code s b = 0) (hl : s.books.length + 1 < 2000) :
    code (book s b) (back b) = if (book s b).books.any (fun z => decide (z.id = undo)) then 9 else 0 := by
  obtain ⟨h1, h2, h3, h4, h5, h6, h7⟩ := code_zero h
  unfold code
  rw [if_neg (by rw [formed_back h1]; simp)]
  have e : ((book s b).books.any fun z => decide (z.id = (back b).id)) = (book s b).books.any (fun z => decide (z.id = undo)) := rfl
  rw [e]
  split
  · rfl
  · rw [book_ok h]
    have he : early ⟨s.names, s.books ++ [b]⟩ (back b) = false := by
      unfold early back
      simp
    have hk : lacks ⟨s.names, s.books ++ [b]⟩ (back b).posts = false := by
      unfold lacks
      rw [List.any_eq_false]
      intro p hp
      obtain ⟨q, hq, rfl⟩ := List.mem_map.1 hp
      have := lacks_false h4 q hq
      have e : credit ⟨s.names, s.books ++ [b]⟩ q.1 = credit s q.1 := rfl
      simp only [e]
      cases hc : credit s q.1 with
      | none => rw [hc] at this; simp at this
      | some d => simp
    have ht : total (back b).posts = 0 := by
      unfold back
      rw [total_neg, h6]; rfl
    have hb : below ⟨s.names, s.books ++ [b]⟩ (back b).posts = false := by
      unfold below
      rw [List.any_eq_false]
      intro p hp
      obtain ⟨q, hq, rfl⟩ := List.mem_map.1 hp
      have e : credit ⟨s.names, s.books ++ [b]⟩ q.1 = credit s q.1 := rfl
      simp only [e]
      by_cases hc : credit s q.1 = some false
      · have h8 := hI.above s.books.length q.1 hc
        rw [List.take_length] at h8
        have h9 : sumB (s.books ++ [b]) q.1 = sumB s.books q.1 + q.2 := by
          rw [sumB_append]
          simp only [sumB, Int.add_zero]
          rw [sumP_one (formed_nodup h1) hq]
        rw [h9]
        simp
        intro _
        omega
      · simp [hc]
    rw [he, hk, ht, hb]
    simp
    omega

theorem bal_undone {s : S} (hI : Inv s) {b : Bk} (h : code s b = 0) (h2 : code (book s b) (back b) = 0) (a : ByteArray) : balAt (book (book s b) (back b)) a 144001439 = balAt s a 144001439 := by
  rw [bal_book_max (inv_book hI b) h2, bal_book_max hI h]
  unfold back
  simp only
  rw [sumP_neg]
  omega

end Lg
