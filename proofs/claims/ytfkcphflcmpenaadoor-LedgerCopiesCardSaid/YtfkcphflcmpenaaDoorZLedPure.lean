/-
  The plain ledger: accounts in the order of opening, bookings in the order of booking. NO PROGRAM IN THIS TEXT.
-/
import Derived.Test.YtfkcphflcmpenaaDoorZLexPure
namespace Lg

structure Bk where
  id : ByteArray
  at_ : Int
  posts : List (ByteArray × Int)
  deriving DecidableEq

structure S where
  names : List (ByteArray × Bool)
  books : List Bk
  deriving DecidableEq

def empty : S := ⟨[], []⟩

/-- is this a name? -/
def nm (t : ByteArray) : Bool := t.data.toList.all Lx.isWord && decide (0 < t.size) && decide (t.size ≤ 24) && t.data.toList.head?.any Lx.isLetter

/-- what an account has of postings, of bookings, of bookings up to an instant; what postings add up to -/
def sumP : List (ByteArray × Int) → ByteArray → Int
  | [], _ => 0
  | p :: l, a => (if p.1 = a then p.2 else 0) + sumP l a
def sumB : List Bk → ByteArray → Int
  | [], _ => 0
  | b :: l, a => sumP b.posts a + sumB l a
def sumAt (l : List Bk) (a : ByteArray) (t : Int) : Int := sumB (l.filter fun b => decide (b.at_ ≤ t)) a
def total : List (ByteArray × Int) → Int
  | [] => 0
  | p :: l => p.2 + total l

def credit (s : S) (a : ByteArray) : Option Bool := (s.names.find? fun p => decide (p.1 = a)).map Prod.snd

def okUnits (n : Int) : Bool := decide (n ≠ 0) && decide (-1000000000000 ≤ n) && decide (n ≤ 1000000000000)

def formed (b : Bk) : Bool := nm b.id && decide (0 ≤ b.at_) && decide (b.at_ ≤ 144001439) && decide (2 ≤ b.posts.length) && decide (b.posts.length ≤ 12) && b.posts.all (fun p => okUnits p.2) && decide (b.posts.map Prod.fst).Nodup

def open_ (s : S) (a : ByteArray) (c : Bool) : Int × S :=
  if nm a = false then (1, s) else if (credit s a).isSome then (9, s) else if 100 ≤ s.names.length then (2, s) else (0, ⟨s.names ++ [(a, c)], s.books⟩)

/-- comes a booking too early? -/
def early (s : S) (b : Bk) : Bool := match s.books.getLast? with | some z => decide (b.at_ < z.at_) | none => false
/-- is an account of a booking not open? -/
def lacks (s : S) (l : List (ByteArray × Int)) : Bool := l.any fun p => (credit s p.1).isNone
/-- would an account without credit be below 0? -/
def below (s : S) (l : List (ByteArray × Int)) : Bool := l.any fun p => credit s p.1 == some false && decide (sumB s.books p.1 + p.2 < 0)

def code (s : S) (b : Bk) : Int :=
  if formed b = false then 1 else if s.books.any (fun z => decide (z.id = b.id)) then 9 else if early s b then 14 else if lacks s b.posts then 11
  else if 2000 ≤ s.books.length then 28 else if total b.posts ≠ 0 then 21 else if below s b.posts then 21 else 0

def book (s : S) (b : Bk) : S := if code s b = 0 then ⟨s.names, s.books ++ [b]⟩ else s

def bal (s : S) (a : ByteArray) : Int := if (credit s a).isSome then sumB s.books a else 0
def balAt (s : S) (a : ByteArray) (t : Int) : Int := if (credit s a).isSome then sumAt s.books a t else 0
def errOf (s : S) (a : ByteArray) : Int := if (credit s a).isSome then 0 else 11

/-! ### sums -/

theorem sumP_append (l m : List (ByteArray × Int)) (a : ByteArray) : sumP (l ++ m) a = sumP l a + sumP m a := by
  induction l with
  | nil => simp [sumP]
  | cons p l ih => simp only [List.cons_append, sumP, ih]; omega
theorem sumB_append (l m : List Bk) (a : ByteArray) : sumB (l ++ m) a = sumB l a + sumB m a := by
  induction l with
  | nil => simp [sumB]
  | cons p l ih => simp only [List.cons_append, sumB, ih]; omega
theorem total_append (l m : List (ByteArray × Int)) : total (l ++ m) = total l + total m := by
  induction l with
  | nil => simp [total]
  | cons p l ih => simp only [List.cons_append, total, ih]; omega
theorem sumP_none {l : List (ByteArray × Int)} {a : ByteArray} (h : ∀ p ∈ l, p.1 ≠ a) : sumP l a = 0 := by
  induction l with
  | nil => rfl
  | cons p l ih => simp only [sumP, if_neg (h p List.mem_cons_self), ih (fun q hq => h q (List.mem_cons_of_mem _ hq))]; omega
theorem sumB_none {l : List Bk} {a : ByteArray} (h : ∀ b ∈ l, ∀ p ∈ b.posts, p.1 ≠ a) : sumB l a = 0 := by
  induction l with
  | nil => rfl
  | cons b l ih => simp only [sumB, sumP_none (h b List.mem_cons_self), ih (fun q hq => h q (List.mem_cons_of_mem _ hq))]; omega
/-- where each account stands once, what it has is its units -/
theorem sumP_one {l : List (ByteArray × Int)} (h : (l.map Prod.fst).Nodup) {p : ByteArray × Int} (hp : p ∈ l) : sumP l p.1 = p.2 := by
  induction l with
  | nil => cases hp
  | cons q l ih =>
    rw [List.map_cons, List.nodup_cons] at h
    rcases List.mem_cons.1 hp with rfl | hp
    · simp only [sumP, if_pos]
      rw [sumP_none (fun x hx e => h.1 (by rw [← e]; exact List.mem_map_of_mem hx))]
      omega
    · have hne : q.1 ≠ p.1 := fun e => h.1 (by rw [e]; exact List.mem_map_of_mem hp)
      simp only [sumP, if_neg hne, ih h.2 hp]
      omega

def unitsOk (l : List (ByteArray × Int)) : Prop := l.length ≤ 12 ∧ ∀ p ∈ l, -1000000000000 ≤ p.2 ∧ p.2 ≤ 1000000000000

theorem sumP_bound {l : List (ByteArray × Int)} (h : ∀ p ∈ l, -1000000000000 ≤ p.2 ∧ p.2 ≤ 1000000000000) (a : ByteArray) : -(1000000000000 * (l.length : Int)) ≤ sumP l a ∧ sumP l a ≤ 1000000000000 * (l.length : Int) := by
  induction l with
  | nil => simp [sumP]
  | cons p l ih =>
    have h1 := h p List.mem_cons_self
    have h2 := ih (fun q hq => h q (List.mem_cons_of_mem _ hq))
    simp only [sumP, List.length_cons]
    split <;> omega
theorem total_bound {l : List (ByteArray × Int)} (h : ∀ p ∈ l, -1000000000000 ≤ p.2 ∧ p.2 ≤ 1000000000000) : -(1000000000000 * (l.length : Int)) ≤ total l ∧ total l ≤ 1000000000000 * (l.length : Int) := by
  induction l with
  | nil => simp [total]
  | cons p l ih =>
    have h1 := h p List.mem_cons_self
    have h2 := ih (fun q hq => h q (List.mem_cons_of_mem _ hq))
    simp only [total, List.length_cons]
    omega
theorem sumB_bound {l : List Bk} (h : ∀ b ∈ l, unitsOk b.posts) (a : ByteArray) : -(12000000000000 * (l.length : Int)) ≤ sumB l a ∧ sumB l a ≤ 12000000000000 * (l.length : Int) := by
  induction l with
  | nil => simp [sumB]
  | cons b l ih =>
    have h1 := h b List.mem_cons_self
    have h2 := ih (fun q hq => h q (List.mem_cons_of_mem _ hq))
    have h3 := sumP_bound h1.2 a
    have h4 : (b.posts.length : Int) ≤ 12 := by have := h1.1; omega
    simp only [sumB, List.length_cons]
    omega

theorem formed_units {b : Bk} (h : formed b = true) : unitsOk b.posts := by
  unfold formed at h
  simp only [Bool.and_eq_true, decide_eq_true_eq, List.all_eq_true, okUnits] at h
  exact ⟨h.1.1.2, fun p hp => ⟨(h.1.2 p hp).1.2, (h.1.2 p hp).2⟩⟩
theorem formed_nodup {b : Bk} (h : formed b = true) : (b.posts.map Prod.fst).Nodup := by
  unfold formed at h
  simp only [Bool.and_eq_true, decide_eq_true_eq] at h
  exact h.2
theorem formed_at {b : Bk} (h : formed b = true) : 0 ≤ b.at_ ∧ b.at_ ≤ 144001439 := by
  unfold formed at h
  simp only [Bool.and_eq_true, decide_eq_true_eq] at h
  exact ⟨h.1.1.1.1.1.2, h.1.1.1.1.2⟩
theorem formed_len {b : Bk} (h : formed b = true) : 2 ≤ b.posts.length ∧ b.posts.length ≤ 12 := by
  unfold formed at h
  simp only [Bool.and_eq_true, decide_eq_true_eq] at h
  exact ⟨h.1.1.1.2, h.1.1.2⟩

/-! ### what holds of each ledger -/

structure Inv (s : S) : Prop where
  names : (s.names.map Prod.fst).Nodup
  namesOk : ∀ p ∈ s.names, nm p.1 = true
  few : s.names.length ≤ 100
  fewB : s.books.length ≤ 2000
  formed : ∀ b ∈ s.books, formed b = true
  zero : ∀ b ∈ s.books, total b.posts = 0
  isOpen : ∀ b ∈ s.books, ∀ p ∈ b.posts, (credit s p.1).isSome
  order : s.books.Pairwise fun x y => x.at_ ≤ y.at_
  above : ∀ n a, credit s a = some false → 0 ≤ sumB (s.books.take n) a

theorem inv_empty : Inv empty := ⟨by simp [empty], by simp [empty], by simp [empty], by simp [empty], by simp [empty], by simp [empty], by simp [empty], by simp [empty], by simp [empty, sumB]⟩

theorem credit_snoc {s : S} {a : ByteArray} {c : Bool} (x : ByteArray) : credit ⟨s.names ++ [(a, c)], s.books⟩ x = match credit s x with | some d => some d | none => if a = x then some c else none := by
  unfold credit
  simp only [List.find?_append]
  cases h : s.names.find? fun p => decide (p.1 = x) with
  | some p => simp
  | none =>
    simp only [Option.map_none]
    by_cases e : a = x
    · simp [e]
    · simp [e]

theorem credit_isSome {s : S} {a : ByteArray} : (credit s a).isSome = true ↔ a ∈ s.names.map Prod.fst := by
  unfold credit
  rw [Option.isSome_map, List.find?_isSome]
  simp only [decide_eq_true_eq, List.mem_map]

theorem inv_open {s : S} (h : Inv s) (a : ByteArray) (c : Bool) : Inv (open_ s a c).2 := by
  unfold open_
  split
  · exact h
  · rename_i hn
    split
    · exact h
    · rename_i hc
      split
      · exact h
      · rename_i hl
        have hnone : credit s a = none := by
          cases hx : credit s a with
          | none => rfl
          | some d => rw [hx] at hc; simp at hc
        refine ⟨?_, ?_, ?_, h.fewB, h.formed, h.zero, ?_, h.order, ?_⟩
        · rw [List.map_append, List.nodup_append]
          refine ⟨h.names, by simp, fun x hx y hy e => ?_⟩
          simp at hy
          subst hy; subst e
          exact hc (credit_isSome.2 hx)
        · intro p hp
          rcases List.mem_append.1 hp with hp | hp
          · exact h.namesOk p hp
          · simp at hp; subst hp; simpa using hn
        · rw [List.length_append]; simp; omega
        · intro b hb p hp
          rw [credit_snoc]
          have := h.isOpen b hb p hp
          cases hx : credit s p.1 with
          | none => rw [hx] at this; simp at this
          | some d => rfl
        · intro n x hx
          rw [credit_snoc] at hx
          cases hy : credit s x with
          | some d => rw [hy] at hx; simp at hx; subst hx; exact h.above n x hy
          | none =>
            have : sumB (s.books.take n) x = 0 := sumB_none (fun b hb p hp e => by
              have := h.isOpen b (List.mem_of_mem_take hb) p hp
              rw [e, hy] at this
              simp at this)
            show 0 ≤ sumB (s.books.take n) x
            rw [this]
            exact Int.le_refl _

theorem code_zero {s : S} {b : Bk} (h : code s b = 0) : formed b = true ∧ s.books.any (fun z => decide (z.id = b.id)) = false ∧ early s b = false ∧ lacks s b.posts = false ∧ s.books.length < 2000 ∧ total b.posts = 0 ∧ below s b.posts = false := by
  unfold code at h
  split at h
  · cases h
  · split at h
    · cases h
    · split at h
      · cases h
      · split at h
        · cases h
        · split at h
          · cases h
          · split at h
            · cases h
            · split at h
              · cases h
              · rename_i h1 h2 h3 h4 h5 h6 h7
                exact ⟨by simpa using h1, by simpa using h2, by simpa using h3, by simpa using h4, by omega, by simpa using h6, by simpa using h7⟩

theorem lacks_false {s : S} {l : List (ByteArray × Int)} (h : lacks s l = false) : ∀ p ∈ l, (credit s p.1).isSome = true := by
  intro p hp
  unfold lacks at h
  rw [List.any_eq_false] at h
  have := h p hp
  cases hx : credit s p.1 with
  | none => rw [hx] at this; simp at this
  | some d => rfl

theorem below_false {s : S} {l : List (ByteArray × Int)} (h : below s l = false) : ∀ p ∈ l, credit s p.1 = some false → 0 ≤ sumB s.books p.1 + p.2 := by
  intro p hp hc
  unfold below at h
  rw [List.any_eq_false] at h
  have := h p hp
  simp [hc] at this
  exact this

theorem early_false {s : S} (hs : s.books.Pairwise fun x y => x.at_ ≤ y.at_) {b : Bk} (h : early s b = false) : ∀ z ∈ s.books, z.at_ ≤ b.at_ := by
  intro z hz
  unfold early at h
  cases hl : s.books.getLast? with
  | none => rw [List.getLast?_eq_none_iff] at hl; rw [hl] at hz; cases hz
  | some y =>
    rw [hl] at h
    simp at h
    obtain ⟨ys, hys⟩ := List.getLast?_eq_some_iff.1 hl
    rw [hys] at hz hs
    rcases List.mem_append.1 hz with hz | hz
    · have := (List.pairwise_append.1 hs).2.2 z hz y (by simp)
      omega
    · simp at hz; subst hz; exact h

theorem inv_book {s : S} (h : Inv s) (b : Bk) : Inv (book s b) := by
  unfold book
  split
  · rename_i hc
    obtain ⟨h1, h2, h3, h4, h5, h6, h7⟩ := code_zero hc
    refine ⟨h.names, h.namesOk, h.few, ?_, ?_, ?_, ?_, ?_, ?_⟩
    · rw [List.length_append]; simp; omega
    · intro x hx
      rcases List.mem_append.1 hx with hx | hx
      · exact h.formed x hx
      · simp at hx; subst hx; exact h1
    · intro x hx
      rcases List.mem_append.1 hx with hx | hx
      · exact h.zero x hx
      · simp at hx; subst hx; exact h6
    · intro x hx p hp
      rcases List.mem_append.1 hx with hx | hx
      · exact h.isOpen x hx p hp
      · simp at hx; subst hx; exact lacks_false h4 p hp
    · show (s.books ++ [b]).Pairwise _
      rw [List.pairwise_append]
      refine ⟨h.order, by simp, fun x hx y hy => ?_⟩
      simp at hy; subst hy
      exact early_false h.order h3 x hx
    · intro n a ha
      have ha' : credit s a = some false := ha
      show 0 ≤ sumB ((s.books ++ [b]).take n) a
      by_cases hn : n ≤ s.books.length
      · rw [List.take_append_of_le_length hn]
        exact h.above n a ha'
      · rw [List.take_of_length_le (by rw [List.length_append]; simp; omega), sumB_append]
        have h8 := h.above s.books.length a ha'
        rw [List.take_length] at h8
        simp only [sumB, Int.add_zero]
        by_cases hm : a ∈ b.posts.map Prod.fst
        · obtain ⟨p, hp, rfl⟩ := List.mem_map.1 hm
          rw [sumP_one (formed_nodup h1) hp]
          exact below_false h7 p hp ha'
        · rw [sumP_none (fun p hp e => hm (by rw [← e]; exact List.mem_map_of_mem hp))]
          omega
  · exact h

/-! ### a balance at an instant -/

/-- what comes behind an instant -/
def after (l : List Bk) (t : Int) : List Bk := l.filter fun b => decide (t < b.at_)

theorem sumB_split (l : List Bk) (a : ByteArray) (t : Int) : sumB l a = sumAt l a t + sumB (after l t) a := by
  induction l with
  | nil => rfl
  | cons b l ih =>
    unfold sumAt after at *
    by_cases h : b.at_ ≤ t
    · rw [List.filter_cons_of_pos (by simpa using h), List.filter_cons_of_neg (by simp; omega)]
      simp only [sumB, ih]; omega
    · rw [List.filter_cons_of_neg (by simpa using h), List.filter_cons_of_pos (by simp; omega)]
      simp only [sumB, ih]; omega

theorem sumAt_all {l : List Bk} {a : ByteArray} {t : Int} (h : ∀ b ∈ l, b.at_ ≤ t) : sumAt l a t = sumB l a := by
  unfold sumAt
  rw [List.filter_eq_self.2 (fun b hb => by simpa using h b hb)]

/-- in order, those up to an instant come first -/
theorem filter_take {l : List Bk} (h : l.Pairwise fun x y => x.at_ ≤ y.at_) (t : Int) : ∃ n, l.filter (fun b => decide (b.at_ ≤ t)) = l.take n := by
  induction l with
  | nil => exact ⟨0, rfl⟩
  | cons b l ih =>
    rw [List.pairwise_cons] at h
    by_cases hb : b.at_ ≤ t
    · obtain ⟨n, hn⟩ := ih h.2
      exact ⟨n + 1, by rw [List.filter_cons_of_pos (by simpa using hb), hn, List.take_succ_cons]⟩
    · refine ⟨0, ?_⟩
      rw [List.filter_cons_of_neg (by simpa using hb), List.take_zero, List.filter_eq_nil_iff]
      intro c hc
      have := h.1 c hc
      simp; omega

theorem balAt_above {s : S} (h : Inv s) {a : ByteArray} (hc : credit s a ≠ some true) (t : Int) : 0 ≤ balAt s a t := by
  unfold balAt
  cases hx : credit s a with
  | none => simp
  | some d =>
    cases d with
    | true => exact absurd hx hc
    | false =>
      simp only [Option.isSome_some, if_true]
      obtain ⟨n, hn⟩ := filter_take h.order t
      unfold sumAt
      rw [hn]
      exact h.above n a hx

theorem balAt_last {s : S} {a : ByteArray} {t : Int} (h : ∀ b ∈ s.books, b.at_ ≤ t) : balAt s a t = bal s a := by
  unfold balAt bal
  rw [sumAt_all h]

theorem balAt_max {s : S} (h : Inv s) (a : ByteArray) : balAt s a 144001439 = bal s a := balAt_last fun b hb => (formed_at (h.formed b hb)).2

/-- a further booking -/
theorem sumAt_snoc (l : List Bk) (b : Bk) (a : ByteArray) (t : Int) : sumAt (l ++ [b]) a t = sumAt l a t + if b.at_ ≤ t then sumP b.posts a else 0 := by
  unfold sumAt
  rw [List.filter_append, sumB_append]
  by_cases h : b.at_ ≤ t
  · rw [List.filter_cons_of_pos (by simpa using h), if_pos h]; simp [sumB]
  · rw [List.filter_cons_of_neg (by simpa using h), if_neg h]; simp [sumB]

end Lg
