/-
  The plain ledger's laws: names, zero sums, history, undoing. NO PROGRAM IN THIS TEXT.
-/
import Derived.Test.YtfkcphflcmpenaaDoorZLexLaws
import Derived.Test.YtfkcphflcmpenaaDoorZLedPure
namespace Lg
open Lx

/-! ### names -/

/-- what 'identifier' asks of the tokens of a text -/
def identP (t : ByteArray) : Prop := (lex t.data.toList).2.1 = 0 ∧ ∃ o n, (lex t.data.toList).1 = [(o, ⟨1, n, t.data.toList⟩)]

theorem ident_nm {t : ByteArray} (h : t.size ≤ 5000) : identP t ↔ nm t = true := by
  have hl : t.data.toList.length = t.size := by simp
  unfold identP
  rw [lex_lu (by omega)]
  constructor
  · rintro ⟨h1, o, n, h2⟩
    cases hu : lu t.data.toList with
    | error x => rw [hu] at h2; simp at h2
    | ok l =>
      rw [hu] at h2
      simp only at h2
      have hok := lu_ok hu (o, ⟨1, n, t.data.toList⟩) (by rw [h2]; simp)
      rcases hok with ⟨_, _, k3, k4, c, s, k5, k6⟩ | ⟨k, _⟩ | ⟨k, _⟩ | ⟨k, _⟩
      · simp only at k3 k4 k5
        unfold nm
        rw [k4, k5]
        have : 0 < t.size := by rw [← hl, k5]; simp
        simp [k6]; omega
      · simp at k
      · simp at k
      · simp at k
  · intro hn
    unfold nm at hn
    simp only [Bool.and_eq_true, decide_eq_true_eq] at hn
    obtain ⟨⟨⟨k1, k2⟩, k3⟩, k4⟩ := hn
    have hok : TokOK ⟨1, 0, t.data.toList⟩ := by
      refine .inl ⟨rfl, rfl, by simp only; omega, k1, ?_⟩
      cases hc : t.data.toList with
      | nil => rw [hc] at hl; simp at hl; omega
      | cons c s => rw [hc] at k4; simp at k4; exact ⟨c, s, rfl, k4⟩
    have := lu_tok (r := []) hok (fun z hz => by simp at hz)
    have hw : (⟨1, 0, t.data.toList⟩ : Tk).written = t.data.toList := by simp [Tk.written]
    have h0 : lu [] = .ok [] := lu_gaps rfl
    rw [hw, List.append_nil, h0] at this
    rw [this]
    exact ⟨rfl, 0, 0, rfl⟩

/-! ### filling -/

def openN (as : List ByteArray) (f : Nat → Bool) : Nat → S
  | 0 => empty
  | n + 1 => match as[n]? with | some a => (open_ (openN as f n) a (f n)).2 | none => openN as f n
def bookN (s : S) (l : List Bk) : Nat → S
  | 0 => s
  | n + 1 => match l[n]? with | some b => book (bookN s l n) b | none => bookN s l n

def filled (as : List ByteArray) (f : Nat → Bool) (l : List Bk) : S := bookN (openN as f as.length) l l.length

theorem openN_step {as : List ByteArray} {f : Nat → Bool} {n : Nat} {a : ByteArray} (h : as[n]? = some a) : openN as f (n + 1) = (open_ (openN as f n) a (f n)).2 := by
  show (match as[n]? with | some a => (open_ (openN as f n) a (f n)).2 | none => openN as f n) = _
  rw [h]
theorem bookN_step {s : S} {l : List Bk} {n : Nat} {b : Bk} (h : l[n]? = some b) : bookN s l (n + 1) = book (bookN s l n) b := by
  show (match l[n]? with | some b => book (bookN s l n) b | none => bookN s l n) = _
  rw [h]

theorem inv_openN (as : List ByteArray) (f : Nat → Bool) : ∀ n, Inv (openN as f n)
  | 0 => inv_empty
  | n + 1 => by
    unfold openN
    split
    · exact inv_open (inv_openN as f n) _ _
    · exact inv_openN as f n
theorem inv_bookN {s : S} (h : Inv s) (l : List Bk) : ∀ n, Inv (bookN s l n)
  | 0 => h
  | n + 1 => by
    unfold bookN
    split
    · exact inv_book (inv_bookN h l n) _
    · exact inv_bookN h l n
theorem inv_filled (as : List ByteArray) (f : Nat → Bool) (l : List Bk) : Inv (filled as f l) := inv_bookN (inv_openN as f _) l _

theorem book_names (s : S) (b : Bk) : (book s b).names = s.names := by
  unfold book; split <;> rfl
theorem bookN_names (s : S) (l : List Bk) : ∀ n, (bookN s l n).names = s.names
  | 0 => rfl
  | n + 1 => by
    unfold bookN
    split
    · rw [book_names, bookN_names s l n]
    · exact bookN_names s l n
theorem credit_names {s s' : S} (h : s'.names = s.names) (a : ByteArray) : credit s' a = credit s a := by unfold credit; rw [h]

theorem book_len (s : S) (b : Bk) : (book s b).books.length ≤ s.books.length + 1 := by
  unfold book; split <;> simp
theorem bookN_len (s : S) (l : List Bk) : ∀ n, (bookN s l n).books.length ≤ s.books.length + n
  | 0 => by simp [bookN]
  | n + 1 => by
    have := bookN_len s l n
    unfold bookN
    split
    · rename_i b _
      have := book_len (bookN s l n) b
      omega
    · omega
theorem open_books (s : S) (a : ByteArray) (c : Bool) : (open_ s a c).2.books = s.books := by
  unfold open_; (repeat' split) <;> rfl
theorem open_len (s : S) (a : ByteArray) (c : Bool) : (open_ s a c).2.names.length ≤ s.names.length + 1 := by
  unfold open_; (repeat' split) <;> simp
theorem openN_books (as : List ByteArray) (f : Nat → Bool) : ∀ n, (openN as f n).books = []
  | 0 => rfl
  | n + 1 => by
    unfold openN
    split
    · rw [open_books, openN_books as f n]
    · exact openN_books as f n
theorem openN_len (as : List ByteArray) (f : Nat → Bool) : ∀ n, (openN as f n).names.length ≤ n
  | 0 => by simp [openN, empty]
  | n + 1 => by
    have := openN_len as f n
    unfold openN
    split
    · rename_i a _
      have := open_len (openN as f n) a (f n)
      omega
    · omega
theorem filled_names (as : List ByteArray) (f : Nat → Bool) (l : List Bk) : (filled as f l).names = (openN as f as.length).names := bookN_names _ _ _
theorem filled_len (as : List ByteArray) (f : Nat → Bool) (l : List Bk) : (filled as f l).books.length ≤ l.length := by
  have := bookN_len (openN as f as.length) l l.length
  rw [openN_books] at this
  unfold filled
  simpa using this

/-- what is open, and with which credit: that of the name's first place -/
theorem openN_credit (as : List ByteArray) (f : Nat → Bool) : ∀ n a d, credit (openN as f n) a = some d → ∃ i, i < n ∧ as[i]? = some a ∧ f i = d ∧ ∀ k < i, as[k]? ≠ some a
  | 0, a, d, h => by simp [openN, empty, credit] at h
  | n + 1, a, d, h => by
    unfold openN at h
    split at h
    · rename_i x hx
      unfold open_ at h
      split at h
      · obtain ⟨i, hi, r⟩ := openN_credit as f n a d h
        exact ⟨i, by omega, r⟩
      · split at h
        · obtain ⟨i, hi, r⟩ := openN_credit as f n a d h
          exact ⟨i, by omega, r⟩
        · split at h
          · obtain ⟨i, hi, r⟩ := openN_credit as f n a d h
            exact ⟨i, by omega, r⟩
          · rename_i hnm hsome _
            simp only at h
            rw [credit_snoc] at h
            cases hc : credit (openN as f n) a with
            | some e =>
              rw [hc] at h
              simp at h
              subst h
              obtain ⟨i, hi, r⟩ := openN_credit as f n a e hc
              exact ⟨i, by omega, r⟩
            | none =>
              rw [hc] at h
              simp only at h
              split at h
              · rename_i hxa
                subst hxa
                simp at h
                refine ⟨n, by omega, hx, h, fun k hk hka => ?_⟩
                exact absurd (openN_had as f hka (by simpa using hnm) n hk (by
                  have := openN_len as f n
                  omega)) (by rw [hc]; simp)
              · cases h
    · obtain ⟨i, hi, r⟩ := openN_credit as f n a d h
      exact ⟨i, by omega, r⟩
where
  openN_had (as : List ByteArray) (f : Nat → Bool) {k : Nat} {a : ByteArray} (hk : as[k]? = some a) (hn : nm a = true) : ∀ n, k < n → (openN as f n).names.length < 100 → (credit (openN as f n) a).isSome = true := by
    intro n
    induction n with
    | zero => intro h; omega
    | succ n ih =>
      intro hlt hlen
      by_cases hkn : k = n
      · subst hkn
        rw [openN_step hk] at hlen ⊢
        unfold open_ at hlen ⊢
        rw [if_neg (by simp [hn])] at hlen ⊢
        split
        · assumption
        · rename_i h1
          rw [if_neg h1] at hlen
          split
          · rename_i h2; rw [if_pos h2] at hlen; simp only at hlen; omega
          · simp only
            rw [credit_snoc]
            split
            · rfl
            · simp
      · have h2 : (openN as f n).names.length ≤ (openN as f (n + 1)).names.length := by
          show _ ≤ (match as[n]? with | some a => (open_ (openN as f n) a (f n)).2 | none => openN as f n).names.length
          split
          · unfold open_
            repeat' split
            all_goals simp
          · exact Nat.le_refl _
        have h3 := ih (by omega) (by omega)
        show (credit (match as[n]? with | some a => (open_ (openN as f n) a (f n)).2 | none => openN as f n) a).isSome = true
        split
        · unfold open_
          split
          · exact h3
          · split
            · exact h3
            · split
              · exact h3
              · simp only
                rw [credit_snoc]
                cases hc : credit (openN as f n) a with
                | none => rw [hc] at h3; simp at h3
                | some d => rfl
        · exact h3


/-! ### the laws -/

/-- what accounts have together -/
def sumF (g : ByteArray → Int) : List ByteArray → Int
  | [] => 0
  | a :: l => g a + sumF g l

theorem sumF_append (g : ByteArray → Int) (l m : List ByteArray) : sumF g (l ++ m) = sumF g l + sumF g m := by
  induction l with
  | nil => simp [sumF]
  | cons a l ih => simp only [List.cons_append, sumF, ih]; omega
theorem sumF_congr {g h : ByteArray → Int} {l : List ByteArray} (e : ∀ a ∈ l, g a = h a) : sumF g l = sumF h l := by
  induction l with
  | nil => rfl
  | cons a l ih => simp only [sumF, e a List.mem_cons_self, ih (fun x hx => e x (List.mem_cons_of_mem _ hx))]
theorem sumF_add (g h : ByteArray → Int) (l : List ByteArray) : sumF (fun a => g a + h a) l = sumF g l + sumF h l := by
  induction l with
  | nil => rfl
  | cons a l ih => simp only [sumF, ih]; omega
theorem sumF_zero {l : List ByteArray} : sumF (fun _ => 0) l = 0 := by
  induction l with
  | nil => rfl
  | cons a l ih => simp only [sumF, ih]; rfl
theorem sumF_one {l : List ByteArray} (h : l.Nodup) {x : ByteArray} (hx : x ∈ l) (n : Int) : sumF (fun a => if x = a then n else 0) l = n := by
  induction l with
  | nil => cases hx
  | cons a l ih =>
    rw [List.nodup_cons] at h
    simp only [sumF]
    by_cases e : x = a
    · subst e
      rw [if_pos rfl, sumF_congr (h := fun _ => 0) (fun a ha => if_neg (fun e => h.1 (by rw [e]; exact ha))), sumF_zero]
      omega
    · rw [if_neg e, ih h.2 ((List.mem_cons.1 hx).resolve_left e)]
      omega
theorem sumF_posts {l : List ByteArray} (h : l.Nodup) : ∀ {ps : List (ByteArray × Int)}, (∀ p ∈ ps, p.1 ∈ l) → sumF (sumP ps) l = total ps
  | [], _ => sumF_zero
  | p :: ps, hp => by
    have e : sumF (sumP (p :: ps)) l = sumF (fun a => (if p.1 = a then p.2 else 0) + sumP ps a) l := rfl
    rw [e, sumF_add, sumF_one h (hp p List.mem_cons_self), sumF_posts h (fun q hq => hp q (List.mem_cons_of_mem _ hq))]
    rfl
theorem sumF_books {l : List ByteArray} (h : l.Nodup) : ∀ {bs : List Bk}, (∀ b ∈ bs, total b.posts = 0 ∧ ∀ p ∈ b.posts, p.1 ∈ l) → sumF (sumB bs) l = 0
  | [], _ => sumF_zero
  | b :: bs, hb => by
    have e : sumF (sumB (b :: bs)) l = sumF (fun a => sumP b.posts a + sumB bs a) l := rfl
    rw [e, sumF_add, sumF_posts h (hb b List.mem_cons_self).2, (hb b List.mem_cons_self).1, sumF_books h (fun q hq => hb q (List.mem_cons_of_mem _ hq))]
    rfl

theorem credit_mem {as : List ByteArray} {f : Nat → Bool} {l : List Bk} {a : ByteArray} (h : (credit (filled as f l) a).isSome = true) : a ∈ as := by
  rw [credit_names (filled_names as f l)] at h
  cases hc : credit (openN as f as.length) a with
  | none => rw [hc] at h; simp at h
  | some d =>
    obtain ⟨i, _, hi, _⟩ := openN_credit as f _ a d hc
    exact List.mem_of_getElem? hi

theorem balAt_closed {s : S} (hI : Inv s) (a : ByteArray) (t : Int) : balAt s a t = sumAt s.books a t := by
  unfold balAt
  split
  · rfl
  · rename_i hn
    unfold sumAt
    rw [sumB_none]
    intro b hb p hp e
    exact hn (by rw [← e]; exact hI.isOpen b ((List.mem_filter.1 hb).1) p hp)

/-- P37.2 -/
theorem zero_sum {as : List ByteArray} (h : as.Nodup) (f : Nat → Bool) (l : List Bk) (t : Int) : sumF (fun a => balAt (filled as f l) a t) as = 0 := by
  have hI := inv_filled as f l
  rw [sumF_congr (h := sumB ((filled as f l).books.filter fun b => decide (b.at_ ≤ t))) (fun a _ => balAt_closed hI a t)]
  refine sumF_books h fun b hb => ⟨hI.zero b ((List.mem_filter.1 hb).1), fun p hp => credit_mem (hI.isOpen b ((List.mem_filter.1 hb).1) p hp)⟩

/-- P37.3 -/
theorem not_below {as : List ByteArray} {f : Nat → Bool} {l : List Bk} {t : Int} {i : Nat} {a : ByteArray} (hi : as[i]? = some a) (hk : ∀ k < i, as[k]? ≠ some a) (hf : f i = false) : 0 ≤ balAt (filled as f l) a t := by
  refine balAt_above (inv_filled as f l) (fun hc => ?_) t
  rw [credit_names (filled_names as f l)] at hc
  obtain ⟨j, hj, h1, h2, h3⟩ := openN_credit as f _ a true hc
  rcases Nat.lt_trichotomy i j with h | h | h
  · exact h3 i h hi
  · subst h; rw [hf] at h2; cases h2
  · exact hk j h h1

theorem book_ok {s : S} {b : Bk} (h : code s b = 0) : book s b = ⟨s.names, s.books ++ [b]⟩ := by unfold book; rw [if_pos h]
theorem book_no {s : S} {b : Bk} (h : code s b ≠ 0) : book s b = s := by unfold book; rw [if_neg h]

/-- P37.4 -/
theorem bal_book {s : S} (hI : Inv s) {b : Bk} (h : code s b = 0) (a : ByteArray) (t : Int) : balAt (book s b) a t = balAt s a t + if b.at_ ≤ t then sumP b.posts a else 0 := by
  have hI2 := inv_book hI b
  rw [balAt_closed hI2, balAt_closed hI, book_ok h, sumAt_snoc]
theorem bal_book_max {s : S} (hI : Inv s) {b : Bk} (h : code s b = 0) (a : ByteArray) : balAt (book s b) a 144001439 = balAt s a 144001439 + sumP b.posts a := by
  rw [bal_book hI h, if_pos (formed_at (code_zero h).1).2]
/-- P37.5 -/
theorem bal_before {s : S} (hI : Inv s) {b : Bk} (h : code s b = 0) (a : ByteArray) {t : Int} (ht : t < b.at_) : balAt (book s b) a t = balAt s a t := by
  rw [bal_book hI h, if_neg (by omega)]; omega
theorem bal_after {s : S} (hI : Inv s) {z : Bk} (hz : s.books.getLast? = some z) {t : Int} (ht : z.at_ ≤ t) (a : ByteArray) : balAt s a t = bal s a := by
  refine balAt_last fun b hb => ?_
  obtain ⟨ys, hys⟩ := List.getLast?_eq_some_iff.1 hz
  have ho := hI.order
  rw [hys] at hb ho
  rcases List.mem_append.1 hb with hb | hb
  · have := (List.pairwise_append.1 ho).2.2 b hb z (by simp)
    omega
  · simp at hb; subst hb; exact ht
theorem bal_none {s : S} (h : s.books = []) (a : ByteArray) : bal s a = 0 := by
  unfold bal; rw [h]; split <;> rfl

/-- P37.6 -/
def undo : ByteArray := ⟨#[117, 110, 100, 111]⟩
def back (b : Bk) : Bk := ⟨undo, b.at_, b.posts.map fun p => (p.1, -p.2)⟩

theorem total_neg (l : List (ByteArray × Int)) : total (l.map fun p => (p.1, -p.2)) = -total l := by
  induction l with
  | nil => rfl
  | cons p l ih => simp only [List.map_cons, total, ih]; omega
theorem sumP_neg (l : List (ByteArray × Int)) (a : ByteArray) : sumP (l.map fun p => (p.1, -p.2)) a = -sumP l a := by
  induction l with
  | nil => rfl
  | cons p l ih => simp only [List.map_cons, sumP, ih]; split <;> omega
theorem formed_back {b : Bk} (h : formed b = true) : formed (back b) = true := by
  unfold formed back at *
  simp only [Bool.and_eq_true, decide_eq_true_eq, List.all_eq_true, okUnits, List.length_map, List.map_map] at *
  obtain ⟨⟨⟨⟨⟨⟨h1, h2⟩, h3⟩, h4⟩, h5⟩, h6⟩, h7⟩ := h
  refine ⟨⟨⟨⟨⟨⟨by decide +kernel, h2⟩, h3⟩, h4⟩, h5⟩, fun p hp => ?_⟩, h7⟩
  obtain ⟨q, hq, rfl⟩ := List.mem_map.1 hp
  have := h6 q hq
  simp only
  omega

theorem code_back {s : S} (hI : Inv s) {b : Bk} (h : code s b = 0) (hl : s.books.length + 1 < 2000) :
    code (book s b) (back b) = if (book s b).books.any (fun z => decide (z.id = undo)) then 9 else 0 := by
  obtain ⟨h1, h2, h3, h4, h5, h6, h7⟩ := code_zero h
  unfold code
  rw [if_neg (by rw [formed_back h1]; simp)]
  have e : ((book s b).books.any fun z => decide (z.id = (back b).id)) = (book s b).books.any (fun z => decide (z.id = undo)) := rfl
  rw [e]
  split
  · rfl
  · rw [book_ok h]
    have he : early ⟨s.names, s.books ++ [b]⟩ (back b) = false := by
      unfold early back
      simp
    have hk : lacks ⟨s.names, s.books ++ [b]⟩ (back b).posts = false := by
      unfold lacks
      rw [List.any_eq_false]
      intro p hp
      obtain ⟨q, hq, rfl⟩ := List.mem_map.1 hp
      have := lacks_false h4 q hq
      have e : credit ⟨s.names, s.books ++ [b]⟩ q.1 = credit s q.1 := rfl
      simp only [e]
      cases hc : credit s q.1 with
      | none => rw [hc] at this; simp at this
      | some d => simp
    have ht : total (back b).posts = 0 := by
      unfold back
      rw [total_neg, h6]; rfl
    have hb : below ⟨s.names, s.books ++ [b]⟩ (back b).posts = false := by
      unfold below
      rw [List.any_eq_false]
      intro p hp
      obtain ⟨q, hq, rfl⟩ := List.mem_map.1 hp
      have e : credit ⟨s.names, s.books ++ [b]⟩ q.1 = credit s q.1 := rfl
      simp only [e]
      by_cases hc : credit s q.1 = some false
      · have h8 := hI.above s.books.length q.1 hc
        rw [List.take_length] at h8
        have h9 : sumB (s.books ++ [b]) q.1 = sumB s.books q.1 + q.2 := by
          rw [sumB_append]
          simp only [sumB, Int.add_zero]
          rw [sumP_one (formed_nodup h1) hq]
        rw [h9]
        simp
        intro _
        omega
      · simp [hc]
    rw [he, hk, ht, hb]
    simp
    omega

theorem bal_undone {s : S} (hI : Inv s) {b : Bk} (h : code s b = 0) (h2 : code (book s b) (back b) = 0) (a : ByteArray) : balAt (book (book s b) (back b)) a 144001439 = balAt s a 144001439 := by
  rw [bal_book_max (inv_book hI b) h2, bal_book_max hI h]
  unfold back
  simp only
  rw [sumP_neg]
  omega

end Lg
