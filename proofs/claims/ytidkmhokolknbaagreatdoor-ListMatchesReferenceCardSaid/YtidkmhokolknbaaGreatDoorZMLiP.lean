/-
  Several texts in one: ZLiPure, ZLiName, ZLiText, ZLiHd, ZLiLaws, ZLiRef. Conditions: as each law says.
-/
import Derived.Test.YtidkmhokolknbaaGreatDoorZScrPure
import Derived.Test.YtidkmhokolknbaaGreatDoorZLexMore
import Derived.Test.YtidkmhokolknbaaGreatDoorZMFaP
namespace Li

structure Nm where
  script : Int
  words : List (List UInt8)
deriving DecidableEq
structure En where
  id : List UInt8
  names : List Nm
deriving DecidableEq
structure Ls where
  en : En
  from_ : Int
  to_ : Int
  void : Bool
deriving DecidableEq
structure Ch where
  kind : Int
  id : List UInt8
  en : En
  at_ : Int
deriving DecidableEq

/-- is this a name of one script? -/
def nmOk (n : Nm) : Bool := n.words.all (fun w => (Sc.lets n.script w).isSome) && decide (0 < n.words.length) && decide (n.words.length ≤ 6)
/-- is this an identifier? -/
def ident (t : List UInt8) : Bool := t.all Lx.isWord && decide (0 < t.length) && decide (t.length ≤ 24) && t.head?.any Lx.isLetter
def inst (t : Int) : Bool := decide (0 ≤ t) && decide (t ≤ 144001439)
def proper (e : En) : Bool := ident e.id && decide (0 < e.names.length) && decide (e.names.length ≤ 8) && e.names.all nmOk
def elOk (x : Ls) : Bool := proper x.en && inst x.from_ && (decide (x.to_ = -1) || (inst x.to_ && decide (x.from_ < x.to_)))
def ids (l : List Ls) : List (List UInt8) := l.map fun x => x.en.id
def properL (l : List Ls) : Bool := l.all elOk && decide ((ids l).Nodup) && decide (l.length ≤ 400)

def withEntry (c : Ch) : Bool := decide (c.kind = 1) || decide (c.kind = 3)
def dated (c : Ch) : Bool := decide (c.kind = 1) || decide (c.kind = 2)
def formed (c : Ch) : Bool :=
  ident c.id && decide (1 ≤ c.kind) && decide (c.kind ≤ 4) &&
  (if withEntry c then decide (c.en.id = c.id) && proper c.en else decide (c.en.id = []) && decide (c.en.names = [])) &&
  (if dated c then inst c.at_ else decide (c.at_ = 0))

/-- where an Id stands -/
def find : List Ls → List UInt8 → Option Nat
  | [], _ => none
  | x :: l, a => if x.en.id = a then some 0 else (find l a).map (· + 1)
/-- an element after a change of it -/
def upd (x : Ls) (c : Ch) : Ls := if c.kind = 2 then { x with to_ := c.at_ } else if c.kind = 3 then { x with en := c.en } else { x with void := true }
/-- what a change of an element is refused with; 0: nothing -/
def refusal (x : Ls) (c : Ch) : Int :=
  if x.void = true ∨ (c.kind = 2 ∧ x.to_ ≠ -1) then 12 else if c.kind = 2 ∧ c.at_ ≤ x.from_ then 14 else 0
def apply (l : List Ls) (c : Ch) : List Ls × Int :=
  if properL l && formed c then
    if c.kind = 1 then
      match find l c.id with
      | some _ => ([], 9)
      | none => if l.length = 400 then ([], 2) else (l ++ [⟨c.en, c.at_, -1, false⟩], 0)
    else
      match find l c.id with
      | none => ([], 11)
      | some k =>
        match l[k]? with
        | none => ([], 0)
        | some x => if refusal x c ≠ 0 then ([], refusal x c) else (l.set k (upd x c), 0)
  else ([], 1)
def live (t : Int) (x : Ls) : Bool := !x.void && decide (x.from_ ≤ t) && (decide (x.to_ = -1) || decide (t < x.to_))
def at_ (l : List Ls) (t : Int) : List En := if properL l && inst t then (l.filter (live t)).map Ls.en else []
/-- the list after changes, the error of each -/
def run : List Ls → List Ch → List Ls × List Int
  | l, [] => (l, [])
  | l, c :: cs =>
    let r := apply l c
    let l' := if r.2 = 0 then r.1 else l
    ((run l' cs).1, r.2 :: (run l' cs).2)

/-! ### finding -/

theorem find_some : ∀ {l : List Ls} {a : List UInt8} {k : Nat}, find l a = some k → ∃ x, l[k]? = some x ∧ x.en.id = a
  | [], _, _, h => by cases h
  | x :: l, a, k, h => by
    unfold find at h
    split at h
    · rename_i hx
      cases h
      exact ⟨x, rfl, hx⟩
    · cases hf : find l a with
      | none => rw [hf] at h; cases h
      | some j =>
        rw [hf] at h
        cases h
        obtain ⟨y, h1, h2⟩ := find_some hf
        exact ⟨y, by simpa using h1, h2⟩
theorem find_none : ∀ {l : List Ls} {a : List UInt8}, find l a = none ↔ a ∉ ids l
  | [], a => by simp [find, ids]
  | x :: l, a => by
    unfold find
    by_cases hx : x.en.id = a
    · rw [if_pos hx]
      simp [ids, hx]
    · rw [if_neg hx]
      have ih := find_none (l := l) (a := a)
      cases hf : find l a with
      | none => simp [ids, Ne.symm hx]; simpa [ids] using ih.1 hf
      | some j =>
        simp only [Option.map_some, reduceCtorEq, false_iff, Classical.not_not]
        have : ¬ (a ∉ ids l) := fun h => by rw [ih.2 h] at hf; cases hf
        simp [ids]
        right
        simpa [ids] using Classical.not_not.1 this
theorem find_at {l : List Ls} (hn : (ids l).Nodup) {k : Nat} {x : Ls} (h : l[k]? = some x) : find l x.en.id = some k := by
  cases hf : find l x.en.id with
  | none => exact absurd (List.mem_map_of_mem (f := fun x : Ls => x.en.id) (List.mem_of_getElem? h)) (find_none.1 hf)
  | some j =>
    obtain ⟨y, h1, h2⟩ := find_some hf
    have e1 : (ids l)[j]? = some x.en.id := by unfold ids; rw [List.getElem?_map, h1]; exact congrArg some h2
    have e2 : (ids l)[k]? = some x.en.id := by unfold ids; rw [List.getElem?_map, h]; rfl
    have hj : j < (ids l).length := (List.getElem?_eq_some_iff.1 e1).1
    rw [(List.getElem?_inj hj hn).1 (e1.trans e2.symm)]

/-! ### what is possible -/

theorem properL_parts {l : List Ls} (h : properL l = true) : (∀ x ∈ l, elOk x = true) ∧ (ids l).Nodup ∧ l.length ≤ 400 := by
  unfold properL at h
  simp only [Bool.and_eq_true, decide_eq_true_eq, List.all_eq_true] at h
  exact ⟨h.1.1, h.1.2, h.2⟩
theorem properL_mk {l : List Ls} (h1 : ∀ x ∈ l, elOk x = true) (h2 : (ids l).Nodup) (h3 : l.length ≤ 400) : properL l = true := by
  unfold properL
  simp only [Bool.and_eq_true, decide_eq_true_eq, List.all_eq_true]
  exact ⟨⟨h1, h2⟩, h3⟩
theorem formed_parts {c : Ch} (h : formed c = true) : ident c.id = true ∧ 1 ≤ c.kind ∧ c.kind ≤ 4 ∧ (withEntry c = true → c.en.id = c.id ∧ proper c.en = true) ∧ (withEntry c = false → c.en.id = [] ∧ c.en.names = []) ∧ (dated c = true → inst c.at_ = true) ∧ (dated c = false → c.at_ = 0) := by
  unfold formed at h
  simp only [Bool.and_eq_true, decide_eq_true_eq] at h
  obtain ⟨⟨⟨⟨h1, h2⟩, h3⟩, h4⟩, h5⟩ := h
  refine ⟨h1, h2, h3, fun hw => ?_, fun hw => ?_, fun hw => ?_, fun hw => ?_⟩
  · rw [if_pos hw] at h4; simpa using h4
  · rw [if_neg (by rw [hw]; decide)] at h4; simpa using h4
  · rw [if_pos hw] at h5; exact h5
  · rw [if_neg (by rw [hw]; decide)] at h5; simpa using h5

/-- the ways in which a change is possible -/
theorem apply_ok {l : List Ls} {c : Ch} (h : (apply l c).2 = 0) : properL l = true ∧ formed c = true ∧
    ((c.kind = 1 ∧ c.id ∉ ids l ∧ l.length < 400 ∧ (apply l c).1 = l ++ [⟨c.en, c.at_, -1, false⟩]) ∨
     (c.kind ≠ 1 ∧ ∃ k x, find l c.id = some k ∧ l[k]? = some x ∧ x.en.id = c.id ∧ refusal x c = 0 ∧ (apply l c).1 = l.set k (upd x c))) := by
  unfold apply at h ⊢
  by_cases hp : (properL l && formed c) = true
  · rw [if_pos hp] at h ⊢
    have hp2 : properL l = true ∧ formed c = true := by simpa using hp
    refine ⟨hp2.1, hp2.2, ?_⟩
    have hl := (properL_parts hp2.1).2.2
    by_cases hk : c.kind = 1
    · rw [if_pos hk] at h ⊢
      left
      cases hf : find l c.id with
      | some k => rw [hf] at h; exact absurd h (show ¬ (9 : Int) = 0 by decide)
      | none =>
        rw [hf] at h
        simp only at h ⊢
        split at h
        · exact absurd h (by decide)
        · rename_i h4
          rw [if_neg h4]
          exact ⟨hk, find_none.1 hf, by omega, rfl⟩
    · rw [if_neg hk] at h ⊢
      right
      cases hf : find l c.id with
      | none => rw [hf] at h; exact absurd h (show ¬ (11 : Int) = 0 by decide)
      | some k =>
        obtain ⟨x, hx, hid⟩ := find_some hf
        rw [hf] at h
        simp only [hx] at h ⊢
        split at h
        · rename_i hr; exact absurd h hr
        · rename_i hr
          rw [if_neg hr]
          exact ⟨hk, k, x, rfl, hx, hid, Classical.not_not.1 hr, rfl⟩
  · rw [if_neg hp] at h
    exact absurd h (by decide)

theorem upd_id {x : Ls} {c : Ch} (hf : formed c = true) (hx : x.en.id = c.id) : (upd x c).en.id = c.id := by
  unfold upd
  split
  · exact hx
  · split
    · rename_i h3
      exact ((formed_parts hf).2.2.2.1 (by unfold withEntry; rw [h3]; rfl)).1
    · exact hx
theorem refusal_zero {x : Ls} {c : Ch} (h : refusal x c = 0) : x.void = false ∧ (c.kind = 2 → x.to_ = -1 ∧ x.from_ < c.at_) := by
  unfold refusal at h
  split at h
  · exact absurd h (by decide)
  · rename_i h1
    split at h
    · exact absurd h (by decide)
    · rename_i h2
      have hv : x.void = false := by
        cases hv : x.void with
        | false => rfl
        | true => exact absurd (.inl hv) h1
      refine ⟨hv, fun hk => ⟨?_, ?_⟩⟩
      · apply Classical.byContradiction; intro h3; exact h1 (.inr ⟨hk, h3⟩)
      · apply Classical.byContradiction; intro h3; exact h2 ⟨hk, by omega⟩
theorem upd_ok {x : Ls} {c : Ch} (hf : formed c = true) (hx : elOk x = true) (hr : refusal x c = 0) : elOk (upd x c) = true := by
  obtain ⟨h1, h2⟩ := refusal_zero hr
  have hd := (formed_parts hf).2.2.2.2.2.1
  unfold elOk at hx ⊢
  unfold upd
  simp only [Bool.and_eq_true, Bool.or_eq_true, decide_eq_true_eq] at hx ⊢
  obtain ⟨⟨hx1, hx2⟩, hx3⟩ := hx
  split
  · rename_i hk
    exact ⟨⟨hx1, hx2⟩, .inr ⟨hd (by unfold dated; rw [hk]; rfl), (h2 hk).2⟩⟩
  · split
    · rename_i h3
      exact ⟨⟨((formed_parts hf).2.2.2.1 (by unfold withEntry; rw [h3]; rfl)).2, hx2⟩, hx3⟩
    · exact ⟨⟨hx1, hx2⟩, hx3⟩
theorem ids_set {l : List Ls} {k : Nat} {x y : Ls} (h : l[k]? = some x) (he : y.en.id = x.en.id) : ids (l.set k y) = ids l := by
  unfold ids
  rw [List.map_set]
  apply List.ext_getElem?
  intro j
  by_cases hj : k = j
  · subst hj
    rw [List.getElem?_set_self (by rw [List.length_map]; exact (List.getElem?_eq_some_iff.1 h).1), List.getElem?_map, h]
    exact congrArg some he
  · rw [List.getElem?_set_ne hj]
/-- what a change leads to is proper -/
theorem apply_proper {l : List Ls} {c : Ch} (h : (apply l c).2 = 0) : properL (apply l c).1 = true := by
  obtain ⟨hp, hf, hw⟩ := apply_ok h
  obtain ⟨h1, h2, h3⟩ := properL_parts hp
  rcases hw with ⟨hk, hn, hl, e⟩ | ⟨hk, k, x, hfi, hx, hid, hr, e⟩
  · rw [e]
    have hwe : withEntry c = true := by unfold withEntry; rw [hk]; rfl
    obtain ⟨hid, hpr⟩ := (formed_parts hf).2.2.2.1 hwe
    refine properL_mk (fun y hy => ?_) ?_ (by rw [List.length_append]; simp; omega)
    · rcases List.mem_append.1 hy with hy | hy
      · exact h1 y hy
      · simp at hy
        subst hy
        unfold elOk
        simp only [hpr, (formed_parts hf).2.2.2.2.2.1 (by unfold dated; rw [hk]; rfl), decide_true, Bool.true_or, Bool.and_self]
    · unfold ids at h2 hn ⊢
      rw [List.map_append, List.nodup_append]
      refine ⟨h2, by simp, fun a ha b hb e => ?_⟩
      simp at hb
      subst hb; subst e
      rw [hid] at ha
      exact hn ha
  · rw [e]
    refine properL_mk (fun y hy => ?_) ?_ (by rw [List.length_set]; exact h3)
    · rcases List.mem_or_eq_of_mem_set hy with hy | hy
      · exact h1 y hy
      · rw [hy]; exact upd_ok hf (h1 x (List.mem_of_getElem? hx)) hr
    · rw [ids_set hx ((upd_id hf hid).trans hid.symm)]; exact h2

end Li

namespace Li
open Sc

def tPlain : List UInt8 := [112, 108, 97, 105, 110]
def tCased : List UInt8 := [99, 97, 115, 101, 100]
def tAbjad : List UInt8 := [97, 98, 106, 97, 100]
def tSyllab : List UInt8 := [115, 121, 108, 108, 97, 98]
def title (k : Int) : List UInt8 := if k = 1 then tPlain else if k = 2 then tCased else if k = 3 then tAbjad else if k = 4 then tSyllab else []
def scriptOf (t : List UInt8) : Int := if t = tPlain then 1 else if t = tCased then 2 else if t = tAbjad then 3 else if t = tSyllab then 4 else 0
def joinW : List (List UInt8) → List UInt8
  | [] => []
  | x :: l => x ++ l.flatMap fun y => 32 :: y
def nameText (n : Nm) : List UInt8 := title n.script ++ 58 :: joinW n.words

def split58 : List UInt8 → Option (List UInt8 × List UInt8)
  | [] => none
  | c :: s => if c = 58 then some ([], s) else (split58 s).map fun p => (c :: p.1, p.2)
def wordsP (k : Int) : Nat → List UInt8 → List (List UInt8) → Option (List (List UInt8))
  | 0, _, ws => some ws
  | f + 1, s, ws =>
    if s = [] then some ws
    else if 12 < (cuts k s).1.length ∨ ((cuts k s).1 ≠ [] ∧ ws.length = 6) then none
    else
      match (cuts k s).2 with
      | [] => some (if (cuts k s).1 = [] then ws else ws ++ [(cuts k s).1.flatten])
      | c :: r => if c = 32 then wordsP k f r (if (cuts k s).1 = [] then ws else ws ++ [(cuts k s).1.flatten]) else none
/-- what a text of a name is read to -/
def nameP (s : List UInt8) : Option Nm :=
  if 20000 < s.length then none
  else match split58 s with
    | none => none
    | some (t, r) =>
      if scriptOf t = 0 then none
      else match wordsP (scriptOf t) (r.length + 1) r [] with
        | none => none
        | some ws => if ws = [] then none else some ⟨scriptOf t, ws⟩

theorem len_blank (k : Int) (r : List UInt8) : len k (32 :: r) = 0 := by
  have h : ∀ set : List UInt8, set.contains 32 = false → among (32 :: r) 0 set = false := fun set hs => by unfold among; simpa using hs
  have h2 : among ((32 :: r).map low) 0 small = false := by unfold among; rw [List.map_cons]; simp only [List.getElem?_cons_zero]; decide
  unfold len
  rw [h small (by decide), h abj (by decide), h ons (by decide), h vow (by decide), h [110] (by decide), h2]
  simp
theorem among_app {s r : List UInt8} {i : Nat} {set : List UInt8} (hs : set.contains 32 = false) (hi : i ≤ s.length) : among (s ++ 32 :: r) i set = among s i set := by
  unfold among
  by_cases h : i < s.length
  · rw [List.getElem?_append_left h]
  · have : i = s.length := by omega
    subst this
    rw [List.getElem?_append_right (Nat.le_refl _), List.getElem?_eq_none (Nat.le_refl _), Nat.sub_self]
    exact hs
theorem len_app {s : List UInt8} (h : s ≠ []) (k : Int) (r : List UInt8) : len k (s ++ 32 :: r) = len k s := by
  have h0 : 0 ≤ s.length := Nat.zero_le _
  have h1 : 1 ≤ s.length := List.length_pos_iff.2 h
  have h2 : among ((s ++ 32 :: r).map low) 0 small = among (s.map low) 0 small := by
    cases s with
    | nil => exact absurd rfl h
    | cons c s => rfl
  unfold len
  rw [among_app (set := small) (by decide) h0, among_app (set := abj) (by decide) h0, among_app (set := ons) (by decide) h0, among_app (set := vow) (by decide) h0, among_app (set := vow) (by decide) h1, among_app (set := [110]) (by decide) h0, among_app (set := acc) (by decide) h1, h2]
theorem cuts_app (k : Int) (r : List UInt8) : ∀ (n : Nat) (s : List UInt8), s.length ≤ n → (cuts k s).2 = [] → cuts k (s ++ 32 :: r) = ((cuts k s).1, 32 :: r) := by
  intro n
  induction n with
  | zero =>
    intro s hn _
    have : s = [] := List.length_eq_zero_iff.1 (by omega)
    subst this
    rw [List.nil_append, cuts_stop (len_blank k r)]
    rfl
  | succ n ih =>
    intro s hn h
    by_cases hs : s = []
    · subst hs
      rw [List.nil_append, cuts_stop (len_blank k r)]
      rfl
    · by_cases h0 : len k s = 0
      · rw [cuts_stop h0] at h
        exact absurd h hs
      · have hl := len_le k s
        rw [cuts_step h0] at h ⊢
        have h1 : len k (s ++ 32 :: r) ≠ 0 := by rw [len_app hs]; exact h0
        rw [cuts_step h1, len_app hs, List.take_append_of_le_length hl, List.drop_append_of_le_length hl]
        simp only at h
        rw [ih (s.drop (len k s)) (by simp; omega) h]

theorem lets_cuts {k : Int} {w : List UInt8} (h : (lets k w).isSome = true) : (cuts k w).2 = [] ∧ (cuts k w).1 ≠ [] ∧ (cuts k w).1.length ≤ 12 ∧ (cuts k w).1.flatten = w ∧ w ≠ [] := by
  unfold lets at h
  split at h
  · rename_i hc
    have hj := cuts_join k w.length w (Nat.le_refl _)
    rw [hc.1, List.append_nil] at hj
    refine ⟨hc.1, hc.2.1, hc.2.2, hj, fun e => ?_⟩
    subst e
    exact hc.2.1 rfl
  · cases h
/-- the words are read -/
theorem wordsP_ok {k : Int} : ∀ (l : List (List UInt8)) (ws : List (List UInt8)) (f : Nat), (∀ w ∈ l, (lets k w).isSome = true) → l ≠ [] → ws.length + l.length ≤ 6 → (joinW l).length < f → wordsP k f (joinW l) ws = some (ws ++ l)
  | [], _, _, _, h, _, _ => absurd rfl h
  | w :: l, ws, 0, _, _, _, h => by omega
  | w :: l, ws, f + 1, hw, _, h6, hf => by
    obtain ⟨h1, h2, h3, h4, h5⟩ := lets_cuts (hw w List.mem_cons_self)
    have h6' : ws.length ≠ 6 := by simp at h6; omega
    cases l with
    | nil =>
      have hj : joinW [w] = w := by simp [joinW]
      rw [hj]
      unfold wordsP
      rw [if_neg h5, if_neg (by rintro (h | h); omega; exact h6' h.2), h1]
      simp only [if_neg h2, h4]
    | cons v l =>
      have hj : joinW (w :: v :: l) = w ++ 32 :: joinW (v :: l) := by simp [joinW]
      rw [hj] at hf ⊢
      have hc := cuts_app k (joinW (v :: l)) w.length w (Nat.le_refl _) h1
      unfold wordsP
      rw [if_neg (by simp), hc]
      simp only
      rw [if_neg (by rintro (h | h); omega; exact h6' h.2), if_pos trivial, if_neg h2, h4, wordsP_ok (v :: l) (ws ++ [w]) f (fun x hx => hw x (List.mem_cons_of_mem _ hx)) (by simp) (by simp at h6 ⊢; omega) (by simp at hf ⊢; omega)]
      simp
theorem split_title {t r : List UInt8} (h : (58 : UInt8) ∉ t) : split58 (t ++ 58 :: r) = some (t, r) := by
  induction t with
  | nil => rfl
  | cons c t ih =>
    simp only [List.mem_cons, not_or] at h
    rw [List.cons_append, split58, if_neg (Ne.symm h.1), ih h.2]
    rfl
theorem nmOk_parts {n : Nm} (h : nmOk n = true) : (∀ w ∈ n.words, (lets n.script w).isSome = true) ∧ n.words ≠ [] ∧ n.words.length ≤ 6 := by
  unfold nmOk at h
  simp only [Bool.and_eq_true, decide_eq_true_eq, List.all_eq_true] at h
  exact ⟨h.1.1, fun e => by rw [e] at h; exact absurd h.1.2 (by simp), h.2⟩
theorem lets_script {k : Int} {w : List UInt8} (h : (lets k w).isSome = true) : k = 1 ∨ k = 2 ∨ k = 3 ∨ k = 4 := by
  obtain ⟨h1, h2, -⟩ := lets_cuts h
  by_cases h0 : len k w = 0
  · rw [cuts_stop h0] at h2; exact absurd rfl h2
  · unfold len at h0
    by_cases k1 : k = 1
    · exact .inl k1
    by_cases k2 : k = 2
    · exact .inr (.inl k2)
    by_cases k3 : k = 3
    · exact .inr (.inr (.inl k3))
    by_cases k4 : k = 4
    · exact .inr (.inr (.inr k4))
    rw [if_neg k1, if_neg k2, if_neg k3, if_neg k4] at h0
    exact absurd rfl h0
theorem nm_script {n : Nm} (h : nmOk n = true) : n.script = 1 ∨ n.script = 2 ∨ n.script = 3 ∨ n.script = 4 := by
  obtain ⟨h1, h2, -⟩ := nmOk_parts h
  obtain ⟨w, hw⟩ := List.exists_mem_of_ne_nil _ h2
  exact lets_script (h1 w hw)
theorem title_script {k : Int} (h : k = 1 ∨ k = 2 ∨ k = 3 ∨ k = 4) : scriptOf (title k) = k ∧ (58 : UInt8) ∉ title k ∧ (title k).length ≤ 6 := by
  rcases h with rfl | rfl | rfl | rfl <;> decide
theorem word_len {k : Int} {w : List UInt8} (h : (lets k w).isSome = true) : w.length ≤ 24 := by
  obtain ⟨h1, h2, h3, h4, -⟩ := lets_cuts h
  have key : ∀ (n : Nat) (s : List UInt8), s.length ≤ n → (cuts k s).2 = [] → s.length ≤ 2 * (cuts k s).1.length := by
    intro n
    induction n with
    | zero => intro s hn _; omega
    | succ n ih =>
      intro s hn hs
      by_cases h0 : len k s = 0
      · rw [cuts_stop h0] at hs ⊢
        simp only at hs
        subst hs
        simp
      · rw [cuts_step h0] at hs ⊢
        simp only at hs ⊢
        have := ih (s.drop (len k s)) (by simp; omega) hs
        have h2 := len_two k s
        rw [List.length_drop] at this
        simp only [List.length_cons]
        omega
  have := key _ w (Nat.le_refl _) h1
  omega
theorem joinW_len : ∀ (l : List (List UInt8)), (∀ w ∈ l, w.length ≤ 24) → (joinW l).length ≤ 25 * l.length
  | [], _ => by simp [joinW]
  | [w], h => by have := h w (by simp); simp [joinW]; omega
  | w :: v :: l, h => by
    have h1 := h w (by simp)
    have h2 := joinW_len (v :: l) fun x hx => h x (List.mem_cons_of_mem _ hx)
    have hj : joinW (w :: v :: l) = w ++ 32 :: joinW (v :: l) := by simp [joinW]
    rw [hj]
    simp only [List.length_append, List.length_cons] at h2 ⊢
    omega
theorem nameText_len {n : Nm} (h : nmOk n = true) : (nameText n).length ≤ 160 := by
  obtain ⟨h1, h2, h3⟩ := nmOk_parts h
  have := joinW_len n.words fun w hw => word_len (h1 w hw)
  have := (title_script (nm_script h)).2.2
  unfold nameText
  simp only [List.length_append, List.length_cons]
  omega
/-- a name's text is read to it -/
theorem nameP_text {n : Nm} (h : nmOk n = true) : nameP (nameText n) = some n := by
  obtain ⟨h1, h2, h3⟩ := nmOk_parts h
  obtain ⟨t1, t2, t3⟩ := title_script (nm_script h)
  unfold nameP
  rw [if_neg (by have := nameText_len h; omega)]
  unfold nameText
  rw [split_title t2]
  simp only
  have hk : n.script ≠ 0 := by rcases nm_script h with e | e | e | e <;> rw [e] <;> decide
  rw [t1, if_neg hk, wordsP_ok n.words [] _ h1 h2 (by simpa using h3) (Nat.lt_succ_self _)]
  simp only [List.nil_append, if_neg h2]
end Li
namespace Li
open Sc
theorem small_ge : ∀ c ∈ small, 39 ≤ c.toNat := by decide
theorem acc_ge : ∀ c ∈ acc, 39 ≤ c.toNat := by decide
theorem abj_ge : ∀ c ∈ abj, 39 ≤ c.toNat := by decide
theorem vow_ge : ∀ c ∈ vow, 39 ≤ c.toNat := by decide
theorem ons_ge : ∀ c ∈ ons, 39 ≤ c.toNat := by decide
theorem low_ge {c : UInt8} (h : low c ∈ small) : 39 ≤ c.toNat := by
  have h1 := (small_iff _).1 h
  rw [low_nat] at h1
  split at h1 <;> omega

/-- bytes of a letter are none of the lower ones -/
theorem len_ge {k : Int} {s : List UInt8} : ∀ c ∈ s.take (len k s), 39 ≤ c.toNat := by
  intro c hc
  obtain ⟨i, hi⟩ := List.getElem?_of_mem hc
  rw [List.getElem?_take] at hi
  split at hi
  · rename_i hlt
    have h2 := len_two k s
    have h0 : ∀ {set : List UInt8}, among s 0 set = true → (∀ c ∈ set, 39 ≤ c.toNat) → i = 0 → 39 ≤ c.toNat := by
      intro set h1 h3 h4
      subst h4
      obtain ⟨d, hd, hm⟩ := among_mem h1
      rw [hi] at hd; obtain rfl := Option.some.inj hd; exact h3 _ hm
    have h1' : ∀ {set : List UInt8}, among s 1 set = true → (∀ c ∈ set, 39 ≤ c.toNat) → i = 1 → 39 ≤ c.toNat := by
      intro set h1 h3 h4
      subst h4
      obtain ⟨d, hd, hm⟩ := among_mem h1
      rw [hi] at hd; obtain rfl := Option.some.inj hd; exact h3 _ hm
    have i01 : i = 0 ∨ i = 1 := by omega
    unfold len at hlt
    split at hlt
    · split at hlt
      · rename_i h; exact h0 h small_ge (by omega)
      · omega
    split at hlt
    · split at hlt
      · rename_i h
        rcases i01 with rfl | rfl
        · obtain ⟨d, hd, hm⟩ := among_mem h
          rw [List.getElem?_map, hi] at hd
          obtain rfl := Option.some.inj hd
          exact low_ge hm
        · split at hlt
          · rename_i h3; exact h1' h3 acc_ge rfl
          · omega
      · omega
    split at hlt
    · split at hlt
      · rename_i h; exact h0 h abj_ge (by omega)
      · omega
    split at hlt
    · split at hlt
      · rename_i h
        simp only [Bool.and_eq_true] at h
        rcases i01 with rfl | rfl
        · exact h0 h.1 ons_ge rfl
        · exact h1' h.2 vow_ge rfl
      · split at hlt
        · rename_i h
          simp only [Bool.or_eq_true] at h
          rcases h with h | h
          · exact h0 h vow_ge (by omega)
          · exact h0 h (by decide) (by omega)
        · omega
    · omega
  · cases hi

theorem cuts_ge (k : Int) : ∀ (n : Nat) (s : List UInt8), s.length ≤ n → ∀ l ∈ (cuts k s).1, ∀ c ∈ l, 39 ≤ c.toNat := by
  intro n
  induction n with
  | zero =>
    intro s h l hl
    have : s = [] := List.length_eq_zero_iff.1 (by omega)
    subst this
    cases hl
  | succ n ih =>
    intro s h l hl
    by_cases h0 : len k s = 0
    · rw [cuts_stop h0] at hl; cases hl
    · rw [cuts_step h0] at hl
      simp only [List.mem_cons] at hl
      rcases hl with rfl | hl
      · exact len_ge
      · exact ih _ (by simp; omega) l hl

theorem lets_ge {k : Int} {s : List UInt8} {l : List (List UInt8)} (h : lets k s = some l) : ∀ c ∈ s, 39 ≤ c.toNat := by
  have hj := lets_join h
  unfold lets at h
  split at h
  · obtain rfl := Option.some.inj h
    intro c hc
    rw [← hj, List.mem_flatten] at hc
    obtain ⟨l, hl, hcl⟩ := hc
    exact cuts_ge k _ s (Nat.le_refl _) l hl c hcl
  · cases h

theorem body_of_ge {c : UInt8} (h : 39 ≤ c.toNat) : Lx.inBody c = true := by
  unfold Lx.inBody
  rw [Bool.and_eq_true, bne_iff_ne, bne_iff_ne]
  constructor
  · rintro rfl; exact absurd h (by decide)
  · rintro rfl; exact absurd h (by decide)
theorem nameText_body {n : Nm} (h : nmOk n = true) : (nameText n).all Lx.inBody = true := by
  obtain ⟨h1, -, -⟩ := nmOk_parts h
  rw [List.all_eq_true]
  intro c hc
  unfold nameText at hc
  have hw : ∀ w ∈ n.words, ∀ c ∈ w, Lx.inBody c = true := fun w hw c hcw => by
    have := h1 w hw
    cases hl : lets n.script w with
    | none => rw [hl] at this; cases this
    | some l => exact body_of_ge (lets_ge hl c hcw)
  have hj : ∀ (l : List (List UInt8)), (∀ w ∈ l, ∀ c ∈ w, Lx.inBody c = true) → ∀ c ∈ joinW l, Lx.inBody c = true := by
    intro l hl c hc
    cases l with
    | nil => cases hc
    | cons w l =>
      unfold joinW at hc
      rcases List.mem_append.1 hc with hc | hc
      · exact hl w List.mem_cons_self c hc
      · obtain ⟨v, hv, hcv⟩ := List.mem_flatMap.1 hc
        rcases List.mem_cons.1 hcv with e | hcv
        · rw [e]; decide
        · exact hl v (List.mem_cons_of_mem _ hv) c hcv
  rcases List.mem_append.1 hc with hc | hc
  · have ht : ∀ k : Int, (title k).all Lx.inBody = true := by
      intro k
      unfold title
      split
      · decide
      · split
        · decide
        · split
          · decide
          · split <;> decide
    exact List.all_eq_true.1 (ht n.script) c hc
  · rcases List.mem_cons.1 hc with e | hc
    · rw [e]; decide
    · exact hj n.words hw c hc

/-! ### the text of a change -/

def wAdd : List UInt8 := [97, 100, 100]
def wRemove : List UInt8 := [114, 101, 109, 111, 118, 101]
def wCorrect : List UInt8 := [99, 111, 114, 114, 101, 99, 116]
def wVoid : List UInt8 := [118, 111, 105, 100]
def kindWord (k : Int) : List UInt8 := if k = 1 then wAdd else if k = 2 then wRemove else if k = 3 then wCorrect else if k = 4 then wVoid else []
def kindOf (t : List UInt8) : Int := if t = wAdd then 1 else if t = wRemove then 2 else if t = wCorrect then 3 else if t = wVoid then 4 else 0
def quoted (n : Nm) : List UInt8 := 32 :: 34 :: (nameText n ++ [34])
def body (c : Ch) : List UInt8 := kindWord c.kind ++ ([32] ++ (c.id ++ ((if dated c then 32 :: Lx.dec c.at_.toNat else []) ++ (c.en.names.flatMap quoted ++ [59]))))
def text (c : Ch) : Option (List UInt8) := if formed c then some (body c) else none

/-- one token behind the Id -/
def tokP (c : Ch) (t : Lx.Tk) : Option Ch :=
  if t.kind = 2 then some { c with at_ := t.n }
  else if t.kind = 3 then (nameP t.text).map fun n => { c with en := ⟨c.id, c.en.names ++ [n]⟩ }
  else some c
def toksP : Ch → List Lx.Tk → Option Ch
  | c, [] => some c
  | c, t :: l => match tokP c t with | none => none | some c' => toksP c' l
/-- what a text is read to -/
def parse (s : List UInt8) : Option Ch :=
  match Lx.lex s with
  | (l, x, _) =>
    if x ≠ 0 then none
    else match Lx.toks l with
      | a :: b :: r =>
        match toksP ⟨kindOf a.text, b.text, ⟨[], []⟩, 0⟩ r with
        | none => none
        | some c => if text c = some s then some c else none
      | _ => none

theorem parse_own {s : List UInt8} {c : Ch} (h : parse s = some c) : text c = some s := by
  unfold parse at h
  split at h
  rename_i l x y hl
  split at h
  · cases h
  · split at h
    · rename_i a b r hr
      split at h
      · cases h
      · rename_i c' hc
        split at h
        · rename_i ht
          cases h
          exact ht
        · cases h
    · cases h

abbrev tkStr (x : List UInt8) : Lx.Tk := ⟨3, 0, x⟩
theorem rd_str {x : List UInt8} (h1 : x.length ≤ 400) (h2 : x.all Lx.inBody = true) (r : List UInt8) : Fa.Rd (34 :: (x ++ [34])) [tkStr x] r := by
  have hok : Lx.TokOK (tkStr x) := .inr (.inr (.inl ⟨rfl, rfl, h1, h2⟩))
  have hg : Lx.Good (tkStr x) r := fun z _ => ⟨fun h => absurd h (by simp), fun h => absurd h (by simp), fun h => absurd h (by simp)⟩
  have h := Lx.lu_tok hok hg
  have hw : (tkStr x).written = 34 :: (x ++ [34]) := by unfold Lx.Tk.written; rw [if_pos rfl]
  refine ⟨[(0, tkStr x)], rfl, ?_⟩
  rw [hw] at h
  rw [h, ← Lx.written_length, hw]
theorem rd_quoted {n : Nm} (h : nmOk n = true) (r : List UInt8) : Fa.Rd (quoted n) [tkStr (nameText n)] r :=
  Fa.Rd.app (s := [32]) (L := []) (Fa.rd_blank _) (rd_str (by have := nameText_len h; omega) (nameText_body h) r)
theorem rd_names : ∀ (l : List Nm) (r : List UInt8), (∀ n ∈ l, nmOk n = true) → Fa.Rd (l.flatMap quoted) (l.map fun n => tkStr (nameText n)) r
  | [], r, _ => Fa.Rd.nil r
  | n :: l, r, h => by
    rw [List.flatMap_cons, List.map_cons]
    exact Fa.Rd.app (L := [tkStr (nameText n)]) (rd_quoted (h n List.mem_cons_self) _) (rd_names l r fun m hm => h m (List.mem_cons_of_mem _ hm))

theorem kind_word {k : Int} (h1 : 1 ≤ k) (h4 : k ≤ 4) : kindOf (kindWord k) = k ∧ Fa.nm (kindWord k) = true ∧ (kindWord k).length ≤ 7 := by
  have : k = 1 ∨ k = 2 ∨ k = 3 ∨ k = 4 := by omega
  rcases this with rfl | rfl | rfl | rfl <;> decide
theorem ident_nm (t : List UInt8) : ident t = Fa.nm t := rfl
/-- the names of a well-formed change are names -/
theorem formed_names {c : Ch} (h : formed c = true) : (∀ n ∈ c.en.names, nmOk n = true) ∧ c.en.names.length ≤ 8 ∧ (c.en.names = [] → c.en = ⟨[], []⟩) ∧ (c.en.names ≠ [] → c.en.id = c.id) ∧ 0 ≤ c.at_ ∧ c.at_ ≤ 144001439 := by
  obtain ⟨h1, h2, h3, h4, h5, h6, h7⟩ := formed_parts h
  have hat : 0 ≤ c.at_ ∧ c.at_ ≤ 144001439 := by
    cases hd : dated c with
    | true =>
      have := h6 hd
      unfold inst at this
      simpa using this
    | false => rw [h7 hd]; decide
  cases hw : withEntry c with
  | true =>
    obtain ⟨e1, e2⟩ := h4 hw
    unfold proper at e2
    simp only [Bool.and_eq_true, decide_eq_true_eq, List.all_eq_true] at e2
    refine ⟨e2.2, e2.1.2, fun e => ?_, fun _ => e1, hat⟩
    rw [e] at e2
    exact absurd e2.1.1.2 (by simp)
  | false =>
    obtain ⟨e1, e2⟩ := h5 hw
    refine ⟨by rw [e2]; simp, by rw [e2]; simp, fun _ => ?_, fun e => absurd e2 e, hat⟩
    obtain ⟨k, i, ⟨a, b⟩, t⟩ := c
    simp only at e1 e2
    rw [e1, e2]
theorem quoted_len {n : Nm} (h : nmOk n = true) : (quoted n).length ≤ 163 := by
  have := nameText_len h
  unfold quoted
  simp only [List.length_cons, List.length_append, List.length_nil]
  omega
theorem names_len : ∀ (l : List Nm), (∀ n ∈ l, nmOk n = true) → (l.flatMap quoted).length ≤ 163 * l.length
  | [], _ => by simp
  | n :: l, h => by
    rw [List.flatMap_cons, List.length_append, List.length_cons]
    have := quoted_len (h n List.mem_cons_self)
    have := names_len l fun m hm => h m (List.mem_cons_of_mem _ hm)
    omega
theorem body_len {c : Ch} (h : formed c = true) : (body c).length ≤ 1400 := by
  obtain ⟨n1, n2, -, -, a0, a1⟩ := formed_names h
  obtain ⟨h1, h2, h3, -⟩ := formed_parts h
  have := names_len c.en.names n1
  have := (kind_word h2 h3).2.2
  have hi : c.id.length ≤ 24 := (Fa.nm_len (a := c.id) h1).2
  have hd : (if dated c then 32 :: Lx.dec c.at_.toNat else []).length ≤ 11 := by
    split
    · have := Fa.dec_len (n := c.at_.toNat) 10 (by decide) (by omega)
      simp; omega
    · simp
  unfold body
  simp only [List.length_append, List.length_cons, List.length_nil] at hd ⊢
  omega
/-- the tokens of a change's text -/
theorem body_toks {c : Ch} (h : formed c = true) : ∃ l, Lx.lex (body c) = (l, 0, 0) ∧ Lx.toks l = Fa.tkName (kindWord c.kind) :: Fa.tkName c.id :: ((if dated c then [Fa.tkNum c.at_.toNat] else []) ++ (c.en.names.map (fun n => tkStr (nameText n)) ++ [Fa.tkSym 59])) := by
  obtain ⟨n1, n2, -, -, a0, a1⟩ := formed_names h
  obtain ⟨h1, h2, h3, -⟩ := formed_parts h
  obtain ⟨-, k2, -⟩ := kind_word h2 h3
  have hend : Fa.Rd (c.en.names.flatMap quoted ++ [59]) (c.en.names.map (fun n => tkStr (nameText n)) ++ [Fa.tkSym 59]) [] :=
    Fa.Rd.app (rd_names _ _ n1) (Fa.rd_sym (by decide) (by decide) (by decide) [])
  have hhead : ∀ (t : Lx.Tk), t.kind ≠ 4 → Lx.Good t ((c.en.names.flatMap quoted ++ [59]) ++ []) := by
    intro t ht
    rw [List.append_nil]
    cases hn : c.en.names with
    | nil => exact Fa.good_not_word ht (by decide) _
    | cons n l => exact Fa.good_blank (by decide) _
  have hmid : Fa.Rd ((if dated c then 32 :: Lx.dec c.at_.toNat else []) ++ (c.en.names.flatMap quoted ++ [59])) ((if dated c then [Fa.tkNum c.at_.toNat] else []) ++ (c.en.names.map (fun n => tkStr (nameText n)) ++ [Fa.tkSym 59])) [] := by
    refine Fa.Rd.app ?_ hend
    cases hd : dated c with
    | true => exact Fa.Rd.app (s := [32]) (L := []) (Fa.rd_blank _) (Fa.rd_num (by omega) (hhead _ (by simp)))
    | false => exact Fa.Rd.nil _
  have hgid : Lx.Good (Fa.tkName c.id) (((if dated c then 32 :: Lx.dec c.at_.toNat else []) ++ (c.en.names.flatMap quoted ++ [59])) ++ []) := by
    cases hd : dated c with
    | true => exact Fa.good_blank (by decide) _
    | false => exact hhead _ (by simp)
  have hall : Fa.Rd (body c) (Fa.tkName (kindWord c.kind) :: Fa.tkName c.id :: ((if dated c then [Fa.tkNum c.at_.toNat] else []) ++ (c.en.names.map (fun n => tkStr (nameText n)) ++ [Fa.tkSym 59]))) [] := by
    unfold body
    exact Fa.Rd.app (L := [Fa.tkName (kindWord c.kind)]) (Fa.rd_name k2 (Fa.good_blank (by decide) _)) (Fa.Rd.app (s := [32]) (L := []) (Fa.rd_blank _) (Fa.Rd.app (L := [Fa.tkName c.id]) (Fa.rd_name h1 hgid) hmid))
  obtain ⟨l, h5, h6⟩ := hall.eq
  refine ⟨l, ?_, h6⟩
  rw [Lx.lex_lu (by have := body_len h; omega), h5]
theorem toksP_names : ∀ (l : List Nm) (c : Ch) (r : List Lx.Tk), (∀ n ∈ l, nmOk n = true) → toksP c (l.map (fun n => tkStr (nameText n)) ++ r) = toksP (if l = [] then c else { c with en := ⟨c.id, c.en.names ++ l⟩ }) r
  | [], c, r, _ => rfl
  | n :: l, c, r, h => by
    rw [List.map_cons, List.cons_append, toksP]
    have ht : tokP c (tkStr (nameText n)) = some { c with en := ⟨c.id, c.en.names ++ [n]⟩ } := by
      unfold tokP
      rw [if_neg (by simp), if_pos rfl, nameP_text (h n List.mem_cons_self)]
      rfl
    rw [ht]
    simp only
    rw [toksP_names l _ r fun m hm => h m (List.mem_cons_of_mem _ hm)]
    cases l with
    | nil => rfl
    | cons m l => simp
/-- a change is read from its text -/
theorem parse_text {c : Ch} (h : formed c = true) : parse (body c) = some c := by
  obtain ⟨l, h1, h2⟩ := body_toks h
  obtain ⟨n1, n2, n3, n4, a0, a1⟩ := formed_names h
  obtain ⟨i1, k1, k4, -, -, -, d0⟩ := formed_parts h
  have hkd := (kind_word k1 k4).1
  have key : toksP ⟨kindOf (kindWord c.kind), c.id, ⟨[], []⟩, 0⟩ ((if dated c then [Fa.tkNum c.at_.toNat] else []) ++ (c.en.names.map (fun n => tkStr (nameText n)) ++ [Fa.tkSym 59])) = some c := by
    rw [hkd]
    have hmid : ∀ r, toksP ⟨c.kind, c.id, ⟨[], []⟩, 0⟩ ((if dated c then [Fa.tkNum c.at_.toNat] else []) ++ r) = toksP ⟨c.kind, c.id, ⟨[], []⟩, c.at_⟩ r := by
      intro r
      cases hd : dated c with
      | true =>
        simp only [if_true, List.cons_append, List.nil_append]
        rw [toksP]
        have : tokP ⟨c.kind, c.id, ⟨[], []⟩, 0⟩ (Fa.tkNum c.at_.toNat) = some ⟨c.kind, c.id, ⟨[], []⟩, c.at_⟩ := by
          unfold tokP
          rw [if_pos rfl]
          simp only [Option.some.injEq, Ch.mk.injEq, true_and]
          omega
        rw [this]
      | false =>
        rw [d0 hd]
        rfl
    rw [hmid, toksP_names _ _ _ n1]
    have hs : ∀ c' : Ch, toksP c' [Fa.tkSym 59] = some c' := fun c' => rfl
    rw [hs]
    by_cases hn : c.en.names = []
    · rw [if_pos hn]
      have := n3 hn
      obtain ⟨k, i, e, t⟩ := c
      simp only at this
      rw [this]
    · rw [if_neg hn]
      have := n4 hn
      obtain ⟨k, i, ⟨a, b⟩, t⟩ := c
      simp only at this
      simp only [List.nil_append]
      rw [this]
  unfold parse
  rw [h1]
  simp only [ne_eq, not_true_eq_false, if_false]
  rw [h2]
  simp only
  rw [key]
  simp only
  rw [if_pos (by unfold text; rw [if_pos h])]
theorem text_some {c : Ch} {s : List UInt8} (h : text c = some s) : formed c = true ∧ s = body c := by
  unfold text at h
  split at h
  · rename_i hf
    cases h
    exact ⟨hf, rfl⟩
  · cases h
/-- ListTexts -/
theorem law_texts {a : Ch} {s : List UInt8} (h : text a = some s) : parse s = some a := by
  obtain ⟨h1, rfl⟩ := text_some h
  exact parse_text h1
end Li
namespace Li
def hAdd : List UInt8 := [97, 100, 100, 32, 101, 49, 32, 49, 48, 32, 34, 112, 108, 97, 105, 110, 58, 97, 110, 110, 97, 34, 59]
def hAdd2 : List UInt8 := [97, 100, 100, 32, 101, 49, 32, 54, 48, 32, 34, 112, 108, 97, 105, 110, 58, 97, 110, 110, 97, 34, 59]
def hRem : List UInt8 := [114, 101, 109, 111, 118, 101, 32, 101, 49, 32, 53, 48, 59]
def hVoid : List UInt8 := [118, 111, 105, 100, 32, 101, 49, 59]
def hBad : List UInt8 := [97, 100, 100, 32, 101, 49, 32, 49, 48, 32, 32, 34, 112, 108, 97, 105, 110, 58, 97, 110, 110, 97, 34, 59]
def hId : List UInt8 := [101, 49]
def hEn : En := ⟨hId, [⟨1, [[97, 110, 110, 97]]⟩]⟩
def cAdd : Ch := ⟨1, hId, hEn, 10⟩
def cAdd2 : Ch := ⟨1, hId, hEn, 60⟩
def cRem : Ch := ⟨2, hId, ⟨[], []⟩, 50⟩
def cVoid : Ch := ⟨4, hId, ⟨[], []⟩, 0⟩
theorem dec10 : Lx.dec 10 = [49, 48] := by rw [Lx.dec, if_neg (by decide), Lx.dec, if_pos (by decide)]; rfl
theorem dec60 : Lx.dec 60 = [54, 48] := by rw [Lx.dec, if_neg (by decide), Lx.dec, if_pos (by decide)]; rfl
theorem dec50 : Lx.dec 50 = [53, 48] := by rw [Lx.dec, if_neg (by decide), Lx.dec, if_pos (by decide)]; rfl
theorem f_add : formed cAdd = true := by decide +kernel
theorem f_add2 : formed cAdd2 = true := by decide +kernel
theorem f_rem : formed cRem = true := by decide +kernel
theorem f_void : formed cVoid = true := by decide +kernel
theorem b_add : body cAdd = hAdd := by
  unfold body
  rw [if_pos (by decide), show cAdd.at_.toNat = 10 from rfl, dec10]; decide +kernel
theorem b_add2 : body cAdd2 = hAdd2 := by
  unfold body
  rw [if_pos (by decide), show cAdd2.at_.toNat = 60 from rfl, dec60]; decide +kernel
theorem b_rem : body cRem = hRem := by
  unfold body
  rw [if_pos (by decide), show cRem.at_.toNat = 50 from rfl, dec50]; decide +kernel
theorem b_void : body cVoid = hVoid := by
  unfold body
  rw [if_neg (by decide)]; decide +kernel
theorem p_add : parse hAdd = some cAdd := by rw [← b_add]; exact parse_text f_add
theorem p_add2 : parse hAdd2 = some cAdd2 := by rw [← b_add2]; exact parse_text f_add2
theorem p_rem : parse hRem = some cRem := by rw [← b_rem]; exact parse_text f_rem
theorem p_void : parse hVoid = some cVoid := by rw [← b_void]; exact parse_text f_void
theorem t_add : text cAdd = some hAdd := by unfold text; rw [if_pos f_add, b_add]
/-- two blanks: no text of a change -/
theorem p_bad : parse hBad = none := by
  have h1 : Lx.toks (Lx.lex hBad).1 = [⟨1, 0, wAdd⟩, ⟨1, 0, hId⟩, ⟨2, 10, [49, 48]⟩, ⟨3, 0, [112, 108, 97, 105, 110, 58, 97, 110, 110, 97]⟩, ⟨4, 0, [59]⟩] := by decide +kernel
  have h2 : (Lx.lex hBad).2.1 = 0 := by decide +kernel
  have h3 : toksP ⟨kindOf wAdd, hId, ⟨[], []⟩, 0⟩ [⟨2, 10, [49, 48]⟩, ⟨3, 0, [112, 108, 97, 105, 110, 58, 97, 110, 110, 97]⟩, ⟨4, 0, [59]⟩] = some cAdd := by decide +kernel
  unfold parse
  generalize Lx.lex hBad = r at h1 h2
  obtain ⟨l, x, y⟩ := r
  simp only at h1 h2 ⊢
  rw [if_neg (by rw [h2]; simp), h1]
  simp only
  rw [h3]
  simp only
  rw [if_neg (by rw [t_add]; decide)]
theorem r_a : run [] [cAdd] = ([⟨hEn, 10, -1, false⟩], [0]) := by decide +kernel
theorem r_b : run [] [cAdd, cRem] = ([⟨hEn, 10, 50, false⟩], [0, 0]) := by decide +kernel
theorem r_c : run [] [cAdd, cVoid, cAdd2] = ([⟨hEn, 10, -1, true⟩], [0, 0, 9]) := by decide +kernel

end Li

namespace Li

def voidCh (id : List UInt8) : Ch := ⟨4, id, ⟨[], []⟩, 0⟩
theorem formed_void {id : List UInt8} (h : ident id = true) : formed (voidCh id) = true := by
  unfold formed voidCh withEntry dated
  simp [h]
theorem law_once {l : List Ls} {c : Ch} (h : (apply l c).2 = 0) :
    (c.kind = 3 → (apply (apply l c).1 c).2 = 0 ∧ (apply (apply l c).1 c).1 = (apply l c).1) ∧ (c.kind ≠ 3 → (apply (apply l c).1 c).2 ≠ 0 ∧ (apply (apply l c).1 c).1 = []) := by
  have hpa := apply_proper h
  obtain ⟨hp, hf, hw⟩ := apply_ok h
  obtain ⟨h1, h2, h3⟩ := properL_parts hpa
  rcases hw with ⟨hk, hn, hl, e⟩ | ⟨hk, k, x, hfi, hx, hid, hr, e⟩
  · refine ⟨fun h3' => by omega, fun _ => ?_⟩
    rw [e] at hpa h2 ⊢
    have hen : c.en.id = c.id := ((formed_parts hf).2.2.2.1 (by unfold withEntry; rw [hk]; rfl)).1
    have hfi : find (l ++ [⟨c.en, c.at_, -1, false⟩]) c.id = some l.length := by
      rw [← hen]
      exact find_at h2 (x := ⟨c.en, c.at_, -1, false⟩) (by rw [List.getElem?_append_right (Nat.le_refl _)]; simp)
    unfold apply
    rw [if_pos (by rw [hpa, hf]; rfl), if_pos hk, hfi]
    exact ⟨show ¬ (9 : Int) = 0 by decide, rfl⟩
  · rw [e] at hpa h2 ⊢
    have hlen := (List.getElem?_eq_some_iff.1 hx).1
    have hx2 : (l.set k (upd x c))[k]? = some (upd x c) := List.getElem?_set_self hlen
    have hfi2 : find (l.set k (upd x c)) c.id = some k := by
      rw [← upd_id hf hid]
      exact find_at h2 hx2
    obtain ⟨hv, hr2⟩ := refusal_zero hr
    have hap : apply (l.set k (upd x c)) c = if refusal (upd x c) c ≠ 0 then ([], refusal (upd x c) c) else ((l.set k (upd x c)).set k (upd (upd x c) c), 0) := by
      unfold apply
      rw [if_pos (by rw [hpa, hf]; rfl), if_neg hk, hfi2]
      simp only [hx2]
    rw [hap]
    refine ⟨fun hk3 => ?_, fun hk3 => ?_⟩
    · have hu : upd x c = { x with en := c.en } := by unfold upd; rw [if_neg (by omega), if_pos hk3]
      have hr3 : refusal (upd x c) c = 0 := by
        rw [hu]
        unfold refusal
        rw [if_neg (by simp [hv]; omega), if_neg (by omega)]
      rw [if_neg (by rw [hr3]; simp)]
      refine ⟨rfl, ?_⟩
      have hu2 : upd (upd x c) c = upd x c := by rw [hu]; unfold upd; rw [if_neg (by omega), if_pos hk3]
      rw [hu2]
      simp
    · have hr3 : refusal (upd x c) c ≠ 0 := by
        have hk4 : c.kind = 2 ∨ c.kind = 4 := by have := (formed_parts hf).2.1; have := (formed_parts hf).2.2.1; omega
        unfold refusal
        rcases hk4 with hk4 | hk4
        · have hat := (formed_parts hf).2.2.2.2.2.1 (by unfold dated; rw [hk4]; rfl)
          unfold inst at hat
          simp only [Bool.and_eq_true, decide_eq_true_eq] at hat
          have hu : upd x c = { x with to_ := c.at_ } := by unfold upd; rw [if_pos hk4]
          rw [if_pos (.inr ⟨hk4, by rw [hu]; show ¬ c.at_ = -1; omega⟩)]
          decide
        · have hu : upd x c = { x with void := true } := by unfold upd; rw [if_neg (by omega), if_neg (by omega)]
          rw [if_pos (.inl (by rw [hu]))]
          decide
      rw [if_pos hr3]
      exact ⟨hr3, rfl⟩

/-! ### what is listed -/

def without (l : List En) (id : List UInt8) : List En := l.filter fun e => decide (e.id ≠ id)
def has (l : List En) (id : List UInt8) : Bool := decide ((without l id).length < l.length)
end Li
namespace Li
open Sc
/-- the word read so far, if one is begun -/
def fin (ws : List (List UInt8)) : Option (List UInt8 × Nat) → List (List UInt8)
  | none => ws
  | some p => ws ++ [p.1]
def rscan (k : Int) : Nat → List UInt8 → List (List UInt8) → Option (List UInt8 × Nat) → Option (List (List UInt8))
  | 0, _, _, _ => none
  | _ + 1, [], ws, cur => some (fin ws cur)
  | f + 1, c :: r, ws, cur =>
    if c = 32 then rscan k f r (fin ws cur) none
    else if len k (c :: r) = 0 then none
    else match cur with
      | none => if ws.length = 6 then none else rscan k f ((c :: r).drop (len k (c :: r))) ws (some ((c :: r).take (len k (c :: r)), 1))
      | some p => if 12 < p.2 + 1 then none else rscan k f ((c :: r).drop (len k (c :: r))) ws (some (p.1 ++ (c :: r).take (len k (c :: r)), p.2 + 1))
def rtitle (k : Int) : List UInt8 := if k = 1 then tPlain ++ [58] else if k = 2 then tCased ++ [58] else if k = 3 then tAbjad ++ [58] else tSyllab ++ [58]
/-- the script of a text, from which offset on its words stand -/
def rhead (s : List UInt8) : Nat → Int × Nat
  | 0 => (0, 0)
  | j + 1 => if s.take (rtitle ((j + 1 : Nat) : Int)).length = rtitle ((j + 1 : Nat) : Int) then (((j + 1 : Nat) : Int), (rtitle ((j + 1 : Nat) : Int)).length) else rhead s j
def rnameP (s : List UInt8) : Option Nm :=
  if 20000 < s.length then none
  else if (rhead s 4).2 = 0 then none
  else match rscan (rhead s 4).1 (s.length + 1) (s.drop (rhead s 4).2) [] none with
    | none => none
    | some ws => if ws = [] then none else some ⟨(rhead s 4).1, ws⟩

/-- the letters of a word, scanned -/
theorem rscan_word {k : Int} {rest : List UInt8} {ws : List (List UInt8)} : ∀ (n : Nat) (w : List UInt8) (x : List UInt8) (m f : Nat), w.length ≤ n → (cuts k w).2 = [] → (rest = [] ∨ ∃ r, rest = 32 :: r) → m + (cuts k w).1.length ≤ 12 →
    (w ++ rest).length < f → ∃ g, rest.length < g ∧ rscan k f (w ++ rest) ws (some (x, m)) = rscan k g rest ws (some (x ++ w, m + (cuts k w).1.length)) := by
  intro n
  induction n with
  | zero =>
    intro w x m f hn _ _ _ hf
    have : w = [] := List.length_eq_zero_iff.1 (by omega)
    subst this
    exact ⟨f, by simpa using hf, by rw [List.append_nil]; rfl⟩
  | succ n ih =>
    intro w x m f hn hc hr hm hf
    by_cases hw : w = []
    · subst hw
      exact ⟨f, by simpa using hf, by rw [List.append_nil]; rfl⟩
    · by_cases h0 : len k w = 0
      · rw [cuts_stop h0] at hc; exact absurd hc hw
      · have hl := len_le k w
        have hlen : len k (w ++ rest) = len k w := by
          rcases hr with e | ⟨r, e⟩
          · rw [e, List.append_nil]
          · rw [e, len_app hw]
        rw [cuts_step h0] at hc hm ⊢
        simp only [List.length_cons] at hm ⊢
        obtain ⟨c, w', rfl⟩ : ∃ c w', w = c :: w' := by
          cases w with
          | nil => exact absurd rfl hw
          | cons c w' => exact ⟨c, w', rfl⟩
        have hc32 : c ≠ 32 := by
          rintro rfl
          exact h0 (len_blank k w')
        cases f with
        | zero => simp at hf
        | succ f =>
          obtain ⟨g, hg1, hg2⟩ := ih ((c :: w').drop (len k (c :: w'))) (x ++ (c :: w').take (len k (c :: w'))) (m + 1) f (by rw [List.length_drop]; simp only [List.length_cons] at hn ⊢; omega) hc hr (by omega) (by rw [List.length_append, List.length_drop]; simp only [List.length_append, List.length_cons] at hf ⊢; omega)
          refine ⟨g, hg1, ?_⟩
          rw [show (c :: w') ++ rest = c :: (w' ++ rest) from rfl, rscan, if_neg hc32]
          rw [show c :: (w' ++ rest) = (c :: w') ++ rest from rfl, hlen, if_neg h0]
          simp only
          rw [if_neg (by omega), List.take_append_of_le_length hl, List.drop_append_of_le_length hl, hg2, List.append_assoc, List.take_append_drop]
          congr 3
          omega
theorem rscan_begin {k : Int} {rest : List UInt8} {ws : List (List UInt8)} {w : List UInt8} {f : Nat} (h : (lets k w).isSome = true) (hr : rest = [] ∨ ∃ r, rest = 32 :: r) (h6 : ws.length ≠ 6) (hf : (w ++ rest).length < f) :
    ∃ g m, rest.length < g ∧ rscan k f (w ++ rest) ws none = rscan k g rest ws (some (w, m)) := by
  obtain ⟨h1, h2, h3, h4, h5⟩ := lets_cuts h
  by_cases h0 : len k w = 0
  · rw [cuts_stop h0] at h1; exact absurd h1 h5
  · have hl := len_le k w
    have hlen : len k (w ++ rest) = len k w := by
      rcases hr with e | ⟨r, e⟩
      · rw [e, List.append_nil]
      · rw [e, len_app h5]
    rw [cuts_step h0] at h1 h3
    simp only [List.length_cons] at h1 h3
    obtain ⟨c, w', rfl⟩ : ∃ c w', w = c :: w' := by
      cases w with
      | nil => exact absurd rfl h5
      | cons c w' => exact ⟨c, w', rfl⟩
    have hc32 : c ≠ 32 := by
      rintro rfl
      exact h0 (len_blank k w')
    cases f with
    | zero => simp at hf
    | succ f =>
      obtain ⟨g, hg1, hg2⟩ := rscan_word (rest := rest) (ws := ws) _ ((c :: w').drop (len k (c :: w'))) ((c :: w').take (len k (c :: w'))) 1 f (Nat.le_refl _) h1 hr (by omega) (by rw [List.length_append, List.length_drop]; simp only [List.length_append, List.length_cons] at hf ⊢; omega)
      refine ⟨g, 1 + (cuts k ((c :: w').drop (len k (c :: w')))).1.length, hg1, ?_⟩
      rw [show (c :: w') ++ rest = c :: (w' ++ rest) from rfl, rscan, if_neg hc32]
      rw [show c :: (w' ++ rest) = (c :: w') ++ rest from rfl, hlen, if_neg h0]
      rw [if_neg h6, List.take_append_of_le_length hl, List.drop_append_of_le_length hl, hg2, List.take_append_drop]
theorem rscan_words {k : Int} : ∀ (l : List (List UInt8)) (ws : List (List UInt8)) (f : Nat), (∀ w ∈ l, (lets k w).isSome = true) → l ≠ [] → ws.length + l.length ≤ 6 → (joinW l).length < f → rscan k f (joinW l) ws none = some (ws ++ l)
  | [], _, _, _, h, _, _ => absurd rfl h
  | [w], ws, f, hw, _, h6, hf => by
    have hj : joinW [w] = w ++ [] := by simp [joinW]
    rw [hj] at hf ⊢
    obtain ⟨g, m, h1, h2⟩ := rscan_begin (ws := ws) (hw w List.mem_cons_self) (.inl rfl) (by simp at h6; omega) hf
    rw [h2]
    cases g with
    | zero => simp at h1
    | succ g => rfl
  | w :: v :: l, ws, f, hw, _, h6, hf => by
    have hj : joinW (w :: v :: l) = w ++ 32 :: joinW (v :: l) := by simp [joinW]
    rw [hj] at hf ⊢
    obtain ⟨g, m, h1, h2⟩ := rscan_begin (ws := ws) (hw w List.mem_cons_self) (.inr ⟨_, rfl⟩) (by simp at h6; omega) hf
    rw [h2]
    cases g with
    | zero => simp at h1
    | succ g =>
      rw [rscan, if_pos rfl, rscan_words (v :: l) _ g (fun x hx => hw x (List.mem_cons_of_mem _ hx)) (by simp) (by simp [fin] at h6 ⊢; omega) (by simp at h1 ⊢; omega)]
      simp [fin]
theorem rhead_text {n : Nm} (h : nmOk n = true) : rhead (nameText n) 4 = (n.script, (title n.script).length + 1) := by
  unfold nameText
  have hk := nm_script h
  generalize joinW n.words = r
  rcases hk with e | e | e | e <;> rw [e] <;> simp [rhead, rtitle, title, tPlain, tCased, tAbjad, tSyllab]
/-- the reference reads a name's text to the name -/
theorem rnameP_text {n : Nm} (h : nmOk n = true) : rnameP (nameText n) = some n := by
  obtain ⟨h1, h2, h3⟩ := nmOk_parts h
  have hl := nameText_len h
  unfold rnameP
  rw [if_neg (by omega), rhead_text h, if_neg (by simp)]
  simp only
  have hd : (nameText n).drop ((title n.script).length + 1) = joinW n.words := by
    unfold nameText
    rw [List.drop_append, List.drop_eq_nil_of_le (by omega), show (title n.script).length + 1 - (title n.script).length = 1 by omega]
    rfl
  rw [hd, rscan_words n.words [] _ h1 h2 (by simpa using h3) (by
    have : (nameText n).length = (title n.script).length + (1 + (joinW n.words).length) := by unfold nameText; simp; omega
    omega)]
  simp only [List.nil_append, if_neg h2]

/-! ### a change -/

/-- the names that follow -/
def rnames : Ch → List Lx.Tk → Option Ch
  | c, [] => some c
  | c, t :: l => if t.kind = 3 then match rnameP t.text with | none => none | some n => rnames { c with en := ⟨c.id, c.en.names ++ [n]⟩ } l else some c
/-- what stands ahead of the names -/
def rbegin (l : List Lx.Tk) : Ch × List Lx.Tk :=
  match l with
  | a :: b :: t :: r => if kindOf a.text = 1 ∨ kindOf a.text = 2 then (⟨kindOf a.text, b.text, ⟨[], []⟩, t.n⟩, r) else (⟨kindOf a.text, b.text, ⟨[], []⟩, 0⟩, t :: r)
  | _ => (⟨0, [], ⟨[], []⟩, 0⟩, [])
def rparse (s : List UInt8) : Option Ch :=
  match Lx.lex s with
  | (l, x, _) =>
    if x ≠ 0 ∨ (Lx.toks l).length < 3 then none
    else match rnames (rbegin (Lx.toks l)).1 (rbegin (Lx.toks l)).2 with
      | none => none
      | some c => if text c = some s then some c else none
theorem rparse_own {s : List UInt8} {c : Ch} (h : rparse s = some c) : text c = some s := by
  unfold rparse at h
  split at h
  split at h
  · cases h
  · split at h
    · cases h
    · split at h
      · rename_i ht
        cases h
        exact ht
      · cases h
theorem rnames_names : ∀ (l : List Nm) (c : Ch) (r : List Lx.Tk), (∀ n ∈ l, nmOk n = true) → rnames c (l.map (fun n => tkStr (nameText n)) ++ r) = rnames (if l = [] then c else { c with en := ⟨c.id, c.en.names ++ l⟩ }) r
  | [], c, r, _ => rfl
  | n :: l, c, r, h => by
    rw [List.map_cons, List.cons_append, rnames, if_pos rfl, rnameP_text (h n List.mem_cons_self)]
    simp only
    rw [rnames_names l _ r fun m hm => h m (List.mem_cons_of_mem _ hm)]
    cases l with
    | nil => rfl
    | cons m l => simp
theorem rparse_text {c : Ch} (h : formed c = true) : rparse (body c) = some c := by
  obtain ⟨l, h1, h2⟩ := body_toks h
  obtain ⟨n1, n2, n3, n4, a0, a1⟩ := formed_names h
  obtain ⟨i1, k1, k4, -, -, -, d0⟩ := formed_parts h
  have hkd := (kind_word k1 k4).1
  have hend : ∀ c' : Ch, rnames c' [Fa.tkSym 59] = some c' := fun c' => rfl
  have hfin : rnames ⟨c.kind, c.id, ⟨[], []⟩, c.at_⟩ (c.en.names.map (fun n => tkStr (nameText n)) ++ [Fa.tkSym 59]) = some c := by
    rw [rnames_names _ _ _ n1, hend]
    by_cases hn : c.en.names = []
    · rw [if_pos hn]
      have := n3 hn
      obtain ⟨k, i, e, t⟩ := c
      simp only at this
      rw [this]
    · rw [if_neg hn]
      have := n4 hn
      obtain ⟨k, i, ⟨a, b⟩, t⟩ := c
      simp only at this
      simp only [List.nil_append]
      rw [this]
  have hb : rnames (rbegin (Lx.toks l)).1 (rbegin (Lx.toks l)).2 = some c ∧ ¬ (Lx.toks l).length < 3 := by
    rw [h2]
    cases hd : dated c with
    | true =>
      have hk : c.kind = 1 ∨ c.kind = 2 := by unfold dated at hd; simpa using hd
      refine ⟨?_, by simp⟩
      have e : rbegin (Fa.tkName (kindWord c.kind) :: Fa.tkName c.id :: ((if true = true then [Fa.tkNum c.at_.toNat] else []) ++ (c.en.names.map (fun n => tkStr (nameText n)) ++ [Fa.tkSym 59]))) = (⟨c.kind, c.id, ⟨[], []⟩, c.at_⟩, c.en.names.map (fun n => tkStr (nameText n)) ++ [Fa.tkSym 59]) := by
        unfold rbegin
        simp only [if_true, List.cons_append, List.nil_append]
        rw [hkd, if_pos hk]
        simp only [Prod.mk.injEq, Ch.mk.injEq, true_and, and_true]
        omega
      rw [e]
      exact hfin
    | false =>
      have hk : ¬ (c.kind = 1 ∨ c.kind = 2) := by
        intro hk
        unfold dated at hd
        rcases hk with e | e <;> rw [e] at hd <;> exact absurd hd (by decide)
      have ha := d0 hd
      rw [ha] at hfin
      cases hn : c.en.names with
      | nil =>
        rw [hn] at hfin
        refine ⟨?_, by simp⟩
        have e : rbegin (Fa.tkName (kindWord c.kind) :: Fa.tkName c.id :: ((if false = true then [Fa.tkNum c.at_.toNat] else []) ++ (([] : List Nm).map (fun n => tkStr (nameText n)) ++ [Fa.tkSym 59]))) = (⟨c.kind, c.id, ⟨[], []⟩, 0⟩, [Fa.tkSym 59]) := by
          unfold rbegin
          simp only [Bool.false_eq_true, if_false, List.map_nil, List.nil_append]
          rw [hkd, if_neg hk]
        rw [e]
        exact hfin
      | cons n r =>
        rw [hn] at hfin
        refine ⟨?_, by simp⟩
        have e : rbegin (Fa.tkName (kindWord c.kind) :: Fa.tkName c.id :: ((if false = true then [Fa.tkNum c.at_.toNat] else []) ++ ((n :: r).map (fun n => tkStr (nameText n)) ++ [Fa.tkSym 59]))) = (⟨c.kind, c.id, ⟨[], []⟩, 0⟩, (n :: r).map (fun n => tkStr (nameText n)) ++ [Fa.tkSym 59]) := by
          unfold rbegin
          simp only [Bool.false_eq_true, if_false, List.map_cons, List.cons_append, List.nil_append]
          rw [hkd, if_neg hk]
        rw [e]
        exact hfin
  unfold rparse
  rw [h1]
  simp only
  rw [if_neg (by rintro (h | h); exact h rfl; exact hb.2 h), hb.1]
  simp only
  rw [if_pos (by unfold text; rw [if_pos h])]
/-- the reference reads what the program reads -/
theorem rparse_eq (s : List UInt8) : rparse s = parse s := by
  cases h : parse s with
  | some c =>
    obtain ⟨h1, h2⟩ := text_some (parse_own h)
    rw [h2]
    exact rparse_text h1
  | none =>
    cases h2 : rparse s with
    | none => rfl
    | some c =>
      have := law_texts (rparse_own h2)
      rw [h] at this
      cases this

end Li
