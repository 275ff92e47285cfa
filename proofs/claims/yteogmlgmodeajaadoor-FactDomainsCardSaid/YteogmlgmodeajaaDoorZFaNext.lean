/-
  Facts, plain laws: the order of cases, Next, the least and the last one; the tokens with a line feed after each. NO PROGRAM IN THIS TEXT.
-/
import Derived.Test.YteogmlgmodeajaaDoorZFaCase
namespace Fa
open Lx

/-- is a case less? -/
def less : List Int → List Int → Bool
  | x :: a, y :: b => if x = y then less a b else decide (x < y)
  | _, _ => false

/-- the next one, from the front -/
def nx : List (Fact × Int) → Option (List Int)
  | [] => none
  | p :: l => match nx l with
    | some r => some (p.2 :: r)
    | none => if p.2 < p.1.hi then some ((p.2 + 1) :: l.map fun q => q.1.lo) else none

theorem up_app : ∀ (m : List (Fact × Int)) (p : Fact × Int), up (m ++ [p]) = match up m with | some r => some (r ++ [p.2]) | none => if p.2 < p.1.hi then some (m.map (fun q => q.1.lo) ++ [p.2 + 1]) else none
  | [], p => by simp [up]
  | q :: m, p => by
    rw [List.cons_append, up, up]
    by_cases h : q.2 < q.1.hi
    · rw [if_pos h, if_pos h]; simp
    · rw [if_neg h, if_neg h, up_app m p]
      cases up m with
      | some r => simp
      | none =>
        simp only [Option.map_none]
        split <;> simp
theorem up_nx : ∀ l : List (Fact × Int), (up l.reverse).map List.reverse = nx l
  | [] => rfl
  | p :: l => by
    have ih := up_nx l
    rw [List.reverse_cons, up_app, nx]
    cases h : up l.reverse with
    | some r =>
      rw [h] at ih
      simp only [Option.map_some] at ih
      rw [← ih]
      simp
    | none =>
      rw [h] at ih
      simp only [Option.map_none] at ih
      rw [← ih]
      simp only
      split <;> simp [List.map_reverse]
theorem next_nx {d : Dom} {c : List Int} (h : fits d c = true) : next d c = nx (d.zip c) := by
  unfold next
  rw [if_pos h, up_nx]

/-- each value in its range -/
def In (l : List (Fact × Int)) : Prop := ∀ p ∈ l, p.1.lo ≤ p.2 ∧ p.2 ≤ p.1.hi
def InL : List (Fact × Int) → List Int → Prop
  | [], [] => True
  | p :: l, x :: b => p.1.lo ≤ x ∧ x ≤ p.1.hi ∧ InL l b
  | _, _ => False

theorem In.tail {p : Fact × Int} {l : List (Fact × Int)} (h : In (p :: l)) : In l := fun q hq => h q (List.mem_cons_of_mem _ hq)

theorem nx_none : ∀ l : List (Fact × Int), In l → (nx l = none ↔ ∀ p ∈ l, p.2 = p.1.hi)
  | [], _ => by simp [nx]
  | p :: l, h => by
    have ih := nx_none l h.tail
    have hp := h p List.mem_cons_self
    rw [nx]
    cases hn : nx l with
    | some r =>
      simp only [reduceCtorEq, false_iff]
      intro hall
      have := ih.2 fun q hq => hall q (List.mem_cons_of_mem _ hq)
      rw [hn] at this; cases this
    | none =>
      simp only
      have hl := ih.1 hn
      by_cases hlt : p.2 < p.1.hi
      · rw [if_pos hlt]
        simp only [reduceCtorEq, false_iff]
        intro hall
        have := hall p List.mem_cons_self
        omega
      · rw [if_neg hlt]
        simp only [true_iff]
        intro q hq
        rcases List.mem_cons.1 hq with rfl | hq
        · omega
        · exact hl q hq
theorem los_in : ∀ l : List (Fact × Int), In l → InL l (l.map fun q => q.1.lo)
  | [], _ => trivial
  | p :: l, h => by
    have hp := h p List.mem_cons_self
    exact ⟨by simp only; omega, by simp only; omega, los_in l h.tail⟩
theorem selves_in : ∀ l : List (Fact × Int), In l → InL l (l.map fun q => q.2)
  | [], _ => trivial
  | p :: l, h => by
    have hp := h p List.mem_cons_self
    exact ⟨by simp only; omega, by simp only; omega, selves_in l h.tail⟩
theorem nx_in : ∀ (l : List (Fact × Int)) (n : List Int), In l → nx l = some n → InL l n
  | [], n, _, h => by simp [nx] at h
  | p :: l, n, hi, h => by
    have hp := hi p List.mem_cons_self
    rw [nx] at h
    cases hn : nx l with
    | some r =>
      rw [hn] at h
      simp only [Option.some.injEq] at h
      subst h
      exact ⟨by omega, by omega, nx_in l r hi.tail hn⟩
    | none =>
      rw [hn] at h
      simp only at h
      split at h
      · simp only [Option.some.injEq] at h
        subst h
        exact ⟨by omega, by omega, los_in l hi.tail⟩
      · cases h
theorem nx_less : ∀ (l : List (Fact × Int)) (n : List Int), In l → nx l = some n → less (l.map fun q => q.2) n = true
  | [], n, _, h => by simp [nx] at h
  | p :: l, n, hi, h => by
    rw [nx] at h
    cases hn : nx l with
    | some r =>
      rw [hn] at h
      simp only [Option.some.injEq] at h
      subst h
      rw [List.map_cons, less, if_pos rfl]
      exact nx_less l r hi.tail hn
    | none =>
      rw [hn] at h
      simp only at h
      split at h
      · simp only [Option.some.injEq] at h
        subst h
        rw [List.map_cons, less, if_neg (by omega)]
        simp; omega
      · cases h
theorem los_least : ∀ (l : List (Fact × Int)) (b : List Int), InL l b → less b (l.map fun q => q.1.lo) = false
  | [], [], _ => rfl
  | p :: l, x :: b, h => by
    obtain ⟨h1, h2, h3⟩ := h
    rw [List.map_cons, less]
    split
    · exact los_least l b h3
    · simp; omega
theorem his_most : ∀ (l : List (Fact × Int)) (b : List Int), (∀ p ∈ l, p.2 = p.1.hi) → InL l b → less (l.map fun q => q.2) b = false
  | [], [], _, _ => rfl
  | p :: l, x :: b, hh, h => by
    obtain ⟨h1, h2, h3⟩ := h
    have hp := hh p List.mem_cons_self
    rw [List.map_cons, less]
    split
    · exact his_most l b (fun q hq => hh q (List.mem_cons_of_mem _ hq)) h3
    · simp; omega
theorem nx_most : ∀ (l : List (Fact × Int)) (n b : List Int), In l → nx l = some n → InL l b → less (l.map fun q => q.2) b = true → less b n = false
  | [], n, b, _, h, _, _ => by simp [nx] at h
  | p :: l, n, x :: b, hi, h, hb, hl => by
    obtain ⟨h1, h2, h3⟩ := hb
    rw [nx] at h
    rw [List.map_cons, less] at hl
    cases hn : nx l with
    | some r =>
      rw [hn] at h
      simp only [Option.some.injEq] at h
      subst h
      rw [less]
      split at hl
      · rename_i e
        rw [if_pos e.symm]
        exact nx_most l r b hi.tail hn h3 hl
      · rename_i e
        rw [if_neg (fun e' => e e'.symm)]
        simp at hl ⊢; omega
    | none =>
      rw [hn] at h
      simp only at h
      split at h
      · simp only [Option.some.injEq] at h
        subst h
        rw [less]
        split at hl
        · have := his_most l b ((nx_none l hi.tail).1 hn) h3
          rw [this] at hl; cases hl
        · simp only [decide_eq_true_eq] at hl
          split
          · exact los_least l b h3
          · simp; omega
      · cases h

theorem inL_iff : ∀ (d : Dom) (a b : List Int), a.length = d.length → (InL (d.zip a) b ↔ b.length = d.length ∧ ∀ p ∈ d.zip b, within p = true)
  | [], [], b, _ => by cases b <;> simp [InL]
  | f :: d, x :: a, [], _ => by simp [InL]
  | f :: d, x :: a, y :: b, h => by
    have ih := inL_iff d a b (by simpa using h)
    rw [List.zip_cons_cons, List.zip_cons_cons, InL, ih]
    simp only [List.length_cons, List.mem_cons, forall_eq_or_imp, within, Bool.and_eq_true, decide_eq_true_eq, Nat.add_right_cancel_iff]
    constructor
    · rintro ⟨a1, a2, a3, a4⟩; exact ⟨a3, ⟨a1, a2⟩, a4⟩
    · rintro ⟨a3, ⟨a1, a2⟩, a4⟩; exact ⟨a1, a2, a3, a4⟩
theorem in_of_fits {d : Dom} {c : List Int} (h : fits d c = true) : In (d.zip c) := by
  intro p hp
  have := (fits_parts h).2.2 p hp
  unfold within at this
  simpa using this
theorem zip_snd {d : Dom} {c : List Int} (h : c.length = d.length) : (d.zip c).map (fun q => q.2) = c := List.map_snd_zip (by omega)
theorem zip_lo {d : Dom} {c : List Int} (h : c.length = d.length) : (d.zip c).map (fun q => q.1.lo) = d.map Fact.lo := by
  have e := List.map_fst_zip (l₁ := d) (l₂ := c) (by omega)
  conv => rhs; rw [← e, List.map_map]
  rfl

/-- the laws of Next -/
theorem next_laws {d : Dom} {a : List Int} (ha : fits d a = true) :
    (next d a = none ↔ ∀ p ∈ d.zip a, p.2 = p.1.hi) ∧ (∀ n, next d a = some n → fits d n = true ∧ less a n = true) ∧
    (∀ b, fits d b = true → less a b = true → ∃ n, next d a = some n ∧ less b n = false) ∧ fits d (least d) = true ∧ less a (least d) = false := by
  obtain ⟨h1, h2, h3⟩ := fits_parts ha
  have hi := in_of_fits ha
  have e2 := zip_snd h2
  have el : least d = (d.zip a).map fun q => q.1.lo := by rw [zip_lo h2, least, if_pos h1]
  have hll := (inL_iff d a _ h2).1 (los_in _ hi)
  rw [next_nx ha]
  refine ⟨nx_none _ hi, fun n hn => ?_, fun b hb hl => ?_, ?_, ?_⟩
  · have := (inL_iff d a n h2).1 (nx_in _ _ hi hn)
    have hs := nx_less _ _ hi hn
    rw [e2] at hs
    exact ⟨fits_mk h1 this.1 this.2, hs⟩
  · obtain ⟨g1, g2, g3⟩ := fits_parts hb
    have hbl := (inL_iff d a b h2).2 ⟨g2, g3⟩
    cases hn : nx (d.zip a) with
    | none =>
      have := his_most _ _ ((nx_none _ hi).1 hn) hbl
      rw [e2, hl] at this; cases this
    | some n => exact ⟨n, rfl, nx_most _ _ _ hi hn hbl (by rw [e2]; exact hl)⟩
  · rw [el]; exact fits_mk h1 hll.1 hll.2
  · rw [el]
    exact los_least _ _ ((inL_iff d a a h2).2 ⟨h2, h3⟩)

/-! ### the tokens with a line feed after each -/

def apart (l : List T) : List UInt8 := l.flatMap fun p => p.2.written ++ [10]
theorem apart_cons (x : T) (l : List T) : apart (x :: l) = x.2.written ++ 10 :: apart l := by simp [apart]
theorem apart_lu : ∀ (l : List T), (∀ p ∈ l, TokOK p.2) → ∃ m, lu (apart l) = .ok m ∧ toks m = toks l
  | [], _ => ⟨[], rfl, rfl⟩
  | x :: l, h => by
    obtain ⟨m, h1, h2⟩ := apart_lu l fun p hp => h p (List.mem_cons_of_mem _ hp)
    have hx := h x List.mem_cons_self
    have e : lu (10 :: apart l) = shiftR 1 [] (lu (apart l)) := lu_gap (u := [10]) (by simp [skip, isBlank])
    rw [apart_cons, lu_tok hx (Good.gap _ (by decide) _), e, h1]
    exact ⟨_, rfl, by simp [toks, shift] at h2 ⊢; exact h2⟩
theorem apart_length (l : List T) : (apart l).length = (allOf l).length := by
  induction l with
  | nil => rfl
  | cons x l ih => rw [apart_cons, allOf_cons]; simp [ih]

/-- tokens without their places -/
def er (ts : List T) : List T := ts.map fun p => (0, p.2)
theorem er_of_toks {a b : List T} (h : toks a = toks b) : er a = er b := by
  have e : ∀ l : List T, er l = (toks l).map fun t => ((0, t) : T) := fun l => by simp [er, toks]
  rw [e, e, h]
theorem er_length (ts : List T) : (er ts).length = ts.length := by simp [er]

theorem take_er (k : Nat) (x : List UInt8) (e : Nat) (ts : List T) : take k x 0 (er ts) = match take k x e ts with | .error (a, _) => .error (a, 0) | .ok (t, r) => .ok ((0, t.2), er r) := by
  cases ts with
  | nil => rfl
  | cons t r =>
    show take k x 0 ((0, t.2) :: er r) = _
    rw [take_cons, take_cons]
    by_cases h : t.2.kind = k ∧ (x = [] ∨ t.2.text = x)
    · rw [if_pos h, if_pos h]
    · rw [if_neg h, if_neg h]; rfl
theorem span_er (e : Nat) (ts : List T) : span 0 (er ts) = match span e ts with | .error (a, _) => .error (a, 0) | .ok (u, r) => .ok (u, er r) := by
  unfold span
  rw [take_er 2 [] e ts]
  rcases take 2 [] e ts with ⟨a, b⟩ | ⟨lo, r1⟩
  · rfl
  · simp only
    split
    · rfl
    · rw [take_er 1 tTo e r1]
      rcases take 1 tTo e r1 with ⟨a, b⟩ | ⟨t2, r2⟩
      · rfl
      · simp only
        rw [take_er 2 [] e r2]
        rcases take 2 [] e r2 with ⟨a, b⟩ | ⟨hi, r3⟩
        · rfl
        · simp only
          split <;> rfl
theorem ranges_er (w : List UInt8) (p e : Nat) (ts : List T) : ranges w 0 0 (er ts) = match ranges w p e ts with | .error (a, _) => .error (a, 0) | .ok (u, r) => .ok (u, er r) := by
  unfold ranges
  split
  · rfl
  · split
    · rw [span_er e ts]
      rcases span e ts with ⟨a, b⟩ | ⟨⟨lo, hi⟩, r⟩ <;> rfl
    · rfl
theorem factP_er (d : Dom) (e : Nat) (ts : List T) : factP d 0 (er ts) = match factP d e ts with | .error (a, _) => .error (a, 0) | .ok (u, r) => .ok (u, er r) := by
  unfold factP
  rw [take_er 1 [] e ts]
  rcases take 1 [] e ts with ⟨a, b⟩ | ⟨name, r1⟩
  · rfl
  · simp only
    split
    · rfl
    · split
      · rfl
      · rw [take_er 1 [] e r1]
        rcases take 1 [] e r1 with ⟨a, b⟩ | ⟨word, r2⟩
        · rfl
        · simp only
          rw [ranges_er word.2.text word.1 e r2]
          rcases ranges word.2.text word.1 e r2 with ⟨a, b⟩ | ⟨⟨k, lo, hi⟩, r3⟩
          · rfl
          · simp only
            rw [take_er 4 [59] e r3]
            rcases take 4 [59] e r3 with ⟨a, b⟩ | ⟨t, r4⟩ <;> rfl
theorem parseN_er : ∀ (n : Nat) (d : Dom) (e : Nat) (ts : List T), parseN n d 0 (er ts) = match parseN n d e ts with | .error (a, _) => .error (a, 0) | .ok u => .ok u
  | 0, d, e, ts => rfl
  | n + 1, d, e, ts => by
    cases ts with
    | nil => rfl
    | cons t r =>
      rw [parseN]
      show (match factP d 0 (er (t :: r)) with | .error x => Except.error x | .ok (f, r') => parseN n (d ++ [f]) 0 r') = _
      rw [factP_er d e (t :: r)]
      rcases factP d e (t :: r) with ⟨a, b⟩ | ⟨f, r'⟩
      · rfl
      · simp only
        exact parseN_er n (d ++ [f]) e r'

theorem first_er (first : Bool) (e : Nat) (ts : List T) : (if first then (Except.ok (((0, ⟨0, 0, []⟩) : T), er ts) : Except Fail (T × List T)) else take 4 [44] 0 (er ts)) = match (if first then (Except.ok (((0, ⟨0, 0, []⟩) : T), ts) : Except Fail (T × List T)) else take 4 [44] e ts) with | .error (a, _) => .error (a, 0) | .ok (t, r) => .ok ((0, t.2), er r) := by
  cases first
  · simp only [Bool.false_eq_true, if_false]; exact take_er 4 [44] e ts
  · rfl
theorem valP_er (d : Dom) (g : List (List UInt8)) (first : Bool) (e : Nat) (ts : List T) : valP d g first 0 (er ts) = match valP d g first e ts with | .error (a, _) => .error (a, 0) | .ok (u, r) => .ok (u, er r) := by
  unfold valP
  rw [first_er first e ts]
  rcases (if first then (Except.ok (((0, ⟨0, 0, []⟩) : T), ts) : Except Fail (T × List T)) else take 4 [44] e ts) with ⟨a, b⟩ | ⟨t0, r0⟩
  · rfl
  · simp only
    rw [take_er 1 [] e r0]
    rcases take 1 [] e r0 with ⟨a, b⟩ | ⟨name, r1⟩
    · rfl
    · simp only
      split
      · rfl
      · split
        · rfl
        · rw [take_er 4 [61] e r1]
          rcases take 4 [61] e r1 with ⟨a, b⟩ | ⟨t2, r2⟩
          · rfl
          · simp only
            rw [take_er 2 [] e r2]
            rcases take 2 [] e r2 with ⟨a, b⟩ | ⟨n, r3⟩
            · rfl
            · simp only
              cases d[(idx d name.2.text).toNat]? with
              | none => rfl
              | some f => simp only; split <;> rfl
theorem valsN_er : ∀ (n : Nat) (d : Dom) (c : List Int) (g : List (List UInt8)) (first : Bool) (e : Nat) (ts : List T), valsN n d c g first 0 (er ts) = match valsN n d c g first e ts with | .error (a, _) => .error (a, 0) | .ok u => .ok u
  | 0, d, c, g, first, e, ts => rfl
  | n + 1, d, c, g, first, e, ts => by
    cases ts with
    | nil => rfl
    | cons t r =>
      rw [valsN]
      show (match valP d g first 0 (er (t :: r)) with | .error x => Except.error x | .ok ((i, v, a), r') => valsN n d (c.set i.toNat v) (g ++ [a]) false 0 r') = _
      rw [valP_er d g first e (t :: r)]
      rcases valP d g first e (t :: r) with ⟨a, b⟩ | ⟨⟨i, v, a⟩, r'⟩
      · rfl
      · simp only
        exact valsN_er n d _ _ false e r'

/-- the same tokens: the same domain, and the same error -/
theorem parse_toks {s t : List UInt8} {l m : List T} (hs : lex s = (l, 0, 0)) (ht : lex t = (m, 0, 0)) (h : toks m = toks l) : (parse t).1 = (parse s).1 ∧ (parse t).2.1 = (parse s).2.1 := by
  have hl : m.length = l.length := by rw [← toks_length, ← toks_length, h]
  unfold parse
  rw [hs, ht]
  simp only [ne_eq, not_true_eq_false, if_false]
  unfold parseT
  have h1 := parseN_er (l.length + 1) [] s.length l
  have h2 := parseN_er (l.length + 1) [] t.length m
  rw [er_of_toks h, h1] at h2
  rw [hl]
  revert h2
  rcases parseN (l.length + 1) [] s.length l with ⟨a, b⟩ | d <;> rcases parseN (l.length + 1) [] t.length m with ⟨a', b'⟩ | d' <;> intro h2 <;> simp at h2 ⊢ <;> exact h2.symm
theorem parseCase_toks {d : Dom} {s t : List UInt8} {l m : List T} (hs : lex s = (l, 0, 0)) (ht : lex t = (m, 0, 0)) (h : toks m = toks l) : (parseCase d t).1 = (parseCase d s).1 ∧ (parseCase d t).2.1 = (parseCase d s).2.1 := by
  have hl : m.length = l.length := by rw [← toks_length, ← toks_length, h]
  unfold parseCase
  split
  · rw [hs, ht]
    simp only [ne_eq, not_true_eq_false, if_false]
    unfold valsT
    have h1 := valsN_er (l.length + 1) d (List.replicate d.length 0) [] true s.length l
    have h2 := valsN_er (l.length + 1) d (List.replicate d.length 0) [] true t.length m
    rw [er_of_toks h, h1] at h2
    rw [hl]
    revert h2
    rcases valsN (l.length + 1) d (List.replicate d.length 0) [] true s.length l with ⟨a, b⟩ | ⟨c, g⟩ <;> rcases valsN (l.length + 1) d (List.replicate d.length 0) [] true t.length m with ⟨a', b'⟩ | ⟨c', g'⟩ <;> intro h2 <;> simp at h2
    · simp only [h2, and_self]
    · obtain ⟨rfl, rfl⟩ := h2
      simp only
      split <;> simp
  · exact ⟨rfl, rfl⟩

end Fa
