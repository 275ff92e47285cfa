/-
 Several texts in one: ZRp0, ZRp1, ZRp2, ZRp3, ZRp4. Conditions: as each law says.
-/
import Derived.Test.YtdchjacccmajcaaGreatDoorZMLx
import Derived.Test.YtdchjacccmajcaaGreatDoorZMFo
namespace Rw
open Fa (T Fail take)

/-- the script that a word names, 0 if none -/
def scrI (t : List UInt8) : Int := if t = scrT 1 then 1 else if t = scrT 2 then 2 else if t = scrT 3 then 3 else if t = scrT 4 then 4 else 0
def scriptP (e : Nat) (ts : List T) : Except Fail (Int × List T) :=
 match take 1 [] e ts with
 | .error x => .error x
 | .ok (t, r) => if scrI t.2.text = 0 then .error (5, t.1) else .ok (scrI t.2.text, r)
def costP (e : Nat) (ts : List T) : Except Fail (Int × List T) :=
 match take 2 [] e ts with
 | .error x => .error x
 | .ok (t, r) => if 1000 < t.2.n then .error (10, t.1) else .ok ((t.2.n : Int), r)
/-- is the next token this word? -/
def isW (w : List UInt8) : List T → Bool
 | [] => false
 | t :: _ => decide (t.2.kind = 1) && decide (t.2.text = w)
/-- a drop, or an end, after the ones before -/
def dropP (w : List UInt8) (most : Int) (out : List Drop) (e : Nat) (ts : List T) : Except Fail (Drop × List T) :=
 match take 1 w e ts with
 | .error x => .error x
 | .ok (t0, r0) =>
  if 40 ≤ out.length then .error (2, t0.1) else
  match scriptP e r0 with
  | .error x => .error x
  | .ok (k, r1) =>
   match take 3 [] e r1 with
   | .error x => .error x
   | .ok (s, r2) =>
    if folded k s.2.text most = false then .error (1, s.1) else
    match costP e r2 with
    | .error x => .error x
    | .ok (c, r3) =>
     match take 4 [59] e r3 with
     | .error x => .error x
     | .ok (z, r4) => if (⟨k, s.2.text, c⟩ : Drop).key ∈ out.map Drop.key then .error (9, z.1) else .ok (⟨k, s.2.text, c⟩, r4)
def dropsN : Nat → List UInt8 → Int → List Drop → Nat → List T → Except Fail (List Drop × List T)
 | 0, _, _, out, _, ts => .ok (out, ts)
 | n + 1, w, most, out, e, ts =>
  if isW w ts = true then
   match dropP w most out e ts with
   | .error x => .error x
   | .ok (d, r) => dropsN n w most (out ++ [d]) e r
  else .ok (out, ts)
/-- a rule after the ones before -/
def ruleP (rs : List Rule) (e : Nat) (ts : List T) : Except Fail (Rule × List T) :=
 match take 1 tRule e ts with
 | .error x => .error x
 | .ok (t0, r0) =>
  if 80 ≤ rs.length then .error (2, t0.1) else
  match scriptP e r0 with
  | .error x => .error x
  | .ok (k, r1) =>
   match take 3 [] e r1 with
   | .error x => .error x
   | .ok (s, r2) =>
    if folded k s.2.text 3 = false then .error (1, s.1) else
    match take 1 tTo e r2 with
    | .error x => .error x
    | .ok (_, r3) =>
     match take 3 [] e r3 with
     | .error x => .error x
     | .ok (o, r4) =>
      if isForm o.2.text = false then .error (1, o.1) else
      match take 1 tCost e r4 with
      | .error x => .error x
      | .ok (_, r5) =>
       match costP e r5 with
       | .error x => .error x
       | .ok (c, r6) =>
        match take 4 [59] e r6 with
        | .error x => .error x
        | .ok (z, r7) => if (⟨k, s.2.text, o.2.text, c⟩ : Rule).key ∈ rs.map Rule.key then .error (9, z.1) else .ok (⟨k, s.2.text, o.2.text, c⟩, r7)
def rulesN : Nat → List Rule → Nat → List T → Except Fail (List Rule × List T)
 | 0, rs, _, ts => .ok (rs, ts)
 | n + 1, rs, e, ts =>
  if rs = [] ∨ isW tRule ts = true then
   match ruleP rs e ts with
   | .error x => .error x
   | .ok (d, r) => rulesN n (rs ++ [d]) e r
  else .ok (rs, ts)
/-- the last line -/
def lastP (e : Nat) (ts : List T) : Except Fail ((Int × Int × Int) × List T) :=
 match take 1 tCosts e ts with
 | .error x => .error x
 | .ok (_, r0) =>
  match costP e r0 with
  | .error x => .error x
  | .ok (a, r1) =>
   match costP e r1 with
   | .error x => .error x
   | .ok (b, r2) =>
    match costP e r2 with
    | .error x => .error x
    | .ok (c, r3) =>
     match take 4 [59] e r3 with
     | .error x => .error x
     | .ok (_, r4) => .ok ((a, b, c), r4)
def tableP (e : Nat) (ts : List T) : Except Fail (Table × List T) :=
 match rulesN (ts.length + 1) [] e ts with
 | .error x => .error x
 | .ok (rs, r0) =>
  match dropsN (r0.length + 1) tDrop 12 [] e r0 with
  | .error x => .error x
  | .ok (ds, r1) =>
   match dropsN (r1.length + 1) tEnd 4 [] e r1 with
   | .error x => .error x
   | .ok (es, r2) =>
    match lastP e r2 with
    | .error x => .error x
    | .ok ((a, b, c), r3) => .ok (⟨rs, ds, es, a, b, c⟩, r3)
def noTable : Table := ⟨[], [], [], 0, 0, 0⟩
/-- what Parse returns -/
def parse (s : List UInt8) : Table × Int × Int :=
 match Lx.lex s with
 | (l, x, y) => if x ≠ 0 then (noTable, x, y) else
  match tableP s.length l with
  | .error (a, b) => (noTable, a, b)
  | .ok (t, []) => (t, 0, 0)
  | .ok (_, z :: _) => (noTable, 5, z.1)

/-! ### the tokens of a text -/
open Fa (Rd rd_name rd_num rd_sym rd_blank tkName tkNum tkSym)
open Lx (Tk)

end Rw
namespace Lx
end Lx
namespace Sc
theorem cuts_two (k : Int) : ∀ (n : Nat) (s : List UInt8), s.length ≤ n → ((cuts k s).1.flatten).length ≤ 2 * (cuts k s).1.length := by
 intro n
 induction n with
 | zero =>
  intro s hs
  have : s = [] := List.length_eq_zero_iff.1 (by omega)
  subst this
  have h0 : len k [] = 0 := by have := len_le k []; simpa using this
  rw [cuts_stop h0]
  simp
 | succ n ih =>
  intro s hs
  by_cases h0 : len k s = 0
  ·rw [cuts_stop h0]; simp
  ·rw [cuts_step h0]
   have h1 := ih (s.drop (len k s)) (by rw [List.length_drop]; omega)
   have h2 := len_two k s
   simp only [List.flatten_cons, List.length_append, List.length_cons, List.length_take]
   omega
theorem lets_24 {k : Int} {s : List UInt8} {l : List (List UInt8)} (h : lets k s = some l) : s.length ≤ 24 := by
 have hj := lets_join h
 have hl := (lets_len h).2
 unfold lets at h
 split at h
 ·obtain rfl := Option.some.inj h
  have := cuts_two k s.length s (Nat.le_refl _)
  rw [hj] at this
  omega
 ·cases h
end Sc
namespace Rw
open Fa (T Fail take Rd rd_name rd_num rd_sym rd_blank tkName tkNum tkSym toks_cons take_ok)
open Lx (Tk toks)

theorem lets_scr {k : Int} {s : List UInt8} {l : List (List UInt8)} (h : Sc.lets k s = some l) : 1 ≤ k ∧ k ≤ 4 := by
 by_cases hk : 1 ≤ k ∧ k ≤ 4
 ·exact hk
 ·have h0 : Sc.len k s = 0 := by
   unfold Sc.len
   rw [if_neg (by omega), if_neg (by omega), if_neg (by omega), if_neg (by omega)]
  have h1 := Sc.cuts_stop h0
  have h2 := (Sc.lets_len h).1
  unfold Sc.lets at h
  rw [h1] at h
  split at h
  ·exact absurd (Option.some.inj h).symm h2
  ·cases h
theorem folded_text {k : Int} {s : List UInt8} {most : Int} (h : folded k s most = true) : (1 ≤ k ∧ k ≤ 4) ∧ s.length ≤ 24 ∧ s.all Lx.inBody = true := by
 unfold folded at h
 cases hl : Sc.lets k s with
 | none => rw [hl] at h; cases h
 | some l =>
  refine ⟨lets_scr hl, Sc.lets_24 hl, ?_⟩
  rw [List.all_eq_true]
  exact fun c hc => Li.body_of_ge (Li.lets_ge hl c hc)
theorem form_text {s : List UInt8} (h : isForm s = true) : s.length ≤ 3 ∧ s.all Lx.inBody = true := by
 unfold isForm at h
 simp only [Bool.and_eq_true, decide_eq_true_eq, List.all_eq_true] at h
 refine ⟨h.1, ?_⟩
 rw [List.all_eq_true]
 exact fun c hc => Li.body_of_ge (Li.small_ge c (by simpa using h.2 c hc))
theorem scr_facts {k : Int} (h : 1 ≤ k ∧ k ≤ 4) : scrI (scrT k) = k ∧ Fa.nm (scrT k) = true := by
 have : k = 1 ∨ k = 2 ∨ k = 3 ∨ k = 4 := by omega
 rcases this with rfl | rfl | rfl | rfl <;> decide
end Rw
namespace Rw
open Fa (T Fail take Rd tkName tkNum tkSym toks_cons take_ok take_rest take_err)
open Lx (Tk toks)
theorem valid_parts {t : Table} (h : valid t = true) : t.rules ≠ [] ∧ t.rules.length ≤ 80 ∧ isCost t.drop = true ∧ isCost t.order = true ∧ isCost t.initial = true ∧ allOk ruleOk Rule.key t.rules [] = true ∧ (allOk (dropOk 12) Drop.key t.drops [] = true ∧ t.drops.length ≤ 40) ∧ allOk (dropOk 4) Drop.key t.ends [] = true ∧ t.ends.length ≤ 40 := by
 unfold valid dropsOk at h
 simp only [Bool.and_eq_true, decide_eq_true_eq] at h
 obtain ⟨⟨⟨⟨⟨⟨⟨h1, h2⟩, h3⟩, h4⟩, h5⟩, h6⟩, h7⟩, h8⟩ := h
 exact ⟨h1, h2, h3, h4, h5, h6, h7, h8⟩
theorem valid_mk {t : Table} (h1 : t.rules ≠ []) (h2 : t.rules.length ≤ 80) (h3 : isCost t.drop = true) (h4 : isCost t.order = true) (h5 : isCost t.initial = true) (h6 : allOk ruleOk Rule.key t.rules [] = true) (h7 : allOk (dropOk 12) Drop.key t.drops [] = true) (h8 : t.drops.length ≤ 40) (h9 : allOk (dropOk 4) Drop.key t.ends [] = true) (h10 : t.ends.length ≤ 40) : valid t = true := by
 unfold valid dropsOk
 simp only [Bool.and_eq_true, decide_eq_true_eq]
 exact ⟨⟨⟨⟨⟨⟨⟨h1, h2⟩, h3⟩, h4⟩, h5⟩, h6⟩, h7, h8⟩, h9, h10⟩
end Rw
namespace Lx
theorem lexN_err : ∀ (f cnt : Nat) (s : List UInt8) (e o : Nat), lexN f cnt s = .error (e, o) → 0 < e ∧ o ≤ s.length
 | 0, cnt, s, e, o, h => by simp [lexN] at h
 | f + 1, cnt, s, e, o, h => by
  rw [lexN] at h
  split at h
  ·simp at h
  ·rename_i c r hs
   split at h
   ·rename_i e' he
    simp only [Except.error.injEq, Prod.mk.injEq] at h
    obtain ⟨rfl, rfl⟩ := h
    exact ⟨Fa.next_err_pos he, by omega⟩
   ·rename_i t ht
    split at h
    ·simp only [Except.error.injEq, Prod.mk.injEq] at h
     obtain ⟨rfl, rfl⟩ := h
     exact ⟨by omega, by omega⟩
    ·have hlen := skip_cons_len hs
     have hw := next_width ht
     cases hr : lexN f (cnt + 1) ((c :: r).drop t.width) with
     | error x =>
      obtain ⟨a, b⟩ := x
      rw [hr] at h
      simp only [shiftR, Except.error.injEq, Prod.mk.injEq] at h
      obtain ⟨rfl, rfl⟩ := h
      have := lexN_err f (cnt + 1) _ a b hr
      simp only [List.length_drop, List.length_cons] at this
      omega
     | ok m => rw [hr] at h; simp [shiftR] at h
theorem lex_out {s : List UInt8} (h : s.length ≤ 20000) {l : List (Nat × Tk)} {x y : Int} (hl : lex s = (l, x, y)) : (∀ p ∈ l, p.1 ≤ s.length) ∧ 0 ≤ x ∧ 0 ≤ y ∧ y ≤ s.length := by
 unfold lex at hl
 rw [if_neg (by omega)] at hl
 cases hx : lx 0 s with
 | error z =>
  obtain ⟨a, b⟩ := z
  rw [hx] at hl
  simp only [Prod.mk.injEq] at hl
  obtain ⟨rfl, rfl, rfl⟩ := hl
  obtain ⟨h1, h2⟩ := lexN_err _ _ _ _ _ hx
  exact ⟨by simp, by omega, by omega, by omega⟩
 | ok m =>
  rw [hx] at hl
  simp only [Prod.mk.injEq] at hl
  obtain ⟨rfl, rfl, rfl⟩ := hl
  exact ⟨lexN_bound _ _ _ _ hx, by omega, by omega, by omega⟩
end Lx
namespace Rw
open Fa (T Fail take take_cons)

def Bnd (e : Nat) (ts : List T) : Prop := ∀ p ∈ ts, p.1 ≤ e
theorem Bnd.suf {e : Nat} {ts r : List T} (h : Bnd e ts) (hs : r <:+ ts) : Bnd e r := fun p hp => h p (hs.subset hp)
/-- what reading ends in -/
def OutP {α : Type} (e : Nat) (ts : List T) (P : α → Prop) : Except Fail (α × List T) → Prop
 | .error x => 0 < x.1 ∧ 0 ≤ x.2 ∧ x.2 ≤ e
 | .ok p => P p.1 ∧ p.2 <:+ ts
theorem OutP.suf {α : Type} {e : Nat} {ts r : List T} {P : α → Prop} {x : Except Fail (α × List T)} (h : OutP e r P x) (hs : r <:+ ts) : OutP e ts P x := by
 cases x with
 | error x => exact h
 | ok p => exact ⟨h.1, h.2.trans hs⟩
theorem take_out (k : Nat) (x : List UInt8) {e : Nat} {ts : List T} (hb : Bnd e ts) : OutP e ts (fun t => t.1 ≤ e) (take k x e ts) := by
 cases ts with
 | nil => exact ⟨by simp, by simp, by simp⟩
 | cons t r =>
  rw [take_cons]
  have := hb t List.mem_cons_self
  split
  ·exact ⟨this, List.suffix_cons _ _⟩
  ·exact ⟨by simp, by show (0 : Int) ≤ (t.1 : Int); omega, by show (t.1 : Int) ≤ (e : Int); omega⟩
theorem scriptP_out {e : Nat} {ts : List T} (hb : Bnd e ts) : OutP e ts (fun _ => True) (scriptP e ts) := by
 have h0 := take_out 1 [] hb
 unfold scriptP
 cases h : take 1 [] e ts with
 | error x => rw [h] at h0; exact h0
 | ok p =>
  obtain ⟨t, r⟩ := p
  rw [h] at h0
  obtain ⟨q, s⟩ := h0
  simp only at q s ⊢
  split
  ·exact ⟨by simp, by show (0 : Int) ≤ (t.1 : Int); omega, by show (t.1 : Int) ≤ (e : Int); omega⟩
  ·exact ⟨trivial, s⟩
theorem costP_out {e : Nat} {ts : List T} (hb : Bnd e ts) : OutP e ts (fun n => isCost n = true) (costP e ts) := by
 have h0 := take_out 2 [] hb
 unfold costP
 cases h : take 2 [] e ts with
 | error x => rw [h] at h0; exact h0
 | ok p =>
  obtain ⟨t, r⟩ := p
  rw [h] at h0
  obtain ⟨q, s⟩ := h0
  simp only at q s ⊢
  split
  ·exact ⟨by simp, by show (0 : Int) ≤ (t.1 : Int); omega, by show (t.1 : Int) ≤ (e : Int); omega⟩
  ·refine ⟨?_, s⟩
   unfold isCost
   simp only [Bool.and_eq_true, decide_eq_true_eq]
   omega
theorem ruleP_out {rs : List Rule} {e : Nat} {ts : List T} (hb0 : Bnd e ts) : OutP e ts (fun d => ruleOk d = true ∧ d.key ∉ rs.map Rule.key ∧ rs.length < 80) (ruleP rs e ts) := by
 unfold ruleP
 have h0 := take_out 1 tRule hb0
 cases g0 : take 1 tRule e ts with
 | error x => rw [g0] at h0; exact h0
 | ok p =>
  obtain ⟨a, r0⟩ := p
  rw [g0] at h0
  obtain ⟨q0, t0⟩ := h0
  simp only at q0 t0 ⊢
  have s0 : r0 <:+ ts := t0
  have hb1 := hb0.suf s0
  by_cases c0 : 80 ≤ rs.length
  ·rw [if_pos c0]
   exact ⟨by simp, by show (0 : Int) ≤ (a.1 : Int); omega, by show (a.1 : Int) ≤ (e : Int); omega⟩
  rw [if_neg c0]
  have h1 := scriptP_out hb1
  cases g1 : scriptP e r0 with
  | error x => rw [g1] at h1; exact h1
  | ok p =>
   obtain ⟨k, r1⟩ := p
   rw [g1] at h1
   obtain ⟨q1, t1⟩ := h1
   simp only at q1 t1 ⊢
   have s1 : r1 <:+ ts := t1.trans s0
   have hb2 := hb0.suf s1
   have h2 := take_out 3 [] hb2
   cases g2 : take 3 [] e r1 with
   | error x => rw [g2] at h2; exact h2
   | ok p =>
    obtain ⟨s, r2⟩ := p
    rw [g2] at h2
    obtain ⟨q2, t2⟩ := h2
    simp only at q2 t2 ⊢
    have s2 : r2 <:+ ts := t2.trans s1
    have hb3 := hb0.suf s2
    by_cases c2 : folded k s.2.text 3 = false
    ·rw [if_pos c2]
     exact ⟨by simp, by show (0 : Int) ≤ (s.1 : Int); omega, by show (s.1 : Int) ≤ (e : Int); omega⟩
    rw [if_neg c2]
    have h3 := take_out 1 tTo hb3
    cases g3 : take 1 tTo e r2 with
    | error x => rw [g3] at h3; exact h3
    | ok p =>
     obtain ⟨b, r3⟩ := p
     rw [g3] at h3
     obtain ⟨q3, t3⟩ := h3
     simp only at q3 t3 ⊢
     have s3 : r3 <:+ ts := t3.trans s2
     have hb4 := hb0.suf s3
     have h4 := take_out 3 [] hb4
     cases g4 : take 3 [] e r3 with
     | error x => rw [g4] at h4; exact h4
     | ok p =>
      obtain ⟨o, r4⟩ := p
      rw [g4] at h4
      obtain ⟨q4, t4⟩ := h4
      simp only at q4 t4 ⊢
      have s4 : r4 <:+ ts := t4.trans s3
      have hb5 := hb0.suf s4
      by_cases c4 : isForm o.2.text = false
      ·rw [if_pos c4]
       exact ⟨by simp, by show (0 : Int) ≤ (o.1 : Int); omega, by show (o.1 : Int) ≤ (e : Int); omega⟩
      rw [if_neg c4]
      have h5 := take_out 1 tCost hb5
      cases g5 : take 1 tCost e r4 with
      | error x => rw [g5] at h5; exact h5
      | ok p =>
       obtain ⟨d, r5⟩ := p
       rw [g5] at h5
       obtain ⟨q5, t5⟩ := h5
       simp only at q5 t5 ⊢
       have s5 : r5 <:+ ts := t5.trans s4
       have hb6 := hb0.suf s5
       have h6 := costP_out hb6
       cases g6 : costP e r5 with
       | error x => rw [g6] at h6; exact h6
       | ok p =>
        obtain ⟨c, r6⟩ := p
        rw [g6] at h6
        obtain ⟨q6, t6⟩ := h6
        simp only at q6 t6 ⊢
        have s6 : r6 <:+ ts := t6.trans s5
        have hb7 := hb0.suf s6
        have h7 := take_out 4 [59] hb7
        cases g7 : take 4 [59] e r6 with
        | error x => rw [g7] at h7; exact h7
        | ok p =>
         obtain ⟨z, r7⟩ := p
         rw [g7] at h7
         obtain ⟨q7, t7⟩ := h7
         simp only at q7 t7 ⊢
         have s7 : r7 <:+ ts := t7.trans s6
         have hb8 := hb0.suf s7
         by_cases c7 : (⟨k, s.2.text, o.2.text, c⟩ : Rule).key ∈ rs.map Rule.key
         ·rw [if_pos c7]
          exact ⟨by simp, by show (0 : Int) ≤ (z.1 : Int); omega, by show (z.1 : Int) ≤ (e : Int); omega⟩
         rw [if_neg c7]
         refine ⟨⟨?_, c7, by omega⟩, s7⟩
         unfold ruleOk
         simp only [Bool.and_eq_true]
         exact ⟨⟨by simpa using c2, by simpa using c4⟩, q6⟩
theorem dropP_out {w : List UInt8} {most : Int} {out : List Drop} {e : Nat} {ts : List T} (hb0 : Bnd e ts) : OutP e ts (fun d => dropOk most d = true ∧ d.key ∉ out.map Drop.key ∧ out.length < 40) (dropP w most out e ts) := by
 unfold dropP
 have h0 := take_out 1 w hb0
 cases g0 : take 1 w e ts with
 | error x => rw [g0] at h0; exact h0
 | ok p =>
  obtain ⟨a, r0⟩ := p
  rw [g0] at h0
  obtain ⟨q0, t0⟩ := h0
  simp only at q0 t0 ⊢
  have s0 : r0 <:+ ts := t0
  have hb1 := hb0.suf s0
  by_cases c0 : 40 ≤ out.length
  ·rw [if_pos c0]
   exact ⟨by simp, by show (0 : Int) ≤ (a.1 : Int); omega, by show (a.1 : Int) ≤ (e : Int); omega⟩
  rw [if_neg c0]
  have h1 := scriptP_out hb1
  cases g1 : scriptP e r0 with
  | error x => rw [g1] at h1; exact h1
  | ok p =>
   obtain ⟨k, r1⟩ := p
   rw [g1] at h1
   obtain ⟨q1, t1⟩ := h1
   simp only at q1 t1 ⊢
   have s1 : r1 <:+ ts := t1.trans s0
   have hb2 := hb0.suf s1
   have h2 := take_out 3 [] hb2
   cases g2 : take 3 [] e r1 with
   | error x => rw [g2] at h2; exact h2
   | ok p =>
    obtain ⟨s, r2⟩ := p
    rw [g2] at h2
    obtain ⟨q2, t2⟩ := h2
    simp only at q2 t2 ⊢
    have s2 : r2 <:+ ts := t2.trans s1
    have hb3 := hb0.suf s2
    by_cases c2 : folded k s.2.text most = false
    ·rw [if_pos c2]
     exact ⟨by simp, by show (0 : Int) ≤ (s.1 : Int); omega, by show (s.1 : Int) ≤ (e : Int); omega⟩
    rw [if_neg c2]
    have h3 := costP_out hb3
    cases g3 : costP e r2 with
    | error x => rw [g3] at h3; exact h3
    | ok p =>
     obtain ⟨c, r3⟩ := p
     rw [g3] at h3
     obtain ⟨q3, t3⟩ := h3
     simp only at q3 t3 ⊢
     have s3 : r3 <:+ ts := t3.trans s2
     have hb4 := hb0.suf s3
     have h4 := take_out 4 [59] hb4
     cases g4 : take 4 [59] e r3 with
     | error x => rw [g4] at h4; exact h4
     | ok p =>
      obtain ⟨z, r4⟩ := p
      rw [g4] at h4
      obtain ⟨q4, t4⟩ := h4
      simp only at q4 t4 ⊢
      have s4 : r4 <:+ ts := t4.trans s3
      have hb5 := hb0.suf s4
      by_cases c4 : (⟨k, s.2.text, c⟩ : Drop).key ∈ out.map Drop.key
      ·rw [if_pos c4]
       exact ⟨by simp, by show (0 : Int) ≤ (z.1 : Int); omega, by show (z.1 : Int) ≤ (e : Int); omega⟩
      rw [if_neg c4]
      refine ⟨⟨?_, c4, by omega⟩, s4⟩
      unfold dropOk
      simp only [Bool.and_eq_true]
      exact ⟨by simpa using c2, q3⟩
theorem lastP_out  {e : Nat} {ts : List T} (hb0 : Bnd e ts) : OutP e ts (fun p => isCost p.1 = true ∧ isCost p.2.1 = true ∧ isCost p.2.2 = true) (lastP e ts) := by
 unfold lastP
 have h0 := take_out 1 tCosts hb0
 cases g0 : take 1 tCosts e ts with
 | error x => rw [g0] at h0; exact h0
 | ok p =>
  obtain ⟨a, r0⟩ := p
  rw [g0] at h0
  obtain ⟨q0, t0⟩ := h0
  simp only at q0 t0 ⊢
  have s0 : r0 <:+ ts := t0
  have hb1 := hb0.suf s0
  have h1 := costP_out hb1
  cases g1 : costP e r0 with
  | error x => rw [g1] at h1; exact h1
  | ok p =>
   obtain ⟨x, r1⟩ := p
   rw [g1] at h1
   obtain ⟨q1, t1⟩ := h1
   simp only at q1 t1 ⊢
   have s1 : r1 <:+ ts := t1.trans s0
   have hb2 := hb0.suf s1
   have h2 := costP_out hb2
   cases g2 : costP e r1 with
   | error x => rw [g2] at h2; exact h2
   | ok p =>
    obtain ⟨y, r2⟩ := p
    rw [g2] at h2
    obtain ⟨q2, t2⟩ := h2
    simp only at q2 t2 ⊢
    have s2 : r2 <:+ ts := t2.trans s1
    have hb3 := hb0.suf s2
    have h3 := costP_out hb3
    cases g3 : costP e r2 with
    | error x => rw [g3] at h3; exact h3
    | ok p =>
     obtain ⟨z, r3⟩ := p
     rw [g3] at h3
     obtain ⟨q3, t3⟩ := h3
     simp only at q3 t3 ⊢
     have s3 : r3 <:+ ts := t3.trans s2
     have hb4 := hb0.suf s3
     have h4 := take_out 4 [59] hb4
     cases g4 : take 4 [59] e r3 with
     | error x => rw [g4] at h4; exact h4
     | ok p =>
      obtain ⟨b, r4⟩ := p
      rw [g4] at h4
      obtain ⟨q4, t4⟩ := h4
      simp only at q4 t4 ⊢
      have s4 : r4 <:+ ts := t4.trans s3
      have hb5 := hb0.suf s4
      exact ⟨⟨q1, q2, q3⟩, s4⟩
/-- rules, drops as they may be -/
def RulesW (l : List Rule) : Prop := (∀ d ∈ l, ruleOk d = true) ∧ (l.map Rule.key).Nodup ∧ l.length ≤ 80
def DropsW (most : Int) (l : List Drop) : Prop := (∀ d ∈ l, dropOk most d = true) ∧ (l.map Drop.key).Nodup ∧ l.length ≤ 40
theorem RulesW.snoc {l : List Rule} {d : Rule} (h : RulesW l) (h1 : ruleOk d = true) (h2 : d.key ∉ l.map Rule.key) (h3 : l.length < 80) : RulesW (l ++ [d]) := by
 obtain ⟨a, b, c⟩ := h
 refine ⟨fun x hx => ?_, ?_, by rw [List.length_append, List.length_singleton]; omega⟩
 ·rcases List.mem_append.1 hx with hx | hx
  ·exact a x hx
  ·rw [List.mem_singleton.1 hx]; exact h1
 ·rw [List.map_append, List.map_singleton]
  refine List.nodup_append.2 ⟨b, by simp, fun x hx y hy e => ?_⟩
  rw [List.mem_singleton.1 hy] at e
  rw [e] at hx
  exact h2 hx
theorem DropsW.snoc {most : Int} {l : List Drop} {d : Drop} (h : DropsW most l) (h1 : dropOk most d = true) (h2 : d.key ∉ l.map Drop.key) (h3 : l.length < 40) : DropsW most (l ++ [d]) := by
 obtain ⟨a, b, c⟩ := h
 refine ⟨fun x hx => ?_, ?_, by rw [List.length_append, List.length_singleton]; omega⟩
 ·rcases List.mem_append.1 hx with hx | hx
  ·exact a x hx
  ·rw [List.mem_singleton.1 hx]; exact h1
 ·rw [List.map_append, List.map_singleton]
  refine List.nodup_append.2 ⟨b, by simp, fun x hx y hy e => ?_⟩
  rw [List.mem_singleton.1 hy] at e
  rw [e] at hx
  exact h2 hx
theorem rulesN_out : ∀ (n : Nat) (acc : List Rule) (e : Nat) (ts : List T), Bnd e ts → RulesW acc → (acc ≠ [] ∨ 0 < n) → OutP e ts (fun l => RulesW l ∧ l ≠ []) (rulesN n acc e ts)
 | 0, acc, e, ts, hb, ha, hn => ⟨⟨ha, by rcases hn with h | h; (· exact h); omega⟩, List.suffix_refl _⟩
 | n + 1, acc, e, ts, hb, ha, hn => by
  unfold rulesN
  by_cases hc : acc = [] ∨ isW tRule ts = true
  ·rw [if_pos hc]
   have h0 := ruleP_out (rs := acc) hb
   cases g : ruleP acc e ts with
   | error x => rw [g] at h0; exact h0
   | ok p =>
    obtain ⟨d, r⟩ := p
    rw [g] at h0
    obtain ⟨⟨q1, q2, q3⟩, s⟩ := h0
    exact (rulesN_out n (acc ++ [d]) e r (hb.suf s) (ha.snoc q1 q2 q3) (.inl (by simp))).suf s
  ·rw [if_neg hc]
   exact ⟨⟨ha, fun h => hc (.inl h)⟩, List.suffix_refl _⟩
theorem dropsN_out {w : List UInt8} {most : Int} : ∀ (n : Nat) (acc : List Drop) (e : Nat) (ts : List T), Bnd e ts → DropsW most acc → OutP e ts (fun l => DropsW most l) (dropsN n w most acc e ts)
 | 0, acc, e, ts, _, ha => ⟨ha, List.suffix_refl _⟩
 | n + 1, acc, e, ts, hb, ha => by
  unfold dropsN
  by_cases hc : isW w ts = true
  ·rw [if_pos hc]
   have h0 := dropP_out (w := w) (most := most) (out := acc) hb
   cases g : dropP w most acc e ts with
   | error x => rw [g] at h0; exact h0
   | ok p =>
    obtain ⟨d, r⟩ := p
    rw [g] at h0
    obtain ⟨⟨q1, q2, q3⟩, s⟩ := h0
    exact (dropsN_out n (acc ++ [d]) e r (hb.suf s) (ha.snoc q1 q2 q3)).suf s
  ·rw [if_neg hc]
   exact ⟨ha, List.suffix_refl _⟩
theorem tableP_out {e : Nat} {ts : List T} (hb : Bnd e ts) : OutP e ts (fun t => valid t = true) (tableP e ts) := by
 unfold tableP
 have h0 := rulesN_out (ts.length + 1) [] e ts hb ⟨by simp, by simp, by simp⟩ (.inr (by omega))
 cases g0 : rulesN (ts.length + 1) [] e ts with
 | error x => rw [g0] at h0; exact h0
 | ok p =>
  obtain ⟨rs, r0⟩ := p
  rw [g0] at h0
  obtain ⟨⟨⟨a1, a2, a3⟩, a4⟩, s0⟩ := h0
  simp only at a1 a2 a3 a4 s0 ⊢
  have h1 := (dropsN_out (w := tDrop) (most := 12) (r0.length + 1) [] e r0 (hb.suf s0) ⟨by simp, by simp, by simp⟩).suf s0
  cases g1 : dropsN (r0.length + 1) tDrop 12 [] e r0 with
  | error x => rw [g1] at h1; exact h1
  | ok p =>
   obtain ⟨ds, r1⟩ := p
   rw [g1] at h1
   obtain ⟨⟨b1, b2, b3⟩, s1⟩ := h1
   simp only at b1 b2 b3 s1 ⊢
   have h2 := (dropsN_out (w := tEnd) (most := 4) (r1.length + 1) [] e r1 (hb.suf s1) ⟨by simp, by simp, by simp⟩).suf s1
   cases g2 : dropsN (r1.length + 1) tEnd 4 [] e r1 with
   | error x => rw [g2] at h2; exact h2
   | ok p =>
    obtain ⟨es, r2⟩ := p
    rw [g2] at h2
    obtain ⟨⟨c1, c2, c3⟩, s2⟩ := h2
    simp only at c1 c2 c3 s2 ⊢
    have h3 := (lastP_out (hb.suf s2)).suf s2
    cases g3 : lastP e r2 with
    | error x => rw [g3] at h3; exact h3
    | ok p =>
     obtain ⟨⟨x, y, z⟩, r3⟩ := p
     rw [g3] at h3
     obtain ⟨⟨d1, d2, d3⟩, s3⟩ := h3
     exact ⟨valid_mk a4 a3 d1 d2 d3 (allOk_iff.2 ⟨a1, a2, by simp⟩) (allOk_iff.2 ⟨b1, b2, by simp⟩) b3 (allOk_iff.2 ⟨c1, c2, by simp⟩) c3, s3⟩
/-- what Parse returns -/
theorem parse_out {s : List UInt8} (h : s.length ≤ 20000) : ((parse s).2.1 ≠ 0 → (parse s).1 = noTable ∧ 0 ≤ (parse s).2.2 ∧ (parse s).2.2 ≤ s.length) ∧ ((parse s).2.1 = 0 → valid (parse s).1 = true ∧ (parse s).2.2 = 0) := by
 rcases hl : Lx.lex s with ⟨l, x, y⟩
 obtain ⟨h1, h2, h3, h4⟩ := Lx.lex_out h hl
 unfold parse
 rw [hl]
 simp only
 by_cases hx : x = 0
 ·rw [if_neg (by simpa using hx)]
  have ht := tableP_out (e := s.length) (ts := l) h1
  cases g : tableP s.length l with
  | error z =>
   obtain ⟨a, b⟩ := z
   rw [g] at ht
   obtain ⟨t1, t2, t3⟩ := ht
   simp only at t1 t2 t3 ⊢
   exact ⟨fun _ => ⟨trivial, t2, t3⟩, fun h0 => by omega⟩
  | ok p =>
   obtain ⟨t, r⟩ := p
   rw [g] at ht
   obtain ⟨t1, t2⟩ := ht
   cases r with
   | nil => exact ⟨fun h0 => absurd rfl h0, fun _ => ⟨t1, rfl⟩⟩
   | cons z r =>
    have := h1 z (t2.subset List.mem_cons_self)
    simp only
    exact ⟨fun _ => ⟨trivial, by omega, by omega⟩, fun h0 => by omega⟩
 ·rw [if_pos hx]
  exact ⟨fun _ => ⟨rfl, h3, h4⟩, fun h0 => absurd h0 hx⟩

end Rw

namespace Rw
open Fa (T Fail take take_rest)

theorem take_less {k : Nat} {x : List UInt8} {e : Nat} {ts r : List T} {t : T} (h : take k x e ts = .ok (t, r)) : r.length < ts.length := by
 obtain ⟨rfl, -⟩ := take_rest h
 simp
theorem take_suf {k : Nat} {x : List UInt8} {e : Nat} {ts r : List T} {t : T} (h : take k x e ts = .ok (t, r)) : r <:+ ts := by
 obtain ⟨rfl, -⟩ := take_rest h
 exact List.suffix_cons _ _
theorem take_mem {k : Nat} {x : List UInt8} {e : Nat} {ts r : List T} {t : T} (h : take k x e ts = .ok (t, r)) : t ∈ ts := by
 obtain ⟨rfl, -⟩ := take_rest h
 exact List.mem_cons_self
theorem scriptP_suf {e : Nat} {ts r : List T} {k : Int} (h : scriptP e ts = .ok (k, r)) : r <:+ ts := by
 unfold scriptP at h
 cases g : take 1 [] e ts with
 | error x => rw [g] at h; cases h
 | ok p =>
  obtain ⟨t, r0⟩ := p
  rw [g] at h
  simp only at h
  split at h
  ·cases h
  ·cases h
   exact take_suf g
theorem costP_suf {e : Nat} {ts r : List T} {k : Int} (h : costP e ts = .ok (k, r)) : r <:+ ts := by
 unfold costP at h
 cases g : take 2 [] e ts with
 | error x => rw [g] at h; cases h
 | ok p =>
  obtain ⟨t, r0⟩ := p
  rw [g] at h
  simp only at h
  split at h
  ·cases h
  ·cases h
   exact take_suf g
theorem scriptP_less {e : Nat} {ts r : List T} {k : Int} (h : scriptP e ts = .ok (k, r)) : r.length < ts.length := by
 unfold scriptP at h
 cases g : take 1 [] e ts with
 | error x => rw [g] at h; cases h
 | ok p =>
  obtain ⟨t, r0⟩ := p
  rw [g] at h
  simp only at h
  split at h
  ·cases h
  ·cases h
   exact take_less g
theorem costP_less {e : Nat} {ts r : List T} {k : Int} (h : costP e ts = .ok (k, r)) : r.length < ts.length := by
 unfold costP at h
 cases g : take 2 [] e ts with
 | error x => rw [g] at h; cases h
 | ok p =>
  obtain ⟨t, r0⟩ := p
  rw [g] at h
  simp only at h
  split at h
  ·cases h
  ·cases h
   exact take_less g
theorem ruleP_less {rs : List Rule} {e : Nat} {ts r : List T} {v : Rule} (h : ruleP rs e ts = .ok (v, r)) : r.length < ts.length := by
 unfold ruleP at h
 cases g0 : take 1 tRule e ts with
 | error x => rw [g0] at h; cases h
 | ok p =>
  obtain ⟨a, r0⟩ := p
  rw [g0] at h
  simp only at h
  have l0 := take_less g0
  by_cases c0 : 80 ≤ rs.length
  ·rw [if_pos c0] at h; cases h
  rw [if_neg c0] at h
  cases g1 : scriptP e r0 with
  | error x => rw [g1] at h; cases h
  | ok p =>
   obtain ⟨k, r1⟩ := p
   rw [g1] at h
   simp only at h
   have l1 := scriptP_less g1
   cases g2 : take 3 [] e r1 with
   | error x => rw [g2] at h; cases h
   | ok p =>
    obtain ⟨s, r2⟩ := p
    rw [g2] at h
    simp only at h
    have l2 := take_less g2
    by_cases c2 : folded k s.2.text 3 = false
    ·rw [if_pos c2] at h; cases h
    rw [if_neg c2] at h
    cases g3 : take 1 tTo e r2 with
    | error x => rw [g3] at h; cases h
    | ok p =>
     obtain ⟨b, r3⟩ := p
     rw [g3] at h
     simp only at h
     have l3 := take_less g3
     cases g4 : take 3 [] e r3 with
     | error x => rw [g4] at h; cases h
     | ok p =>
      obtain ⟨o, r4⟩ := p
      rw [g4] at h
      simp only at h
      have l4 := take_less g4
      by_cases c4 : isForm o.2.text = false
      ·rw [if_pos c4] at h; cases h
      rw [if_neg c4] at h
      cases g5 : take 1 tCost e r4 with
      | error x => rw [g5] at h; cases h
      | ok p =>
       obtain ⟨d, r5⟩ := p
       rw [g5] at h
       simp only at h
       have l5 := take_less g5
       cases g6 : costP e r5 with
       | error x => rw [g6] at h; cases h
       | ok p =>
        obtain ⟨c, r6⟩ := p
        rw [g6] at h
        simp only at h
        have l6 := costP_less g6
        cases g7 : take 4 [59] e r6 with
        | error x => rw [g7] at h; cases h
        | ok p =>
         obtain ⟨z, r7⟩ := p
         rw [g7] at h
         simp only at h
         have l7 := take_less g7
         by_cases c7 : (⟨k, s.2.text, o.2.text, c⟩ : Rule).key ∈ rs.map Rule.key
         ·rw [if_pos c7] at h; cases h
         rw [if_neg c7] at h
         cases h
         omega
theorem dropP_less {w : List UInt8} {most : Int} {out : List Drop} {e : Nat} {ts r : List T} {v : Drop} (h : dropP w most out e ts = .ok (v, r)) : r.length < ts.length := by
 unfold dropP at h
 cases g0 : take 1 w e ts with
 | error x => rw [g0] at h; cases h
 | ok p =>
  obtain ⟨a, r0⟩ := p
  rw [g0] at h
  simp only at h
  have l0 := take_less g0
  by_cases c0 : 40 ≤ out.length
  ·rw [if_pos c0] at h; cases h
  rw [if_neg c0] at h
  cases g1 : scriptP e r0 with
  | error x => rw [g1] at h; cases h
  | ok p =>
   obtain ⟨k, r1⟩ := p
   rw [g1] at h
   simp only at h
   have l1 := scriptP_less g1
   cases g2 : take 3 [] e r1 with
   | error x => rw [g2] at h; cases h
   | ok p =>
    obtain ⟨s, r2⟩ := p
    rw [g2] at h
    simp only at h
    have l2 := take_less g2
    by_cases c2 : folded k s.2.text most = false
    ·rw [if_pos c2] at h; cases h
    rw [if_neg c2] at h
    cases g3 : costP e r2 with
    | error x => rw [g3] at h; cases h
    | ok p =>
     obtain ⟨c, r3⟩ := p
     rw [g3] at h
     simp only at h
     have l3 := costP_less g3
     cases g4 : take 4 [59] e r3 with
     | error x => rw [g4] at h; cases h
     | ok p =>
      obtain ⟨z, r4⟩ := p
      rw [g4] at h
      simp only at h
      have l4 := take_less g4
      by_cases c4 : (⟨k, s.2.text, c⟩ : Drop).key ∈ out.map Drop.key
      ·rw [if_pos c4] at h; cases h
      rw [if_neg c4] at h
      cases h
      omega
theorem dropsN_fuel {w : List UInt8} {most : Int} : ∀ (n m : Nat) (out : List Drop) (e : Nat) (ts : List T), ts.length < n → ts.length < m → dropsN n w most out e ts = dropsN m w most out e ts
 | n + 1, m + 1, out, e, ts, h1, h2 => by
  unfold dropsN
  by_cases hc : isW w ts = true
  ·rw [if_pos hc, if_pos hc]
   cases g : dropP w most out e ts with
   | error x => rfl
   | ok p =>
    obtain ⟨d, r⟩ := p
    have := dropP_less g
    exact dropsN_fuel n m _ e r (by omega) (by omega)
  ·rw [if_neg hc, if_neg hc]
 | 0, _, _, _, _, h1, _ => by omega
 | _, 0, _, _, _, _, h2 => by omega
theorem rulesN_fuel : ∀ (n m : Nat) (rs : List Rule) (e : Nat) (ts : List T), ts.length < n → ts.length < m → rulesN n rs e ts = rulesN m rs e ts
 | n + 1, m + 1, rs, e, ts, h1, h2 => by
  unfold rulesN
  by_cases hc : rs = [] ∨ isW tRule ts = true
  ·rw [if_pos hc, if_pos hc]
   cases g : ruleP rs e ts with
   | error x => rfl
   | ok p =>
    obtain ⟨d, r⟩ := p
    have := ruleP_less g
    exact rulesN_fuel n m _ e r (by omega) (by omega)
  ·rw [if_neg hc, if_neg hc]
 | 0, _, _, _, _, h1, _ => by omega
 | _, 0, _, _, _, _, h2 => by omega
/-- the loops without their fuel -/
def dropsT (w : List UInt8) (most : Int) (out : List Drop) (e : Nat) (ts : List T) : Except Fail (List Drop × List T) := dropsN (ts.length + 1) w most out e ts
def rulesT (rs : List Rule) (e : Nat) (ts : List T) : Except Fail (List Rule × List T) := rulesN (ts.length + 1) rs e ts
theorem dropsT_eq (w : List UInt8) (most : Int) (out : List Drop) (e : Nat) (ts : List T) : dropsT w most out e ts = if isW w ts = true then (match dropP w most out e ts with | .error x => .error x | .ok (d, r) => dropsT w most (out ++ [d]) e r) else .ok (out, ts) := by
 unfold dropsT
 rw [dropsN]
 by_cases hc : isW w ts = true
 ·rw [if_pos hc, if_pos hc]
  cases g : dropP w most out e ts with
  | error x => rfl
  | ok p =>
   obtain ⟨d, r⟩ := p
   have := dropP_less g
   exact dropsN_fuel _ _ _ e r (by omega) (by omega)
 ·rw [if_neg hc, if_neg hc]
theorem rulesT_eq (rs : List Rule) (e : Nat) (ts : List T) : rulesT rs e ts = if rs = [] ∨ isW tRule ts = true then (match ruleP rs e ts with | .error x => .error x | .ok (d, r) => rulesT (rs ++ [d]) e r) else .ok (rs, ts) := by
 unfold rulesT
 rw [rulesN]
 by_cases hc : rs = [] ∨ isW tRule ts = true
 ·rw [if_pos hc, if_pos hc]
  cases g : ruleP rs e ts with
  | error x => rfl
  | ok p =>
   obtain ⟨d, r⟩ := p
   have := ruleP_less g
   exact rulesN_fuel _ _ _ e r (by omega) (by omega)
 ·rw [if_neg hc, if_neg hc]

end Rw
