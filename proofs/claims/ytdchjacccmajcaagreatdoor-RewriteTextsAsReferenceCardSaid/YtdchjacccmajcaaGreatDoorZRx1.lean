/-
 The reference's reader of tables, plainly, and that it reads what the program's parser reads. NO PROGRAM IN THIS TEXT.
-/
import Derived.Test.YtdchjacccmajcaaGreatDoorZMRp
namespace Rw
open Fa (T Fail take take_cons)

/-- where a reader stands, its first error, the error's place -/
structure RS where
 k : Nat
 er : Int
 at_ : Int
def zT : T := (0, ⟨0, 0, []⟩)
def RS.fail (r : RS) (l : List T) (x : Int) : RS := if r.er = 0 then ⟨r.k, x, ((l.getD (r.k - 1) zT).1 : Nat)⟩ else r
def RS.tok (r : RS) (l : List T) (e kd : Nat) (x : List UInt8) : T × RS :=
 if r.er = 0 then
  match l[r.k]? with
  | none => (zT, ⟨r.k, 6, e⟩)
  | some t => if t.2.kind = kd ∧ (x = [] ∨ t.2.text = x) then (t, ⟨r.k + 1, 0, r.at_⟩) else (zT, ⟨r.k + 1, 5, t.1⟩)
 else (zT, r)
/-- a token is taken, and an error noted if c holds of it -/
def RS.tokC (r : RS) (l : List T) (e kd : Nat) (x : List UInt8) (c : T → Prop) [DecidablePred c] (y : Int) : T × RS :=
 ((r.tok l e kd x).1, if c (r.tok l e kd x).1 then (r.tok l e kd x).2.fail l y else (r.tok l e kd x).2)
def RS.next (r : RS) (l : List T) (x : List UInt8) : Bool := decide (r.er = 0) && isW x (l.drop r.k)

theorem RS.fail_dead {r : RS} (h : r.er ≠ 0) (l : List T) (x : Int) : r.fail l x = r := by unfold RS.fail; rw [if_neg h]
theorem RS.fail_live {r : RS} (h : r.er = 0) (l : List T) (x : Int) : r.fail l x = ⟨r.k, x, ((l.getD (r.k - 1) zT).1 : Nat)⟩ := by unfold RS.fail; rw [if_pos h]
theorem RS.tok_dead {r : RS} (h : r.er ≠ 0) (l : List T) (e kd : Nat) (x : List UInt8) : r.tok l e kd x = (zT, r) := by unfold RS.tok; rw [if_neg h]
theorem RS.tokC_dead {r : RS} (h : r.er ≠ 0) (l : List T) (e kd : Nat) (x : List UInt8) (c : T → Prop) [DecidablePred c] (y : Int) : r.tokC l e kd x c y = (zT, r) := by
 unfold RS.tokC
 rw [RS.tok_dead h]
 simp only [RS.fail_dead h, ite_self]
theorem drop_at {l : List T} {k : Nat} {t : T} (h : l[k]? = some t) : l.drop k = t :: l.drop (k + 1) := by
 obtain ⟨hk, rfl⟩ := List.getElem?_eq_some_iff.1 h
 exact List.drop_eq_getElem_cons hk
theorem drop_end {l : List T} {k : Nat} (h : l[k]? = none) : l.drop k = [] := List.drop_eq_nil_of_le (List.getElem?_eq_none_iff.1 h)
/-- what a taking is, while there is no error -/
theorem RS.tokC_live {r : RS} (h : r.er = 0) (l : List T) (e kd : Nat) (x : List UInt8) (c : T → Prop) [DecidablePred c] (y : Int) (_hy : y ≠ 0) :
  match take kd x e (l.drop r.k) with
  | .error z => (r.tokC l e kd x c y).2.er = z.1 ∧ (r.tokC l e kd x c y).2.at_ = z.2 ∧ z.1 ≠ 0
  | .ok (t, rest) => if c t then (r.tokC l e kd x c y).2.er = y ∧ (r.tokC l e kd x c y).2.at_ = t.1
    else r.tokC l e kd x c y = (t, ⟨r.k + 1, 0, r.at_⟩) ∧ rest = l.drop (r.k + 1) ∧ r.k < l.length := by
 cases hx : l[r.k]? with
 | none =>
  rw [drop_end hx]
  unfold RS.tokC RS.tok
  rw [if_pos h, hx]
  simp only
  show _ ∧ _ ∧ (6 : Int) ≠ 0
  have hd : (⟨r.k, 6, e⟩ : RS).er ≠ 0 := by show (6 : Int) ≠ 0; decide
  rw [RS.fail_dead hd, ite_self]
  exact ⟨rfl, rfl, by decide⟩
 | some t =>
  rw [drop_at hx, take_cons]
  have hk := (List.getElem?_eq_some_iff.1 hx).1
  by_cases hc : t.2.kind = kd ∧ (x = [] ∨ t.2.text = x)
  ·rw [if_pos hc]
   have ht : r.tok l e kd x = (t, ⟨r.k + 1, 0, r.at_⟩) := by unfold RS.tok; rw [if_pos h, hx]; simp only; rw [if_pos hc]
   simp only
   unfold RS.tokC
   rw [ht]
   by_cases hct : c t
   ·rw [if_pos hct]
    simp only [if_pos hct]
    rw [RS.fail_live rfl]
    refine ⟨rfl, ?_⟩
    show (((l.getD (r.k + 1 - 1) zT).1 : Nat) : Int) = _
    rw [Nat.add_sub_cancel, List.getD_eq_getElem?_getD, hx]
    rfl
   ·rw [if_neg hct]
    simp only [if_neg hct]
    exact ⟨trivial, trivial, hk⟩
  ·rw [if_neg hc]
   have ht : r.tok l e kd x = (zT, ⟨r.k + 1, 5, t.1⟩) := by unfold RS.tok; rw [if_pos h, hx]; simp only; rw [if_neg hc]
   simp only
   unfold RS.tokC
   rw [ht]
   have hd : (⟨r.k + 1, 5, t.1⟩ : RS).er ≠ 0 := by show (5 : Int) ≠ 0; decide
   simp only [RS.fail_dead hd, ite_self]
   exact ⟨trivial, trivial, by decide⟩
theorem RS.fail_er {r : RS} {l : List T} {y : Int} (hy : y ≠ 0) : (r.fail l y).er ≠ 0 := by
 unfold RS.fail
 split
 ·exact hy
 ·assumption
/-- alive behind a taking: alive ahead of it, and the token is as it should be -/
theorem RS.tokC_alive {r : RS} {l : List T} {e kd : Nat} {x : List UInt8} {c : T → Prop} [DecidablePred c] {y : Int} (hy : y ≠ 0) (h : (r.tokC l e kd x c y).2.er = 0) :
  r.er = 0 ∧ ¬ c (r.tokC l e kd x c y).1 ∧ (r.tokC l e kd x c y).2 = (r.tok l e kd x).2 := by
 have hr : r.er = 0 := by
  by_cases h0 : r.er = 0
  ·exact h0
  ·rw [RS.tokC_dead h0] at h; exact absurd h h0
 by_cases hc : c (r.tok l e kd x).1
 ·unfold RS.tokC at h
  rw [if_pos hc] at h
  exact absurd h (RS.fail_er hy)
 ·refine ⟨hr, hc, ?_⟩
  unfold RS.tokC
  rw [if_neg hc]

theorem RS.tok_k {r : RS} {l : List T} {e kd : Nat} {x : List UInt8} (h : (r.tok l e kd x).2.er = 0) : 1 ≤ (r.tok l e kd x).2.k := by
 unfold RS.tok at h ⊢
 by_cases h0 : r.er = 0
 ·rw [if_pos h0] at h ⊢
  cases hx : l[r.k]? with
  | none => rw [hx] at h; exact absurd h (show (6 : Int) ≠ 0 by decide)
  | some t =>
   rw [hx] at h
   simp only at h ⊢
   by_cases hc : t.2.kind = kd ∧ (x = [] ∨ t.2.text = x)
   ·rw [if_pos hc]
    show 1 ≤ r.k + 1
    omega
   ·rw [if_neg hc] at h
    exact absurd h (show (5 : Int) ≠ 0 by decide)
 ·rw [if_neg h0] at h
  exact absurd h h0
theorem scr_found {a : List UInt8} {m : Nat} (h1 : 1 ≤ m) (h4 : m ≤ 4) (h : a = scrT m) : scrI a = m := by
 rw [h]
 exact (scr_facts (k := (m : Int)) ⟨by omega, by omega⟩).1
theorem scr_none {a : List UInt8} (h : ∀ j : Nat, 1 ≤ j → j < 5 → ¬ a = scrT j) : scrI a = 0 := by
 have h1 : ¬ a = scrT 1 := h 1 (by omega) (by omega)
 have h2 : ¬ a = scrT 2 := h 2 (by omega) (by omega)
 have h3 : ¬ a = scrT 3 := h 3 (by omega) (by omega)
 have h4 : ¬ a = scrT 4 := h 4 (by omega) (by omega)
 unfold scrI
 rw [if_neg h1, if_neg h2, if_neg h3, if_neg h4]
/-! ### what a chain of takings reads -/
/-- the reader's step f reads what g reads from the tokens that are left -/
structure Sim {α β : Type} (l : List T) (v : α → β) (f : RS → α × RS) (g : List T → Except Fail (β × List T)) : Prop where
 dead : ∀ r : RS, r.er ≠ 0 → (f r).2 = r
 live : ∀ r : RS, r.er = 0 → match g (l.drop r.k) with
  | .error z => (f r).2.er = z.1 ∧ (f r).2.at_ = z.2 ∧ z.1 ≠ 0
  | .ok (t, rest) => ∃ k', r.k < k' ∧ k' ≤ l.length ∧ rest = l.drop k' ∧ v (f r).1 = t ∧ (f r).2 = ⟨k', 0, r.at_⟩
def tokG {β : Type} (e kd : Nat) (x : List UInt8) (c : T → Prop) [DecidablePred c] (y : Int) (v : T → β) : List T → Except Fail (β × List T) :=
 fun ts => match take kd x e ts with | .error z => .error z | .ok (t, r) => if c t then .error (y, t.1) else .ok (v t, r)
theorem sim_tok (l : List T) (e kd : Nat) (x : List UInt8) (c : T → Prop) [DecidablePred c] (y : Int) (hy : y ≠ 0) {β : Type} (v : T → β) :
  Sim l v (fun r => r.tokC l e kd x c y) (tokG e kd x c y v) := by
 refine ⟨fun r h => by simp only [RS.tokC_dead h], fun r h => ?_⟩
 have h1 := RS.tokC_live h l e kd x c y hy
 unfold tokG
 cases ht : take kd x e (l.drop r.k) with
 | error z => rw [ht] at h1; exact h1
 | ok u =>
  obtain ⟨t, rest⟩ := u
  rw [ht] at h1
  simp only at h1 ⊢
  by_cases hc : c t
  ·rw [if_pos hc] at h1 ⊢
   exact ⟨h1.1, h1.2, hy⟩
  ·rw [if_neg hc] at h1 ⊢
   obtain ⟨a, b, d⟩ := h1
   exact ⟨r.k + 1, by omega, by omega, b, by rw [a], by rw [a]⟩
theorem sim_end (l : List T) (e kd : Nat) (x : List UInt8) (c : T → Prop) [DecidablePred c] (y : Int) (hy : y ≠ 0) {β : Type} (d : β) :
  Sim l id (fun r => (d, (r.tokC l e kd x c y).2)) (tokG e kd x c y (fun _ => d)) :=
 ⟨(sim_tok l e kd x c y hy (fun _ => d)).dead, fun r hr => by
  have h := (sim_tok l e kd x c y hy (fun _ => d)).live r hr
  revert h
  generalize tokG e kd x c y (fun _ => d) (l.drop r.k) = X
  intro h
  cases X with
  | error z => exact h
  | ok p => exact h⟩
/-- one step behind the other -/
def bindR {α γ : Type} (f : RS → α × RS) (f2 : α → RS → γ × RS) : RS → γ × RS := fun r => f2 (f r).1 (f r).2
def bindG {β δ : Type} (g : List T → Except Fail (β × List T)) (g2 : β → List T → Except Fail (δ × List T)) : List T → Except Fail (δ × List T) := fun ts => match g ts with | .error z => .error z | .ok (b, r) => g2 b r
def endG {β δ : Type} (g : List T → Except Fail (β × List T)) (d : β → δ) : List T → Except Fail (δ × List T) := fun ts => match g ts with | .error z => .error z | .ok (b, r) => .ok (d b, r)
def endR {α γ : Type} (f : RS → α × RS) (d : α → γ) : RS → γ × RS := fun r => (d (f r).1, (f r).2)
theorem Sim.bind {α β γ δ : Type} {l : List T} {v : α → β} {f : RS → α × RS} {g : List T → Except Fail (β × List T)} {u : γ → δ} {f2 : α → RS → γ × RS} {g2 : β → List T → Except Fail (δ × List T)} (h : Sim l v f g) (h2 : ∀ a, Sim l u (f2 a) (g2 (v a))) :
  Sim l u (bindR f f2) (bindG g g2) := by
 refine ⟨fun r hr => ?_, fun r hr => ?_⟩
 ·have e := h.dead r hr
  have hd : (f r).2.er ≠ 0 := by rw [e]; exact hr
  unfold bindR
  rw [(h2 (f r).1).dead _ hd, e]
 ·have h1 := h.live r hr
  unfold bindR bindG
  cases hg : g (l.drop r.k) with
  | error z =>
   rw [hg] at h1
   obtain ⟨a, b, d⟩ := h1
   have hd : (f r).2.er ≠ 0 := by rw [a]; exact d
   simp only
   rw [(h2 (f r).1).dead _ hd]
   exact ⟨a, b, d⟩
  | ok p =>
   obtain ⟨t, rest⟩ := p
   rw [hg] at h1
   obtain ⟨k', k1, k2, rfl, rfl, e⟩ := h1
   simp only
   have h3 := (h2 (f r).1).live ⟨k', 0, r.at_⟩ rfl
   rw [e]
   simp only at h3
   revert h3
   generalize g2 (v (f r).1) (l.drop k') = X
   intro h3
   cases X with
   | error z => exact h3
   | ok p =>
    obtain ⟨t2, rest2⟩ := p
    obtain ⟨k2', m1, m2, m3, m4, m5⟩ := h3
    exact ⟨k2', by omega, m2, m3, m4, m5⟩
/-- the value alone is another -/
theorem Sim.map {α β γ δ : Type} {l : List T} {v : α → β} {f : RS → α × RS} {g : List T → Except Fail (β × List T)} (h : Sim l v f g) (m : α → γ) (n : β → δ) (u : γ → δ) (hu : ∀ a, u (m a) = n (v a)) :
  Sim l u (endR f m) (endG g n) := by
 refine ⟨fun r hr => h.dead r hr, fun r hr => ?_⟩
 have h1 := h.live r hr
 unfold endR endG
 cases hg : g (l.drop r.k) with
 | error z => rw [hg] at h1; exact h1
 | ok p =>
  obtain ⟨t, rest⟩ := p
  rw [hg] at h1
  obtain ⟨k', k1, k2, rfl, rfl, e⟩ := h1
  exact ⟨k', k1, k2, rfl, hu _, e⟩

/-! ### drops, rules, the last line -/
theorem bindG_tok {β δ : Type} (e kd : Nat) (x : List UInt8) (c : T → Prop) [DecidablePred c] (y : Int) (v : T → β) (g2 : β → List T → Except Fail (δ × List T)) (ts : List T) :
  bindG (tokG e kd x c y v) g2 ts = match take kd x e ts with | .error z => .error z | .ok (t, r) => if c t then .error (y, t.1) else g2 (v t) r := by
 unfold bindG tokG
 cases take kd x e ts with
 | error z => rfl
 | ok u =>
  obtain ⟨t, r⟩ := u
  simp only
  by_cases h : c t
  ·simp only [if_pos h]
  ·simp only [if_neg h]
def dropG (w : List UInt8) (most : Int) (before : List Drop) (e : Nat) : List T → Except Fail (Drop × List T) :=
 bindG (tokG e 1 w (fun _ => 40 ≤ before.length) 2 id) fun _ => bindG (tokG e 1 [] (fun t => scrI t.2.text = 0) 5 fun t => scrI t.2.text) fun k =>
  bindG (tokG e 3 [] (fun t => folded k t.2.text most = false) 1 fun t => t.2.text) fun s => bindG (tokG e 2 [] (fun t => 1000 < t.2.n) 10 fun t => (t.2.n : Int)) fun c =>
   tokG e 4 [59] (fun _ => (⟨k, s, c⟩ : Drop).key ∈ before.map Drop.key) 9 (fun _ => (⟨k, s, c⟩ : Drop))
theorem dropG_eq (w : List UInt8) (most : Int) (before : List Drop) (e : Nat) (ts : List T) : dropG w most before e ts = dropP w most before e ts := by
 unfold dropG
 simp only [bindG_tok]
 unfold dropP scriptP costP tokG
 cases take 1 w e ts with
 | error z => rfl
 | ok u =>
 obtain ⟨t0, r0⟩ := u
 simp only
 by_cases c0 : 40 ≤ before.length
 ·simp only [if_pos c0]
 simp only [if_neg c0]
 cases take 1 [] e r0 with
 | error z => rfl
 | ok u =>
 obtain ⟨t1, r1⟩ := u
 simp only
 by_cases c1 : scrI t1.2.text = 0
 ·simp only [if_pos c1]
 simp only [if_neg c1]
 cases take 3 [] e r1 with
 | error z => rfl
 | ok u =>
 obtain ⟨t2, r2⟩ := u
 simp only
 by_cases c2 : folded (scrI t1.2.text) t2.2.text most = false
 ·simp only [if_pos c2]
 simp only [if_neg c2]
 cases take 2 [] e r2 with
 | error z => rfl
 | ok u =>
 obtain ⟨t3, r3⟩ := u
 simp only
 by_cases c3 : 1000 < t3.2.n
 ·simp only [if_pos c3]
 simp only [if_neg c3]
 rfl
/-- a drop, or an end, as the reference reads it -/
def RS.drop (l : List T) (e : Nat) (w : List UInt8) (most : Int) (before : List Drop) : RS → Drop × RS :=
 bindR (fun r => r.tokC l e 1 w (fun _ => 40 ≤ before.length) 2) fun _ => bindR (fun r => r.tokC l e 1 [] (fun t => scrI t.2.text = 0) 5) fun t1 =>
  bindR (fun r => r.tokC l e 3 [] (fun t => folded (scrI t1.2.text) t.2.text most = false) 1) fun t2 => bindR (fun r => r.tokC l e 2 [] (fun t => 1000 < t.2.n) 10) fun t3 =>
   endR (fun r => r.tokC l e 4 [59] (fun _ => (⟨scrI t1.2.text, t2.2.text, t3.2.n⟩ : Drop).key ∈ before.map Drop.key) 9) (fun _ => (⟨scrI t1.2.text, t2.2.text, t3.2.n⟩ : Drop))
theorem sim_drop (l : List T) (e : Nat) (w : List UInt8) (most : Int) (before : List Drop) : Sim l id (RS.drop l e w most before) (dropP w most before e) := by
 have h : Sim l id (RS.drop l e w most before) (dropG w most before e) :=
  (sim_tok l e 1 w (fun _ => 40 ≤ before.length) 2 (by decide) id).bind fun _ => (sim_tok l e 1 [] (fun t => scrI t.2.text = 0) 5 (by decide) fun t => scrI t.2.text).bind fun t1 =>
   (sim_tok l e 3 [] (fun t => folded (scrI t1.2.text) t.2.text most = false) 1 (by decide) fun t => t.2.text).bind fun t2 => (sim_tok l e 2 [] (fun t => 1000 < t.2.n) 10 (by decide) fun t => (t.2.n : Int)).bind fun t3 =>
    sim_end l e 4 [59] _ 9 (by decide) _
 exact ⟨h.dead, fun r hr => by rw [← dropG_eq]; exact h.live r hr⟩
def ruleG (rs : List Rule) (e : Nat) : List T → Except Fail (Rule × List T) :=
 bindG (tokG e 1 tRule (fun _ => 80 ≤ rs.length) 2 id) fun _ => bindG (tokG e 1 [] (fun t => scrI t.2.text = 0) 5 fun t => scrI t.2.text) fun k =>
  bindG (tokG e 3 [] (fun t => folded k t.2.text 3 = false) 1 fun t => t.2.text) fun s => bindG (tokG e 1 tTo (fun _ => False) 2 id) fun _ => bindG (tokG e 3 [] (fun t => isForm t.2.text = false) 1 fun t => t.2.text) fun o =>
   bindG (tokG e 1 tCost (fun _ => False) 2 id) fun _ => bindG (tokG e 2 [] (fun t => 1000 < t.2.n) 10 fun t => (t.2.n : Int)) fun c =>
    tokG e 4 [59] (fun _ => (⟨k, s, o, c⟩ : Rule).key ∈ rs.map Rule.key) 9 (fun _ => (⟨k, s, o, c⟩ : Rule))
theorem ruleG_eq (rs : List Rule) (e : Nat) (ts : List T) : ruleG rs e ts = ruleP rs e ts := by
 unfold ruleG
 simp only [bindG_tok]
 unfold ruleP scriptP costP tokG
 cases take 1 tRule e ts with
 | error z => rfl
 | ok u =>
 obtain ⟨t0, r0⟩ := u
 simp only
 by_cases c0 : 80 ≤ rs.length
 ·simp only [if_pos c0]
 simp only [if_neg c0]
 cases take 1 [] e r0 with
 | error z => rfl
 | ok u =>
 obtain ⟨t1, r1⟩ := u
 simp only
 by_cases c1 : scrI t1.2.text = 0
 ·simp only [if_pos c1]
 simp only [if_neg c1]
 cases take 3 [] e r1 with
 | error z => rfl
 | ok u =>
 obtain ⟨t2, r2⟩ := u
 simp only
 by_cases c2 : folded (scrI t1.2.text) t2.2.text 3 = false
 ·simp only [if_pos c2]
 simp only [if_neg c2]
 cases take 1 tTo e r2 with
 | error z => rfl
 | ok u =>
 obtain ⟨t3, r3⟩ := u
 simp only [if_false]
 cases take 3 [] e r3 with
 | error z => rfl
 | ok u =>
 obtain ⟨t4, r4⟩ := u
 simp only
 by_cases c4 : isForm t4.2.text = false
 ·simp only [if_pos c4]
 simp only [if_neg c4]
 cases take 1 tCost e r4 with
 | error z => rfl
 | ok u =>
 obtain ⟨t5, r5⟩ := u
 simp only
 cases take 2 [] e r5 with
 | error z => rfl
 | ok u =>
 obtain ⟨t6, r6⟩ := u
 simp only
 by_cases c6 : 1000 < t6.2.n
 ·simp only [if_pos c6]
 simp only [if_neg c6]
 rfl
/-- a rule, as the reference reads it -/
def RS.rule (l : List T) (e : Nat) (rs : List Rule) : RS → Rule × RS :=
 bindR (fun r => r.tokC l e 1 tRule (fun _ => 80 ≤ rs.length) 2) fun _ => bindR (fun r => r.tokC l e 1 [] (fun t => scrI t.2.text = 0) 5) fun t1 =>
  bindR (fun r => r.tokC l e 3 [] (fun t => folded (scrI t1.2.text) t.2.text 3 = false) 1) fun t2 => bindR (fun r => r.tokC l e 1 tTo (fun _ => False) 2) fun _ => bindR (fun r => r.tokC l e 3 [] (fun t => isForm t.2.text = false) 1) fun t4 =>
   bindR (fun r => r.tokC l e 1 tCost (fun _ => False) 2) fun _ => bindR (fun r => r.tokC l e 2 [] (fun t => 1000 < t.2.n) 10) fun t6 =>
    endR (fun r => r.tokC l e 4 [59] (fun _ => (⟨scrI t1.2.text, t2.2.text, t4.2.text, t6.2.n⟩ : Rule).key ∈ rs.map Rule.key) 9) (fun _ => (⟨scrI t1.2.text, t2.2.text, t4.2.text, t6.2.n⟩ : Rule))
theorem sim_rule (l : List T) (e : Nat) (rs : List Rule) : Sim l id (RS.rule l e rs) (ruleP rs e) := by
 have h : Sim l id (RS.rule l e rs) (ruleG rs e) :=
  (sim_tok l e 1 tRule (fun _ => 80 ≤ rs.length) 2 (by decide) id).bind fun _ => (sim_tok l e 1 [] (fun t => scrI t.2.text = 0) 5 (by decide) fun t => scrI t.2.text).bind fun t1 =>
   (sim_tok l e 3 [] (fun t => folded (scrI t1.2.text) t.2.text 3 = false) 1 (by decide) fun t => t.2.text).bind fun t2 => (sim_tok l e 1 tTo (fun _ => False) 2 (by decide) id).bind fun _ =>
    (sim_tok l e 3 [] (fun t => isForm t.2.text = false) 1 (by decide) fun t => t.2.text).bind fun t4 => (sim_tok l e 1 tCost (fun _ => False) 2 (by decide) id).bind fun _ =>
     (sim_tok l e 2 [] (fun t => 1000 < t.2.n) 10 (by decide) fun t => (t.2.n : Int)).bind fun t6 => sim_end l e 4 [59] _ 9 (by decide) _
 exact ⟨h.dead, fun r hr => by rw [← ruleG_eq]; exact h.live r hr⟩
def lastG (e : Nat) : List T → Except Fail ((Int × Int × Int) × List T) :=
 bindG (tokG e 1 tCosts (fun _ => False) 2 id) fun _ => bindG (tokG e 2 [] (fun t => 1000 < t.2.n) 10 fun t => (t.2.n : Int)) fun a =>
  bindG (tokG e 2 [] (fun t => 1000 < t.2.n) 10 fun t => (t.2.n : Int)) fun b => bindG (tokG e 2 [] (fun t => 1000 < t.2.n) 10 fun t => (t.2.n : Int)) fun c =>
   tokG e 4 [59] (fun _ => False) 2 (fun _ => (a, b, c))
theorem lastG_eq (e : Nat) (ts : List T) : lastG e ts = lastP e ts := by
 unfold lastG
 simp only [bindG_tok]
 unfold lastP costP tokG
 cases take 1 tCosts e ts with
 | error z => rfl
 | ok u =>
 obtain ⟨t0, r0⟩ := u
 simp only [if_false]
 cases take 2 [] e r0 with
 | error z => rfl
 | ok u =>
 obtain ⟨t1, r1⟩ := u
 simp only
 by_cases c1 : 1000 < t1.2.n
 ·simp only [if_pos c1]
 simp only [if_neg c1]
 cases take 2 [] e r1 with
 | error z => rfl
 | ok u =>
 obtain ⟨t2, r2⟩ := u
 simp only
 by_cases c2 : 1000 < t2.2.n
 ·simp only [if_pos c2]
 simp only [if_neg c2]
 cases take 2 [] e r2 with
 | error z => rfl
 | ok u =>
 obtain ⟨t3, r3⟩ := u
 simp only
 by_cases c3 : 1000 < t3.2.n
 ·simp only [if_pos c3]
 simp only [if_neg c3]
 rfl
def RS.last (l : List T) (e : Nat) : RS → (Int × Int × Int) × RS :=
 bindR (fun r => r.tokC l e 1 tCosts (fun _ => False) 2) fun _ => bindR (fun r => r.tokC l e 2 [] (fun t => 1000 < t.2.n) 10) fun t1 =>
  bindR (fun r => r.tokC l e 2 [] (fun t => 1000 < t.2.n) 10) fun t2 => bindR (fun r => r.tokC l e 2 [] (fun t => 1000 < t.2.n) 10) fun t3 =>
   endR (fun r => r.tokC l e 4 [59] (fun _ => False) 2) (fun _ => ((t1.2.n : Int), (t2.2.n : Int), (t3.2.n : Int)))
theorem sim_last (l : List T) (e : Nat) : Sim l id (RS.last l e) (lastP e) := by
 have h : Sim l id (RS.last l e) (lastG e) :=
  (sim_tok l e 1 tCosts (fun _ => False) 2 (by decide) id).bind fun _ => (sim_tok l e 2 [] (fun t => 1000 < t.2.n) 10 (by decide) fun t => (t.2.n : Int)).bind fun t1 =>
   (sim_tok l e 2 [] (fun t => 1000 < t.2.n) 10 (by decide) fun t => (t.2.n : Int)).bind fun t2 => (sim_tok l e 2 [] (fun t => 1000 < t.2.n) 10 (by decide) fun t => (t.2.n : Int)).bind fun t3 =>
    sim_end l e 4 [59] _ 2 (by decide) _
 exact ⟨h.dead, fun r hr => by rw [← lastG_eq]; exact h.live r hr⟩

end Rw
