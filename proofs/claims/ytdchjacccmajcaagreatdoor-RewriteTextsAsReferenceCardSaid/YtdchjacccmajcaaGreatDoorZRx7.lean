/-
 The reference's Parse of tables, plainly: what holds between its lines. NO PROGRAM IN THIS TEXT.
-/
import Derived.Test.YtdchjacccmajcaaGreatDoorZRx1
import Derived.Test.YtdchjacccmajcaaGreatDoorZRp5
namespace Rw
open Fa (T Fail take)

def K4 (rs : List Rule) (ds es : List Drop) (r : Except Fail ((Int × Int × Int) × List T)) : Except Fail (Table × List T) := match r with | .error x => .error x | .ok ((a, b, c), r3) => .ok (⟨rs, ds, es, a, b, c⟩, r3)
def K3 (rs : List Rule) (ds : List Drop) (e : Nat) (r : Except Fail (List Drop × List T)) : Except Fail (Table × List T) := match r with | .error x => .error x | .ok (es, r2) => K4 rs ds es (lastP e r2)
def K2 (rs : List Rule) (e : Nat) (r : Except Fail (List Drop × List T)) : Except Fail (Table × List T) := match r with | .error x => .error x | .ok (ds, r1) => K3 rs ds e (dropsT tEnd 4 [] e r1)
def K1 (e : Nat) (r : Except Fail (List Rule × List T)) : Except Fail (Table × List T) := match r with | .error x => .error x | .ok (rs, r0) => K2 rs e (dropsT tDrop 12 [] e r0)
theorem tableP_K (e : Nat) (ts : List T) : tableP e ts = K1 e (rulesT [] e ts) := by
 unfold tableP K1 K2 K3 K4 rulesT dropsT
 rfl

/-- dead: the error is what Parse returns -/
def Dead (s : List UInt8) (R : RS) : Prop := R.er ≠ 0 → parse s = (noTable, R.er, R.at_)
/-- between two rules -/
def RuleI (s : List UInt8) (l : List T) (R : RS) (rs : List Rule) : Prop := Dead s R ∧ (R.er = 0 → tableP s.length l = K1 s.length (rulesT rs s.length (l.drop R.k)) ∧ RulesW rs)
/-- between two drops, or ends -/
def LoopI (s : List UInt8) (l : List T) (R : RS) (Kf : Except Fail (List Drop × List T) → Except Fail (Table × List T)) (w : List UInt8) (most : Int) (ds : List Drop) : Prop :=
 Dead s R ∧ (R.er = 0 → tableP s.length l = Kf (dropsT w most ds s.length (l.drop R.k)) ∧ DropsW most ds)
/-- ahead of the last line -/
def LastI (s : List UInt8) (l : List T) (R : RS) (rs : List Rule) (ds es : List Drop) : Prop := Dead s R ∧ (R.er = 0 → tableP s.length l = K4 rs ds es (lastP s.length (l.drop R.k)))
def EndI (s : List UInt8) (l : List T) (R : RS) (t : Table) : Prop := Dead s R ∧ (R.er = 0 → tableP s.length l = .ok (t, l.drop R.k))

section
variable {s : List UInt8} {l : List T} {y : Int} {R : RS} {rs : List Rule} {ds es : List Drop}
theorem dead_of {z : Fail} {R' : RS} (hl : Lx.lex s = (l, 0, y)) (ht : tableP s.length l = .error z) (h1 : R'.er = z.1) (h2 : R'.at_ = z.2) : Dead s R' := fun _ => by rw [parse_err hl ht, h1, h2]
theorem RuleI.start (s : List UInt8) (l : List T) : RuleI s l ⟨0, 0, 0⟩ [] := ⟨fun h => absurd rfl h, fun _ => ⟨by rw [List.drop_zero]; exact tableP_K _ _, by simp, by simp, by simp⟩⟩
theorem RuleI.step (hl : Lx.lex s = (l, 0, y)) (hb : Bnd s.length l) (h : RuleI s l R rs) (h0 : R.er = 0) (hc : rs = [] ∨ isW tRule (l.drop R.k) = true) :
  RuleI s l (RS.rule l s.length rs R).2 (rs ++ [(RS.rule l s.length rs R).1]) ∧ ((RS.rule l s.length rs R).2.er = 0 → R.k < (RS.rule l s.length rs R).2.k ∧ (RS.rule l s.length rs R).2.k ≤ l.length) := by
 obtain ⟨ht, hw⟩ := h.2 h0
 have sim := (sim_rule l s.length rs).live R h0
 rw [rulesT_eq, if_pos hc] at ht
 have ho := ruleP_out (rs := rs) (hb.suf (List.drop_suffix R.k l))
 cases hr : ruleP rs s.length (l.drop R.k) with
 | error z =>
  rw [hr] at sim ht
  obtain ⟨a, b, c⟩ := sim
  exact ⟨⟨dead_of hl ht a b, fun h1 => by rw [a] at h1; exact absurd h1 c⟩, fun h1 => by rw [a] at h1; exact absurd h1 c⟩
 | ok p =>
  obtain ⟨d, rest⟩ := p
  rw [hr] at sim ht ho
  obtain ⟨k', k1, k2, rfl, k3, k4⟩ := sim
  have k3' : (RS.rule l s.length rs R).1 = d := k3
  rw [k3', k4]
  exact ⟨⟨fun h1 => absurd rfl h1, fun _ => ⟨ht, hw.snoc ho.1.1 ho.1.2.1 ho.1.2.2⟩⟩, fun _ => ⟨k1, k2⟩⟩
theorem RuleI.to (h : RuleI s l R rs) (hn : R.next l tRule = false) (hne : rs ≠ []) : LoopI s l R (K2 rs s.length) tDrop 12 [] ∧ (R.er = 0 → RulesW rs) := by
 refine ⟨⟨h.1, fun h0 => ⟨?_, by simp, by simp, by simp⟩⟩, fun h0 => (h.2 h0).2⟩
 have ht := (h.2 h0).1
 have hw : isW tRule (l.drop R.k) = false := by
  unfold RS.next at hn
  rw [decide_eq_true h0, Bool.true_and] at hn
  exact hn
 rw [rulesT_eq, if_neg (by rintro (h | h); (exact hne h); (rw [hw] at h; cases h))] at ht
 exact ht
variable {Kf : Except Fail (List Drop × List T) → Except Fail (Table × List T)} {w : List UInt8} {most : Int}
theorem LoopI.step (hl : Lx.lex s = (l, 0, y)) (hb : Bnd s.length l) (hK : ∀ z, Kf (.error z) = .error z) (h : LoopI s l R Kf w most ds) (hn : R.next l w = true) :
  R.er = 0 ∧ LoopI s l (RS.drop l s.length w most ds R).2 Kf w most (ds ++ [(RS.drop l s.length w most ds R).1]) ∧ ((RS.drop l s.length w most ds R).2.er = 0 → R.k < (RS.drop l s.length w most ds R).2.k ∧ (RS.drop l s.length w most ds R).2.k ≤ l.length) := by
 unfold RS.next at hn
 simp only [Bool.and_eq_true, decide_eq_true_eq] at hn
 obtain ⟨h0, hc⟩ := hn
 refine ⟨h0, ?_⟩
 obtain ⟨ht, hw⟩ := h.2 h0
 have sim := (sim_drop l s.length w most ds).live R h0
 rw [dropsT_eq, if_pos hc] at ht
 have ho := dropP_out (w := w) (most := most) (out := ds) (hb.suf (List.drop_suffix R.k l))
 cases hr : dropP w most ds s.length (l.drop R.k) with
 | error z =>
  rw [hr] at sim ht
  obtain ⟨a, b, c⟩ := sim
  simp only at ht
  rw [hK] at ht
  exact ⟨⟨dead_of hl ht a b, fun h1 => by rw [a] at h1; exact absurd h1 c⟩, fun h1 => by rw [a] at h1; exact absurd h1 c⟩
 | ok p =>
  obtain ⟨d, rest⟩ := p
  rw [hr] at sim ht ho
  obtain ⟨k', k1, k2, rfl, k3, k4⟩ := sim
  have k3' : (RS.drop l s.length w most ds R).1 = d := k3
  rw [k3', k4]
  exact ⟨⟨fun h1 => absurd rfl h1, fun _ => ⟨ht, hw.snoc ho.1.1 ho.1.2.1 ho.1.2.2⟩⟩, fun _ => ⟨k1, k2⟩⟩
theorem LoopI.done (h : LoopI s l R Kf w most ds) (hn : R.next l w = false) : R.er = 0 → tableP s.length l = Kf (.ok (ds, l.drop R.k)) := fun h0 => by
 have ht := (h.2 h0).1
 have hw : isW w (l.drop R.k) = false := by
  unfold RS.next at hn
  rw [decide_eq_true h0, Bool.true_and] at hn
  exact hn
 rw [dropsT_eq, if_neg (by rw [hw]; decide)] at ht
 exact ht
theorem LoopI.to2 (h : LoopI s l R (K2 rs s.length) tDrop 12 ds) (hn : R.next l tDrop = false) : LoopI s l R (K3 rs ds s.length) tEnd 4 [] :=
 ⟨h.1, fun h0 => ⟨h.done hn h0, by simp, by simp, by simp⟩⟩
theorem LoopI.to3 (h : LoopI s l R (K3 rs ds s.length) tEnd 4 es) (hn : R.next l tEnd = false) : LastI s l R rs ds es := ⟨h.1, fun h0 => h.done hn h0⟩
theorem LastI.step (hl : Lx.lex s = (l, 0, y)) (h : LastI s l R rs ds es) :
  EndI s l (RS.last l s.length R).2 ⟨rs, ds, es, (RS.last l s.length R).1.1, (RS.last l s.length R).1.2.1, (RS.last l s.length R).1.2.2⟩ ∧ ((RS.last l s.length R).2.er = 0 → (RS.last l s.length R).2.k ≤ l.length) := by
 by_cases h0 : R.er = 0
 ·have ht := h.2 h0
  have sim := (sim_last l s.length).live R h0
  cases hr : lastP s.length (l.drop R.k) with
  | error z =>
   rw [hr] at sim ht
   obtain ⟨a, b, c⟩ := sim
   exact ⟨⟨dead_of hl ht a b, fun h1 => by rw [a] at h1; exact absurd h1 c⟩, fun h1 => by rw [a] at h1; exact absurd h1 c⟩
  | ok p =>
   obtain ⟨⟨a, b, c⟩, rest⟩ := p
   rw [hr] at sim ht
   obtain ⟨k', k1, k2, rfl, k3, k4⟩ := sim
   have k3' : (RS.last l s.length R).1 = (a, b, c) := k3
   rw [k3', k4]
   exact ⟨⟨fun h1 => absurd rfl h1, fun _ => ht⟩, fun _ => k2⟩
 ·have sim := (sim_last l s.length).dead R h0
  rw [sim]
  exact ⟨⟨h.1, fun h1 => absurd h1 h0⟩, fun h1 => absurd h1 h0⟩
theorem EndI.more {t : Table} (hl : Lx.lex s = (l, 0, y)) (h : EndI s l R t) (h0 : R.er = 0) {z : T} (hz : l[R.k]? = some z) : parse s = (noTable, 5, (z.1 : Int)) := by
 have ht := h.2 h0
 rw [drop_at hz] at ht
 exact parse_more hl ht
theorem EndI.done {t : Table} (hl : Lx.lex s = (l, 0, y)) (h : EndI s l R t) (h0 : R.er = 0) (hk : l.length ≤ R.k) : parse s = (t, 0, 0) := by
 have ht := h.2 h0
 rw [List.drop_eq_nil_of_le hk] at ht
 exact parse_done hl ht
end
end Rw
