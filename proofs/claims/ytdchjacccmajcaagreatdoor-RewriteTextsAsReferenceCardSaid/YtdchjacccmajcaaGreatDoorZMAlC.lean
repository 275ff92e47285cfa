/-
 Several texts in one: ZAl1, ZAl2, ZAl3, ZAlKey, ZAlFit, ZAl4, ZAl5, ZAl6, ZAl7, ZAlFew, ZAl8, ZAl9, ZAl10, ZAl11, ZAl12. Conditions: as each law says.
-/
import Derived.Test.YtdchjacccmajcaaGreatDoorZMRew
import Derived.Test.YtdchjacccmajcaaGreatDoorZMPlain
import Derived.Test.YtdchjacccmajcaaGreatDoorZMBase
import Derived.Deep.RegionHeld3
import Derived.IntWalk
import Derived.RangeFuncBox
import Derived.RangeFuncLeaves
import Derived.Shelf.Abstract
import Derived.Shelf.RegionOpen
import Derived.OwnWalkIn
import Derived.TacticsInMore
import Derived.LoopNIn
import Derived.LoopIn
import Derived.Sort.CutIn
import Derived.Deep.Cut
import Derived.Test.YtdchjacccmajcaaGreatDoorZMScr
import Derived.Outline
namespace Go.Proofs.YtdchjacccmajcaaGreatDoor
open Go.RowKit Go.Lib Go.Maps

def strC (l : List UInt8) : List Value := [.string (bs l)]
def ruleC (p : Al.R × Value) : List Value := [.int .i64 p.1.index, .int .i64 p.1.cost, p.2, .string (bs p.1.to_)]
/-- rules in memory -/
def RulesAt (w : World) (fs : List (Al.R × Value)) (v : Value) : Prop := SlOf w v 4 ruleC fs ∧ ∀ p ∈ fs, SlOf w p.2 1 strC p.1.from_

theorem RulesAt.below {w w' : World} {fs : List (Al.R × Value)} {v : Value} (h : RulesAt w fs v) (hb : Below w.heap.size w w') : RulesAt w' fs v := ⟨h.1.below hb, fun p hp => (h.2 p hp).below hb⟩

/-- a row of strings, cell by cell -/
theorem row_cells {w : World} {g o : Nat} {l : List (List UInt8)} (h : RowOf w g o 1 strC l) : ∀ j, j < (l.map bs).length → w.cell? ⟨g, o + j, none⟩ = some (.string ((l.map bs).getD j ByteArray.empty)) := by
 intro j hj
 rw [List.length_map] at hj
 have := h.2 j l[j] (List.getElem?_eq_getElem hj) 0 (.string (bs l[j])) rfl
 rw [Nat.mul_one, Nat.add_zero] at this
 rw [this]
 simp [List.getD, List.getElem?_eq_getElem hj]

theorem bs_inj {a b : List UInt8} (h : bs a = bs b) : a = b := by
 have := congrArg (fun x : ByteArray => x.data.toList) h
 exact this

theorem map_bs_inj : ∀ {a b : List (List UInt8)}, a.map bs = b.map bs → a = b
 | [], [], _ => rfl
 | [], _ :: _, h => by simp at h
 | _ :: _, [], h => by simp at h
 | x :: a, y :: b, h => by
  rw [List.map_cons, List.map_cons, List.cons.injEq] at h
  rw [bs_inj h.1, map_bs_inj h.2]

/-- slices.Equal of a part of one row and another row, not empty -/
theorem equal_part {w : World} {g o k n cap g2 o2 c2 : Nat} {l f : List (List UInt8)} (h : RowOf w g o 1 strC l) (h2 : RowOf w g2 o2 1 strC f) (hk : k + n ≤ l.length) (hn : n = f.length) (hb : n ≤ 1000000) :
  Calls Tryz.prog 41 #[.slice (some ⟨g, o + k, none⟩) n cap, .slice (some ⟨g2, o2, none⟩) n c2] w (Gives (.bool (decide ((l.drop k).take n = f))) w) := by
 have hx := row_cells h
 have hy := row_cells h2
 refine (Tryz.slices_Equal_string g (o + k) n cap g2 o2 n c2 ((l.map bs).drop k) (f.map bs) w (by simp; omega) (by simp; omega) (by omega) (by omega) (fun j hj => ?_) hy).mono ?_
 ·rw [List.length_drop] at hj
  rw [Nat.add_assoc, hx (k + j) (by omega)]
  simp [List.getD, List.getElem?_drop]
 ·rintro e w' ⟨rfl, q, rfl⟩
  refine ⟨ret_bool (decide_eq_decide.2 ?_), Below.drewQ w q⟩
  rw [List.take_of_length_le (l := f.map bs) (by simp; omega), ← List.map_drop, ← List.map_take]
  exact ⟨fun e => map_bs_inj e, fun e => by rw [e]⟩

end Go.Proofs.YtdchjacccmajcaaGreatDoor

namespace Go.Proofs.YtdchjacccmajcaaGreatDoor
open Go.RowKit Go.Lib Go.Maps

/-- both sides in memory -/
structure WordsAt (W : World) (w : Al.Ws) (fl fr : List (Al.R × Value)) (v : List Value) : Prop where
 at_ : ∃ ll lr rl rr, v = [ll, lr, rl, rr] ∧ SlOf W ll 1 strC w.left.letters ∧ RulesAt W fl lr ∧ SlOf W rl 1 strC w.right.letters ∧ RulesAt W fr rr
 left : fl.map Prod.fst = w.left.rules
 right : fr.map Prod.fst = w.right.rules

theorem WordsAt.below {W W' : World} {w : Al.Ws} {fl fr : List (Al.R × Value)} {v : List Value} (h : WordsAt W w fl fr v) (hb : Below W.heap.size W W') : WordsAt W' w fl fr v := by
 obtain ⟨⟨ll, lr, rl, rr, e, a, b, c, d⟩, h1, h2⟩ := h
 exact ⟨⟨ll, lr, rl, rr, e, a.below hb, b.below hb, c.below hb, d.below hb⟩, h1, h2⟩

end Go.Proofs.YtdchjacccmajcaaGreatDoor
namespace Go.Proofs.YtdchjacccmajcaaGreatDoor
open Go.RowKit Go.Lib Go.Maps
attribute [local go_sem] Oper.semAt_some
/-- what a round must leave as it is -/
structure MovesKeep (B : Nat) (w : Al.Ws) (fl fr : List (Al.R × Value)) (v : List Value) (W W' : World) : Prop where
 size : W.heap.size ≤ W'.heap.size
 cells : ∀ (q : Nat) (o : Obj), B ≤ q → W.heap[q]? = some o → o.isCells = true → W'.heap[q]? = some o
 words : WordsAt W w fl fr v → WordsAt W' w fl fr v

end Go.Proofs.YtdchjacccmajcaaGreatDoor
namespace Go.Proofs.YtdchjacccmajcaaGreatDoor
open Go.RowKit Go.Maps
theorem zero_int (w : World) : (zeroValue 3).run Tryz.prog w = .ok (.int .i64 0) w := by kernel_rfl

end Go.Proofs.YtdchjacccmajcaaGreatDoor
namespace Al
/-- what may be ahead -/
def aheads (w : Ws) : List (List UInt8) := [] :: (w.left.rules ++ w.right.rules).flatMap (fun r => (List.range (r.to_.length + 1)).map (fun n => r.to_.drop n))

def Ok (w : Ws) (s : St) : Prop := Within w s ∧ s.ahead ∈ aheads w

/-- all states -/
def states (w : Ws) : List St :=
 (List.range (w.left.letters.length + 1)).flatMap fun i => (List.range (w.right.letters.length + 1)).flatMap fun j => (aheads w).flatMap fun a => [⟨i, j, a, true⟩, ⟨i, j, a, false⟩]

theorem mem_states {w : Ws} {s : St} (h : Ok w s) : s ∈ states w := by
 obtain ⟨⟨h1, h2, _⟩, h3⟩ := h
 obtain ⟨i, j, a, r⟩ := s
 unfold states
 simp only [List.mem_flatMap, List.mem_range]
 refine ⟨i, by simp only at h1; omega, j, by simp only at h2; omega, a, h3, ?_⟩
 cases r <;> simp

theorem flat_le {α β : Type} (f : α → List β) (c : Nat) : ∀ (l : List α), (∀ x ∈ l, (f x).length ≤ c) → (l.flatMap f).length ≤ l.length * c
 | [], _ => by simp
 | x :: l, h => by
  rw [List.flatMap_cons, List.length_append, List.length_cons, Nat.succ_mul]
  have := h x List.mem_cons_self
  have := flat_le f c l (fun y hy => h y (List.mem_cons_of_mem _ hy))
  omega

theorem states_few {w : Ws} (h1 : w.left.letters.length ≤ 12) (h2 : w.right.letters.length ≤ 12) (h3 : (w.left.rules ++ w.right.rules).length ≤ 200) (h4 : ∀ r ∈ w.left.rules ++ w.right.rules, r.to_.length ≤ 1000) :
  (states w).length ≤ 100000000 := by
 have ha : (aheads w).length ≤ 200201 := by
  unfold aheads
  rw [List.length_cons]
  have := flat_le (fun r : R => (List.range (r.to_.length + 1)).map (fun n => r.to_.drop n)) 1001 (w.left.rules ++ w.right.rules) (fun r hr => by
   have := h4 r hr
   simp only [List.length_map, List.length_range]; omega)
  have h5 : (w.left.rules ++ w.right.rules).length * 1001 ≤ 200 * 1001 := Nat.mul_le_mul_right _ h3
  omega
 have e1 : ∀ i j : Nat, ((aheads w).flatMap fun a => [(⟨i, j, a, true⟩ : St), ⟨i, j, a, false⟩]).length ≤ 400402 := fun i j => by
  have := flat_le (fun a => [(⟨i, j, a, true⟩ : St), ⟨i, j, a, false⟩]) 2 (aheads w) (fun _ _ => by simp)
  omega
 have e2 : ∀ i : Nat, ((List.range (w.right.letters.length + 1)).flatMap fun j => (aheads w).flatMap fun a => [(⟨i, j, a, true⟩ : St), ⟨i, j, a, false⟩]).length ≤ 13 * 400402 := fun i => by
  have := flat_le (fun j => (aheads w).flatMap fun a => [(⟨i, j, a, true⟩ : St), ⟨i, j, a, false⟩]) 400402 (List.range (w.right.letters.length + 1)) (fun j _ => e1 i j)
  rw [List.length_range] at this
  exact Nat.le_trans this (Nat.mul_le_mul_right _ (by omega))
 have := flat_le (fun i => (List.range (w.right.letters.length + 1)).flatMap fun j => (aheads w).flatMap fun a => [(⟨i, j, a, true⟩ : St), ⟨i, j, a, false⟩]) (13 * 400402) (List.range (w.left.letters.length + 1)) (fun i _ => e2 i)
 rw [List.length_range] at this
 have h5 : (w.left.letters.length + 1) * (13 * 400402) ≤ 13 * (13 * 400402) := Nat.mul_le_mul_right _ (by omega)
 unfold states
 omega

/-- states, with all that can be reached from them -/
structure Closed (w : Ws) (K : List St) : Prop where
 ok : ∀ s ∈ K, Ok w s
 on : ∀ s ∈ K, ∀ p ∈ moves w s, p.2 ∈ K
 once : K.Nodup

theorem Closed.few {w : Ws} {K : List St} (h : Closed w K) (h1 : w.left.letters.length ≤ 12) (h2 : w.right.letters.length ≤ 12) (h3 : (w.left.rules ++ w.right.rules).length ≤ 200) (h4 : ∀ r ∈ w.left.rules ++ w.right.rules, r.to_.length ≤ 1000) :
  K.length ≤ 100000000 :=
 Nat.le_trans (Go.Proofs.YtdchjacccmajcaaGreatDoor.nodup_le h.once (fun x hx => mem_states (h.ok x hx))) (states_few h1 h2 h3 h4)

end Al
namespace Go.Proofs.YtdchjacccmajcaaGreatDoor
open Go.RowKit
end Go.Proofs.YtdchjacccmajcaaGreatDoor
namespace Go.Proofs.YtdchjacccmajcaaGreatDoor
open Go.RowKit Go.Lib Go.Maps
attribute [local go_sem] Oper.semAt_some
/-- words of a moderate size -/
structure Few (w : Al.Ws) : Prop where
 good : w.Good
 small : w.Small
 rules : (w.left.rules ++ w.right.rules).length ≤ 200
 sizes : ∀ r ∈ w.left.rules ++ w.right.rules, r.from_.length ≤ 12 ∧ r.to_.length ≤ 1000

theorem WordsAt.but {W W' : World} {w : Al.Ws} {fl fr : List (Al.R × Value)} {v : List Value} {m : Nat} (h : WordsAt W w fl fr v) (hb : But W.heap.size m W W') {om : Obj} (hm : W.heap[m]? = some om) (hmc : om.isCells = false) : WordsAt W' w fl fr v := by
 obtain ⟨⟨ll, lr, rl, rr, e, a, b, c, d⟩, h1, h2⟩ := h
 exact ⟨⟨ll, lr, rl, rr, e, a.but hb hm hmc, ⟨b.1.but hb hm hmc, fun p hp => (b.2 p hp).but hb hm hmc⟩, c.but hb hm hmc, ⟨d.1.but hb hm hmc, fun p hp => (d.2 p hp).but hb hm hmc⟩⟩, h1, h2⟩

section
variable {w : Al.Ws} {fl fr : List (Al.R × Value)} {v : List Value} {Bk Bw Bf m : Nat} {K K' : List Al.St} {W W' : World}

theorem MovesKeep.trans {B : Nat} {w : Al.Ws} {fl fr : List (Al.R × Value)} {v : List Value} {W1 W2 W3 : World} (h : MovesKeep B w fl fr v W1 W2) (g : MovesKeep B w fl fr v W2 W3) : MovesKeep B w fl fr v W1 W3 :=
 ⟨Nat.le_trans h.size g.size, fun q o h1 h2 h3 => g.cells q o h1 (h.cells q o h1 h2 h3) h3, fun h1 => g.words (h.words h1)⟩

end
end Go.Proofs.YtdchjacccmajcaaGreatDoor
namespace Go.Proofs.YtdchjacccmajcaaGreatDoor
open Go.RowKit Go.Lib Go.Maps
section
variable (P : Program) (w : World) (a : Addr) (m : Mode)
end
end Go.Proofs.YtdchjacccmajcaaGreatDoor
namespace Al
theorem rulesFrom_append (k : Int) : ∀ (a b : List Rw.Rule) (i : Nat), rulesFrom k i (a ++ b) = rulesFrom k i a ++ rulesFrom k (i + a.length) b
 | [], b, i => by simp [rulesFrom]
 | r :: a, b, i => by
  have ih := rulesFrom_append k a b (i + 1)
  rw [show i + 1 + a.length = i + (r :: a).length by simp; omega] at ih
  rw [List.cons_append]
  simp only [rulesFrom]
  split
  ·split
   ·rw [ih]; rfl
   ·rw [ih]
  ·rw [ih]

theorem rulesFrom_take (k : Int) {l : List Rw.Rule} {n : Nat} {r : Rw.Rule} (h : l[n]? = some r) : rulesFrom k 0 (l.take (n + 1)) = rulesFrom k 0 (l.take n) ++ rulesFrom k n [r] := by
 obtain ⟨hn, he⟩ := List.getElem?_eq_some_iff.1 h
 rw [List.take_succ_eq_append_getElem hn, he, rulesFrom_append]
 rw [List.length_take, Nat.zero_add, Nat.min_eq_left (Nat.le_of_lt hn)]

end Al
namespace Go.Proofs.YtdchjacccmajcaaGreatDoor
open Go.RowKit Go.Lib Go.Maps

theorem flat_str (l : List (List UInt8)) : l.flatMap strC = l.map fun x => .string (bs x) := by
 induction l with
 | nil => rfl
 | cons x l ih => rw [List.flatMap_cons, ih]; rfl

end Go.Proofs.YtdchjacccmajcaaGreatDoor

namespace Al

end Al
namespace Go.Proofs.YtdchjacccmajcaaGreatDoor
open Go.RowKit Go.Lib Go.Maps
section
variable {α : Type} {w : World} {v : Value} {sz : Nat} {cells : α → List Value} {l : List α}
end
end Go.Proofs.YtdchjacccmajcaaGreatDoor
namespace Rw
theorem allOk_mem {α : Type} {ok : α → Bool} {key : α → Int × List UInt8 × List UInt8} : ∀ {l : List α} {seen : List (Int × List UInt8 × List UInt8)}, allOk ok key l seen = true → ∀ x ∈ l, ok x = true
 | [], _, _, x, h => by cases h
 | y :: l, seen, h, x, hx => by
  unfold allOk at h
  rw [Bool.and_eq_true, Bool.and_eq_true] at h
  rcases List.mem_cons.1 hx with rfl | hx
  ·exact h.1.2
  ·exact allOk_mem h.2 x hx

theorem valid_rules {t : Table} (h : valid t = true) : t.rules.length ≤ 80 ∧ ∀ r ∈ t.rules, ruleOk r = true := by
 unfold valid at h
 simp only [Bool.and_eq_true, decide_eq_true_eq] at h
 exact ⟨h.1.1.1.1.1.1.2, allOk_mem h.1.1.2⟩
end Rw
namespace Al

theorem rulesFrom_mem (k : Int) : ∀ (l : List Rw.Rule) (i : Nat), ∀ r ∈ rulesFrom k i l, (∃ q ∈ l, r.cost = q.cost ∧ r.to_ = q.to_ ∧ Sc.lets k q.from_ = some r.from_) ∧ i ≤ r.index ∧ r.index < i + l.length
 | [], _, r, h => by simp [rulesFrom] at h
 | x :: l, i, r, h => by
  have go : r ∈ rulesFrom k (i + 1) l → (∃ q ∈ x :: l, r.cost = q.cost ∧ r.to_ = q.to_ ∧ Sc.lets k q.from_ = some r.from_) ∧ i ≤ r.index ∧ r.index < i + (x :: l).length := fun h => by
   obtain ⟨⟨q, h1, h2⟩, h3, h4⟩ := rulesFrom_mem k l (i + 1) r h
   exact ⟨⟨q, List.mem_cons_of_mem _ h1, h2⟩, by omega, by simp; omega⟩
  unfold rulesFrom at h
  split at h
  ·split at h
   ·rename_i f hf
    rcases List.mem_cons.1 h with rfl | h
    ·exact ⟨⟨x, List.mem_cons_self, rfl, rfl, hf⟩, Nat.le_refl _, by simp⟩
    ·exact go h
   ·exact go h
  ·exact go h

theorem rulesFrom_len (k : Int) : ∀ (l : List Rw.Rule) (i : Nat), (rulesFrom k i l).length ≤ l.length
 | [], _ => by simp [rulesFrom]
 | x :: l, i => by
  have := rulesFrom_len k l (i + 1)
  unfold rulesFrom
  split
  ·split
   ·simp only [List.length_cons]; omega
   ·simp only [List.length_cons]; omega
  ·simp only [List.length_cons]; omega

end Al
namespace Go.Proofs.YtdchjacccmajcaaGreatDoor
end Go.Proofs.YtdchjacccmajcaaGreatDoor
namespace Go.Proofs.YtdchjacccmajcaaGreatDoor
open Go.RowKit Go.Lib Go.Maps
attribute [local go_sem] Oper.semAt_some
/-- a derivation as a value -/
def DerAt (W : World) (d : Al.D) (v : List Value) : Prop :=
 ∃ lv rv, v = [.int .i64 d.cost, lv, rv, .string (bs d.form)] ∧ SlOf W lv 1 (fun i : Int => [.int .i64 i]) d.left ∧ SlOf W rv 1 (fun i : Int => [.int .i64 i]) d.right

theorem ButThese.row {Ds : List Nat} {W W' : World} {B : Nat} {e : TypeId} {z : Nat} {v : Value} {n : Nat} {xs : List Value} (h : ButThese Ds W W') (ho : W.ownsRow B e z v n xs) (hd : ∀ D ∈ Ds, W.heap[D]? = some (.deferred (some []))) : W'.ownsRow B e z v n xs := by
 refine ⟨ho.1, ?_⟩
 rcases ho.2 with h2 | ⟨g, cap, cur, hv, hg, hh, r⟩
 ·exact .inl h2
 ·refine .inr ⟨g, cap, cur, hv, hg, (h.block g (fun hm => ?_)).trans hh, r⟩
  rw [hd g hm] at hh; cases hh

/-- only draws have been made -/
def OnlyDrawn (A : World) (_ : Array Bool) (X : World) : Prop := ∃ n, X = A.drewN n

theorem AtS.drawn {md : Region.Mode} {ops : Array Oper} {A X : World} {i : Nat} (h : AtS md ops (OnlyDrawn A) i X) : ∃ n, X = A.drewN n := by
 obtain ⟨_, _, _, h⟩ := h
 exact h

end Go.Proofs.YtdchjacccmajcaaGreatDoor
namespace Al
end Al
namespace Go.Proofs.YtdchjacccmajcaaGreatDoor
open Go.RowKit Go.Lib Go.Maps
end Go.Proofs.YtdchjacccmajcaaGreatDoor
namespace Al
end Al
namespace Go.Proofs.YtdchjacccmajcaaGreatDoor
open Go.RowKit Go.Lib Go.Maps
theorem DerAt.below {W W' : World} {d : Al.D} {v : List Value} (h : DerAt W d v) (hb : Below W.heap.size W W') : DerAt W' d v := by
 obtain ⟨lv, rv, e, h1, h2⟩ := h
 exact ⟨lv, rv, e, h1.below hb, h2.below hb⟩

theorem str_beq (a b : List UInt8) : ((bs a).toList == (bs b).toList) = decide (a = b) := by
 rw [ByteArray.toList_eq, ByteArray.toList_eq]
 show ((bs a).data.toList == (bs b).data.toList) = _
 rw [bs_list, bs_list, Bool.eq_iff_iff]
 simp

end Go.Proofs.YtdchjacccmajcaaGreatDoor
namespace Go.Proofs.YtdchjacccmajcaaGreatDoor
open Go.RowKit Go.Lib Go.Maps
end Go.Proofs.YtdchjacccmajcaaGreatDoor
namespace Al
def fewB (t : Rw.Table) (ws : List (List UInt8)) : Bool :=
 decide (t.rules.length ≤ 80) && decide (t.drops.length ≤ 40) && decide (t.ends.length ≤ 40) && t.rules.all (fun r => decide (r.from_.length ≤ 12) && decide (r.to_.length ≤ 12)) &&
  t.drops.all (fun d => decide (d.word.length ≤ 60)) && t.ends.all (fun d => decide (d.word.length ≤ 60)) && ws.all (fun x => decide (x.length ≤ 30))

end Al
namespace Go.Proofs.YtdchjacccmajcaaGreatDoor
open Go.RowKit Go.Lib Go.Maps

/-- a table's value, its slices in memory, of whatever size -/
structure TableRaw (w : World) (t : Rw.Table) (v : Value) : Prop where
 at_ : ∃ vr vd ve, v = .agg #[vr, vd, ve, .int .i64 t.drop, .int .i64 t.order, .int .i64 t.initial] ∧ SlOf w vr 4 ruleCells t.rules ∧ SlOf w vd 3 dropCells t.drops ∧ SlOf w ve 3 dropCells t.ends
 rules : ∀ r ∈ t.rules, (Lit.int .i64 r.script).wf = true ∧ r.from_.length ≤ maxLen ∧ r.to_.length ≤ maxLen
 drops : ∀ d ∈ t.drops, (Lit.int .i64 d.script).wf = true ∧ d.word.length ≤ maxLen
 ends : ∀ d ∈ t.ends, (Lit.int .i64 d.script).wf = true ∧ d.word.length ≤ maxLen

theorem TableRaw.below {w w' : World} {t : Rw.Table} {v : Value} (h : TableRaw w t v) (hb : Below w.heap.size w w') : TableRaw w' t v := by
 obtain ⟨⟨vr, vd, ve, e, h1, h2, h3⟩, h4, h5, h6⟩ := h
 exact ⟨⟨vr, vd, ve, e, h1.below hb, h2.below hb, h3.below hb⟩, h4, h5, h6⟩

theorem TableRaw.few {w : World} {t : Rw.Table} {v : Value} {ws : List (List UInt8)} (h : TableRaw w t v) (hf : Al.fewB t ws = true) : TableAt w t v := by
 unfold Al.fewB at hf
 simp only [Bool.and_eq_true, decide_eq_true_eq, List.all_eq_true] at hf
 obtain ⟨⟨⟨⟨⟨⟨f1, f2⟩, f3⟩, f4⟩, f5⟩, f6⟩, f7⟩ := hf
 exact ⟨h.at_, fun r hr => ⟨(h.rules r hr).1, by have := f4 r hr; omega, by have := f4 r hr; omega⟩, fun d hd => ⟨(h.drops d hd).1, by have := f5 d hd; omega⟩, fun d hd => ⟨(h.ends d hd).1, by have := f6 d hd; omega⟩, by omega, by omega, by omega⟩

theorem all_step {α : Type} {p : α → Bool} {l : List α} {n : Nat} {x : α} (h : (l.take n).all p = true) (hx : l[n]? = some x) : (l.take (n + 1)).all p = p x := by
 obtain ⟨hn, he⟩ := List.getElem?_eq_some_iff.1 hx
 rw [List.take_succ_eq_append_getElem hn, he, List.all_append, h]
 simp

theorem all_stop {α : Type} {p : α → Bool} {l : List α} {n : Nat} (h : (l.take (n + 1)).all p = false) : l.all p = false := by
 rw [← List.take_append_drop (n + 1) l, List.all_append, h]; rfl

end Go.Proofs.YtdchjacccmajcaaGreatDoor
