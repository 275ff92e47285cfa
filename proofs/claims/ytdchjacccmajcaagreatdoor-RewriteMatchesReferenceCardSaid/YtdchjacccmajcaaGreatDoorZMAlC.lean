/-
  Several texts in one: ZAl1, ZAl2, ZAl3, ZAlKey, ZAlFit, ZAl4, ZAl5, ZAl6, ZAl7, ZAlFew, ZAl8, ZAl9, ZAl10, ZAl11, ZAl12. Conditions: as each law says.
-/
import Derived.Test.YtdchjacccmajcaaGreatDoorZRew3
import Derived.Test.YtdchjacccmajcaaGreatDoorZMPlain
import Derived.Test.YtdchjacccmajcaaGreatDoorZMBase
import Derived.Deep.RegionHeld3
import Derived.IntWalk
import Derived.RangeFuncBox
import Derived.RangeFuncLeaves
import Derived.Shelf.Abstract
import Derived.Shelf.RegionOpen
import Derived.OwnWalkIn
import Derived.TacticsInMore
import Derived.LoopNIn
import Derived.LoopIn
import Derived.Sort.CutIn
import Derived.Test.YtdchjacccmajcaaGreatDoorZKey
import Derived.Deep.Cut
import Derived.Test.YtdchjacccmajcaaGreatDoorZScr4
import Derived.Outline
namespace Go.Proofs.YtdchjacccmajcaaGreatDoor
open Go.RowKit Go.Lib Go.Maps

def strC (l : List UInt8) : List Value := [.string (bs l)]
def ruleC (p : Al.R × Value) : List Value := [.int .i64 p.1.index, .int .i64 p.1.cost, p.2, .string (bs p.1.to_)]
def ruleV (p : Al.R × Value) : Value := .agg (ruleC p).toArray

/-- rules in memory -/
def RulesAt (w : World) (fs : List (Al.R × Value)) (v : Value) : Prop := SlOf w v 4 ruleC fs ∧ ∀ p ∈ fs, SlOf w p.2 1 strC p.1.from_

theorem RulesAt.below {w w' : World} {fs : List (Al.R × Value)} {v : Value} (h : RulesAt w fs v) (hb : Below w.heap.size w w') : RulesAt w' fs v := ⟨h.1.below hb, fun p hp => (h.2 p hp).below hb⟩

/-- a row of strings, cell by cell -/
theorem row_cells {w : World} {g o : Nat} {l : List (List UInt8)} (h : RowOf w g o 1 strC l) : ∀ j, j < (l.map bs).length → w.cell? ⟨g, o + j, none⟩ = some (.string ((l.map bs).getD j ByteArray.empty)) := by
  intro j hj
  rw [List.length_map] at hj
  have := h.2 j l[j] (List.getElem?_eq_getElem hj) 0 (.string (bs l[j])) rfl
  rw [Nat.mul_one, Nat.add_zero] at this
  rw [this]
  simp [List.getD, List.getElem?_eq_getElem hj]

theorem bs_inj {a b : List UInt8} (h : bs a = bs b) : a = b := by
  have := congrArg (fun x : ByteArray => x.data.toList) h
  exact this

theorem map_bs_inj : ∀ {a b : List (List UInt8)}, a.map bs = b.map bs → a = b
  | [], [], _ => rfl
  | [], _ :: _, h => by simp at h
  | _ :: _, [], h => by simp at h
  | x :: a, y :: b, h => by
    rw [List.map_cons, List.map_cons, List.cons.injEq] at h
    rw [bs_inj h.1, map_bs_inj h.2]

/-- slices.Equal of a part of one row and another row, not empty -/
theorem equal_part {w : World} {g o k n cap g2 o2 c2 : Nat} {l f : List (List UInt8)} (h : RowOf w g o 1 strC l) (h2 : RowOf w g2 o2 1 strC f) (hk : k + n ≤ l.length) (hn : n = f.length) (hb : n ≤ 1000000) :
    Calls Tryz.prog 41 #[.slice (some ⟨g, o + k, none⟩) n cap, .slice (some ⟨g2, o2, none⟩) n c2] w (Gives (.bool (decide ((l.drop k).take n = f))) w) := by
  have hx := row_cells h
  have hy := row_cells h2
  refine (Tryz.slices_Equal_string g (o + k) n cap g2 o2 n c2 ((l.map bs).drop k) (f.map bs) w (by simp; omega) (by simp; omega) (by omega) (by omega) (fun j hj => ?_) hy).mono ?_
  · rw [List.length_drop] at hj
    rw [Nat.add_assoc, hx (k + j) (by omega)]
    simp [List.getD, List.getElem?_drop]
  · rintro e w' ⟨rfl, q, rfl⟩
    refine ⟨ret_bool (decide_eq_decide.2 ?_), Below.drewQ w q⟩
    rw [List.take_of_length_le (l := f.map bs) (by simp; omega), ← List.map_drop, ← List.map_take]
    exact ⟨fun e => map_bs_inj e, fun e => by rw [e]⟩

end Go.Proofs.YtdchjacccmajcaaGreatDoor

namespace Go.Proofs.YtdchjacccmajcaaGreatDoor
open Go.RowKit Go.Lib Go.Maps

def stC (s : Al.St) : List Value := [.int .i64 s.i, .int .i64 s.j, .string (bs s.ahead), .bool s.right]
def stV (s : Al.St) : Value := .agg (stC s).toArray

/-- both sides in memory -/
structure WordsAt (W : World) (w : Al.Ws) (fl fr : List (Al.R × Value)) (v : List Value) : Prop where
  at_ : ∃ ll lr rl rr, v = [ll, lr, rl, rr] ∧ SlOf W ll 1 strC w.left.letters ∧ RulesAt W fl lr ∧ SlOf W rl 1 strC w.right.letters ∧ RulesAt W fr rr
  left : fl.map Prod.fst = w.left.rules
  right : fr.map Prod.fst = w.right.rules

theorem WordsAt.below {W W' : World} {w : Al.Ws} {fl fr : List (Al.R × Value)} {v : List Value} (h : WordsAt W w fl fr v) (hb : Below W.heap.size W W') : WordsAt W' w fl fr v := by
  obtain ⟨⟨ll, lr, rl, rr, e, a, b, c, d⟩, h1, h2⟩ := h
  exact ⟨⟨ll, lr, rl, rr, e, a.below hb, b.below hb, c.below hb, d.below hb⟩, h1, h2⟩

theorem empty_is (l : List UInt8) : (bs l).toList.isEmpty = l.isEmpty := by rw [ByteArray.toList_eq]; rfl

theorem nat_beq (a b : Nat) : ((a : Int) == (b : Int)) = decide (a = b) := by
  rw [Bool.eq_iff_iff]; simp; omega

/-- the rules that the iterator still has before it, and what it hands over next -/
def nxMove (w : Al.Ws) (s : Al.St) : List (Al.R × Value) → Option (Array Value × List (Al.R × Value))
  | [] => none
  | p :: l => match Al.move w s p.1 with
    | some (_, s') => some (#[ruleV p, stV s'], l)
    | none => nxMove w s l

end Go.Proofs.YtdchjacccmajcaaGreatDoor

namespace Go.Proofs.YtdchjacccmajcaaGreatDoor
open Go.RowKit Go.Lib Go.Maps

attribute [local go_sem] Oper.semAt_some

/-- what a round must leave as it is -/
structure MovesKeep (B : Nat) (w : Al.Ws) (fl fr : List (Al.R × Value)) (v : List Value) (W W' : World) : Prop where
  size : W.heap.size ≤ W'.heap.size
  cells : ∀ (q : Nat) (o : Obj), B ≤ q → W.heap[q]? = some o → o.isCells = true → W'.heap[q]? = some o
  words : WordsAt W w fl fr v → WordsAt W' w fl fr v

theorem set_two {W : World} {b : Nat} {x y u z : Value} {t : TypeId} (h : W.heap[b]? = some (.cells #[x, y] t (0, 0))) : ((W.setCell ⟨b, 0, none⟩ u).setCell ⟨b, 1, none⟩ z).drew.heap[b]? = some (.cells #[u, z] t (0, 0)) := by
  show ((W.setCell ⟨b, 0, none⟩ u).setCell ⟨b, 1, none⟩ z).heap[b]? = _
  simp [World.setCell, Array.getElem?_modify, h]

def theRules (w : Al.Ws) (s : Al.St) (fl fr : List (Al.R × Value)) : List (Al.R × Value) := if Al.byLeft w s then fl else fr

theorem theRules_map {w : Al.Ws} {s : Al.St} {fl fr : List (Al.R × Value)} (h1 : fl.map Prod.fst = w.left.rules) (h2 : fr.map Prod.fst = w.right.rules) : (theRules w s fl fr).map Prod.fst = (Al.one w s).rules := by
  unfold theRules Al.one; split
  · exact h1
  · exact h2

theorem one_mem {w : Al.Ws} {s : Al.St} {r : Al.R} (h : r ∈ (Al.one w s).rules) : r ∈ w.left.rules ++ w.right.rules := by
  unfold Al.one at h
  rw [List.mem_append]
  split at h
  · exact .inl h
  · exact .inr h

theorem nxMove_cons (w : Al.Ws) (s : Al.St) (F : List (Al.R × Value)) (k : Nat) (p : Al.R × Value) (h : F[k]? = some p) :
    nxMove w s (F.drop k) = match Al.move w s p.1 with
      | some (_, s') => some (#[ruleV p, stV s'], F.drop (k + 1))
      | none => nxMove w s (F.drop (k + 1)) := by
  obtain ⟨hk, he⟩ := List.getElem?_eq_some_iff.1 h
  rw [List.drop_eq_getElem_cons hk, he]
  rfl

end Go.Proofs.YtdchjacccmajcaaGreatDoor

namespace Go.Proofs.YtdchjacccmajcaaGreatDoor
open Go.RowKit Go.Maps

theorem wf_small (n : Nat) (h : n ≤ 1000000) : (Lit.int .i64 (n : Int)).wf = true := by
  have h1 : IntKind.i64.min = -9223372036854775808 := by decide
  have h2 : IntKind.i64.max = 9223372036854775807 := by decide
  show (decide (IntKind.i64.min ≤ (n : Int)) && decide ((n : Int) ≤ IntKind.i64.max)) = true
  rw [h1, h2, decide_eq_true (by omega), decide_eq_true (by omega)]; rfl

theorem st_eq {s s' : Al.St} : stV s = stV s' ↔ s = s' := by
  constructor
  · intro h
    obtain ⟨i, j, a, r⟩ := s
    obtain ⟨i', j', a', r'⟩ := s'
    simp [stV, stC, bs] at h
    obtain ⟨h1, h2, h3, h4⟩ := h
    simp only [Al.St.mk.injEq]
    exact ⟨by omega, by omega, h3, h4⟩
  · intro h; rw [h]

theorem zero_int (w : World) : (zeroValue 3).run Tryz.prog w = .ok (.int .i64 0) w := by kernel_rfl

open Classical in
/-- the map of the least costs of these states -/
noncomputable def costsF (w : Al.Ws) (K : List Al.St) (x : Value) : Option Value := if h : ∃ s ∈ K, stV s = x then some (.int .i64 (Al.cost w h.choose)) else none

theorem costsF_in {w : Al.Ws} {K : List Al.St} {s : Al.St} (h : s ∈ K) : costsF w K (stV s) = some (.int .i64 (Al.cost w s)) := by
  have hex : ∃ s' ∈ K, stV s' = stV s := ⟨s, h, rfl⟩
  unfold costsF
  rw [dif_pos hex]
  have := hex.choose_spec.2
  rw [st_eq.1 this]

theorem costsF_out {w : Al.Ws} {K : List Al.St} {s : Al.St} (h : s ∉ K) : costsF w K (stV s) = none := by
  unfold costsF
  rw [dif_neg]
  rintro ⟨s', h1, h2⟩
  exact h (by rw [← st_eq.1 h2]; exact h1)

theorem costsF_cons {w : Al.Ws} {K : List Al.St} {s : Al.St} : costsF w (s :: K) (stV s) = some (.int .i64 (Al.cost w s)) ∧ ∀ y, y ≠ stV s → costsF w (s :: K) y = costsF w K y := by
  refine ⟨costsF_in List.mem_cons_self, fun y hy => ?_⟩
  by_cases h : ∃ s' ∈ K, stV s' = y
  · obtain ⟨s', h1, rfl⟩ := h
    rw [costsF_in h1, costsF_in (List.mem_cons_of_mem _ h1)]
  · unfold costsF
    rw [dif_neg h, dif_neg]
    rintro ⟨s', h1, h2⟩
    rcases List.mem_cons.1 h1 with rfl | h1
    · exact hy h2.symm
    · exact h ⟨s', h1, h2⟩

end Go.Proofs.YtdchjacccmajcaaGreatDoor

namespace Al

/-- what may be ahead -/
def aheads (w : Ws) : List (List UInt8) := [] :: (w.left.rules ++ w.right.rules).flatMap (fun r => (List.range (r.to_.length + 1)).map (fun n => r.to_.drop n))

theorem mem_aheads {w : Ws} {a : List UInt8} : a ∈ aheads w ↔ a = [] ∨ ∃ r ∈ w.left.rules ++ w.right.rules, ∃ n, a = r.to_.drop n := by
  unfold aheads
  rw [List.mem_cons, List.mem_flatMap]
  constructor
  · rintro (h | ⟨r, hr, h⟩)
    · exact .inl h
    · rw [List.mem_map] at h
      obtain ⟨n, _, rfl⟩ := h
      exact .inr ⟨r, hr, n, rfl⟩
  · rintro (h | ⟨r, hr, n, rfl⟩)
    · exact .inl h
    · by_cases hn : n ≤ r.to_.length
      · exact .inr ⟨r, hr, List.mem_map.2 ⟨n, List.mem_range.2 (by omega), rfl⟩⟩
      · exact .inl (List.drop_eq_nil_of_le (by omega))

theorem aheads_drop {w : Ws} {a : List UInt8} (n : Nat) (h : a ∈ aheads w) : a.drop n ∈ aheads w := by
  rw [mem_aheads] at h ⊢
  rcases h with rfl | ⟨r, hr, m, rfl⟩
  · exact .inl (by simp)
  · exact .inr ⟨r, hr, m + n, by rw [List.drop_drop]⟩

def Ok (w : Ws) (s : St) : Prop := Within w s ∧ s.ahead ∈ aheads w

theorem ok_zero {w : Ws} : Ok w zero := ⟨within_zero, by rw [mem_aheads]; exact .inl rfl⟩

theorem one_rules {w : Ws} {s : St} {r : R} (h : r ∈ (one w s).rules) : r ∈ w.left.rules ++ w.right.rules := by
  unfold one at h
  rw [List.mem_append]
  split at h
  · exact .inl h
  · exact .inr h

theorem ok_step {w : Ws} (hw : w.Good) {s s' : St} {r : R} (h : (r, s') ∈ moves w s) (hs : Ok w s) : Ok w s' := by
  refine ⟨(move_step hw h hs.1).1, ?_⟩
  obtain ⟨h1, _, h3⟩ := mem_moves.1 h
  unfold nextOf at h3
  simp only at h3
  split at h3
  · cases h3; exact aheads_drop _ hs.2
  · split at h3
    · cases h3
      rw [mem_aheads]
      exact .inr ⟨r, one_rules h1, _, rfl⟩
    · cases h3

/-- all states -/
def states (w : Ws) : List St :=
  (List.range (w.left.letters.length + 1)).flatMap fun i => (List.range (w.right.letters.length + 1)).flatMap fun j => (aheads w).flatMap fun a => [⟨i, j, a, true⟩, ⟨i, j, a, false⟩]

theorem mem_states {w : Ws} {s : St} (h : Ok w s) : s ∈ states w := by
  obtain ⟨⟨h1, h2, _⟩, h3⟩ := h
  obtain ⟨i, j, a, r⟩ := s
  unfold states
  simp only [List.mem_flatMap, List.mem_range]
  refine ⟨i, by simp only at h1; omega, j, by simp only at h2; omega, a, h3, ?_⟩
  cases r <;> simp

theorem flat_le {α β : Type} (f : α → List β) (c : Nat) : ∀ (l : List α), (∀ x ∈ l, (f x).length ≤ c) → (l.flatMap f).length ≤ l.length * c
  | [], _ => by simp
  | x :: l, h => by
    rw [List.flatMap_cons, List.length_append, List.length_cons, Nat.succ_mul]
    have := h x List.mem_cons_self
    have := flat_le f c l (fun y hy => h y (List.mem_cons_of_mem _ hy))
    omega

theorem states_few {w : Ws} (h1 : w.left.letters.length ≤ 12) (h2 : w.right.letters.length ≤ 12) (h3 : (w.left.rules ++ w.right.rules).length ≤ 200) (h4 : ∀ r ∈ w.left.rules ++ w.right.rules, r.to_.length ≤ 1000) :
    (states w).length ≤ 100000000 := by
  have ha : (aheads w).length ≤ 200201 := by
    unfold aheads
    rw [List.length_cons]
    have := flat_le (fun r : R => (List.range (r.to_.length + 1)).map (fun n => r.to_.drop n)) 1001 (w.left.rules ++ w.right.rules) (fun r hr => by
      have := h4 r hr
      simp only [List.length_map, List.length_range]; omega)
    have h5 : (w.left.rules ++ w.right.rules).length * 1001 ≤ 200 * 1001 := Nat.mul_le_mul_right _ h3
    omega
  have e1 : ∀ i j : Nat, ((aheads w).flatMap fun a => [(⟨i, j, a, true⟩ : St), ⟨i, j, a, false⟩]).length ≤ 400402 := fun i j => by
    have := flat_le (fun a => [(⟨i, j, a, true⟩ : St), ⟨i, j, a, false⟩]) 2 (aheads w) (fun _ _ => by simp)
    omega
  have e2 : ∀ i : Nat, ((List.range (w.right.letters.length + 1)).flatMap fun j => (aheads w).flatMap fun a => [(⟨i, j, a, true⟩ : St), ⟨i, j, a, false⟩]).length ≤ 13 * 400402 := fun i => by
    have := flat_le (fun j => (aheads w).flatMap fun a => [(⟨i, j, a, true⟩ : St), ⟨i, j, a, false⟩]) 400402 (List.range (w.right.letters.length + 1)) (fun j _ => e1 i j)
    rw [List.length_range] at this
    exact Nat.le_trans this (Nat.mul_le_mul_right _ (by omega))
  have := flat_le (fun i => (List.range (w.right.letters.length + 1)).flatMap fun j => (aheads w).flatMap fun a => [(⟨i, j, a, true⟩ : St), ⟨i, j, a, false⟩]) (13 * 400402) (List.range (w.left.letters.length + 1)) (fun i _ => e2 i)
  rw [List.length_range] at this
  have h5 : (w.left.letters.length + 1) * (13 * 400402) ≤ 13 * (13 * 400402) := Nat.mul_le_mul_right _ (by omega)
  unfold states
  omega

/-- states, with all that can be reached from them -/
structure Closed (w : Ws) (K : List St) : Prop where
  ok : ∀ s ∈ K, Ok w s
  on : ∀ s ∈ K, ∀ p ∈ moves w s, p.2 ∈ K
  once : K.Nodup

theorem Closed.few {w : Ws} {K : List St} (h : Closed w K) (h1 : w.left.letters.length ≤ 12) (h2 : w.right.letters.length ≤ 12) (h3 : (w.left.rules ++ w.right.rules).length ≤ 200) (h4 : ∀ r ∈ w.left.rules ++ w.right.rules, r.to_.length ≤ 1000) :
    K.length ≤ 100000000 :=
  Nat.le_trans (Go.Proofs.YtdchjacccmajcaaGreatDoor.nodup_le h.once (fun x hx => mem_states (h.ok x hx))) (states_few h1 h2 h3 h4)

theorem aheads_len {w : Ws} (h4 : ∀ r ∈ w.left.rules ++ w.right.rules, r.to_.length ≤ 1000) {a : List UInt8} (h : a ∈ aheads w) : a.length ≤ 1000 := by
  rcases mem_aheads.1 h with rfl | ⟨r, hr, n, rfl⟩
  · simp
  · have := h4 r hr
    rw [List.length_drop]; omega

end Al
namespace Go.Proofs.YtdchjacccmajcaaGreatDoor
open Go.RowKit

/-- the moves that remain -/
def mvs (w : Al.Ws) (s : Al.St) (b : List (Al.R × Value)) : List (Al.R × Al.St) := b.filterMap fun p => Al.move w s p.1

theorem mvs_all {w : Al.Ws} {s : Al.St} {b : List (Al.R × Value)} (h : b.map Prod.fst = (Al.one w s).rules) : mvs w s b = Al.moves w s := by
  unfold mvs Al.moves
  rw [← h, List.filterMap_map]
  rfl

theorem nx_none {w : Al.Ws} {s : Al.St} : ∀ {b : List (Al.R × Value)}, nxMove w s b = none → mvs w s b = []
  | [], _ => rfl
  | p :: b, h => by
    unfold nxMove at h
    unfold mvs
    rw [List.filterMap_cons]
    cases hm : Al.move w s p.1 with
    | none => rw [hm] at h; exact nx_none h
    | some q => rw [hm] at h; cases h

theorem nx_some {w : Al.Ws} {s : Al.St} : ∀ {b b' : List (Al.R × Value)} {vals : Array Value}, nxMove w s b = some (vals, b') →
    ∃ p s', p ∈ b ∧ vals = #[ruleV p, stV s'] ∧ mvs w s b = (p.1, s') :: mvs w s b' ∧ ∀ q ∈ b', q ∈ b
  | [], _, _, h => by cases h
  | p :: b, b', vals, h => by
    unfold nxMove at h
    cases hm : Al.move w s p.1 with
    | none =>
      rw [hm] at h
      obtain ⟨q, s', h1, h2, h3, h4⟩ := nx_some h
      refine ⟨q, s', List.mem_cons_of_mem _ h1, h2, ?_, fun x hx => List.mem_cons_of_mem _ (h4 x hx)⟩
      unfold mvs at h3 ⊢
      rw [List.filterMap_cons, hm]
      exact h3
    | some q =>
      rw [hm] at h
      obtain ⟨r, s'⟩ := q
      simp only [Option.some.injEq, Prod.mk.injEq] at h
      obtain ⟨rfl, rfl⟩ := h
      have hr : r = p.1 := by
        unfold Al.move at hm
        split at hm
        · cases hn : Al.nextOf (Al.byLeft w s) s p.1 with
          | none => rw [hn] at hm; cases hm
          | some n => rw [hn] at hm; cases hm; rfl
        · cases hm
      refine ⟨p, s', List.mem_cons_self, rfl, ?_, fun x hx => List.mem_cons_of_mem _ hx⟩
      unfold mvs
      rw [List.filterMap_cons, hm, hr]

end Go.Proofs.YtdchjacccmajcaaGreatDoor

namespace Go.Proofs.YtdchjacccmajcaaGreatDoor
open Go.RowKit Go.Lib Go.Maps

attribute [local go_sem] Oper.semAt_some

/-- words of a moderate size -/
structure Few (w : Al.Ws) : Prop where
  good : w.Good
  small : w.Small
  rules : (w.left.rules ++ w.right.rules).length ≤ 200
  sizes : ∀ r ∈ w.left.rules ++ w.right.rules, r.from_.length ≤ 12 ∧ r.to_.length ≤ 1000

theorem MapF.no_cells {W : World} {P : Program} {k : TypeId} {b n : Nat} {f : Value → Option Value} (h : MapF W P k b n f) : ∃ o : Obj, W.heap[b]? = some o ∧ o.isCells = false := by
  obtain ⟨D, ⟨es, clock, hb, _⟩, _⟩ := h
  exact ⟨_, hb, rfl⟩

theorem WordsAt.but {W W' : World} {w : Al.Ws} {fl fr : List (Al.R × Value)} {v : List Value} {m : Nat} (h : WordsAt W w fl fr v) (hb : But W.heap.size m W W') {om : Obj} (hm : W.heap[m]? = some om) (hmc : om.isCells = false) : WordsAt W' w fl fr v := by
  obtain ⟨⟨ll, lr, rl, rr, e, a, b, c, d⟩, h1, h2⟩ := h
  exact ⟨⟨ll, lr, rl, rr, e, a.but hb hm hmc, ⟨b.1.but hb hm hmc, fun p hp => (b.2 p hp).but hb hm hmc⟩, c.but hb hm hmc, ⟨d.1.but hb hm hmc, fun p hp => (d.2 p hp).but hb hm hmc⟩⟩, h1, h2⟩

section
variable {w : Al.Ws} {fl fr : List (Al.R × Value)} {v : List Value} {Bk Bw Bf m : Nat} {K K' : List Al.St} {W W' : World}

theorem grown_but {W W' : World} {row : Option Nat} {r : Nat} (hg : W.grownBy W' row) (hr : ∀ q, row = some q → q = r) : But W.heap.size r W W' := But.of_grown hg hr

theorem WordsAt.mem {W : World} {w : Al.Ws} {fl fr : List (Al.R × Value)} {v : List Value} {s : Al.St} (h : WordsAt W w fl fr v) {p : Al.R × Value} (hp : p ∈ theRules w s fl fr) : SlOf W p.2 1 strC p.1.from_ := by
  obtain ⟨⟨ll, lr, rl, rr, e, a, b, c, d⟩, h1, h2⟩ := h
  unfold theRules at hp
  split at hp
  · exact b.2 p hp
  · exact d.2 p hp

theorem MovesKeep.trans {B : Nat} {w : Al.Ws} {fl fr : List (Al.R × Value)} {v : List Value} {W1 W2 W3 : World} (h : MovesKeep B w fl fr v W1 W2) (g : MovesKeep B w fl fr v W2 W3) : MovesKeep B w fl fr v W1 W3 :=
  ⟨Nat.le_trans h.size g.size, fun q o h1 h2 h3 => g.cells q o h1 (h.cells q o h1 h2 h3) h3, fun h1 => g.words (h.words h1)⟩

theorem movesKeep_record (B : Nat) (w : Al.Ws) (fl fr : List (Al.R × Value)) (v : List Value) (W : World) (l : Nat) (o o' : Obj) (hl : W.heap[l]? = some o) (ho : o.isCells = false) : MovesKeep B w fl fr v W (W.putObj l o') := by
  have hb := grown_but (r := l) (grownBy_putObj' W l o') (fun q e => by cases e; rfl)
  exact ⟨hb.size, fun q ob _ h2 h3 => hb.cells hl ho h2 h3, fun h => h.but hb hl ho⟩

end
end Go.Proofs.YtdchjacccmajcaaGreatDoor

namespace Go.Proofs.YtdchjacccmajcaaGreatDoor
open Go.RowKit Go.Lib Go.Maps

section
variable (P : Program) (w : World) (a : Addr) (m : Mode)
theorem run_store_fn (f : Fn) (x y : Array Value) : (store a (.func f x y) m).run P w = stored P w a (.func f x y) m := run_store P w a _ m rfl
end

end Go.Proofs.YtdchjacccmajcaaGreatDoor

namespace Al

theorem rulesFrom_append (k : Int) : ∀ (a b : List Rw.Rule) (i : Nat), rulesFrom k i (a ++ b) = rulesFrom k i a ++ rulesFrom k (i + a.length) b
  | [], b, i => by simp [rulesFrom]
  | r :: a, b, i => by
    have ih := rulesFrom_append k a b (i + 1)
    rw [show i + 1 + a.length = i + (r :: a).length by simp; omega] at ih
    rw [List.cons_append]
    simp only [rulesFrom]
    split
    · split
      · rw [ih]; rfl
      · rw [ih]
    · rw [ih]

theorem rulesFrom_take (k : Int) {l : List Rw.Rule} {n : Nat} {r : Rw.Rule} (h : l[n]? = some r) : rulesFrom k 0 (l.take (n + 1)) = rulesFrom k 0 (l.take n) ++ rulesFrom k n [r] := by
  obtain ⟨hn, he⟩ := List.getElem?_eq_some_iff.1 h
  rw [List.take_succ_eq_append_getElem hn, he, rulesFrom_append]
  rw [List.length_take, Nat.zero_add, Nat.min_eq_left (Nat.le_of_lt hn)]

end Al
namespace Go.Proofs.YtdchjacccmajcaaGreatDoor
open Go.RowKit Go.Lib Go.Maps

/-- what sideOf ends in -/
def SidePost (t : Rw.Table) (k : Int) (word : List UInt8) (W : World) (e : Ending) (W' : World) : Prop :=
  Below W.heap.size W W' ∧ match Al.side t.rules k word with
    | none => e = .returned (.tuple #[.agg #[.slice none 0 0, .slice none 0 0], .bool false])
    | some S => ∃ lv rv fs, e = .returned (.tuple #[.agg #[lv, rv], .bool true]) ∧ SlOf W' lv 1 strC S.letters ∧ RulesAt W' fs rv ∧ fs.map Prod.fst = S.rules

theorem set_grown_at (w : World) (B o : Nat) (u : Value) : w.grownBy (w.setCell ⟨B, o, none⟩ u) (some B) :=
  ⟨rfl, rfl, rfl, by simp [World.setCell], fun k _ hk => Below.heap_setCell w ⟨B, o, none⟩ u k (fun e => hk (by rw [e]))⟩

theorem kept_at {w w' : World} {B q : Nat} {e : TypeId} {z : Nat} {v : Value} {m : Nat} {xs : List Value} (h : w.ownsRow B e z v m xs) (hg : w.grownBy w' (some q)) (hq : q < B) : w'.ownsRow B e z v m xs := by
  refine h.kept hg ?_
  cases hv : v.ownBlock with
  | none => exact .inl rfl
  | some k =>
    refine .inr (fun e => ?_)
    have := (own_cells h hv).1
    have := Option.some.inj e
    omega

theorem kept_type {w w' : World} {B B2 : Nat} {e e2 : TypeId} {z z2 : Nat} {v v2 : Value} {m m2 : Nat} {xs xs2 : List Value} (h : w.ownsRow B e z v m xs) (h2 : w.ownsRow B2 e2 z2 v2 m2 xs2) (hg : w.grownBy w' v2.ownBlock) (hne : e ≠ e2) : w'.ownsRow B e z v m xs := by
  refine h.kept hg ?_
  cases hv : v.ownBlock with
  | none => exact .inl rfl
  | some k =>
    refine .inr (fun e => ?_)
    obtain ⟨_, cs, h3⟩ := own_cells h hv
    obtain ⟨_, cs', h4⟩ := own_cells h2 e.symm
    rw [h3] at h4
    cases h4
    exact hne rfl

theorem flat_str (l : List (List UInt8)) : l.flatMap strC = l.map fun x => .string (bs x) := by
  induction l with
  | nil => rfl
  | cons x l ih => rw [List.flatMap_cons, ih]; rfl

end Go.Proofs.YtdchjacccmajcaaGreatDoor

namespace Al

def openB (t : Rw.Table) (a : Int) (x : List UInt8) (b : Int) (y : List UInt8) : Bool := (side t.rules a x).isSome && (side t.rules b y).isSome && Rw.valid t

end Al
namespace Go.Proofs.YtdchjacccmajcaaGreatDoor
open Go.RowKit Go.Lib Go.Maps

theorem SidePost.uni {t : Rw.Table} {k : Int} {word : List UInt8} {W W' : World} {e : Ending} (h : SidePost t k word W e W') :
    Below W.heap.size W W' ∧ ∃ a1 n1 c1 a2 n2 c2, e = .returned (.tuple #[.agg #[.slice a1 n1 c1, .slice a2 n2 c2], .bool (Al.side t.rules k word).isSome]) ∧
      ∀ S, Al.side t.rules k word = some S → SlOf W' (.slice a1 n1 c1) 1 strC S.letters ∧ ∃ fs, RulesAt W' fs (.slice a2 n2 c2) ∧ fs.map Prod.fst = S.rules := by
  obtain ⟨hb, h⟩ := h
  refine ⟨hb, ?_⟩
  cases hs : Al.side t.rules k word with
  | none =>
    rw [hs] at h
    exact ⟨none, 0, 0, none, 0, 0, h, fun S e => by cases e⟩
  | some S =>
    rw [hs] at h
    obtain ⟨lv, rv, fs, rfl, h1, h2, h3⟩ := h
    have h1' := h1
    have h2' := h2
    obtain ⟨a, c, rfl, -⟩ := h1'
    obtain ⟨⟨a2, c2, rfl, -⟩, -⟩ := h2'
    exact ⟨_, _, _, _, _, _, rfl, fun S' e => by cases e; exact ⟨h1, fs, h2, h3⟩⟩

/-- what open ends in -/
def OpenPost (t : Rw.Table) (a : Int) (x : List UInt8) (b : Int) (y : List UInt8) (W : World) (e : Ending) (W' : World) : Prop :=
  Below W.heap.size W W' ∧ ∃ a1 n1 c1 a2 n2 c2 a3 n3 c3 a4 n4 c4, e = .returned (.tuple #[.agg #[.slice a1 n1 c1, .slice a2 n2 c2, .slice a3 n3 c3, .slice a4 n4 c4], .bool (Al.openB t a x b y)]) ∧
    ∀ S1 S2, Al.side t.rules a x = some S1 → Al.side t.rules b y = some S2 → ∃ fl fr, WordsAt W' ⟨S1, S2⟩ fl fr [.slice a1 n1 c1, .slice a2 n2 c2, .slice a3 n3 c3, .slice a4 n4 c4]

theorem rulesFrom_from (k : Int) : ∀ (l : List Rw.Rule) (i : Nat), ∀ r ∈ Al.rulesFrom k i l, r.from_ ≠ []
  | [], _, r, h => by simp [Al.rulesFrom] at h
  | x :: l, i, r, h => by
    unfold Al.rulesFrom at h
    split at h
    · split at h
      · rename_i f hf
        rcases List.mem_cons.1 h with rfl | h
        · exact (Sc.lets_len hf).1
        · exact rulesFrom_from k l _ r h
      · exact rulesFrom_from k l _ r h
    · exact rulesFrom_from k l _ r h

theorem side_rules {t : List Rw.Rule} {k : Int} {x : List UInt8} {S : Al.Side} (h : Al.side t k x = some S) : S.rules = Al.rulesFrom k 0 t ∧ Sc.lets k (Sc.fold x) = some S.letters := by
  unfold Al.side at h
  split at h
  · cases h
  · split at h
    · cases h
    · rename_i l hl; cases h; exact ⟨rfl, hl⟩

section
variable {α : Type} {w : World} {v : Value} {sz : Nat} {cells : α → List Value} {l : List α}
/-- a cell is set that holds none of these values -/
theorem SlOf.set_other (h : SlOf w v sz cells l) {q j : Nat} {x : Value} (u : Value) (hx : w.cell? ⟨q, j, none⟩ = some x) (hne : ∀ y ∈ l, x ∉ cells y) : SlOf (w.setCell ⟨q, j, none⟩ u) v sz cells l := by
  obtain ⟨a, cap, h1, h2, h3, h4⟩ := h
  refine ⟨a, cap, h1, h2, h3, fun hl => ?_⟩
  obtain ⟨g, o, ha, hg, hr⟩ := h4 hl
  refine ⟨g, o, ha, by simpa [World.setCell] using hg, fun i y hy k z hz => ?_⟩
  have hc := hr i y hy k z hz
  rw [World.cell?_setCell_other]
  · exact hc
  · intro e
    rw [← e, hx] at hc
    cases hc
    exact hne y (List.mem_of_getElem? hy) (List.mem_of_getElem? hz)
end

theorem WordsAt.set_nil {W : World} {w : Al.Ws} {fl fr : List (Al.R × Value)} {v : List Value} (h : WordsAt W w fl fr v) {q j : Nat} (u : Value) (hx : W.cell? ⟨q, j, none⟩ = some (.slice none 0 0))
    (hl : ∀ r ∈ w.left.rules, r.from_ ≠ []) (hr : ∀ r ∈ w.right.rules, r.from_ ≠ []) : WordsAt (W.setCell ⟨q, j, none⟩ u) w fl fr v := by
  obtain ⟨⟨ll, lr, rl, rr, e, a, b, c, d⟩, h1, h2⟩ := h
  have str : ∀ y : List UInt8, Value.slice none 0 0 ∉ strC y := fun y h => by simp [strC] at h
  have key : ∀ (fs : List (Al.R × Value)), (∀ p ∈ fs, SlOf W p.2 1 strC p.1.from_) → (∀ p ∈ fs, p.1.from_ ≠ []) → ∀ p ∈ fs, Value.slice none 0 0 ∉ ruleC p := fun fs hs hn p hp hm => by
    obtain ⟨a, cap, hv, _⟩ := hs p hp
    unfold ruleC at hm
    rw [hv] at hm
    simp at hm
    exact hn p hp (List.length_eq_zero_iff.1 hm.2.1.symm)
  have n1 : ∀ p ∈ fl, p.1.from_ ≠ [] := fun p hp => hl _ (by rw [← h1]; exact List.mem_map_of_mem hp)
  have n2 : ∀ p ∈ fr, p.1.from_ ≠ [] := fun p hp => hr _ (by rw [← h2]; exact List.mem_map_of_mem hp)
  exact ⟨⟨ll, lr, rl, rr, e, a.set_other u hx (fun y _ => str y), ⟨b.1.set_other u hx (key fl b.2 n1), fun p hp => (b.2 p hp).set_other u hx (fun y _ => str y)⟩,
    c.set_other u hx (fun y _ => str y), ⟨d.1.set_other u hx (key fr d.2 n2), fun p hp => (d.2 p hp).set_other u hx (fun y _ => str y)⟩⟩, h1, h2⟩

end Go.Proofs.YtdchjacccmajcaaGreatDoor

namespace Rw
theorem allOk_mem {α : Type} {ok : α → Bool} {key : α → Int × List UInt8 × List UInt8} : ∀ {l : List α} {seen : List (Int × List UInt8 × List UInt8)}, allOk ok key l seen = true → ∀ x ∈ l, ok x = true
  | [], _, _, x, h => by cases h
  | y :: l, seen, h, x, hx => by
    unfold allOk at h
    rw [Bool.and_eq_true, Bool.and_eq_true] at h
    rcases List.mem_cons.1 hx with rfl | hx
    · exact h.1.2
    · exact allOk_mem h.2 x hx

theorem valid_rules {t : Table} (h : valid t = true) : t.rules.length ≤ 80 ∧ ∀ r ∈ t.rules, ruleOk r = true := by
  unfold valid at h
  simp only [Bool.and_eq_true, decide_eq_true_eq] at h
  exact ⟨h.1.1.1.1.1.1.2, allOk_mem h.1.1.2⟩
end Rw
namespace Al

theorem rulesFrom_mem (k : Int) : ∀ (l : List Rw.Rule) (i : Nat), ∀ r ∈ rulesFrom k i l, (∃ q ∈ l, r.cost = q.cost ∧ r.to_ = q.to_ ∧ Sc.lets k q.from_ = some r.from_) ∧ i ≤ r.index ∧ r.index < i + l.length
  | [], _, r, h => by simp [rulesFrom] at h
  | x :: l, i, r, h => by
    have go : r ∈ rulesFrom k (i + 1) l → (∃ q ∈ x :: l, r.cost = q.cost ∧ r.to_ = q.to_ ∧ Sc.lets k q.from_ = some r.from_) ∧ i ≤ r.index ∧ r.index < i + (x :: l).length := fun h => by
      obtain ⟨⟨q, h1, h2⟩, h3, h4⟩ := rulesFrom_mem k l (i + 1) r h
      exact ⟨⟨q, List.mem_cons_of_mem _ h1, h2⟩, by omega, by simp; omega⟩
    unfold rulesFrom at h
    split at h
    · split at h
      · rename_i f hf
        rcases List.mem_cons.1 h with rfl | h
        · exact ⟨⟨x, List.mem_cons_self, rfl, rfl, hf⟩, Nat.le_refl _, by simp⟩
        · exact go h
      · exact go h
    · exact go h

theorem rulesFrom_sorted (k : Int) : ∀ (l : List Rw.Rule) (i : Nat), (rulesFrom k i l).Pairwise (fun a b => a.index < b.index)
  | [], _ => by simp [rulesFrom]
  | x :: l, i => by
    unfold rulesFrom
    split
    · split
      · rw [List.pairwise_cons]
        refine ⟨fun r h => ?_, rulesFrom_sorted k l _⟩
        have := (rulesFrom_mem k l (i + 1) r h).2.1
        simp only; omega
      · exact rulesFrom_sorted k l _
    · exact rulesFrom_sorted k l _

theorem rulesFrom_len (k : Int) : ∀ (l : List Rw.Rule) (i : Nat), (rulesFrom k i l).length ≤ l.length
  | [], _ => by simp [rulesFrom]
  | x :: l, i => by
    have := rulesFrom_len k l (i + 1)
    unfold rulesFrom
    split
    · split
      · simp only [List.length_cons]; omega
      · simp only [List.length_cons]; omega
    · simp only [List.length_cons]; omega

theorem side_good {t : Rw.Table} (hv : Rw.valid t = true) {k : Int} {x : List UInt8} {S : Side} (h : side t.rules k x = some S) :
    S.Good ∧ S.letters.length ≤ 12 ∧ S.rules.length ≤ 80 ∧ ∀ r ∈ S.rules, r.from_.length ≤ 12 ∧ r.to_.length ≤ 3 := by
  obtain ⟨h1, h2⟩ := Go.Proofs.YtdchjacccmajcaaGreatDoor.side_rules h
  obtain ⟨v1, v2⟩ := Rw.valid_rules hv
  have key : ∀ r ∈ S.rules, (0 ≤ r.cost ∧ r.cost ≤ 1000) ∧ r.from_ ≠ [] ∧ r.from_.length ≤ 12 ∧ r.to_.length ≤ 3 := fun r hr => by
    rw [h1] at hr
    obtain ⟨⟨q, hq, e1, e2, e3⟩, _⟩ := rulesFrom_mem k _ _ r hr
    have ho := v2 q hq
    unfold Rw.ruleOk Rw.isForm Rw.isCost at ho
    simp only [Bool.and_eq_true, decide_eq_true_eq] at ho
    obtain ⟨l1, l2⟩ := Sc.lets_len e3
    exact ⟨⟨by omega, by omega⟩, l1, l2, by rw [e2]; exact ho.1.2.1⟩
  refine ⟨⟨fun r hr => (key r hr).2.1, fun r hr => (key r hr).1, by rw [h1]; exact rulesFrom_sorted k _ _⟩, (Sc.lets_len h2).2, ?_, fun r hr => (key r hr).2.2⟩
  rw [h1]
  exact Nat.le_trans (rulesFrom_len k _ _) v1

/-- the cheapest way from here on, one step -/
theorem path_done {w : Ws} {s : St} (h : done w s = true) (n : Nat) : path w n s = [] := by
  cases n with
  | zero => rfl
  | succ n => unfold path; rw [if_pos h]

theorem path_next {w : Ws} {s s' : St} {r : R} (h : done w s = false) (hp : pick w s = some (r, s')) (n : Nat) : path w (n + 1) s = (decide (s.i < s'.i), r) :: path w n s' := by
  rw [path, h, hp]; simp

end Al
namespace Go.Proofs.YtdchjacccmajcaaGreatDoor
theorem few_valid {t : Rw.Table} (hv : Rw.valid t = true) {a b : Int} {x y : List UInt8} {S1 S2 : Al.Side} (h1 : Al.side t.rules a x = some S1) (h2 : Al.side t.rules b y = some S2) : Few ⟨S1, S2⟩ := by
  obtain ⟨g1, l1, n1, z1⟩ := Al.side_good hv h1
  obtain ⟨g2, l2, n2, z2⟩ := Al.side_good hv h2
  refine ⟨⟨g1, g2⟩, ⟨l1, l2⟩, by rw [List.length_append]; show S1.rules.length + S2.rules.length ≤ 200; omega, fun r hr => ?_⟩
  rcases List.mem_append.1 hr with h | h
  · have := z1 r h; omega
  · have := z2 r h; omega
end Go.Proofs.YtdchjacccmajcaaGreatDoor

namespace Go.Proofs.YtdchjacccmajcaaGreatDoor
open Go.RowKit Go.Lib Go.Maps

attribute [local go_sem] Oper.semAt_some

/-- a derivation as a value -/
def DerAt (W : World) (d : Al.D) (v : List Value) : Prop :=
  ∃ lv rv, v = [.int .i64 d.cost, lv, rv, .string (bs d.form)] ∧ SlOf W lv 1 (fun i : Int => [.int .i64 i]) d.left ∧ SlOf W rv 1 (fun i : Int => [.int .i64 i]) d.right

/-- what Best answers: a derivation and an error -/
def Al.bestOf (t : Rw.Table) (a : Int) (x : List UInt8) (b : Int) (y : List UInt8) : Al.D × Int :=
  if Al.openB t a x b y then
    match Al.side t.rules a x, Al.side t.rules b y with
    | some S1, some S2 => Al.best ⟨S1, S2⟩
    | _, _ => (⟨0, [], [], []⟩, 1)
  else (⟨0, [], [], []⟩, 1)

/-- what Best ends in -/
def BestPost (r : Al.D × Int) (W : World) (e : Ending) (W' : World) : Prop :=
  ∃ v, e = .returned (.tuple #[.agg v.toArray, .int .i64 r.2]) ∧ DerAt W' r.1 v ∧ Below W.heap.size W W'

/-- the end without a mark -/
theorem bodyM_ret {F : Fence} {n : Nat} {P : Program} {fn : Func} {R : Ending → World → Prop} {tmps : Array Value} {w : World} {v : Value} (hr : (results fn tmps).run P w = .ok v w) (hR : R (.returned v) w) :
    bodyPostM F n P fn R .ret { tmps := tmps, defers := [] } w := ⟨v, hr, hR⟩

/-- the results: a cell and a slot -/
theorem run_cell_tmp {P : Program} {fn : Func} {tmps : Array Value} {w : World} {p u : Tmp} {ty : TypeId} (h : fn.results = #[.cell p ty, .tmp u])
    {v x : Value} {ad : Addr} (hp : tmps.getD p undef = .pointer (some ad)) (hl : (loadVar ty ad).run P w = .ok v w) (hu : tmps.getD u undef = x) : (results fn tmps).run P w = .ok (.tuple #[v, x]) w := by
  rw [results_cell_tmp h, hp, hu]
  have e : (asAddr (.pointer (some ad))).run P w = .ok ad w := rfl
  rw [e]
  simp only [Result.andThen]
  rw [hl]

theorem info_int : (Tryz.prog.info? 3).map (fun i => (i.zero, i.size, i.bytes)) = some (some (.int .i64 0), 1, 8) := by kernel_rfl

def intsV (l : List Al.R) : List Value := l.map fun r => .int .i64 r.index

theorem ButThese.row {Ds : List Nat} {W W' : World} {B : Nat} {e : TypeId} {z : Nat} {v : Value} {n : Nat} {xs : List Value} (h : ButThese Ds W W') (ho : W.ownsRow B e z v n xs) (hd : ∀ D ∈ Ds, W.heap[D]? = some (.deferred (some []))) : W'.ownsRow B e z v n xs := by
  refine ⟨ho.1, ?_⟩
  rcases ho.2 with h2 | ⟨g, cap, cur, hv, hg, hh, r⟩
  · exact .inl h2
  · refine .inr ⟨g, cap, cur, hv, hg, (h.block g (fun hm => ?_)).trans hh, r⟩
    rw [hd g hm] at hh; cases hh

theorem intsV_flat (l : List Al.R) : intsV l = (Al.ints l).flatMap (fun i : Int => [.int .i64 i]) := by
  unfold intsV Al.ints
  induction l with
  | nil => rfl
  | cons x l ih => rw [List.map_cons, List.map_cons, List.flatMap_cons, ih]; rfl

theorem slOf_ints {W : World} {B : Nat} {v : Value} {l : List Al.R} (h : W.ownsRow B 3 1 v l.length (intsV l)) : SlOf W v 1 (fun i : Int => [.int .i64 i]) (Al.ints l) := by
  rw [intsV_flat] at h
  have e : l.length = (Al.ints l).length := by unfold Al.ints; rw [List.length_map]
  rw [e] at h
  exact SlOf.own h (fun x _ => rfl)

/-- only draws have been made -/
def OnlyDrawn (A : World) (_ : Array Bool) (X : World) : Prop := ∃ n, X = A.drewN n

theorem AtS.drawn {md : Region.Mode} {ops : Array Oper} {A X : World} {i : Nat} (h : AtS md ops (OnlyDrawn A) i X) : ∃ n, X = A.drewN n := by
  obtain ⟨_, _, _, h⟩ := h
  exact h

theorem intC_nil (W : World) : SlOf W (.slice none 0 0) 1 (fun i : Int => [.int .i64 i]) [] := SlOf.nil _ _ _

end Go.Proofs.YtdchjacccmajcaaGreatDoor

namespace Al

/-- the rules one after the other: where they lead, the form, the cost -/
def walkW (S : Side) : Nat → List Int → Option (Nat × List UInt8 × Int)
  | k, [] => some (k, [], 0)
  | k, i :: l =>
    match S.rules.find? (fun r => (r.index : Int) == i) with
    | none => none
    | some r => if fits S.letters r k then (walkW S (k + r.from_.length) l).map (fun p => (p.1, r.to_ ++ p.2.1, r.cost + p.2.2)) else none

theorem walkW_cons (S : Side) (k : Nat) (i : Int) (l : List Int) : walkW S k (i :: l) = match S.rules.find? (fun r => (r.index : Int) == i) with
    | none => none
    | some r => if fits S.letters r k then (walkW S (k + r.from_.length) l).map (fun p => (p.1, r.to_ ++ p.2.1, r.cost + p.2.2)) else none := rfl

theorem written_walk (S : Side) : ∀ (l : List Int) (k : Nat), written S k l = match walkW S k l with | some (k', f, c) => if k' = S.letters.length then some (f, c) else none | none => none
  | [], k => by unfold written walkW; rfl
  | i :: l, k => by
    unfold written walkW
    cases h : S.rules.find? (fun r => (r.index : Int) == i) with
    | none => rfl
    | some r =>
      simp only
      by_cases hf : fits S.letters r k
      · rw [if_pos hf, if_pos hf, written_walk S l]
        cases hw : walkW S (k + r.from_.length) l with
        | none => rfl
        | some p =>
          obtain ⟨k', f, c⟩ := p
          simp only [Option.map_some]
          split <;> rfl
      · rw [if_neg hf, if_neg hf]

theorem walkW_append (S : Side) : ∀ (a b : List Int) (k : Nat), walkW S k (a ++ b) = (walkW S k a).bind fun p => (walkW S p.1 b).map fun q => (q.1, p.2.1 ++ q.2.1, p.2.2 + q.2.2)
  | [], b, k => by
    simp only [List.nil_append]
    show _ = (some (k, [], 0)).bind _
    simp only [Option.bind_some, List.nil_append, Int.zero_add]
    cases walkW S k b with
    | none => rfl
    | some q => rfl
  | i :: a, b, k => by
    rw [List.cons_append, walkW_cons, walkW_cons]
    cases h : S.rules.find? (fun r => (r.index : Int) == i) with
    | none => rfl
    | some r =>
      simp only
      by_cases hf : fits S.letters r k
      · rw [if_pos hf, if_pos hf, walkW_append S a b]
        cases walkW S (k + r.from_.length) a with
        | none => rfl
        | some p =>
          obtain ⟨k', f, c⟩ := p
          simp only [Option.bind_some, Option.map_some]
          cases walkW S k' b with
          | none => rfl
          | some q => simp [Int.add_assoc]
      · rw [if_neg hf, if_neg hf]; rfl

theorem walkW_step {S : Side} {l : List Int} {n k : Nat} {f : List UInt8} {c i : Int} (h : walkW S 0 (l.take n) = some (k, f, c)) (hi : l[n]? = some i) :
    walkW S 0 (l.take (n + 1)) = match S.rules.find? (fun r => (r.index : Int) == i) with
      | none => none
      | some r => if fits S.letters r k then some (k + r.from_.length, f ++ r.to_, c + r.cost) else none := by
  obtain ⟨hn, he⟩ := List.getElem?_eq_some_iff.1 hi
  rw [List.take_succ_eq_append_getElem hn, he, walkW_append, h]
  simp only [Option.bind_some]
  unfold walkW
  cases S.rules.find? (fun r => (r.index : Int) == i) with
  | none => rfl
  | some r =>
    simp only
    split
    · simp [walkW]
    · rfl

theorem walkW_fail {S : Side} {l : List Int} {n : Nat} (h : walkW S 0 (l.take n) = none) : written S 0 l = none := by
  rw [written_walk, ← List.take_append_drop n l, walkW_append, h]
  rfl

/-- how far the rules lead, and how much they can write -/
theorem walkW_bounds {S : Side} (hS : S.Good) (hz : ∀ r ∈ S.rules, r.to_.length ≤ 1000) : ∀ (l : List Int) (k k' : Nat) (f : List UInt8) (c : Int), k ≤ S.letters.length → walkW S k l = some (k', f, c) →
    k' ≤ S.letters.length ∧ f.length + 1000 * k ≤ 1000 * k' ∧ 0 ≤ c ∧ c + 1000 * k ≤ 1000 * k'
  | [], k, k', f, c, hk, h => by
    unfold walkW at h; cases h; simp; exact hk
  | i :: l, k, k', f, c, hk, h => by
    unfold walkW at h
    split at h
    · cases h
    · rename_i r hr
      have hm := List.mem_of_find?_eq_some hr
      split at h
      · rename_i hf
        cases hw : walkW S (k + r.from_.length) l with
        | none => rw [hw] at h; cases h
        | some p =>
          rw [hw] at h
          obtain ⟨k2, f2, c2⟩ := p
          simp only [Option.map_some, Option.some.injEq, Prod.mk.injEq] at h
          obtain ⟨rfl, rfl, rfl⟩ := h
          have h1 := fits_le hf
          obtain ⟨a, b, d, e⟩ := walkW_bounds hS hz l _ _ _ _ h1 hw
          have := hz r hm
          have := hS.cost r hm
          have := List.length_pos_iff.2 (hS.some_ r hm)
          rw [List.length_append]
          refine ⟨a, by omega, by omega, by omega⟩
      · cases h

end Al
namespace Go.Proofs.YtdchjacccmajcaaGreatDoor
open Go.RowKit Go.Lib Go.Maps

/-- what IndexFunc ends in -/
def IdxPost (fs : List (Al.R × Value)) (i : Int) (W : World) (e : Ending) (W' : World) : Prop :=
  Below W.heap.size W W' ∧ ((∃ k p, fs[k]? = some p ∧ (fs.map Prod.fst).find? (fun r => (r.index : Int) == i) = some p.1 ∧ e = .returned (.int .i64 (k : Nat))) ∨
    ((fs.map Prod.fst).find? (fun r => (r.index : Int) == i) = none ∧ e = .returned (.int .i64 (-1))))

theorem find_at {fs : List (Al.R × Value)} {i : Int} {k : Nat} {p : Al.R × Value} (hp : fs[k]? = some p) (hn : ∀ q ∈ fs.take k, ((q.1.index : Int) == i) = false) (he : ((p.1.index : Int) == i) = true) :
    (fs.map Prod.fst).find? (fun r => (r.index : Int) == i) = some p.1 := by
  obtain ⟨hk, h⟩ := List.getElem?_eq_some_iff.1 hp
  rw [← List.take_append_drop k fs, List.map_append, List.find?_append]
  rw [List.find?_eq_none.2 (fun x hx => by
    obtain ⟨q, hq, rfl⟩ := List.mem_map.1 hx
    rw [hn q hq]; simp)]
  rw [List.drop_eq_getElem_cons hk, h, List.map_cons, List.find?_cons]
  simp [he]

/-- what written ends in -/
def WrittenPost (S : Al.Side) (l : List Int) (W : World) (e : Ending) (W' : World) : Prop :=
  Below W.heap.size W W' ∧ ∃ f c b, e = .returned (.tuple #[.string (bs f), .int .i64 c, .bool b]) ∧ f.length ≤ 100000 ∧ 0 ≤ c ∧ c ≤ 100000 ∧
    match Al.written S 0 l with | some (f', c') => f = f' ∧ c = c' ∧ b = true | none => b = false

def intC (i : Int) : List Value := [.int .i64 i]

end Go.Proofs.YtdchjacccmajcaaGreatDoor

namespace Al

def checkOf (t : Rw.Table) (a : Int) (x : List UInt8) (b : Int) (y : List UInt8) (d : D) : Bool :=
  if openB t a x b y then
    match side t.rules a x, side t.rules b y with
    | some S1, some S2 => check ⟨S1, S2⟩ d
    | _, _ => false
  else false

end Al
namespace Go.Proofs.YtdchjacccmajcaaGreatDoor
open Go.RowKit Go.Lib Go.Maps

theorem DerAt.below {W W' : World} {d : Al.D} {v : List Value} (h : DerAt W d v) (hb : Below W.heap.size W W') : DerAt W' d v := by
  obtain ⟨lv, rv, e, h1, h2⟩ := h
  exact ⟨lv, rv, e, h1.below hb, h2.below hb⟩

theorem str_beq (a b : List UInt8) : ((bs a).toList == (bs b).toList) = decide (a = b) := by
  rw [ByteArray.toList_eq, ByteArray.toList_eq]
  show ((bs a).data.toList == (bs b).data.toList) = _
  rw [bs_list, bs_list, Bool.eq_iff_iff]
  simp

theorem written_get {S : Al.Side} {l : List Int} {f : List UInt8} {c : Int} {b : Bool} (h : match Al.written S 0 l with | some (f', c') => f = f' ∧ c = c' ∧ b = true | none => b = false) :
    (b = true → Al.written S 0 l = some (f, c)) ∧ (b = false → Al.written S 0 l = none) := by
  cases hw : Al.written S 0 l with
  | none => rw [hw] at h; simp only at h; rw [h]; simp
  | some p => obtain ⟨f', c'⟩ := p; rw [hw] at h; obtain ⟨rfl, rfl, rfl⟩ := h; simp

end Go.Proofs.YtdchjacccmajcaaGreatDoor

namespace Go.Proofs.YtdchjacccmajcaaGreatDoor
open Go.RowKit Go.Lib Go.Maps

end Go.Proofs.YtdchjacccmajcaaGreatDoor

namespace Al

def fewB (t : Rw.Table) (ws : List (List UInt8)) : Bool :=
  decide (t.rules.length ≤ 80) && decide (t.drops.length ≤ 40) && decide (t.ends.length ≤ 40) && t.rules.all (fun r => decide (r.from_.length ≤ 12) && decide (r.to_.length ≤ 12)) &&
    t.drops.all (fun d => decide (d.word.length ≤ 60)) && t.ends.all (fun d => decide (d.word.length ≤ 60)) && ws.all (fun x => decide (x.length ≤ 30))

end Al
namespace Go.Proofs.YtdchjacccmajcaaGreatDoor
open Go.RowKit Go.Lib Go.Maps

/-- a table's value, its slices in memory, of whatever size -/
structure TableRaw (w : World) (t : Rw.Table) (v : Value) : Prop where
  at_ : ∃ vr vd ve, v = .agg #[vr, vd, ve, .int .i64 t.drop, .int .i64 t.order, .int .i64 t.initial] ∧ SlOf w vr 4 ruleCells t.rules ∧ SlOf w vd 3 dropCells t.drops ∧ SlOf w ve 3 dropCells t.ends
  rules : ∀ r ∈ t.rules, (Lit.int .i64 r.script).wf = true ∧ r.from_.length ≤ maxLen ∧ r.to_.length ≤ maxLen
  drops : ∀ d ∈ t.drops, (Lit.int .i64 d.script).wf = true ∧ d.word.length ≤ maxLen
  ends : ∀ d ∈ t.ends, (Lit.int .i64 d.script).wf = true ∧ d.word.length ≤ maxLen

theorem TableRaw.below {w w' : World} {t : Rw.Table} {v : Value} (h : TableRaw w t v) (hb : Below w.heap.size w w') : TableRaw w' t v := by
  obtain ⟨⟨vr, vd, ve, e, h1, h2, h3⟩, h4, h5, h6⟩ := h
  exact ⟨⟨vr, vd, ve, e, h1.below hb, h2.below hb, h3.below hb⟩, h4, h5, h6⟩

theorem TableRaw.few {w : World} {t : Rw.Table} {v : Value} {ws : List (List UInt8)} (h : TableRaw w t v) (hf : Al.fewB t ws = true) : TableAt w t v := by
  unfold Al.fewB at hf
  simp only [Bool.and_eq_true, decide_eq_true_eq, List.all_eq_true] at hf
  obtain ⟨⟨⟨⟨⟨⟨f1, f2⟩, f3⟩, f4⟩, f5⟩, f6⟩, f7⟩ := hf
  exact ⟨h.at_, fun r hr => ⟨(h.rules r hr).1, by have := f4 r hr; omega, by have := f4 r hr; omega⟩, fun d hd => ⟨(h.drops d hd).1, by have := f5 d hd; omega⟩, fun d hd => ⟨(h.ends d hd).1, by have := f6 d hd; omega⟩, by omega, by omega, by omega⟩

theorem all_step {α : Type} {p : α → Bool} {l : List α} {n : Nat} {x : α} (h : (l.take n).all p = true) (hx : l[n]? = some x) : (l.take (n + 1)).all p = p x := by
  obtain ⟨hn, he⟩ := List.getElem?_eq_some_iff.1 hx
  rw [List.take_succ_eq_append_getElem hn, he, List.all_append, h]
  simp

theorem all_stop {α : Type} {p : α → Bool} {l : List α} {n : Nat} (h : (l.take (n + 1)).all p = false) : l.all p = false := by
  rw [← List.take_append_drop (n + 1) l, List.all_append, h]; rfl

end Go.Proofs.YtdchjacccmajcaaGreatDoor
