/-
  Facts, cases and tokens in memory. Conditions: none.
-/
import Derived.Test.YteogmlgmodeajaaGreatDoorZMFaP
import Derived.Test.YteogmlgmodeajaaGreatDoorZTch
import Derived.Test.YteogmlgmodeajaaGreatDoorZTok
import Derived.Test.YteogmlgmodeajaaGreatDoorZLexLib1
namespace Go.Proofs.YteogmlgmodeajaaGreatDoor
open Go.RowKit Go.Maps Go.Lib

def factC (f : Fa.Fact) : List Value := [.string (bs f.name), .int .i64 f.kind, .int .i64 f.lo, .int .i64 f.hi]
def factV (f : Fa.Fact) : Value := .agg #[.string (bs f.name), .int .i64 f.kind, .int .i64 f.lo, .int .i64 f.hi]
def numC (n : Int) : List Value := [.int .i64 n]
def tkC (t : Fa.T) : List Value := [.int .i64 t.2.kind, .int .i64 t.1, .int .i64 t.2.n, .string (bs t.2.text)]
def tkV (t : Fa.T) : Value := .agg #[.int .i64 t.2.kind, .int .i64 t.1, .int .i64 t.2.n, .string (bs t.2.text)]

theorem bs_inj {a b : List UInt8} (h : bs a = bs b) : a = b := by
  have := congrArg (fun x => x.data.toList) h
  simpa [bs] using this
theorem bs_iff {a b : List UInt8} : bs a = bs b ↔ a = b := ⟨bs_inj, fun h => by rw [h]⟩
theorem name_beq (a b : List UInt8) : ((bs a).toList == (bs b).toList) = decide (a = b) := by
  rw [byteList_beq]
  by_cases h : a = b
  · subst h
    simp
  · have h2 : ¬ (bs a).data.toList = (bs b).data.toList := h
    simp only [decide_eq_false h]
    exact decide_eq_false h2
theorem blk_set {w : World} {g : Nat} {t : TypeId} {cs : Array Value} (h : w.heap[g]? = some (.cells cs t (0, 0))) (i : Nat) (u : Value) : (w.setCell ⟨g, i, none⟩ u).heap[g]? = some (.cells (cs.setIfInBounds i u) t (0, 0)) := by
  simp [World.setCell, Array.getElem?_modify, h]
theorem take_snoc {α : Type} {l : List α} {k : Nat} {x : α} (h : l[k]? = some x) : l.take (k + 1) = l.take k ++ [x] := by
  obtain ⟨hk, hx⟩ := List.getElem?_eq_some_iff.1 h
  rw [List.take_succ_eq_append_getElem hk, hx]
theorem drop_cons {α : Type} {l : List α} {k : Nat} {x : α} (h : l[k]? = some x) : l.drop k = x :: l.drop (k + 1) := by
  obtain ⟨hk, hx⟩ := List.getElem?_eq_some_iff.1 h
  rw [List.drop_eq_getElem_cons hk, hx]

theorem str_keyed : Keyed Tryz.prog 9 := string_keyed Tryz.underlying9
theorem str_key {s : ByteArray} (hs : s.size ≤ maxLen) : keyOf Tryz.prog 9 (.string s) = some (.string s.data.toList) := Go.WideMaps.keyOf_string_mk Tryz.underlying9 hs
theorem zero_bool (w : World) : (zeroValue 4).run Tryz.prog w = .ok (.bool false) w := by kernel_rfl

/-- names that were seen -/
def seenF (l : List (List UInt8)) : Value → Option Value
  | .string s => if s.data.toList ∈ l then some (.bool true) else none
  | _ => none
theorem seen_nil : seenF [] = fun _ => none := by
  funext v
  cases v <;> simp [seenF]
theorem seen_get (l : List (List UInt8)) (a : List UInt8) : (seenF l (.string (bs a))).getD (.bool false) = .bool (decide (a ∈ l)) := by
  have e : (bs a).data.toList = a := rfl
  by_cases h : a ∈ l <;> simp [seenF, e, h]
theorem seen_step (l : List (List UInt8)) (a : List UInt8) : seenF (l ++ [a]) (.string (bs a)) = some (.bool true) ∧ ∀ y, y ≠ .string (bs a) → seenF (l ++ [a]) y = seenF l y := by
  refine ⟨by simp [seenF, bs], fun y hy => ?_⟩
  cases y with
  | string s =>
    have hne : s.data.toList ≠ a := fun e => hy (by rw [← bs_ext e])
    simp [seenF, hne]
  | _ => rfl

end Go.Proofs.YteogmlgmodeajaaGreatDoor
