/-
  Slices of tokens in memory, and what the reference's Same, Alike return when the tokens are equal. Conditions: as each theorem says.
-/
import Derived.Test.YtidkmhokolknbaaGreatDoorZMLexR
namespace Go.Proofs.YtidkmhokolknbaaGreatDoor
open Go.RowKit

/-- the four cells of a token -/
structure TokCell (w : World) (g o : Nat) (p : Nat × Lx.Tk) : Prop where
  c0 : w.cell? ⟨g, o, none⟩ = some (.int .i64 p.2.kind)
  c1 : w.cell? ⟨g, o + 1, none⟩ = some (.int .i64 p.1)
  c2 : w.cell? ⟨g, o + 2, none⟩ = some (.int .i64 p.2.n)
  c3 : w.cell? ⟨g, o + 3, none⟩ = some (.string (bs p.2.text))

/-- tokens in a row from an offset of a block on -/
def TokRow (w : World) (g o : Nat) (l : List (Nat × Lx.Tk)) : Prop := g < w.heap.size ∧ ∀ i p, l[i]? = some p → TokCell w g (o + i * 4) p

/-- a slice value that reads as these tokens -/
def TokSl (w : World) (v : Value) (l : List (Nat × Lx.Tk)) : Prop :=
  ∃ cap, l.length ≤ cap ∧ cap ≤ maxLen ∧ ((l = [] ∧ v = .slice none 0 cap) ∨ ∃ g o, v = .slice (some ⟨g, o, none⟩) l.length cap ∧ TokRow w g o l)

theorem TokCell.below {w w' : World} {g o : Nat} {p : Nat × Lx.Tk} (h : TokCell w g o p) (hb : Below w.heap.size w w') (hg : g < w.heap.size) : TokCell w' g o p :=
  ⟨(hb.cell (p := ⟨g, o, none⟩) hg).trans h.c0, (hb.cell (p := ⟨g, o + 1, none⟩) hg).trans h.c1, (hb.cell (p := ⟨g, o + 2, none⟩) hg).trans h.c2, (hb.cell (p := ⟨g, o + 3, none⟩) hg).trans h.c3⟩

theorem TokRow.below {w w' : World} {g o : Nat} {l : List (Nat × Lx.Tk)} (h : TokRow w g o l) (hb : Below w.heap.size w w') : TokRow w' g o l :=
  ⟨Nat.lt_of_lt_of_le h.1 hb.size, fun i p hp => (h.2 i p hp).below hb h.1⟩

theorem TokSl.below {w w' : World} {v : Value} {l : List (Nat × Lx.Tk)} (h : TokSl w v l) (hb : Below w.heap.size w w') : TokSl w' v l := by
  obtain ⟨cap, h1, h2, h3⟩ := h
  refine ⟨cap, h1, h2, ?_⟩
  rcases h3 with h3 | ⟨g, o, hv, hr⟩
  · exact .inl h3
  · exact .inr ⟨g, o, hv, hr.below hb⟩

theorem tokCells_get {l : List (Nat × Lx.Tk)} {i : Nat} {p : Nat × Lx.Tk} (h : l[i]? = some p) :
    (tokCells l)[i * 4]? = some (.int .i64 p.2.kind) ∧ (tokCells l)[i * 4 + 1]? = some (.int .i64 p.1) ∧ (tokCells l)[i * 4 + 2]? = some (.int .i64 p.2.n) ∧ (tokCells l)[i * 4 + 3]? = some (.string (bs p.2.text)) := by
  induction l generalizing i with
  | nil => simp at h
  | cons x l ih =>
    have e : tokCells (x :: l) = [.int .i64 x.2.kind, .int .i64 x.1, .int .i64 x.2.n, .string (bs x.2.text)] ++ tokCells l := rfl
    rw [e]
    cases i with
    | zero => simp at h; subst h; simp
    | succ i =>
      simp only [List.getElem?_cons_succ] at h
      have := ih h
      refine ⟨?_, ?_, ?_, ?_⟩
      · rw [List.getElem?_append_right (by simp; omega), show (i + 1) * 4 - _ = i * 4 by simp; omega]; exact this.1
      · rw [List.getElem?_append_right (by simp; omega), show (i + 1) * 4 + 1 - _ = i * 4 + 1 by simp; omega]; exact this.2.1
      · rw [List.getElem?_append_right (by simp; omega), show (i + 1) * 4 + 2 - _ = i * 4 + 2 by simp; omega]; exact this.2.2.1
      · rw [List.getElem?_append_right (by simp; omega), show (i + 1) * 4 + 3 - _ = i * 4 + 3 by simp; omega]; exact this.2.2.2

theorem TokSl.of_owns {w : World} {B : Nat} {v : Value} {l : List (Nat × Lx.Tk)} (h : w.ownsRow B 81 4 v l.length (tokCells l)) : TokSl w v l := by
  rcases h.2 with ⟨rfl, hz⟩ | ⟨g, cap, cur, rfl, hg, hh, hn, hc, hs, ht⟩
  · exact ⟨0, by omega, by unfold maxLen; omega, .inl ⟨List.length_eq_zero_iff.1 hz, rfl⟩⟩
  · refine ⟨cap, hn, hc, .inr ⟨g, 0, rfl, (Array.getElem?_eq_some_iff.1 hh).1, fun i p hp => ?_⟩⟩
    have hi : i < l.length := (List.getElem?_eq_some_iff.1 hp).1
    obtain ⟨t0, t1, t2, t3⟩ := tokCells_get hp
    rw [Nat.zero_add]
    exact ⟨(h.cellAt (i * 4) (by omega)).trans t0, (h.cellAt (i * 4 + 1) (by omega)).trans t1, (h.cellAt (i * 4 + 2) (by omega)).trans t2, (h.cellAt (i * 4 + 3) (by omega)).trans t3⟩

theorem toks_get {la lb : List (Nat × Lx.Tk)} (he : Lx.toks lb = Lx.toks la) {k : Nat} {p : Nat × Lx.Tk} (hp : la[k]? = some p) : ∃ n, lb[k]? = some (n, p.2) := by
  have h := congrArg (fun l => l[k]?) he
  simp only [Lx.toks, List.getElem?_map, hp] at h
  cases hq : lb[k]? with
  | none => rw [hq] at h; simp at h
  | some q =>
    rw [hq] at h
    simp at h
    exact ⟨q.1, by rw [← h]⟩

end Go.Proofs.YtidkmhokolknbaaGreatDoor
