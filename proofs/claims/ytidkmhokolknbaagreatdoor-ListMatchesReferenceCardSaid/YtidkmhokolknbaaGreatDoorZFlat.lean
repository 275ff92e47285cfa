/-
  The cells of a list's elements in a row. NO PROGRAM IN THIS TEXT.
-/
import Derived.Test.YtidkmhokolknbaaGreatDoorZTch
namespace Go.Proofs.YtidkmhokolknbaaGreatDoor
open Go.RowKit

theorem flatLen {α : Type} {cells : α → List Value} {sz : Nat} (l : List α) (h : ∀ x, (cells x).length = sz) : (l.flatMap cells).length = l.length * sz := by
  induction l with
  | nil => simp
  | cons x l ih => rw [List.flatMap_cons, List.length_append, ih, h, List.length_cons, Nat.succ_mul]; omega

theorem flatCells {α : Type} {w : World} {g o sz : Nat} {cells : α → List Value} : ∀ {l : List α}, (∀ x, (cells x).length = sz) → RowOf w g o sz cells l → ∀ (j : Nat) (u : Value), (l.flatMap cells)[j]? = some u → w.cell? ((⟨g, o, none⟩ : Addr).add j) = some u := by
  intro l hc hr j u hu
  have hadd : (⟨g, o, none⟩ : Addr).add j = ⟨g, o + j, none⟩ := by
    unfold Addr.add; split
    · rename_i h; subst h; rfl
    · rfl
  rw [hadd]
  have key : ∀ (l : List α) (k : Nat), (∀ (i : Nat) (x : α), l[i]? = some x → ∀ (j : Nat) (v : Value), (cells x)[j]? = some v → w.cell? ⟨g, o + (k + i) * sz + j, none⟩ = some v) → ∀ j, (l.flatMap cells)[j]? = some u → w.cell? ⟨g, o + k * sz + j, none⟩ = some u := by
    intro l
    induction l with
    | nil => intro k _ j hu; simp at hu
    | cons x l ih =>
      intro k h j hu
      rw [List.flatMap_cons] at hu
      by_cases hj : j < sz
      · rw [List.getElem?_append_left (by rw [hc]; exact hj)] at hu
        have := h 0 x rfl j u hu
        rw [Nat.add_zero] at this
        exact this
      · rw [List.getElem?_append_right (by rw [hc]; omega), hc] at hu
        have := ih (k + 1) (fun i y hy j v hv => by
          have := h (i + 1) y (by simpa using hy) j v hv
          rw [show k + 1 + i = k + (i + 1) by omega]; exact this) (j - sz) hu
        rw [Nat.succ_mul] at this
        rw [show o + k * sz + j = o + (k * sz + sz) + (j - sz) by omega]
        exact this
  have := key l 0 (fun i x hx j v hv => by rw [Nat.zero_add]; exact hr.2 i x hx j v hv) j hu
  rw [Nat.zero_mul, Nat.add_zero] at this
  exact this

end Go.Proofs.YtidkmhokolknbaaGreatDoor
