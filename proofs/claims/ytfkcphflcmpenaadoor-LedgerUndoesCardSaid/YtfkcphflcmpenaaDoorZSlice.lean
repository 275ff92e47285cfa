/-
  A slice in memory that reads as a list, each element some cells. NO PROGRAM IN THIS TEXT.
-/
import Derived.Test.YtfkcphflcmpenaaDoorZBase2
namespace Go.Proofs.YtfkcphflcmpenaaDoor
open Go.RowKit

section
variable {α : Type} {w w' : World} {g o sz : Nat} {cells : α → List Value} {l : List α} {v : Value}

/-- elements in a row from an offset of a block on -/
def RowOf (w : World) (g o sz : Nat) (cells : α → List Value) (l : List α) : Prop :=
  g < w.heap.size ∧ ∀ (i : Nat) (x : α), l[i]? = some x → ∀ (j : Nat) (v : Value), (cells x)[j]? = some v → w.cell? ⟨g, o + i * sz + j, none⟩ = some v

/-- a slice value that reads as these elements -/
def SlOf (w : World) (v : Value) (sz : Nat) (cells : α → List Value) (l : List α) : Prop :=
  ∃ a cap, v = .slice a l.length cap ∧ l.length ≤ cap ∧ cap ≤ maxLen ∧ (0 < l.length → ∃ g o, a = some ⟨g, o, none⟩ ∧ RowOf w g o sz cells l)

theorem RowOf.below (h : RowOf w g o sz cells l) (hb : Below w.heap.size w w') : RowOf w' g o sz cells l :=
  ⟨Nat.lt_of_lt_of_le h.1 hb.size, fun i x hx j v hv => (hb.cell (p := ⟨g, o + i * sz + j, none⟩) h.1).trans (h.2 i x hx j v hv)⟩

theorem SlOf.below (h : SlOf w v sz cells l) (hb : Below w.heap.size w w') : SlOf w' v sz cells l := by
  obtain ⟨a, cap, h1, h2, h3, h4⟩ := h
  refine ⟨a, cap, h1, h2, h3, fun hl => ?_⟩
  obtain ⟨g, o, ha, hr⟩ := h4 hl
  exact ⟨g, o, ha, hr.below hb⟩

theorem SlOf.nil (w : World) (sz : Nat) (cells : α → List Value) : SlOf w (.slice none 0 0) sz cells [] := ⟨none, 0, rfl, by simp, by unfold maxLen; omega, fun h => by simp at h⟩

/-- what a call has made of its own reads so -/
theorem SlOf.own {B : Nat} {e : TypeId} (h : w.ownsRow B e sz v l.length (l.flatMap cells)) (hc : ∀ x ∈ l, (cells x).length = sz) : SlOf w v sz cells l := by
  rcases h.2 with ⟨rfl, hz⟩ | ⟨g, cap, cur, rfl, hg, hh, hn, hcap, hs, ht⟩
  · exact ⟨none, 0, by rw [hz], by omega, by unfold maxLen; omega, fun hl => by omega⟩
  · refine ⟨_, cap, rfl, hn, hcap, fun _ => ⟨g, 0, rfl, (Array.getElem?_eq_some_iff.1 hh).1, fun i x hx j u hu => ?_⟩⟩
    have hfl : ∀ (l : List α) (i : Nat) (x : α), (∀ x ∈ l, (cells x).length = sz) → l[i]? = some x → ∀ j u, (cells x)[j]? = some u → (l.flatMap cells)[i * sz + j]? = some u := by
      intro l
      induction l with
      | nil => intro i x _ hx; simp at hx
      | cons y l ih =>
        intro i x hc hx j u hu
        rw [List.flatMap_cons]
        cases i with
        | zero =>
          simp at hx; subst hx
          have hj := (List.getElem?_eq_some_iff.1 hu).1
          rw [Nat.zero_mul, Nat.zero_add, List.getElem?_append_left hj]; exact hu
        | succ i =>
          have hy := hc y List.mem_cons_self
          rw [List.getElem?_append_right (by rw [hy, Nat.succ_mul]; omega), hy, show (i + 1) * sz + j - sz = i * sz + j by rw [Nat.succ_mul]; omega]
          exact ih i x (fun z hz => hc z (List.mem_cons_of_mem _ hz)) (by simpa using hx) j u hu
    have h2 := hfl l i x hc hx j u hu
    have hlt := (List.getElem?_eq_some_iff.1 h2).1
    have hlen : i * sz + j < (l.flatMap cells).length := hlt
    rw [Nat.zero_add]
    have := h.cells (g := g) rfl (i * sz + j) u h2
    simpa [Addr.add] using (by
      have hadd : (⟨g, 0, none⟩ : Addr).add (i * sz + j) = ⟨g, i * sz + j, none⟩ := by unfold Addr.add; split <;> simp_all
      rw [hadd] at this; exact this)

end
end Go.Proofs.YtfkcphflcmpenaaDoor
