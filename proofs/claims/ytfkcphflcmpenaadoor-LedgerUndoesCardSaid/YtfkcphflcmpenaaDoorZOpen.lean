/-
  Arguments that are structs, or slices of structs, opened to cells and lists. NO PROGRAM IN THIS TEXT.
-/
import Derived.Test.YtfkcphflcmpenaaDoorZSlice
import Derived.Deep.Slices
import Derived.Deep.Fields
import Derived.ChangeSame
import Derived.Carry
import Derived.ChangeMaps5
namespace Go.Proofs.YtfkcphflcmpenaaDoor
open Go.RowKit Go.ChangeShapes Go.WideShapes Go.Deep

section
variable {H : Type} {enc : TypeId × Value → H} {P : Program} {w : World} {base : Nat} {spare : Nat → Bool} {held : Bool}

/-- a struct's fields, each of one cell -/
theorem struct_fields {t : TypeId} {fs : Array Field} {n : Nat} {r : List Value} {y : DataW H × List MemPlace} (hs : P.underlying t = some (.struct fs)) (hone : oneCellFields P fs = true) (hC : P.cellsOf t = fs.size)
    (h : DataW.trod enc P w base spare held n t r = some y) : r.length = fs.size ∧ ∀ (j : Nat) (f : Field), fs[j]? = some f → ∃ u z m, r[j]? = some u ∧ DataW.trod enc P w base spare held m f.type [u] = some z := by
  obtain ⟨xs, m, _, _, hl, hxl, hf⟩ := DataW.trod_struct hs h
  rw [hC] at hl
  refine ⟨hl, fun j f hj => ?_⟩
  obtain ⟨ho, hk⟩ := hone_of hone j f hj
  have hjl : j < fs.size := (Array.getElem?_eq_some_iff.1 hj).1
  have h1 := hf j f hj
  rw [ho, hk] at h1
  have e : (r.drop j).take 1 = [r[j]'(by omega)] := by rw [List.drop_eq_getElem_cons (by omega)]; rfl
  rw [e] at h1
  exact ⟨_, _, m, List.getElem?_eq_getElem (by omega), h1.trans (List.getElem?_eq_getElem (by omega))⟩

theorem open_structV {rr : Reach} {b0 : Nat} {t : TypeId} {fs : Array Field} {v : Value} {d : DataW H} {p : List MemPlace} (hs : P.underlying t = some (.struct fs)) (hone : oneCellFields P fs = true) (hC : P.cellsOf t = fs.size)
    (hv : Value.okWide P w rr b0 t v) (h : DataW.Trod enc P w base spare held t v d p) :
    ∃ r : List Value, v = .agg r.toArray ∧ r.length = fs.size ∧ ∀ (j : Nat) (f : Field), fs[j]? = some f → ∃ u z m, r[j]? = some u ∧ DataW.trod enc P w base spare held m f.type [u] = some z := by
  obtain ⟨cs, rfl, hsz⟩ := okWide_struct hs hv
  obtain ⟨fuel, hf⟩ := h
  obtain ⟨l⟩ := cs
  have := struct_fields hs hone hC hf
  exact ⟨l, rfl, this.1, this.2⟩

theorem add_at (g o k : Nat) : (⟨g, o, none⟩ : Addr).add k = ⟨g, o + k, none⟩ := by
  unfold Addr.add; split
  · rename_i h; subst h; rfl
  · rfl

/-- a slice's elements, each read by 'cells' -/
theorem open_rows {α : Type} {cells : α → List Value} {Good : α → Prop} {sz : Nat} {t e : TypeId} {u : Value} {fuel : Nat} {x : DataW H × List MemPlace} (ht : P.underlying t = some (.slice e)) (hC : P.cellsOf e = sz) (hpos : 0 < sz)
    (hsz : ∀ x, (cells x).length = sz) (hrow : ∀ (r : List Value) (n : Nat) (y : DataW H × List MemPlace), DataW.trod enc P w base spare held n e r = some y → ∃ x, r = cells x ∧ Good x)
    (h : DataW.trod enc P w base spare held fuel t [u] = some x) : ∃ l : List α, SlOf w u sz cells l ∧ ∀ x ∈ l, Good x := by
  rcases open_slice ht h with ⟨h0, _⟩ | ⟨a, len, cap, m, n, D, Pl, hcs, _, hl, hm, hmm, _, hi⟩
  · obtain rfl : u = .slice none 0 0 := by simpa using h0
    exact ⟨[], SlOf.nil _ _ _, fun x hx => by cases hx⟩
  · obtain rfl : u = .slice (some a) len cap := by simpa using hcs
    have hml : len ≤ m := by rw [hmm]; split <;> omega
    have each : ∀ i : Fin len, ∃ x, (∀ j v, (cells x)[j]? = some v → w.cell? ((a.add (i.1 * sz)).add j) = some v) ∧ Good x := fun i => by
      obtain ⟨cs', hc, ht'⟩ := hi i.1 (by have := i.2; omega)
      obtain ⟨x, rfl, hg⟩ := hrow _ _ _ ht'
      rw [hC] at hc
      obtain ⟨_, hcl, hat⟩ := World.cells?_some hc
      exact ⟨x, fun j v hv => (hat j (by have := (List.getElem?_eq_some_iff.1 hv).1; omega)).trans hv, hg⟩
    refine ⟨List.ofFn fun i => (each i).choose, ⟨_, cap, by rw [List.length_ofFn], by rw [List.length_ofFn]; exact hl, hm, fun hpl => ?_⟩, fun x hx => ?_⟩
    · rw [List.length_ofFn] at hpl
      obtain ⟨g, o, spot⟩ := a
      have h1 := (each ⟨0, hpl⟩).choose_spec.1 0 ((cells (each ⟨0, hpl⟩).choose)[0]'(by rw [hsz]; exact hpos)) (List.getElem?_eq_getElem _)
      have hspot : spot = none := by
        have := World.cell?_spot h1
        simpa [Addr.add] using this
      subst hspot
      refine ⟨g, o, rfl, (by have hb := World.block_lt_of_cell? w _ h1; simp only [add_at] at hb; exact hb), fun i x hx j v hv => ?_⟩
      rw [List.getElem?_ofFn] at hx
      split at hx
      · rename_i hil
        cases hx
        have := (each ⟨i, hil⟩).choose_spec.1 j v hv
        rw [add_at, add_at] at this
        exact this
      · cases hx
    · rw [List.mem_ofFn] at hx
      obtain ⟨i, rfl⟩ := hx
      exact (each i).choose_spec.2

end
end Go.Proofs.YtfkcphflcmpenaaDoor
