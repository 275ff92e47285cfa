/-
  As open_rows, with the word how many elements the datum has. NO PROGRAM IN THIS TEXT.
-/
import Derived.Test.YtfkcphflcmpenaaDoorZOpen
import Derived.SizedLaws
namespace Go.Proofs.YtfkcphflcmpenaaDoor
open Go.RowKit Go.ChangeShapes Go.WideShapes Go.Deep

section
variable {H : Type} {enc : TypeId × Value → H} {P : Program} {w : World} {base : Nat} {spare : Nat → Bool} {held : Bool}

/-- a slice's length, of its datum -/
theorem slice_datum {t e : TypeId} {a : Option Addr} {n c fuel : Nat} {x : DataW H × List MemPlace} (ht : P.underlying t = some (.slice e)) (h : DataW.trod enc P w base spare held fuel t [.slice a n c] = some x) : n = 0 ∨ ∃ elems sp, x.1 = .slice elems sp ∧ elems.length = n := by
  rcases open_slice ht h with ⟨h0, _⟩ | ⟨a', len, cap, m, k, D, Pl, hcs, _, _, _, _, rfl, _⟩
  · left; simp at h0; exact h0.2.1
  · simp at hcs
    obtain ⟨_, rfl, _⟩ := hcs
    exact .inr ⟨_, _, rfl, by simp⟩

/-- the first field of a struct that is a slice takes few bytes -/
theorem first_sized {t e : TypeId} {fs : Array Field} {f : Field} {r : List Value} {v : Value} {d : DataW H} {p : List MemPlace} {a : Option Addr} {n c : Nat} (hs : P.underlying t = some (.struct fs)) (hone : oneCellFields P fs = true) (hC : P.cellsOf t = fs.size) (hf0 : fs[0]? = some f) (hsl : P.underlying f.type = some (.slice e))
    (hv : v = .agg (.slice a n c :: r).toArray) (h : DataW.Trod enc P w base spare held t v d p) (hz : (d.weights P t).all (· ≤ reachBytes) = true) : n * P.bytesOf e ≤ reachBytes := by
  obtain ⟨fuel, hf⟩ := h
  subst hv
  obtain ⟨xs, m, _, hx, hl, hxl, hg⟩ := DataW.trod_struct hs hf
  obtain ⟨ho, hk⟩ := hone_of hone 0 f hf0
  have h1 := hg 0 f hf0
  rw [ho, hk] at h1
  have hx0 : ∃ y, xs[0]? = some y := ⟨_, List.getElem?_eq_getElem (by rw [hxl]; exact (Array.getElem?_eq_some_iff.1 hf0).1)⟩
  obtain ⟨y, hy⟩ := hx0
  rw [hy] at h1
  have h2 : DataW.trod enc P w base spare held m f.type [.slice a n c] = some y := h1
  rcases slice_datum hsl h2 with rfl | ⟨elems, sp, e1, e2⟩
  · omega
  · have hd : d = .agg (xs.map (·.1)) := (Prod.mk.inj hx).1
    rw [hd] at hz
    simp only [DataW.weights, hs] at hz
    have := sized_slice hz (j := 0) (t := f.type) (e := e) (elems := elems) (spare := sp) (by
      have : fs.toList[0]? = some f := by simpa using hf0
      simp [this]) (by rw [List.getElem?_map, hy]; simp [e1]) hsl
    have h3 : n * P.bytesOf e ≤ (elems.length + sp.length) * P.bytesOf e := Nat.mul_le_mul_right _ (by omega)
    omega

end
end Go.Proofs.YtfkcphflcmpenaaDoor
