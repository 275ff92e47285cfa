/-
  Lists of bookings in memory: what List hands back, what the reference compares, what is apart from an empty row. Conditions: none.
-/
import Derived.Test.YtfkcphflcmpenaaDoorZLed11
import Derived.Test.YtfkcphflcmpenaaDoorZLed8
namespace Go.Proofs.YtfkcphflcmpenaaDoor
open Go.RowKit Go.Maps

theorem same_bk {w : World} {va vb : Value} {Q Q' : Nat → Prop} {l : List Lg.Bk} (ha : BkSl w va Q l) (hb : BkSl w vb Q' l) : Calls Tryd.prog 21 #[va, vb] w (Gives (.bool true) w) := by
  obtain ⟨xs, x1, x2, x3⟩ := ha
  obtain ⟨ys, y1, y2, y3⟩ := hb
  exact same_books w va vb xs ys x2.slOf y2.slOf (fun q hq => (x3 q hq).slOf) (fun q hq => (y3 q hq).slOf) (x1.trans y1.symm)

theorem BkSl.mono {w : World} {v : Value} {Q Q' : Nat → Prop} {l : List Lg.Bk} (h : BkSl w v Q l) (hq : ∀ k, Q k → k < w.heap.size → Q' k) : BkSl w v Q' l := by
  obtain ⟨bs, h1, h2, h3⟩ := h
  exact ⟨bs, h1, h2.mono hq, fun p hp => SlIn.mono (h3 p hp) hq⟩

theorem ListPost.sl {l : List Lg.Bk} {w w' : World} {e : Ending} (h : ListPost l w e w') : ∃ v, e = .returned v ∧ BkSl w' v (fun k => w.heap.size ≤ k) l ∧ Below w.heap.size w w' := by
  obtain ⟨v, bs, h1, h2, h3, h4, h5⟩ := h
  refine ⟨v, h1, ⟨bs, h2, (SlIn.own h3 (fun _ _ => rfl)).mono (fun k hk _ => (h3.lt k hk).1), fun q hq => (h4 q hq).mono (fun k hk _ => hk.1)⟩, h5⟩

theorem row_ne_empty {α : Type} {W : World} {g o sz g' : Nat} {cells : α → List Value} {l : List α} {t : TypeId} {fr : Nat × Nat} (h : RowOf W g o sz cells l) (h0 : 0 < l.length) (hc : ∀ x, 0 < (cells x).length) (hm : W.heap[g']? = some (.cells #[] t fr)) : g ≠ g' := by
  rintro rfl
  have := h.2 0 l[0] (List.getElem?_eq_getElem h0) 0 _ (List.getElem?_eq_getElem (hc _))
  simp [World.cell?, hm] at this

theorem SlIn.off_empty {α : Type} {W : World} {v : Value} {Q : Nat → Prop} {sz : Nat} {cells : α → List Value} {l : List α} {g' : Nat} {t : TypeId} {fr : Nat × Nat} (h : SlIn W v Q sz cells l) (hc : ∀ x, 0 < (cells x).length) (hm : W.heap[g']? = some (.cells #[] t fr)) : SlIn W v (fun k => k ≠ g' ∧ k < W.heap.size) sz cells l := by
  obtain ⟨a, cap, h1, h2, h3, h4⟩ := h
  refine ⟨a, cap, h1, h2, h3, fun hl => ?_⟩
  obtain ⟨g, o, h5, _, h6⟩ := h4 hl
  exact ⟨g, o, h5, ⟨row_ne_empty h6 hl hc hm, h6.1⟩, h6⟩

theorem BkSl.off_empty {W : World} {v : Value} {Q : Nat → Prop} {l : List Lg.Bk} {g' : Nat} {t : TypeId} {fr : Nat × Nat} (h : BkSl W v Q l) (hm : W.heap[g']? = some (.cells #[] t fr)) : BkSl W v (fun k => k ≠ g' ∧ k < W.heap.size) l := by
  obtain ⟨bs, h1, h2, h3⟩ := h
  exact ⟨bs, h1, h2.off_empty (fun _ => by simp [bookC]) hm, fun q hq => SlIn.off_empty (h3 q hq) (fun _ => by simp [postC]) hm⟩

/-- the empty row, the one-element row of a literal -/
def EmptyRow (D : Nat) (W : World) (v : Value) : Prop := ∃ g, v = .slice (some ⟨g, 0, none⟩) 0 0 ∧ D ≤ g ∧ W.heap[g]? = some (.cells #[] 36 (0, 0))
def OneRow (D : Nat) (cs : Array Value) (W : World) (v : Value) : Prop := ∃ g, v = .slice (some ⟨g, 0, none⟩) 1 1 ∧ D ≤ g ∧ W.heap[g]? = some (.cells cs 36 (0, 0))

theorem EmptyRow.below {D : Nat} {W W' : World} {v : Value} (h : EmptyRow D W v) (hb : Below W.heap.size W W') : EmptyRow D W' v := by
  obtain ⟨g, h1, h2, h3⟩ := h
  exact ⟨g, h1, h2, (hb.block g (Array.getElem?_eq_some_iff.1 h3).1).trans h3⟩
theorem OneRow.below {D : Nat} {cs : Array Value} {W W' : World} {v : Value} (h : OneRow D cs W v) (hb : Below W.heap.size W W') : OneRow D cs W' v := by
  obtain ⟨g, h1, h2, h3⟩ := h
  exact ⟨g, h1, h2, (hb.block g (Array.getElem?_eq_some_iff.1 h3).1).trans h3⟩
theorem EmptyRow.new {D : Nat} {W : World} (h : D ≤ W.heap.size) : EmptyRow D (W.alloc (.cells #[] 36)) (.slice (some ⟨W.heap.size, 0, none⟩) 0 0) := ⟨_, rfl, h, alloc_new W _⟩
theorem OneRow.new {D : Nat} {W : World} {cs : Array Value} (h : D ≤ W.heap.size) : OneRow D cs (W.alloc (.cells cs 36)) (.slice (some ⟨W.heap.size, 0, none⟩) 1 1) := ⟨_, rfl, h, alloc_new W _⟩
theorem EmptyRow.owns {D : Nat} {W : World} {v : Value} (h : EmptyRow D W v) : W.ownsRow D 36 3 v 0 [] := by
  obtain ⟨g, rfl, h2, h3⟩ := h
  exact ⟨rfl, .inr ⟨g, 0, _, rfl, h2, h3, Nat.le_refl _, by unfold maxLen; omega, rfl, rfl⟩⟩

/-- a block of one element is not an empty one -/
theorem OneRow.grown {D g : Nat} {cs : Array Value} {W W' : World} {v : Value} (h : OneRow D cs W v) (hcs : cs ≠ #[]) (hm : W.heap[g]? = some (.cells #[] 36 (0, 0))) (hg : W.grownBy W' (some g)) : OneRow D cs W' v := by
  obtain ⟨g', h1, h2, h3⟩ := h
  refine ⟨g', h1, h2, (hg.block g' (Array.getElem?_eq_some_iff.1 h3).1 (fun e => ?_)).trans h3⟩
  cases e
  rw [h3] at hm
  simp at hm
  exact hcs hm

end Go.Proofs.YtfkcphflcmpenaaDoor
