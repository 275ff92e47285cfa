/-
  What a call may touch: all blocks but some are as they were; slices that lie in blocks of a kind. NO PROGRAM IN THIS TEXT.
-/
import Derived.Test.YthibphklchalkaaGreatDoorZMBase
namespace Go.Proofs.YthibphklchalkaaGreatDoor
open Go.RowKit Go.Maps

theorem alloc_new (w : World) (o : Obj) : (w.alloc o).heap[w.heap.size]? = some o := heap_alloc_new w o

/-- all blocks but those of O are as they were -/
structure Tch (O : Nat → Prop) (w w' : World) : Prop where
  os : w'.os = w.os
  tape : w'.tape = w.tape
  output : w'.output = w.output
  size : w.heap.size ≤ w'.heap.size
  block : ∀ k, k < w.heap.size → ¬ O k → w'.heap[k]? = w.heap[k]?

section
variable {O O' : Nat → Prop} {w w1 w' : World}

theorem Tch.of_below (h : Below w.heap.size w w') (O : Nat → Prop) : Tch O w w' := ⟨h.os, h.tape, h.output, h.size, fun k hk _ => h.block k hk⟩
theorem Tch.refl (O : Nat → Prop) (w : World) : Tch O w w := ⟨rfl, rfl, rfl, Nat.le_refl _, fun _ _ _ => rfl⟩
theorem Tch.trans (h : Tch O w w1) (g : Tch O' w1 w') (ho : ∀ k, O' k → k < w.heap.size → O k) : Tch O w w' :=
  ⟨g.os.trans h.os, g.tape.trans h.tape, g.output.trans h.output, Nat.le_trans h.size g.size, fun k hk hn => (g.block k (Nat.lt_of_lt_of_le hk h.size) (fun e => hn (ho k e hk))).trans (h.block k hk hn)⟩
theorem Tch.mono (h : Tch O w w') (ho : ∀ k, O k → O' k) : Tch O' w w' := ⟨h.os, h.tape, h.output, h.size, fun k hk hn => h.block k hk (fun e => hn (ho k e))⟩
theorem Tch.below {n : Nat} (h : Tch O w w') (hn : n ≤ w.heap.size) (ho : ∀ k, O k → n ≤ k) : Below n w w' := ⟨h.os, h.tape, h.output, h.size, fun k hk => h.block k (by omega) (fun e => by have := ho k e; omega)⟩
theorem Tch.of_grown {row : Option Nat} (h : w.grownBy w' row) (hr : ∀ r, row = some r → O r) : Tch O w w' :=
  ⟨h.os, h.tape, h.output, h.size, fun k hk hn => h.block k hk (fun e => hn (hr k e.symm))⟩
theorem Tch.grown {row : Option Nat} (h : Tch O w w1) (hg : w1.grownBy w' row) (hr : ∀ r, row = some r → O r ∨ w.heap.size ≤ r) : Tch O w w' :=
  ⟨hg.os.trans h.os, hg.tape.trans h.tape, hg.output.trans h.output, Nat.le_trans h.size hg.size, fun k hk hn => (hg.block k (Nat.lt_of_lt_of_le hk h.size) (fun e => by
    rcases hr k e.symm with h1 | h1
    · exact hn h1
    · omega)).trans (h.block k hk hn)⟩
theorem Tch.step (h : Tch O w w1) (g : Below w1.heap.size w1 w') : Tch O w w' :=
  ⟨g.os.trans h.os, g.tape.trans h.tape, g.output.trans h.output, Nat.le_trans h.size g.size, fun k hk hn => (g.block k (Nat.lt_of_lt_of_le hk h.size)).trans (h.block k hk hn)⟩
theorem Tch.setCell (h : Tch O w w1) {a : Addr} (ha : O a.block ∨ w.heap.size ≤ a.block) (v : Value) : Tch O w (w1.setCell a v) :=
  ⟨h.os, h.tape, h.output, by rw [World.setCell]; simp; exact h.size, fun k hk hn => (Below.heap_setCell _ _ _ _ (fun e => by
    rcases ha with h1 | h1
    · exact hn (by rw [e]; exact h1)
    · omega)).trans (h.block k hk hn)⟩
theorem Tch.alloc (h : Tch O w w1) (o : Obj) : Tch O w (w1.alloc o) := h.step ((Below.refl _ w1).alloc (Nat.le_refl _) _)

/-- an element of a map block, kept -/
theorem MapF.tch {P : Program} {k : TypeId} {b n : Nat} {f : Value → Option Value} (h : MapF w P k b n f) (ht : Tch O w w') (hb : ¬ O b) : MapF w' P k b n f := by
  obtain ⟨D, ⟨es, clock, h1, r⟩, h2⟩ := h
  exact ⟨D, ⟨es, clock, (ht.block b (Array.getElem?_eq_some_iff.1 h1).1 hb).trans h1, r⟩, h2⟩
theorem ownsRow_tch {base : Nat} {e : TypeId} {size : Nat} {v : Value} {n : Nat} {xs : List Value} (h : w.ownsRow base e size v n xs) (ht : Tch O w w') (ho : ∀ g, v.ownBlock = some g → ¬ O g) : w'.ownsRow base e size v n xs := by
  refine ⟨h.1, ?_⟩
  rcases h.2 with h2 | ⟨g, cap, cur, rfl, hg, hh, r⟩
  · exact .inl h2
  · exact .inr ⟨g, cap, cur, rfl, hg, (ht.block g (Array.getElem?_eq_some_iff.1 hh).1 (ho g rfl)).trans hh, r⟩
end

section
variable {α : Type} {w w' : World} {v : Value} {sz : Nat} {cells : α → List Value} {l : List α} {Q Q' O : Nat → Prop}

/-- a slice value that reads as these elements, its block one of Q -/
def SlIn (w : World) (v : Value) (Q : Nat → Prop) (sz : Nat) (cells : α → List Value) (l : List α) : Prop :=
  ∃ a cap, v = .slice a l.length cap ∧ l.length ≤ cap ∧ cap ≤ maxLen ∧ (0 < l.length → ∃ g o, a = some ⟨g, o, none⟩ ∧ Q g ∧ RowOf w g o sz cells l)

theorem RowOf.tch {g o : Nat} (h : RowOf w g o sz cells l) (ht : Tch O w w') (hg : ¬ O g) : RowOf w' g o sz cells l :=
  ⟨Nat.lt_of_lt_of_le h.1 ht.size, fun i x hx j v hv => (World.cell?_of_block (a := ⟨g, o + i * sz + j, none⟩) (ht.block g h.1 hg)).trans (h.2 i x hx j v hv)⟩

theorem SlIn.slOf (h : SlIn w v Q sz cells l) : SlOf w v sz cells l := by
  obtain ⟨a, cap, h1, h2, h3, h4⟩ := h
  refine ⟨a, cap, h1, h2, h3, fun hl => ?_⟩
  obtain ⟨g, o, h5, _, h6⟩ := h4 hl
  exact ⟨g, o, h5, h6⟩
theorem SlOf.slIn (h : SlOf w v sz cells l) : SlIn w v (fun k => k < w.heap.size) sz cells l := by
  obtain ⟨a, cap, h1, h2, h3, h4⟩ := h
  refine ⟨a, cap, h1, h2, h3, fun hl => ?_⟩
  obtain ⟨g, o, h5, h6⟩ := h4 hl
  exact ⟨g, o, h5, h6.1, h6⟩
theorem SlIn.tch (h : SlIn w v Q sz cells l) (ht : Tch O w w') (ho : ∀ k, Q k → ¬ O k) : SlIn w' v Q sz cells l := by
  obtain ⟨a, cap, h1, h2, h3, h4⟩ := h
  refine ⟨a, cap, h1, h2, h3, fun hl => ?_⟩
  obtain ⟨g, o, h5, hq, h6⟩ := h4 hl
  exact ⟨g, o, h5, hq, h6.tch ht (ho g hq)⟩
theorem SlIn.below (h : SlIn w v Q sz cells l) (hb : Below w.heap.size w w') : SlIn w' v Q sz cells l := h.tch (Tch.of_below hb (fun _ => False)) (fun _ _ e => e)
theorem SlIn.mono (h : SlIn w v Q sz cells l) (hq : ∀ k, Q k → k < w.heap.size → Q' k) : SlIn w v Q' sz cells l := by
  obtain ⟨a, cap, h1, h2, h3, h4⟩ := h
  refine ⟨a, cap, h1, h2, h3, fun hl => ?_⟩
  obtain ⟨g, o, h5, h7, h6⟩ := h4 hl
  exact ⟨g, o, h5, hq g h7 h6.1, h6⟩
theorem SlIn.nil (w : World) (Q : Nat → Prop) (sz : Nat) (cells : α → List Value) : SlIn w (.slice none 0 0) Q sz cells [] := ⟨none, 0, rfl, by simp, by unfold maxLen; omega, fun h => by simp at h⟩
theorem SlIn.own {B : Nat} {e : TypeId} (h : w.ownsRow B e sz v l.length (l.flatMap cells)) (hc : ∀ x ∈ l, (cells x).length = sz) : SlIn w v (fun k => v.ownBlock = some k) sz cells l := by
  obtain ⟨a, cap, h1, h2, h3, h4⟩ := SlOf.own h hc
  refine ⟨a, cap, h1, h2, h3, fun hl => ?_⟩
  obtain ⟨g, o, h5, h6⟩ := h4 hl
  exact ⟨g, o, h5, by rw [h1, h5]; rfl, h6⟩
theorem SlIn.slice (h : SlIn w v Q sz cells l) : ∃ a cap, v = .slice a l.length cap := by
  obtain ⟨a, cap, h1, _⟩ := h
  exact ⟨a, cap, h1⟩
end

end Go.Proofs.YthibphklchalkaaGreatDoor
