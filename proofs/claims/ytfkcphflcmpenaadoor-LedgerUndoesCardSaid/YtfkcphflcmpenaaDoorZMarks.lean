/-
  Leaving a function with any number of marks of ranges over functions. NO PROGRAM IN THIS TEXT.
-/
import Derived.Test.YtfkcphflcmpenaaDoorZRange
import Derived.RangeFuncLeaves
namespace Go.Proofs.YtfkcphflcmpenaaDoor
open Go.RowKit

def mark (D : Nat) : Deferred := { target := .collected D, args := #[] }

/-- all but these blocks are as they were -/
structure ButThese (Ds : List Nat) (W W' : World) : Prop where
  os : W'.os = W.os
  tape : W'.tape = W.tape
  output : W'.output = W.output
  size : W'.heap.size = W.heap.size
  block : ∀ q, q ∉ Ds → W'.heap[q]? = W.heap[q]?

theorem ButThese.refl (W : World) : ButThese [] W W := ⟨rfl, rfl, rfl, rfl, fun _ _ => rfl⟩

theorem ButThese.below {Ds : List Nat} {W W' : World} {n : Nat} (h : ButThese Ds W W') (hn : ∀ D ∈ Ds, n ≤ D) : Below n W W' :=
  ⟨h.os, h.tape, h.output, Nat.le_of_eq h.size.symm, fun k hk => h.block k (fun hm => by have := hn k hm; omega)⟩

theorem ButThese.cell {Ds : List Nat} {W W' : World} (h : ButThese Ds W W') {p : Addr} (hp : p.block ∉ Ds) : W'.cell? p = W.cell? p := World.cell?_of_block (h.block _ hp)

theorem leaves_marks {F : Fence} {n : Nat} {P : Program} {fn : Func} {tmps : Array Value} {R : Ending → World → Prop} : ∀ (Ds : List Nat) (W : World), Ds.Nodup → (∀ D ∈ Ds, W.heap[D]? = some (.deferred (some []))) →
    (∀ W', ButThese Ds W W' → ∃ v, (results fn tmps).run P W' = .ok v W' ∧ R (.returned v) W') → LeavesInM F n P fn tmps R (Ds.map mark) .returning W
  | [], W, _, _, h => by
    obtain ⟨v, h1, h2⟩ := h W (ButThese.refl W)
    exact ⟨v, h1, h2⟩
  | D :: Ds, W, hn, hd, h => by
    rw [List.nodup_cons] at hn
    have hD := hd D List.mem_cons_self
    refine ⟨by simp, .inl ⟨D, _, rfl, run_takeDeferred hD, ?_⟩⟩
    have hs : (W.putObj D (.deferred none)).heap.size = W.heap.size := by simp [World.putObj]
    refine leaves_marks Ds _ hn.2 (fun E hE => ?_) (fun W' hW' => h W' ?_)
    · rw [World.putObj_heap_other (fun e => hn.1 (by rw [← e]; exact hE))]
      exact hd E (List.mem_cons_of_mem _ hE)
    · refine ⟨hW'.os, hW'.tape, hW'.output, hW'.size.trans hs, fun q hq => ?_⟩
      rw [List.mem_cons, not_or] at hq
      rw [hW'.block q hq.2, World.putObj_heap_other hq.1]

end Go.Proofs.YtfkcphflcmpenaaDoor
