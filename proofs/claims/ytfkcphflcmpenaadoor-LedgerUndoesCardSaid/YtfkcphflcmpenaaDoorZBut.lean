/-
  All blocks below some number but one are as they were: what a call leaves that stores into one map. NO PROGRAM IN THIS TEXT.
-/
import Derived.Test.YtfkcphflcmpenaaDoorZSlice
import Derived.Test.YtfkcphflcmpenaaDoorZBase3
import Derived.Test.YtfkcphflcmpenaaDoorZRange
namespace Go.Proofs.YtfkcphflcmpenaaDoor
open Go.RowKit

/-- all below n but block m is as it was -/
structure But (n m : Nat) (w w' : World) : Prop where
  os : w'.os = w.os
  tape : w'.tape = w.tape
  output : w'.output = w.output
  size : w.heap.size ≤ w'.heap.size
  block : ∀ k, k < n → k ≠ m → w'.heap[k]? = w.heap[k]?

section
variable {n m : Nat} {w w1 w' : World}

theorem But.of_below (h : Below n w w') (m : Nat) : But n m w w' := ⟨h.os, h.tape, h.output, h.size, fun k hk _ => h.block k hk⟩
theorem But.of_grown {row : Option Nat} (h : w.grownBy w' row) (hr : ∀ r, row = some r → r = m) : But w.heap.size m w w' :=
  ⟨h.os, h.tape, h.output, h.size, fun k hk hne => h.block k hk (fun e => hne (hr k e.symm))⟩
theorem But.refl (n m : Nat) (w : World) : But n m w w := ⟨rfl, rfl, rfl, Nat.le_refl _, fun _ _ _ => rfl⟩
theorem But.trans (h : But n m w w1) (g : But n m w1 w') : But n m w w' :=
  ⟨g.os.trans h.os, g.tape.trans h.tape, g.output.trans h.output, Nat.le_trans h.size g.size, fun k hk hne => (g.block k hk hne).trans (h.block k hk hne)⟩
theorem But.mono {n' : Nat} (h : But n m w w') (hn : n' ≤ n) : But n' m w w' := ⟨h.os, h.tape, h.output, h.size, fun k hk hne => h.block k (Nat.lt_of_lt_of_le hk hn) hne⟩
theorem But.below (h : But n m w w') {n' : Nat} (hn : n' ≤ n) (hm : n' ≤ m) : Below n' w w' := ⟨h.os, h.tape, h.output, h.size, fun k hk => h.block k (Nat.lt_of_lt_of_le hk hn) (by omega)⟩
theorem But.step (h : But w.heap.size m w w1) (g : But w1.heap.size m w1 w') : But w.heap.size m w w' := h.trans (g.mono h.size)
theorem But.cell (h : But n m w w') {p : Addr} (hp : p.block < n) (hne : p.block ≠ m) : w'.cell? p = w.cell? p := World.cell?_of_block (h.block p.block hp hne)
theorem But.cells (h : But w.heap.size m w w') {q : Nat} {o om : Obj} (hm : w.heap[m]? = some om) (hmc : om.isCells = false) (hq : w.heap[q]? = some o) (hc : o.isCells = true) : w'.heap[q]? = some o :=
  (h.block q (Array.getElem?_eq_some_iff.1 hq).1 (fun e => by subst e; rw [hm] at hq; cases hq; rw [hmc] at hc; cases hc)).trans hq

theorem cell_isCells {w : World} {p : Addr} {v : Value} (h : w.cell? p = some v) : ∃ o, w.heap[p.block]? = some o ∧ o.isCells = true := by
  unfold World.cell? at h
  cases ho : w.heap[p.block]? with
  | none => rw [ho] at h; cases h
  | some o =>
    rw [ho] at h
    refine ⟨o, rfl, ?_⟩
    cases o with
    | cells a b c => rfl
    | _ => cases h

variable {α : Type} {g o sz : Nat} {cells : α → List Value} {l : List α} {v : Value}

theorem RowOf.but (h : RowOf w g o sz cells l) (hb : But w.heap.size m w w') {om : Obj} (hm : w.heap[m]? = some om) (hmc : om.isCells = false) : RowOf w' g o sz cells l := by
  refine ⟨Nat.lt_of_lt_of_le h.1 hb.size, fun i x hx j v hv => ?_⟩
  have hc := h.2 i x hx j v hv
  obtain ⟨ob, ho, hcc⟩ := cell_isCells hc
  exact (World.cell?_of_block ((hb.cells hm hmc ho hcc).trans ho.symm)).trans hc

theorem SlOf.but (h : SlOf w v sz cells l) (hb : But w.heap.size m w w') {om : Obj} (hm : w.heap[m]? = some om) (hmc : om.isCells = false) : SlOf w' v sz cells l := by
  obtain ⟨a, cap, h1, h2, h3, h4⟩ := h
  refine ⟨a, cap, h1, h2, h3, fun hl => ?_⟩
  obtain ⟨g, o, ha, hr⟩ := h4 hl
  exact ⟨g, o, ha, hr.but hb hm hmc⟩

end

/-- lists without a repetition within a list are no longer -/
theorem nodup_le {β : Type} [DecidableEq β] : ∀ {a b : List β}, a.Nodup → (∀ x ∈ a, x ∈ b) → a.length ≤ b.length
  | [], _, _, _ => Nat.zero_le _
  | x :: a, b, hn, hs => by
    rw [List.nodup_cons] at hn
    have hx := hs x List.mem_cons_self
    have := nodup_le (a := a) (b := b.erase x) hn.2 (fun y hy => by
      have hyb := hs y (List.mem_cons_of_mem _ hy)
      exact (List.mem_erase_of_ne (fun e => hn.1 (by rw [← e]; exact hy))).2 hyb)
    rw [List.length_erase_of_mem hx] at this
    have hp := List.length_pos_of_mem hx
    simp only [List.length_cons]
    omega

end Go.Proofs.YtfkcphflcmpenaaDoor
