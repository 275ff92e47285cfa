/-
  slices.Backward at bookings, as the range over a function meets it. Conditions: lengths.
-/
import Derived.Test.YtfkcphflcmpenaaDoorZLed3
import Derived.Test.YtfkcphflcmpenaaDoorZMBase
import Derived.RangeFuncBox
import Derived.RangeFuncLeaves
import Derived.Shelf.Abstract
import Derived.OwnWalkIn
import Derived.TacticsInMore
import Derived.LoopNIn
import Derived.LoopIn
import Derived.Sort.CutIn
namespace Go.Proofs.YtfkcphflcmpenaaDoor
open Go.RowKit Go.Maps

attribute [local go_sem] Oper.semAt_some

/-- what a round must leave as it is: all rows but block X -/
structure BackKeep (X : Nat) (W W' : World) : Prop where
  size : W.heap.size ≤ W'.heap.size
  cells : ∀ (q : Nat) (o : Obj), q ≠ X → W.heap[q]? = some o → o.isCells = true → W'.heap[q]? = some o

theorem BackKeep.trans {X : Nat} {A B C : World} (h : BackKeep X A B) (k : BackKeep X B C) : BackKeep X A C := ⟨Nat.le_trans h.size k.size, fun q o h1 h2 h3 => k.cells q o h1 (h.cells q o h1 h2 h3) h3⟩
theorem backKeep_record (X : Nat) (W : World) (l : Nat) (o o' : Obj) (hl : W.heap[l]? = some o) (ho : o.isCells = false) : BackKeep X W (W.putObj l o') := by
  refine ⟨by simp [World.putObj], fun q ob _ h2 h3 => ?_⟩
  have hne : l ≠ q := fun e => by subst e; rw [hl] at h2; cases h2; rw [ho] at h3; cases h3
  exact (World.putObj_heap_other (fun e => hne e.symm)).trans h2
theorem BackKeep.sl {X : Nat} {W W' : World} {v : Value} {sz : Nat} {α : Type} {cells : α → List Value} {l : List α} (h : SlIn W v (fun k => k ≠ X) sz cells l) (hk : BackKeep X W W') : SlIn W' v (fun k => k ≠ X) sz cells l := by
  obtain ⟨a, cap, h1, h2, h3, h4⟩ := h
  refine ⟨a, cap, h1, h2, h3, fun hl => ?_⟩
  obtain ⟨g, o, ha, hx, hr⟩ := h4 hl
  refine ⟨g, o, ha, hx, Nat.lt_of_lt_of_le hr.1 hk.size, fun i x hi j u hu => ?_⟩
  have hc := hr.2 i x hi j u hu
  obtain ⟨ob, ho, hcc⟩ := cell_isCells hc
  exact (World.cell?_of_block (a := ⟨g, o + i * sz + j, none⟩) ((hk.cells g ob hx ho hcc).trans ho.symm)).trans hc

/-- the next booking from the back -/
def nxB (bs : List (Lg.Bk × Value)) : Nat → Option (Array Value × Nat)
  | 0 => none
  | k + 1 => bs[k]?.map fun q => (#[.int .i64 k, bookV q], k)

set_option maxRecDepth 100000 in
set_option maxHeartbeats 2000000 in
theorem back_iter (bs : List (Lg.Bk × Value)) (v : Value) (B X : Nat) (hs : ∀ q ∈ bs, ∃ a n c, q.2 = .slice a n c) (n : Nat) (hn : 1 ≤ n) :
    IterX Fence.wide n Tryd.prog 42 #[.pointer (some ⟨B, 0, none⟩)] none (BackKeep X) (nxB bs)
      (fun b W => b = bs.length ∧ W.heap[B]? = some (.cells #[v] 24 (0, 0)) ∧ SlIn W v (fun k => k ≠ X) 3 bookC bs ∧ B ≠ X ∧ bs.length ≤ 1000000) := by
  intro l J Jx b0 W hJ hJx hY hS h0
  obtain ⟨rfl, hst, hsl, hBX, hlen⟩ := hS
  refine callsIn_of_wp Tryd.func42 rfl trivial ?_ rfl
  simp only [Tryd.ntmps42, List.size_toArray, List.length_cons, List.length_nil, Nat.reduceAdd, Nat.reduceSub, Array.replicate_succ, Array.replicate_zero, List.push_toArray, List.append_toArray, List.nil_append, List.cons_append]
  have HSL := hid hsl
  obtain ⟨a, cap, rfl, l1, l2, -⟩ := hsl
  have c0 : W.cell? ⟨B, 0, none⟩ = some (.slice a bs.length cap) := by simp [World.cell?, hst]
  have hz : B < W.heap.size := (Array.getElem?_eq_some_iff.1 hst).1
  have hw : IntKind.i64.wrap ((bs.length : Int) - 1) = (bs.length : Int) - 1 := IntWalk.i64_in _ (by omega)
  have HST := hid hst
  have H0 := hid h0
  have HSS := hid hs
  have HLEN := hid hlen
  clear hst h0 hs
  gi_wp2_with fail
  gi_loopw [3] (fun i wr => ∃ (k : Nat) (j : Int), k ≤ bs.length ∧ i = .int .i64 j ∧ Hid (j = (k : Int) - 1) ∧ Hid (J k wr) ∧ Hid (wr.heap[B]? = some (.cells #[.slice a bs.length cap] 24 (0, 0)) ∧ SlIn wr (.slice a bs.length cap) (fun k => k ≠ X) 3 bookC bs)) (fun i _ => (RowKit.intOf i + 1).toNat)
  case atStart => exact ⟨bs.length, _, Nat.le_refl _, rfl, rfl, H0.out, HST.out, HSL.out⟩
  case round =>
    obtain ⟨k, j, hk, rfl, hj, HJ, HW⟩ := hrel
    cases k with
    | zero =>
      have hj' : j = -1 := by have := hj.out; omega
      subst hj'
      gi_wp2_with fail
      go_end0
      exact ⟨⟨_, rfl⟩, .inl ⟨0, rfl, HJ.out⟩⟩
    | succ m =>
      have hj' : j = (m : Int) := by have := hj.out; omega
      subst hj'
      obtain ⟨q, hq⟩ : ∃ q, bs[m]? = some q := ⟨_, List.getElem?_eq_getElem (by omega)⟩
      obtain ⟨qa, qn, qc, hqv⟩ := HSS.out q (List.mem_of_getElem? hq)
      obtain ⟨a', cap', e', _, _, h4⟩ := HW.out.2
      cases e'
      obtain ⟨g, o, rfl, hgX, hr⟩ := h4 (by omega)
      have hc := hr.2 m q hq
      have e0 := hc 0 _ rfl
      have e1 := hc 1 _ rfl
      have e2 := hc 2 _ rfl
      rw [Nat.add_zero] at e0
      rw [hqv] at e2
      have hg := hr.1
      have d0 : wr.cell? ⟨B, 0, none⟩ = some (.slice (some ⟨g, o, none⟩) bs.length cap) := by simp [World.cell?, HW.out.1]
      have hm0 : (0 : Int) ≤ (m : Int) := by omega
      have hm1 : (m : Int) < (bs.length : Int) := by omega
      have hw2 : IntKind.i64.wrap ((m : Int) - 1) = (m : Int) - 1 := IntWalk.i64_in _ (by omega)
      obtain ⟨fn, tmps, assign, body, hy, hR⟩ := hY (m + 1) #[.int .i64 m, bookV q] m wr (by show bs[m]?.map _ = _; rw [hq]; rfl) HJ.out
      unfold bookV at hy
      rw [hqv] at hy
      clear hc hr hq h4 hqv
      gi_wp2_with fail
      refine hR.mono ?_
      rintro e W3 (⟨rfl, hJ3, hk3⟩ | ⟨rfl, hJx3⟩)
      · have H3 := hid (And.intro hJ3 hk3)
        gi_wp2_with fail
        go_roundw
        case rel => exact ⟨m, _, by omega, rfl, rfl, H3.out.1, H3.out.2.cells _ _ hBX HW.out.1 rfl, BackKeep.sl HW.out.2 H3.out.2⟩
        case measure => simp [RowKit.intOf]
      · gi_wp2
        refine bodyPost_ret (results_none rfl _ _ _) rfl ?_
        exact ⟨⟨_, rfl⟩, .inr ⟨_, hJx3⟩⟩

set_option maxRecDepth 100000 in
theorem back_mk (a : Option Addr) (n c : Nat) (w : World) : Calls Tryd.prog 35 #[.slice a n c] w (fun e w' => e = .returned (.func (.func 42) #[] #[.pointer (some ⟨w.heap.size, 0, none⟩)]) ∧ w' = w.alloc (.cells #[.slice a n c] 24)) := by
  go_enter Tryd.func35, Tryd.ntmps35
  go_wp2
  go_ret
  exact ⟨rfl, rfl⟩

end Go.Proofs.YtfkcphflcmpenaaDoor
