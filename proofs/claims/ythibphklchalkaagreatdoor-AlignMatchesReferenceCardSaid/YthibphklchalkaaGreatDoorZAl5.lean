/-
  align.costs. Conditions: lengths.
-/
import Derived.Test.YthibphklchalkaaGreatDoorZAl4
namespace Go.Proofs.YthibphklchalkaaGreatDoor
open Go.RowKit Go.Lib Go.Maps

section
variable (P : Program) (w : World) (a : Addr) (m : Mode)
theorem run_store_fn (f : Fn) (x y : Array Value) : (store a (.func f x y) m).run P w = stored P w a (.func f x y) m := run_store P w a _ m rfl
end

/-- what costs ends in -/
def CostsPost (w : Al.Ws) (W : World) (e : Ending) (W' : World) : Prop :=
  ∃ m K', e = .returned (.map (some m)) ∧ Below W.heap.size W W' ∧ MapF W' Tryz.prog 53 m K'.length (costsF w K') ∧ Al.Closed w K' ∧ Al.zero ∈ K'

attribute [local go_sem] run_store_fn in
set_option maxRecDepth 100000 in
set_option maxHeartbeats 2000000 in
theorem costs_any (w : Al.Ws) (hf : Few w) (fl fr : List (Al.R × Value)) (v : List Value) (W : World) (h : WordsAt W w fl fr v) : Calls Tryz.prog 18 #[.agg v.toArray] W (CostsPost w W) := by
  obtain ⟨⟨ll, lr, rl, rr, rfl, -⟩, -, -⟩ := id h
  have hmm := @run_makeMap Tryz.prog
  have H := hid h
  clear h
  go_enter Tryz.func18, Tryz.ntmps18
  go_wp2_with fail
  obtain ⟨Wa, hWa⟩ : ∃ Wa, Wa = W.alloc (.cells #[ll, lr, rl, rr] 47) := ⟨_, rfl⟩
  obtain ⟨Wb, hWb⟩ : ∃ Wb, Wb = Wa.alloc (.map #[] 0) := ⟨_, rfl⟩
  obtain ⟨Wc, hWc⟩ : ∃ Wc, Wc = Wb.alloc (.cells #[.map (some (W.heap.size + 1))] 50) := ⟨_, rfl⟩
  obtain ⟨Wd, hWd⟩ : ∃ Wd, Wd = Wc.alloc (.cells #[.func (.func 34) #[] #[.pointer (some ⟨W.heap.size + 1 + 1, 0, none⟩), .pointer (some ⟨W.heap.size, 0, none⟩), .pointer (some ⟨W.heap.size + 1 + 1 + 1, 0, none⟩)]] 95) := ⟨_, rfl⟩
  rw [← hWa, ← hWb, ← hWc, ← hWd]
  have za : Wa.heap.size = W.heap.size + 1 := by rw [hWa, World.size_alloc]
  have zb : Wb.heap.size = W.heap.size + 1 + 1 := by rw [hWb, World.size_alloc, za]
  have zc : Wc.heap.size = W.heap.size + 1 + 1 + 1 := by rw [hWc, World.size_alloc, zb]
  have zd : Wd.heap.size = W.heap.size + 1 + 1 + 1 + 1 := by rw [hWd, World.size_alloc, zc]
  have ba : Below W.heap.size W Wa := by rw [hWa]; exact (Below.refl _ W).alloc (Nat.le_refl _) _
  have bb : Below Wa.heap.size Wa Wb := by rw [hWb]; exact (Below.refl _ Wa).alloc (Nat.le_refl _) _
  have bc : Below Wb.heap.size Wb Wc := by rw [hWc]; exact (Below.refl _ Wb).alloc (Nat.le_refl _) _
  have bd : Below Wc.heap.size Wc Wd := by rw [hWd]; exact (Below.refl _ Wc).alloc (Nat.le_refl _) _
  have ha : Wd.heap[W.heap.size]? = some (.cells #[ll, lr, rl, rr] 47 (0, 0)) := by
    rw [bd.block _ (by omega), bc.block _ (by omega), bb.block _ (by omega), hWa]; exact World.alloc_heap_new W _
  have hc : Wd.heap[W.heap.size + 1 + 1]? = some (.cells #[.map (some (W.heap.size + 1))] 50 (0, 0)) := by
    rw [bd.block _ (by omega), hWc, ← zb]; exact World.alloc_heap_new Wb _
  have hd : Wd.heap[W.heap.size + 1 + 1 + 1]? = some (.cells #[.func (.func 34) #[] #[.pointer (some ⟨W.heap.size + 1 + 1, 0, none⟩), .pointer (some ⟨W.heap.size, 0, none⟩), .pointer (some ⟨W.heap.size + 1 + 1 + 1, 0, none⟩)]] 95 (0, 0)) := by
    rw [hWd, ← zc]; exact World.alloc_heap_new Wc _
  have hm : MapF Wd Tryz.prog 53 (W.heap.size + 1) 0 (costsF w []) := by
    have := MapF.made Wa Tryz.prog 53
    rw [← hWb, za] at this
    exact ((this.below bc).below bd).congr (fun x kl _ => by unfold costsF; rw [dif_neg]; rintro ⟨s, hs, _⟩; cases hs)
  have bW : Below W.heap.size W Wd := ((ba.trans (bb.mono (by omega))).trans (bc.mono (by omega))).trans (bd.mono (by omega))
  have C : CostW w fl fr [ll, lr, rl, rr] (W.heap.size + 1 + 1) W.heap.size (W.heap.size + 1 + 1 + 1) (W.heap.size + 1) [] Wd :=
    ⟨hc, ha, hd, H.out.below bW, hm, ⟨(fun x hx => absurd hx List.not_mem_nil), (fun x hx => absurd hx List.not_mem_nil), List.nodup_nil⟩⟩
  have HW := hid (walk_any w hf fl fr [ll, lr, rl, rr] _ _ _ _ (Al.meas w Al.zero + 1) Al.zero [] Wd (Nat.lt_succ_self _) Al.ok_zero C)
  have BW := hid bW
  have ZD := hid zd
  clear hWa hWb hWc hWd za zb zc zd ba bb bc bd ha hc hd hm bW C hmm
  refine (HW.out).mono ?_
  rintro e We ⟨rfl, hbut, K', C', hin, -, -⟩
  have hbe : Below W.heap.size Wd We := hbut.below (by rw [ZD.out]; omega) (by omega)
  have x0 := (cell_blk C'.k).1
  have R := hid (And.intro (BW.out.trans hbe) (And.intro C' hin))
  clear hbut C' hin hbe HW
  go_wp2
  go_ret
  exact ⟨_, K', rfl, R.out.1, R.out.2.1.map, R.out.2.1.closed, R.out.2.2⟩

end Go.Proofs.YthibphklchalkaaGreatDoor
