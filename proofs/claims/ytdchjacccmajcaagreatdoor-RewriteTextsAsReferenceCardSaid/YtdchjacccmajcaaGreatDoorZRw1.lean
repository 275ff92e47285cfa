/-
 rewrite.Parse: its results' cells, what is caught, leaving. Conditions: none.
-/
import Derived.Test.YtdchjacccmajcaaGreatDoorZRv0
import Derived.Test.YtdchjacccmajcaaGreatDoorZRp5
import Derived.Defers
import Derived.Recover
import Derived.BigRegion
namespace Go.Proofs.YtdchjacccmajcaaGreatDoor
open Go.RowKit Go.Maps Go.Lib

/-- one cell in a block -/
def One (w : World) (b : Nat) (t : TypeId) (v : Value) : Prop := w.heap[b]? = some (.cells #[v] t (0, 0))
theorem One.cell {w : World} {b : Nat} {t : TypeId} {v : Value} (h : One w b t v) : w.cell? ⟨b, 0, none⟩ = some v := by simp [World.cell?, show w.heap[b]? = _ from h]
theorem One.frozen {w : World} {b : Nat} {t : TypeId} {v : Value} (h : One w b t v) : w.frozen? ⟨b, 0, none⟩ = false := frozen_of_row w b 0 _ _ h
theorem One.lt {w : World} {b : Nat} {t : TypeId} {v : Value} (h : One w b t v) : b < w.heap.size := (Array.getElem?_eq_some_iff.1 h).1
theorem One.tch {w w' : World} {b : Nat} {t : TypeId} {v : Value} {O : Nat → Prop} (h : One w b t v) (ht : Tch O w w') (ho : ¬ O b) : One w' b t v := (ht.block b h.lt ho).trans h
theorem One.set {w : World} {b : Nat} {t : TypeId} {v : Value} (h : One w b t v) (u : Value) : One (w.setCell ⟨b, 0, none⟩ u) b t u := blk_setP h 0 u
theorem One.other {w : World} {b : Nat} {t : TypeId} {v : Value} (h : One w b t v) {a : Addr} (ha : a.block ≠ b) (u : Value) : One (w.setCell a u) b t v := (Below.heap_setCell _ _ _ _ (fun e => ha e.symm)).trans h

/-- the three results' cells: the table's box D, the error's E, the offset's A -/
structure ResT (w : World) (D E A : Nat) (vr vd ve : Value) (x y u : Int) (er at_ : Value) : Prop where
 d : w.heap[D]? = some (.cells #[vr, vd, ve, .int .i64 x, .int .i64 y, .int .i64 u] 25 (0, 0))
 e : One w E 36 er
 a : One w A 3 at_
 de : D < E
 ea : E < A
def res3 (D E A : Nat) : Nat → Prop := fun k => k = D ∨ k = E ∨ k = A
section
variable {w w' : World} {D E A : Nat} {vr vd ve er at_ : Value} {x y u : Int}
theorem ResT.tch {O : Nat → Prop} (h : ResT w D E A vr vd ve x y u er at_) (ht : Tch O w w') (ho : ∀ k, res3 D E A k → ¬ O k) : ResT w' D E A vr vd ve x y u er at_ :=
 ⟨(ht.block D (Array.getElem?_eq_some_iff.1 h.d).1 (ho D (.inl rfl))).trans h.d, h.e.tch ht (ho E (.inr (.inl rfl))), h.a.tch ht (ho A (.inr (.inr rfl))), h.de, h.ea⟩
theorem ResT.below (h : ResT w D E A vr vd ve x y u er at_) (hb : Below w.heap.size w w') : ResT w' D E A vr vd ve x y u er at_ := h.tch (Tch.of_below hb (fun _ => False)) (fun _ _ e => e)
theorem ResT.setE (h : ResT w D E A vr vd ve x y u er at_) (v : Value) : ResT (w.setCell ⟨E, 0, none⟩ v) D E A vr vd ve x y u v at_ :=
 ⟨(Below.heap_setCell _ _ _ _ (by have := h.de; show D ≠ E; omega)).trans h.d, h.e.set v, h.a.other (by have := h.ea; show E ≠ A; omega) v, h.de, h.ea⟩
theorem ResT.setA (h : ResT w D E A vr vd ve x y u er at_) (v : Value) : ResT (w.setCell ⟨A, 0, none⟩ v) D E A vr vd ve x y u er v :=
 ⟨(Below.heap_setCell _ _ _ _ (by have := h.de; have := h.ea; show D ≠ A; omega)).trans h.d, h.e.other (by have := h.ea; show A ≠ E; omega) v, h.a.set v, h.de, h.ea⟩
theorem ResT.lt (h : ResT w D E A vr vd ve x y u er at_) : D < w.heap.size ∧ E < w.heap.size ∧ A < w.heap.size := ⟨(Array.getElem?_eq_some_iff.1 h.d).1, h.e.lt, h.a.lt⟩
theorem ResT.dcell (h : ResT w D E A vr vd ve x y u er at_) (j : Nat) (v : Value) (hj : (#[vr, vd, ve, .int .i64 x, .int .i64 y, .int .i64 u] : Array Value)[j]? = some v) : w.cell? ⟨D, j, none⟩ = some v := by simp only [World.cell?, h.d]; exact hj
theorem ResT.dfrozen (h : ResT w D E A vr vd ve x y u er at_) (j : Nat) : w.frozen? ⟨D, j, none⟩ = false := frozen_of_row w D j _ _ h.d
end
/-- a table is stored into the box -/
def setT (w : World) (D : Nat) (vr vd ve : Value) (x y u : Int) : World := (((((w.setCell ⟨D, 0, none⟩ vr).setCell ⟨D, 1, none⟩ vd).setCell ⟨D, 2, none⟩ ve).setCell ⟨D, 3, none⟩ (.int .i64 x)).setCell ⟨D, 4, none⟩ (.int .i64 y)).setCell ⟨D, 5, none⟩ (.int .i64 u)
theorem setT_tch (w : World) (D : Nat) (vr vd ve : Value) (x y u : Int) : Tch (fun k => k = D) w (setT w D vr vd ve x y u) :=
 ((((((Tch.refl (fun k => k = D) w).setCell (a := ⟨D, 0, none⟩) (.inl rfl) _).setCell (a := ⟨D, 1, none⟩) (.inl rfl) _).setCell (a := ⟨D, 2, none⟩) (.inl rfl) _).setCell (a := ⟨D, 3, none⟩) (.inl rfl) _).setCell (a := ⟨D, 4, none⟩) (.inl rfl) _).setCell (a := ⟨D, 5, none⟩) (.inl rfl) _
theorem ResT.setT {w : World} {D E A : Nat} {vr vd ve er at_ : Value} {x y u : Int} (h : ResT w D E A vr vd ve x y u er at_) (vr' vd' ve' : Value) (x' y' u' : Int) : ResT (setT w D vr' vd' ve' x' y' u') D E A vr' vd' ve' x' y' u' er at_ := by
 have hT := setT_tch w D vr' vd' ve' x' y' u'
 exact ⟨blk_setP (blk_setP (blk_setP (blk_setP (blk_setP (blk_setP h.d 0 _) 1 _) 2 _) 3 _) 4 _) 5 _, h.e.tch hT (by have := h.de; show ¬ E = D; omega), h.a.tch hT (by have := h.de; have := h.ea; show ¬ A = D; omega), h.de, h.ea⟩

/-- the panic as it stands in a frame -/
def failV (x : Fa.Fail) : Value := .iface 109 (.agg #[.int .i64 x.1, .int .i64 x.2])
theorem as_fail (v : Value) (w : World) : (Instr.typeAssert (.iface 109 v) 20 109 true).run Tryz.prog w = .ok (.tuple #[v, .bool true]) w := by kernel_rfl
theorem as_fail_nil (w : World) : (Instr.typeAssert .nilIface 20 109 true).run Tryz.prog w = .ok (.tuple #[.agg #[.int .i64 0, .int .i64 0], .bool false]) w := by kernel_rfl

set_option maxRecDepth 100000 in
set_option maxHeartbeats 1000000 in
theorem pdef_idle (D E A : Nat) (w : World) : CallsD Tryz.prog 61 #[.pointer (some ⟨D, 0, none⟩), .pointer (some ⟨E, 0, none⟩), .pointer (some ⟨A, 0, none⟩)] .returning w fun e u' w' => e = .returned (.tuple #[]) ∧ u' = .returning ∧ Below w.heap.size w w' := by
 have hta := as_fail_nil
 refine callsD_of_wpS Tryz.func61 rfl fun c₀ cs hu => ?_
 refine wpS_seq ?_
 apply wpS_region
 simp [wpOpsS, go_sem, recoverD, hu, hta, Tryz.ntmps61]
 simp only [Array.replicate_succ, Array.replicate_zero, List.push_toArray, List.nil_append, List.cons_append, List.setIfInBounds_toArray, List.set_cons_zero, List.set_cons_succ, List.append_toArray]
 show Code.wpS _ _ _ _ _ _
 refine wpS_of_wp ?_
 go_wp2_with fail
 refine ⟨rfl, .returning, ?_, .tuple #[], results_none rfl _ _ _, rfl, rfl, (Below.refl _ w).alloc (Nat.le_refl _) _⟩
 rw [← hu]

/-- the results are those of a failure -/
def PCaughtP (w : World) (D E A : Nat) (x : Fa.Fail) (en : Ending) (w' : World) : Prop :=
 en = .returned (.tuple #[]) ∧ ResT w' D E A (.slice none 0 0) (.slice none 0 0) (.slice none 0 0) 0 0 0 (.int .i64 x.1) (.int .i64 x.2) ∧ Tch (res3 D E A) w w'

set_option maxRecDepth 100000 in
set_option maxHeartbeats 2000000 in
theorem pdef_caught (D E A : Nat) (w : World) (vr vd ve er at_ : Value) (x y u : Int) (h : ResT w D E A vr vd ve x y u er at_) (z : Fa.Fail) : CallsD Tryz.prog 61 #[.pointer (some ⟨D, 0, none⟩), .pointer (some ⟨E, 0, none⟩), .pointer (some ⟨A, 0, none⟩)] (.panicking [{ v := failV z, recovered := false }]) w
  fun e u' w' => PCaughtP w D E A z e w' ∧ u' = .panicking [{ v := failV z, recovered := true }] := by
 have hta := as_fail
 obtain ⟨W1, hW1⟩ : ∃ W1, W1 = w.alloc (.cells #[.int .i64 z.1, .int .i64 z.2] 109) := ⟨_, rfl⟩
 have hb1 : Below w.heap.size w W1 := by rw [hW1]; exact (Below.refl _ w).alloc (Nat.le_refl _) _
 have hs1 : W1.heap[w.heap.size]? = some (.cells #[.int .i64 z.1, .int .i64 z.2] 109 (0, 0)) := by rw [hW1]; exact alloc_new w _
 have HR1 := hid (h.below hb1)
 have HB1 := hid hb1
 obtain ⟨hl1, hl2, hl3⟩ := h.lt
 have hde := h.de
 have hea := h.ea
 have y0 : W1.cell? ⟨w.heap.size, 0, none⟩ = some (.int .i64 z.1) := by simp [World.cell?, hs1]
 have y1 : W1.cell? ⟨w.heap.size, 1, none⟩ = some (.int .i64 z.2) := by simp [World.cell?, hs1]
 have yl : w.heap.size < W1.heap.size := (Array.getElem?_eq_some_iff.1 hs1).1
 have d0 := HR1.out.dcell 0 _ rfl
 have d1 := HR1.out.dcell 1 _ rfl
 have d2 := HR1.out.dcell 2 _ rfl
 have d3 := HR1.out.dcell 3 _ rfl
 have d4 := HR1.out.dcell 4 _ rfl
 have d5 := HR1.out.dcell 5 _ rfl
 have df := HR1.out.dfrozen
 obtain ⟨g1, g2, g3⟩ := HR1.out.lt
 have e0 := HR1.out.e.cell
 have ef := HR1.out.e.frozen
 have a0 := HR1.out.a.cell
 have af := HR1.out.a.frozen
 have n1 : ¬ D = E := by omega
 have n2 : ¬ E = D := by omega
 have n3 : ¬ D = A := by omega
 have n4 : ¬ A = D := by omega
 have n5 : ¬ E = A := by omega
 have n6 : ¬ A = E := by omega
 have n7 : ¬ D = w.heap.size := by omega
 have n8 : ¬ E = w.heap.size := by omega
 have n9 : ¬ A = w.heap.size := by omega
 have n10 : ¬ w.heap.size = D := by omega
 have n11 : ¬ w.heap.size = E := by omega
 have n12 : ¬ w.heap.size = A := by omega
 have HFV := hid (show failV z = .iface 109 (.agg #[.int .i64 z.1, .int .i64 z.2]) from rfl)
 clear h hb1 hs1
 refine callsD_of_wpS Tryz.func61 rfl fun c₀ cs hu => ?_
 refine wpS_seq ?_
 apply wpS_region
 simp [wpOpsS, go_sem, recoverD, hu, HFV.out, hta, Tryz.ntmps61]
 simp only [Array.replicate_succ, Array.replicate_zero, List.push_toArray, List.nil_append, List.cons_append, List.setIfInBounds_toArray, List.set_cons_zero, List.set_cons_succ, List.append_toArray]
 show Code.wpS _ _ _ _ _ _
 refine wpS_of_wp ?_
 rw [← hW1]
 clear hW1 hta
 go_wp2_with fail
 go_region
 go_wp2_with fail
 have hR := ((HR1.out.setT (.slice none 0 0) (.slice none 0 0) (.slice none 0 0) 0 0 0).setE (.int .i64 z.1)).setA (.int .i64 z.2)
 have hT : Tch (res3 D E A) W1 (((setT W1 D (.slice none 0 0) (.slice none 0 0) (.slice none 0 0) 0 0 0).setCell ⟨E, 0, none⟩ (.int .i64 z.1)).setCell ⟨A, 0, none⟩ (.int .i64 z.2)) :=
  (((setT_tch W1 D _ _ _ _ _ _).mono (fun k e => .inl e)).setCell (a := ⟨E, 0, none⟩) (.inl (.inr (.inl rfl))) _).setCell (a := ⟨A, 0, none⟩) (.inl (.inr (.inr rfl))) _
 exact ⟨rfl, .panicking [{ v := failV z, recovered := true }], rfl, .tuple #[], results_none rfl _ _ _, ⟨rfl, hR.below (Below.refl _ _).drew, ((Tch.of_below HB1.out _).trans hT (fun k hk _ => hk)).step (Below.refl _ _).drew⟩, rfl⟩

theorem load_table {w : World} {D E A : Nat} {vr vd ve er at_ : Value} {x y u : Int} (h : ResT w D E A vr vd ve x y u er at_) : (loadVar 25 ⟨D, 0, none⟩).run Tryz.prog w = .ok (.agg #[vr, vd, ve, .int .i64 x, .int .i64 y, .int .i64 u]) w :=
 run_loadVar_row w D _ 25 _ _ _ h.d Tryz.underlying25 rfl (by kernel_rfl)
/-- the results lie in three cells -/
theorem results_cellsT {fn : Func} (hfn : fn.results = #[.cell 2 25, .cell 3 36, .cell 4 3]) {tmps : Array Value} {w : World} {D E A : Nat} {vr vd ve er at_ : Value} {x y u : Int} (h2 : tmps.getD 2 undef = .pointer (some ⟨D, 0, none⟩)) (h3 : tmps.getD 3 undef = .pointer (some ⟨E, 0, none⟩)) (h4 : tmps.getD 4 undef = .pointer (some ⟨A, 0, none⟩))
  (h : ResT w D E A vr vd ve x y u er at_) : (results fn tmps).run Tryz.prog w = .ok (.tuple #[.agg #[vr, vd, ve, .int .i64 x, .int .i64 y, .int .i64 u], er, at_]) w := by
 have e0 := h.e.cell
 have a0 := h.a.cell
 have hl := load_table h
 have l1 : (loadVar 36 ⟨E, 0, none⟩).run Tryz.prog w = .ok er w := by
  simp [loadVar, go_sem, e0]
 have l2 : (loadVar 3 ⟨A, 0, none⟩).run Tryz.prog w = .ok at_ w := by
  simp [loadVar, go_sem, a0]
 have h2' : tmps[2]?.getD undef = .pointer (some ⟨D, 0, none⟩) := by simpa using h2
 have h3' : tmps[3]?.getD undef = .pointer (some ⟨E, 0, none⟩) := by simpa using h3
 have h4' : tmps[4]?.getD undef = .pointer (some ⟨A, 0, none⟩) := by simpa using h4
 simp [results, hfn, h2', h3', h4', asAddr, hl, l1, l2, Sem.run_bind, Result.andThen]
section
variable {fn : Func} {tmps : Array Value} {w : World} {D E A : Nat} {vr vd ve er at_ : Value} {x y u : Int} {R : Ending → World → Prop}
/-- leaving by a panic that is caught -/
theorem leavesT_1 (hfn : fn.results = #[.cell 2 25, .cell 3 36, .cell 4 3]) (h2 : tmps.getD 2 undef = .pointer (some ⟨D, 0, none⟩)) (h3 : tmps.getD 3 undef = .pointer (some ⟨E, 0, none⟩)) (h4 : tmps.getD 4 undef = .pointer (some ⟨A, 0, none⟩))
  (h : ResT w D E A vr vd ve x y u er at_) (z : Fa.Fail)
  (hR : ∀ w', Tch (res3 D E A) w w' → R (.returned (.tuple #[.agg #[.slice none 0 0, .slice none 0 0, .slice none 0 0, .int .i64 0, .int .i64 0, .int .i64 0], .int .i64 z.1, .int .i64 z.2])) w') :
  Leaves Tryz.prog fn tmps R [{ target := .fn (.func 61) #[.pointer (some ⟨D, 0, none⟩), .pointer (some ⟨E, 0, none⟩), .pointer (some ⟨A, 0, none⟩)], args := #[] }] (.panicking [{ v := failV z, recovered := false }]) w := by
 refine leaves_cons (f := 61) (args := #[.pointer (some ⟨D, 0, none⟩), .pointer (some ⟨E, 0, none⟩), .pointer (some ⟨A, 0, none⟩)]) (by simp) (by simp [go_sem]) ?_
 refine (pdef_caught D E A w vr vd ve er at_ x y u h z).mono ?_
 rintro e u' w' ⟨⟨rfl, h5, h6⟩, rfl⟩
 exact ⟨_, results_cellsT hfn h2 h3 h4 h5, hR w' h6⟩
/-- leaving by a return -/
theorem leavesT_ret (hfn : fn.results = #[.cell 2 25, .cell 3 36, .cell 4 3]) (h2 : tmps.getD 2 undef = .pointer (some ⟨D, 0, none⟩)) (h3 : tmps.getD 3 undef = .pointer (some ⟨E, 0, none⟩)) (h4 : tmps.getD 4 undef = .pointer (some ⟨A, 0, none⟩))
  (h : ResT w D E A vr vd ve x y u er at_) (hR : ∀ w', Below w.heap.size w w' → R (.returned (.tuple #[.agg #[vr, vd, ve, .int .i64 x, .int .i64 y, .int .i64 u], er, at_])) w') :
  Leaves Tryz.prog fn tmps R [{ target := .fn (.func 61) #[.pointer (some ⟨D, 0, none⟩), .pointer (some ⟨E, 0, none⟩), .pointer (some ⟨A, 0, none⟩)], args := #[] }] .returning w := by
 refine leaves_cons (f := 61) (args := #[.pointer (some ⟨D, 0, none⟩), .pointer (some ⟨E, 0, none⟩), .pointer (some ⟨A, 0, none⟩)]) (by simp) (by simp [go_sem]) ?_
 refine (pdef_idle D E A w).mono ?_
 rintro e u' w' ⟨rfl, rfl, hb⟩
 exact ⟨_, results_cellsT hfn h2 h3 h4 (h.below hb), hR w' hb⟩
/-- leaving by a return, nothing deferred -/
theorem leavesT_ret_0 (hfn : fn.results = #[.cell 2 25, .cell 3 36, .cell 4 3]) (h2 : tmps.getD 2 undef = .pointer (some ⟨D, 0, none⟩)) (h3 : tmps.getD 3 undef = .pointer (some ⟨E, 0, none⟩)) (h4 : tmps.getD 4 undef = .pointer (some ⟨A, 0, none⟩))
  (h : ResT w D E A vr vd ve x y u er at_) (hR : R (.returned (.tuple #[.agg #[vr, vd, ve, .int .i64 x, .int .i64 y, .int .i64 u], er, at_])) w) : Leaves Tryz.prog fn tmps R [] .returning w :=
 ⟨_, results_cellsT hfn h2 h3 h4 h, hR⟩
end

end Go.Proofs.YtdchjacccmajcaaGreatDoor
