/-
  What is caught: caught, the deferred functions of Parse and ParseCase. Conditions: none.
-/
import Derived.Test.YteogmlgmodeajaaGreatDoorZFa6
import Derived.Defers
import Derived.Recover
namespace Go.Proofs.YteogmlgmodeajaaGreatDoor
open Go.RowKit Go.Maps

/-- one cell in a block -/
def One (w : World) (b : Nat) (t : TypeId) (v : Value) : Prop := w.heap[b]? = some (.cells #[v] t (0, 0))
theorem One.cell {w : World} {b : Nat} {t : TypeId} {v : Value} (h : One w b t v) : w.cell? ⟨b, 0, none⟩ = some v := by simp [World.cell?, show w.heap[b]? = _ from h]
theorem One.frozen {w : World} {b : Nat} {t : TypeId} {v : Value} (h : One w b t v) : w.frozen? ⟨b, 0, none⟩ = false := frozen_of_row w b 0 _ _ h
theorem One.lt {w : World} {b : Nat} {t : TypeId} {v : Value} (h : One w b t v) : b < w.heap.size := (Array.getElem?_eq_some_iff.1 h).1
theorem One.tch {w w' : World} {b : Nat} {t : TypeId} {v : Value} {O : Nat → Prop} (h : One w b t v) (ht : Tch O w w') (ho : ¬ O b) : One w' b t v := (ht.block b h.lt ho).trans h
theorem One.below {w w' : World} {b : Nat} {t : TypeId} {v : Value} (h : One w b t v) (hb : Below w.heap.size w w') : One w' b t v := h.tch (Tch.of_below hb (fun _ => False)) (fun e => e)
theorem One.set {w : World} {b : Nat} {t : TypeId} {v : Value} (h : One w b t v) (u : Value) : One (w.setCell ⟨b, 0, none⟩ u) b t u := blk_set h 0 u
theorem One.other {w : World} {b : Nat} {t : TypeId} {v : Value} (h : One w b t v) {a : Addr} (ha : a.block ≠ b) (u : Value) : One (w.setCell a u) b t v := (Below.heap_setCell _ _ _ _ (fun e => ha e.symm)).trans h
theorem One.new (w : World) (t : TypeId) (v : Value) : One (w.alloc (.cells #[v] t)) w.heap.size t v := alloc_new w _

/-- the three results' cells -/
structure Res (w : World) (D E A : Nat) (t : TypeId) (d er at_ : Value) : Prop where
  d : One w D t d
  e : One w E 29 er
  a : One w A 3 at_
  de : D < E
  ea : E < A

def res3 (D E A : Nat) : Nat → Prop := fun k => k = D ∨ k = E ∨ k = A
theorem Res.tch {w w' : World} {D E A : Nat} {t : TypeId} {d er at_ : Value} {O : Nat → Prop} (h : Res w D E A t d er at_) (ht : Tch O w w') (ho : ∀ k, res3 D E A k → ¬ O k) : Res w' D E A t d er at_ :=
  ⟨h.d.tch ht (ho D (.inl rfl)), h.e.tch ht (ho E (.inr (.inl rfl))), h.a.tch ht (ho A (.inr (.inr rfl))), h.de, h.ea⟩
theorem Res.below {w w' : World} {D E A : Nat} {t : TypeId} {d er at_ : Value} (h : Res w D E A t d er at_) (hb : Below w.heap.size w w') : Res w' D E A t d er at_ := h.tch (Tch.of_below hb (fun _ => False)) (fun _ _ e => e)

set_option maxRecDepth 100000 in
theorem clr1_any (w : World) (D : Nat) (v : Value) (h : One w D 24 v) : Calls Tryz.prog 30 #[.pointer (some ⟨D, 0, none⟩)] w (Same (.tuple #[]) (w.setCell ⟨D, 0, none⟩ (.slice none 0 0))) := by
  have c0 := h.cell
  have f0 := h.frozen
  have hz := h.lt
  clear h
  go_enter Tryz.func30, Tryz.ntmps30
  go_wp2
  go_end0
  exact ⟨rfl, rfl⟩
set_option maxRecDepth 100000 in
theorem clr2_any (w : World) (D : Nat) (v : Value) (h : One w D 26 v) : Calls Tryz.prog 38 #[.pointer (some ⟨D, 0, none⟩)] w (Same (.tuple #[]) (w.setCell ⟨D, 0, none⟩ (.slice none 0 0))) := by
  have c0 := h.cell
  have f0 := h.frozen
  have hz := h.lt
  clear h
  go_enter Tryz.func38, Tryz.ntmps38
  go_wp2
  go_end0
  exact ⟨rfl, rfl⟩

/-- the results are those of a fault -/
def CaughtP (w : World) (D E A : Nat) (t : TypeId) (x : Fa.Fail) (en : Ending) (w' : World) : Prop :=
  en = .returned (.tuple #[]) ∧ Res w' D E A t (.slice none 0 0) (.int .i64 x.1) (.int .i64 x.2) ∧ Tch (res3 D E A) w w'

theorem caught_cells {w : World} {D E A : Nat} {t : TypeId} {d er at_ : Value} (h : Res w D E A t d er at_) (x : Fa.Fail) :
    Res (w.setCell ⟨D, 0, none⟩ (.slice none 0 0)) D E A t (.slice none 0 0) er at_ ∧ Res (((w.setCell ⟨D, 0, none⟩ (.slice none 0 0)).setCell ⟨E, 0, none⟩ (.int .i64 x.1)).setCell ⟨A, 0, none⟩ (.int .i64 x.2)).drew D E A t (.slice none 0 0) (.int .i64 x.1) (.int .i64 x.2) ∧
      Tch (res3 D E A) w (((w.setCell ⟨D, 0, none⟩ (.slice none 0 0)).setCell ⟨E, 0, none⟩ (.int .i64 x.1)).setCell ⟨A, 0, none⟩ (.int .i64 x.2)).drew := by
  have h1 := h.de
  have h2 := h.ea
  have hr : Res (w.setCell ⟨D, 0, none⟩ (.slice none 0 0)) D E A t (.slice none 0 0) er at_ := ⟨h.d.set _, h.e.other (by show D ≠ E; omega) _, h.a.other (by show D ≠ A; omega) _, h1, h2⟩
  have hT : Tch (res3 D E A) w (w.setCell ⟨D, 0, none⟩ (.slice none 0 0)) := (Tch.refl (res3 D E A) w).setCell (a := ⟨D, 0, none⟩) (.inl (.inl rfl)) _
  have h3 : Res (((w.setCell ⟨D, 0, none⟩ (.slice none 0 0)).setCell ⟨E, 0, none⟩ (.int .i64 x.1)).setCell ⟨A, 0, none⟩ (.int .i64 x.2)) D E A t (.slice none 0 0) (.int .i64 x.1) (.int .i64 x.2) :=
    ⟨(hr.d.other (by show E ≠ D; omega) _).other (by show A ≠ D; omega) _, (hr.e.set _).other (by show A ≠ E; omega) _, (hr.a.other (by show E ≠ A; omega) _).set _, h1, h2⟩
  exact ⟨hr, h3.below (Below.refl _ _).drew, ((hT.setCell (a := ⟨E, 0, none⟩) (.inl (.inr (.inl rfl))) _).setCell (a := ⟨A, 0, none⟩) (.inl (.inr (.inr rfl))) _).step (Below.refl _ _).drew⟩

theorem as_fault (v : Value) (w : World) : (Instr.typeAssert (.iface 95 v) 20 95 false).run Tryz.prog w = .ok v w := by kernel_rfl

set_option maxRecDepth 100000 in
set_option maxHeartbeats 1000000 in
theorem caught_nil (f : Value) (E A : Nat) (w : World) : Calls Tryz.prog 29 #[.nilIface, f, .pointer (some ⟨E, 0, none⟩), .pointer (some ⟨A, 0, none⟩)] w (Same (.tuple #[]) w) := by
  go_enter Tryz.func29, Tryz.ntmps29
  go_wp2
  first | go_end0 | refine bodyPost_ret (results_none rfl _ _ _) rfl ?_
  exact ⟨rfl, rfl⟩

set_option maxRecDepth 100000 in
set_option maxHeartbeats 1000000 in
theorem caught_1 (x : Fa.Fail) (w : World) (D E A : Nat) (d er at_ : Value) (h : Res w D E A 24 d er at_) :
    Calls Tryz.prog 29 #[.iface 95 (.agg #[.int .i64 x.1, .int .i64 x.2]), .func (.func 30) #[] #[.pointer (some ⟨D, 0, none⟩)], .pointer (some ⟨E, 0, none⟩), .pointer (some ⟨A, 0, none⟩)] w (CaughtP w D E A 24 x) := by
  have hta := as_fault
  obtain ⟨W1, hW1⟩ : ∃ W1, W1 = w.alloc (.cells #[.int .i64 x.1, .int .i64 x.2] 95) := ⟨_, rfl⟩
  have hb1 : Below w.heap.size w W1 := by rw [hW1]; exact (Below.refl _ w).alloc (Nat.le_refl _) _
  have hs1 : W1.heap[w.heap.size]? = some (.cells #[.int .i64 x.1, .int .i64 x.2] 95 (0, 0)) := by rw [hW1]; exact alloc_new w _
  have hR1 := h.below hb1
  have HCL := hid (clr1_any W1 D d hR1.d)
  have HR2 := hid (caught_cells hR1 x)
  have hz := h.a.lt
  have hlt := And.intro h.de h.ea
  have HB1 := hid hb1
  obtain ⟨W2, hW2⟩ : ∃ W2, W2 = W1.setCell ⟨D, 0, none⟩ (.slice none 0 0) := ⟨_, rfl⟩
  have hT2 : Tch (res3 D E A) W1 W2 := by rw [hW2]; exact (Tch.refl _ W1).setCell (a := ⟨D, 0, none⟩) (.inl (.inl rfl)) _
  have hs2 : W2.heap[w.heap.size]? = some (.cells #[.int .i64 x.1, .int .i64 x.2] 95 (0, 0)) := (hT2.block _ (Array.getElem?_eq_some_iff.1 hs1).1 (by rintro (e | e | e) <;> omega)).trans hs1
  rw [← hW2] at HCL HR2
  have x0 : W2.cell? ⟨w.heap.size, 0, none⟩ = some (.int .i64 x.1) := by simp [World.cell?, hs2]
  have x1 : W2.cell? ⟨w.heap.size, 1, none⟩ = some (.int .i64 x.2) := by simp [World.cell?, hs2]
  have xz : w.heap.size < W2.heap.size := (Array.getElem?_eq_some_iff.1 hs2).1
  have e0 := HR2.out.1.e.cell
  have e1 := HR2.out.1.e.frozen
  have ez := HR2.out.1.e.lt
  have a0 := HR2.out.1.a.cell
  have a1 := HR2.out.1.a.frozen
  have az := HR2.out.1.a.lt
  have HT2 := hid hT2
  have nea : ¬ E = A := by omega
  have nae : ¬ A = E := by omega
  clear h hs1 hR1 hb1 hW2 hT2 hs2 hlt
  go_enter Tryz.func29, Tryz.ntmps29
  go_wp2_with fail
  rw [← hW1]
  clear hW1
  refine (HCL.out).mono ?_
  rintro en w2 ⟨rfl, rfl⟩
  go_upto_region 3 with (fail)
  go_region
  go_wp2_with fail
  (first | go_end0 | refine bodyPost_ret (results_none rfl _ _ _) rfl ?_)
  exact ⟨rfl, HR2.out.2.1, (Tch.of_below HB1.out _).trans HR2.out.2.2 fun k hk _ => hk⟩

set_option maxRecDepth 100000 in
set_option maxHeartbeats 1000000 in
theorem caught_2 (x : Fa.Fail) (w : World) (D E A : Nat) (d er at_ : Value) (h : Res w D E A 26 d er at_) :
    Calls Tryz.prog 29 #[.iface 95 (.agg #[.int .i64 x.1, .int .i64 x.2]), .func (.func 38) #[] #[.pointer (some ⟨D, 0, none⟩)], .pointer (some ⟨E, 0, none⟩), .pointer (some ⟨A, 0, none⟩)] w (CaughtP w D E A 26 x) := by
  have hta := as_fault
  obtain ⟨W1, hW1⟩ : ∃ W1, W1 = w.alloc (.cells #[.int .i64 x.1, .int .i64 x.2] 95) := ⟨_, rfl⟩
  have hb1 : Below w.heap.size w W1 := by rw [hW1]; exact (Below.refl _ w).alloc (Nat.le_refl _) _
  have hs1 : W1.heap[w.heap.size]? = some (.cells #[.int .i64 x.1, .int .i64 x.2] 95 (0, 0)) := by rw [hW1]; exact alloc_new w _
  have hR1 := h.below hb1
  have HCL := hid (clr2_any W1 D d hR1.d)
  have HR2 := hid (caught_cells hR1 x)
  have hz := h.a.lt
  have hlt := And.intro h.de h.ea
  have HB1 := hid hb1
  obtain ⟨W2, hW2⟩ : ∃ W2, W2 = W1.setCell ⟨D, 0, none⟩ (.slice none 0 0) := ⟨_, rfl⟩
  have hT2 : Tch (res3 D E A) W1 W2 := by rw [hW2]; exact (Tch.refl _ W1).setCell (a := ⟨D, 0, none⟩) (.inl (.inl rfl)) _
  have hs2 : W2.heap[w.heap.size]? = some (.cells #[.int .i64 x.1, .int .i64 x.2] 95 (0, 0)) := (hT2.block _ (Array.getElem?_eq_some_iff.1 hs1).1 (by rintro (e | e | e) <;> omega)).trans hs1
  rw [← hW2] at HCL HR2
  have x0 : W2.cell? ⟨w.heap.size, 0, none⟩ = some (.int .i64 x.1) := by simp [World.cell?, hs2]
  have x1 : W2.cell? ⟨w.heap.size, 1, none⟩ = some (.int .i64 x.2) := by simp [World.cell?, hs2]
  have xz : w.heap.size < W2.heap.size := (Array.getElem?_eq_some_iff.1 hs2).1
  have e0 := HR2.out.1.e.cell
  have e1 := HR2.out.1.e.frozen
  have ez := HR2.out.1.e.lt
  have a0 := HR2.out.1.a.cell
  have a1 := HR2.out.1.a.frozen
  have az := HR2.out.1.a.lt
  have HT2 := hid hT2
  have nea : ¬ E = A := by omega
  have nae : ¬ A = E := by omega
  clear h hs1 hR1 hb1 hW2 hT2 hs2 hlt
  go_enter Tryz.func29, Tryz.ntmps29
  go_wp2_with fail
  rw [← hW1]
  clear hW1
  refine (HCL.out).mono ?_
  rintro en w2 ⟨rfl, rfl⟩
  go_upto_region 3 with (fail)
  go_region
  go_wp2_with fail
  (first | go_end0 | refine bodyPost_ret (results_none rfl _ _ _) rfl ?_)
  exact ⟨rfl, HR2.out.2.1, (Tch.of_below HB1.out _).trans HR2.out.2.2 fun k hk _ => hk⟩

/-- the panic as it stands in a frame -/
def faultV (x : Fa.Fail) : Value := .iface 95 (.agg #[.int .i64 x.1, .int .i64 x.2])

set_option maxRecDepth 100000 in
set_option maxHeartbeats 1000000 in
theorem def1_idle (D E A : Nat) (w : World) : CallsD Tryz.prog 28 #[.pointer (some ⟨D, 0, none⟩), .pointer (some ⟨E, 0, none⟩), .pointer (some ⟨A, 0, none⟩)] .returning w fun e u' w' => e = .returned (.tuple #[]) ∧ u' = .returning ∧ w' = w := by
  have hmf : ∀ (fn : Fn) (first cap : Array Value) (w : World), (Instr.makeFunc fn first cap).run Tryz.prog w = .ok (.func fn first cap) w := fun _ _ _ _ => rfl
  refine callsD_of_wpS Tryz.func28 rfl fun c₀ cs hu => ?_
  apply wpS_region
  simp [wpOpsS, go_sem, recoverD, hu, Tryz.ntmps28]
  refine (caught_nil _ E A w).mono ?_
  rintro e w' ⟨rfl, rfl⟩
  refine ⟨rfl, .returning, ?_, .tuple #[], results_none rfl _ _ _, rfl, rfl, rfl⟩
  rw [← hu]

set_option maxRecDepth 100000 in
set_option maxHeartbeats 1000000 in
theorem def1_caught (D E A : Nat) (w : World) (d er at_ : Value) (h : Res w D E A 24 d er at_) (x : Fa.Fail) : CallsD Tryz.prog 28 #[.pointer (some ⟨D, 0, none⟩), .pointer (some ⟨E, 0, none⟩), .pointer (some ⟨A, 0, none⟩)] (.panicking [{ v := faultV x, recovered := false }]) w
    fun e u' w' => CaughtP w D E A 24 x e w' ∧ u' = .panicking [{ v := faultV x, recovered := true }] := by
  have hmf : ∀ (fn : Fn) (first cap : Array Value) (w : World), (Instr.makeFunc fn first cap).run Tryz.prog w = .ok (.func fn first cap) w := fun _ _ _ _ => rfl
  refine callsD_of_wpS Tryz.func28 rfl fun c₀ cs hu => ?_
  apply wpS_region
  simp [wpOpsS, go_sem, recoverD, hu, Tryz.ntmps28]
  refine (caught_1 x w D E A d er at_ h).mono ?_
  rintro e w' ⟨rfl, h1, h2⟩
  exact ⟨rfl, .panicking [{ v := faultV x, recovered := true }], rfl, .tuple #[], results_none rfl _ _ _, ⟨rfl, h1, h2⟩, rfl⟩

set_option maxRecDepth 100000 in
set_option maxHeartbeats 1000000 in
theorem def2_idle (D E A : Nat) (w : World) : CallsD Tryz.prog 37 #[.pointer (some ⟨D, 0, none⟩), .pointer (some ⟨E, 0, none⟩), .pointer (some ⟨A, 0, none⟩)] .returning w fun e u' w' => e = .returned (.tuple #[]) ∧ u' = .returning ∧ w' = w := by
  have hmf : ∀ (fn : Fn) (first cap : Array Value) (w : World), (Instr.makeFunc fn first cap).run Tryz.prog w = .ok (.func fn first cap) w := fun _ _ _ _ => rfl
  refine callsD_of_wpS Tryz.func37 rfl fun c₀ cs hu => ?_
  apply wpS_region
  simp [wpOpsS, go_sem, recoverD, hu, Tryz.ntmps37]
  refine (caught_nil _ E A w).mono ?_
  rintro e w' ⟨rfl, rfl⟩
  refine ⟨rfl, .returning, ?_, .tuple #[], results_none rfl _ _ _, rfl, rfl, rfl⟩
  rw [← hu]

set_option maxRecDepth 100000 in
set_option maxHeartbeats 1000000 in
theorem def2_caught (D E A : Nat) (w : World) (d er at_ : Value) (h : Res w D E A 26 d er at_) (x : Fa.Fail) : CallsD Tryz.prog 37 #[.pointer (some ⟨D, 0, none⟩), .pointer (some ⟨E, 0, none⟩), .pointer (some ⟨A, 0, none⟩)] (.panicking [{ v := faultV x, recovered := false }]) w
    fun e u' w' => CaughtP w D E A 26 x e w' ∧ u' = .panicking [{ v := faultV x, recovered := true }] := by
  have hmf : ∀ (fn : Fn) (first cap : Array Value) (w : World), (Instr.makeFunc fn first cap).run Tryz.prog w = .ok (.func fn first cap) w := fun _ _ _ _ => rfl
  refine callsD_of_wpS Tryz.func37 rfl fun c₀ cs hu => ?_
  apply wpS_region
  simp [wpOpsS, go_sem, recoverD, hu, Tryz.ntmps37]
  refine (caught_2 x w D E A d er at_ h).mono ?_
  rintro e w' ⟨rfl, h1, h2⟩
  exact ⟨rfl, .panicking [{ v := faultV x, recovered := true }], rfl, .tuple #[], results_none rfl _ _ _, ⟨rfl, h1, h2⟩, rfl⟩

end Go.Proofs.YteogmlgmodeajaaGreatDoor
