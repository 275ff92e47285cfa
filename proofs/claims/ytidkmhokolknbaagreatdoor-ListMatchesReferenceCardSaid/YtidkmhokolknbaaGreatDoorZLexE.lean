/-
  What 'classes' returns: the classes of all 256 bytes; what it does to memory: new blocks alone. Conditions: none.
-/
import Derived.Test.YtidkmhokolknbaaGreatDoorZLexD
namespace Go.Proofs.YtidkmhokolknbaaGreatDoor
open Go.RowKit

/-- the array with these bytes' cells set -/
def setCls (cs : Array Value) (l : List UInt8) (c : Int) : Array Value := l.foldl (fun a x => a.setIfInBounds x.toNat (.int .i64 c)) cs

theorem setCls_size (cs : Array Value) (l : List UInt8) (c : Int) : (setCls cs l c).size = cs.size := by
  unfold setCls
  induction l generalizing cs with
  | nil => rfl
  | cons x l ih => rw [List.foldl_cons, ih]; simp

theorem setCls_snoc (cs : Array Value) (l : List UInt8) (x : UInt8) (c : Int) : setCls cs (l ++ [x]) c = (setCls cs l c).setIfInBounds x.toNat (.int .i64 c) := by
  simp [setCls]

/-- memory is as it was, but for block g, which holds these cells -/
structure RowAt (w w' : World) (g : Nat) (cs : Array Value) (T : TypeId) : Prop where
  os : w'.os = w.os
  tape : w'.tape = w.tape
  output : w'.output = w.output
  size : w'.heap.size = w.heap.size
  block : ∀ k, k ≠ g → w'.heap[k]? = w.heap[k]?
  row : w'.heap[g]? = some (.cells cs T (0, 0))

theorem heap_setCell_row {w : World} {g i : Nat} {cs : Array Value} {T : TypeId} {v : Value} (h : w.heap[g]? = some (.cells cs T (0, 0))) :
    (w.setCell ⟨g, i, none⟩ v).heap[g]? = some (.cells (cs.setIfInBounds i v) T (0, 0)) := by
  rw [setCell_eq_setRow w g i cs T (0, 0) v h]
  exact setRow_heap w g cs _ T (0, 0) h

theorem RowAt.set {w w' : World} {g i : Nat} {cs : Array Value} {T : TypeId} {v : Value} (h : RowAt w w' g cs T) : RowAt w (w'.setCell ⟨g, i, none⟩ v) g (cs.setIfInBounds i v) T :=
  ⟨h.os, h.tape, h.output, by simp [World.setCell, h.size], fun k hk => by rw [Below.heap_setCell _ _ _ _ (by simpa using hk), h.block k hk], heap_setCell_row h.row⟩

theorem RowAt.refl {w : World} {g : Nat} {cs : Array Value} {T : TypeId} (h : w.heap[g]? = some (.cells cs T (0, 0))) : RowAt w w g cs T := ⟨rfl, rfl, rfl, rfl, fun _ _ => rfl, h⟩

def SetPost (w : World) (g : Nat) (cs : Array Value) (e : Ending) (w' : World) : Prop := e = .returned (.tuple #[]) ∧ RowAt w w' g cs 103 ∧ cs.size = 256

set_option maxRecDepth 100000 in
set_option maxHeartbeats 800000 in
theorem set_any (s : ByteArray) (c : Int) (g : Nat) (cs : Array Value) (w : World) (hg : w.heap[g]? = some (.cells cs 103 (0, 0))) (hsz : cs.size = 256) (hm : s.size ≤ maxLen) :
    Calls Tryz.prog 90 #[.string s, .int .i64 c, .pointer (some ⟨g, 0, none⟩)] w (SetPost w g (setCls cs s.data.toList c)) := by
  unfold maxLen at hm
  have hR := RowAt.refl hg
  have hsz' := hid hsz
  clear hg hsz
  go_enter Tryz.func90, Tryz.ntmps90
  go_wp2
  go_loopw [5] (fun i wr => ∃ k : Nat, k ≤ s.size ∧ i = .int .i64 k ∧ RowAt w wr g (setCls cs (s.data.toList.take k) c) 103) (fun i _ => s.size - (intOf i).toNat)
  case atStart => exact ⟨0, Nat.zero_le _, rfl, hR⟩
  case round =>
    obtain ⟨k, hk, rfl, hr⟩ := hrel
    by_cases hlt : k < s.size
    · have HT := hid (show s.data.toList.take (k + 1) = s.data.toList.take k ++ [s[k]] by
        rw [List.take_succ_eq_append_getElem (by simpa using hlt)]; rfl)
      have hlen : s[k].toNat < (setCls cs (s.data.toList.take k) c).size := by rw [setCls_size, hsz'.out]; exact s[k].toNat_lt
      obtain ⟨v, hv⟩ : ∃ v, (setCls cs (s.data.toList.take k) c)[s[k].toNat]? = some v := ⟨_, Array.getElem?_eq_getElem hlen⟩
      have h1 := (cell_of_row wr g s[k].toNat _ _ _ hr.row).trans hv
      have h2 := frozen_of_row wr g s[k].toNat _ _ hr.row
      have hr2 := hr.set (i := s[k].toNat) (v := .int .i64 c)
      rw [← setCls_snoc, ← HT.out] at hr2
      have hr3 := hid hr2
      clear hr hv HT hr2 hlen
      have h3 : ((s[k].toNat : Nat) : Int) < 256 := by have := s[k].toNat_lt; omega
      have h4 : (0 : Int) ≤ ((s[k].toNat : Nat) : Int) := by omega
      go_wp2
      go_roundw
      case rel => exact ⟨k + 1, by omega, by go_num, hr3⟩
      case measure => simp [intOf]; omega
    · go_wp2
      go_end0
      exact ⟨rfl, by rw [List.take_of_length_le (by simp; omega)] at hr; exact hr, (setCls_size _ _ _).trans hsz'.out⟩


/-- 256 zeros -/
def z256 : Array Value := Array.replicate 256 (.int .i64 0)
theorem z256_size : z256.size = 256 := by simp [z256]

theorem Tryz.infoArr : (Tryz.prog.info? 103).map (fun i => (i.zero, i.size)) = some (some (.agg z256), 256) := by kernel_rfl

/-- the nine calls together -/
theorem cls_all : setCls (setCls (setCls (setCls (setCls (setCls (setCls (setCls (setCls z256
    [97, 98, 99, 100, 101, 102, 103, 104, 105, 106, 107, 108, 109, 110, 111, 112, 113, 114, 115, 116, 117, 118, 119, 120, 121, 122, 65, 66, 67, 68, 69, 70, 71, 72, 73, 74, 75, 76, 77, 78, 79, 80, 81, 82, 83, 84, 85, 86, 87, 88, 89, 90] 3)
    [48, 49, 50, 51, 52, 53, 54, 55, 56, 57] 4) [95] 5) [32, 9, 10] 1) [35] 2) [34] 6) [33] 7) [60, 62] 8) [59, 44, 46, 58, 40, 41, 91, 93, 123, 125, 61, 43, 45] 9 = clsA := by kernel_rfl

attribute [irreducible] z256

/-- a variable of an array's type -/
theorem wpList_alloc_agg {P : Program} {ops : Array Oper} {rest : List Oper} {o : Oper} {a : Act} {w : World} {Q : Exit → Act → World → Prop} (hgd : o.guard = none) (T : TypeId) (ho : o.op = .alloc T)
    (Z : Array Value) (n : Nat) (hz : (P.info? T).map (fun i => (i.zero, i.size)) = some (some (.agg Z), n))
    (h : wpList P ops Q rest (a.put o.dst (.pointer (some ⟨w.heap.size, 0, none⟩))) (w.alloc (.cells Z T))) : wpList P ops Q (o :: rest) a w :=
  wpList_plain hgd fun K hK => by
    obtain ⟨i, hi, hh⟩ := Option.map_eq_some_iff.1 hz
    simp only [Prod.mk.injEq] at hh
    have e : (Instr.alloc T true (.tuple #[])).run P w = .ok (.pointer (some ⟨w.heap.size, 0, none⟩)) (w.alloc (.cells Z T)) := by
      simp [Instr.alloc, zeroValue, typeInfo, hi, hh.1, newVar, newRow, Value.cells]
    unfold Oper.wp execOp
    simp only [ho, Sem.run_bind, e]
    exact hK _ _ h

theorem clsA_info : (Tryz.prog.info? 103).map (·.size) = some clsA.size := by
  rw [clsA_size]; kernel_rfl
theorem clsA_one : clsA.all (·.oneCell') = true := by
  rw [← cls_all]; kernel_rfl

def ClsPost (w : World) (e : Ending) (w' : World) : Prop := e = .returned (.agg clsA) ∧ Below w.heap.size w w'

theorem RowAt.below {w w' : World} {g B : Nat} {cs : Array Value} {T : TypeId} (h : RowAt w w' g cs T) (hB : B ≤ g) : Below B w w' :=
  ⟨h.os, h.tape, h.output, by rw [h.size]; exact Nat.le_refl _, fun k hk => h.block k (by omega)⟩

set_option maxRecDepth 100000 in
set_option maxHeartbeats 1600000 in
theorem classes_any (w : World) : Calls Tryz.prog 71 #[] w (ClsPost w) := by
  go_enter Tryz.func71, Tryz.ntmps71
  go_wp2_with (refine wpList_alloc_agg rfl 103 rfl z256 256 Tryz.infoArr ?_)
  have r0 : ((w.alloc (.cells z256 103)).alloc (.cells z256 103)).heap[w.heap.size + 1]? = some (.cells z256 103 (0, 0)) := by
    have := heap_alloc_new (w.alloc (.cells z256 103)) (.cells z256 103)
    simpa using this
  refine (set_any _ 3 _ _ _ r0 z256_size (by decide)).mono ?_
  rintro e w1 ⟨rfl, r1, s1⟩
  go_wp2_with fail
  refine (set_any _ 4 _ _ _ r1.row s1 (by decide)).mono ?_
  rintro e w2 ⟨rfl, r2, s2⟩
  go_wp2_with fail
  refine (set_any _ 5 _ _ _ r2.row s2 (by decide)).mono ?_
  rintro e w3 ⟨rfl, r3, s3⟩
  go_wp2_with fail
  refine (set_any _ 1 _ _ _ r3.row s3 (by decide)).mono ?_
  rintro e w4 ⟨rfl, r4, s4⟩
  go_wp2_with fail
  refine (set_any _ 2 _ _ _ r4.row s4 (by decide)).mono ?_
  rintro e w5 ⟨rfl, r5, s5⟩
  go_wp2_with fail
  refine (set_any _ 6 _ _ _ r5.row s5 (by decide)).mono ?_
  rintro e w6 ⟨rfl, r6, s6⟩
  go_wp2_with fail
  refine (set_any _ 7 _ _ _ r6.row s6 (by decide)).mono ?_
  rintro e w7 ⟨rfl, r7, s7⟩
  go_wp2_with fail
  refine (set_any _ 8 _ _ _ r7.row s7 (by decide)).mono ?_
  rintro e w8 ⟨rfl, r8, s8⟩
  go_wp2_with fail
  refine (set_any _ 9 _ _ _ r8.row s8 (by decide)).mono ?_
  rintro e w9 ⟨rfl, r9, s9⟩
  rw [show setCls (setCls (setCls (setCls (setCls (setCls (setCls (setCls (setCls z256 _ 3) _ 4) _ 5) _ 1) _ 2) _ 6) _ 7) _ 8) _ 9 = clsA from cls_all] at r9
  have rz : w9.heap[w.heap.size]? = some (.cells z256 103 (0, 0)) := by
    rw [r9.block _ (by omega), r8.block _ (by omega), r7.block _ (by omega), r6.block _ (by omega), r5.block _ (by omega), r4.block _ (by omega), r3.block _ (by omega), r2.block _ (by omega), r1.block _ (by omega), Below.heap_alloc _ _ _ (by simp), heap_alloc_new]
  have hbw : Below w.heap.size w w9 :=
    ((((((((((((Below.refl _ w).alloc (Nat.le_refl _) _).alloc (by simp) _).trans (r1.below (by omega))).trans (r2.below (by omega))).trans (r3.below (by omega))).trans (r4.below (by omega))).trans (r5.below (by omega))).trans (r6.below (by omega))).trans (r7.below (by omega))).trans (r8.below (by omega))).trans (r9.below (by omega)))
  have hrow := r9.row
  clear r0 r1 r2 r3 r4 r5 r6 r7 r8 r9 s1 s2 s3 s4 s5 s6 s7 s8 s9
  go_wp2_with (first
    | (refine wpList_load_row rfl 103 _ rfl (w.heap.size + 1) rfl 103 clsA (0, 0) _ hrow Tryz.underlying103 rfl clsA_info ?_)
    | (refine wpList_store_row rfl 103 _ _ rfl w.heap.size clsA rfl rfl 103 z256 rz clsA_info (z256_size.trans clsA_size.symm) clsA_one ?_))
  refine bodyPost_ret (results_cell_row rfl _ _ w.heap.size 103 clsA (0, 0) _ rfl (setRow_heap _ _ _ _ _ _ rz) Tryz.underlying103 rfl clsA_info) rfl ⟨rfl, ?_⟩
  exact hbw.trans ⟨rfl, rfl, rfl, by simp, fun k hk => setRow_other _ _ _ _ (by omega)⟩

end Go.Proofs.YtidkmhokolknbaaGreatDoor
