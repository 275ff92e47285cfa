/-
 The reference's Same, SameDrops of chapter 10: true of equal tables. Conditions: lengths.
-/
import Derived.Test.YtdchjacccmajcaaGreatDoorZMRn
import Derived.Test.YtdchjacccmajcaaGreatDoorZMRew
namespace Go.Proofs.YtdchjacccmajcaaGreatDoor
open Go.RowKit Go.Lib Go.Maps

set_option maxRecDepth 100000 in
set_option maxHeartbeats 4000000 in
theorem sameDrops_true (a : List Rw.Drop) (va vb : Value) (w : World) (ha : SlOf w va 3 dropCells a) (hb : SlOf w vb 3 dropCells a) : Calls Tryz.prog 70 #[va, vb] w (Gives (.bool true) w) := by
 have HA := hid ha
 have HB := hid hb
 obtain ⟨aa, ca, rfl, ya, za, -⟩ := ha
 obtain ⟨ab, cb, rfl, -, zb, -⟩ := hb
 unfold maxLen at za zb
 have yb : a.length ≤ 9223372036854775807 := by omega
 go_enter Tryz.func70, Tryz.ntmps70
 go_wp2_with fail
 go_loopw [5] (fun iv wr => ∃ k : Nat, k ≤ a.length ∧ iv = .int .i64 k ∧ Hid (Below w.heap.size w wr)) (fun iv _ => a.length - (RowKit.intOf iv).toNat)
 case atStart => exact ⟨0, Nat.zero_le _, rfl, Below.refl _ _⟩
 case round =>
  obtain ⟨k, hk, rfl, HR⟩ := hrel
  by_cases hlt : k < a.length
  ·obtain ⟨x, hx⟩ : ∃ x, a[k]? = some x := ⟨_, List.getElem?_eq_getElem (by omega)⟩
   obtain ⟨ga, oa, rfl, z1, e1⟩ := rn_cell (HA.out.below HR.out) hx
   obtain ⟨gb, ob, rfl, z2, e2⟩ := rn_cell (HB.out.below HR.out) hx
   have c0 := e1 0 _ rfl
   have c1 := e1 1 _ rfl
   have c2 := e1 2 _ rfl
   have d0 := e2 0 _ rfl
   have d1 := e2 1 _ rfl
   have d2 := e2 2 _ rfl
   rw [Nat.add_zero] at c0 d0
   have k0 : (0 : Int) ≤ (k : Int) := by omega
   have k1 : (k : Int) < (a.length : Int) := by omega
   clear hx e1 e2
   go_wp2_with fail
   go_region
   go_wp2_with fail
   go_roundw
   case rel => exact ⟨k + 1, by omega, by go_num, HR.out.drew⟩
   case measure => simp [RowKit.intOf]; omega
  ·have k1 : ¬ (k : Int) < (a.length : Int) := by omega
   go_wp2_with fail
   go_ret
   exact ⟨rfl, HR.out⟩

set_option maxRecDepth 100000 in
set_option maxHeartbeats 8000000 in
theorem same10_true (t : Rw.Table) (va vb : Value) (w : World) (ha : TableAt w t va) (hb : TableAt w t vb) : Calls Tryz.prog 34 #[va, vb] w (Gives (.bool true) w) := by
 obtain ⟨⟨ar, ad, ae, rfl, s1, s2, s3⟩, -, -, -, -⟩ := ha
 obtain ⟨⟨br, bd, be, rfl, u1, u2, u3⟩, -, -, -, -⟩ := hb
 have S1 := hid s1
 have S2 := hid s2
 have S3 := hid s3
 have U1 := hid u1
 have U2 := hid u2
 have U3 := hid u3
 obtain ⟨xr, yr, rfl, yb, za, -⟩ := s1
 obtain ⟨xs, ys, rfl, -, zb, -⟩ := u1
 unfold maxLen at za zb
 have yb : t.rules.length ≤ 9223372036854775807 := by omega
 clear s2 s3 u2 u3
 obtain ⟨A1, hA1⟩ : ∃ X, X = w.alloc (.cells #[.slice xr t.rules.length yr, ad, ae, .int .i64 t.drop, .int .i64 t.order, .int .i64 t.initial] 25) := ⟨_, rfl⟩
 obtain ⟨W1, hW1⟩ : ∃ X, X = A1.alloc (.cells #[.slice xs t.rules.length ys, bd, be, .int .i64 t.drop, .int .i64 t.order, .int .i64 t.initial] 25) := ⟨_, rfl⟩
 have hbA : Below w.heap.size w A1 := by rw [hA1]; exact (Below.refl _ w).alloc (Nat.le_refl _) _
 have hbW : Below A1.heap.size A1 W1 := by rw [hW1]; exact (Below.refl _ A1).alloc (Nat.le_refl _) _
 have hz : A1.heap.size = w.heap.size + 1 := by rw [hA1, World.size_alloc]
 have HX := hid (show W1.heap[w.heap.size]? = some (.cells #[.slice xr t.rules.length yr, ad, ae, .int .i64 t.drop, .int .i64 t.order, .int .i64 t.initial] 25 (0, 0)) from (hbW.block _ (by omega)).trans (by rw [hA1]; exact alloc_new w _))
 have HY := hid (show W1.heap[w.heap.size + 1]? = some (.cells #[.slice xs t.rules.length ys, bd, be, .int .i64 t.drop, .int .i64 t.order, .int .i64 t.initial] 25 (0, 0)) by rw [← hz, hW1]; exact alloc_new A1 _)
 have HB1 := hid (Below.step hbA hbW)
 have HXC : Hid (∀ X, Below W1.heap.size W1 X → ∀ (j : Nat) (v : Value), (#[.slice xr t.rules.length yr, ad, ae, .int .i64 t.drop, .int .i64 t.order, .int .i64 t.initial] : Array Value)[j]? = some v → X.cell? ⟨w.heap.size, j, none⟩ = some v ∧ w.heap.size < X.heap.size) := fun X hX j v hj => by
  have h := (hX.block _ (Array.getElem?_eq_some_iff.1 HX.out).1).trans HX.out
  exact ⟨by simp only [World.cell?, h]; exact hj, (Array.getElem?_eq_some_iff.1 h).1⟩
 have HYC : Hid (∀ X, Below W1.heap.size W1 X → ∀ (j : Nat) (v : Value), (#[.slice xs t.rules.length ys, bd, be, .int .i64 t.drop, .int .i64 t.order, .int .i64 t.initial] : Array Value)[j]? = some v → X.cell? ⟨w.heap.size + 1, j, none⟩ = some v ∧ w.heap.size + 1 < X.heap.size) := fun X hX j v hj => by
  have h := (hX.block _ (Array.getElem?_eq_some_iff.1 HY.out).1).trans HY.out
  exact ⟨by simp only [World.cell?, h]; exact hj, (Array.getElem?_eq_some_iff.1 h).1⟩
 have HA1 := hid hA1
 clear hbA hbW hz
 go_enter Tryz.func34, Tryz.ntmps34
 obtain ⟨x0, xl⟩ := HXC.out W1 (Below.refl _ _) 0 _ rfl
 obtain ⟨x1, -⟩ := HXC.out W1 (Below.refl _ _) 1 _ rfl
 obtain ⟨x2, -⟩ := HXC.out W1 (Below.refl _ _) 2 _ rfl
 obtain ⟨y0, yl⟩ := HYC.out W1 (Below.refl _ _) 0 _ rfl
 obtain ⟨y1, -⟩ := HYC.out W1 (Below.refl _ _) 1 _ rfl
 obtain ⟨y2, -⟩ := HYC.out W1 (Below.refl _ _) 2 _ rfl
 go_upto_region 1 with (fail)
 rw [← hA1, ← hW1]
 clear hW1 hA1
 have D1 := hid (sameDrops_true t.drops ad bd W1 (S2.out.below HB1.out) (U2.out.below HB1.out))
 go_wp2_with fail
 refine (D1.out).mono ?_
 rintro e W2 ⟨rfl, hb2⟩
 have HB2 := hid hb2
 clear hb2 x0 x1 x2 y0 y1 y2 xl yl D1
 obtain ⟨x0, xl⟩ := HXC.out W2 HB2.out 0 _ rfl
 obtain ⟨x2, -⟩ := HXC.out W2 HB2.out 2 _ rfl
 obtain ⟨y0, yl⟩ := HYC.out W2 HB2.out 0 _ rfl
 obtain ⟨y2, -⟩ := HYC.out W2 HB2.out 2 _ rfl
 have D2 := hid (sameDrops_true t.ends ae be W2 (S3.out.below (Below.step HB1.out HB2.out)) (U3.out.below (Below.step HB1.out HB2.out)))
 go_wp2_with fail
 refine (D2.out).mono ?_
 rintro e W3 ⟨rfl, hb3⟩
 have HB3 := hid (Below.step HB2.out hb3)
 clear hb3 x0 x2 y0 y2 xl yl D2
 go_wp2_with fail
 go_loopw [5] (fun iv wr => ∃ k : Nat, k ≤ t.rules.length ∧ iv = .int .i64 k ∧ Hid (Below W1.heap.size W1 wr)) (fun iv _ => t.rules.length - (RowKit.intOf iv).toNat)
 case atStart => exact ⟨0, Nat.zero_le _, rfl, HB3⟩
 case round =>
  obtain ⟨k, hk, rfl, HR⟩ := hrel
  obtain ⟨x0, xl⟩ := HXC.out wr HR.out 0 _ rfl
  obtain ⟨y0, yl⟩ := HYC.out wr HR.out 0 _ rfl
  have HBX := hid (Below.step HB1.out HR.out)
  by_cases hlt : k < t.rules.length
  ·obtain ⟨x, hx⟩ : ∃ x, t.rules[k]? = some x := ⟨_, List.getElem?_eq_getElem (by omega)⟩
   obtain ⟨ga, oa, rfl, z1, e1⟩ := rn_cell (S1.out.below HBX.out) hx
   obtain ⟨gb, ob, rfl, z2, e2⟩ := rn_cell (U1.out.below HBX.out) hx
   have c0 := e1 0 _ rfl
   have c1 := e1 1 _ rfl
   have c2 := e1 2 _ rfl
   have c3 := e1 3 _ rfl
   have d0 := e2 0 _ rfl
   have d1 := e2 1 _ rfl
   have d2 := e2 2 _ rfl
   have d3 := e2 3 _ rfl
   rw [Nat.add_zero] at c0 d0
   have k0 : (0 : Int) ≤ (k : Int) := by omega
   have k1 : (k : Int) < (t.rules.length : Int) := by omega
   clear hx e1 e2
   go_wp2_with fail
   go_region
   go_wp2_with fail
   go_roundw
   case rel => exact ⟨k + 1, by omega, by go_num, HR.out.drew⟩
   case measure => simp [RowKit.intOf]; omega
  ·have k1 : ¬ (k : Int) < (t.rules.length : Int) := by omega
   obtain ⟨x3, -⟩ := HXC.out wr HR.out 3 _ rfl
   obtain ⟨x4, -⟩ := HXC.out wr HR.out 4 _ rfl
   obtain ⟨x5, -⟩ := HXC.out wr HR.out 5 _ rfl
   obtain ⟨y3, -⟩ := HYC.out wr HR.out 3 _ rfl
   obtain ⟨y4, -⟩ := HYC.out wr HR.out 4 _ rfl
   obtain ⟨y5, -⟩ := HYC.out wr HR.out 5 _ rfl
   go_wp2_with fail
   go_ret
   exact ⟨by simp, HBX.out⟩

end Go.Proofs.YtdchjacccmajcaaGreatDoor
