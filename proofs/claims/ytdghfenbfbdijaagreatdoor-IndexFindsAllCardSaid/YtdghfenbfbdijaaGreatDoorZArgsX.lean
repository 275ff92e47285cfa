/-
 Arguments of chapter 16's statements, opened: tables, entries, names, texts, numbers. Conditions: none.
-/
import Derived.Test.YtdghfenbfbdijaaGreatDoorZMBase
import Derived.Test.YtdghfenbfbdijaaGreatDoorZMIy
import Derived.Test.YtdghfenbfbdijaaGreatDoorZMAlB
import Derived.OpenShut
namespace Go.Proofs.YtdghfenbfbdijaaGreatDoor
open Go.RowKit Go.ChangeShapes Go.WideShapes Go.Deep
theorem bs_selfX (s : ByteArray) : bs s.data.toList = s := rfl
section
variable {H : Type} {enc : TypeId × Value → H} {w : World} {base : Nat} {spare : Nat → Bool} {held : Bool}
theorem one_int {n : Nat} {u : Value} {z : DataW H × List MemPlace} (h : DataW.trod enc Tryz.prog w base spare held n 3 [u] = some z) : ∃ i,u = .int .i64 i ∧ (Lit.int .i64 i).wf = true := by
 obtain ⟨i,h1,_,h3⟩ := DataW.trod_int Tryz.underlying3 h
 exact ⟨i,by simpa using h1,h3⟩
theorem one_str {n : Nat} {u : Value} {z : DataW H × List MemPlace} (h : DataW.trod enc Tryz.prog w base spare held n 9 [u] = some z) : ∃ l : List UInt8,u = .string (bs l) ∧ l.length ≤ maxLen := by
 obtain ⟨s,h1,_,h3⟩ := DataW.trod_string Tryz.underlying9 h
 exact ⟨s.data.toList,by rw [bs_selfX]; simpa using h1,by simpa using h3⟩
set_option maxRecDepth 100000 in
theorem rule_row (r : List Value) (n : Nat) (y : DataW H × List MemPlace) (h : DataW.trod enc Tryz.prog w base spare held n 71 r = some y) :
  ∃ x : Rw.Rule,r = ruleCells x ∧ ((Lit.int .i64 x.script).wf = true ∧ x.from_.length ≤ maxLen ∧ x.to_.length ≤ maxLen) := by
 obtain ⟨hl,hf⟩ := struct_fields Tryz.underlying71 (by kernel_rfl) (by kernel_rfl) h
 obtain ⟨u0,z0,m0,e0,t0⟩ := hf 0 _ rfl
 obtain ⟨u1,z1,m1,e1,t1⟩ := hf 1 _ rfl
 obtain ⟨u2,z2,m2,e2,t2⟩ := hf 2 _ rfl
 obtain ⟨u3,z3,m3,e3,t3⟩ := hf 3 _ rfl
 obtain ⟨a,rfl,ha⟩ := one_int t0
 obtain ⟨b,rfl,hb⟩ := one_str t1
 obtain ⟨c,rfl,hc⟩ := one_str t2
 obtain ⟨d,rfl,hd⟩ := one_int t3
 match r,hl,e0,e1,e2,e3 with
 | [x0,x1,x2,x3],_,e0,e1,e2,e3 =>
  simp at e0 e1 e2 e3
  subst e0 e1 e2 e3
  exact ⟨⟨a,b,c,d⟩,rfl,ha,hb,hc⟩
set_option maxRecDepth 100000 in
theorem drop_row (r : List Value) (n : Nat) (y : DataW H × List MemPlace) (h : DataW.trod enc Tryz.prog w base spare held n 69 r = some y) :
  ∃ x : Rw.Drop,r = dropCells x ∧ ((Lit.int .i64 x.script).wf = true ∧ x.word.length ≤ maxLen) := by
 obtain ⟨hl,hf⟩ := struct_fields Tryz.underlying69 (by kernel_rfl) (by kernel_rfl) h
 obtain ⟨u0,z0,m0,e0,t0⟩ := hf 0 _ rfl
 obtain ⟨u1,z1,m1,e1,t1⟩ := hf 1 _ rfl
 obtain ⟨u2,z2,m2,e2,t2⟩ := hf 2 _ rfl
 obtain ⟨a,rfl,ha⟩ := one_int t0
 obtain ⟨b,rfl,hb⟩ := one_str t1
 obtain ⟨c,rfl,hc⟩ := one_int t2
 match r,hl,e0,e1,e2 with
 | [x0,x1,x2],_,e0,e1,e2 =>
  simp at e0 e1 e2
  subst e0 e1 e2
  exact ⟨⟨a,b,c⟩,rfl,ha,hb⟩
set_option maxRecDepth 100000 in
theorem open_table {rr : Reach} {b0 : Nat} {v : Value} {d : DataW H} {p : List MemPlace} (hv : Value.okWide Tryz.prog w rr b0 25 v) (h : DataW.Trod enc Tryz.prog w base spare held 25 v d p) : ∃ t,TableRaw w t v := by
 obtain ⟨r,rfl,hl,hf⟩ := open_structV Tryz.underlying25 (by kernel_rfl) (by kernel_rfl) hv h
 obtain ⟨u0,z0,m0,e0,t0⟩ := hf 0 _ rfl
 obtain ⟨u1,z1,m1,e1,t1⟩ := hf 1 _ rfl
 obtain ⟨u2,z2,m2,e2,t2⟩ := hf 2 _ rfl
 obtain ⟨u3,z3,m3,e3,t3⟩ := hf 3 _ rfl
 obtain ⟨u4,z4,m4,e4,t4⟩ := hf 4 _ rfl
 obtain ⟨u5,z5,m5,e5,t5⟩ := hf 5 _ rfl
 obtain ⟨rs,s0,g0⟩ := open_rows (cells := ruleCells) (sz := 4) Tryz.underlying22 (by kernel_rfl) (by decide) (fun _ => rfl) (fun r n y h => rule_row r n y h) t0
 obtain ⟨ds,s1,g1⟩ := open_rows (cells := dropCells) (sz := 3) Tryz.underlying23 (by kernel_rfl) (by decide) (fun _ => rfl) (fun r n y h => drop_row r n y h) t1
 obtain ⟨es,s2,g2⟩ := open_rows (cells := dropCells) (sz := 3) Tryz.underlying23 (by kernel_rfl) (by decide) (fun _ => rfl) (fun r n y h => drop_row r n y h) t2
 obtain ⟨a,rfl,ha⟩ := one_int t3
 obtain ⟨b,rfl,hb⟩ := one_int t4
 obtain ⟨c,rfl,hc⟩ := one_int t5
 match r,hl,e0,e1,e2,e3,e4,e5 with
 | [x0,x1,x2,x3,x4,x5],_,e0,e1,e2,e3,e4,e5 =>
  simp at e0 e1 e2 e3 e4 e5
  subst e0 e1 e2 e3 e4 e5
  exact ⟨⟨rs,ds,es,a,b,c⟩,⟨_,_,_,rfl,s0,s1,s2⟩,g0,g1,g2⟩
set_option maxRecDepth 100000 in
theorem open_i64 {rr : Reach} {b0 : Nat} {v : Value} {d : DataW H} {p : List MemPlace} (hv : Value.okWide Tryz.prog w rr b0 3 v) (h : DataW.Trod enc Tryz.prog w base spare held 3 v d p) : ∃ i,v = .int .i64 i ∧ (Lit.int .i64 i).wf = true := by
 obtain ⟨i,rfl⟩ := okWide_int Tryz.underlying3 hv
 obtain ⟨fuel,hf⟩ := h
 exact one_int hf
end
end Go.Proofs.YtdghfenbfbdijaaGreatDoor
