/-
  Arguments of chapter 39's statements, opened: lists, changes, texts, numbers. Conditions: none.
-/
import Derived.Test.YtidkmhokolknbaaGreatDoorZMBase
import Derived.Test.YtidkmhokolknbaaGreatDoorZMLiS
namespace Go.Proofs.YtidkmhokolknbaaGreatDoor
open Go.RowKit Go.ChangeShapes Go.WideShapes Go.Deep

theorem laid_out : laidOutB Tryz.prog = true := by kernel_rfl
theorem bs_own (s : ByteArray) : bs s.data.toList = s := rfl

section
variable {H : Type} {enc : TypeId × Value → H} {w : World} {base : Nat} {spare : Nat → Bool} {held : Bool}

theorem one_int {n : Nat} {u : Value} {z : DataW H × List MemPlace} (h : DataW.trod enc Tryz.prog w base spare held n 3 [u] = some z) : ∃ i, u = .int .i64 i ∧ (Lit.int .i64 i).wf = true := by
  obtain ⟨i, h1, _, h3⟩ := DataW.trod_int Tryz.underlying3 h
  exact ⟨i, by simpa using h1, h3⟩
theorem one_bool {n : Nat} {u : Value} {z : DataW H × List MemPlace} (h : DataW.trod enc Tryz.prog w base spare held n 4 [u] = some z) : ∃ b, u = .bool b := by
  obtain ⟨b, h1, _⟩ := DataW.trod_bool Tryz.underlying4 h
  exact ⟨b, by simpa using h1⟩
theorem one_str {n : Nat} {u : Value} {z : DataW H × List MemPlace} (h : DataW.trod enc Tryz.prog w base spare held n 9 [u] = some z) : ∃ l : List UInt8, u = .string (bs l) ∧ l.length ≤ maxLen := by
  obtain ⟨s, h1, _, h3⟩ := DataW.trod_string Tryz.underlying9 h
  exact ⟨s.data.toList, by rw [bs_own]; simpa using h1, by simpa using h3⟩

/-- a struct's fields, of however many cells -/
theorem struct_parts {P : Program} {t : TypeId} {fs : Array Field} {n : Nat} {r : List Value} {y : DataW H × List MemPlace} (hs : P.underlying t = some (.struct fs)) (h : DataW.trod enc P w base spare held n t r = some y) :
    r.length = P.cellsOf t ∧ ∀ (j : Nat) (f : Field), fs[j]? = some f → ∃ z m, DataW.trod enc P w base spare held m f.type ((r.drop f.offset).take (P.cellsOf f.type)) = some z := by
  obtain ⟨xs, m, _, _, hl, hxl, hf⟩ := DataW.trod_struct hs h
  refine ⟨hl, fun j f hj => ?_⟩
  have h1 := hf j f hj
  exact ⟨_, m, h1.trans (List.getElem?_eq_getElem (by rw [hxl]; exact (Array.getElem?_eq_some_iff.1 hj).1))⟩

set_option maxRecDepth 100000 in
theorem name_row (r : List Value) (n : Nat) (y : DataW H × List MemPlace) (h : DataW.trod enc Tryz.prog w base spare held n 73 r = some y) : ∃ p : Li.Nm × Value, r = nmC p ∧ NmAt w p := by
  obtain ⟨hl, hf⟩ := struct_fields Tryz.underlying73 (by kernel_rfl) (by kernel_rfl) h
  obtain ⟨u0, z0, m0, e0, t0⟩ := hf 0 _ rfl
  obtain ⟨u1, z1, m1, e1, t1⟩ := hf 1 _ rfl
  obtain ⟨k, rfl, -⟩ := one_int t0
  obtain ⟨ws, s1, -⟩ := open_rows (cells := strC) (sz := 1) (Good := fun _ => True) Tryz.underlying68 (by kernel_rfl) (by decide) (fun _ => rfl) (fun r n y h => by
    obtain ⟨s, h1, _, _⟩ := DataW.trod_string Tryz.underlying9 h
    exact ⟨s.data.toList, h1, trivial⟩) t1
  match r, hl, e0, e1 with
  | [x0, x1], _, e0, e1 =>
    simp at e0 e1
    subst e0 e1
    exact ⟨(⟨k, ws⟩, _), rfl, s1⟩

set_option maxRecDepth 100000 in
theorem entry_row (r : List Value) (n : Nat) (y : DataW H × List MemPlace) (h : DataW.trod enc Tryz.prog w base spare held n 25 r = some y) : ∃ p : Li.En × Value, r = enC p ∧ NmsRin w p.2 p.1.names := by
  obtain ⟨hl, hf⟩ := struct_fields Tryz.underlying25 (by kernel_rfl) (by kernel_rfl) h
  obtain ⟨u0, z0, m0, e0, t0⟩ := hf 0 _ rfl
  obtain ⟨u1, z1, m1, e1, t1⟩ := hf 1 _ rfl
  obtain ⟨a, rfl, -⟩ := one_str t0
  obtain ⟨ps, s1, g1⟩ := open_rows (cells := nmC) (sz := 2) Tryz.underlying23 (by kernel_rfl) (by decide) (fun _ => rfl) (fun r n y h => name_row r n y h) t1
  match r, hl, e0, e1 with
  | [x0, x1], _, e0, e1 =>
    simp at e0 e1
    subst e0 e1
    exact ⟨(⟨a, ps.map Prod.fst⟩, _), rfl, ps, rfl, s1, g1⟩

set_option maxRecDepth 100000 in
theorem listed_row (r : List Value) (n : Nat) (y : DataW H × List MemPlace) (h : DataW.trod enc Tryz.prog w base spare held n 50 r = some y) : ∃ p : Li.Ls × Value, r = lsC p ∧ NmsRin w p.2 p.1.en.names := by
  obtain ⟨hl, hf⟩ := struct_parts Tryz.underlying50 h
  rw [show Tryz.prog.cellsOf 50 = 5 by kernel_rfl] at hl
  obtain ⟨z0, m0, t0⟩ := hf 0 _ rfl
  obtain ⟨z1, m1, t1⟩ := hf 1 _ rfl
  obtain ⟨z2, m2, t2⟩ := hf 2 _ rfl
  obtain ⟨z3, m3, t3⟩ := hf 3 _ rfl
  replace t0 : DataW.trod enc Tryz.prog w base spare held m0 25 ((r.drop 0).take (Tryz.prog.cellsOf 25)) = some z0 := t0
  replace t1 : DataW.trod enc Tryz.prog w base spare held m1 3 ((r.drop 2).take (Tryz.prog.cellsOf 3)) = some z1 := t1
  replace t2 : DataW.trod enc Tryz.prog w base spare held m2 3 ((r.drop 3).take (Tryz.prog.cellsOf 3)) = some z2 := t2
  replace t3 : DataW.trod enc Tryz.prog w base spare held m3 4 ((r.drop 4).take (Tryz.prog.cellsOf 4)) = some z3 := t3
  rw [show Tryz.prog.cellsOf 25 = 2 by kernel_rfl] at t0
  rw [show Tryz.prog.cellsOf 3 = 1 by kernel_rfl] at t1 t2
  rw [show Tryz.prog.cellsOf 4 = 1 by kernel_rfl] at t3
  match r, hl with
  | [x0, x1, x2, x3, x4], _ =>
    obtain ⟨⟨⟨id, ns⟩, u⟩, e0, g0⟩ := entry_row _ _ _ t0
    obtain ⟨a, rfl, -⟩ := one_int t1
    obtain ⟨b, rfl, -⟩ := one_int t2
    obtain ⟨c, rfl⟩ := one_bool t3
    have e0' : [x0, x1] = [.string (bs id), u] := e0
    simp at e0'
    obtain ⟨rfl, rfl⟩ := e0'
    exact ⟨(⟨⟨id, ns⟩, a, b, c⟩, x1), rfl, g0⟩

set_option maxRecDepth 100000 in
theorem change_row (r : List Value) (n : Nat) (y : DataW H × List MemPlace) (h : DataW.trod enc Tryz.prog w base spare held n 27 r = some y) : ∃ p : Li.Ch × Value, r = chC p ∧ NmsRin w p.2 p.1.en.names := by
  obtain ⟨hl, hf⟩ := struct_parts Tryz.underlying27 h
  rw [show Tryz.prog.cellsOf 27 = 5 by kernel_rfl] at hl
  obtain ⟨z0, m0, t0⟩ := hf 0 _ rfl
  obtain ⟨z1, m1, t1⟩ := hf 1 _ rfl
  obtain ⟨z2, m2, t2⟩ := hf 2 _ rfl
  obtain ⟨z3, m3, t3⟩ := hf 3 _ rfl
  replace t0 : DataW.trod enc Tryz.prog w base spare held m0 3 ((r.drop 0).take (Tryz.prog.cellsOf 3)) = some z0 := t0
  replace t1 : DataW.trod enc Tryz.prog w base spare held m1 9 ((r.drop 1).take (Tryz.prog.cellsOf 9)) = some z1 := t1
  replace t2 : DataW.trod enc Tryz.prog w base spare held m2 25 ((r.drop 2).take (Tryz.prog.cellsOf 25)) = some z2 := t2
  replace t3 : DataW.trod enc Tryz.prog w base spare held m3 3 ((r.drop 4).take (Tryz.prog.cellsOf 3)) = some z3 := t3
  rw [show Tryz.prog.cellsOf 25 = 2 by kernel_rfl] at t2
  rw [show Tryz.prog.cellsOf 3 = 1 by kernel_rfl] at t0 t3
  rw [show Tryz.prog.cellsOf 9 = 1 by kernel_rfl] at t1
  match r, hl with
  | [x0, x1, x2, x3, x4], _ =>
    obtain ⟨k, rfl, -⟩ := one_int t0
    obtain ⟨i, rfl, -⟩ := one_str t1
    obtain ⟨⟨⟨id, ns⟩, u⟩, e0, g0⟩ := entry_row _ _ _ t2
    obtain ⟨a, rfl, -⟩ := one_int t3
    have e0' : [x2, x3] = [.string (bs id), u] := e0
    simp at e0'
    obtain ⟨rfl, rfl⟩ := e0'
    exact ⟨(⟨k, i, ⟨id, ns⟩, a⟩, x3), rfl, g0⟩

set_option maxRecDepth 100000 in
theorem open_lss {rr : Reach} {b0 : Nat} {v : Value} {d : DataW H} {p : List MemPlace} (hv : Value.okWide Tryz.prog w rr b0 22 v) (h : DataW.Trod enc Tryz.prog w base spare held 22 v d p) : ∃ ps : List (Li.Ls × Value), LssRaw w v ps := by
  obtain ⟨a, n, c, rfl, _⟩ := okWide_slice Tryz.underlying22 hv
  obtain ⟨fuel, hf⟩ := h
  obtain ⟨ps, h1, h2⟩ := open_rows (cells := lsC) (sz := 5) Tryz.underlying22 (by kernel_rfl) (by decide) (fun _ => rfl) (fun r n y h => listed_row r n y h) hf
  exact ⟨ps, h1, h2⟩

set_option maxRecDepth 100000 in
theorem open_chs {rr : Reach} {b0 : Nat} {v : Value} {d : DataW H} {p : List MemPlace} (hv : Value.okWide Tryz.prog w rr b0 28 v) (h : DataW.Trod enc Tryz.prog w base spare held 28 v d p) : ∃ ps : List (Li.Ch × Value), SlOf w v 5 chC ps ∧ ∀ p ∈ ps, NmsRin w p.2 p.1.en.names := by
  obtain ⟨a, n, c, rfl, _⟩ := okWide_slice Tryz.underlying28 hv
  obtain ⟨fuel, hf⟩ := h
  exact open_rows (cells := chC) (sz := 5) Tryz.underlying28 (by kernel_rfl) (by decide) (fun _ => rfl) (fun r n y h => change_row r n y h) hf

set_option maxRecDepth 100000 in
theorem open_ch {rr : Reach} {b0 : Nat} {v : Value} {d : DataW H} {p : List MemPlace} (hv : Value.okWide Tryz.prog w rr b0 27 v) (h : DataW.Trod enc Tryz.prog w base spare held 27 v d p) :
    ∃ (kd : Int) (id eid : List UInt8) (ns : List Li.Nm) (u : Value) (at_ : Int), v = .agg #[.int .i64 kd, .string (bs id), .string (bs eid), u, .int .i64 at_] ∧ NmsRin w u ns := by
  obtain ⟨cs, rfl, hsz⟩ := okWide_struct Tryz.underlying27 hv
  obtain ⟨fuel, hf⟩ := h
  obtain ⟨l⟩ := cs
  obtain ⟨⟨⟨k, i, ⟨e, ns⟩, a⟩, u⟩, h1, h2⟩ := change_row _ _ _ hf
  have h1' : l = chC (⟨k, i, ⟨e, ns⟩, a⟩, u) := h1
  subst h1'
  exact ⟨k, i, e, ns, u, a, rfl, h2⟩

set_option maxRecDepth 100000 in
theorem open_i64 {rr : Reach} {b0 : Nat} {v : Value} {d : DataW H} {p : List MemPlace} (hv : Value.okWide Tryz.prog w rr b0 3 v) (h : DataW.Trod enc Tryz.prog w base spare held 3 v d p) : ∃ i, v = .int .i64 i ∧ (Lit.int .i64 i).wf = true := by
  obtain ⟨i, rfl⟩ := okWide_int Tryz.underlying3 hv
  obtain ⟨fuel, hf⟩ := h
  exact one_int hf

set_option maxRecDepth 100000 in
theorem open_str {rr : Reach} {b0 : Nat} {v : Value} {d : DataW H} {p : List MemPlace} (hv : Value.okWide Tryz.prog w rr b0 9 v) (h : DataW.Trod enc Tryz.prog w base spare held 9 v d p) : ∃ l : List UInt8, v = .string (bs l) ∧ l.length ≤ maxLen := by
  obtain ⟨s, rfl⟩ := okWide_string Tryz.underlying9 hv
  obtain ⟨fuel, hf⟩ := h
  obtain ⟨l, h1, h2⟩ := one_str hf
  exact ⟨l, h1, h2⟩

end
end Go.Proofs.YtidkmhokolknbaaGreatDoor
