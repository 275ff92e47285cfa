/-
  Arguments of chapter 24's statements, opened: domains, cases, texts. Conditions: none.
-/
import Derived.Test.YteogmlgmodeajaaGreatDoorZMBase
import Derived.Test.YteogmlgmodeajaaGreatDoorZFaMem
namespace Go.Proofs.YteogmlgmodeajaaGreatDoor
open Go.RowKit Go.ChangeShapes Go.WideShapes Go.Deep

theorem laid_out : laidOutB Tryz.prog = true := by kernel_rfl
theorem bs_own (s : ByteArray) : bs s.data.toList = s := rfl

section
variable {H : Type} {enc : TypeId × Value → H} {w : World} {base : Nat} {spare : Nat → Bool} {held : Bool}

theorem one_int {n : Nat} {u : Value} {z : DataW H × List MemPlace} (h : DataW.trod enc Tryz.prog w base spare held n 3 [u] = some z) : ∃ i, u = .int .i64 i ∧ (Lit.int .i64 i).wf = true := by
  obtain ⟨i, h1, _, h3⟩ := DataW.trod_int Tryz.underlying3 h
  exact ⟨i, by simpa using h1, h3⟩
theorem one_str {n : Nat} {u : Value} {z : DataW H × List MemPlace} (h : DataW.trod enc Tryz.prog w base spare held n 9 [u] = some z) : ∃ l : List UInt8, u = .string (bs l) ∧ l.length ≤ maxLen := by
  obtain ⟨s, h1, _, h3⟩ := DataW.trod_string Tryz.underlying9 h
  exact ⟨s.data.toList, by rw [bs_own]; simpa using h1, by simpa using h3⟩

set_option maxRecDepth 100000 in
theorem fact_row (r : List Value) (n : Nat) (y : DataW H × List MemPlace) (h : DataW.trod enc Tryz.prog w base spare held n 62 r = some y) : ∃ x : Fa.Fact, r = factC x ∧ x.name.length ≤ maxLen := by
  obtain ⟨hl, hf⟩ := struct_fields Tryz.underlying62 (by kernel_rfl) (by kernel_rfl) h
  obtain ⟨u0, z0, m0, e0, t0⟩ := hf 0 _ rfl
  obtain ⟨u1, z1, m1, e1, t1⟩ := hf 1 _ rfl
  obtain ⟨u2, z2, m2, e2, t2⟩ := hf 2 _ rfl
  obtain ⟨u3, z3, m3, e3, t3⟩ := hf 3 _ rfl
  obtain ⟨a, rfl, ha⟩ := one_str t0
  obtain ⟨b, rfl, hb⟩ := one_int t1
  obtain ⟨c, rfl, hc⟩ := one_int t2
  obtain ⟨d, rfl, hd⟩ := one_int t3
  match r, hl, e0, e1, e2, e3 with
  | [x0, x1, x2, x3], _, e0, e1, e2, e3 =>
    simp at e0 e1 e2 e3
    subst e0 e1 e2 e3
    exact ⟨⟨a, b, c, d⟩, rfl, ha⟩

set_option maxRecDepth 100000 in
theorem open_dom {rr : Reach} {b0 : Nat} {v : Value} {d : DataW H} {p : List MemPlace} (hv : Value.okWide Tryz.prog w rr b0 24 v) (h : DataW.Trod enc Tryz.prog w base spare held 24 v d p) : ∃ (x : Fa.Dom) (u : Value), v = .agg #[u] ∧ SlOf w u 4 factC x := by
  obtain ⟨r, rfl, hl, hf⟩ := open_structV Tryz.underlying24 (by kernel_rfl) (by kernel_rfl) hv h
  obtain ⟨u0, z0, m0, e0, t0⟩ := hf 0 _ rfl
  obtain ⟨fs, s0, -⟩ := open_rows (cells := factC) (sz := 4) Tryz.underlying22 (by kernel_rfl) (by decide) (fun _ => rfl) (fun r n y h => fact_row r n y h) t0
  match r, hl, e0 with
  | [x0], _, e0 =>
    simp at e0
    subst e0
    exact ⟨fs, _, rfl, s0⟩

set_option maxRecDepth 100000 in
theorem open_case {rr : Reach} {b0 : Nat} {v : Value} {d : DataW H} {p : List MemPlace} (hv : Value.okWide Tryz.prog w rr b0 26 v) (h : DataW.Trod enc Tryz.prog w base spare held 26 v d p) : ∃ c : List Int, SlOf w v 1 numC c := by
  obtain ⟨a, n, c, rfl, _⟩ := okWide_slice Tryz.underlying26 hv
  obtain ⟨fuel, hf⟩ := h
  obtain ⟨ns, h1, -⟩ := open_rows (cells := numC) (sz := 1) (Good := fun _ => True) Tryz.underlying26 (by kernel_rfl) (by decide) (fun _ => rfl) (fun r n y h => by
    obtain ⟨i, h1, _, _⟩ := DataW.trod_int Tryz.underlying3 h
    exact ⟨i, h1, trivial⟩) hf
  exact ⟨ns, h1⟩

set_option maxRecDepth 100000 in
theorem open_str {rr : Reach} {b0 : Nat} {v : Value} {d : DataW H} {p : List MemPlace} (hv : Value.okWide Tryz.prog w rr b0 9 v) (h : DataW.Trod enc Tryz.prog w base spare held 9 v d p) : ∃ l : List UInt8, v = .string (bs l) ∧ l.length ≤ maxLen := by
  obtain ⟨s, rfl⟩ := okWide_string Tryz.underlying9 hv
  obtain ⟨fuel, hf⟩ := h
  obtain ⟨l, h1, h2⟩ := one_str hf
  exact ⟨l, h1, h2⟩

end
end Go.Proofs.YteogmlgmodeajaaGreatDoor
