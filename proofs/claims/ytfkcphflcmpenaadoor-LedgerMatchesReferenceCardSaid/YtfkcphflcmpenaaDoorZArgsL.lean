/-
  Arguments of chapter 37's statements, opened: texts, bookings, numbers. Conditions: none.
-/
import Derived.Test.YtfkcphflcmpenaaDoorZMBase
import Derived.Test.YtfkcphflcmpenaaDoorZLedMem
namespace Go.Proofs.YtfkcphflcmpenaaDoor
open Go.RowKit Go.ChangeShapes Go.WideShapes Go.Deep

theorem laid_out : laidOutB Tryd.prog = true := by kernel_rfl

def strCs (s : ByteArray) : List Value := [.string s]

section
variable {H : Type} {enc : TypeId × Value → H} {w : World} {base : Nat} {spare : Nat → Bool} {held : Bool}

theorem one_int {n : Nat} {u : Value} {z : DataW H × List MemPlace} (h : DataW.trod enc Tryd.prog w base spare held n 3 [u] = some z) : ∃ i, u = .int .i64 i ∧ (Lit.int .i64 i).wf = true := by
  obtain ⟨i, h1, _, h3⟩ := DataW.trod_int Tryd.underlying3 h
  exact ⟨i, by simpa using h1, h3⟩
theorem one_str {n : Nat} {u : Value} {z : DataW H × List MemPlace} (h : DataW.trod enc Tryd.prog w base spare held n 9 [u] = some z) : ∃ s : ByteArray, u = .string s ∧ s.size ≤ maxLen := by
  obtain ⟨s, h1, _, h3⟩ := DataW.trod_string Tryd.underlying9 h
  exact ⟨s, by simpa using h1, by simpa using h3⟩

set_option maxRecDepth 100000 in
theorem post_row (r : List Value) (n : Nat) (y : DataW H × List MemPlace) (h : DataW.trod enc Tryd.prog w base spare held n 47 r = some y) : ∃ x : ByteArray × Int, r = postC x ∧ (x.1.size ≤ maxLen ∧ (Lit.int .i64 x.2).wf = true) := by
  obtain ⟨hl, hf⟩ := struct_fields Tryd.underlying47 (by kernel_rfl) (by kernel_rfl) h
  obtain ⟨u0, z0, m0, e0, t0⟩ := hf 0 _ rfl
  obtain ⟨u1, z1, m1, e1, t1⟩ := hf 1 _ rfl
  obtain ⟨a, rfl, ha⟩ := one_str t0
  obtain ⟨b, rfl, hb⟩ := one_int t1
  match r, hl, e0, e1 with
  | [x0, x1], _, e0, e1 =>
    simp at e0 e1
    subst e0 e1
    exact ⟨(a, b), rfl, ha, hb⟩

theorem sl_is {u : Value} {sz : Nat} {α : Type} {cells : α → List Value} {l : List α} (h : SlOf w u sz cells l) : ∃ a c, u = .slice a l.length c := by
  obtain ⟨a, c, h1, _⟩ := h; exact ⟨a, c, h1⟩

/-- a booking as an argument -/
def BkGood (w : World) (x : Lg.Bk × Value) : Prop := SlOf w x.2 2 postC x.1.posts ∧ x.1.id.size ≤ maxLen ∧ (Lit.int .i64 x.1.at_).wf = true ∧ ∀ p ∈ x.1.posts, (Lit.int .i64 p.2).wf = true

set_option maxRecDepth 100000 in
theorem book_rowA (r : List Value) (n : Nat) (y : DataW H × List MemPlace) (h : DataW.trod enc Tryd.prog w base spare held n 36 r = some y) : ∃ x : Lg.Bk × Value, r = bookC x ∧ BkGood w x := by
  obtain ⟨hl, hf⟩ := struct_fields Tryd.underlying36 (by kernel_rfl) (by kernel_rfl) h
  obtain ⟨u0, z0, m0, e0, t0⟩ := hf 0 _ rfl
  obtain ⟨u1, z1, m1, e1, t1⟩ := hf 1 _ rfl
  obtain ⟨u2, z2, m2, e2, t2⟩ := hf 2 _ rfl
  obtain ⟨a, rfl, ha⟩ := one_str t0
  obtain ⟨b, rfl, hb⟩ := one_int t1
  obtain ⟨ps, s0, g0⟩ := open_rows (cells := postC) (sz := 2) Tryd.underlying34 (by kernel_rfl) (by decide) (fun _ => rfl) (fun r n y h => post_row r n y h) t2
  match r, hl, e0, e1, e2 with
  | [x0, x1, x2], _, e0, e1, e2 =>
    simp at e0 e1 e2
    subst e0 e1 e2
    exact ⟨(⟨a, b, ps⟩, _), rfl, s0, ha, hb, fun p hp => (g0 p hp).2⟩

set_option maxRecDepth 100000 in
theorem open_strs {rr : Reach} {b0 : Nat} {v : Value} {d : DataW H} {p : List MemPlace} (hv : Value.okWide Tryd.prog w rr b0 22 v) (h : DataW.Trod enc Tryd.prog w base spare held 22 v d p) : ∃ ns : List ByteArray, SlOf w v 1 strCs ns := by
  obtain ⟨a, n, c, rfl, _⟩ := okWide_slice Tryd.underlying22 hv
  obtain ⟨fuel, hf⟩ := h
  obtain ⟨ns, h1, _⟩ := open_rows (cells := strCs) (sz := 1) (Good := fun _ => True) Tryd.underlying22 (by kernel_rfl) (by decide) (fun _ => rfl) (fun r n y h => by
    obtain ⟨s, h1, _, _⟩ := DataW.trod_string Tryd.underlying9 h
    exact ⟨s, h1, trivial⟩) hf
  exact ⟨ns, h1⟩

set_option maxRecDepth 100000 in
theorem open_books {rr : Reach} {b0 : Nat} {v : Value} {d : DataW H} {p : List MemPlace} (hv : Value.okWide Tryd.prog w rr b0 24 v) (h : DataW.Trod enc Tryd.prog w base spare held 24 v d p) : ∃ bs : List (Lg.Bk × Value), SlOf w v 3 bookC bs ∧ ∀ q ∈ bs, BkGood w q := by
  obtain ⟨a, n, c, rfl, _⟩ := okWide_slice Tryd.underlying24 hv
  obtain ⟨fuel, hf⟩ := h
  exact open_rows (cells := bookC) (sz := 3) Tryd.underlying24 (by kernel_rfl) (by decide) (fun _ => rfl) (fun r n y h => book_rowA r n y h) hf

set_option maxRecDepth 100000 in
theorem open_book {rr : Reach} {b0 : Nat} {v : Value} {d : DataW H} {p : List MemPlace} (hv : Value.okWide Tryd.prog w rr b0 36 v) (h : DataW.Trod enc Tryd.prog w base spare held 36 v d p) : ∃ x : Lg.Bk × Value, v = bookV x ∧ BkGood w x := by
  obtain ⟨cs, rfl, hsz⟩ := okWide_struct Tryd.underlying36 hv
  obtain ⟨fuel, hf⟩ := h
  obtain ⟨l⟩ := cs
  obtain ⟨x, h1, h2⟩ := book_rowA _ _ _ hf
  have h1' : l = bookC x := h1
  subst h1'
  exact ⟨x, rfl, h2⟩

set_option maxRecDepth 100000 in
theorem open_i64 {rr : Reach} {b0 : Nat} {v : Value} {d : DataW H} {p : List MemPlace} (hv : Value.okWide Tryd.prog w rr b0 3 v) (h : DataW.Trod enc Tryd.prog w base spare held 3 v d p) : ∃ i, v = .int .i64 i ∧ (Lit.int .i64 i).wf = true := by
  obtain ⟨i, rfl⟩ := okWide_int Tryd.underlying3 hv
  obtain ⟨fuel, hf⟩ := h
  exact one_int hf

set_option maxRecDepth 100000 in
theorem open_u16 {rr : Reach} {b0 : Nat} {v : Value} {d : DataW H} {p : List MemPlace} (hv : Value.okWide Tryd.prog w rr b0 23 v) (h : DataW.Trod enc Tryd.prog w base spare held 23 v d p) : ∃ c : Nat, v = .int .u16 c ∧ c < 65536 := by
  obtain ⟨i, rfl⟩ := okWide_int Tryd.underlying23 hv
  obtain ⟨fuel, hf⟩ := h
  obtain ⟨j, h1, _, h3⟩ := DataW.trod_int Tryd.underlying23 hf
  have h1' : [Value.int .u16 i] = [Value.int .u16 j] := h1
  cases h1'
  have : 0 ≤ i ∧ i < 65536 := by
    simp [Lit.wf, IntKind.min, IntKind.max, IntKind.signed, IntKind.bits] at h3
    omega
  refine ⟨i.toNat, ?_, by omega⟩
  rw [Int.toNat_of_nonneg this.1]

end
end Go.Proofs.YtfkcphflcmpenaaDoor
