/-
  Two ledgers side by side, the program's and the reference's: what a call on one leaves of the other. Conditions: lengths.
-/
import Derived.Test.YtfkcphflcmpenaaDoorZLed10
import Derived.Test.YtfkcphflcmpenaaDoorZLed12
import Derived.Test.YtfkcphflcmpenaaDoorZMRef
import Derived.Test.YtfkcphflcmpenaaDoorZLed20
namespace Go.Proofs.YtfkcphflcmpenaaDoor
open Go.RowKit Go.Lib Go.Maps

/-- both stand, apart from each other and from all that was there at w1 -/
def Two (w1 w : World) (p q : Nat) (S T : Lg.S) : Prop :=
  ∃ O R, Led w p S O ∧ RLed w q T R ∧ (∀ k, O k → ¬ R k) ∧ Below w1.heap.size w1 w ∧ (∀ k, O k → w1.heap.size ≤ k) ∧ ∀ k, R k → w1.heap.size ≤ k

def TPost (w1 : World) (p q : Nat) (v : Value) (S T : Lg.S) (e : Ending) (w' : World) : Prop := e = .returned v ∧ Two w1 w' p q S T

theorem RLed.lt {w : World} {p : Nat} {S : Lg.S} {O : Nat → Prop} (h : RLed w p S O) {k : Nat} (hk : O k) : k < w.heap.size := by
  obtain ⟨vn, vc, vb, bs, h⟩ := h
  exact h.lt k hk

section
variable {w1 w w' : World} {p q : Nat} {S T S' T' : Lg.S} {v : Value} {e : Ending}

theorem Two.base (h : Two w1 w p q S T) : Below w1.heap.size w1 w := by
  obtain ⟨O, R, _, _, _, h, _⟩ := h
  exact h
theorem Two.below (h : Two w1 w p q S T) (hb : Below w.heap.size w w') : Two w1 w' p q S T := by
  obtain ⟨O, R, h1, h2, h3, h4, h5, h6⟩ := h
  exact ⟨O, R, h1.below hb, h2.below hb, h3, Below.step h4 hb, h5, h6⟩
theorem Two.left (h : Two w1 w p q S T) : ∃ O, Led w p S O := by
  obtain ⟨O, R, h1, _⟩ := h
  exact ⟨O, h1⟩
theorem Two.right (h : Two w1 w p q S T) : ∃ R, RLed w q T R := by
  obtain ⟨O, R, _, h1, _⟩ := h
  exact ⟨R, h1⟩
def TwoAt (w1 w : World) (p q : Nat) (S T : Lg.S) (O R : Nat → Prop) : Prop :=
  Led w p S O ∧ RLed w q T R ∧ (∀ k, O k → ¬ R k) ∧ Below w1.heap.size w1 w ∧ (∀ k, O k → w1.heap.size ≤ k) ∧ ∀ k, R k → w1.heap.size ≤ k
theorem TwoAt.a {O R : Nat → Prop} (h : TwoAt w1 w p q S T O R) (H : LPost p O w v S' e w') : TPost w1 p q v S' T e w' := by
  obtain ⟨h1, h2, h3, h4, h5, h6⟩ := h
  obtain ⟨he, O', g1, g2, g3⟩ := H
  refine ⟨he, O', R, g1, h2.tch g2 (fun k hk e => h3 k e hk), fun k hk hr => ?_, ⟨g2.os.trans h4.os, g2.tape.trans h4.tape, g2.output.trans h4.output, Nat.le_trans h4.size g2.size, fun k hk => (g2.block k (Nat.lt_of_lt_of_le hk h4.size) (fun e => by have := h5 k e; omega)).trans (h4.block k hk)⟩, fun k hk => ?_, h6⟩
  · rcases g3 k hk with g | g
    · exact h3 k g hr
    · have := h2.lt hr; omega
  · rcases g3 k hk with g | g
    · exact h5 k g
    · exact Nat.le_trans h4.size g
theorem TwoAt.b {O R : Nat → Prop} (h : TwoAt w1 w p q S T O R) (H : RPost q R w v T' e w') : TPost w1 p q v S T' e w' := by
  obtain ⟨h1, h2, h3, h4, h5, h6⟩ := h
  obtain ⟨he, R', g1, g2, g3⟩ := H
  refine ⟨he, O, R', h1.tch g2 (fun k hk e => h3 k hk e), g1, fun k hk hr => ?_, ⟨g2.os.trans h4.os, g2.tape.trans h4.tape, g2.output.trans h4.output, Nat.le_trans h4.size g2.size, fun k hk => (g2.block k (Nat.lt_of_lt_of_le hk h4.size) (fun e => by have := h6 k e; omega)).trans (h4.block k hk)⟩, h5, fun k hk => ?_⟩
  · rcases g3 k hr with g | g
    · exact h3 k hk g
    · have := h1.lt hk; omega
  · rcases g3 k hk with g | g
    · exact h6 k g
    · exact Nat.le_trans h4.size g

theorem open_a {x : ByteArray} {c : Bool} (h : Two w1 w p q S T) (ha : x.size ≤ 5000) (hf : S.names.length < 100) :
    Calls Tryd.prog 13 #[.pointer (some ⟨p, 0, none⟩), .string x, .bool c] w (TPost w1 p q (.int .i64 (Lg.open_ S x c).1) (Lg.open_ S x c).2 T) := by
  obtain ⟨O, R, h⟩ := h
  exact (open_any w p S O x c h.1 ha hf).mono fun e w' h3 => TwoAt.a h h3
theorem open_b {x : ByteArray} {c : Bool} (h : Two w1 w p q S T) (ha : x.size ≤ 5000) (hf : T.names.length < 100) :
    Calls Tryd.prog 14 #[.pointer (some ⟨q, 0, none⟩), .string x, .bool c] w (TPost w1 p q (.int .i64 (Lg.open_ T x c).1) S (Lg.open_ T x c).2) := by
  obtain ⟨O, R, h⟩ := h
  exact (ropen_any w q T R x c h.2.1 ha hf).mono fun e w' h3 => TwoAt.b h h3
theorem book_a {b : Lg.Bk} {vp : Value} (h : Two w1 w p q S T) (hv : SlOf w1 vp 2 postC b.posts) (h1 : b.id.size ≤ 5000) (h2 : ∀ q ∈ b.posts, q.1.size ≤ 5000) (hf : S.books.length < 1000) :
    Calls Tryd.prog 15 #[.pointer (some ⟨p, 0, none⟩), bookV (b, vp)] w (TPost w1 p q (.int .i64 (Lg.code S b)) (Lg.book S b) T) := by
  have hv' := hv.below h.base
  obtain ⟨O, R, h⟩ := h
  exact (book_any w p S O b vp h.1 hv' h1 h2 hf).mono fun e w' h3 => TwoAt.a h h3
theorem book_b {b : Lg.Bk} {vp : Value} (h : Two w1 w p q S T) (hv : SlOf w1 vp 2 postC b.posts) (h1 : b.id.size ≤ 5000) (hf : T.books.length < 1000) :
    Calls Tryd.prog 16 #[.pointer (some ⟨q, 0, none⟩), bookV (b, vp)] w (TPost w1 p q (.int .i64 (Lg.code T b)) S (Lg.book T b)) := by
  have hv' := hv.below h.base
  obtain ⟨O, R, h⟩ := h
  exact (rbook_any w q T R b vp h.2.1 hv' h1 hf).mono fun e w' h3 => TwoAt.b h h3

end
end Go.Proofs.YtfkcphflcmpenaaDoor
