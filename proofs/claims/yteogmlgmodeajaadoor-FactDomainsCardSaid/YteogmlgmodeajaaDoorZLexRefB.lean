/-
  What the reference lexer's 'next' returns: the token at an offset as the plain lexer has it. Conditions: the offset lies in the text; lengths within Go's own bound.
-/
import Derived.Test.YteogmlgmodeajaaDoorZLexRefA
namespace Go.Proofs.YteogmlgmodeajaaDoor
open Go.RowKit

/-- a token as a value -/
def tokV (at_ : Nat) (t : Lx.Tk) : Value := .agg #[.int .i64 t.kind, .int .i64 at_, .int .i64 t.n, .string (bs t.text)]
def tok0 : Value := .agg #[.int .i64 0, .int .i64 0, .int .i64 0, .string ⟨#[]⟩]
/-- what 'next' of the reference returns -/
def rnextV (at_ : Nat) : Except Nat Lx.Tk → Value
  | .ok t => .tuple #[tokV at_ t, .int .i64 0]
  | .error e => .tuple #[tok0, .int .i64 e]

theorem rnext_done {k : Nat} {w w' : World} {r x : Except Nat Lx.Tk} {v : Value} (h : r = x) (hv : v = rnextV k x) (hb : Below w.heap.size w w') :
    Gives (rnextV k r) w (.returned v) w' := by
  subst h; subst hv; exact ⟨rfl, hb⟩

theorem hasB_mark (c : UInt8) : hasB ⟨#[33, 60, 62]⟩ c = true ↔ (c = 33 ∨ Lx.isAngle c = true) := by
  simp [hasB, Lx.isAngle]
theorem hasB_sym (c : UInt8) : hasB ⟨#[59, 44, 46, 58, 40, 41, 91, 93, 123, 125, 61, 60, 62, 43, 45]⟩ c = true ↔ (Lx.isAngle c = true ∨ Lx.isPlain c = true) := by
  simp only [hasB, Lx.isAngle, Lx.isPlain, List.contains_iff_mem, List.mem_cons, List.not_mem_nil, or_false, Bool.or_eq_true, beq_iff_eq]
  grind

end Go.Proofs.YteogmlgmodeajaaDoor
