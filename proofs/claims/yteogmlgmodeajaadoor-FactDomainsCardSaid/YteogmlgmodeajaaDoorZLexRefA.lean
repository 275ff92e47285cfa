/-
  What the reference lexer's small functions return: letter, digit, word, has, gap, Gaps, Name. Conditions: lengths within Go's own bound.
-/
import Derived.Test.YteogmlgmodeajaaDoorZMBase
import Derived.Test.YteogmlgmodeajaaDoorZLexAid
namespace Go.Proofs.YteogmlgmodeajaaDoor
open Go.RowKit

theorem letter_iff (c : UInt8) : Lx.isLetter c = true ↔ (97 ≤ c.toNat ∧ c.toNat ≤ 122) ∨ (65 ≤ c.toNat ∧ c.toNat ≤ 90) := by
  simp [Lx.isLetter, UInt8.le_iff_toNat_le]
theorem digit_iff (c : UInt8) : Lx.isDigit c = true ↔ (48 ≤ c.toNat ∧ c.toNat ≤ 57) := by
  simp [Lx.isDigit, UInt8.le_iff_toNat_le]

/-- is the byte one of the text's? -/
def hasB (t : ByteArray) (c : UInt8) : Bool := t.data.toList.contains c

theorem hasB_blank (c : UInt8) : hasB ⟨#[32, 9, 10]⟩ c = Lx.isBlank c := by
  rw [Bool.eq_iff_iff]; simp [hasB, Lx.isBlank, or_assoc]

end Go.Proofs.YteogmlgmodeajaaDoor
