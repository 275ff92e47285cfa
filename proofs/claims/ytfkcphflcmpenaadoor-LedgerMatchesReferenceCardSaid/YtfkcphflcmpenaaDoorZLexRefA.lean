/-
  What the reference lexer's small functions return: letter, digit, word, has, gap, Gaps, Name. Conditions: lengths within Go's own bound.
-/
import Derived.Test.YtfkcphflcmpenaaDoorZMBase
import Derived.Test.YtfkcphflcmpenaaDoorZLexAid
namespace Go.Proofs.YtfkcphflcmpenaaDoor
open Go.RowKit

theorem letter_iff (c : UInt8) : Lx.isLetter c = true ↔ (97 ≤ c.toNat ∧ c.toNat ≤ 122) ∨ (65 ≤ c.toNat ∧ c.toNat ≤ 90) := by
  simp [Lx.isLetter, UInt8.le_iff_toNat_le]
theorem digit_iff (c : UInt8) : Lx.isDigit c = true ↔ (48 ≤ c.toNat ∧ c.toNat ≤ 57) := by
  simp [Lx.isDigit, UInt8.le_iff_toNat_le]

set_option maxHeartbeats 400000 in
theorem letter_any (c : UInt8) (w : World) : Calls Tryd.prog 39 #[.int .u8 c.toNat] w (Same (.bool (Lx.isLetter c)) w) := by
  go_enter Tryd.func39, Tryd.ntmps39
  go_wp2
  all_goals (go_ret; refine ⟨ret_bool ?_, rfl⟩; rw [Bool.eq_iff_iff, letter_iff]; simp only [Bool.or_eq_true, decide_eq_true_eq, true_iff, false_iff, Bool.false_eq_true]; omega)

set_option maxHeartbeats 400000 in
theorem digit_any (c : UInt8) (w : World) : Calls Tryd.prog 46 #[.int .u8 c.toNat] w (Same (.bool (Lx.isDigit c)) w) := by
  go_enter Tryd.func46, Tryd.ntmps46
  go_wp2
  all_goals (go_ret; refine ⟨ret_bool ?_, rfl⟩; rw [Bool.eq_iff_iff, digit_iff]; simp only [decide_eq_true_eq, false_iff, Bool.false_eq_true]; omega)

set_option maxHeartbeats 400000 in
theorem word_any (c : UInt8) (w : World) : Calls Tryd.prog 38 #[.int .u8 c.toNat] w (Same (.bool (Lx.isWord c)) w) := by
  go_enter Tryd.func38, Tryd.ntmps38
  go_wp2_with (first
    | (go_at_call 39; refine (letter_any _ _).mono ?_; rintro e w' ⟨rfl, rfl⟩)
    | (go_at_call 46; refine (digit_any _ _).mono ?_; rintro e w' ⟨rfl, rfl⟩))
  all_goals (go_ret; refine ⟨ret_bool ?_, rfl⟩; simp [Lx.isWord, *])
  all_goals exact u8_beq c 95

/-- is the byte one of the text's? -/
def hasB (t : ByteArray) (c : UInt8) : Bool := t.data.toList.contains c

theorem hasB_blank (c : UInt8) : hasB ⟨#[32, 9, 10]⟩ c = Lx.isBlank c := by
  rw [Bool.eq_iff_iff]; simp [hasB, Lx.isBlank, or_assoc]

end Go.Proofs.YtfkcphflcmpenaaDoor
