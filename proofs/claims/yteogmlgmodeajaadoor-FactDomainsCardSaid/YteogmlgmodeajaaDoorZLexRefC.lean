/-
  What the reference lexer's 'next' returns at a digit, and at every byte. Conditions: the offset lies in the text; lengths within Go's own bound.
-/
import Derived.Test.YteogmlgmodeajaaDoorZLexRefB
namespace Go.Proofs.YteogmlgmodeajaaDoor
open Go.RowKit

theorem u8_sub48 {c : UInt8} (h : Lx.isDigit c = true) : 48 ≤ (c.toNat : Int) ∧ (c.toNat : Int) ≤ 57 := by
  have := (digit_iff c).1 h
  omega

/-- the number that the digits from k to m make -/
def numAt (t : ByteArray) (k m : Nat) : Nat := Lx.value ((t.data.toList.drop k).take (m - k))
theorem numAt_self (t : ByteArray) (k : Nat) : numAt t k k = 0 := by simp [numAt, Lx.value]
theorem numAt_step {t : ByteArray} {k m : Nat} (hkm : k ≤ m) (hm : m < t.size) : numAt t k (m + 1) = 10 * numAt t k m + (t[m].toNat - 48) :=
  Lx.value_step (l := t.data.toList) (by simpa using hm) hkm
theorem num_digit {t : ByteArray} {k j m : Nat} (hE : Lx.run Lx.isDigit t.data.toList k = j) (hkm : k ≤ m) (hlt : m < j) (hm : m < t.size) : Lx.isDigit t[m] = true :=
  Lx.digit_in (l := t.data.toList) hkm (by rw [hE]; exact hlt) (by simpa using hm)
theorem num_lt {t : ByteArray} {k j m : Nat} (hE : Lx.run Lx.isDigit t.data.toList k = j) (h13 : j - k ≤ 13) (hm : m ≤ j) : (numAt t k m : Int) < 10000000000000 := by
  have := Lx.value_bound (l := t.data.toList) (k := k) (m := m) (by rw [hE]; exact hm) (by rw [hE]; omega)
  unfold numAt
  omega

theorem numAt_stepZ {t : ByteArray} {k m : Nat} (hkm : k ≤ m) (hm : m < t.size) (h48 : 48 ≤ (t[m].toNat : Int)) : (numAt t k (m + 1) : Int) = 10 * (numAt t k m : Int) + ((t[m].toNat : Int) - 48) := by
  rw [numAt_step hkm hm]; omega

end Go.Proofs.YteogmlgmodeajaaDoor
