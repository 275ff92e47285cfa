/-
  Several texts in one: ZLexRefA, ZLexRefB, ZLexRefC, ZLexRefD. Conditions: as each law says.
-/
import Derived.Test.YtidkmhokolknbaaGreatDoorZMBase
import Derived.Test.YtidkmhokolknbaaGreatDoorZLexAid
import Derived.Test.YtidkmhokolknbaaGreatDoorZLexLoop
namespace Go.Proofs.YtidkmhokolknbaaGreatDoor
open Go.RowKit

theorem letter_iff (c : UInt8) : Lx.isLetter c = true ↔ (97 ≤ c.toNat ∧ c.toNat ≤ 122) ∨ (65 ≤ c.toNat ∧ c.toNat ≤ 90) := by
  simp [Lx.isLetter, UInt8.le_iff_toNat_le]
theorem digit_iff (c : UInt8) : Lx.isDigit c = true ↔ (48 ≤ c.toNat ∧ c.toNat ≤ 57) := by
  simp [Lx.isDigit, UInt8.le_iff_toNat_le]

set_option maxHeartbeats 400000 in
theorem letter_any (c : UInt8) (w : World) : Calls Tryz.prog 84 #[.int .u8 c.toNat] w (Same (.bool (Lx.isLetter c)) w) := by
  go_enter Tryz.func84, Tryz.ntmps84
  go_wp2
  all_goals (go_ret; refine ⟨ret_bool ?_, rfl⟩; rw [Bool.eq_iff_iff, letter_iff]; simp only [Bool.or_eq_true, decide_eq_true_eq, true_iff, false_iff, Bool.false_eq_true]; omega)

set_option maxHeartbeats 400000 in
theorem digit_any (c : UInt8) (w : World) : Calls Tryz.prog 101 #[.int .u8 c.toNat] w (Same (.bool (Lx.isDigit c)) w) := by
  go_enter Tryz.func101, Tryz.ntmps101
  go_wp2
  all_goals (go_ret; refine ⟨ret_bool ?_, rfl⟩; rw [Bool.eq_iff_iff, digit_iff]; simp only [decide_eq_true_eq, false_iff, Bool.false_eq_true]; omega)

set_option maxHeartbeats 400000 in
theorem word_any (c : UInt8) (w : World) : Calls Tryz.prog 83 #[.int .u8 c.toNat] w (Same (.bool (Lx.isWord c)) w) := by
  go_enter Tryz.func83, Tryz.ntmps83
  go_wp2_with (first
    | (go_at_call 84; refine (letter_any _ _).mono ?_; rintro e w' ⟨rfl, rfl⟩)
    | (go_at_call 101; refine (digit_any _ _).mono ?_; rintro e w' ⟨rfl, rfl⟩))
  all_goals (go_ret; refine ⟨ret_bool ?_, rfl⟩; simp [Lx.isWord, *])
  all_goals exact u8_beq c 95

/-- is the byte one of the text's? -/
def hasB (t : ByteArray) (c : UInt8) : Bool := t.data.toList.contains c

theorem hasB_blank (c : UInt8) : hasB ⟨#[32, 9, 10]⟩ c = Lx.isBlank c := by
  rw [Bool.eq_iff_iff]; simp [hasB, Lx.isBlank, or_assoc]

end Go.Proofs.YtidkmhokolknbaaGreatDoor

namespace Go.Proofs.YtidkmhokolknbaaGreatDoor
open Go.RowKit

/-- a token as a value -/
def tokV (at_ : Nat) (t : Lx.Tk) : Value := .agg #[.int .i64 t.kind, .int .i64 at_, .int .i64 t.n, .string (bs t.text)]
def tok0 : Value := .agg #[.int .i64 0, .int .i64 0, .int .i64 0, .string ⟨#[]⟩]
/-- what 'next' of the reference returns -/
def rnextV (at_ : Nat) : Except Nat Lx.Tk → Value
  | .ok t => .tuple #[tokV at_ t, .int .i64 0]
  | .error e => .tuple #[tok0, .int .i64 e]

theorem rnext_done {k : Nat} {w w' : World} {r x : Except Nat Lx.Tk} {v : Value} (h : r = x) (hv : v = rnextV k x) (hb : Below w.heap.size w w') :
    Gives (rnextV k r) w (.returned v) w' := by
  subst h; subst hv; exact ⟨rfl, hb⟩

theorem hasB_mark (c : UInt8) : hasB ⟨#[33, 60, 62]⟩ c = true ↔ (c = 33 ∨ Lx.isAngle c = true) := by
  simp [hasB, Lx.isAngle]
theorem hasB_sym (c : UInt8) : hasB ⟨#[59, 44, 46, 58, 40, 41, 91, 93, 123, 125, 61, 60, 62, 43, 45]⟩ c = true ↔ (Lx.isAngle c = true ∨ Lx.isPlain c = true) := by
  simp only [hasB, Lx.isAngle, Lx.isPlain, List.contains_iff_mem, List.mem_cons, List.not_mem_nil, or_false, Bool.or_eq_true, beq_iff_eq]
  grind

end Go.Proofs.YtidkmhokolknbaaGreatDoor

namespace Go.Proofs.YtidkmhokolknbaaGreatDoor
open Go.RowKit

theorem u8_sub48 {c : UInt8} (h : Lx.isDigit c = true) : 48 ≤ (c.toNat : Int) ∧ (c.toNat : Int) ≤ 57 := by
  have := (digit_iff c).1 h
  omega

/-- the number that the digits from k to m make -/
def numAt (t : ByteArray) (k m : Nat) : Nat := Lx.value ((t.data.toList.drop k).take (m - k))
theorem numAt_self (t : ByteArray) (k : Nat) : numAt t k k = 0 := by simp [numAt, Lx.value]
theorem numAt_step {t : ByteArray} {k m : Nat} (hkm : k ≤ m) (hm : m < t.size) : numAt t k (m + 1) = 10 * numAt t k m + (t[m].toNat - 48) :=
  Lx.value_step (l := t.data.toList) (by simpa using hm) hkm
theorem num_digit {t : ByteArray} {k j m : Nat} (hE : Lx.run Lx.isDigit t.data.toList k = j) (hkm : k ≤ m) (hlt : m < j) (hm : m < t.size) : Lx.isDigit t[m] = true :=
  Lx.digit_in (l := t.data.toList) hkm (by rw [hE]; exact hlt) (by simpa using hm)
theorem num_lt {t : ByteArray} {k j m : Nat} (hE : Lx.run Lx.isDigit t.data.toList k = j) (h13 : j - k ≤ 13) (hm : m ≤ j) : (numAt t k m : Int) < 10000000000000 := by
  have := Lx.value_bound (l := t.data.toList) (k := k) (m := m) (by rw [hE]; exact hm) (by rw [hE]; omega)
  unfold numAt
  omega

theorem numAt_stepZ {t : ByteArray} {k m : Nat} (hkm : k ≤ m) (hm : m < t.size) (h48 : 48 ≤ (t[m].toNat : Int)) : (numAt t k (m + 1) : Int) = 10 * (numAt t k m : Int) + ((t[m].toNat : Int) - 48) := by
  rw [numAt_step hkm hm]; omega

end Go.Proofs.YtidkmhokolknbaaGreatDoor

namespace Go.Proofs.YtidkmhokolknbaaGreatDoor
open Go.RowKit

theorem bs_size (l : List UInt8) : (bs l).size = l.length := by simp [bs, ByteArray.size]

theorem nextTok_err_pos {c : UInt8} {s : List UInt8} {e : Nat} (h : Lx.nextTok c s = .error e) : 0 < e ∧ e < 100 := by
  unfold Lx.nextTok at h
  repeat' (split at h)
  all_goals (cases h)
  all_goals omega

/-- the cells of tokens in a row -/
def tokCells (l : List (Nat × Lx.Tk)) : List Value := l.flatMap fun p => [.int .i64 p.2.kind, .int .i64 p.1, .int .i64 p.2.n, .string (bs p.2.text)]

theorem tokCells_length (l : List (Nat × Lx.Tk)) : (tokCells l).length = l.length * 4 := by
  induction l with
  | nil => rfl
  | cons x l ih => simp only [tokCells, List.flatMap_cons, List.length_append, List.length_cons, List.length_nil] at ih ⊢; omega

theorem tokCells_snoc (l : List (Nat × Lx.Tk)) (k : Nat) (t : Lx.Tk) : tokCells (l ++ [(k, t)]) = tokCells l ++ [.int .i64 t.kind, .int .i64 k, .int .i64 t.n, .string (bs t.text)] := by
  simp [tokCells]

/-- a fresh slice of these tokens, no error, or an error and its offset; what was there is as it was -/
def LexPost (w : World) (r : List (Nat × Lx.Tk) × Int × Int) (e : Ending) (w' : World) : Prop :=
  ∃ v, e = .returned (.tuple #[v, .int .i64 r.2.1, .int .i64 r.2.2]) ∧ w'.ownsRow w.heap.size 81 4 v r.1.length (tokCells r.1) ∧ Below w.heap.size w w'

theorem lex_ok {L : List UInt8} {l : List (Nat × Lx.Tk)} (h20 : L.length ≤ 20000) (h : Lx.lx 0 L = .ok l) : Lx.lex L = (l, 0, 0) := by
  rw [Lx.lex, if_neg (by omega), h]
theorem lex_err {L : List UInt8} {e o : Nat} (h20 : L.length ≤ 20000) (h : Lx.lx 0 L = .error (e, o)) : Lx.lex L = ([], (e : Int), (o : Int)) := by
  rw [Lx.lex, if_neg (by omega), h]

theorem Tryz.infoTok : (Tryz.prog.info? 81).map (fun i => (i.zero, i.size, i.bytes)) = some (some (.agg #[.int .i64 0, .int .i64 0, .int .i64 0, .string ⟨#[]⟩]), 4, 40) := by kernel_rfl

theorem LexPost.nil {w w' : World} {e off : Int} {r : List (Nat × Lx.Tk) × Int × Int} (h : r = ([], e, off)) (hb : Below w.heap.size w w') :
    LexPost w r (.returned (.tuple #[.slice none 0 0, .int .i64 e, .int .i64 off])) w' := by
  subst h
  exact ⟨_, rfl, World.ownsRow_nil _ _ _ _, hb⟩

theorem LexPost.mk {w w' : World} {v : Value} {l : List (Nat × Lx.Tk)} {r : List (Nat × Lx.Tk) × Int × Int} (h : r = (l, 0, 0)) (ho : w'.ownsRow w.heap.size 81 4 v l.length (tokCells l)) (hb : Below w.heap.size w w') :
    LexPost w r (.returned (.tuple #[v, .int .i64 0, .int .i64 0])) w' := by
  subst h
  exact ⟨_, rfl, ho, hb⟩

end Go.Proofs.YtidkmhokolknbaaGreatDoor
