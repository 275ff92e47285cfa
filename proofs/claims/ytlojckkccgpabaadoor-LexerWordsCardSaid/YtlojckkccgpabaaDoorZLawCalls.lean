/-
  Lex at a text of at most 5000 bytes, by the plain lexer without a bound; all at whatever slice of tokens. Conditions: lengths.
-/
import Derived.Test.YtlojckkccgpabaaDoorZHead
import Derived.Test.YtlojckkccgpabaaDoorZLawAid
namespace Go.Proofs.YtlojckkccgpabaaDoor
open Go.RowKit

theorem luN_err : ∀ (f : Nat) (s : List UInt8) (e o : Nat), Lx.luN f s = .error (e, o) → 0 < e ∧ e < 100
  | 0, s, e, o, h => by simp [Lx.luN] at h
  | f + 1, s, e, o, h => by
    rw [Lx.luN] at h
    split at h
    · simp at h
    · split at h
      · rename_i e' he
        simp only [Except.error.injEq, Prod.mk.injEq] at h
        obtain ⟨rfl, _⟩ := h
        exact nextTok_err_pos he
      · rename_i t ht
        cases hr : Lx.luN f _ with
        | ok m => rw [hr] at h; simp [Lx.shiftR] at h
        | error x =>
          obtain ⟨e1, o1⟩ := x
          rw [hr] at h
          simp only [Lx.shiftR, Except.error.injEq, Prod.mk.injEq] at h
          obtain ⟨rfl, _⟩ := h
          exact luN_err f _ _ _ hr

theorem lu_err {s : List UInt8} {e o : Nat} (h : Lx.lu s = .error (e, o)) : 0 < e ∧ e < 100 := luN_err _ _ _ _ h

/-- these tokens and no error -/
def Toks (l : List (Nat × Lx.Tk)) (w : World) (e : Ending) (w' : World) : Prop :=
  ∃ v, e = .returned (.tuple #[v, .int .i64 0, .int .i64 0]) ∧ TokSl w' v l ∧ Below w.heap.size w w'

/-- no tokens, this error at this offset -/
def Fails (x y : Nat) (w : World) (e : Ending) (w' : World) : Prop :=
  ∃ v, e = .returned (.tuple #[v, .int .i64 x, .int .i64 y]) ∧ TokSl w' v [] ∧ Below w.heap.size w w'

theorem lex_toks {t : ByteArray} {l : List (Nat × Lx.Tk)} (w : World) (h : Lx.lu t.data.toList = .ok l) (hs : t.size ≤ 5000) : Calls Tryd.prog 12 #[.string t] w (Toks l w) := by
  refine (lex_any t w (by unfold maxLen; omega)).mono ?_
  rintro e w' ⟨v, rfl, ho, hb⟩
  have e1 : Lx.lex t.data.toList = (l, 0, 0) := by rw [Lx.lex_lu (by simpa using hs), h]
  rw [e1] at ho ⊢
  exact ⟨v, rfl, TokSl.of_owns ho, hb⟩

theorem lex_fails {t : ByteArray} {x y : Nat} (w : World) (h : Lx.lu t.data.toList = .error (x, y)) (hs : t.size ≤ 5000) : Calls Tryd.prog 12 #[.string t] w (Fails x y w) := by
  refine (lex_any t w (by unfold maxLen; omega)).mono ?_
  rintro e w' ⟨v, rfl, ho, hb⟩
  have e1 : Lx.lex t.data.toList = ([], (x : Int), (y : Int)) := by rw [Lx.lex_lu (by simpa using hs), h]
  rw [e1] at ho ⊢
  exact ⟨v, rfl, TokSl.of_owns ho, hb⟩

set_option maxRecDepth 100000 in
theorem all_empty (a : Option Addr) (cap : Nat) (w : World) : Calls Tryd.prog 18 #[.slice a 0 cap] w (Gives (.string (bs (Lx.allOf []))) w) := by
  go_enter Tryd.func18, Tryd.ntmps18
  go_wp2
  refine wp_loop_once ?_
  go_wp2
  go_ret
  exact ⟨rfl, Below.refl _ _⟩

theorem all_sl (v : Value) (l : List (Nat × Lx.Tk)) (w : World) (h : TokSl w v l) (hl : (Lx.allOf l).length ≤ 1000000) : Calls Tryd.prog 18 #[v] w (Gives (.string (bs (Lx.allOf l))) w) := by
  obtain ⟨cap, h1, h2, h3⟩ := h
  rcases h3 with ⟨h3, rfl⟩ | ⟨g, o, rfl, hr⟩
  · subst h3; exact all_empty _ _ _
  · exact all_row g o cap l w hr (by unfold maxLen at *; omega) hl

/-- two steps that leave what was there, one after the other -/
theorem Below.step {w w1 w2 : World} (h1 : Below w.heap.size w w1) (h2 : Below w1.heap.size w1 w2) : Below w.heap.size w w2 := h1.trans (h2.mono h1.size)

end Go.Proofs.YtlojckkccgpabaaDoor
