/-
  What the reference's Width, Lex return; how tokens lie in memory. Conditions: lengths within Go's own bound.
-/
import Derived.Test.YteogmlgmodeajaaDoorZLexRefC
import Derived.Test.YteogmlgmodeajaaDoorZLexLoop
import Derived.Test.YteogmlgmodeajaaDoorZMBase
namespace Go.Proofs.YteogmlgmodeajaaDoor
open Go.RowKit

theorem bs_size (l : List UInt8) : (bs l).size = l.length := by simp [bs, ByteArray.size]

theorem nextTok_err_pos {c : UInt8} {s : List UInt8} {e : Nat} (h : Lx.nextTok c s = .error e) : 0 < e ∧ e < 100 := by
  unfold Lx.nextTok at h
  repeat' (split at h)
  all_goals (cases h)
  all_goals omega

/-- the cells of tokens in a row -/
def tokCells (l : List (Nat × Lx.Tk)) : List Value := l.flatMap fun p => [.int .i64 p.2.kind, .int .i64 p.1, .int .i64 p.2.n, .string (bs p.2.text)]

theorem tokCells_length (l : List (Nat × Lx.Tk)) : (tokCells l).length = l.length * 4 := by
  induction l with
  | nil => rfl
  | cons x l ih => simp only [tokCells, List.flatMap_cons, List.length_append, List.length_cons, List.length_nil] at ih ⊢; omega

theorem tokCells_snoc (l : List (Nat × Lx.Tk)) (k : Nat) (t : Lx.Tk) : tokCells (l ++ [(k, t)]) = tokCells l ++ [.int .i64 t.kind, .int .i64 k, .int .i64 t.n, .string (bs t.text)] := by
  simp [tokCells]

/-- a fresh slice of these tokens, no error, or an error and its offset; what was there is as it was -/
def LexPost (w : World) (r : List (Nat × Lx.Tk) × Int × Int) (e : Ending) (w' : World) : Prop :=
  ∃ v, e = .returned (.tuple #[v, .int .i64 r.2.1, .int .i64 r.2.2]) ∧ w'.ownsRow w.heap.size 77 4 v r.1.length (tokCells r.1) ∧ Below w.heap.size w w'

theorem lex_ok {L : List UInt8} {l : List (Nat × Lx.Tk)} (h20 : L.length ≤ 20000) (h : Lx.lx 0 L = .ok l) : Lx.lex L = (l, 0, 0) := by
  rw [Lx.lex, if_neg (by omega), h]
theorem lex_err {L : List UInt8} {e o : Nat} (h20 : L.length ≤ 20000) (h : Lx.lx 0 L = .error (e, o)) : Lx.lex L = ([], (e : Int), (o : Int)) := by
  rw [Lx.lex, if_neg (by omega), h]

theorem Tryd.infoTok : (Tryd.prog.info? 77).map (fun i => (i.zero, i.size, i.bytes)) = some (some (.agg #[.int .i64 0, .int .i64 0, .int .i64 0, .string ⟨#[]⟩]), 4, 40) := by kernel_rfl

theorem LexPost.nil {w w' : World} {e off : Int} {r : List (Nat × Lx.Tk) × Int × Int} (h : r = ([], e, off)) (hb : Below w.heap.size w w') :
    LexPost w r (.returned (.tuple #[.slice none 0 0, .int .i64 e, .int .i64 off])) w' := by
  subst h
  exact ⟨_, rfl, World.ownsRow_nil _ _ _ _, hb⟩

theorem LexPost.mk {w w' : World} {v : Value} {l : List (Nat × Lx.Tk)} {r : List (Nat × Lx.Tk) × Int × Int} (h : r = (l, 0, 0)) (ho : w'.ownsRow w.heap.size 77 4 v l.length (tokCells l)) (hb : Below w.heap.size w w') :
    LexPost w r (.returned (.tuple #[v, .int .i64 0, .int .i64 0])) w' := by
  subst h
  exact ⟨_, rfl, ho, hb⟩

end Go.Proofs.YteogmlgmodeajaaDoor
