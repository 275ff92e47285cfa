/-
  What the program's Lex returns: the tokens, the error and the offset as the plain lexer has them. Conditions: lengths within Go's own bound.
-/
import Derived.Test.YtidkmhokolknbaaGreatDoorZLexE
namespace Go.Proofs.YtidkmhokolknbaaGreatDoor
open Go.RowKit

/-- a struct or an array built of parts -/
theorem wpList_build_eq {P : Program} {ops : Array Oper} {rest : List Oper} {o : Oper} {a : Act} {w : World} {Q : Exit → Act → World → Prop} (hg : o.guard = none) (t : TypeId) (parts : List (Nat × Operand)) (ho : o.op = .build t parts.toArray)
    (vs : List (Nat × Value)) (hv : parts.map (fun p => (p.1, a.eval p.2)) = vs) (cells : Array Value) (hf : P.built t vs = some cells)
    (h : wpList P ops Q rest (a.put o.dst (.agg cells)) w) : wpList P ops Q (o :: rest) a w := by
  have e : (parts.toArray.map fun (x : Nat × Operand) => (x.1, a.eval x.2)).toList = vs := by simpa using hv
  exact wpList_build hg t parts.toArray ho (by show (P.built t (parts.toArray.map fun (x : Nat × Operand) => (x.1, a.eval x.2)).toList).isSome = true; rw [e, hf]; rfl)
    (by show wpList P ops Q rest (a.put o.dst (.agg ((P.built t (parts.toArray.map fun (x : Nat × Operand) => (x.1, a.eval x.2)).toList).getD #[]))) w; rw [e, hf]; exact h)

def z257 : Array Value := #[.string ⟨#[]⟩] ++ z256
theorem z257_size : z257.size = 257 := by rw [z257, Array.size_append, z256_size]; rfl
theorem scan_size (t : ByteArray) : (scanCells t).size = 257 := by rw [scanCells, Array.size_append, clsA_size]; rfl
theorem Tryz.infoScan : (Tryz.prog.info? 106).map (fun i => (i.zero, i.size)) = some (some (.agg z257), 257) := by kernel_rfl
theorem Tryz.infoScanSize : (Tryz.prog.info? 106).map (·.size) = some 257 := by kernel_rfl
theorem built_scan (t : ByteArray) : Tryz.prog.built 106 [(0, .string t), (1, .agg clsA)] = some (scanCells t) := by kernel_rfl
theorem scan_info (t : ByteArray) : (Tryz.prog.info? 106).map (·.size) = some (scanCells t).size := by rw [scan_size]; exact Tryz.infoScanSize
theorem scan_one (t : ByteArray) : (scanCells t).all (·.oneCell') = true := by
  rw [scanCells, Array.all_append, clsA_one]; simp [Value.oneCell']
attribute [irreducible] z257

end Go.Proofs.YtidkmhokolknbaaGreatDoor
