/-
  rewrite.key as a map's key. Conditions: lengths; the number is an int.
-/
import Derived.Test.YtdchjacccmajcaaGreatDoorZMBase
import Derived.DeepKeys4
namespace Go.Proofs.YtdchjacccmajcaaGreatDoor
open Go.RowKit Go.Maps

theorem laid_out : laidOutB Tryz.prog = true := by kernel_rfl

theorem key_keyed : Keyed Tryz.prog 70 :=
  Keyed.of_law (deep_law_laid laid_out (m := 9) (by decide) (of_decide_eq_true (by kernel_rfl)) (by kernel_rfl) (by kernel_rfl))

theorem key_some (s : Int) (f t : ByteArray) (hs : (Lit.int .i64 s).wf = true) (hf : f.size ≤ maxLen) (ht : t.size ≤ maxLen) : ∃ kl, keyOf Tryz.prog 70 (.agg #[.int .i64 s, .string f, .string t]) = some kl := by
  have hd : ∃ d, Tryz.prog.types.size + 1 = d + 2 := ⟨Tryz.prog.types.size - 1, by have : 1 ≤ Tryz.prog.types.size := of_decide_eq_true (by kernel_rfl); omega⟩
  obtain ⟨d, hd⟩ := hd
  have hk : Tryz.prog.keyType 70 = true := by kernel_rfl
  have hc : Tryz.prog.cellsOf 70 = 3 := by kernel_rfl
  have hc3 : Tryz.prog.cellsOf 3 = 1 := by kernel_rfl
  have hc9 : Tryz.prog.cellsOf 9 = 1 := by kernel_rfl
  unfold keyOf
  rw [Tryz.underlying70]
  simp only [hk, Value.formed, Tryz.underlying70, hc, Value.cells]
  rw [hd]
  simp [Program.keyLits, Tryz.underlying70, hc, hc3, hc9, Tryz.underlying3, Tryz.underlying9, hs, hf, ht]

theorem key_eq {s s' : Int} {f f' t t' : List UInt8} : (Value.agg #[.int .i64 s, .string (bs f), .string (bs t)] = Value.agg #[.int .i64 s', .string (bs f'), .string (bs t')]) ↔ (s, f, t) = (s', f', t') := by
  constructor
  · intro h
    simp [bs] at h
    obtain ⟨h1, h2, h3⟩ := h
    rw [h1, h2, h3]
  · intro h
    simp only [Prod.mk.injEq] at h
    obtain ⟨h1, h2, h3⟩ := h
    rw [h1, h2, h3]

theorem zero_bool (w : World) : (zeroValue 4).run Tryz.prog w = .ok (.bool false) w := by kernel_rfl

end Go.Proofs.YtdchjacccmajcaaGreatDoor
