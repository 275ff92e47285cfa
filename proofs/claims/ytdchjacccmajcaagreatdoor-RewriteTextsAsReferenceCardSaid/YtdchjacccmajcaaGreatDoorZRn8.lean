/-
 rewrite.Forms' answer as a relation; folded words. Conditions: lengths; the library's tables.
-/
import Derived.Test.YtdchjacccmajcaaGreatDoorZRn7
namespace Fo
open Al (R)
/-- the answer: forms, costs, error -/
inductive Ans (L : List (List UInt8)) (rs : List R) (most : Int) : List (List UInt8) → List Int → Int → Prop
 | many : Many L rs most → Ans L rs most [] [] 2
 | ok {out : List (List UInt8)} {costs : List Int} : Forms lt L rs most out costs → Ans L rs most out costs 0
theorem Ans.uniq {L : List (List UInt8)} {rs : List R} {most : Int} {a b : List (List UInt8)} {m n : List Int} {e f : Int} (hg : Good rs) (h : Ans L rs most a m e) (g : Ans L rs most b n f) : a = b ∧ m = n ∧ e = f := by
 cases h with
 | many h =>
  cases g with
  | many _ => exact ⟨rfl, rfl, rfl⟩
  | ok g => exact absurd h g.not_many
 | ok h =>
  cases g with
  | many g => exact absurd g h.not_many
  | ok g =>
   obtain ⟨h1, h2⟩ := Forms.uniq lt_irrefl lt_asymm hg h g
   exact ⟨h1, h2, rfl⟩
theorem Ans.len {L : List (List UInt8)} {rs : List R} {most : Int} {a : List (List UInt8)} {m : List Int} {e : Int} (h : Ans L rs most a m e) : m.length = a.length ∧ a.length ≤ 1000 ∧ (e = 0 ∨ e = 2) := by
 cases h with
 | many _ => exact ⟨rfl, by simp, .inr rfl⟩
 | ok h => exact ⟨h.len, h.few, .inl rfl⟩
end Fo
namespace Rw
end Rw
namespace Go.Proofs.YtdchjacccmajcaaGreatDoor
open Go.RowKit Go.Lib Go.Maps
end Go.Proofs.YtdchjacccmajcaaGreatDoor
