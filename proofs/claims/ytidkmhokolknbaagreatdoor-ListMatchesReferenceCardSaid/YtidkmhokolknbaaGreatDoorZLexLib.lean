/-
  The library's functions that the lexer calls: IndexByte, IndexAny at a quote and a line feed, HasPrefix at '=', Atoi at at most 13 digits. Conditions: lengths within Go's own bound.
-/
import Derived.Test.YtidkmhokolknbaaGreatDoorZMBase
import Derived.Test.YtidkmhokolknbaaGreatDoorZLexAid
import Derived.Test.YtidkmhokolknbaaGreatDoorZLexLib1
import Derived.Test.YtidkmhokolknbaaGreatDoorZLexLib2
import Derived.Lib.Bytealg
import Derived.Lib.Strings
namespace Go.Proofs.YtidkmhokolknbaaGreatDoor
open Go.RowKit

theorem indexByte_any (s : ByteArray) (w : World) :
    Calls Tryz.prog 93 #[.string s, .int .u8 10] w (Same (.int .i64 (Lib.indexByte s.data.toList 10)) w) := indexByte_walk s w

theorem indexAny_any (s : ByteArray) (w : World) (hs : s.size ≤ 100000) :
    Calls Tryz.prog 95 #[.string s, .string ⟨#[34, 10]⟩] w (Gives (.int .i64 (indexEnd s.data.toList)) w) := by
  rw [indexEnd_any]
  by_cases h8 : s.size ≤ 8
  · exact indexAny_short s w h8
  · have hz := zero_of_info (P := Tryz.prog) (t := 151) (by kernel_rfl : (Tryz.prog.info? 151).map (fun i => (i.zero, i.size)) = some (some (.agg (Array.replicate 256 (.bool false))), 256))
    refine (Tryz.strings_IndexAny_long hz.1 s ⟨#[34, 10]⟩ w (by decide) (by omega) (by omega) (by decide) ?_).mono ?_
    · intro j b hb
      match j, hb with
      | 0, hb => cases hb; decide
      | 1, hb => cases hb; decide
      | j + 2, hb => simp at hb
    · rintro e w' ⟨rfl, rfl⟩
      exact ⟨rfl, ((Below.refl _ _).alloc (Nat.le_refl _) _).alloc (by simp) _⟩

theorem hasPrefix_any (s : ByteArray) (w : World) (hm : s.size ≤ maxLen) :
    Calls Tryz.prog 96 #[.string s, .string ⟨#[61]⟩] w (Same (.bool (decide (s.data.toList.head? = some 61))) w) := hasPrefix_walk s w hm

theorem atoi_any (s : ByteArray) (w : World) (h : s.data.toList.all Lx.isDigit = true) (h1 : 0 < s.size) (h13 : s.size ≤ 13) :
    Calls Tryz.prog 94 #[.string s] w (Gives (.tuple #[.int .i64 (Lx.value s.data.toList), .nilIface]) w) := atoi_walk s w h h1 h13

end Go.Proofs.YtidkmhokolknbaaGreatDoor
