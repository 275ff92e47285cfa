/-
  The library's writers: strconv.Itoa, strings.Join, a strings.Builder. Conditions: lengths; the table of powers lies where it was laid.
-/
import Derived.Test.YtdchjacccmajcaaGreatDoorZShelf
import Derived.Test.YtdchjacccmajcaaGreatDoorZMBase
import Derived.Lib.AppendIntMem
import Derived.Test.YtdchjacccmajcaaGreatDoorZLexMore
namespace Go.Proofs.YtdchjacccmajcaaGreatDoor
open Go.RowKit Go.Lib

/-- the table of powers lies in w, and stays -/
def Tab10 (w : World) : Prop := TabBelow Tryz.prog w.heap.size w "internal/strconv.uint64pow10" .u64 pow10Tab
theorem Tab10.here {w : World} (h : Tab10 w) : TabIs Tryz.prog w "internal/strconv.uint64pow10" .u64 pow10Tab := TabBelow.here h
theorem Tab10.below {w w' : World} (h : Tab10 w) (hb : Below w.heap.size w w') : Tab10 w' := fun w2 hb2 => h w2 (Below.step hb hb2)
theorem Tab10.of {w : World} (h : TabIs Tryz.prog w "internal/strconv.uint64pow10" .u64 pow10Tab) : Tab10 w := tabBelow_of_tabIs h

theorem dec_lib (n : Nat) : decDigits n = Lx.dec n := by
  induction n using Nat.strongRecOn with
  | _ n ih =>
    rw [decDigits, Lx.dec]
    by_cases h : n < 10
    · rw [dif_pos h, if_pos h]
    · rw [dif_neg h, if_neg h, ih (n / 10) (by omega)]

theorem below_grow (w : World) (k : Nat) (os : Array Obj) : Below w.heap.size w (Sort.grow (w.drewN k) os) := by
  have h := Below.drewQ w k
  have hz : (w.drewN k).heap = w.heap := rfl
  refine ⟨h.os, h.tape, h.output, ?_, fun j hj => ?_⟩
  · simp [Sort.grow]
  · simp only [Sort.grow, hz]
    rw [Array.getElem?_append_left hj]

theorem itoa_any (n : Int) (h0 : 0 ≤ n) (h1 : n ≤ 9223372036854775807) (w : World) (hT : Tab10 w) : Calls Tryz.prog 56 #[.int .i64 n] w (Gives (.string (bs (Lx.dec n.toNat))) w) := by
  refine (Tryz.strconv_Itoa n (by omega) h1 w hT.here).mono ?_
  rintro e w' ⟨rfl, k, os, rfl⟩
  refine ⟨?_, below_grow w k os⟩
  have : itoa n = Lx.dec n.toNat := by unfold itoa; rw [if_neg (by omega), dec_lib]
  rw [this]; rfl

theorem join_lists (x : List UInt8) (xs : List (List UInt8)) (sep : List UInt8) : join (x :: xs) sep = x ++ xs.flatMap fun y => sep ++ y := by
  rw [join_cons]
  unfold joinTail
  rw [List.flatMap_def]

theorem join_any (bk o c : Nat) (xs : List (List UInt8)) (sep : List UInt8) (w : World) (hcells : ∀ (j : Nat) (x : List UInt8), xs[j]? = some x → w.cell? ⟨bk, o + j, none⟩ = some (.string (bs x))) (hbk : bk < w.heap.size) (hN : xs.length ≤ 1000000) (hcap : xs.length ≤ c) (hlen : (join xs sep).length ≤ 1000000) :
    Calls Tryz.prog 45 #[.slice (some ⟨bk, o, none⟩) xs.length c, .string (bs sep)] w (Gives (.string (bs (join xs sep))) w) := by
  have e1 : (xs.map bs).map (·.data.toList) = xs := by
    rw [List.map_map]
    have : ((fun x : ByteArray => x.data.toList) ∘ bs) = id := by funext x; rfl
    rw [this, List.map_id]
  have h := Tryz.strings_Join bk o c (xs.map bs) (bs sep) w (fun j x hj => by
    rw [List.getElem?_map] at hj
    cases hx : xs[j]? with
    | none => rw [hx] at hj; cases hj
    | some y => rw [hx] at hj; cases hj; exact hcells j y hx) hbk (by rw [List.length_map]; omega) (by rw [List.length_map]; exact hcap) (by rw [e1]; show (join xs sep).length ≤ _; omega)
  rw [e1, List.length_map] at h
  exact h

theorem Tryz.lays166j : Go.Proofs.Lays.n166 Tryz.prog Tryz.lays156_ren := {
  mixed := Tryz.lays156.mixed,
  f166 := Tryz.lays156.f166,
  f240 := Tryz.lays156.f240,
  f276 := Tryz.lays156.f276,
  t0 := Tryz.lays156.t0,
  a0 := Tryz.lays156.a0,
  z0 := Tryz.lays156.z0,
  v0 := Tryz.lays156.v0,
  t3 := Tryz.lays156.t3,
  a3 := Tryz.lays156.a3,
  z3 := Tryz.lays156.z3,
  v3 := Tryz.lays156.v3,
  t4 := Tryz.lays156.t4,
  a4 := Tryz.lays156.a4,
  z4 := Tryz.lays156.z4,
  v4 := Tryz.lays156.v4,
  t9 := Tryz.lays156.t9,
  a9 := Tryz.lays156.a9,
  z9 := Tryz.lays156.z9,
  v9 := Tryz.lays156.v9,
  t20 := Tryz.lays156.t20,
  a20 := Tryz.lays156.a20,
  z20 := Tryz.lays156.z20,
  v20 := Tryz.lays156.v20,
  t37 := Tryz.lays156.t37,
  a37 := Tryz.lays156.a37,
  z37 := Tryz.lays156.z37,
  v37 := Tryz.lays156.v37,
  t70 := Tryz.lays156.t70,
  a70 := Tryz.lays156.a70,
  z70 := Tryz.lays156.z70,
  v70 := Tryz.lays156.v70,
  t72 := Tryz.lays156.t72,
  a72 := Tryz.lays156.a72,
  z72 := Tryz.lays156.z72,
  v72 := Tryz.lays156.v72,
  t75 := Tryz.lays156.t75,
  a75 := Tryz.lays156.a75,
  z75 := Tryz.lays156.z75,
  v75 := Tryz.lays156.v75,
  t164 := Tryz.lays156.t164,
  a164 := Tryz.lays156.a164,
  z164 := Tryz.lays156.z164,
  v164 := Tryz.lays156.v164 }

/-- a builder in block b that holds these bytes -/
def Bldr (w : World) (B b : Nat) (l : List UInt8) : Prop := IsBuilderF 96 5 B b (byteCells l) w
theorem Bldr.fresh (w : World) : Bldr (w.alloc (.cells #[.pointer none, .slice none 0 0] 96)) w.heap.size w.heap.size [] := IsBuilderF.of (fresh_isBuilder 96 5 w)

theorem write_any (B b : Nat) (l : List UInt8) (s : ByteArray) (w : World) (h : Bldr w B b l) (hl : l.length + s.size ≤ 1000000) (hB : B ≤ w.heap.size) :
    Calls Tryz.prog 54 #[.pointer (some ⟨b, 0, none⟩), .string s] w fun e w' => e = .returned (.tuple #[.int .i64 s.size, .nilIface]) ∧ Bldr w' B b (l ++ s.data.toList) ∧ Below B w w' := by
  refine (Any.Builder_WriteString_k Tryz.lays166j Tryz.Builder_Extra_156 B b (byteCells l) s w h (by rw [show (byteCells l).length = l.length by simp [byteCells]]; omega) hB).mono ?_
  rintro e w' ⟨rfl, h1, h2, -⟩
  refine ⟨rfl, .inr ?_, h2⟩
  have : byteCells l ++ strCells s = byteCells (l ++ s.data.toList) := by simp [byteCells, strCells]
  rw [← this]
  exact h1
theorem text_any (B b : Nat) (l : List UInt8) (w : World) (h : Bldr w B b l) (hB : B ≤ w.heap.size) :
    Calls Tryz.prog 57 #[.pointer (some ⟨b, 0, none⟩)] w fun e w' => e = .returned (.string (bs l)) ∧ Below B w w' := by
  refine (Tryz.Builder_String_any_k B b l w h hB).mono ?_
  rintro e w' ⟨rfl, -, h2, -⟩
  exact ⟨rfl, h2⟩

end Go.Proofs.YtdchjacccmajcaaGreatDoor
