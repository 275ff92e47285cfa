/-
  A block of one-cell elements: reading, storing, making; a map from strings to numbers as a function. NO PROGRAM IN THIS TEXT.
-/
import Derived.Test.YthibphklchalkaaGreatDoorZMapKeys
import Derived.Laws.OwnMore
namespace Go.Proofs.YthibphklchalkaaGreatDoor
open Go.RowKit Go.Maps

/-- block b holds these values, of element type e -/
def Blk (w : World) (b : Nat) (e : TypeId) (vs : List Value) : Prop := w.heap[b]? = some (.cells vs.toArray e (0, 0))

section
variable {w w' : World} {b : Nat} {e : TypeId} {vs : List Value}

theorem Blk.lt (h : Blk w b e vs) : b < w.heap.size := (Array.getElem?_eq_some_iff.1 h).1
theorem Blk.cell (h : Blk w b e vs) {j : Nat} {v : Value} (hj : vs[j]? = some v) : w.cell? ⟨b, j, none⟩ = some v := by
  unfold Blk at h
  simp [World.cell?, h, hj]
theorem Blk.frozen (h : Blk w b e vs) (j : Nat) : w.frozen? ⟨b, j, none⟩ = false := by
  unfold Blk at h
  simp [World.frozen?, h]
theorem Blk.set (h : Blk w b e vs) (j : Nat) (u : Value) : Blk (w.setCell ⟨b, j, none⟩ u) b e (vs.set j u) := by
  unfold Blk at h ⊢
  simp [World.setCell, Array.getElem?_modify, h]
theorem Blk.kept {row : Option Nat} (h : Blk w b e vs) (hg : w.grownBy w' row) (hr : row ≠ some b) : Blk w' b e vs := (hg.block b h.lt (fun e => hr e.symm)).trans h
theorem Blk.below (h : Blk w b e vs) (hb : Below w.heap.size w w') : Blk w' b e vs := (hb.block b h.lt).trans h
theorem Blk.other {q j : Nat} (h : Blk w b e vs) (hq : b ≠ q) (u : Value) : Blk (w.setCell ⟨q, j, none⟩ u) b e vs := (Below.heap_setCell w ⟨q, j, none⟩ u b hq).trans h
theorem Blk.new (w : World) (e : TypeId) (vs : List Value) : Blk (w.alloc (.cells vs.toArray e)) w.heap.size e vs := by unfold Blk World.alloc; simp
theorem Blk.rep (w : World) (e : TypeId) (n : Nat) (v : Value) : Blk (w.alloc (.cells (Array.replicate n v) e)) w.heap.size e (List.replicate n v) := by
  rw [← List.toArray_replicate]
  exact Blk.new w e _
theorem grown_set (w : World) (q j : Nat) (u : Value) : w.grownBy (w.setCell ⟨q, j, none⟩ u) (some q) :=
  ⟨rfl, rfl, rfl, by simp [World.setCell], fun k _ hk => Below.heap_setCell w ⟨q, j, none⟩ u k (fun e => hk (by rw [e]))⟩
end

/-- 'make([]T, n)', T of one cell -/
theorem make_one {P : Program} (t e : TypeId) (i : TypeInfo) (z : Value) (ht : P.underlying t = some (.slice e)) (hi : P.info? e = some i) (hz : i.zero = some z) (hs : i.size = 1) (hc : z.cells = #[z]) (n : Nat) (hb : i.bytes * n ≤ 281474976710656) (h63 : n ≤ maxLen) (w : World) :
    (Instr.makeSlice t (.int .i64 (n : Int)) (.int .i64 (n : Int))).run P w = .ok (.slice (some ⟨w.heap.size, 0, none⟩) n n) (w.alloc (.cells (Array.replicate n z) e)) := by
  have h1 : (n : Int) ≤ 9223372036854775807 := by unfold maxLen at h63; omega
  have h2 : (i.bytes : Int) * (n : Int) ≤ 281474976710656 := by
    have h : ((i.bytes * n : Nat) : Int) ≤ 281474976710656 := by omega
    rwa [Int.natCast_mul] at h
  have hr := run_make (P := P) w t e i z ht hi hz .i64 .i64 n n (by omega) (Int.le_refl _) h2 h1
  simp only [Int.toNat_natCast] at hr
  rw [hr, hs, Nat.mul_one, hc]
  have : madeCells #[z] n = Array.replicate n z := by
    apply Array.toList_inj.1
    rw [toList_madeCells_one, Array.toList_replicate]
  rw [this]

/-- a function from texts to numbers, as a map's -/
def numF (E : List UInt8 → Option Int) : Value → Option Value
  | .string s => (E s.data.toList).map fun c => .int .i64 c
  | _ => none
theorem numF_bs (E : List UInt8 → Option Int) (x : List UInt8) : numF E (.string (bs x)) = (E x).map fun c => .int .i64 c := rfl
theorem numF_isSome (E : List UInt8 → Option Int) (x : List UInt8) : (numF E (.string (bs x))).isSome = (E x).isSome := by rw [numF_bs]; cases E x <;> rfl
theorem numF_none : numF (fun _ => none) = fun _ => none := by
  funext v
  cases v <;> rfl
/-- one entry is put -/
def putE (E : List UInt8 → Option Int) (x : List UInt8) (c : Int) : List UInt8 → Option Int := fun y => if y = x then some c else E y
theorem putE_same (E : List UInt8 → Option Int) (x : List UInt8) (c : Int) : numF (putE E x c) (.string (bs x)) = some (.int .i64 c) := by
  rw [numF_bs, putE, if_pos rfl]; rfl
theorem putE_other (E : List UInt8 → Option Int) (x : List UInt8) (c : Int) (v : Value) (h : v ≠ .string (bs x)) : numF (putE E x c) v = numF E v := by
  cases v with
  | string s =>
    unfold numF putE
    simp only
    rw [if_neg]
    intro e
    apply h
    rw [← e]
    rfl
  | _ => rfl

end Go.Proofs.YthibphklchalkaaGreatDoor
