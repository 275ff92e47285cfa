/-
  What the program's small scanner functions return: at, while, gap; slices.Index and slices.Contains at []int. Conditions: the scanner lies in memory as a text and the classes of the bytes; lengths within Go's own bound.
-/
import Derived.Test.YtidkmhokolknbaaGreatDoorZMBase
import Derived.Test.YtidkmhokolknbaaGreatDoorZLexAid
namespace Go.Proofs.YtidkmhokolknbaaGreatDoor
open Go.RowKit

/-- the class of a byte, as the program numbers them -/
def cls (c : UInt8) : Nat :=
  if Lx.isLetter c then 3 else if Lx.isDigit c then 4 else if c = 95 then 5 else if Lx.isBlank c then 1 else if c = 35 then 2
  else if c = 34 then 6 else if c = 33 then 7 else if Lx.isAngle c then 8 else if Lx.isPlain c then 9 else 0

/-- the 256 cells of the classes -/
def clsA : Array Value := ((List.range 256).map fun n => Value.int .i64 (cls n.toUInt8)).toArray

theorem clsA_size : clsA.size = 256 := by rw [clsA, List.size_toArray, List.length_map, List.length_range]
theorem clsA_get (c : UInt8) : clsA[c.toNat]? = some (.int .i64 (cls c)) := by
  have h : c.toNat < 256 := c.toNat_lt
  rw [clsA, List.getElem?_toArray, List.getElem?_map, List.getElem?_range h]
  simp

attribute [irreducible] clsA
/-- the scanner's cells -/
def scanCells (t : ByteArray) : Array Value := #[Value.string t] ++ clsA

/-- the scanner at address b: its text, then the classes -/
def ScanAt (w : World) (b : Nat) (t : ByteArray) : Prop := w.heap[b]? = some (.cells (scanCells t) 106 (0, 0))

theorem ScanAt.text {w : World} {b : Nat} {t : ByteArray} (h : ScanAt w b t) : w.cell? ⟨b, 0, none⟩ = some (.string t) := by
  rw [cell_of_row w b 0 _ _ _ h, scanCells, Array.getElem?_append_left (by simp)]; rfl
theorem ScanAt.cls {w : World} {b : Nat} {t : ByteArray} (h : ScanAt w b t) (c : UInt8) : w.cell? ⟨b, 1 + c.toNat, none⟩ = some (.int .i64 (cls c)) := by
  rw [cell_of_row w b _ _ _ _ h, scanCells, Array.getElem?_append_right (by simp)]
  simpa using clsA_get c
theorem ScanAt.below {w w' : World} {b : Nat} {t : ByteArray} (h : ScanAt w b t) (hb : Below w.heap.size w w') : ScanAt w' b t := by
  unfold ScanAt at *
  rw [hb.block b (Array.getElem?_eq_some_iff.1 h).1, h]
theorem ScanAt.lt {w : World} {b : Nat} {t : ByteArray} (h : ScanAt w b t) : b < w.heap.size := (Array.getElem?_eq_some_iff.1 h).1
theorem ScanAt.drewN {w : World} {b : Nat} {t : ByteArray} (h : ScanAt w b t) (n : Nat) : ScanAt (w.drewN n) b t := h

/-- the call returns this value and has drawn, no more -/
def Draws (v : Value) (w : World) (e : Ending) (w' : World) : Prop := e = .returned v ∧ ∃ n, w' = w.drewN n

set_option maxHeartbeats 400000 in
theorem at_in (b : Nat) (t : ByteArray) (k : Nat) (w : World) (h : ScanAt w b t) (hk : k < t.size) (_hm : t.size ≤ maxLen) :
    Calls Tryz.prog 92 #[.pointer (some ⟨b, 0, none⟩), .int .i64 k] w (Draws (.int .i64 (cls t[k])) w) := by
  have h1 := h.text
  have h2 := hid (h.cls t[k])
  clear h
  go_enter Tryz.func92, Tryz.ntmps92
  go_wp2
  have h2' := h2.out
  have h3 : ((t[k].toNat : Nat) : Int) < 256 := by have := t[k].toNat_lt; omega
  have h4 : (0 : Int) ≤ ((t[k].toNat : Nat) : Int) := by omega
  go_quiet (fail)
  go_wp2
  go_ret
  exact ⟨rfl, _, rfl⟩

set_option maxHeartbeats 400000 in
theorem at_out (b : Nat) (t : ByteArray) (k : Nat) (w : World) (h : ScanAt w b t) (hk : t.size ≤ k) (_hm : k ≤ maxLen) :
    Calls Tryz.prog 92 #[.pointer (some ⟨b, 0, none⟩), .int .i64 k] w (Draws (.int .i64 0) w) := by
  have h1 := h.text
  clear h
  go_enter Tryz.func92, Tryz.ntmps92
  go_wp2
  go_ret
  exact ⟨rfl, 0, rfl⟩

/-- ints in a row of memory -/
def IntsAt (w : World) (g : Nat) (xs : List Int) : Prop := ∀ i x, xs[i]? = some x → w.cell? ⟨g, i, none⟩ = some (.int .i64 x)

def IdxPost (xs : List Int) (x : Int) (w : World) (e : Ending) (w' : World) : Prop := ∃ r : Int, e = .returned (.int .i64 r) ∧ (0 ≤ r ↔ x ∈ xs) ∧ w' = w

theorem mem_take_succ {xs : List Int} {k : Nat} {y : Int} (h : xs[k]? = some y) (x : Int) : x ∈ xs.take (k + 1) ↔ x ∈ xs.take k ∨ x = y := by
  obtain ⟨hk, rfl⟩ := List.getElem?_eq_some_iff.1 h
  rw [List.take_succ_eq_append_getElem hk, List.mem_append, List.mem_singleton]

set_option maxHeartbeats 400000 in
theorem index_any (g cap : Nat) (xs : List Int) (x : Int) (w : World) (h : Hid (IntsAt w g xs)) (hm : xs.length ≤ maxLen) :
    Calls Tryz.prog 129 #[.slice (some ⟨g, 0, none⟩) xs.length cap, .int .i64 x] w (IdxPost xs x w) := by
  unfold maxLen at hm
  go_enter Tryz.func129, Tryz.ntmps129
  go_wp2
  go_loop [8] (fun i => ∃ k : Nat, k ≤ xs.length ∧ i = .int .i64 k ∧ Hid (x ∉ xs.take k)) (fun i => xs.length - (intOf i).toNat)
  case atStart => exact ⟨0, Nat.zero_le _, rfl, by simp [Hid]⟩
  case round =>
    obtain ⟨k, hk, rfl, hn⟩ := hrel
    by_cases hlt : k < xs.length
    · obtain ⟨y, hy⟩ : ∃ y, xs[k]? = some y := ⟨_, List.getElem?_eq_getElem hlt⟩
      have hc := h.out k y hy
      have hk0 : (0 : Int) ≤ (k : Int) := by omega
      have hk1 : (k : Int) < (xs.length : Int) := by omega
      by_cases he : x = y
      · have hmem := hid (show x ∈ xs by rw [he]; exact List.mem_of_getElem? hy)
        have hb : (x == y) = true := by simpa using he
        clear hy he
        go_wp2
        go_ret
        exact ⟨_, rfl, ⟨fun _ => hmem.out, fun _ => by omega⟩, rfl⟩
      · have hb : (x == y) = false := by simpa using he
        have hn2 := hid (show x ∉ xs.take (k + 1) by rw [mem_take_succ hy]; exact fun hh => hh.elim hn.out he)
        clear hy he hn
        go_wp2
        go_round
        case rel => exact ⟨k + 1, by omega, by go_num, hn2⟩
        case measure => simp [intOf]; omega
    · go_wp2
      go_ret
      exact ⟨_, rfl, ⟨fun hh => absurd hh (by decide), fun hh => absurd (by rw [List.take_of_length_le (by omega)]; exact hh) hn.out⟩, rfl⟩

theorem contains_any (g cap : Nat) (xs : List Int) (x : Int) (w : World) (h : Hid (IntsAt w g xs)) (hm : xs.length ≤ maxLen) :
    Calls Tryz.prog 112 #[.slice (some ⟨g, 0, none⟩) xs.length cap, .int .i64 x] w (Same (.bool (xs.contains x)) w) := by
  go_enter Tryz.func112, Tryz.ntmps112
  go_wp2_with (go_at_call 129; refine (index_any _ _ _ _ _ h hm).mono ?_; rintro e w' ⟨r, rfl, hr, rfl⟩)
  go_ret
  refine ⟨ret_bool ?_, rfl⟩
  rw [Bool.eq_iff_iff]
  simp

/-- is the byte's class one of these? -/
def inCls (xs : List Int) (c : UInt8) : Bool := xs.contains (cls c : Int)

set_option maxHeartbeats 800000 in
theorem while_core (b : Nat) (t : ByteArray) (k E : Nat) (g cap : Nat) (xs : List Int) (w : World) (h : ScanAt w b t) (hx : IntsAt w g xs) (hk : k ≤ t.size) (hm : t.size ≤ maxLen) (hxm : xs.length ≤ maxLen)
    (hE : Hid (Lx.run (inCls xs) t.data.toList k = E)) :
    Calls Tryz.prog 91 #[.pointer (some ⟨b, 0, none⟩), .int .i64 k, .slice (some ⟨g, 0, none⟩) xs.length cap] w (Draws (.int .i64 E) w) := by
  have hm' := hm
  unfold maxLen at hm
  have hX : ∀ n, Hid (IntsAt (w.drewN n) g xs) := fun _ => hx
  have hS := hid h
  clear hx h
  go_enter Tryz.func91, Tryz.ntmps91
  go_wp2
  go_loopw [1] (fun i wr => ∃ j q : Nat, j ≤ t.size ∧ i = .int .i64 j ∧ wr = w.drewN q ∧ Hid (Lx.run (inCls xs) t.data.toList j = E)) (fun i _ => t.size - (intOf i).toNat)
  case atStart => exact ⟨k, 0, hk, rfl, rfl, hE⟩
  case round =>
    obtain ⟨j, q, hj, rfl, rfl, hr⟩ := hrel
    have h1 := hS.out.text
    by_cases hlt : j < t.size
    · have hl' : j < t.data.toList.length := by simpa using hlt
      by_cases hp : inCls xs t[j] = true
      · have hp' : ((cls t[j] : Nat) : Int) ∈ xs := by simpa [inCls] using hp
        have H5 : Hid (Lx.run (inCls xs) t.data.toList (j + 1) = E) := (Lx.run_step hl' hp).trans hr.out
        clear hp hr
        go_wp2_with (first
          | (go_at_call 92; refine (at_in b t j _ (hS.out.drewN q) hlt hm').mono ?_; rintro e w' ⟨rfl, q', rfl⟩)
          | (go_at_call 112; refine (contains_any g cap xs _ _ (hX _) hxm).mono ?_; rintro e w' ⟨rfl, rfl⟩))
        go_roundw
        case rel => exact ⟨j + 1, _, by omega, by go_num, rfl, H5⟩
        case measure => simp [intOf]; omega
      · have hp' : ¬ ((cls t[j] : Nat) : Int) ∈ xs := by simpa [inCls] using hp
        have H5 : Hid (j = E) := (Lx.run_stop (fun _ => Bool.eq_false_iff.2 hp)).symm.trans hr.out
        clear hp hr
        go_wp2_with (first
          | (go_at_call 92; refine (at_in b t j _ (hS.out.drewN q) hlt hm').mono ?_; rintro e w' ⟨rfl, q', rfl⟩)
          | (go_at_call 112; refine (contains_any g cap xs _ _ (hX _) hxm).mono ?_; rintro e w' ⟨rfl, rfl⟩))
        go_ret
        exact ⟨ret_nat H5.out, _, rfl⟩
    · have H5 : Hid (j = E) := (Lx.run_stop (fun hh => absurd hh (by simpa using hlt))).symm.trans hr.out
      clear hr
      go_wp2
      go_ret
      exact ⟨ret_nat H5.out, q, rfl⟩

end Go.Proofs.YtidkmhokolknbaaGreatDoor
