/-
  Small common words for the walks: what a contract ends in, facts kept from the walk. Conditions: none.
-/
import Derived.Test.YtfkcphflcmpenaaDoorRows
import Derived.WalkKit
import Derived.WalkSpells
import Derived.WalkLawsBesides
import Derived.Deep.QuietTactic
import Derived.BigQuiet
namespace Go.Proofs.YtfkcphflcmpenaaDoor
open Go.RowKit

/-- the call returns this value and leaves the world as it was -/
def Same (v : Value) (w : World) (e : Ending) (w' : World) : Prop := e = .returned v ∧ w' = w
/-- the call returns this value, and all that was there is as it was -/
def Gives (v : Value) (w : World) (e : Ending) (w' : World) : Prop := e = .returned v ∧ Below w.heap.size w w'

theorem Same.gives {v : Value} {w : World} {e : Ending} {w' : World} (h : Same v w e w') : Gives v w e w' := by
  obtain ⟨h1, rfl⟩ := h
  exact ⟨h1, Below.refl _ _⟩

theorem hid {p : Prop} (h : p) : Hid p := h
theorem ret_bool {a b : Bool} (h : a = b) : Ending.returned (.bool a) = .returned (.bool b) := by rw [h]
theorem ret_int {k : IntKind} {a b : Int} (h : a = b) : Ending.returned (.int k a) = .returned (.int k b) := by rw [h]
theorem ret_nat {k : IntKind} {a b : Nat} (h : a = b) : Ending.returned (.int k (a : Int)) = .returned (.int k (b : Int)) := by rw [h]
theorem ret_str {a b : ByteArray} (h : a = b) : Ending.returned (.string a) = .returned (.string b) := by rw [h]

theorem bcell {W w1 : World} (hb : Below W.heap.size W w1) : (∀ b o, b < W.heap.size → w1.cell? ⟨b, o, none⟩ = W.cell? ⟨b, o, none⟩) ∧ (∀ b o, b < W.heap.size → w1.frozen? ⟨b, o, none⟩ = W.frozen? ⟨b, o, none⟩) :=
  ⟨fun b o h => hb.cell (p := ⟨b, o, none⟩) h, fun b o h => hb.frozen (p := ⟨b, o, none⟩) h⟩

theorem u8_beq (c d : UInt8) : ((c.toNat : Int) == (d.toNat : Int)) = (c == d) := by
  rw [Bool.eq_iff_iff]
  simp [← UInt8.toNat_inj]
  omega
theorem u8_ne {c d : UInt8} (h : c ≠ d) : ((c.toNat : Int) == (d.toNat : Int)) = false := by
  rw [u8_beq]; simpa using h
theorem u8_eq {c d : UInt8} (h : c = d) : ((c.toNat : Int) == (d.toNat : Int)) = true := by
  rw [u8_beq]; simpa using h
theorem u8_bne (c d : UInt8) : ((c.toNat : Int) != (d.toNat : Int)) = (c != d) := by
  unfold bne; rw [u8_beq]
theorem u8_bne_f {c d : UInt8} (h : c = d) : ((c.toNat : Int) != (d.toNat : Int)) = false := by
  rw [u8_bne]; simpa using h
theorem u8_bne_t {c d : UInt8} (h : c ≠ d) : ((c.toNat : Int) != (d.toNat : Int)) = true := by
  rw [u8_bne]; simpa using h

/-- the end of a function whose first result lies in a cell -/
theorem post_cell_tmp {P : Program} {fn : Func} {R : Ending → World → Prop} {a : Act} {w : World} {p u : Tmp} {ty : TypeId} (h : fn.results = #[.cell p ty, .tmp u])
    {v x : Value} {ad : Addr} (hp : a.tmps.getD p undef = .pointer (some ad)) (hl : (loadVar ty ad).run P w = .ok v w) (hu : a.tmps.getD u undef = x) (hd : a.defers = [])
    (hR : R (.returned (.tuple #[v, x])) w) : bodyPost P fn R .ret a w := by
  refine bodyPost_ret (v := .tuple #[v, x]) ?_ hd hR
  rw [results_cell_tmp h, hp, hu]
  have e : (asAddr (.pointer (some ad))).run P w = .ok ad w := rfl
  rw [e]
  simp only [Result.andThen]
  rw [hl]

/-- bytes as a string's value -/
def bs (l : List UInt8) : ByteArray := ⟨l.toArray⟩
theorem bs_ext {a : ByteArray} {l : List UInt8} (h : a.data.toList = l) : a = bs l := by
  subst h; rfl
theorem bs_list (l : List UInt8) : (bs l).data.toList = l := rfl
theorem extract_list (t : ByteArray) (a b : Nat) : (t.extract a b).data.toList = (t.data.toList.drop a).take (b - a) := by
  simp [ByteArray.data_extract, Array.toList_extract, List.extract_eq_take_drop]
theorem extract_bs (t : ByteArray) (a b : Nat) : t.extract a b = bs ((t.data.toList.drop a).take (b - a)) := bs_ext (extract_list t a b)

@[go_sem] theorem setCell_drewN (w : World) (n : Nat) (a : Addr) (v : Value) : (w.drewN n).setCell a v = (w.setCell a v).drewN n := rfl
@[go_sem] theorem alloc_drewN (w : World) (n : Nat) (o : Obj) : (w.drewN n).alloc o = (w.alloc o).drewN n := rfl

end Go.Proofs.YtfkcphflcmpenaaDoor
