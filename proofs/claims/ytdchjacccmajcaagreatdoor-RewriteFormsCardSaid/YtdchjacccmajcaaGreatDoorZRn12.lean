/-
  The law file's least: the grid in memory. Conditions: lengths; the library's tables.
-/
import Derived.Test.YtdchjacccmajcaaGreatDoorZRn11
import Derived.Test.YtdchjacccmajcaaGreatDoorZRnLeast
namespace Fo
open Al (R fits)
/-- done: all rules at the places ahead, the first rules here -/
def Dn1 (k : Int) (l : List Rw.Rule) (i x : Nat) : Nat → R → Nat → Prop := fun i' r _ => (i' < i ∧ r ∈ Al.rulesFrom k 0 l) ∨ (i' = i ∧ r ∈ Al.rulesFrom k 0 (l.take x))
def Dn2 (k : Int) (l : List Rw.Rule) (i x : Nat) (ρ : R) (kk : Nat) : Nat → R → Nat → Prop := fun i' r k' => Dn1 k l i x i' r k' ∨ (i' = i ∧ r = ρ ∧ k' < kk)
section
variable {L : List (List UInt8)} {k : Int} {l : List Rw.Rule} {form : List UInt8} {i x : Nat} {B : Nat → Nat → Int} {q : Rw.Rule} {f : List (List UInt8)}
theorem Dn1.upto : Upto (Al.rulesFrom k 0 l) (Dn1 k l i x) i := by
  refine ⟨fun i' r k' h => ?_, fun i' r k' h hr => .inl ⟨h, hr⟩⟩
  rcases h with h | h
  · exact h.2
  · exact rules_sub r h.2
theorem Dn2.upto {ρ : R} {kk : Nat} (hρ : ρ ∈ Al.rulesFrom k 0 l) : Upto (Al.rulesFrom k 0 l) (Dn2 k l i x ρ kk) i := by
  refine ⟨fun i' r k' h => ?_, fun i' r k' h hr => .inl (.inl ⟨h, hr⟩)⟩
  rcases h with h | h
  · exact Dn1.upto.1 i' r k' h
  · rw [h.2.1]; exact hρ
theorem Grd.begin : Grd L (Al.rulesFrom k 0 l) form (Dn1 k l 0 0) (fun j m => if j = 0 ∧ m = 0 then 0 else -1) :=
  Grd.start.congr fun i r k' _ => ⟨fun h => h.elim, fun h => by
    rcases h with h | h
    · omega
    · simp [Al.rulesFrom] at h⟩
theorem Grd.row (g : Grd L (Al.rulesFrom k 0 l) form (Dn1 k l i l.length) B) : Grd L (Al.rulesFrom k 0 l) form (Dn1 k l (i + 1) 0) B :=
  g.congr fun i' r k' _ => by
    unfold Dn1
    rw [List.take_length]
    constructor
    · rintro (h | h)
      · exact .inl ⟨by omega, h.2⟩
      · exact .inl ⟨by omega, h.2⟩
    · rintro (h | h)
      · by_cases hi : i' = i
        · exact .inr ⟨hi, h.2⟩
        · exact .inl ⟨by omega, h.2⟩
      · simp [Al.rulesFrom] at h
theorem Grd.other (hq : l[x]? = some q) (hk : ¬ q.script = k) (g : Grd L (Al.rulesFrom k 0 l) form (Dn1 k l i x) B) : Grd L (Al.rulesFrom k 0 l) form (Dn1 k l i (x + 1)) B := by
  unfold Dn1 at *
  rw [rules_pass hq hk]
  exact g
theorem Grd.unfit (hq : l[x]? = some q) (hf : Sc.lets q.script q.from_ = some f) (hk : q.script = k) (hn : fits L ⟨x, q.cost, f, q.to_⟩ i = false) (g : Grd L (Al.rulesFrom k 0 l) form (Dn1 k l i x) B) : Grd L (Al.rulesFrom k 0 l) form (Dn1 k l i (x + 1)) B := by
  subst hk
  refine g.congr fun i' r k' ⟨c', j, m, c, hs⟩ => ?_
  unfold Dn1
  rw [rules_step hq hf]
  constructor
  · rintro (h | h)
    · exact .inl h
    · exact .inr ⟨h.1, List.mem_append_left _ h.2⟩
  · rintro (h | h)
    · exact .inl h
    · rcases List.mem_append.1 h.2 with h2 | h2
      · exact .inr ⟨h.1, h2⟩
      · rw [List.mem_singleton] at h2
        have := hs.fit
        rw [h2, h.1, hn] at this
        cases this
theorem Grd.in_ {ρ : R} (g : Grd L (Al.rulesFrom k 0 l) form (Dn1 k l i x) B) : Grd L (Al.rulesFrom k 0 l) form (Dn2 k l i x ρ 0) B :=
  g.congr fun i' r k' _ => ⟨fun h => .inl h, fun h => by
    rcases h with h | h
    · exact h
    · omega⟩
theorem Grd.tick {ρ : R} {kk : Nat} (g : Grd L (Al.rulesFrom k 0 l) form (And1 (Dn2 k l i x ρ kk) i ρ kk) B) : Grd L (Al.rulesFrom k 0 l) form (Dn2 k l i x ρ (kk + 1)) B :=
  g.congr fun i' r k' _ => by
    unfold And1 Dn2
    constructor
    · rintro ((h | h) | h)
      · exact .inl h
      · exact .inr ⟨h.1, h.2.1, by omega⟩
      · exact .inr ⟨h.1, h.2.1, by omega⟩
    · rintro (h | h)
      · exact .inl (.inl h)
      · by_cases hkk : k' = kk
        · exact .inr ⟨h.1, h.2.1, hkk⟩
        · exact .inl (.inr ⟨h.1, h.2.1, by omega⟩)
theorem Grd.out_ {kk : Nat} (hq : l[x]? = some q) (hf : Sc.lets q.script q.from_ = some f) (hk : q.script = k) (hlen : ¬ kk + q.to_.length ≤ form.length) (g : Grd L (Al.rulesFrom k 0 l) form (Dn2 k l i x ⟨x, q.cost, f, q.to_⟩ kk) B) : Grd L (Al.rulesFrom k 0 l) form (Dn1 k l i (x + 1)) B := by
  subst hk
  refine g.congr fun i' r k' ⟨c', j, m, c, hs⟩ => ?_
  unfold Dn2 Dn1
  rw [rules_step hq hf]
  constructor
  · rintro ((h | h) | h)
    · exact .inl h
    · exact .inr ⟨h.1, List.mem_append_left _ h.2⟩
    · exact .inr ⟨h.1, List.mem_append_right _ (by rw [h.2.1]; exact List.mem_singleton.2 rfl)⟩
  · rintro (h | h)
    · exact .inl (.inl h)
    · rcases List.mem_append.1 h.2 with h2 | h2
      · exact .inl (.inr ⟨h.1, h2⟩)
      · rw [List.mem_singleton] at h2
        refine .inr ⟨h.1, h2, ?_⟩
        have := hs.le
        rw [h2] at this
        simp only at this
        omega
theorem rule_here (hq : l[x]? = some q) (hf : Sc.lets q.script q.from_ = some f) (hk : q.script = k) : (⟨x, q.cost, f, q.to_⟩ : R) ∈ Al.rulesFrom k 0 l := by
  subst hk
  exact rules_sub (n := x + 1) _ (by rw [rules_step hq hf]; exact List.mem_append_right _ (List.mem_singleton.2 rfl))
end
end Fo
namespace Go.Proofs.YtdchjacccmajcaaGreatDoor
open Go.RowKit Go.Lib Go.Maps

/-- a row of the grid, the slices of its rows -/
def rowV (B : Nat → Nat → Int) (j m : Nat) : List Value := (List.range m).map fun k => .int .i64 (B j k)
def slV (b0 n m q : Nat) : List Value := (List.range n).map fun j => if j < q then .slice (some ⟨b0 + 1 + j, 0, none⟩) m m else .slice none 0 0
theorem rowV_get {B : Nat → Nat → Int} {j m k : Nat} (h : k < m) : (rowV B j m)[k]? = some (.int .i64 (B j k)) := by
  unfold rowV
  rw [List.getElem?_map, List.getElem?_range h]
  rfl
theorem slV_get {b0 n m q j : Nat} (h : j < n) (hq : j < q) : (slV b0 n m q)[j]? = some (.slice (some ⟨b0 + 1 + j, 0, none⟩) m m) := by
  unfold slV
  rw [List.getElem?_map, List.getElem?_range h]
  simp [hq]
theorem slV_nil {b0 n m q j : Nat} (h : j < n) (hq : ¬ j < q) : (slV b0 n m q)[j]? = some (.slice none 0 0) := by
  unfold slV
  rw [List.getElem?_map, List.getElem?_range h]
  simp [hq]
theorem rowV_congr {B B' : Nat → Nat → Int} {j m : Nat} (h : ∀ k < m, B j k = B' j k) : rowV B j m = rowV B' j m := by
  unfold rowV
  refine List.map_congr_left fun k hk => ?_
  rw [h k (List.mem_range.1 hk)]
theorem rowV_set {B : Nat → Nat → Int} {j m k : Nat} (v : Int) : (rowV B j m).set k (.int .i64 v) = rowV (Fo.put2 B j k v) j m := by
  apply List.ext_getElem?
  intro a
  by_cases ha : a < m
  · rw [rowV_get ha]
    by_cases hk : a = k
    · subst hk
      rw [List.getElem?_set_self (by unfold rowV; simpa using ha)]
      unfold Fo.put2
      simp
    · rw [List.getElem?_set_ne (by omega), rowV_get ha]
      unfold Fo.put2
      simp [hk]
  · rw [List.getElem?_eq_none (by rw [List.length_set]; unfold rowV; simpa using ha), List.getElem?_eq_none (by unfold rowV; simpa using ha)]
theorem slV_set {b0 n m q : Nat} : (slV b0 n m q).set q (.slice (some ⟨b0 + 1 + q, 0, none⟩) m m) = slV b0 n m (q + 1) := by
  apply List.ext_getElem?
  intro a
  by_cases ha : a < n
  · by_cases hk : a = q
    · subst hk
      rw [List.getElem?_set_self (by unfold slV; simpa using ha), slV_get ha (by omega)]
    · rw [List.getElem?_set_ne (by omega)]
      by_cases haq : a < q
      · rw [slV_get ha haq, slV_get ha (by omega)]
      · rw [slV_nil ha haq, slV_nil ha (by omega)]
  · rw [List.getElem?_eq_none (by rw [List.length_set]; unfold slV; simpa using ha), List.getElem?_eq_none (by unfold slV; simpa using ha)]
theorem slV_zero (b0 n m : Nat) : slV b0 n m 0 = List.replicate n (.slice none 0 0) := by
  apply List.ext_getElem?
  intro a
  by_cases ha : a < n
  · rw [slV_nil ha (by omega), List.getElem?_replicate, if_pos ha]
  · rw [List.getElem?_eq_none (by unfold slV; simpa using ha), List.getElem?_eq_none (by simpa using ha)]
theorem rowV_zero (m j : Nat) : rowV (fun _ _ => 0) j m = List.replicate m (.int .i64 0) := by
  unfold rowV
  rw [List.map_const', List.length_range]

/-- the grid in memory, its first q rows -/
structure GrM (W0 : World) (b0 n m q : Nat) (B : Nat → Nat → Int) (X : World) : Prop where
  outer : Blk X b0 35 (slV b0 n m q)
  rows : ∀ j < q, Blk X (b0 + 1 + j) 3 (rowV B j m)
  below : Below W0.heap.size W0 X
section
variable {W0 X Y : World} {b0 n m q : Nat} {B B' : Nat → Nat → Int}
theorem GrM.step (h : GrM W0 b0 n m q B X) (hb : Below X.heap.size X Y) : GrM W0 b0 n m q B Y := ⟨h.outer.below hb, fun j hj => (h.rows j hj).below hb, Below.step h.below hb⟩
theorem GrM.congr (h : GrM W0 b0 n m q B X) (hB : ∀ j < q, ∀ k < m, B j k = B' j k) : GrM W0 b0 n m q B' X := ⟨h.outer, fun j hj => by rw [← rowV_congr (hB j hj)]; exact h.rows j hj, h.below⟩
theorem GrM.put (h : GrM W0 b0 n m q B X) (h0 : W0.heap.size ≤ b0) {j k : Nat} (hj : j < q) (v : Int) : GrM W0 b0 n m q (Fo.put2 B j k v) (X.setCell ⟨b0 + 1 + j, k, none⟩ (.int .i64 v)) := by
  refine ⟨h.outer.other (by omega) _, fun a ha => ?_, h.below.setCell (p := ⟨b0 + 1 + j, k, none⟩) (by show W0.heap.size ≤ b0 + 1 + j; omega) _⟩
  by_cases haj : a = j
  · subst haj
    rw [← rowV_set]
    exact (h.rows a ha).set k _
  · have : rowV (Fo.put2 B j k v) a m = rowV B a m := rowV_congr fun k' _ => by unfold Fo.put2; rw [if_neg (by omega)]
    rw [this]
    exact (h.rows a ha).other (by omega) _
theorem GrM.get (h : GrM W0 b0 n m q B X) {j k : Nat} (hj : j < q) (hn : q ≤ n) (hk : k < m) : X.cell? ⟨b0, j, none⟩ = some (.slice (some ⟨b0 + 1 + j, 0, none⟩) m m) ∧ b0 < X.heap.size ∧ X.cell? ⟨b0 + 1 + j, k, none⟩ = some (.int .i64 (B j k)) ∧ b0 + 1 + j < X.heap.size ∧ X.frozen? ⟨b0 + 1 + j, k, none⟩ = false :=
  ⟨h.outer.cell (slV_get (by omega) hj), h.outer.lt, (h.rows j hj).cell (rowV_get hk), (h.rows j hj).lt, (h.rows j hj).frozen k⟩
end
/-- the grid while it is filled with -1 -/
def Bi (i k : Nat) : Nat → Nat → Int := fun j k' => if j < i ∨ (j = i ∧ k' < k) then -1 else 0

end Go.Proofs.YtdchjacccmajcaaGreatDoor
