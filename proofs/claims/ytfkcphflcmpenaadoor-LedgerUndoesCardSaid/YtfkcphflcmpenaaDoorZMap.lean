/-
  A map in memory as a function from keys to values: look-up, store, making. NO PROGRAM IN THIS TEXT.
-/
import Derived.Test.YtfkcphflcmpenaaDoorZBase2
import Derived.Maps.Own
import Derived.Maps.OwnOps
import Derived.Maps.OwnSet
namespace Go.Proofs.YtfkcphflcmpenaaDoor
open Go.RowKit Go.Maps

/-- every value reads as itself -/
def readV (v : Value) : Option (DataW Value × List MemPlace) := some (.held v, [])

def lookD (D : DataW Value) (kl : Lit) : Option Value := match D.atKey kl .nil with | .held v => some v | _ => none

/-- block b is a map of at most n entries that holds f x at key x -/
def MapF (w : World) (P : Program) (k : TypeId) (b n : Nat) (f : Value → Option Value) : Prop :=
  ∃ D : DataW Value, w.ownsMap P k readV b n D ∧ ∀ x kl, keyOf P k x = some kl → f x = lookD D kl

section
variable {w : World} {P : Program} {k : TypeId} {b n : Nat} {f : Value → Option Value}

theorem MapF.made (w : World) (P : Program) (k : TypeId) : MapF (w.alloc (.map #[] 0)) P k w.heap.size 0 (fun _ => none) :=
  ⟨.map [], World.ownsMap_made _ _ _ _, fun _ _ _ => rfl⟩

theorem MapF.kept {w' : World} {row : Option Nat} (h : MapF w P k b n f) (hg : w.grownBy w' row) (hne : some b ≠ row) : MapF w' P k b n f := by
  obtain ⟨D, h1, h2⟩ := h
  exact ⟨D, h1.kept hg hne, h2⟩
theorem MapF.lt (h : MapF w P k b n f) : b < w.heap.size := by
  obtain ⟨D, h1, _⟩ := h
  exact h1.lt
theorem MapF.below {w' : World} (h : MapF w P k b n f) (hb : Below w.heap.size w w') : MapF w' P k b n f := h.kept (Below.grows hb none) (by simp)
theorem MapF.mono {n' : Nat} (h : MapF w P k b n f) (hn : n ≤ n') : MapF w P k b n' f := by
  obtain ⟨D, h1, h2⟩ := h
  exact ⟨D, h1.mono hn, h2⟩
theorem MapF.congr {f' : Value → Option Value} (h : MapF w P k b n f) (hf : ∀ x kl, keyOf P k x = some kl → f' x = f x) : MapF w P k b n f' := by
  obtain ⟨D, h1, h2⟩ := h
  exact ⟨D, h1, fun x kl hk => (hf x kl hk).trans (h2 x kl hk)⟩

/-- a block that is a map holds no cells -/
theorem MapF.not_cells (h : MapF w P k b n f) : ∃ o : Obj, w.heap[b]? = some o ∧ (match o with | .cells .. => false | _ => true) = true := by
  obtain ⟨D, ⟨es, clock, hb, _⟩, _⟩ := h
  exact ⟨_, hb, rfl⟩

theorem read_held {D : DataW Value} {kl : Lit} {z v : Value} {ps : List MemPlace} (hD : IsMap D) (h : readV v = some (D.atKey kl (.held z), ps)) : v = (lookD D kl).getD z := by
  obtain ⟨es, rfl⟩ := hD
  unfold readV at h
  simp only [Option.some.injEq, Prod.mk.injEq] at h
  obtain ⟨h1, _⟩ := h
  unfold lookD
  unfold DataW.atKey at h1 ⊢
  simp only at h1 ⊢
  cases hf : es.find? (fun p => p.1.sameKey kl) with
  | none => rw [hf] at h1; simp only at h1 ⊢; cases h1; rfl
  | some p =>
    rw [hf] at h1
    simp only at h1 ⊢
    rw [← h1]
    rfl

/-- 'm[x]' -/
theorem MapF.get {t e : TypeId} (h : MapF w P k b n f) (K : Keyed P k) (ht : P.underlying t = some (.map k e)) {z : Value} (hz : (zeroValue e).run P w = .ok z w) {x : Value} {kl : Lit} (hk : keyOf P k x = some kl) :
    (Instr.lookup t (.map (some b)) x false).run P w = .ok ((f x).getD z) w := by
  obtain ⟨D, h1, h2⟩ := h
  obtain ⟨v, ps, hr, hv⟩ := h1.lookup K ht hz (zd := .held z) (zp := []) rfl hk
  rw [hr, h2 x kl hk, read_held h1.isMap hv]

theorem has_look {D : DataW Value} {kl : Lit} {v : Value} {ps : List MemPlace} {z : Value} (hD : IsMap D) (hv : readV v = some (D.atKey kl (.held z), ps)) : Maps.has D kl = (lookD D kl).isSome := by
  obtain ⟨es, rfl⟩ := hD
  unfold readV at hv
  simp only [Option.some.injEq, Prod.mk.injEq] at hv
  obtain ⟨h1, _⟩ := hv
  unfold lookD Maps.has
  unfold DataW.atKey at h1 ⊢
  simp only at h1 ⊢
  cases hf : es.find? (fun p => p.1.sameKey kl) with
  | none =>
    have : es.any (fun p => p.1.sameKey kl) = false := by
      rw [Bool.eq_false_iff]; intro h
      rw [List.any_eq_true] at h
      obtain ⟨p, hp, hs⟩ := h
      exact absurd hs (by simpa using List.find?_eq_none.1 hf p hp)
    rw [this]; rfl
  | some p =>
    rw [hf] at h1
    simp only at h1 ⊢
    have : es.any (fun p => p.1.sameKey kl) = true := by
      rw [List.any_eq_true]
      have h5 := List.find?_some hf
      exact ⟨p, List.mem_of_find?_eq_some hf, h5⟩
    rw [this, ← h1]; rfl

/-- 'v, ok := m[x]' -/
theorem MapF.getOk {t e : TypeId} (h : MapF w P k b n f) (K : Keyed P k) (ht : P.underlying t = some (.map k e)) {z : Value} (hz : (zeroValue e).run P w = .ok z w) {x : Value} {kl : Lit} (hk : keyOf P k x = some kl) :
    (Instr.lookup t (.map (some b)) x true).run P w = .ok (.tuple #[(f x).getD z, .bool (f x).isSome]) w := by
  obtain ⟨D, h1, h2⟩ := h
  obtain ⟨v, ps, hr, hv⟩ := h1.look_ok K ht hz (zd := .held z) (zp := []) rfl hk
  rw [hr, h2 x kl hk, ← read_held h1.isMap hv, has_look h1.isMap hv]

/-- 'm[x] = v' -/
theorem MapF.put {t e : TypeId} (h : MapF w P k b n f) (K : Keyed P k) (ht : P.underlying t = some (.map k e)) (hn : n < maxLen) {x v : Value} {kl : Lit} (hk : keyOf P k x = some kl) {f' : Value → Option Value} (h1 : f' x = some v) (h2 : ∀ y, y ≠ x → f' y = f y) :
    ∃ w', (Instr.mapUpdate t (.map (some b)) x v).run P w = .ok () w' ∧ MapF w' P k b (n + 1) f' ∧ w.grownBy w' (some b) := by
  obtain ⟨D, g1, g2⟩ := h
  obtain ⟨w', hr, ho, hg⟩ := g1.update K ht hn hk (d := .held v) (ps := []) rfl
  refine ⟨w', hr, ⟨_, ho, fun y ky hy => ?_⟩, hg⟩
  by_cases hyx : y = x
  · subst hyx
    rw [hk] at hy; cases hy
    rw [h1]
    unfold lookD
    rw [atKey_put_same g1.isMap (K.key hk)]
  · have hne : ky ≠ kl := fun e => by subst e; exact hyx (K.inj hy hk)
    rw [h2 y hyx, g2 y ky hy]
    unfold lookD
    rw [atKey_put_other hne]

/-- 'len(m)', all keys known -/
theorem MapF.le (h : MapF w P k b n f) : True := trivial

variable {ops : Array Oper} {rest : List Oper} {o : Oper} {a : Act} {Q : Exit → Act → World → Prop}

/-- 'm[x]' at the operation, for the walk -/
theorem wpList_get (w : World) (hg : o.guard = none) (m x : Operand) (t e : TypeId) (hop : o.op = Op.lookup t m x false) (K : Keyed P k) (ht : P.underlying t = some (.map k e)) {z : Value} (hz : (zeroValue e).run P w = .ok z w)
    (hm : a.eval m = .map (some b)) (h : MapF w P k b n f) (key : Value) (kl : Lit) (hx : a.eval x = key) (hk : keyOf P k key = some kl) (hK : wpList P ops Q rest (a.put o.dst ((f key).getD z)) w) :
    wpList P ops Q (o :: rest) a w := by
  refine wpList_plain hg fun K' hK' => ?_
  have hr := h.get K ht hz hk
  unfold Oper.wp
  simp [execOp, hop, hm, hx, hr, Result.andThen]
  exact hK' _ _ hK

theorem wpList_getOk (w : World) (hg : o.guard = none) (m x : Operand) (t e : TypeId) (hop : o.op = Op.lookup t m x true) (K : Keyed P k) (ht : P.underlying t = some (.map k e)) {z : Value} (hz : (zeroValue e).run P w = .ok z w)
    (hm : a.eval m = .map (some b)) (h : MapF w P k b n f) (key : Value) (kl : Lit) (hx : a.eval x = key) (hk : keyOf P k key = some kl) (hK : wpList P ops Q rest (a.put o.dst (.tuple #[(f key).getD z, .bool (f key).isSome])) w) :
    wpList P ops Q (o :: rest) a w := by
  refine wpList_plain hg fun K' hK' => ?_
  have hr := h.getOk K ht hz hk
  unfold Oper.wp
  simp [execOp, hop, hm, hx, hr, Result.andThen]
  exact hK' _ _ hK

/-- 'm[x] = v' at the operation, for the walk -/
theorem wpList_put (w : World) (hg : o.guard = none) (m x v : Operand) (t e : TypeId) (hop : o.op = Op.mapUpdate t m x v) (K : Keyed P k) (ht : P.underlying t = some (.map k e))
    (hm : a.eval m = .map (some b)) (h : MapF w P k b n f) (hn : n < maxLen) (key val : Value) (kl : Lit) (hx : a.eval x = key) (hv : a.eval v = val) (hk : keyOf P k key = some kl)
    (f' : Value → Option Value) (h1 : f' key = some val) (h2 : ∀ y, y ≠ key → f' y = f y)
    (hK : ∀ w', MapF w' P k b (n + 1) f' → w.grownBy w' (some b) → wpList P ops Q rest (a.put o.dst undef) w') : wpList P ops Q (o :: rest) a w := by
  refine wpList_plain hg fun K' hK' => ?_
  obtain ⟨w', hr, r1, r2⟩ := h.put K ht hn hk h1 h2
  unfold Oper.wp
  simp [execOp, hop, hm, hx, hv, hr, Result.andThen]
  exact hK' _ _ (hK w' r1 r2)

end
end Go.Proofs.YtfkcphflcmpenaaDoor
