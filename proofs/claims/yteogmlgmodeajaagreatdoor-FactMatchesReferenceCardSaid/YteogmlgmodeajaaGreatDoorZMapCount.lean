/-
  A map in memory as a function, its length known: store of a new key, delete, len. NO PROGRAM IN THIS TEXT.
-/
import Derived.Test.YteogmlgmodeajaaGreatDoorZMBase
namespace Go.Proofs.YteogmlgmodeajaaGreatDoor
open Go.RowKit Go.Maps

/-- block b is a map of just n entries that holds f x at key x -/
def MapC (w : World) (P : Program) (k : TypeId) (b n : Nat) (f : Value → Option Value) : Prop :=
  ∃ D : DataW Value, w.ownsMap P k readV b n D ∧ Maps.size D = n ∧ ∀ x kl, keyOf P k x = some kl → f x = lookD D kl

section
variable {w : World} {P : Program} {k : TypeId} {b n : Nat} {f : Value → Option Value}

theorem MapC.mapF (h : MapC w P k b n f) : MapF w P k b n f := by
  obtain ⟨D, h1, _, h2⟩ := h
  exact ⟨D, h1, h2⟩
theorem MapC.made (w : World) (P : Program) (k : TypeId) : MapC (w.alloc (.map #[] 0)) P k w.heap.size 0 (fun _ => none) :=
  ⟨.map [], World.ownsMap_made _ _ _ _, rfl, fun _ _ _ => rfl⟩
theorem MapC.kept {w' : World} {row : Option Nat} (h : MapC w P k b n f) (hg : w.grownBy w' row) (hne : some b ≠ row) : MapC w' P k b n f := by
  obtain ⟨D, h1, h3, h2⟩ := h
  exact ⟨D, h1.kept hg hne, h3, h2⟩
theorem MapC.below {w' : World} (h : MapC w P k b n f) (hb : Below w.heap.size w w') : MapC w' P k b n f := h.kept (Below.grows hb none) (by simp)
theorem MapC.lt (h : MapC w P k b n f) : b < w.heap.size := h.mapF.lt

theorem own_has {D : DataW Value} {t e : TypeId} (h1 : w.ownsMap P k readV b n D) (K : Keyed P k) (ht : P.underlying t = some (.map k e)) {z : Value} (hz : (zeroValue e).run P w = .ok z w) {x : Value} {kl : Lit} (hk : keyOf P k x = some kl) : Maps.has D kl = (lookD D kl).isSome := by
  obtain ⟨v, ps, hr, hv⟩ := h1.look_ok K ht hz (zd := .held z) (zp := []) rfl hk
  exact has_look h1.isMap hv

/-- 'm[x] = v' where x is no key yet -/
theorem MapC.put_new {t e : TypeId} (h : MapC w P k b n f) (K : Keyed P k) (ht : P.underlying t = some (.map k e)) {z : Value} (hz : (zeroValue e).run P w = .ok z w) (hn : n < maxLen) {x v : Value} {kl : Lit} (hk : keyOf P k x = some kl) (hx : f x = none) {f' : Value → Option Value} (h1 : f' x = some v) (h2 : ∀ y, y ≠ x → f' y = f y) :
    ∃ w', (Instr.mapUpdate t (.map (some b)) x v).run P w = .ok () w' ∧ MapC w' P k b (n + 1) f' ∧ w.grownBy w' (some b) := by
  obtain ⟨D, g1, g3, g2⟩ := h
  have hh := own_has g1 K ht hz hk
  rw [← g2 x kl hk, hx] at hh
  obtain ⟨w', hr, ho, hg⟩ := g1.update K ht hn hk (d := .held v) (ps := []) rfl
  refine ⟨w', hr, ⟨_, ho, ?_, fun y ky hy => ?_⟩, hg⟩
  · rw [Maps.size_put (g1.tidy K), hh, g3]; rfl
  · by_cases hyx : y = x
    · subst hyx
      rw [hk] at hy; cases hy
      rw [h1]
      unfold lookD
      rw [atKey_put_same g1.isMap (K.key hk)]
    · have hne : ky ≠ kl := fun e => by subst e; exact hyx (K.inj hy hk)
      rw [h2 y hyx, g2 y ky hy]
      unfold lookD
      rw [atKey_put_other hne]

/-- 'delete(m, x)' where x is a key -/
theorem MapC.del {t e : TypeId} (h : MapC w P k b (n + 1) f) (K : Keyed P k) (ht : P.underlying t = some (.map k e)) {z : Value} (hz : (zeroValue e).run P w = .ok z w) {x : Value} {kl : Lit} (hk : keyOf P k x = some kl) (hx : (f x).isSome = true) {f' : Value → Option Value} (h1 : f' x = none) (h2 : ∀ y, y ≠ x → f' y = f y) (ty : TypeId) :
    ∃ w', (Builtin.delete_ #[t, k] ty #[.map (some b), x]).run P w = .ok (.tuple #[]) w' ∧ MapC w' P k b n f' ∧ w.grownBy w' (some b) := by
  obtain ⟨D, g1, g3, g2⟩ := h
  have hh := own_has g1 K ht hz hk
  rw [← g2 x kl hk, hx] at hh
  obtain ⟨w', hr, ho, hg⟩ := g1.drop K ht hk ty
  have hs := Maps.size_del (g1.tidy K) (k := kl)
  rw [hh, g3, if_pos rfl] at hs
  have hs' : Maps.size (D.del kl) = n := by omega
  refine ⟨w', hr, ⟨_, hs' ▸ MapF.tight ho, hs', fun y ky hy => ?_⟩, hg.grown⟩
  by_cases hyx : y = x
  · subst hyx
    rw [hk] at hy; cases hy
    rw [h1]
    unfold lookD
    rw [atKey_del_same]
  · have hne : ky ≠ kl := fun e => by subst e; exact hyx (K.inj hy hk)
    rw [h2 y hyx, g2 y ky hy]
    unfold lookD
    rw [atKey_del_other hne]

/-- 'len(m)' -/
theorem MapC.len {t e : TypeId} (h : MapC w P k b n f) (ht : P.underlying t = some (.map k e)) (ty : TypeId) : (Builtin.len_ #[t] ty #[.map (some b)]).run P w = .ok (.int .i64 n) w := by
  obtain ⟨D, g1, g3, _⟩ := h
  rw [g1.len ht ty, g3]

end
end Go.Proofs.YteogmlgmodeajaaGreatDoor
