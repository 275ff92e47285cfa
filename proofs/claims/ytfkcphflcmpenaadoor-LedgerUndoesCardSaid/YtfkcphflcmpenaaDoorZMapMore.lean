/-
  A map in memory as a function from keys to values: clearing, length, range. NO PROGRAM IN THIS TEXT.
-/
import Derived.Test.YtfkcphflcmpenaaDoorZMap
import Derived.Maps.RangeWalk
namespace Go.Proofs.YtfkcphflcmpenaaDoor
open Go.RowKit Go.Maps

section
variable {w : World} {P : Program} {k : TypeId} {b n : Nat} {f : Value → Option Value}

/-- 'clear(m)' -/
theorem MapF.cleared {t e : TypeId} (h : MapF w P k b n f) (ht : P.underlying t = some (.map k e)) (ty : TypeId) :
    ∃ w', (Builtin.clear_ #[t] ty #[.map (some b)]).run P w = .ok (.tuple #[]) w' ∧ MapF w' P k b 0 (fun _ => none) ∧ w.grownBy w' (some b) := by
  obtain ⟨D, ⟨es, clock, hb, F, _, _⟩, _⟩ := h
  refine ⟨ChangeMaps.setBlock w b (.map #[] clock), ?_, ⟨.map [], ⟨#[], clock, ChangeMaps.heap_setBlock_same hb _, ⟨by simp, MapKept.stamped_empty clock, by simp⟩, Nat.le_refl _, rfl⟩, fun _ _ _ => rfl⟩, ⟨rfl, rfl, rfl, by simp [ChangeMaps.setBlock], fun i _ hi => ChangeMaps.heap_setBlock_other hb _ (fun e => hi (by rw [e]))⟩⟩
  simp [Builtin.clear_, run_underlying ht, MapKept.run_getObj_map hb, MapKept.run_setObj_map _ hb, Result.andThen, ChangeMaps.setBlock]

/-- 'for k, v := range m' under way: 'lf x': is the entry at key x still to come? -/
def MapR (w : World) (P : Program) (k : TypeId) (b r n : Nat) (f : Value → Option Value) (lf : Value → Bool) (cnt : Nat) : Prop :=
  ∃ D left, World.ranges (H := Value) w P k readV b r n D left cnt ∧ (∀ x kl, keyOf P k x = some kl → f x = lookD D kl) ∧ ∀ x kl, keyOf P k x = some kl → lf x = left kl

variable {r cnt : Nat} {lf : Value → Bool}

theorem MapR.mapF (h : MapR w P k b r n f lf cnt) : MapF w P k b n f := by
  obtain ⟨D, left, h1, h2, _⟩ := h
  exact ⟨D, h1.owns, h2⟩
theorem MapR.kept {w' : World} {row : Option Nat} (h : MapR w P k b r n f lf cnt) (hg : w.grownBy w' row) (hb : some b ≠ row) (hr : some r ≠ row) : MapR w' P k b r n f lf cnt := by
  obtain ⟨D, left, h1, h2, h3⟩ := h
  exact ⟨D, left, h1.kept hg hb hr, h2, h3⟩
theorem MapR.left_eq (h : MapR w P k b r n f lf cnt) : w.rangeLeft b r = cnt := by
  obtain ⟨D, left, h1, _, _⟩ := h
  exact h1.left_eq
theorem MapR.lt (h : MapR w P k b r n f lf cnt) : r < w.heap.size := by
  obtain ⟨D, left, h1, _, _⟩ := h
  exact h1.lt
theorem MapR.ne (h : MapR w P k b r n f lf cnt) : r ≠ b := by
  obtain ⟨D, left, h1, _, _⟩ := h
  exact h1.ne

theorem look_has {D : DataW Value} {kl : Lit} (hD : IsMap D) (hv : ∀ v, lookD D kl = some v → True) : Maps.has D kl = (lookD D kl).isSome ∨ ∃ p, D.atKey kl .nil = p ∧ ∀ v, p ≠ .held v := by
  cases h : D.atKey kl .nil with
  | held v =>
    left
    obtain ⟨es, rfl⟩ := hD
    unfold lookD Maps.has
    rw [h]
    unfold DataW.atKey at h
    simp only at h
    cases hf : es.find? (fun p => p.1.sameKey kl) with
    | none => rw [hf] at h; simp only at h; cases h
    | some p =>
      have h5 := List.find?_some hf
      simp only [Option.isSome_some]
      rw [List.any_eq_true]
      exact ⟨p, List.mem_of_find?_eq_some hf, h5⟩
  | _ => right; exact ⟨_, rfl, fun v e => by cases e⟩

theorem MapF.tight {D : DataW Value} (h : w.ownsMap P k readV b n D) : w.ownsMap P k readV b (Maps.size D) D := by
  obtain ⟨es, clock, hb, F, _, rfl⟩ := h
  exact ⟨es, clock, hb, F, by simp [Maps.size, length_sorted], rfl⟩

/-- 'm[x] = v' where x is a key already -/
theorem MapF.put_there {t e : TypeId} (h : MapF w P k b n f) (K : Keyed P k) (ht : P.underlying t = some (.map k e)) (hn : n < maxLen) {x v : Value} {kl : Lit} (hk : keyOf P k x = some kl) (hx : (f x).isSome = true) {f' : Value → Option Value} (h1 : f' x = some v) (h2 : ∀ y, y ≠ x → f' y = f y) :
    ∃ w', (Instr.mapUpdate t (.map (some b)) x v).run P w = .ok () w' ∧ MapF w' P k b n f' ∧ w.grownBy w' (some b) := by
  obtain ⟨D, g1, g2⟩ := h
  obtain ⟨w', hr, ho, hg⟩ := g1.update K ht hn hk (d := .held v) (ps := []) rfl
  have hhas : Maps.has D kl = true := by
    rw [g2 x kl hk] at hx
    rcases look_has g1.isMap (kl := kl) (fun _ _ => trivial) with e | ⟨p, e, hp⟩
    · rw [e]; exact hx
    · unfold lookD at hx
      rw [e] at hx
      cases p with
      | held v => exact absurd rfl (hp v)
      | _ => simp at hx
  refine ⟨w', hr, ⟨_, (MapF.tight ho).mono ?_, fun y ky hy => ?_⟩, hg⟩
  · rw [Maps.size_put (g1.tidy K), if_pos hhas]
    exact g1.size_le
  · by_cases hyx : y = x
    · subst hyx
      rw [hk] at hy; cases hy
      rw [h1]
      unfold lookD
      rw [atKey_put_same g1.isMap (K.key hk)]
    · have hne : ky ≠ kl := fun e => by subst e; exact hyx (K.inj hy hk)
      rw [h2 y hyx, g2 y ky hy]
      unfold lookD
      rw [atKey_put_other hne]

variable {ops : Array Oper} {rest : List Oper} {o : Oper} {a : Act} {Q : Exit → Act → World → Prop}

/-- 'clear(m)' at the operation, for the walk -/
theorem wpList_clear (w : World) (hg : o.guard = none) (m : Operand) (t e : TypeId) (hop : o.op = Op.call { callee := Callee.builtin Builtin.clear, args := #[m], argTypes := #[t] }) (ht : P.underlying t = some (.map k e))
    (hm : a.eval m = .map (some b)) (h : MapF w P k b n f) (hK : ∀ w', MapF w' P k b 0 (fun _ => none) → w.grownBy w' (some b) → wpList P ops Q rest (a.put o.dst (.tuple #[])) w') : wpList P ops Q (o :: rest) a w := by
  refine wpList_plain hg fun K' hK' => ?_
  obtain ⟨w', hr, r1, r2⟩ := h.cleared ht o.type
  unfold Oper.wp
  simp [execOp, hop, resolve, invoke, builtin, hm, hr, Result.andThen]
  exact hK' _ _ (hK w' r1 r2)

/-- 'len(m)' at the operation, for the walk: at most n -/
theorem wpList_len_map (w : World) (hg : o.guard = none) (m : Operand) (t e : TypeId) (hop : o.op = Op.call { callee := Callee.builtin Builtin.len, args := #[m], argTypes := #[t] }) (ht : P.underlying t = some (.map k e))
    (hm : a.eval m = .map (some b)) (h : MapF w P k b n f) (hK : ∀ j : Nat, j ≤ n → wpList P ops Q rest (a.put o.dst (.int .i64 (j : Int))) w) : wpList P ops Q (o :: rest) a w := by
  obtain ⟨D, h1, _⟩ := h
  refine wpList_plain hg fun K' hK' => ?_
  unfold Oper.wp
  simp [execOp, hop, resolve, invoke, builtin, hm, h1.len ht o.type, Result.andThen]
  exact hK' _ _ (hK _ h1.size_le)

/-- 'range m' at the operation, for the walk -/
theorem wpList_rangeM (w : World) (hg : o.guard = none) (m : Operand) (t : TypeId) (hop : o.op = Op.range t m) (e : TypeId) (K : Keyed P k) (ht : P.underlying t = some (.map k e))
    (hm : a.eval m = .map (some b)) (h : MapF w P k b n f)
    (hK : ∀ w' lf cnt, MapR w' P k b w.heap.size n f lf cnt → (∀ x kl, keyOf P k x = some kl → (f x).isSome = true → lf x = true) → w.grownBy w' none → w'.heap.size = w.heap.size + 1 → wpList P ops Q rest (a.put o.dst (.pointer (some ⟨w.heap.size, 0, none⟩))) w') :
    wpList P ops Q (o :: rest) a w := by
  obtain ⟨D, h1, h2⟩ := h
  refine wpList_range_own w hg m t hop k e K ht readV b n D hm h1 fun w' hr hg hs => ?_
  refine hK w' (fun x => match keyOf P k x with | some kl => Maps.has D kl | none => false) _ ⟨D, _, hr, h2, fun x kl hk => by simp only [hk]⟩ (fun x kl hk hx => ?_) hg hs
  simp only [hk]
  rw [h2 x kl hk] at hx
  rcases look_has h1.isMap (kl := kl) (fun _ _ => trivial) with e | ⟨p, e, hp⟩
  · rw [e]; exact hx
  · unfold lookD at hx
    rw [e] at hx
    cases p with
    | held v => exact absurd rfl (hp v)
    | _ => simp at hx

/-- the step, the keys' values of a form mkK -/
theorem wpList_nextM {α : Type} (w : World) (hg : o.guard = none) (it : Operand) (hop : o.op = Op.next it false) (K : Keyed P k) (mkK : α → Value) (invK : ∀ key kl, keyOf P k key = some kl → ∃ x, key = mkK x)
    (hit : a.eval it = .pointer (some ⟨r, 0, none⟩)) (h : MapR w P k b r n f lf cnt)
    (hDone : (∀ x kl, keyOf P k x = some kl → lf x = false) → wpList P ops Q rest (a.put o.dst (.tuple #[.bool false])) w)
    (hMore : ∀ (x : α) (c : Value) (kl : Lit) (w' : World) (cnt' : Nat), keyOf P k (mkK x) = some kl → lf (mkK x) = true → f (mkK x) = some c → (∀ lf' : Value → Bool, lf' (mkK x) = false → (∀ y, y ≠ mkK x → lf' y = lf y) → MapR w' P k b r n f lf' cnt') → cnt' < cnt →
      w.grownBy w' (some r) → w'.heap.size = w.heap.size → (Instr.entry (.pointer (some ⟨r, 0, none⟩))).run P w' = .ok (.tuple #[mkK x, c]) w' → wpList P ops Q rest (a.put o.dst (.tuple #[.bool true, mkK x, c])) w') :
    wpList P ops Q (o :: rest) a w := by
  obtain ⟨D, left, h1, h2, h3⟩ := h
  refine wpList_next_ranges (α := α) (β := Value) w hg it hop k K readV mkK id invK (fun v y _ => ⟨v, rfl⟩) b r n D left cnt hit h1 (fun _ hl => hDone fun x kl hk => (h3 x kl hk).trans (hl kl)) ?_
  intro x c kl y w' cnt' hk hl hR hat hr hlt hg hs hen
  unfold readV at hR
  simp only [id, Option.some.injEq] at hR
  refine hMore x c kl w' cnt' hk ((h3 _ _ hk).trans hl) ?_ (fun lf' e1 e2 => ⟨D, _, hr, h2, fun z kz hz => ?_⟩) hlt hg hs hen
  · rw [h2 _ _ hk]
    unfold lookD
    rw [hat, ← hR]
  · by_cases hzx : z = mkK x
    · subst hzx
      rw [hk] at hz; cases hz
      rw [e1, WideAt.sameKey_self (K.key hk)]
      simp
    · rw [e2 z hzx, h3 z kz hz, Maps.sameKey_ne (fun e => hzx (by subst e; exact K.inj hz hk))]
      simp

end
end Go.Proofs.YtfkcphflcmpenaaDoor
