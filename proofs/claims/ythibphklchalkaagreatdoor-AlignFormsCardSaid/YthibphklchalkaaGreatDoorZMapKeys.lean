/-
  A map in memory keyed by strings: its keys, its length, a range with a bound on what is left. NO PROGRAM IN THIS TEXT.
-/
import Derived.Test.YthibphklchalkaaGreatDoorZMBase
import Derived.Sort.KeysCollected
namespace Go.Proofs.YthibphklchalkaaGreatDoor
open Go.RowKit Go.Maps

section
variable {w : World} {P : Program} {k : TypeId} {b n : Nat} {f : Value → Option Value}

theorem keyOf_bs (hk : P.underlying k = some .string) {x : List UInt8} (hx : x.length ≤ maxLen) : keyOf P k (.string (bs x)) = some (.string x) := by
  simp [keyOf, hk, mapKey, bs, ByteArray.size, hx]

/-- the keys of a map -/
theorem MapF.keys {t e : TypeId} (h : MapF w P k b n f) (K : Keyed P k) (hk : P.underlying k = some .string) (ht : P.underlying t = some (.map k e)) {z : Value} (hz : (zeroValue e).run P w = .ok z w) :
    ∃ D : DataW Value, w.ownsMap P k readV b n D ∧ (∀ x kl, keyOf P k x = some kl → f x = lookD D kl) ∧ (strKeys D).Nodup ∧ (strKeys D).length = Maps.size D ∧ (∀ x ∈ strKeys D, x.length ≤ maxLen) ∧
      ∀ x : List UInt8, x.length ≤ maxLen → (x ∈ strKeys D ↔ (f (.string (bs x))).isSome = true) := by
  obtain ⟨D, h1, h2⟩ := h
  refine ⟨D, h1, h2, ?_, ?_, strKeys_le h1 hk, fun x hx => ?_⟩
  · obtain ⟨es, hD, hpw, _⟩ := h1.entries K
    obtain ⟨es', hD', hko⟩ := h1.keysOf
    obtain rfl : es = es' := by rw [hD] at hD'; simpa using hD'
    subst hD
    show (es.map fun p => strOf p.1).Nodup
    refine List.pairwise_map.2 (hpw.imp_of_mem fun {p q} hp' hq' hne e => hne ?_)
    obtain ⟨v, hv⟩ := hko p hp'
    obtain ⟨u, hu⟩ := hko q hq'
    obtain ⟨x, _, hx, _⟩ := Maps.keyOf_str hk hv
    obtain ⟨y, _, hy, _⟩ := Maps.keyOf_str hk hu
    rw [hx, hy] at e ⊢
    exact congrArg _ e
  · obtain ⟨es, rfl⟩ := h1.isMap
    simp [strKeys, Maps.size]
  · have hkx := keyOf_bs (P := P) hk hx
    obtain ⟨v, ps, hr, hv⟩ := h1.look_ok K ht hz (zd := .held z) (zp := []) rfl hkx
    rw [h2 _ _ hkx, ← has_look h1.isMap hv]
    obtain ⟨es, hD, hko⟩ := h1.keysOf
    subst hD
    rw [Maps.has_eq, List.any_eq_true]
    show x ∈ es.map (fun p => strOf p.1) ↔ _
    rw [List.mem_map]
    constructor
    · rintro ⟨p, hp, rfl⟩
      obtain ⟨u, hu⟩ := hko p hp
      obtain ⟨y, _, hy, _⟩ := Maps.keyOf_str hk hu
      exact ⟨p, hp, by rw [hy]; simp [Lit.sameKey, strOf]⟩
    · rintro ⟨p, hp, hs⟩
      obtain ⟨u, hu⟩ := hko p hp
      obtain ⟨y, _, hy, _⟩ := Maps.keyOf_str hk hu
      rw [hy] at hs
      exact ⟨p, hp, by rw [hy]; simpa [Lit.sameKey, strOf] using hs⟩

variable {ops : Array Oper} {rest : List Oper} {o : Oper} {a : Act} {Q : Exit → Act → World → Prop}

/-- 'len(m)' at the operation, for the walk: the number of the keys -/
theorem wpList_lenM (w : World) (hg : o.guard = none) (m : Operand) (t e : TypeId) (hop : o.op = Op.call { callee := Callee.builtin Builtin.len, args := #[m], argTypes := #[t] }) (K : Keyed P k) (hk : P.underlying k = some .string) (ht : P.underlying t = some (.map k e)) {z : Value} (hz : (zeroValue e).run P w = .ok z w)
    (hm : a.eval m = .map (some b)) (h : MapF w P k b n f) (hK : ∀ ks : List (List UInt8), MapF w P k b ks.length f → ks.Nodup → (∀ x ∈ ks, (f (.string (bs x))).isSome = true) → wpList P ops Q rest (a.put o.dst (.int .i64 (ks.length : Int))) w) : wpList P ops Q (o :: rest) a w := by
  obtain ⟨D, h1, h2, h3, h4, h5, h6⟩ := h.keys K hk ht hz
  refine wpList_plain hg fun K' hK' => ?_
  unfold Oper.wp
  simp [execOp, hop, resolve, invoke, builtin, hm, h1.len ht o.type, Result.andThen]
  have := hK (strKeys D) ⟨D, by rw [h4]; exact MapF.tight h1, h2⟩ h3 (fun x hx => (h6 x (h5 x hx)).1 hx)
  rw [h4] at this
  exact hK' _ _ this

/-- 'len(m)', as an equation -/
theorem MapF.lenEq {t e : TypeId} (h : MapF w P k b n f) (K : Keyed P k) (hk : P.underlying k = some .string) (ht : P.underlying t = some (.map k e)) {z : Value} (hz : (zeroValue e).run P w = .ok z w) :
    ∃ ks : List (List UInt8), MapF w P k b ks.length f ∧ ks.Nodup ∧ (∀ x ∈ ks, (f (.string (bs x))).isSome = true) ∧ ∀ ty, (Builtin.len_ #[t] ty #[.map (some b)]).run P w = .ok (.int .i64 (ks.length : Int)) w := by
  obtain ⟨D, h1, h2, h3, h4, h5, h6⟩ := h.keys K hk ht hz
  refine ⟨strKeys D, ⟨D, by rw [h4]; exact MapF.tight h1, h2⟩, h3, fun x hx => (h6 x (h5 x hx)).1 hx, fun ty => ?_⟩
  rw [h4]
  exact h1.len ht ty

/-- 'range m' at the operation, for the walk; what is left is no more than there are -/
theorem wpList_rangeN (w : World) (hg : o.guard = none) (m : Operand) (t : TypeId) (hop : o.op = Op.range t m) (e : TypeId) (K : Keyed P k) (ht : P.underlying t = some (.map k e))
    (hm : a.eval m = .map (some b)) (h : MapF w P k b n f)
    (hK : ∀ w' lf cnt, cnt ≤ n → MapR w' P k b w.heap.size n f lf cnt → (∀ x kl, keyOf P k x = some kl → (f x).isSome = true → lf x = true) → w.grownBy w' none → w'.heap.size = w.heap.size + 1 → wpList P ops Q rest (a.put o.dst (.pointer (some ⟨w.heap.size, 0, none⟩))) w') :
    wpList P ops Q (o :: rest) a w := by
  obtain ⟨D, h1, h2⟩ := h
  refine wpList_range_own w hg m t hop k e K ht readV b n D hm h1 fun w' hr hg hs => ?_
  refine hK w' (fun x => match keyOf P k x with | some kl => Maps.has D kl | none => false) _ h1.size_le ⟨D, _, hr, h2, fun x kl hk => by simp only [hk]⟩ (fun x kl hk hx => ?_) hg hs
  simp only [hk]
  rw [h2 x kl hk] at hx
  rcases look_has h1.isMap (kl := kl) (fun _ _ => trivial) with e | ⟨p, e, hp⟩
  · rw [e]; exact hx
  · unfold lookD at hx
    rw [e] at hx
    cases p with
    | held v => exact absurd rfl (hp v)
    | _ => simp at hx
end

/-- the block of a row -/
theorem row_blk {w : World} {base : Nat} {e : TypeId} {size : Nat} {v : Value} {n : Nat} {xs : List Value} (h : w.ownsRow base e size v n xs) {g : Nat} (hg : v.ownBlock = some g) : base ≤ g ∧ ∃ cs, w.heap[g]? = some (.cells cs e (0, 0)) := by
  rcases h.2 with ⟨rfl, _⟩ | ⟨g', cap, cur, rfl, hb, hh, _⟩
  · cases hg
  · obtain rfl : g' = g := by simpa [Value.ownBlock] using hg
    exact ⟨hb, _, hh⟩

/-! ### a block of slices, each a row of the call's own -/

structure Grid {α : Type} (w : World) (B : Nat) (e : TypeId) (sz : Nat) (cells : α → List Value) (vs : List Value) (tss : List (List α)) : Prop where
  len : vs.length = tss.length
  own : ∀ (j : Nat) (v : Value) (ts : List α), vs[j]? = some v → tss[j]? = some ts → w.ownsRow B e sz v ts.length (ts.flatMap cells)
  apart : ∀ (j j' : Nat) (v v' : Value) (g : Nat), vs[j]? = some v → vs[j']? = some v' → v.ownBlock = some g → v'.ownBlock = some g → j = j'

section
variable {α : Type} {w w' : World} {B : Nat} {e : TypeId} {sz : Nat} {cells : α → List Value} {vs : List Value} {tss : List (List α)}

theorem Grid.start (w : World) (B : Nat) (e : TypeId) (sz n : Nat) (cells : α → List Value) : Grid w B e sz cells (List.replicate n (.slice none 0 0)) (List.replicate n []) := by
  refine ⟨by simp, fun j v ts hv ht => ?_, fun j j' v v' g hv _ hg _ => ?_⟩
  · rw [List.getElem?_replicate] at hv ht
    split at hv
    · rename_i h
      rw [if_pos h] at ht
      cases hv; cases ht
      exact World.ownsRow_nil _ _ _ _
    · cases hv
  · rw [List.getElem?_replicate] at hv
    split at hv
    · cases hv; cases hg
    · cases hv
theorem Grid.kept {row : Option Nat} (h : Grid w B e sz cells vs tss) (hg : w.grownBy w' row) (hr : ∀ r, row = some r → ∀ cs, w.heap[r]? ≠ some (.cells cs e (0, 0))) : Grid w' B e sz cells vs tss := by
  refine ⟨h.len, fun j v ts hv ht => ?_, h.apart⟩
  have ho := h.own j v ts hv ht
  refine ho.kept hg ?_
  cases hb : v.ownBlock with
  | none => exact .inl rfl
  | some g =>
    refine .inr fun e2 => ?_
    obtain ⟨_, cs, h3⟩ := row_blk ho hb
    exact hr g e2.symm cs h3
theorem Grid.below (h : Grid w B e sz cells vs tss) (hb : Below w.heap.size w w') : Grid w' B e sz cells vs tss := h.kept (Below.grows hb none) (fun r e => by cases e)
theorem Grid.append {X w8 : World} {i : Nat} {v v' : Value} {ts : List α} {s : α} (h : Grid w B e sz cells vs tss) (hv : vs[i]? = some v) (ht : tss[i]? = some ts) (hX : Below w.heap.size w X) (hg : X.grownBy w8 v.ownBlock) (ho : w8.ownsRow B e sz v' (ts ++ [s]).length ((ts ++ [s]).flatMap cells))
    (hnew : v'.ownBlock = v.ownBlock ∨ v'.ownBlock = some X.heap.size) : Grid w8 B e sz cells (vs.set i v') (tss.set i (ts ++ [s])) := by
  have hi := (List.getElem?_eq_some_iff.1 hv).1
  have hi2 := (List.getElem?_eq_some_iff.1 ht).1
  have hXg := h.below hX
  refine ⟨by rw [List.length_set, List.length_set]; exact h.len, fun j u us hu hus => ?_, fun j j' u u' g hu hu' hg1 hg2 => ?_⟩
  · by_cases hj : i = j
    · subst hj
      rw [List.getElem?_set_self hi] at hu
      rw [List.getElem?_set_self hi2] at hus
      cases hu; cases hus
      exact ho
    · rw [List.getElem?_set_ne hj] at hu hus
      refine (hXg.own j u us hu hus).kept hg ?_
      cases hb : u.ownBlock with
      | none => exact .inl rfl
      | some g => exact .inr fun e2 => hj (h.apart i j v u g hv hu e2.symm hb)
  · by_cases hj : i = j
    · by_cases hj' : i = j'
      · omega
      · subst hj
        rw [List.getElem?_set_self hi] at hu
        rw [List.getElem?_set_ne hj'] at hu'
        cases hu
        obtain ⟨us, hus⟩ : ∃ us, tss[j']? = some us := ⟨_, List.getElem?_eq_getElem (by rw [← h.len]; exact (List.getElem?_eq_some_iff.1 hu').1)⟩
        rcases hnew with e1 | e1
        · exact h.apart i j' v u' g hv hu' (by rw [← e1]; exact hg1) hg2
        · rw [e1] at hg1
          have := ((hXg.own j' u' us hu' hus).lt g hg2).2
          cases hg1
          omega
    · rw [List.getElem?_set_ne hj] at hu
      by_cases hj' : i = j'
      · subst hj'
        rw [List.getElem?_set_self hi] at hu'
        cases hu'
        obtain ⟨us, hus⟩ : ∃ us, tss[j]? = some us := ⟨_, List.getElem?_eq_getElem (by rw [← h.len]; exact (List.getElem?_eq_some_iff.1 hu).1)⟩
        rcases hnew with e1 | e1
        · exact h.apart j i u v g hu hv hg1 (by rw [← e1]; exact hg2)
        · rw [e1] at hg2
          have := ((hXg.own j u us hu hus).lt g hg1).2
          cases hg2
          omega
      · rw [List.getElem?_set_ne hj'] at hu'
        exact h.apart j j' u u' g hu hu' hg1 hg2
end

end Go.Proofs.YthibphklchalkaaGreatDoor
