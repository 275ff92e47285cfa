/-
 Several texts in one: ZFlat, ZAppList, ZOpenMore, ZJoin, ZStates. Conditions: as each law says.
-/
import Derived.Test.YtdchjacccmajcaaGreatDoorZMBase
import Derived.SizedLaws
import Derived.OwnWalk
import Derived.Maps.AppendAt
namespace Go.Proofs.YtdchjacccmajcaaGreatDoor
open Go.RowKit

theorem flatLen {α : Type} {cells : α → List Value} {sz : Nat} (l : List α) (h : ∀ x, (cells x).length = sz) : (l.flatMap cells).length = l.length * sz := by
 induction l with
 | nil => simp
 | cons x l ih => rw [List.flatMap_cons, List.length_append, ih, h, List.length_cons, Nat.succ_mul]; omega

theorem flatCells {α : Type} {w : World} {g o sz : Nat} {cells : α → List Value} : ∀ {l : List α}, (∀ x, (cells x).length = sz) → RowOf w g o sz cells l → ∀ (j : Nat) (u : Value), (l.flatMap cells)[j]? = some u → w.cell? ((⟨g, o, none⟩ : Addr).add j) = some u := by
 intro l hc hr j u hu
 have hadd : (⟨g, o, none⟩ : Addr).add j = ⟨g, o + j, none⟩ := by
  unfold Addr.add; split
  ·rename_i h; subst h; rfl
  ·rfl
 rw [hadd]
 have key : ∀ (l : List α) (k : Nat), (∀ (i : Nat) (x : α), l[i]? = some x → ∀ (j : Nat) (v : Value), (cells x)[j]? = some v → w.cell? ⟨g, o + (k + i) * sz + j, none⟩ = some v) → ∀ j, (l.flatMap cells)[j]? = some u → w.cell? ⟨g, o + k * sz + j, none⟩ = some u := by
  intro l
  induction l with
  | nil => intro k _ j hu; simp at hu
  | cons x l ih =>
   intro k h j hu
   rw [List.flatMap_cons] at hu
   by_cases hj : j < sz
   ·rw [List.getElem?_append_left (by rw [hc]; exact hj)] at hu
    have := h 0 x rfl j u hu
    rw [Nat.add_zero] at this
    exact this
   ·rw [List.getElem?_append_right (by rw [hc]; omega), hc] at hu
    have := ih (k + 1) (fun i y hy j v hv => by
     have := h (i + 1) y (by simpa using hy) j v hv
     rw [show k + 1 + i = k + (i + 1) by omega]; exact this) (j - sz) hu
    rw [Nat.succ_mul] at this
    rw [show o + k * sz + j = o + (k * sz + sz) + (j - sz) by omega]
    exact this
 have := key l 0 (fun i x hx j v hv => by rw [Nat.zero_add]; exact hr.2 i x hx j v hv) j hu
 rw [Nat.zero_mul, Nat.add_zero] at this
 exact this

end Go.Proofs.YtdchjacccmajcaaGreatDoor

namespace Go.Proofs.YtdchjacccmajcaaGreatDoor
open Go.RowKit Go.Lib Go.Maps

section
variable {P : Program}
theorem run_append_owned_nil (w : World) (base : Nat) (t ty e : TypeId) (i : TypeInfo) (size : Nat) (ht : P.underlying t = some (.slice e)) (hi : P.info? e = some i)
  (v : Value) (n : Nat) (xs : List Value) (hown : w.ownsRow base e size v n xs) (c : Nat) : (Builtin.append_ #[t, t] ty #[v, .slice none 0 c]).run P w = .ok v w := by
 rcases hown.2 with ⟨rfl, rfl⟩ | ⟨g, cap, cur, rfl, _, _, hnc, _⟩
 ·simp [Builtin.append_, run_underlying ht, sizeOf, typeInfo, hi, Builtin.lenOf, Builtin.firstCells]
 ·simp [Builtin.append_, run_underlying ht, sizeOf, typeInfo, hi, Builtin.lenOf, Builtin.firstCells, hnc, storeCells]

/-- append of a slice that reads as a list to a row of the call's own, at the operation -/
theorem wp_append_list {α : Type} {sz : Nat} {cells : α → List Value} {l : List α} {w : World} {o : Oper} {a : Act} {K : Act → World → Prop} {Q : Exit → Act → World → Prop} (s x : Operand) (t : TypeId)
  (ho : o.op = .call { callee := .builtin .append, args := #[s, x], argTypes := #[t, t] })
  (base : Nat) (e : TypeId) (i : TypeInfo) (z : Value) (bytes : Nat) (ht : P.underlying t = some (.slice e)) (hi : P.info? e = some i) (hz : i.zero = some z)
  (hsize : i.size = sz) (hby : i.bytes = bytes) (hzs : z.cells.size = sz) (hsz : 0 < sz)
  (v : Value) (n : Nat) (xs : List Value) (hs : a.eval s = v) (hown : w.ownsRow base e sz v n xs)
  (u : Value) (hx : a.eval x = u) (hr : SlOf w u sz cells l) (hcl : ∀ x, (cells x).length = sz) (h1 : ∀ u ∈ l.flatMap cells, u.oneCell' = true)
  (h63 : n + l.length ≤ maxLen) (hbytes : (n + l.length) * bytes ≤ 140737488355328) (hbase : base ≤ w.heap.size)
  (h : ∀ v' w', w'.ownsRow base e sz v' (n + l.length) (xs ++ l.flatMap cells) → w.grownBy w' v.ownBlock → (v'.ownBlock = v.ownBlock ∨ v'.ownBlock = some w.heap.size) → K (a.put o.dst v') w') : o.wp P a w K Q := by
 obtain ⟨ad, cap, rfl, k1, k2, k3⟩ := hr
 cases ad with
 | some b =>
  have hnews : ∀ j u, (l.flatMap cells)[j]? = some u → w.cell? (b.add j) = some u := by
   intro j u hu
   by_cases h0 : 0 < l.length
   ·obtain ⟨g, o, e2, hr⟩ := k3 h0
    cases e2
    exact flatCells hcl hr j u hu
   ·have : l = [] := List.eq_nil_of_length_eq_zero (by omega)
    subst this
    simp at hu
  obtain ⟨v', w', hr, h2, h3, _, h5⟩ := run_append_own_at (P := P) w base t o.type e i z sz bytes ht hi hz hsize hby hzs hsz v n xs hown b l.length cap (l.flatMap cells) (flatLen l hcl) hnews h1 h63 hbytes hbase
  unfold Oper.wp execOp
  simp only [ho, resolve, invoke, builtin, Sem.run_bind, Sem.run_pure, Result.andThen_ok, List.map_toArray, List.map_cons, List.map_nil, hs, hx, hr]
  exact h v' w' h2 h3 h5
 | none =>
  have h0 : l = [] := by
   rcases Nat.eq_zero_or_pos l.length with h | h
   ·exact List.eq_nil_of_length_eq_zero h
   ·obtain ⟨g, o, e2, _⟩ := k3 h
    cases e2
  subst h0
  have hrun := run_append_owned_nil (P := P) w base t o.type e i sz ht hi v n xs hown cap
  unfold Oper.wp
  simp [execOp, ho, resolve, invoke, builtin, hs, hx, hrun, Result.andThen]
  exact h v w (by simpa using hown) (World.grownBy.refl w _) (.inl rfl)
end

end Go.Proofs.YtdchjacccmajcaaGreatDoor

namespace Go.Proofs.YtdchjacccmajcaaGreatDoor
open Go.RowKit Go.ChangeShapes Go.WideShapes Go.Deep

section
variable {H : Type} {enc : TypeId × Value → H} {P : Program} {w : World} {base : Nat} {spare : Nat → Bool} {held : Bool}

end
end Go.Proofs.YtdchjacccmajcaaGreatDoor
namespace Go.Proofs.YtdchjacccmajcaaGreatDoor
open Go.RowKit Go.Deep
end Go.Proofs.YtdchjacccmajcaaGreatDoor
namespace Go.Proofs.YtdchjacccmajcaaGreatDoor
open Go.RowKit
section
variable {P : Program} {ops : Array Oper} {Q : Exit → Act → World → Prop} {md : Region.Mode} {S : Array Bool → World → Prop}
/-- whichever of these comes up -/
theorem wpAnyS_some {fuel : Nat} {listed : Array Bool} {a : Act} {w : World} {rs : List Nat} (hr : Region.ready md ops listed = rs) (h0 : rs ≠ []) (hc : Closed md ops listed)
  (h : ∀ i ∈ rs, ∃ o, ops[i]? = some o ∧ Region.wanted o (yielded ops a.tmps) = true ∧
   ∀ K' : Act → World → Prop, Shut (∀ a w, S (listed.setIfInBounds i true) w → (Closed md ops (listed.setIfInBounds i true) → wpAnyS P md ops Q S fuel (listed.setIfInBounds i true) a w) → K' a w) → Oper.wp P o a w K' Q) : wpAnyS P md ops Q S (fuel + 1) listed a w := by
 refine ⟨fun e => absurd (hr.symm.trans e) h0, fun i hi => ?_⟩
 obtain ⟨o, ho, hw, h1⟩ := h i (by rw [← hr]; exact hi)
 refine wpOp_step ho (fun K' hK => ?_)
 rw [if_pos hw]
 exact h1 K' (fun a w hS hW => hK a w ⟨hS, hW (closed_step hc hi)⟩)

end
section
variable {P : Program}
end
end Go.Proofs.YtdchjacccmajcaaGreatDoor
