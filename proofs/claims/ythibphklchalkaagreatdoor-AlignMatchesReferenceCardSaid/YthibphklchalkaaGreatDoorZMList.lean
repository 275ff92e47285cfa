/-
  Several texts in one: ZOpenMore, ZJoin, ZStates. Conditions: as each law says.
-/
import Derived.Test.YthibphklchalkaaGreatDoorZMBase
import Derived.SizedLaws
import Derived.OwnWalk
import Derived.Maps.AppendAt
namespace Go.Proofs.YthibphklchalkaaGreatDoor
open Go.RowKit Go.ChangeShapes Go.WideShapes Go.Deep

section
variable {H : Type} {enc : TypeId × Value → H} {P : Program} {w : World} {base : Nat} {spare : Nat → Bool} {held : Bool}

/-- a slice's length, of its datum -/
theorem slice_datum {t e : TypeId} {a : Option Addr} {n c fuel : Nat} {x : DataW H × List MemPlace} (ht : P.underlying t = some (.slice e)) (h : DataW.trod enc P w base spare held fuel t [.slice a n c] = some x) : n = 0 ∨ ∃ elems sp, x.1 = .slice elems sp ∧ elems.length = n := by
  rcases open_slice ht h with ⟨h0, _⟩ | ⟨a', len, cap, m, k, D, Pl, hcs, _, _, _, _, rfl, _⟩
  · left; simp at h0; exact h0.2.1
  · simp at hcs
    obtain ⟨_, rfl, _⟩ := hcs
    exact .inr ⟨_, _, rfl, by simp⟩

/-- the first field of a struct that is a slice takes few bytes -/
theorem first_sized {t e : TypeId} {fs : Array Field} {f : Field} {r : List Value} {v : Value} {d : DataW H} {p : List MemPlace} {a : Option Addr} {n c : Nat} (hs : P.underlying t = some (.struct fs)) (hone : oneCellFields P fs = true) (_hC : P.cellsOf t = fs.size) (hf0 : fs[0]? = some f) (hsl : P.underlying f.type = some (.slice e))
    (hv : v = .agg (.slice a n c :: r).toArray) (h : DataW.Trod enc P w base spare held t v d p) (hz : (d.weights P t).all (· ≤ reachBytes) = true) : n * P.bytesOf e ≤ reachBytes := by
  obtain ⟨fuel, hf⟩ := h
  subst hv
  obtain ⟨xs, m, _, hx, hl, hxl, hg⟩ := DataW.trod_struct hs hf
  obtain ⟨ho, hk⟩ := hone_of hone 0 f hf0
  have h1 := hg 0 f hf0
  rw [ho, hk] at h1
  have hx0 : ∃ y, xs[0]? = some y := ⟨_, List.getElem?_eq_getElem (by rw [hxl]; exact (Array.getElem?_eq_some_iff.1 hf0).1)⟩
  obtain ⟨y, hy⟩ := hx0
  rw [hy] at h1
  have h2 : DataW.trod enc P w base spare held m f.type [.slice a n c] = some y := h1
  rcases slice_datum hsl h2 with rfl | ⟨elems, sp, e1, e2⟩
  · omega
  · have hd : d = .agg (xs.map (·.1)) := (Prod.mk.inj hx).1
    rw [hd] at hz
    simp only [DataW.weights, hs] at hz
    have := sized_slice hz (j := 0) (t := f.type) (e := e) (elems := elems) (spare := sp) (by
      have : fs.toList[0]? = some f := by simpa using hf0
      simp [this]) (by rw [List.getElem?_map, hy]; simp [e1]) hsl
    have h3 : n * P.bytesOf e ≤ (elems.length + sp.length) * P.bytesOf e := Nat.mul_le_mul_right _ (by omega)
    omega

end
end Go.Proofs.YthibphklchalkaaGreatDoor

namespace Go.Proofs.YthibphklchalkaaGreatDoor
open Go.RowKit Go.Deep

/-- a slice value whose address is none is nil -/
theorem nil_slice {H : Type} {enc : TypeId × Value → H} {P : Program} {w : World} {base : Nat} {spare : Nat → Bool} {held : Bool} {t e : TypeId} {a : Option Addr} {n c fuel : Nat} {x : DataW H × List MemPlace} (ht : P.underlying t = some (.slice e)) (h : DataW.trod enc P w base spare held fuel t [.slice a n c] = some x) : a = none → n = 0 ∧ c = 0 := by
  intro ha
  rcases open_slice ht h with ⟨h0, _⟩ | ⟨a', len, cap, m, k, D, Pl, hcs, _⟩
  · simp at h0; exact ⟨h0.2.1, h0.2.2⟩
  · simp at hcs
    rw [ha] at hcs
    cases hcs.1

/-- 'append(s, x...)', x nil or not -/
theorem wpList_append_join {P : Program} (w : World) {ops : Array Oper} {rest : List Oper} {o : Oper} {a : Act} {Q : Exit → Act → World → Prop} (hgd : o.guard = none) (s x : Operand) (t : TypeId)
    (ho : o.op = .call { callee := .builtin .append, args := #[s, x], argTypes := #[t, t] })
    (base : Nat) (e : TypeId) (i : TypeInfo) (z : Value) (size bytes : Nat) (ht : P.underlying t = some (.slice e)) (hi : P.info? e = some i) (hz : i.zero = some z)
    (hsize : i.size = size) (hby : i.bytes = bytes) (hzs : z.cells.size = size) (hsz : 0 < size)
    (v : Value) (n : Nat) (xs : List Value) (hs : a.eval s = v) (hown : w.ownsRow base e size v n xs)
    (ad : Option Addr) (m c : Nat) (news : List Value) (hx : a.eval x = .slice ad m c) (hl : news.length = m * size) (hnone : ad = none → m = 0 ∧ c = 0) (hnews : ∀ b, ad = some b → ∀ j u, news[j]? = some u → w.cell? (b.add j) = some u) (h1 : ∀ u ∈ news, u.oneCell' = true)
    (h63 : n + m ≤ maxLen) (hbytes : (n + m) * bytes ≤ 140737488355328) (hbase : base ≤ w.heap.size)
    (h : ∀ v' w', w'.ownsRow base e size v' (n + m) (xs ++ news) → w.grownBy w' v.ownBlock → wpList P ops Q rest (a.put o.dst v') w') : wpList P ops Q (o :: rest) a w := by
  cases ad with
  | some b => exact wpList_append_own w hgd s x t ho base e i z size bytes ht hi hz hsize hby hzs hsz v n xs hs hown b m c news hx hl (hnews b rfl) h1 h63 hbytes hbase (fun v' w' h2 h3 _ => h v' w' h2 h3)
  | none =>
    obtain ⟨rfl, rfl⟩ := hnone rfl
    have hnil : news = [] := List.eq_nil_of_length_eq_zero (by simpa using hl)
    subst hnil
    refine wpList_plain hgd fun K hK => ?_
    have hrun := run_append_owned_none (P := P) w base t o.type e i size ht hi v n xs hown
    unfold Oper.wp
    simp [execOp, ho, resolve, invoke, builtin, hs, hx, hrun, Result.andThen]
    exact hK _ _ (h v w (by simpa using hown) (World.grownBy.refl w _))

end Go.Proofs.YthibphklchalkaaGreatDoor

namespace Go.Proofs.YthibphklchalkaaGreatDoor
open Go.RowKit

section
variable {P : Program} {ops : Array Oper} {Q : Exit → Act → World → Prop} {md : Region.Mode} {S : Array Bool → World → Prop}

/-- whichever of these comes up -/
theorem wpAnyS_some {fuel : Nat} {listed : Array Bool} {a : Act} {w : World} {rs : List Nat} (hr : Region.ready md ops listed = rs) (h0 : rs ≠ []) (hc : Closed md ops listed)
    (h : ∀ i ∈ rs, ∃ o, ops[i]? = some o ∧ Region.wanted o (yielded ops a.tmps) = true ∧
      ∀ K' : Act → World → Prop, Shut (∀ a w, S (listed.setIfInBounds i true) w → (Closed md ops (listed.setIfInBounds i true) → wpAnyS P md ops Q S fuel (listed.setIfInBounds i true) a w) → K' a w) → Oper.wp P o a w K' Q) : wpAnyS P md ops Q S (fuel + 1) listed a w := by
  refine ⟨fun e => absurd (hr.symm.trans e) h0, fun i hi => ?_⟩
  obtain ⟨o, ho, hw, h1⟩ := h i (by rw [← hr]; exact hi)
  refine wpOp_step ho (fun K' hK => ?_)
  rw [if_pos hw]
  exact h1 K' (fun a w hS hW => hK a w ⟨hS, hW (closed_step hc hi)⟩)

/-- the walk and the frame as letters: for lemmas on its states -/
theorem wpAnyS_as {fuel : Nat} {listed : Array Bool} {a : Act} {w : World} (hc : Closed md ops listed)
    (h : ∀ C : Nat → Array Bool → Act → World → Prop, C = (fun f l b u => Closed md ops l → wpAnyS P md ops Q S f l b u) → ∀ a0, a0 = a → C fuel listed a0 w) : wpAnyS P md ops Q S fuel listed a w := h _ rfl a rfl hc

end

section
variable {P : Program}

/-- append of a slice that came in, nil or not, to a row of the call's own, at the operation -/
theorem wp_append_join {w : World} {o : Oper} {a : Act} {K : Act → World → Prop} {Q : Exit → Act → World → Prop} (s x : Operand) (t : TypeId)
    (ho : o.op = .call { callee := .builtin .append, args := #[s, x], argTypes := #[t, t] })
    (base : Nat) (e : TypeId) (i : TypeInfo) (z : Value) (size bytes : Nat) (ht : P.underlying t = some (.slice e)) (hi : P.info? e = some i) (hz : i.zero = some z)
    (hsize : i.size = size) (hby : i.bytes = bytes) (hzs : z.cells.size = size) (hsz : 0 < size)
    (v : Value) (n : Nat) (xs : List Value) (hs : a.eval s = v) (hown : w.ownsRow base e size v n xs)
    (ad : Option Addr) (m c : Nat) (news : List Value) (hx : a.eval x = .slice ad m c) (hl : news.length = m * size) (hnone : ad = none → m = 0 ∧ c = 0) (hnews : ∀ b, ad = some b → ∀ j u, news[j]? = some u → w.cell? (b.add j) = some u) (h1 : ∀ u ∈ news, u.oneCell' = true)
    (h63 : n + m ≤ maxLen) (hbytes : (n + m) * bytes ≤ 140737488355328) (hbase : base ≤ w.heap.size)
    (h : ∀ v' w', w'.ownsRow base e size v' (n + m) (xs ++ news) → w.grownBy w' v.ownBlock → (v'.ownBlock = v.ownBlock ∨ v'.ownBlock = some w.heap.size) → K (a.put o.dst v') w') : o.wp P a w K Q := by
  cases ad with
  | some b =>
    obtain ⟨v', w', hr, h2, h3, _, h5⟩ := run_append_own_at (P := P) w base t o.type e i z size bytes ht hi hz hsize hby hzs hsz v n xs hown b m c news hl (hnews b rfl) h1 h63 hbytes hbase
    unfold Oper.wp execOp
    simp only [ho, resolve, invoke, builtin, Sem.run_bind, Sem.run_pure, Result.andThen_ok, List.map_toArray, List.map_cons, List.map_nil, hs, hx, hr]
    exact h v' w' h2 h3 h5
  | none =>
    obtain ⟨rfl, rfl⟩ := hnone rfl
    have hnil : news = [] := List.eq_nil_of_length_eq_zero (by simpa using hl)
    subst hnil
    have hrun := run_append_owned_none (P := P) w base t o.type e i size ht hi v n xs hown
    unfold Oper.wp
    simp [execOp, ho, resolve, invoke, builtin, hs, hx, hrun, Result.andThen]
    exact h v w (by simpa using hown) (World.grownBy.refl w _) (.inl rfl)

end
end Go.Proofs.YthibphklchalkaaGreatDoor
