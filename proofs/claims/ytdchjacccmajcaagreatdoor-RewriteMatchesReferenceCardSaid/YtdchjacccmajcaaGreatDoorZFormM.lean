/-
  rewrite.Forms, its memory between two rounds: the steps, the least costs. Conditions: none.
-/
import Derived.Test.YtdchjacccmajcaaGreatDoorZFormE
import Derived.Test.YtdchjacccmajcaaGreatDoorZMBase
namespace Go.Proofs.YtdchjacccmajcaaGreatDoor
open Go.RowKit Go.Lib Go.Maps

def stpC (s : Fo.Stp) : List Value := [.string (bs s.to_), .int .i64 s.cost, .int .i64 (s.next : Int)]
def intV (B : List Int) : List Value := B.map fun c => .int .i64 c
theorem intV_get {B : List Int} {j : Nat} {b : Int} (h : B[j]? = some b) : (intV B)[j]? = some (.int .i64 b) := by unfold intV; rw [List.getElem?_map, h]; rfl
theorem intV_set (B : List Int) (j : Nat) (b : Int) : (intV B).set j (.int .i64 b) = intV (B.set j b) := by unfold intV; rw [List.map_set]
/-- the costs while they are laid -/
def initB (n j : Nat) : List Int := 0 :: (List.replicate j Fo.inf ++ List.replicate (n - j) 0)
theorem initB_zero (n : Nat) : List.replicate (n + 1) (Value.int .i64 0) = intV (initB n 0) := by
  unfold intV initB
  simp [List.replicate_succ]
theorem initB_set {n j : Nat} (h : j < n) : (initB n j).set (j + 1) Fo.inf = initB n (j + 1) := by
  unfold initB
  rw [List.set_cons_succ, List.set_append_right _ _ (by simp), List.length_replicate, Nat.sub_self, show n - j = (n - (j + 1)) + 1 by omega, List.replicate_succ, List.set_cons_zero, List.replicate_succ']
  simp
theorem initB_len {n j : Nat} (h : j ≤ n) : (initB n j).length = n + 1 := by
  unfold initB
  simp
  omega
theorem initB_all (n : Nat) : initB n n = 0 :: List.replicate n Fo.inf := by unfold initB; simp

/-- between two rounds of the second loop -/
structure AInv (W3 : World) (L : List (List UInt8)) (rs : List Al.R) (i : Nat) (qs : List Al.R) (vs : List Value) (tss : List (List Fo.Stp)) (B : List Int) (w : World) : Prop where
  s : Blk w W3.heap.size 76 vs
  g : Grid w (W3.heap.size + 2) 78 3 stpC vs tss
  tl : tss.length = L.length
  ts : ∀ (j : Nat) (ts : List Fo.Stp), tss[j]? = some ts → ts = if j < i then Fo.steps L rs j else if j = i then Fo.steps L qs i else []
  b : Blk w (W3.heap.size + 1) 3 (intV B)
  bef : Fo.Bef L rs i qs B
  below : Below W3.heap.size W3 w

section
variable {W3 w w' : World} {L : List (List UInt8)} {rs : List Al.R} {i : Nat} {qs : List Al.R} {vs : List Value} {tss : List (List Fo.Stp)} {B : List Int}

theorem AInv.step (h : AInv W3 L rs i qs vs tss B w) (hb : Below w.heap.size w w') : AInv W3 L rs i qs vs tss B w' :=
  ⟨h.s.below hb, h.g.below hb, h.tl, h.ts, h.b.below hb, h.bef, Below.step h.below hb⟩
theorem AInv.next (h : AInv W3 L rs i rs vs tss B w) : AInv W3 L rs (i + 1) [] vs tss B w := by
  refine ⟨h.s, h.g, h.tl, fun j ts hj => ?_, h.b, h.bef.next, h.below⟩
  rw [h.ts j ts hj]
  by_cases h1 : j < i
  · rw [if_pos h1, if_pos (by omega)]
  · by_cases h2 : j = i
    · subst h2
      rw [if_neg h1, if_pos rfl, if_pos (by omega)]
    · rw [if_neg h1, if_neg h2, if_neg (by omega)]
      split
      · rfl
      · rfl
theorem AInv.nofit {r : Al.R} (h : AInv W3 L rs i qs vs tss B w) (hr : r ∈ rs) (hf : Al.fits L r i = false) : AInv W3 L rs i (qs ++ [r]) vs tss B w := by
  refine ⟨h.s, h.g, h.tl, fun j ts hj => ?_, h.b, h.bef.skip hr hf, h.below⟩
  rw [h.ts j ts hj, Fo.steps_skip qs hf]
theorem AInv.row (h : AInv W3 L rs i qs vs tss B w) (hi : i < L.length) : ∃ v, vs[i]? = some v ∧ tss[i]? = some (Fo.steps L qs i) ∧ w.ownsRow (W3.heap.size + 2) 78 3 v (Fo.steps L qs i).length ((Fo.steps L qs i).flatMap stpC) := by
  have hl := h.g.len
  have ht := h.tl
  obtain ⟨ts, hts⟩ : ∃ ts, tss[i]? = some ts := ⟨_, List.getElem?_eq_getElem (by omega)⟩
  obtain ⟨v, hv⟩ : ∃ v, vs[i]? = some v := ⟨_, List.getElem?_eq_getElem (by omega)⟩
  have e := h.ts i ts hts
  rw [if_neg (Nat.lt_irrefl _), if_pos rfl] at e
  subst e
  exact ⟨v, hv, hts, h.g.own i v _ hv hts⟩
/-- a rule that fits: its step, the cost behind it -/
theorem AInv.fit {r : Al.R} {X w8 : World} {v v' : Value} {b b2 : Int} (hg : Fo.Good rs) (hL : L.length ≤ 1000) (h : AInv W3 L rs i qs vs tss B w) (hr : r ∈ rs) (hf : Al.fits L r i = true) (hi : i < L.length) (hv : vs[i]? = some v)
    (hX : Below w.heap.size w X) (hg8 : X.grownBy w8 v.ownBlock) (ho : w8.ownsRow (W3.heap.size + 2) 78 3 v' (Fo.steps L qs i ++ [Fo.stp i r]).length ((Fo.steps L qs i ++ [Fo.stp i r]).flatMap stpC)) (hnew : v'.ownBlock = v.ownBlock ∨ v'.ownBlock = some X.heap.size)
    (hb : B[i]? = some b) (hb2 : B[i + r.from_.length]? = some b2) :
    ∃ vs' tss', AInv W3 L rs i (qs ++ [r]) vs' tss' (B.set (i + r.from_.length) (min b2 (b + r.cost))) ((w8.setCell ⟨W3.heap.size, i, none⟩ v').setCell ⟨W3.heap.size + 1, i + r.from_.length, none⟩ (.int .i64 (min b2 (b + r.cost)))) := by
  obtain ⟨v0, hv0, ht0, how⟩ := h.row hi
  rw [hv] at hv0
  cases hv0
  have hXow := ownsRow_below how hX
  have hne : ∀ (q : Nat) (o : Obj), X.heap[q]? = some o → (∀ cs, o ≠ .cells cs 78 (0, 0)) → w8.heap[q]? = some o := fun q o hq hn => by
    refine (hg8.block q (Array.getElem?_eq_some_iff.1 hq).1 (fun e => ?_)).trans hq
    obtain ⟨_, cs, h3⟩ := row_blk hXow e.symm
    rw [hq] at h3
    cases h3
    exact hn cs rfl
  have hs8 : Blk w8 W3.heap.size 76 vs := hne _ _ (h.s.below hX) (fun cs e => by cases e)
  have hb8 : Blk w8 (W3.heap.size + 1) 3 (intV B) := hne _ _ (h.b.below hX) (fun cs e => by cases e)
  have hG := h.g.append hv ht0 hX hg8 ho hnew
  refine ⟨vs.set i v', tss.set i (Fo.steps L qs i ++ [Fo.stp i r]), (hs8.set i v').other (by omega) _, ?_, by rw [List.length_set]; exact h.tl, fun j ts hj => ?_, ?_, h.bef.step hg hL hr hf hb hb2, ?_⟩
  · have h1 : Grid (w8.setCell ⟨W3.heap.size, i, none⟩ v') (W3.heap.size + 2) 78 3 stpC (vs.set i v') (tss.set i (Fo.steps L qs i ++ [Fo.stp i r])) := hG.kept (grown_set w8 W3.heap.size i v') (fun q e cs h3 => by
      cases e
      unfold Blk at hs8
      rw [hs8] at h3
      cases h3)
    have hb9 := hb8.other (q := W3.heap.size) (j := i) (by omega) v'
    exact h1.kept (grown_set _ (W3.heap.size + 1) _ _) (fun q e cs h3 => by
      cases e
      unfold Blk at hb9
      rw [hb9] at h3
      cases h3)
  · by_cases hji : j = i
    · subst hji
      rw [List.getElem?_set_self (by rw [h.tl]; exact hi)] at hj
      cases hj
      rw [if_neg (Nat.lt_irrefl _), if_pos rfl, Fo.steps_snoc qs hf]
    · rw [List.getElem?_set_ne (fun e => hji e.symm)] at hj
      rw [h.ts j ts hj, if_neg hji, if_neg hji]
  · have hb9 := hb8.other (q := W3.heap.size) (j := i) (by omega) v'
    have := hb9.set (i + r.from_.length) (.int .i64 (min b2 (b + r.cost)))
    rwa [intV_set] at this
  · have h1 : Below W3.heap.size W3 X := Below.step h.below hX
    have h8 : Below W3.heap.size W3 w8 := h1.grown hg8 h1.size (fun q e => by have := (row_blk hXow e).1; omega)
    exact (h8.setCell (p := ⟨W3.heap.size, i, none⟩) (Nat.le_refl _) _).setCell (p := ⟨W3.heap.size + 1, i + r.from_.length, none⟩) (by show W3.heap.size ≤ W3.heap.size + 1; omega) _
end

end Go.Proofs.YtdchjacccmajcaaGreatDoor
