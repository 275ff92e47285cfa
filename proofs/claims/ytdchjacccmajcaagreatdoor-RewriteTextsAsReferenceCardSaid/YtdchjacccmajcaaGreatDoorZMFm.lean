/-
 Several texts in one: ZFormM, ZFormN, ZIter. Conditions: as each law says.
-/
import Derived.Test.YtdchjacccmajcaaGreatDoorZMFo
import Derived.Test.YtdchjacccmajcaaGreatDoorZMBase
import Derived.Maps.AppendAt
import Derived.Test.YtdchjacccmajcaaGreatDoorZMAlC
import Derived.Shelf.SlIter.Nil
import Derived.Shelf.SortM.Plain
import Derived.Shelf.SortM.SortNone
import Derived.Test.YtdchjacccmajcaaGreatDoorZShelf
namespace Go.Proofs.YtdchjacccmajcaaGreatDoor
open Go.RowKit Go.Lib Go.Maps

def stpC (s : Fo.Stp) : List Value := [.string (bs s.to_), .int .i64 s.cost, .int .i64 (s.next : Int)]
def intV (B : List Int) : List Value := B.map fun c => .int .i64 c
theorem intV_get {B : List Int} {j : Nat} {b : Int} (h : B[j]? = some b) : (intV B)[j]? = some (.int .i64 b) := by unfold intV; rw [List.getElem?_map, h]; rfl
theorem intV_set (B : List Int) (j : Nat) (b : Int) : (intV B).set j (.int .i64 b) = intV (B.set j b) := by unfold intV; rw [List.map_set]
/-- the costs while they are laid -/
def initB (n j : Nat) : List Int := 0 :: (List.replicate j Fo.inf ++ List.replicate (n - j) 0)
theorem initB_zero (n : Nat) : List.replicate (n + 1) (Value.int .i64 0) = intV (initB n 0) := by
 unfold intV initB
 simp [List.replicate_succ]
theorem initB_set {n j : Nat} (h : j < n) : (initB n j).set (j + 1) Fo.inf = initB n (j + 1) := by
 unfold initB
 rw [List.set_cons_succ, List.set_append_right _ _ (by simp), List.length_replicate, Nat.sub_self, show n - j = (n - (j + 1)) + 1 by omega, List.replicate_succ, List.set_cons_zero, List.replicate_succ']
 simp
theorem initB_len {n j : Nat} (h : j ≤ n) : (initB n j).length = n + 1 := by
 unfold initB
 simp
 omega
theorem initB_all (n : Nat) : initB n n = 0 :: List.replicate n Fo.inf := by unfold initB; simp

/-- between two rounds of the second loop -/
structure AInv (W3 : World) (L : List (List UInt8)) (rs : List Al.R) (i : Nat) (qs : List Al.R) (vs : List Value) (tss : List (List Fo.Stp)) (B : List Int) (w : World) : Prop where
 s : Blk w W3.heap.size 76 vs
 g : Grid w (W3.heap.size + 2) 78 3 stpC vs tss
 tl : tss.length = L.length
 ts : ∀ (j : Nat) (ts : List Fo.Stp), tss[j]? = some ts → ts = if j < i then Fo.steps L rs j else if j = i then Fo.steps L qs i else []
 b : Blk w (W3.heap.size + 1) 3 (intV B)
 bef : Fo.Bef L rs i qs B
 below : Below W3.heap.size W3 w

section
variable {W3 w w' : World} {L : List (List UInt8)} {rs : List Al.R} {i : Nat} {qs : List Al.R} {vs : List Value} {tss : List (List Fo.Stp)} {B : List Int}

theorem AInv.step (h : AInv W3 L rs i qs vs tss B w) (hb : Below w.heap.size w w') : AInv W3 L rs i qs vs tss B w' :=
 ⟨h.s.below hb, h.g.below hb, h.tl, h.ts, h.b.below hb, h.bef, Below.step h.below hb⟩
theorem AInv.next (h : AInv W3 L rs i rs vs tss B w) : AInv W3 L rs (i + 1) [] vs tss B w := by
 refine ⟨h.s, h.g, h.tl, fun j ts hj => ?_, h.b, h.bef.next, h.below⟩
 rw [h.ts j ts hj]
 by_cases h1 : j < i
 ·rw [if_pos h1, if_pos (by omega)]
 ·by_cases h2 : j = i
  ·subst h2
   rw [if_neg h1, if_pos rfl, if_pos (by omega)]
  ·rw [if_neg h1, if_neg h2, if_neg (by omega)]
   split
   ·rfl
   ·rfl
theorem AInv.nofit {r : Al.R} (h : AInv W3 L rs i qs vs tss B w) (hr : r ∈ rs) (hf : Al.fits L r i = false) : AInv W3 L rs i (qs ++ [r]) vs tss B w := by
 refine ⟨h.s, h.g, h.tl, fun j ts hj => ?_, h.b, h.bef.skip hr hf, h.below⟩
 rw [h.ts j ts hj, Fo.steps_skip qs hf]
theorem AInv.row (h : AInv W3 L rs i qs vs tss B w) (hi : i < L.length) : ∃ v, vs[i]? = some v ∧ tss[i]? = some (Fo.steps L qs i) ∧ w.ownsRow (W3.heap.size + 2) 78 3 v (Fo.steps L qs i).length ((Fo.steps L qs i).flatMap stpC) := by
 have hl := h.g.len
 have ht := h.tl
 obtain ⟨ts, hts⟩ : ∃ ts, tss[i]? = some ts := ⟨_, List.getElem?_eq_getElem (by omega)⟩
 obtain ⟨v, hv⟩ : ∃ v, vs[i]? = some v := ⟨_, List.getElem?_eq_getElem (by omega)⟩
 have e := h.ts i ts hts
 rw [if_neg (Nat.lt_irrefl _), if_pos rfl] at e
 subst e
 exact ⟨v, hv, hts, h.g.own i v _ hv hts⟩
/-- a rule that fits: its step, the cost behind it -/
theorem AInv.fit {r : Al.R} {X w8 : World} {v v' : Value} {b b2 : Int} (hg : Fo.Good rs) (hL : L.length ≤ 1000) (h : AInv W3 L rs i qs vs tss B w) (hr : r ∈ rs) (hf : Al.fits L r i = true) (hi : i < L.length) (hv : vs[i]? = some v)
  (hX : Below w.heap.size w X) (hg8 : X.grownBy w8 v.ownBlock) (ho : w8.ownsRow (W3.heap.size + 2) 78 3 v' (Fo.steps L qs i ++ [Fo.stp i r]).length ((Fo.steps L qs i ++ [Fo.stp i r]).flatMap stpC)) (hnew : v'.ownBlock = v.ownBlock ∨ v'.ownBlock = some X.heap.size)
  (hb : B[i]? = some b) (hb2 : B[i + r.from_.length]? = some b2) :
  ∃ vs' tss', AInv W3 L rs i (qs ++ [r]) vs' tss' (B.set (i + r.from_.length) (min b2 (b + r.cost))) ((w8.setCell ⟨W3.heap.size, i, none⟩ v').setCell ⟨W3.heap.size + 1, i + r.from_.length, none⟩ (.int .i64 (min b2 (b + r.cost)))) := by
 obtain ⟨v0, hv0, ht0, how⟩ := h.row hi
 rw [hv] at hv0
 cases hv0
 have hXow := ownsRow_below how hX
 have hne : ∀ (q : Nat) (o : Obj), X.heap[q]? = some o → (∀ cs, o ≠ .cells cs 78 (0, 0)) → w8.heap[q]? = some o := fun q o hq hn => by
  refine (hg8.block q (Array.getElem?_eq_some_iff.1 hq).1 (fun e => ?_)).trans hq
  obtain ⟨_, cs, h3⟩ := row_blk hXow e.symm
  rw [hq] at h3
  cases h3
  exact hn cs rfl
 have hs8 : Blk w8 W3.heap.size 76 vs := hne _ _ (h.s.below hX) (fun cs e => by cases e)
 have hb8 : Blk w8 (W3.heap.size + 1) 3 (intV B) := hne _ _ (h.b.below hX) (fun cs e => by cases e)
 have hG := h.g.append hv ht0 hX hg8 ho hnew
 refine ⟨vs.set i v', tss.set i (Fo.steps L qs i ++ [Fo.stp i r]), (hs8.set i v').other (by omega) _, ?_, by rw [List.length_set]; exact h.tl, fun j ts hj => ?_, ?_, h.bef.step hg hL hr hf hb hb2, ?_⟩
 ·have h1 : Grid (w8.setCell ⟨W3.heap.size, i, none⟩ v') (W3.heap.size + 2) 78 3 stpC (vs.set i v') (tss.set i (Fo.steps L qs i ++ [Fo.stp i r])) := hG.kept (grown_set w8 W3.heap.size i v') (fun q e cs h3 => by
   cases e
   unfold Blk at hs8
   rw [hs8] at h3
   cases h3)
  have hb9 := hb8.other (q := W3.heap.size) (j := i) (by omega) v'
  exact h1.kept (grown_set _ (W3.heap.size + 1) _ _) (fun q e cs h3 => by
   cases e
   unfold Blk at hb9
   rw [hb9] at h3
   cases h3)
 ·by_cases hji : j = i
  ·subst hji
   rw [List.getElem?_set_self (by rw [h.tl]; exact hi)] at hj
   cases hj
   rw [if_neg (Nat.lt_irrefl _), if_pos rfl, Fo.steps_snoc qs hf]
  ·rw [List.getElem?_set_ne (fun e => hji e.symm)] at hj
   rw [h.ts j ts hj, if_neg hji, if_neg hji]
 ·have hb9 := hb8.other (q := W3.heap.size) (j := i) (by omega) v'
  have := hb9.set (i + r.from_.length) (.int .i64 (min b2 (b + r.cost)))
  rwa [intV_set] at this
 ·have h1 : Below W3.heap.size W3 X := Below.step h.below hX
  have h8 : Below W3.heap.size W3 w8 := h1.grown hg8 h1.size (fun q e => by have := (row_blk hXow e).1; omega)
  exact (h8.setCell (p := ⟨W3.heap.size, i, none⟩) (Nat.le_refl _) _).setCell (p := ⟨W3.heap.size + 1, i + r.from_.length, none⟩) (by show W3.heap.size ≤ W3.heap.size + 1; omega) _
end

end Go.Proofs.YtdchjacccmajcaaGreatDoor

namespace Fo
theorem Re.short {L : List (List UInt8)} {rs : List Al.R} (h0 : ∀ r ∈ rs, 0 < r.from_.length ∧ r.to_.length ≤ 3) {i : Nat} {f : List UInt8} {c : Int} (h : Re L rs i f c) : f.length ≤ 3 * (L.length - i) := by
 induction h with
 | nil => simp
 | cons hr hf h ih =>
  have h1 := h0 _ hr
  have h2 := fits_le hf
  rw [List.length_append]
  omega
theorem to_short {t : Rw.Table} (hv : Rw.valid t = true) (k : Int) : ∀ r ∈ Al.rulesFrom k 0 t.rules, 0 < r.from_.length ∧ r.to_.length ≤ 3 := by
 intro r hr
 refine ⟨(good_rules hv k).some_ r hr, ?_⟩
 obtain ⟨v1, v2⟩ := Rw.valid_rules hv
 obtain ⟨⟨q, hq, e1, e2, e3⟩, _⟩ := Al.rulesFrom_mem k _ _ r hr
 have ho := v2 q hq
 unfold Rw.ruleOk Rw.isForm at ho
 simp only [Bool.and_eq_true, decide_eq_true_eq] at ho
 rw [e2]
 exact ho.1.2.1
theorem EndsOk.short {L : List (List UInt8)} {rs : List Al.R} (hg : Good rs) (h0 : ∀ r ∈ rs, 0 < r.from_.length ∧ r.to_.length ≤ 3) (hL : L.length ≤ 1000) {most : Int} {i : Nat} {F : List UInt8 → Option Int} (h : EndsOk L rs most i F) {f : List UInt8} {c : Int} (hf : F f = some c) : f.length ≤ 3000 ∧ 0 ≤ c ∧ c ≤ 1000000 := by
 have h1 := (h.least hg hf).1
 have h2 := h1.short h0
 have h3 := h1.cost hg
 omega
theorem CandW.short {L : List (List UInt8)} {rs : List Al.R} (hg : Good rs) (h0 : ∀ r ∈ rs, 0 < r.from_.length ∧ r.to_.length ≤ 3) (hL : L.length ≤ 1000) {most b : Int} {i : Nat} {E : Nat → List UInt8 → Option Int} (hE : ∀ j, i < j → j ≤ L.length → EndsOk L rs most j (E j)) {ss : List Stp} (hs : ∀ s ∈ ss, s ∈ steps L rs i) {s : Stp} (hs2 : s ∈ steps L rs i) {done : List UInt8 → Bool} {f : List UInt8} {c : Int} (h : CandW E most b ss s done f c) : f.length ≤ 3000 ∧ 0 ≤ c ∧ c ≤ 1000000 := by
 obtain ⟨h1, -⟩ := candW_re hg hE hs hs2 h
 have h2 := h1.short h0
 have h3 := h1.cost hg
 omega
/-- the first entry at the end of the word -/
def lastE : List UInt8 → Option Int := putE0
where putE0 : List UInt8 → Option Int := fun y => if y = [] then some 0 else none
theorem lastE_ok {L : List (List UInt8)} {rs : List Al.R} (most : Int) : EndsOk L rs most L.length lastE := by
 unfold EndsOk
 rw [if_pos rfl]
 intro f c
 unfold lastE lastE.putE0
 by_cases h : f = []
 ·rw [if_pos h]
  constructor
  ·intro e; cases e; exact ⟨h, rfl⟩
  ·rintro ⟨-, rfl⟩; rfl
 ·rw [if_neg h]
  constructor
  ·intro e; cases e
  ·rintro ⟨e, -⟩; exact absurd e h

end Fo
namespace Go.Proofs.YtdchjacccmajcaaGreatDoor
open Go.RowKit Go.Lib Go.Maps

/-- append to a row of the call's own, at the operation, with the block that it lies in -/
theorem wp_append_at {P : Program} {w : World} {o : Oper} {a : Act} {K : Act → World → Prop} {Q : Exit → Act → World → Prop} (s x : Operand) (t : TypeId)
  (ho : o.op = .call { callee := .builtin .append, args := #[s, x], argTypes := #[t, t] })
  (base : Nat) (e : TypeId) (i : TypeInfo) (z : Value) (size bytes : Nat) (ht : P.underlying t = some (.slice e)) (hi : P.info? e = some i) (hz : i.zero = some z)
  (hsize : i.size = size) (hby : i.bytes = bytes) (hzs : z.cells.size = size) (hsz : 0 < size)
  (v : Value) (n : Nat) (xs : List Value) (hs : a.eval s = v) (hown : w.ownsRow base e size v n xs)
  (ad : Addr) (m c : Nat) (news : List Value) (hx : a.eval x = .slice (some ad) m c) (hl : news.length = m * size) (hnews : ∀ j u, news[j]? = some u → w.cell? (ad.add j) = some u) (h1 : ∀ u ∈ news, u.oneCell' = true)
  (h63 : n + m ≤ maxLen) (hbytes : (n + m) * bytes ≤ 140737488355328) (hbase : base ≤ w.heap.size)
  (h : ∀ v' w', w'.ownsRow base e size v' (n + m) (xs ++ news) → w.grownBy w' v.ownBlock → (v'.ownBlock = v.ownBlock ∨ v'.ownBlock = some w.heap.size) → K (a.put o.dst v') w') : o.wp P a w K Q := by
 obtain ⟨v', w', hr, h2, h3, _, h5⟩ := run_append_own_at (P := P) w base t o.type e i z size bytes ht hi hz hsize hby hzs hsz v n xs hown ad m c news hl hnews h1 h63 hbytes hbase
 unfold Oper.wp execOp
 simp only [ho, resolve, invoke, builtin, Sem.run_bind, Sem.run_pure, Result.andThen_ok, List.map_toArray, List.map_cons, List.map_nil, hs, hx, hr]
 exact h v' w' h2 h3 h5

theorem strF_keyed : Keyed Tryz.prog 9 := string_keyed Tryz.underlying9
theorem strF_key {s : ByteArray} (hs : s.size ≤ maxLen) : keyOf Tryz.prog 9 (.string s) = some (.string s.data.toList) := Go.WideMaps.keyOf_string_mk Tryz.underlying9 hs
theorem strF_inv {key : Value} {kl : Lit} (h : keyOf Tryz.prog 9 key = some kl) : ∃ x : ByteArray, key = .string x := by
 obtain ⟨x, hx, _⟩ := Maps.keyOf_str Tryz.underlying9 h
 exact ⟨⟨x.toArray⟩, hx⟩
theorem bs_appF (a b : List UInt8) : bs a ++ bs b = bs (a ++ b) := bs_ext (by simp [bs])
theorem bs_toList (s : ByteArray) : bs s.data.toList = s := rfl

/-- the key that came is struck -/
noncomputable def dropL (lf : Value → Bool) (x : Value) : Value → Bool := open Classical in fun y => if y = x then false else lf y
theorem dropL_same (lf : Value → Bool) (x : Value) : dropL lf x x = false := by unfold dropL; rw [if_pos rfl]
theorem dropL_other {lf : Value → Bool} {x y : Value} (h : y ≠ x) : dropL lf x y = lf y := by unfold dropL; rw [if_neg h]
/-- what of the entries is done -/
def doneL (lf : Value → Bool) (g : List UInt8) : Bool := !lf (.string (bs g))
theorem doneL_same (lf : Value → Bool) (s : ByteArray) : doneL (dropL lf (.string s)) s.data.toList = true := by
 unfold doneL
 rw [bs_toList, dropL_same]
 rfl
theorem doneL_other (lf : Value → Bool) (s : ByteArray) (y : List UInt8) (h : y ≠ s.data.toList) : doneL (dropL lf (.string s)) y = doneL lf y := by
 unfold doneL
 rw [dropL_other]
 intro e
 cases e
 exact h rfl

/-- the maps of ends from place q on -/
structure BInv (W4 : World) (L : List (List UInt8)) (rs : List Al.R) (most : Int) (q : Nat) (ms : List Value) (E : Nat → List UInt8 → Option Int) (w : World) : Prop where
 e : Blk w W4.heap.size 80 ms
 ml : ms.length = L.length + 1
 maps : ∀ j, q ≤ j → j ≤ L.length → ∃ m nn, ms[j]? = some (.map (some m)) ∧ MapF w Tryz.prog 9 m nn (numF (E j)) ∧ nn ≤ 40000 ∧ W4.heap.size < m
 ok : ∀ j, q ≤ j → j ≤ L.length → Fo.EndsOk L rs most j (E j)
 below : Below W4.heap.size W4 w

theorem take_next {α : Type} {l : List α} {k : Nat} {x : α} (h : l[k]? = some x) : l.take (k + 1) = l.take k ++ [x] := by
 obtain ⟨h1, h2⟩ := List.getElem?_eq_some_iff.1 h
 rw [List.take_succ_eq_append_getElem h1, h2]
theorem Blk.tch {O : Nat → Prop} {w w' : World} {b : Nat} {e : TypeId} {vs : List Value} (h : Blk w b e vs) (ht : Tch O w w') (hb : ¬ O b) : Blk w' b e vs := (ht.block b h.lt hb).trans h
theorem holds_nil (E : Nat → List UInt8 → Option Int) (most b : Int) (ss : List Fo.Stp) : Fo.Holds (Fo.Cand E most b (ss.take 0)) fun _ => none := by
 intro f c
 constructor
 ·intro e; cases e
 ·rintro ⟨⟨-, s, hs, -⟩, -⟩
  simp at hs
/-- one step under way: base world Y, the map mi, the iterator R0 -/
structure DInv (Y : World) (mi R0 : Nat) (C : List UInt8 → Int → Prop) (F : List UInt8 → Option Int) (nn cnt : Nat) (w : World) : Prop where
 m : MapF w Tryz.prog 9 mi nn (numF F)
 le : nn + cnt ≤ 80000
 h : Fo.Holds C F
 tch : Tch (fun x => x = mi ∨ x = R0) Y w
/-- one place under way: base world X, its map mi -/
structure CInv (X : World) (mi : Nat) (C : List UInt8 → Int → Prop) (F : List UInt8 → Option Int) (nn : Nat) (w : World) : Prop where
 m : MapF w Tryz.prog 9 mi nn (numF F)
 le : nn ≤ 40000
 h : Fo.Holds C F
 tch : Tch (fun x => x = mi) X w

section
variable {W4 w w' X : World} {L : List (List UInt8)} {rs : List Al.R} {most : Int} {q mi nn : Nat} {ms : List Value} {E : Nat → List UInt8 → Option Int} {C : List UInt8 → Int → Prop} {F : List UInt8 → Option Int}

theorem CInv.step (h : CInv X mi C F nn w) (hb : Below w.heap.size w w') : CInv X mi C F nn w' := ⟨h.m.below hb, h.le, h.h, h.tch.step hb⟩
/-- a further map is begun -/
theorem BInv.begin_ {p : Nat} (h : BInv W4 L rs most (p + 1) ms E w) (_hp : p < L.length) :
  BInv W4 L rs most (p + 1) (ms.set p (.map (some w.heap.size))) E ((w.alloc (.map #[] 0)).setCell ⟨W4.heap.size, p, none⟩ (.map (some w.heap.size))) ∧ MapF ((w.alloc (.map #[] 0)).setCell ⟨W4.heap.size, p, none⟩ (.map (some w.heap.size))) Tryz.prog 9 w.heap.size 0 (numF fun _ => none) ∧ ∀ j m, p + 1 ≤ j → j ≤ L.length → (ms.set p (.map (some w.heap.size)))[j]? = some (.map (some m)) → m < w.heap.size := by
 have hb : Below w.heap.size w (w.alloc (.map #[] 0)) := (Below.refl _ w).alloc (Nat.le_refl _) _
 have hlt := h.e.lt
 have hg := grown_set (w.alloc (.map #[] 0)) W4.heap.size p (.map (some w.heap.size))
 refine ⟨⟨(h.e.below hb).set p _, by rw [List.length_set]; exact h.ml, fun j h1 h2 => ?_, h.ok, (h.below.trans (hb.mono h.below.size)).setCell (p := ⟨W4.heap.size, p, none⟩) (Nat.le_refl _) _⟩, ?_, ?_⟩
 ·obtain ⟨m, n2, e1, e2, e3, e4⟩ := h.maps j h1 h2
  refine ⟨m, n2, by rw [List.getElem?_set_ne (by omega)]; exact e1, (e2.below hb).kept hg (fun e => ?_), e3, e4⟩
  have := Option.some.inj e
  omega
 ·rw [numF_none]
  exact (MapF.made w _ _).kept hg (fun e => by have := Option.some.inj e; omega)
 ·intro j m h1 h2 hm
  rw [List.getElem?_set_ne (by omega)] at hm
  obtain ⟨m', n2, e1, e2, -, -⟩ := h.maps j h1 h2
  rw [e1] at hm
  cases hm
  exact e2.lt
/-- the map is done -/
theorem BInv.end_ {p : Nat} {ms' : List Value} (h : BInv W4 L rs most (p + 1) ms' E X) (hc : CInv X mi C F nn w) (hm : ms'[p]? = some (.map (some mi))) (hmi : W4.heap.size < mi) (hlt : ∀ j m, p + 1 ≤ j → j ≤ L.length → ms'[j]? = some (.map (some m)) → m ≠ mi) (hok : Fo.EndsOk L rs most p F) :
  BInv W4 L rs most p ms' (fun j => if j = p then F else E j) w := by
 refine ⟨(hc.tch.block _ h.e.lt (by show ¬ W4.heap.size = mi; omega)).trans h.e, h.ml, fun j h1 h2 => ?_, fun j h1 h2 => ?_, ?_⟩
 ·by_cases hj : j = p
  ·subst hj
   exact ⟨mi, nn, hm, by rw [if_pos rfl]; exact hc.m, hc.le, hmi⟩
  ·obtain ⟨m, n2, e1, e2, e3, e4⟩ := h.maps j (by omega) h2
   exact ⟨m, n2, e1, by rw [if_neg hj]; exact e2.tch hc.tch (hlt j m (by omega) h2 e1), e3, e4⟩
 ·by_cases hj : j = p
  ·subst hj
   rw [if_pos rfl]
   exact hok
  ·rw [if_neg hj]
   exact h.ok j (by omega) h2
 ·exact h.below.trans (hc.tch.below h.below.size (fun x (e : x = mi) => by omega))
end

end Go.Proofs.YtdchjacccmajcaaGreatDoor

namespace Go.Proofs.YtdchjacccmajcaaGreatDoor
open Go.RowKit Go.Maps Go.Sort Go.Shelf Go.Proofs

theorem sorts_in (m : Nat) : AnyZ.SortsIn Tryz.prog Tryz.sorted42_ren Fence.wide m :=
 ⟨fun blk off cap ss W hH hblk hsz => callsIn_wide.2 (AnyM.slices_Sort_string Tryz.sort73 blk off cap ss W hH hblk hsz),
  fun p cap W => callsIn_wide.2 (AnyM.slices_Sort_string_none Tryz.sort73 p cap W)⟩

theorem maps_keys (mb : Option Nat) (W : World) : Calls Tryz.prog 43 #[.map mb] W fun e w' => e = .returned (.func (.func 74) #[] #[.pointer (some ⟨W.heap.size, 0, none⟩)]) ∧ w' = W.alloc (.cells #[.map mb] 80) :=
 callsIn_wide.1 (AnyZ.keys_in Tryz.keys43 Fence.wide 5 trivial rfl mb W)

set_option maxHeartbeats 1000000 in
theorem sorted_keys {H : Type} (b nn : Nat) (D0 : DataW H) (R : Value → Option (DataW H × List MemPlace)) (w : World) (hown : w.ownsMap Tryz.prog 9 R b nn D0) (hmax : Maps.size D0 ≤ maxLen) (hbytes : Maps.size D0 * 16 ≤ 140737488355328) :
  Calls Tryz.prog 42 #[.func (.func 74) #[] #[.pointer (some ⟨w.heap.size, 0, none⟩)]] (w.alloc (.cells #[.map (some b)] 80)) fun e w' => ∃ (v : Value) (ss : List (List UInt8)), e = .returned v ∧ ss.Perm (strKeys D0) ∧
   w'.ownsRow (w.alloc (.cells #[.map (some b)] 80)).heap.size 9 1 v ss.length ((ss.mergeSort (fun x y => decide (x ≤ y))).map encStr) ∧ (v = .slice none 0 0 ↔ ss = []) ∧ Below (w.alloc (.cells #[.map (some b)] 80)).heap.size (w.alloc (.cells #[.map (some b)] 80)) w' := by
 have hbl := hown.lt
 have hseq : SeqGives Fence.wide 2 Tryz.prog 74 #[.pointer (some ⟨w.heap.size, 0, none⟩)] encStr (fun ss => ss.Perm (strKeys D0)) (Maps.size D0) (w.alloc (.cells #[.map (some b)] 80)) :=
  AnyZ.keys_gives (ρ := Tryz.keys43_ren) { Tryz.keys43 with } Fence.wide _ trivial rfl (by omega) w.heap.size b nn D0 _ (by simp) (by simp) (by
   obtain ⟨es, clock, hb, Ft, hs, hD⟩ := hown
   exact ⟨es, clock, (Below.heap_alloc _ _ b hbl).trans hb, Ft, hs, hD⟩)
 exact callsIn_wide.1 (AnyZ.sorted_in Tryz.sorted42 Fence.wide 5 trivial trivial trivial trivial rfl (by omega) (sorts_in _) (enters_of Tryz.func73 (by kernel_rfl) rfl) 74 #[.pointer (some ⟨w.heap.size, 0, none⟩)] trivial (enters_of Tryz.func74 (by kernel_rfl) rfl) _ _ hmax hbytes _ hseq)

end Go.Proofs.YtdchjacccmajcaaGreatDoor
