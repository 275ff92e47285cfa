/-
  rewrite.Forms, its memory in the second half: the maps of ends. Conditions: none.
-/
import Derived.Test.YtdchjacccmajcaaGreatDoorZFormM
import Derived.Test.YtdchjacccmajcaaGreatDoorZMBase
import Derived.Maps.AppendAt
import Derived.Test.YtdchjacccmajcaaGreatDoorZMAlC
namespace Fo
theorem Re.short {L : List (List UInt8)} {rs : List Al.R} (h0 : ∀ r ∈ rs, 0 < r.from_.length ∧ r.to_.length ≤ 3) {i : Nat} {f : List UInt8} {c : Int} (h : Re L rs i f c) : f.length ≤ 3 * (L.length - i) := by
  induction h with
  | nil => simp
  | cons hr hf h ih =>
    have h1 := h0 _ hr
    have h2 := fits_le hf
    rw [List.length_append]
    omega
theorem to_short {t : Rw.Table} (hv : Rw.valid t = true) (k : Int) : ∀ r ∈ Al.rulesFrom k 0 t.rules, 0 < r.from_.length ∧ r.to_.length ≤ 3 := by
  intro r hr
  refine ⟨(good_rules hv k).some_ r hr, ?_⟩
  obtain ⟨v1, v2⟩ := Rw.valid_rules hv
  obtain ⟨⟨q, hq, e1, e2, e3⟩, _⟩ := Al.rulesFrom_mem k _ _ r hr
  have ho := v2 q hq
  unfold Rw.ruleOk Rw.isForm at ho
  simp only [Bool.and_eq_true, decide_eq_true_eq] at ho
  rw [e2]
  exact ho.1.2.1
theorem EndsOk.short {L : List (List UInt8)} {rs : List Al.R} (hg : Good rs) (h0 : ∀ r ∈ rs, 0 < r.from_.length ∧ r.to_.length ≤ 3) (hL : L.length ≤ 1000) {most : Int} {i : Nat} {F : List UInt8 → Option Int} (h : EndsOk L rs most i F) {f : List UInt8} {c : Int} (hf : F f = some c) : f.length ≤ 3000 ∧ 0 ≤ c ∧ c ≤ 1000000 := by
  have h1 := (h.least hg hf).1
  have h2 := h1.short h0
  have h3 := h1.cost hg
  omega
theorem CandW.short {L : List (List UInt8)} {rs : List Al.R} (hg : Good rs) (h0 : ∀ r ∈ rs, 0 < r.from_.length ∧ r.to_.length ≤ 3) (hL : L.length ≤ 1000) {most b : Int} {i : Nat} {E : Nat → List UInt8 → Option Int} (hE : ∀ j, i < j → j ≤ L.length → EndsOk L rs most j (E j)) {ss : List Stp} (hs : ∀ s ∈ ss, s ∈ steps L rs i) {s : Stp} (hs2 : s ∈ steps L rs i) {done : List UInt8 → Bool} {f : List UInt8} {c : Int} (h : CandW E most b ss s done f c) : f.length ≤ 3000 ∧ 0 ≤ c ∧ c ≤ 1000000 := by
  obtain ⟨h1, -⟩ := candW_re hg hE hs hs2 h
  have h2 := h1.short h0
  have h3 := h1.cost hg
  omega
/-- the first entry at the end of the word -/
def lastE : List UInt8 → Option Int := putE0
where putE0 : List UInt8 → Option Int := fun y => if y = [] then some 0 else none
theorem lastE_ok {L : List (List UInt8)} {rs : List Al.R} (most : Int) : EndsOk L rs most L.length lastE := by
  unfold EndsOk
  rw [if_pos rfl]
  intro f c
  unfold lastE lastE.putE0
  by_cases h : f = []
  · rw [if_pos h]
    constructor
    · intro e; cases e; exact ⟨h, rfl⟩
    · rintro ⟨-, rfl⟩; rfl
  · rw [if_neg h]
    constructor
    · intro e; cases e
    · rintro ⟨e, -⟩; exact absurd e h

end Fo
namespace Go.Proofs.YtdchjacccmajcaaGreatDoor
open Go.RowKit Go.Lib Go.Maps

/-- append to a row of the call's own, at the operation, with the block that it lies in -/
theorem wp_append_at {P : Program} {w : World} {o : Oper} {a : Act} {K : Act → World → Prop} {Q : Exit → Act → World → Prop} (s x : Operand) (t : TypeId)
    (ho : o.op = .call { callee := .builtin .append, args := #[s, x], argTypes := #[t, t] })
    (base : Nat) (e : TypeId) (i : TypeInfo) (z : Value) (size bytes : Nat) (ht : P.underlying t = some (.slice e)) (hi : P.info? e = some i) (hz : i.zero = some z)
    (hsize : i.size = size) (hby : i.bytes = bytes) (hzs : z.cells.size = size) (hsz : 0 < size)
    (v : Value) (n : Nat) (xs : List Value) (hs : a.eval s = v) (hown : w.ownsRow base e size v n xs)
    (ad : Addr) (m c : Nat) (news : List Value) (hx : a.eval x = .slice (some ad) m c) (hl : news.length = m * size) (hnews : ∀ j u, news[j]? = some u → w.cell? (ad.add j) = some u) (h1 : ∀ u ∈ news, u.oneCell' = true)
    (h63 : n + m ≤ maxLen) (hbytes : (n + m) * bytes ≤ 140737488355328) (hbase : base ≤ w.heap.size)
    (h : ∀ v' w', w'.ownsRow base e size v' (n + m) (xs ++ news) → w.grownBy w' v.ownBlock → (v'.ownBlock = v.ownBlock ∨ v'.ownBlock = some w.heap.size) → K (a.put o.dst v') w') : o.wp P a w K Q := by
  obtain ⟨v', w', hr, h2, h3, _, h5⟩ := run_append_own_at (P := P) w base t o.type e i z size bytes ht hi hz hsize hby hzs hsz v n xs hown ad m c news hl hnews h1 h63 hbytes hbase
  unfold Oper.wp execOp
  simp only [ho, resolve, invoke, builtin, Sem.run_bind, Sem.run_pure, Result.andThen_ok, List.map_toArray, List.map_cons, List.map_nil, hs, hx, hr]
  exact h v' w' h2 h3 h5

theorem strF_keyed : Keyed Tryz.prog 9 := string_keyed Tryz.underlying9
theorem strF_key {s : ByteArray} (hs : s.size ≤ maxLen) : keyOf Tryz.prog 9 (.string s) = some (.string s.data.toList) := Go.WideMaps.keyOf_string_mk Tryz.underlying9 hs
theorem strF_inv {key : Value} {kl : Lit} (h : keyOf Tryz.prog 9 key = some kl) : ∃ x : ByteArray, key = .string x := by
  obtain ⟨x, hx, _⟩ := Maps.keyOf_str Tryz.underlying9 h
  exact ⟨⟨x.toArray⟩, hx⟩
theorem strF_size {s : ByteArray} {kl : Lit} (h : keyOf Tryz.prog 9 (.string s) = some kl) : s.size ≤ maxLen := by
  obtain ⟨x, hx, _, hl⟩ := Maps.keyOf_str Tryz.underlying9 h
  have e : Value.string s = .string ⟨x.toArray⟩ := hx
  cases e
  simpa [ByteArray.size] using hl
theorem bs_appF (a b : List UInt8) : bs a ++ bs b = bs (a ++ b) := bs_ext (by simp [bs])
theorem bs_toList (s : ByteArray) : bs s.data.toList = s := rfl

/-- the key that came is struck -/
noncomputable def dropL (lf : Value → Bool) (x : Value) : Value → Bool := open Classical in fun y => if y = x then false else lf y
theorem dropL_same (lf : Value → Bool) (x : Value) : dropL lf x x = false := by unfold dropL; rw [if_pos rfl]
theorem dropL_other {lf : Value → Bool} {x y : Value} (h : y ≠ x) : dropL lf x y = lf y := by unfold dropL; rw [if_neg h]
/-- what of the entries is done -/
def doneL (lf : Value → Bool) (g : List UInt8) : Bool := !lf (.string (bs g))
theorem doneL_same (lf : Value → Bool) (s : ByteArray) : doneL (dropL lf (.string s)) s.data.toList = true := by
  unfold doneL
  rw [bs_toList, dropL_same]
  rfl
theorem doneL_other (lf : Value → Bool) (s : ByteArray) (y : List UInt8) (h : y ≠ s.data.toList) : doneL (dropL lf (.string s)) y = doneL lf y := by
  unfold doneL
  rw [dropL_other]
  intro e
  cases e
  exact h rfl

/-- the maps of ends from place q on -/
structure BInv (W4 : World) (L : List (List UInt8)) (rs : List Al.R) (most : Int) (q : Nat) (ms : List Value) (E : Nat → List UInt8 → Option Int) (w : World) : Prop where
  e : Blk w W4.heap.size 80 ms
  ml : ms.length = L.length + 1
  maps : ∀ j, q ≤ j → j ≤ L.length → ∃ m nn, ms[j]? = some (.map (some m)) ∧ MapF w Tryz.prog 9 m nn (numF (E j)) ∧ nn ≤ 40000 ∧ W4.heap.size < m
  ok : ∀ j, q ≤ j → j ≤ L.length → Fo.EndsOk L rs most j (E j)
  below : Below W4.heap.size W4 w

theorem take_next {α : Type} {l : List α} {k : Nat} {x : α} (h : l[k]? = some x) : l.take (k + 1) = l.take k ++ [x] := by
  obtain ⟨h1, h2⟩ := List.getElem?_eq_some_iff.1 h
  rw [List.take_succ_eq_append_getElem h1, h2]
theorem Blk.tch {O : Nat → Prop} {w w' : World} {b : Nat} {e : TypeId} {vs : List Value} (h : Blk w b e vs) (ht : Tch O w w') (hb : ¬ O b) : Blk w' b e vs := (ht.block b h.lt hb).trans h
theorem holds_nil (E : Nat → List UInt8 → Option Int) (most b : Int) (ss : List Fo.Stp) : Fo.Holds (Fo.Cand E most b (ss.take 0)) fun _ => none := by
  intro f c
  constructor
  · intro e; cases e
  · rintro ⟨⟨-, s, hs, -⟩, -⟩
    simp at hs
/-- one step under way: base world Y, the map mi, the iterator R0 -/
structure DInv (Y : World) (mi R0 : Nat) (C : List UInt8 → Int → Prop) (F : List UInt8 → Option Int) (nn cnt : Nat) (w : World) : Prop where
  m : MapF w Tryz.prog 9 mi nn (numF F)
  le : nn + cnt ≤ 80000
  h : Fo.Holds C F
  tch : Tch (fun x => x = mi ∨ x = R0) Y w
/-- one place under way: base world X, its map mi -/
structure CInv (X : World) (mi : Nat) (C : List UInt8 → Int → Prop) (F : List UInt8 → Option Int) (nn : Nat) (w : World) : Prop where
  m : MapF w Tryz.prog 9 mi nn (numF F)
  le : nn ≤ 40000
  h : Fo.Holds C F
  tch : Tch (fun x => x = mi) X w

section
variable {W4 w w' X : World} {L : List (List UInt8)} {rs : List Al.R} {most : Int} {q mi nn : Nat} {ms : List Value} {E : Nat → List UInt8 → Option Int} {C : List UInt8 → Int → Prop} {F : List UInt8 → Option Int}

theorem CInv.step (h : CInv X mi C F nn w) (hb : Below w.heap.size w w') : CInv X mi C F nn w' := ⟨h.m.below hb, h.le, h.h, h.tch.step hb⟩
/-- a further map is begun -/
theorem BInv.begin_ {p : Nat} (h : BInv W4 L rs most (p + 1) ms E w) (_hp : p < L.length) :
    BInv W4 L rs most (p + 1) (ms.set p (.map (some w.heap.size))) E ((w.alloc (.map #[] 0)).setCell ⟨W4.heap.size, p, none⟩ (.map (some w.heap.size))) ∧ MapF ((w.alloc (.map #[] 0)).setCell ⟨W4.heap.size, p, none⟩ (.map (some w.heap.size))) Tryz.prog 9 w.heap.size 0 (numF fun _ => none) ∧ ∀ j m, p + 1 ≤ j → j ≤ L.length → (ms.set p (.map (some w.heap.size)))[j]? = some (.map (some m)) → m < w.heap.size := by
  have hb : Below w.heap.size w (w.alloc (.map #[] 0)) := (Below.refl _ w).alloc (Nat.le_refl _) _
  have hlt := h.e.lt
  have hg := grown_set (w.alloc (.map #[] 0)) W4.heap.size p (.map (some w.heap.size))
  refine ⟨⟨(h.e.below hb).set p _, by rw [List.length_set]; exact h.ml, fun j h1 h2 => ?_, h.ok, (h.below.trans (hb.mono h.below.size)).setCell (p := ⟨W4.heap.size, p, none⟩) (Nat.le_refl _) _⟩, ?_, ?_⟩
  · obtain ⟨m, n2, e1, e2, e3, e4⟩ := h.maps j h1 h2
    refine ⟨m, n2, by rw [List.getElem?_set_ne (by omega)]; exact e1, (e2.below hb).kept hg (fun e => ?_), e3, e4⟩
    have := Option.some.inj e
    omega
  · rw [numF_none]
    exact (MapF.made w _ _).kept hg (fun e => by have := Option.some.inj e; omega)
  · intro j m h1 h2 hm
    rw [List.getElem?_set_ne (by omega)] at hm
    obtain ⟨m', n2, e1, e2, -, -⟩ := h.maps j h1 h2
    rw [e1] at hm
    cases hm
    exact e2.lt
/-- the map is done -/
theorem BInv.end_ {p : Nat} {ms' : List Value} (h : BInv W4 L rs most (p + 1) ms' E X) (hc : CInv X mi C F nn w) (hm : ms'[p]? = some (.map (some mi))) (hmi : W4.heap.size < mi) (hlt : ∀ j m, p + 1 ≤ j → j ≤ L.length → ms'[j]? = some (.map (some m)) → m ≠ mi) (hok : Fo.EndsOk L rs most p F) :
    BInv W4 L rs most p ms' (fun j => if j = p then F else E j) w := by
  refine ⟨(hc.tch.block _ h.e.lt (by show ¬ W4.heap.size = mi; omega)).trans h.e, h.ml, fun j h1 h2 => ?_, fun j h1 h2 => ?_, ?_⟩
  · by_cases hj : j = p
    · subst hj
      exact ⟨mi, nn, hm, by rw [if_pos rfl]; exact hc.m, hc.le, hmi⟩
    · obtain ⟨m, n2, e1, e2, e3, e4⟩ := h.maps j (by omega) h2
      exact ⟨m, n2, e1, by rw [if_neg hj]; exact e2.tch hc.tch (hlt j m (by omega) h2 e1), e3, e4⟩
  · by_cases hj : j = p
    · subst hj
      rw [if_pos rfl]
      exact hok
    · rw [if_neg hj]
      exact h.ok j (by omega) h2
  · exact h.below.trans (hc.tch.below h.below.size (fun x (e : x = mi) => by omega))
end

end Go.Proofs.YtdchjacccmajcaaGreatDoor
