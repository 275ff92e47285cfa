/-
 rewrite's parser of tables: table. Conditions: lengths; the library's tables.
-/
import Derived.Test.YtdchjacccmajcaaGreatDoorZRv4
import Derived.Deep.CutRange
namespace Go.Proofs.YtdchjacccmajcaaGreatDoor
open Go.RowKit Go.Maps Go.Lib

variable {B : Nat}

theorem Tryz.infoRuleP : (Tryz.prog.info? 34).map (fun i => (i.zero, i.size, i.bytes)) = some (some (.agg #[.int .i64 0, .string ⟨#[]⟩, .string ⟨#[]⟩, .int .i64 0]), 4, 48) := by kernel_rfl
/-- a valid table's value -/
theorem table_at {w : World} {t : Rw.Table} {rs : List Rw.Rule} {ds es : List Rw.Drop} {rv dv ev : Value} {x y u : Int} {Q : Nat → Prop} (e1 : t.rules = rs) (e2 : t.drops = ds) (e3 : t.ends = es) (e4 : t.drop = x) (e5 : t.order = y) (e6 : t.initial = u) (hv : Rw.valid t = true)
  (hr : SlIn w rv Q 4 ruleCells rs) (hd : SlIn w dv Q 3 dropCells ds) (he : SlIn w ev Q 3 dropCells es) : TableAt w t (.agg #[rv, dv, ev, .int .i64 x, .int .i64 y, .int .i64 u]) := by
 subst e1 e2 e3 e4 e5 e6
 obtain ⟨h1, h2, h3, h4, h5, h6, ⟨h7, h8⟩, h9, h10⟩ := Rw.valid_parts hv
 have wf : ∀ k : Int, (1 ≤ k ∧ k ≤ 4) → (Lit.int .i64 k).wf = true := fun k hk => by
  have : k = 1 ∨ k = 2 ∨ k = 3 ∨ k = 4 := by omega
  rcases this with e | e | e | e <;> (rw [e]; rfl)
 have dr : ∀ (m : Int) (l : List Rw.Drop), Rw.allOk (Rw.dropOk m) Rw.Drop.key l [] = true → ∀ d ∈ l, DropFits d := fun m l hl d hd => by
  have hok := (Rw.allOk_iff.1 hl).1 d hd
  unfold Rw.dropOk at hok
  simp only [Bool.and_eq_true] at hok
  obtain ⟨a, b, -⟩ := Rw.folded_text hok.1
  exact ⟨wf _ a, by omega⟩
 refine ⟨⟨rv, dv, ev, rfl, hr.slOf, hd.slOf, he.slOf⟩, fun r hr => ?_, dr _ _ h7, dr _ _ h9, by omega, by omega, by omega⟩
 have hok := (Rw.allOk_iff.1 h6).1 r hr
 unfold Rw.ruleOk at hok
 simp only [Bool.and_eq_true] at hok
 obtain ⟨a, b, -⟩ := Rw.folded_text hok.1.1
 obtain ⟨c, -⟩ := Rw.form_text hok.1.2
 exact ⟨wf _ a, by omega, by omega⟩

/-- a valid table's value, its slices in blocks of Q -/
structure TabIn (w : World) (t : Rw.Table) (v : Value) (Q : Nat → Prop) : Prop where
 at_ : ∃ vr vd ve, v = .agg #[vr, vd, ve, .int .i64 t.drop, .int .i64 t.order, .int .i64 t.initial] ∧ SlIn w vr Q 4 ruleCells t.rules ∧ SlIn w vd Q 3 dropCells t.drops ∧ SlIn w ve Q 3 dropCells t.ends
 valid : Rw.valid t = true
theorem TabIn.tch {w w' : World} {t : Rw.Table} {v : Value} {Q O : Nat → Prop} (h : TabIn w t v Q) (ht : Tch O w w') (ho : ∀ k, Q k → ¬ O k) : TabIn w' t v Q := by
 obtain ⟨⟨vr, vd, ve, e, h1, h2, h3⟩, hv⟩ := h
 exact ⟨⟨vr, vd, ve, e, h1.tch ht ho, h2.tch ht ho, h3.tch ht ho⟩, hv⟩
theorem TabIn.tableAt {w : World} {t : Rw.Table} {v : Value} {Q : Nat → Prop} (h : TabIn w t v Q) : TableAt w t v := by
 obtain ⟨⟨vr, vd, ve, rfl, h1, h2, h3⟩, hv⟩ := h
 exact table_at rfl rfl rfl rfl rfl rfl hv h1 h2 h3
/-- a table read -/
def TblW (B : Nat) (w : World) (p e : Nat) (r : Except Fa.Fail (Rw.Table × List Fa.T)) (en : Ending) (w' : World) : Prop :=
 match r with
 | .ok (t, l) => ∃ v, en = .returned v ∧ TabIn w' t v (fun k => w.heap.size < k) ∧ (∃ a, PsW B w' p l e a) ∧ Tch (fun b => b = p) w w'
 | .error x => ThrowsP w p x en w'

/-- between two rules: b0 the result's box, behind it the table's box and the map of keys -/
structure TblI (B : Nat) (w : World) (p e : Nat) (rs : List Rw.Rule) (rv : Value) (ls : List Fa.T) (a : Nat) (wr : World) : Prop where
 z : wr.heap[w.heap.size]? = some (.cells #[.slice none 0 0, .slice none 0 0, .slice none 0 0, .int .i64 0, .int .i64 0, .int .i64 0] 25 (0, 0))
 t : wr.heap[w.heap.size + 1]? = some (.cells #[rv, .slice none 0 0, .slice none 0 0, .int .i64 0, .int .i64 0, .int .i64 0] 25 (0, 0))
 m : MapF wr Tryz.prog 70 (w.heap.size + 2) rs.length (seenF (rs.map Rw.Rule.key))
 r : wr.ownsRow (w.heap.size + 3) 34 4 rv rs.length (rs.flatMap ruleCells)
 ps : PsW B wr p ls e a
 tch : Tch (fun b => b = p) w wr
theorem TblI.step {w wr w' : World} {p e a : Nat} {rs : List Rw.Rule} {rv : Value} {ls : List Fa.T} (h : TblI B w p e rs rv ls a wr) (hb : Below wr.heap.size wr w') : TblI B w p e rs rv ls a w' :=
 ⟨(hb.block _ (Array.getElem?_eq_some_iff.1 h.z).1).trans h.z, (hb.block _ (Array.getElem?_eq_some_iff.1 h.t).1).trans h.t, h.m.below hb, ownsRow_below h.r hb, h.ps.below hb, h.tch.step hb⟩
/-- a call that touches the parser alone -/
theorem TblI.call {w wr w' : World} {p e a a' : Nat} {rs : List Rw.Rule} {rv : Value} {ls ls' : List Fa.T} (h : TblI B w p e rs rv ls a wr) (hp : p < w.heap.size) (ht : Tch (fun b => b = p) wr w') (hP : PsW B w' p ls' e a') : TblI B w p e rs rv ls' a' w' :=
 ⟨(ht.block _ (Array.getElem?_eq_some_iff.1 h.z).1 (by show ¬ w.heap.size = p; omega)).trans h.z, (ht.block _ (Array.getElem?_eq_some_iff.1 h.t).1 (by show ¬ w.heap.size + 1 = p; omega)).trans h.t, h.m.tch ht (by show ¬ w.heap.size + 2 = p; omega),
  ownsRow_tch h.r ht (fun g hg e => by have := (h.r.lt g hg).1; omega), hP, h.tch.trans ht (fun k hk _ => hk)⟩
/-- a store into a block of the round's own -/
theorem TblI.own {w wr w' : World} {p e a b : Nat} {rs : List Rw.Rule} {rv : Value} {ls : List Fa.T} (h : TblI B w p e rs rv ls a wr) (hp : p < w.heap.size) (hb : w.heap.size + 3 ≤ b) (hr : ∀ g, rv.ownBlock = some g → g ≠ b) (ht : Tch (fun k => k = b) wr w') : TblI B w p e rs rv ls a w' :=
 ⟨(ht.block _ (Array.getElem?_eq_some_iff.1 h.z).1 (by show ¬ w.heap.size = b; omega)).trans h.z, (ht.block _ (Array.getElem?_eq_some_iff.1 h.t).1 (by show ¬ w.heap.size + 1 = b; omega)).trans h.t, h.m.tch ht (by show ¬ w.heap.size + 2 = b; omega),
  ownsRow_tch h.r ht (fun g hg e => hr g hg e), h.ps.tch ht (fun k _ hk e => by omega), h.tch.trans ht (fun k hk hlt => by omega)⟩

/-- a rule more -/
theorem TblI.next {w w18 w19 w20 : World} {p e a : Nat} {rs : List Rw.Rule} {d : Rw.Rule} {rv v' : Value} {ls : List Fa.T} (h : TblI B w p e rs rv ls a w18) (hp : p < w.heap.size) (hT : Tch (fun k => k = w.heap.size + 2) w18 w19)
  (hm : MapF w19 Tryz.prog 70 (w.heap.size + 2) (rs.length + 1) (seenF (rs.map Rw.Rule.key ++ [d.key]))) (hT2 : Tch (fun k => w.heap.size + 3 ≤ k) w19 w20) (ho : w20.ownsRow (w.heap.size + 3) 34 4 v' (rs.length + 1) (rs.flatMap ruleCells ++ ruleCells d)) :
  TblI B w p e (rs ++ [d]) v' ls a (w20.setCell ⟨w.heap.size + 1, 0, none⟩ v') := by
 have hT3 : Tch (fun k => k = w.heap.size + 1) w20 (w20.setCell ⟨w.heap.size + 1, 0, none⟩ v') := (Tch.refl (fun k => k = w.heap.size + 1) w20).setCell (a := ⟨w.heap.size + 1, 0, none⟩) (.inl rfl) _
 have z1 := (hT.block _ (Array.getElem?_eq_some_iff.1 h.z).1 (by show ¬ w.heap.size = w.heap.size + 2; omega)).trans h.z
 have z2 := (hT2.block _ (Array.getElem?_eq_some_iff.1 z1).1 (by show ¬ w.heap.size + 3 ≤ w.heap.size; omega)).trans z1
 have z3 := (hT3.block _ (Array.getElem?_eq_some_iff.1 z2).1 (by show ¬ w.heap.size = w.heap.size + 1; omega)).trans z2
 have t1 := (hT.block _ (Array.getElem?_eq_some_iff.1 h.t).1 (by show ¬ w.heap.size + 1 = w.heap.size + 2; omega)).trans h.t
 have t2 := (hT2.block _ (Array.getElem?_eq_some_iff.1 t1).1 (by show ¬ w.heap.size + 3 ≤ w.heap.size + 1; omega)).trans t1
 refine ⟨z3, blk_setP t2 0 v', ?_, ?_, ((h.ps.tch hT (fun k _ hk e => by omega)).tch hT2 (fun k _ hk e => by omega)).tch hT3 (fun k _ hk e => by omega), ((h.tch.trans hT (fun k hk hlt => by omega)).trans hT2 (fun k hk hlt => by omega)).trans hT3 (fun k hk hlt => by omega)⟩
 ·rw [List.length_append, List.map_append]
  exact (hm.tch hT2 (by show ¬ w.heap.size + 3 ≤ w.heap.size + 2; omega)).tch hT3 (by show ¬ w.heap.size + 2 = w.heap.size + 1; omega)
 ·rw [List.length_append, List.flatMap_append, List.flatMap_cons, List.flatMap_nil, List.append_nil]
  exact ownsRow_tch ho hT3 (fun g hg e => by have := (ho.lt g hg).1; omega)

/-- behind the rules: the table's box is filled -/
structure TblJ (B : Nat) (w : World) (p e : Nat) (rs : List Rw.Rule) (ds es : List Rw.Drop) (rv dv ev : Value) (x y u : Int) (ls : List Fa.T) (a : Nat) (wr : World) : Prop where
 z : wr.heap[w.heap.size]? = some (.cells #[.slice none 0 0, .slice none 0 0, .slice none 0 0, .int .i64 0, .int .i64 0, .int .i64 0] 25 (0, 0))
 t : wr.heap[w.heap.size + 1]? = some (.cells #[rv, dv, ev, .int .i64 x, .int .i64 y, .int .i64 u] 25 (0, 0))
 fr : SlIn wr rv (fun k => w.heap.size + 2 < k) 4 ruleCells rs
 fd : SlIn wr dv (fun k => w.heap.size + 2 < k) 3 dropCells ds
 fe : SlIn wr ev (fun k => w.heap.size + 2 < k) 3 dropCells es
 ps : PsW B wr p ls e a
 tch : Tch (fun b => b = p) w wr
theorem TblI.j {w wr : World} {p e a : Nat} {rs : List Rw.Rule} {rv : Value} {ls : List Fa.T} (h : TblI B w p e rs rv ls a wr) : TblJ B w p e rs [] [] rv (.slice none 0 0) (.slice none 0 0) 0 0 0 ls a wr :=
 ⟨h.z, h.t, (SlIn.own h.r fun _ _ => rfl).mono fun k hk _ => by have := (h.r.lt k hk).1; omega, SlIn.nil _ _ _ _, SlIn.nil _ _ _ _, h.ps, h.tch⟩
section
variable {w wr w' : World} {p e a a' : Nat} {rs : List Rw.Rule} {ds es ds' es' : List Rw.Drop} {rv dv ev dv' ev' : Value} {x y u x' y' u' : Int} {ls ls' : List Fa.T}
theorem TblJ.step (h : TblJ B w p e rs ds es rv dv ev x y u ls a wr) (hb : Below wr.heap.size wr w') : TblJ B w p e rs ds es rv dv ev x y u ls a w' :=
 ⟨(hb.block _ (Array.getElem?_eq_some_iff.1 h.z).1).trans h.z, (hb.block _ (Array.getElem?_eq_some_iff.1 h.t).1).trans h.t, h.fr.below hb, h.fd.below hb, h.fe.below hb, h.ps.below hb, h.tch.step hb⟩
theorem TblJ.call (h : TblJ B w p e rs ds es rv dv ev x y u ls a wr) (hp : p < w.heap.size) (ht : Tch (fun b => b = p) wr w') (hP : PsW B w' p ls' e a') : TblJ B w p e rs ds es rv dv ev x y u ls' a' w' :=
 ⟨(ht.block _ (Array.getElem?_eq_some_iff.1 h.z).1 (by show ¬ w.heap.size = p; omega)).trans h.z, (ht.block _ (Array.getElem?_eq_some_iff.1 h.t).1 (by show ¬ w.heap.size + 1 = p; omega)).trans h.t,
  h.fr.tch ht fun k hk e => by omega, h.fd.tch ht fun k hk e => by omega, h.fe.tch ht fun k hk e => by omega, hP, h.tch.trans ht (fun k hk _ => hk)⟩
/-- a store into the table's box -/
theorem TblJ.box (h : TblJ B w p e rs ds es rv dv ev x y u ls a wr) (hp : p < w.heap.size) (j : Nat) (v : Value) (ht : (wr.setCell ⟨w.heap.size + 1, j, none⟩ v).heap[w.heap.size + 1]? = some (.cells #[rv, dv', ev', .int .i64 x', .int .i64 y', .int .i64 u'] 25 (0, 0)))
  (hd : SlIn wr dv' (fun k => w.heap.size + 2 < k) 3 dropCells ds') (he : SlIn wr ev' (fun k => w.heap.size + 2 < k) 3 dropCells es') : TblJ B w p e rs ds' es' rv dv' ev' x' y' u' ls a (wr.setCell ⟨w.heap.size + 1, j, none⟩ v) := by
 have hT3 : Tch (fun k => k = w.heap.size + 1) wr (wr.setCell ⟨w.heap.size + 1, j, none⟩ v) := (Tch.refl (fun k => k = w.heap.size + 1) wr).setCell (a := ⟨w.heap.size + 1, j, none⟩) (.inl rfl) _
 exact ⟨(hT3.block _ (Array.getElem?_eq_some_iff.1 h.z).1 (by show ¬ w.heap.size = w.heap.size + 1; omega)).trans h.z, ht, h.fr.tch hT3 fun k hk e => by omega, hd.tch hT3 fun k hk e => by omega, he.tch hT3 fun k hk e => by omega,
  h.ps.tch hT3 (fun k _ hk e => by omega), h.tch.trans hT3 (fun k hk hlt => by omega)⟩
theorem TblJ.cells (h : TblJ B w p e rs ds es rv dv ev x y u ls a wr) (j : Nat) (v : Value) (hj : (#[rv, dv, ev, .int .i64 x, .int .i64 y, .int .i64 u] : Array Value)[j]? = some v) : wr.cell? ⟨w.heap.size + 1, j, none⟩ = some v ∧ wr.frozen? ⟨w.heap.size + 1, j, none⟩ = false ∧ w.heap.size + 1 < wr.heap.size :=
 ⟨by simp only [World.cell?, h.t]; exact hj, frozen_of_row wr _ j _ _ h.t, (Array.getElem?_eq_some_iff.1 h.t).1⟩
end
theorem tableAt_j {w wr w' : World} {p e a : Nat} {rs : List Rw.Rule} {ds es : List Rw.Drop} {rv dv ev : Value} {x y u : Int} {ls : List Fa.T} (h : TblJ B w p e rs ds es rv dv ev x y u ls a wr) (hp : p < w.heap.size) (hv : Rw.valid ⟨rs, ds, es, x, y, u⟩ = true)
  (hW : w' = (((((wr.setCell ⟨w.heap.size, 0, none⟩ rv).setCell ⟨w.heap.size, 1, none⟩ dv).setCell ⟨w.heap.size, 2, none⟩ ev).setCell ⟨w.heap.size, 3, none⟩ (.int .i64 x)).setCell ⟨w.heap.size, 4, none⟩ (.int .i64 y)).setCell ⟨w.heap.size, 5, none⟩ (.int .i64 u)) :
  w'.heap[w.heap.size]? = some (.cells #[rv, dv, ev, .int .i64 x, .int .i64 y, .int .i64 u] 25 (0, 0)) ∧ TabIn w' ⟨rs, ds, es, x, y, u⟩ (.agg #[rv, dv, ev, .int .i64 x, .int .i64 y, .int .i64 u]) (fun k => w.heap.size < k) ∧ PsW B w' p ls e a ∧ Tch (fun b => b = p) w w' := by
 have hT : Tch (fun k => k = w.heap.size) wr w' := by
  rw [hW]
  exact ((((((Tch.refl (fun k => k = w.heap.size) wr).setCell (a := ⟨w.heap.size, 0, none⟩) (.inl rfl) _).setCell (a := ⟨w.heap.size, 1, none⟩) (.inl rfl) _).setCell (a := ⟨w.heap.size, 2, none⟩) (.inl rfl) _).setCell (a := ⟨w.heap.size, 3, none⟩) (.inl rfl) _).setCell (a := ⟨w.heap.size, 4, none⟩) (.inl rfl) _).setCell (a := ⟨w.heap.size, 5, none⟩) (.inl rfl) _
 refine ⟨?_, ⟨⟨rv, dv, ev, rfl, (h.fr.tch hT fun k hk e => by omega).mono fun k hk _ => by have hk' : w.heap.size + 2 < k := hk; omega, (h.fd.tch hT fun k hk e => by omega).mono fun k hk _ => by have hk' : w.heap.size + 2 < k := hk; omega, (h.fe.tch hT fun k hk e => by omega).mono fun k hk _ => by have hk' : w.heap.size + 2 < k := hk; omega⟩, hv⟩, h.ps.tch hT (fun k _ hk e => by omega), h.tch.trans hT (fun k hk hlt => by omega)⟩
 rw [hW]
 exact blk_setP (blk_setP (blk_setP (blk_setP (blk_setP (blk_setP h.z 0 _) 1 _) 2 _) 3 _) 4 _) 5 _

set_option maxRecDepth 100000 in
set_option maxHeartbeats 20000000 in
theorem table_any10 (w : World) (p : Nat) (l : List Fa.T) (e a : Nat) (h : PsW B w p l e a) (hl : l.length ≤ 5000) (hs : ∀ t ∈ l, t.2.text.length ≤ 400) (Wz : World) (hT : Tabs Wz) (hbz : Below Wz.heap.size Wz w) (hzp : Wz.heap.size ≤ p) (hbn : Rw.Bnd e l) :
  Calls Tryz.prog 62 #[.pointer (some ⟨p, 0, none⟩)] w (TblW B w p e (Rw.tableP e l)) := by
 have HP0 := hid h
 have HBN := hid hbn
 clear hbn
 have HTT := hid (show ∀ X, Tch (fun b => b = p) w X → Tabs X from fun X hX => hT.below (hbz.trans (hX.below hbz.size (fun k hk => by omega))))
 have hpz : p < w.heap.size := h.at_.2
 obtain ⟨R, hR⟩ : ∃ R, R = Rw.tableP e l := ⟨_, rfl⟩
 have HR0 := hid hR
 rw [← hR]
 have hmm := @run_makeMap Tryz.prog
 obtain ⟨W3, hW3⟩ : ∃ W3, W3 = ((w.alloc (.cells #[.slice none 0 0, .slice none 0 0, .slice none 0 0, .int .i64 0, .int .i64 0, .int .i64 0] 25)).alloc (.cells #[.slice none 0 0, .slice none 0 0, .slice none 0 0, .int .i64 0, .int .i64 0, .int .i64 0] 25)).alloc (.map #[] 0) := ⟨_, rfl⟩
 have HI3 := hid (show TblI B w p e [] (.slice none 0 0) l a W3 by
  have e1 : (w.alloc (.cells #[.slice none 0 0, .slice none 0 0, .slice none 0 0, .int .i64 0, .int .i64 0, .int .i64 0] 25)).heap.size = w.heap.size + 1 := World.size_alloc _ _
  have e2 : ((w.alloc (.cells #[.slice none 0 0, .slice none 0 0, .slice none 0 0, .int .i64 0, .int .i64 0, .int .i64 0] 25)).alloc (.cells #[.slice none 0 0, .slice none 0 0, .slice none 0 0, .int .i64 0, .int .i64 0, .int .i64 0] 25)).heap.size = w.heap.size + 2 := by rw [World.size_alloc, e1]
  have b1 : Below w.heap.size w (w.alloc (.cells #[.slice none 0 0, .slice none 0 0, .slice none 0 0, .int .i64 0, .int .i64 0, .int .i64 0] 25)) := (Below.refl _ w).alloc (Nat.le_refl _) _
  have b2 := (Below.refl (w.heap.size + 1) (w.alloc (.cells #[.slice none 0 0, .slice none 0 0, .slice none 0 0, .int .i64 0, .int .i64 0, .int .i64 0] 25))).alloc (by omega) (.cells #[.slice none 0 0, .slice none 0 0, .slice none 0 0, .int .i64 0, .int .i64 0, .int .i64 0] 25)
  have b3 := (Below.refl (w.heap.size + 2) ((w.alloc (.cells #[.slice none 0 0, .slice none 0 0, .slice none 0 0, .int .i64 0, .int .i64 0, .int .i64 0] 25)).alloc (.cells #[.slice none 0 0, .slice none 0 0, .slice none 0 0, .int .i64 0, .int .i64 0, .int .i64 0] 25))).alloc (by omega) (.map #[] 0)
  have z1 := alloc_new w (.cells #[.slice none 0 0, .slice none 0 0, .slice none 0 0, .int .i64 0, .int .i64 0, .int .i64 0] 25)
  have z2 := alloc_new (w.alloc (.cells #[.slice none 0 0, .slice none 0 0, .slice none 0 0, .int .i64 0, .int .i64 0, .int .i64 0] 25)) (.cells #[.slice none 0 0, .slice none 0 0, .slice none 0 0, .int .i64 0, .int .i64 0, .int .i64 0] 25)
  rw [e1] at z2
  have hb : Below w.heap.size w W3 := by
   rw [hW3]
   exact ((b1.trans (b2.mono (Nat.le_succ _))).trans (b3.mono (by omega)))
  have hm := MapF.made ((w.alloc (.cells #[.slice none 0 0, .slice none 0 0, .slice none 0 0, .int .i64 0, .int .i64 0, .int .i64 0] 25)).alloc (.cells #[.slice none 0 0, .slice none 0 0, .slice none 0 0, .int .i64 0, .int .i64 0, .int .i64 0] 25)) Tryz.prog 70
  rw [e2] at hm
  refine ⟨?_, ?_, ?_, World.ownsRow_nil _ _ _ _, HP0.out.below hb, Tch.of_below hb _⟩
  ·rw [hW3]
   exact (b3.block _ (by omega)).trans ((b2.block _ (by omega)).trans z1)
  ·rw [hW3]
   exact (b3.block _ (by omega)).trans z2
  ·rw [hW3]
   exact hm.congr (fun x _ _ => by simp [seenF]))
 go_enter Tryz.func62, Tryz.ntmps62
 go_upto_region 3 with (fail)
 rw [← hW3]
 clear hW3 hR h
 have HR1 := hid (show R = match Rw.rulesT [] e l with | .error x => .error x | .ok (rs, r0) => (match Rw.dropsT Rw.tDrop 12 [] e r0 with | .error x => .error x | .ok (ds, r1) => (match Rw.dropsT Rw.tEnd 4 [] e r1 with | .error x => .error x | .ok (es, r2) => (match Rw.lastP e r2 with | .error x => .error x | .ok ((a, b, c), r3) => .ok (⟨rs, ds, es, a, b, c⟩, r3)))) by
  rw [HR0.out]
  unfold Rw.tableP Rw.rulesT Rw.dropsT
  rfl)
 go_loopw [] (fun wr => ∃ (rs : List Rw.Rule) (rv : Value) (ls : List Fa.T) (b : Nat), Hid (Rw.rulesT [] e l = Rw.rulesT rs e ls ∧ Rw.RulesW rs ∧ ls.length ≤ 5000 ∧ ∀ t ∈ ls, t.2.text.length ≤ 400) ∧ Hid (TblI B w p e rs rv ls b wr) ∧ Hid (Rw.Bnd e ls)) (fun wr => tokLeft p wr)
 case atStart => exact ⟨[], _, l, a, ⟨rfl, ⟨by simp, by simp, by simp⟩, hl, hs⟩, HI3, HBN⟩
 case round =>
  clear HI3
  obtain ⟨rs, rv, ls, b, HQ, HI, HBL⟩ := hrel
  have HLF := hid HI.out.ps.left
  obtain ⟨ra, rc, rfl⟩ := ownsRow_slice HI.out.r
  have hr80 : rs.length ≤ 80 := HQ.out.2.1.2.2
  have hti := HI.out.t
  have y0 : wr.cell? ⟨w.heap.size + 1, 0, none⟩ = some (.slice ra rs.length rc) := by simp [World.cell?, hti]
  have yl : w.heap.size + 1 < wr.heap.size := (Array.getElem?_eq_some_iff.1 hti).1
  have HEQ := hid (HQ.out.1.trans (Rw.rulesT_eq rs e ls))
  clear hti
  obtain ⟨fw, hfw⟩ : ∃ fw, fw = (decide (rs = []) || Rw.isW Rw.tRule ls) := ⟨_, rfl⟩
  have HFW := hid hfw
  go_upto_region 3 with (fail)
  go_cut [8, 9, 10, 11, 12, 13, 14, 15] from 16 to 88 (fun v8 v9 v10 v11 v12 v13 v14 v15 wx => v15 = .bool fw ∧ Hid (TblI B w p e rs (.slice ra rs.length rc) ls b wx))
  case first =>
   by_cases h0 : rs = []
   ·have g0 : ((rs.length : Int) == 0) = true := by rw [h0]; rfl
    have HE := hid (show true = fw by rw [HFW.out, decide_eq_true h0]; rfl)
    clear h0 hfw
    go_wp2_with fail
    go_meet
    case rel => exact ⟨congrArg Value.bool HE.out, HI⟩
   ·have g0 : ((rs.length : Int) == 0) = false := by rw [beq_eq_false_iff_ne]; have := List.length_pos_iff.2 h0; omega
    have HIS := hid (is_any10 Rw.tRule wr p ls e b HI.out.ps HQ.out.2.2.1)
    rw [show Rw.isW Rw.tRule ls = fw by rw [HFW.out, decide_eq_false h0, Bool.false_or]] at HIS
    clear h0 hfw
    go_wp2_with fail
    refine (HIS.out).mono ?_
    rintro en w1 ⟨rfl, hb1⟩
    go_wp2_with fail
    go_meet
    case rel => exact ⟨rfl, HI.out.step hb1⟩
  case rest =>
  rename World => w1
  obtain ⟨rfl, HI1⟩ := hcut
  clear hfw y0 yl
  go_step
  cases fw with
  | true =>
    have HE := hid (show Rw.rulesT [] e l = match Rw.ruleP rs e ls with | .error x => .error x | .ok (d, r) => Rw.rulesT (rs ++ [d]) e r by rw [HEQ.out, if_pos (by simpa using HFW.out.symm)]; rfl)
    clear HEQ
    go_upto_region 4 with (fail)
    have C1 := hid (take_tok10 1 1 ⟨#[114, 117, 108, 101]⟩ Rw.tRule rfl rfl w1 p ls e b HI1.out.ps HQ.out.2.2.1)
    cases h1 : Fa.take 1 Rw.tRule e ls with
    | error y =>
     have HX := hid (show R = .error y by rw [HR1.out, HE.out]; unfold Rw.ruleP; rw [h1])
     rw [h1] at C1
     clear h1
     go_wp2_with fail
     refine (C1.out).mono ?_
     rintro en wq ⟨rfl, htq⟩
     unfold thrownP
     go_wp2_with fail
     refine ⟨rfl, ?_⟩
     rw [HX.out]
     exact ⟨rfl, HI1.out.tch.trans htq (fun k hk _ => hk)⟩
    | ok u =>
    obtain ⟨t0, r0⟩ := u
    rw [h1] at C1
    have HL0 := hid (show r0.length < ls.length from Rw.take_less h1)
    have H1 := hid h1
    clear h1
    go_wp2_with fail
    refine (C1.out).mono ?_
    rintro en w2 ⟨rfl, hP2, ht2⟩
    have HI2 := hid (HI1.out.call hpz ht2 hP2)
    clear hP2 ht2 C1
    have hti := HI2.out.t
    have y0 : w2.cell? ⟨w.heap.size + 1, 0, none⟩ = some (.slice ra rs.length rc) := by simp [World.cell?, hti]
    have yl : w.heap.size + 1 < w2.heap.size := (Array.getElem?_eq_some_iff.1 hti).1
    obtain ⟨c2, cl⟩ := HI2.out.ps.at_
    obtain ⟨f80, hf80⟩ : ∃ f, f = decide (rs.length < 80) := ⟨_, rfl⟩
    have g80 : decide ((rs.length : Int) < 80) = f80 := by rw [hf80]; exact decide_eq_decide.2 (by omega)
    have H80 := hid hf80
    clear hti hf80
    go_upto_region 5 with (fail)
    refine wp_heldS (S := StillAt w2) (by kernel_rfl) ?_
    simp only [List.size_toArray, List.length_cons, List.length_nil, Nat.reduceAdd]
    intro hc
    have S0 : StillAt w2 (Array.replicate 9 false) w2.drew := (Below.refl _ _).drew
    refine wpAnyS_take (i := 0) (v := .pointer (some ⟨w.heap.size + 1, 0, none⟩)) rfl (by kernel_rfl) (by kernel_rfl) (by kernel_rfl) (fun _ _ _ h => h) (fun _ _ => Iff.rfl) hc (by first | rfl | simp [Region.wanted]) (fun wx hx => ?_) S0 (fun hc S0 => ?_)
    ·go_simp
    try simp only [tk1, tk3, Act.put, tk4, tk5, tk6]
    refine wpAnyS_take (i := 1) (v := .slice ra rs.length rc) rfl (by kernel_rfl) (by kernel_rfl) (by kernel_rfl) (fun _ _ _ h => h) (fun _ _ => Iff.rfl) hc (by first | rfl | simp [Region.wanted]) (fun wx hx => ?_) S0 (fun hc S0 => ?_)
    ·have q := (hx.still.cell (p := ⟨w.heap.size + 1, 0, none⟩) yl).trans y0
     go_simp
    try simp only [tk1, tk2, tk3, Act.put, tk4, tk5, tk6]
    refine wpAnyS_take (i := 2) (v := .int .i64 rs.length) rfl (by kernel_rfl) (by kernel_rfl) (by kernel_rfl) (fun _ _ _ h => h) (fun _ _ => Iff.rfl) hc (by first | rfl | simp [Region.wanted]) (fun wx hx => ?_) S0 (fun hc S0 => ?_)
    ·go_simp
    try simp only [tk1, tk2, tk3, Act.put, tk4, tk5, tk6]
    refine wpAnyS_take (i := 3) (v := .bool f80) rfl (by kernel_rfl) (by kernel_rfl) (by kernel_rfl) (fun _ _ _ h => h) (fun _ _ => Iff.rfl) hc (by first | rfl | simp [Region.wanted]) (fun wx hx => ?_) S0 (fun hc S0 => ?_)
    ·rw [← g80]
     go_simp
    try simp only [tk1, tk2, tk3, Act.put, tk4, tk5, tk6]
    refine wpAnyS_take (i := 4) (v := .pointer (some ⟨p, 0, none⟩)) rfl (by kernel_rfl) (by kernel_rfl) (by kernel_rfl) (fun _ _ _ h => h) (fun _ _ => Iff.rfl) hc (by first | rfl | simp [Region.wanted]) (fun wx hx => ?_) S0 (fun hc S0 => ?_)
    ·go_simp
    try simp only [tk1, tk2, tk3, Act.put, tk4, tk5, tk6]
    refine wpAnyS_take (i := 5) (v := .pointer (some ⟨p, 0, none⟩)) rfl (by kernel_rfl) (by kernel_rfl) (by kernel_rfl) (fun _ _ _ h => h) (fun _ _ => Iff.rfl) hc (by first | rfl | simp [Region.wanted]) (fun wx hx => ?_) S0 (fun hc S0 => ?_)
    ·go_simp
    try simp only [tk1, tk2, tk3, Act.put, tk4, tk5, tk6]
    refine wpAnyS_take (i := 6) (v := .pointer (some ⟨p, 2, none⟩)) rfl (by kernel_rfl) (by kernel_rfl) (by kernel_rfl) (fun _ _ _ h => h) (fun _ _ => Iff.rfl) hc (by first | rfl | simp [Region.wanted]) (fun wx hx => ?_) S0 (fun hc S0 => ?_)
    ·go_simp
    try simp only [tk1, tk2, tk3, Act.put, tk4, tk5, tk6]
    refine wpAnyS_take (i := 7) (v := .int .i64 t0.1) rfl (by kernel_rfl) (by kernel_rfl) (by kernel_rfl) (fun _ _ _ h => h) (fun _ _ => Iff.rfl) hc (by first | rfl | simp [Region.wanted]) (fun wx hx => ?_) S0 (fun hc S0 => ?_)
    ·have q := (hx.still.cell (p := ⟨p, 2, none⟩) cl).trans c2
     go_simp
    try simp only [tk1, tk2, tk3, Act.put, tk4, tk5, tk6]
    refine wpAnyS_one (i := 8) rfl (by kernel_rfl) (by rfl) hc (fun K' hK => ?_)
    go_simp
    cases f80 with
    | false =>
     have HX := hid (show R = .error (2, t0.1) by rw [HR1.out, HE.out]; unfold Rw.ruleP; rw [H1.out]; simp only; rw [if_pos (by have := of_decide_eq_false H80.out.symm; omega)])
     refine ((need_no 2 t0.1 w2.drew)).mono ?_
     rintro en w3 ⟨rfl, hb⟩
     unfold thrownP
     go_wp2_with fail
     refine ⟨rfl, ?_⟩
     rw [HX.out]
     exact ⟨rfl, HI2.out.tch.step (Below.step (Below.refl _ w2).drew hb)⟩
    | true =>
    refine ((need_yes 2 t0.1 w2.drew)).mono ?_
    rintro en w3 ⟨rfl, hb⟩
    have HBX := hid (Below.step (Below.refl _ w2).drew hb)
    clear hb
    refine hK.out _ _ HBX.out (fun hc => ?_)
    clear hK K'
    have S0 : StillAt w2 #[] w3 := HBX.out
    try simp only [tk1, tk2, tk3, Act.put, tk4, tk5, tk6]
    refine wpAnyS_done (by kernel_rfl) ?_ _
    clear hc S0
    have h80 : rs.length < 80 := of_decide_eq_true H80.out.symm
    have HI3 := hid (HI2.out.step HBX.out)
    clear HBX y0 yl c2 cl g80 H80 HI2
    have C2 := hid (script_any10 w3 p r0 e t0.1 HI3.out.ps (by have := HL0.out; have := HQ.out.2.2.1; omega))
    cases h2 : Rw.scriptP e r0 with
    | error y =>
     have HX := hid (show R = .error y by rw [HR1.out, HE.out]; unfold Rw.ruleP; rw [H1.out]; simp only; rw [if_neg (by omega), h2])
     rw [h2] at C2
     clear h2
     go_wp2_with fail
     refine (C2.out).mono ?_
     rintro en wq ⟨rfl, htq⟩
     unfold thrownP
     go_wp2_with fail
     refine ⟨rfl, ?_⟩
     rw [HX.out]
     exact ⟨rfl, HI3.out.tch.trans htq (fun k hk _ => hk)⟩
    | ok u =>
    obtain ⟨k, r1⟩ := u
    rw [h2] at C2
    have HL1 := hid (show r1.length < ls.length from by have := Rw.scriptP_less h2; have := HL0.out; omega)
    have H2 := hid h2
    clear h2
    go_wp2_with fail
    refine (C2.out).mono ?_
    rintro en w4 ⟨rfl, ⟨b4, hP4⟩, ht4⟩
    have HI4 := hid (HI3.out.call hpz ht4 hP4)
    obtain ⟨W5, hW5⟩ : ∃ W5, W5 = w4.alloc (.cells #[.int .i64 k, .string ⟨#[]⟩, .string ⟨#[]⟩, .int .i64 0] 34) := ⟨_, rfl⟩
    have hb5 : Below w4.heap.size w4 W5 := by rw [hW5]; exact (Below.refl _ w4).alloc (Nat.le_refl _) _
    have HS5 := hid (show W5.heap[w4.heap.size]? = some (.cells #[.int .i64 k, .string ⟨#[]⟩, .string ⟨#[]⟩, .int .i64 0] 34 (0, 0)) by rw [hW5]; exact alloc_new w4 _)
    have HI5 := hid (HI4.out.step hb5)
    have HZ4 := hid (show w.heap.size + 3 ≤ w4.heap.size ∧ (∀ g, (Value.slice ra rs.length rc).ownBlock = some g → g ≠ w4.heap.size) ∧ ¬ w4.heap.size = p from
     ⟨HI4.out.m.lt, fun g hg e => by have := (HI4.out.r.lt g hg).2; omega, by have := HI4.out.ps.at_.2; omega⟩)
    clear hP4 ht4 hb5 C2 HI3 HI4
    go_upto_region 7 with (fail)
    rw [← hW5]
    clear hW5
    have C3 := hid (take_tok10 3 3 ⟨#[]⟩ [] rfl rfl W5 p r1 e b4 HI5.out.ps (by have := HL1.out; have := HQ.out.2.2.1; omega))
    cases h3 : Fa.take 3 [] e r1 with
    | error y =>
     have HX := hid (show R = .error y by rw [HR1.out, HE.out]; unfold Rw.ruleP; rw [H1.out]; simp only; rw [if_neg (by omega), H2.out]; simp only; rw [h3])
     rw [h3] at C3
     clear h3
     go_wp2_with fail
     refine (C3.out).mono ?_
     rintro en wq ⟨rfl, htq⟩
     unfold thrownP
     go_wp2_with fail
     refine ⟨rfl, ?_⟩
     rw [HX.out]
     exact ⟨rfl, HI5.out.tch.trans htq (fun k hk _ => hk)⟩
    | ok u =>
    obtain ⟨s, r2⟩ := u
    rw [h3] at C3
    have HL2 := hid (show r2.length < ls.length from by have := Rw.take_less h3; have := HL1.out; omega)
    have H3 := hid h3
    have hfd : ∀ X : World, (Instr.field 116 (.agg #[.int .i64 s.2.kind, .int .i64 s.1, .int .i64 s.2.n, .string (bs s.2.text)]) 3).run Tryz.prog X = .ok (.string (bs s.2.text)) X := fun _ => by kernel_rfl
    clear h3
    go_wp2_with (fail)
    refine (C3.out).mono ?_
    rintro en w6 ⟨rfl, hP6, ht6⟩
    have hs6 := (ht6.block _ (Array.getElem?_eq_some_iff.1 HS5.out).1 HZ4.out.2.2).trans HS5.out
    have d1 : w6.cell? ⟨w4.heap.size, 1, none⟩ = some (.string ⟨#[]⟩) := by simp [World.cell?, hs6]
    have df : w6.frozen? ⟨w4.heap.size, 1, none⟩ = false := frozen_of_row w6 _ 1 _ _ hs6
    have dl : w4.heap.size < w6.heap.size := (Array.getElem?_eq_some_iff.1 hs6).1
    obtain ⟨W7, hW7⟩ : ∃ W7, W7 = w6.setCell ⟨w4.heap.size, 1, none⟩ (.string (bs s.2.text)) := ⟨_, rfl⟩
    have HS7 := hid (show W7.heap[w4.heap.size]? = some (.cells #[.int .i64 k, .string (bs s.2.text), .string ⟨#[]⟩, .int .i64 0] 34 (0, 0)) by rw [hW7]; exact blk_setP hs6 1 _)
    have hT67 : Tch (fun b => b = w4.heap.size) w6 W7 := by rw [hW7]; exact (Tch.refl (fun b => b = w4.heap.size) w6).setCell (a := ⟨w4.heap.size, 1, none⟩) (.inl rfl) _
    have HI7 := hid ((HI5.out.call hpz ht6 hP6).own hpz HZ4.out.1 HZ4.out.2.1 hT67)
    clear hs6 hP6 ht6 hT67 C3 HI5
    unfold tkvP
    go_upto_region 8 with (fail)
    rw [← hW7]
    clear hW7 d1 df dl hfd
    obtain ⟨c2, cl⟩ := HI7.out.ps.at_
    have x0 : W7.cell? ⟨w4.heap.size, 0, none⟩ = some (.int .i64 k) := by simp [World.cell?, HS7.out]
    have x1 : W7.cell? ⟨w4.heap.size, 1, none⟩ = some (.string (bs s.2.text)) := by simp [World.cell?, HS7.out]
    have xl : w4.heap.size < W7.heap.size := (Array.getElem?_eq_some_iff.1 HS7.out).1
    obtain ⟨fb, hfb⟩ : ∃ fb, fb = Rw.folded k s.2.text 3 := ⟨_, rfl⟩
    have HTK := hid (show s.2.text.length ≤ 1000000 from by have := HQ.out.2.2.2 s (((Rw.scriptP_suf H2.out).trans (Rw.take_suf H1.out)).subset (Rw.take_mem H3.out)); omega)
    have HF := hid (folded_any k (bs s.2.text) 3 W7.drew (by rw [bs_len]; exact HTK.out) (HTT.out _ (HI7.out.tch.step (Below.refl _ _).drew)))
    rw [bs_list, ← hfb] at HF
    have HFB := hid hfb
    clear hfb
    refine wp_heldS (S := StillAt W7) (by kernel_rfl) ?_
    simp only [List.size_toArray, List.length_cons, List.length_nil, Nat.reduceAdd]
    intro hc
    have S0 : StillAt W7 (Array.replicate 10 false) W7.drew := (Below.refl _ _).drew
    refine wpAnyS_take (i := 0) (v := .pointer (some ⟨w4.heap.size, 0, none⟩)) rfl (by kernel_rfl) (by kernel_rfl) (by kernel_rfl) (fun _ _ _ h => h) (fun _ _ => Iff.rfl) hc (by first | rfl | simp [Region.wanted]) (fun wx hx => ?_) S0 (fun hc S0 => ?_)
    ·go_simp
    try simp only [tk1, tk3, Act.put, tk4, tk5, tk6]
    refine wpAnyS_take (i := 1) (v := .int .i64 k) rfl (by kernel_rfl) (by kernel_rfl) (by kernel_rfl) (fun _ _ _ h => h) (fun _ _ => Iff.rfl) hc (by first | rfl | simp [Region.wanted]) (fun wx hx => ?_) S0 (fun hc S0 => ?_)
    ·have q := (hx.still.cell (p := ⟨w4.heap.size, 0, none⟩) xl).trans x0
     go_simp
    try simp only [tk1, tk2, tk3, Act.put, tk4, tk5, tk6]
    refine wpAnyS_take (i := 2) (v := .pointer (some ⟨w4.heap.size, 1, none⟩)) rfl (by kernel_rfl) (by kernel_rfl) (by kernel_rfl) (fun _ _ _ h => h) (fun _ _ => Iff.rfl) hc (by first | rfl | simp [Region.wanted]) (fun wx hx => ?_) S0 (fun hc S0 => ?_)
    ·go_simp
    try simp only [tk1, tk2, tk3, Act.put, tk4, tk5, tk6]
    refine wpAnyS_take (i := 3) (v := .string (bs s.2.text)) rfl (by kernel_rfl) (by kernel_rfl) (by kernel_rfl) (fun _ _ _ h => h) (fun _ _ => Iff.rfl) hc (by first | rfl | simp [Region.wanted]) (fun wx hx => ?_) S0 (fun hc S0 => ?_)
    ·have q := (hx.still.cell (p := ⟨w4.heap.size, 1, none⟩) xl).trans x1
     go_simp
    try simp only [tk1, tk2, tk3, Act.put, tk4, tk5, tk6]
    refine wpAnyS_take (i := 5) (v := .pointer (some ⟨p, 0, none⟩)) rfl (by kernel_rfl) (by kernel_rfl) (by kernel_rfl) (fun _ _ _ h => h) (fun _ _ => Iff.rfl) hc (by first | rfl | simp [Region.wanted]) (fun wx hx => ?_) S0 (fun hc S0 => ?_)
    ·go_simp
    try simp only [tk1, tk2, tk3, Act.put, tk4, tk5, tk6]
    refine wpAnyS_take (i := 6) (v := .pointer (some ⟨p, 0, none⟩)) rfl (by kernel_rfl) (by kernel_rfl) (by kernel_rfl) (fun _ _ _ h => h) (fun _ _ => Iff.rfl) hc (by first | rfl | simp [Region.wanted]) (fun wx hx => ?_) S0 (fun hc S0 => ?_)
    ·go_simp
    try simp only [tk1, tk2, tk3, Act.put, tk4, tk5, tk6]
    refine wpAnyS_take (i := 7) (v := .pointer (some ⟨p, 2, none⟩)) rfl (by kernel_rfl) (by kernel_rfl) (by kernel_rfl) (fun _ _ _ h => h) (fun _ _ => Iff.rfl) hc (by first | rfl | simp [Region.wanted]) (fun wx hx => ?_) S0 (fun hc S0 => ?_)
    ·go_simp
    try simp only [tk1, tk2, tk3, Act.put, tk4, tk5, tk6]
    refine wpAnyS_take (i := 8) (v := .int .i64 s.1) rfl (by kernel_rfl) (by kernel_rfl) (by kernel_rfl) (fun _ _ _ h => h) (fun _ _ => Iff.rfl) hc (by first | rfl | simp [Region.wanted]) (fun wx hx => ?_) S0 (fun hc S0 => ?_)
    ·have q := (hx.still.cell (p := ⟨p, 2, none⟩) cl).trans c2
     go_simp
    try simp only [tk1, tk2, tk3, Act.put, tk4, tk5, tk6]
    refine wpAnyS_one (i := 4) rfl (by kernel_rfl) (by rfl) hc (fun K' hK => ?_)
    go_simp
    refine (HF.out).mono ?_
    rintro en X1 ⟨rfl, hbX⟩
    have HBX := hid (Below.step (Below.refl _ W7).drew hbX)
    clear hbX
    refine hK.out _ _ HBX.out (fun hc => ?_)
    clear hK K'
    have S0 : StillAt W7 #[] X1 := HBX.out
    try simp only [tk1, tk2, tk3, Act.put, tk4, tk5, tk6]
    refine wpAnyS_one (i := 9) rfl (by kernel_rfl) (by rfl) hc (fun K' hK => ?_)
    go_simp
    cases fb with
    | false =>
     have HX := hid (show R = .error (1, s.1) by rw [HR1.out, HE.out]; unfold Rw.ruleP; rw [H1.out]; simp only; rw [if_neg (by omega), H2.out]; simp only; rw [H3.out]; simp only; rw [if_pos HFB.out.symm])
     refine ((need_no 1 s.1 X1)).mono ?_
     rintro en X2 ⟨rfl, hb⟩
     unfold thrownP
     go_wp2_with fail
     refine ⟨rfl, ?_⟩
     rw [HX.out]
     exact ⟨rfl, (HI7.out.tch.step HBX.out).step hb⟩
    | true =>
    refine ((need_yes 1 s.1 X1)).mono ?_
    rintro en X2 ⟨rfl, hb⟩
    have HBY := hid (Below.step HBX.out hb)
    clear hb
    refine hK.out _ _ HBY.out (fun hc => ?_)
    clear hK K'
    have S0 : StillAt W7 #[] X2 := HBY.out
    try simp only [tk1, tk2, tk3, Act.put, tk4, tk5, tk6]
    refine wpAnyS_done (by kernel_rfl) ?_ _
    clear hc S0
    have HI8 := hid (HI7.out.step HBY.out)
    have HS8 := hid ((HBY.out.block _ xl).trans HS7.out)
    clear HF HBX HBY HI7 HS7 x0 x1 xl c2 cl
    have C4 := hid (take_tok10 1 1 ⟨#[116, 111]⟩ Rw.tTo rfl rfl X2 p r2 e s.1 HI8.out.ps (by have := HL2.out; have := HQ.out.2.2.1; omega))
    cases h4 : Fa.take 1 Rw.tTo e r2 with
    | error y =>
     have HX := hid (show R = .error y by rw [HR1.out, HE.out]; unfold Rw.ruleP; rw [H1.out]; simp only; rw [if_neg (by omega), H2.out]; simp only; rw [H3.out]; simp only; rw [← HFB.out, if_neg (by decide), h4])
     rw [h4] at C4
     clear h4
     go_wp2_with fail
     refine (C4.out).mono ?_
     rintro en wq ⟨rfl, htq⟩
     unfold thrownP
     go_wp2_with fail
     refine ⟨rfl, ?_⟩
     rw [HX.out]
     exact ⟨rfl, HI8.out.tch.trans htq (fun k hk _ => hk)⟩
    | ok u =>
    obtain ⟨t4, r3⟩ := u
    rw [h4] at C4
    have HL3 := hid (show r3.length < ls.length from by have := Rw.take_less h4; have := HL2.out; omega)
    have H4 := hid h4
    clear h4
    go_wp2_with fail
    refine (C4.out).mono ?_
    rintro en w8 ⟨rfl, hP8, ht8⟩
    have HI9 := hid (HI8.out.call hpz ht8 hP8)
    have HS9 := hid ((ht8.block _ (Array.getElem?_eq_some_iff.1 HS8.out).1 HZ4.out.2.2).trans HS8.out)
    clear hP8 ht8 C4 HI8 HS8
    have C5 := hid (take_tok10 3 3 ⟨#[]⟩ [] rfl rfl w8 p r3 e t4.1 HI9.out.ps (by have := HL3.out; have := HQ.out.2.2.1; omega))
    cases h5 : Fa.take 3 [] e r3 with
    | error y =>
     have HX := hid (show R = .error y by rw [HR1.out, HE.out]; unfold Rw.ruleP; rw [H1.out]; simp only; rw [if_neg (by omega), H2.out]; simp only; rw [H3.out]; simp only; rw [← HFB.out, if_neg (by decide), H4.out]; simp only; rw [h5])
     rw [h5] at C5
     clear h5
     go_wp2_with fail
     refine (C5.out).mono ?_
     rintro en wq ⟨rfl, htq⟩
     unfold thrownP
     go_wp2_with fail
     refine ⟨rfl, ?_⟩
     rw [HX.out]
     exact ⟨rfl, HI9.out.tch.trans htq (fun k hk _ => hk)⟩
    | ok u =>
    obtain ⟨o, r4⟩ := u
    rw [h5] at C5
    have HL4 := hid (show r4.length < ls.length from by have := Rw.take_less h5; have := HL3.out; omega)
    have H5 := hid h5
    have hfd : ∀ X : World, (Instr.field 116 (.agg #[.int .i64 o.2.kind, .int .i64 o.1, .int .i64 o.2.n, .string (bs o.2.text)]) 3).run Tryz.prog X = .ok (.string (bs o.2.text)) X := fun _ => by kernel_rfl
    clear h5
    go_wp2_with (fail)
    refine (C5.out).mono ?_
    rintro en w10 ⟨rfl, hP10, ht10⟩
    have hs10 := (ht10.block _ (Array.getElem?_eq_some_iff.1 HS9.out).1 HZ4.out.2.2).trans HS9.out
    have d1 : w10.cell? ⟨w4.heap.size, 2, none⟩ = some (.string ⟨#[]⟩) := by simp [World.cell?, hs10]
    have df : w10.frozen? ⟨w4.heap.size, 2, none⟩ = false := frozen_of_row w10 _ 2 _ _ hs10
    have dl : w4.heap.size < w10.heap.size := (Array.getElem?_eq_some_iff.1 hs10).1
    obtain ⟨W11, hW11⟩ : ∃ W11, W11 = w10.setCell ⟨w4.heap.size, 2, none⟩ (.string (bs o.2.text)) := ⟨_, rfl⟩
    have HS11 := hid (show W11.heap[w4.heap.size]? = some (.cells #[.int .i64 k, .string (bs s.2.text), .string (bs o.2.text), .int .i64 0] 34 (0, 0)) by rw [hW11]; exact blk_setP hs10 2 _)
    have hT1 : Tch (fun b => b = w4.heap.size) w10 W11 := by rw [hW11]; exact (Tch.refl (fun b => b = w4.heap.size) w10).setCell (a := ⟨w4.heap.size, 2, none⟩) (.inl rfl) _
    have HI11 := hid ((HI9.out.call hpz ht10 hP10).own hpz HZ4.out.1 HZ4.out.2.1 hT1)
    clear hs10 hP10 ht10 hT1 C5 HI9 HS9
    unfold tkvP
    go_upto_region 11 with (fail)
    rw [← hW11]
    clear hW11 d1 df dl hfd
    obtain ⟨c2, cl⟩ := HI11.out.ps.at_
    have x2 : W11.cell? ⟨w4.heap.size, 2, none⟩ = some (.string (bs o.2.text)) := by simp [World.cell?, HS11.out]
    have xl : w4.heap.size < W11.heap.size := (Array.getElem?_eq_some_iff.1 HS11.out).1
    obtain ⟨ff, hff⟩ : ∃ ff, ff = Rw.isForm o.2.text := ⟨_, rfl⟩
    have HTO := hid (show o.2.text.length ≤ 1000000 from by have := HQ.out.2.2.2 o (((Rw.take_suf H4.out).trans ((Rw.take_suf H3.out).trans ((Rw.scriptP_suf H2.out).trans (Rw.take_suf H1.out)))).subset (Rw.take_mem H5.out)); omega)
    have HF := hid (isForm_any (bs o.2.text) W11.drew (by rw [bs_len]; exact HTO.out))
    rw [bs_list, ← hff] at HF
    have HFF := hid hff
    clear hff
    refine wp_heldS (S := StillAt W11) (by kernel_rfl) ?_
    simp only [List.size_toArray, List.length_cons, List.length_nil, Nat.reduceAdd]
    intro hc
    have S0 : StillAt W11 (Array.replicate 8 false) W11.drew := (Below.refl _ _).drew
    refine wpAnyS_take (i := 0) (v := .pointer (some ⟨w4.heap.size, 2, none⟩)) rfl (by kernel_rfl) (by kernel_rfl) (by kernel_rfl) (fun _ _ _ h => h) (fun _ _ => Iff.rfl) hc (by first | rfl | simp [Region.wanted]) (fun wx hx => ?_) S0 (fun hc S0 => ?_)
    ·go_simp
    try simp only [tk1, tk3, Act.put, tk4, tk5, tk6]
    refine wpAnyS_take (i := 1) (v := .string (bs o.2.text)) rfl (by kernel_rfl) (by kernel_rfl) (by kernel_rfl) (fun _ _ _ h => h) (fun _ _ => Iff.rfl) hc (by first | rfl | simp [Region.wanted]) (fun wx hx => ?_) S0 (fun hc S0 => ?_)
    ·have q := (hx.still.cell (p := ⟨w4.heap.size, 2, none⟩) xl).trans x2
     go_simp
    try simp only [tk1, tk2, tk3, Act.put, tk4, tk5, tk6]
    refine wpAnyS_take (i := 3) (v := .pointer (some ⟨p, 0, none⟩)) rfl (by kernel_rfl) (by kernel_rfl) (by kernel_rfl) (fun _ _ _ h => h) (fun _ _ => Iff.rfl) hc (by first | rfl | simp [Region.wanted]) (fun wx hx => ?_) S0 (fun hc S0 => ?_)
    ·go_simp
    try simp only [tk1, tk2, tk3, Act.put, tk4, tk5, tk6]
    refine wpAnyS_take (i := 4) (v := .pointer (some ⟨p, 0, none⟩)) rfl (by kernel_rfl) (by kernel_rfl) (by kernel_rfl) (fun _ _ _ h => h) (fun _ _ => Iff.rfl) hc (by first | rfl | simp [Region.wanted]) (fun wx hx => ?_) S0 (fun hc S0 => ?_)
    ·go_simp
    try simp only [tk1, tk2, tk3, Act.put, tk4, tk5, tk6]
    refine wpAnyS_take (i := 5) (v := .pointer (some ⟨p, 2, none⟩)) rfl (by kernel_rfl) (by kernel_rfl) (by kernel_rfl) (fun _ _ _ h => h) (fun _ _ => Iff.rfl) hc (by first | rfl | simp [Region.wanted]) (fun wx hx => ?_) S0 (fun hc S0 => ?_)
    ·go_simp
    try simp only [tk1, tk2, tk3, Act.put, tk4, tk5, tk6]
    refine wpAnyS_take (i := 6) (v := .int .i64 o.1) rfl (by kernel_rfl) (by kernel_rfl) (by kernel_rfl) (fun _ _ _ h => h) (fun _ _ => Iff.rfl) hc (by first | rfl | simp [Region.wanted]) (fun wx hx => ?_) S0 (fun hc S0 => ?_)
    ·have q := (hx.still.cell (p := ⟨p, 2, none⟩) cl).trans c2
     go_simp
    try simp only [tk1, tk2, tk3, Act.put, tk4, tk5, tk6]
    refine wpAnyS_one (i := 2) rfl (by kernel_rfl) (by rfl) hc (fun K' hK => ?_)
    go_simp
    refine (HF.out).mono ?_
    rintro en Y1 ⟨rfl, hbX⟩
    have HBX := hid (Below.step (Below.refl _ W11).drew hbX)
    clear hbX
    refine hK.out _ _ HBX.out (fun hc => ?_)
    clear hK K'
    have S0 : StillAt W11 #[] Y1 := HBX.out
    try simp only [tk1, tk2, tk3, Act.put, tk4, tk5, tk6]
    refine wpAnyS_one (i := 7) rfl (by kernel_rfl) (by rfl) hc (fun K' hK => ?_)
    go_simp
    cases ff with
    | false =>
     have HX := hid (show R = .error (1, o.1) by rw [HR1.out, HE.out]; unfold Rw.ruleP; rw [H1.out]; simp only; rw [if_neg (by omega), H2.out]; simp only; rw [H3.out]; simp only; rw [← HFB.out, if_neg (by decide), H4.out]; simp only; rw [H5.out]; simp only; rw [if_pos HFF.out.symm])
     refine ((need_no 1 o.1 Y1)).mono ?_
     rintro en Y2 ⟨rfl, hb⟩
     unfold thrownP
     go_wp2_with fail
     refine ⟨rfl, ?_⟩
     rw [HX.out]
     exact ⟨rfl, (HI11.out.tch.step HBX.out).step hb⟩
    | true =>
    refine ((need_yes 1 o.1 Y1)).mono ?_
    rintro en Y2 ⟨rfl, hb⟩
    have HBY := hid (Below.step HBX.out hb)
    clear hb
    refine hK.out _ _ HBY.out (fun hc => ?_)
    clear hK K'
    have S0 : StillAt W11 #[] Y2 := HBY.out
    try simp only [tk1, tk2, tk3, Act.put, tk4, tk5, tk6]
    refine wpAnyS_done (by kernel_rfl) ?_ _
    clear hc S0
    have HI12 := hid (HI11.out.step HBY.out)
    have HS12 := hid ((HBY.out.block _ xl).trans HS11.out)
    clear HF HBX HBY HI11 HS11 x2 xl c2 cl
    have C6 := hid (take_tok10 1 1 ⟨#[99, 111, 115, 116]⟩ Rw.tCost rfl rfl Y2 p r4 e o.1 HI12.out.ps (by have := HL4.out; have := HQ.out.2.2.1; omega))
    cases h6 : Fa.take 1 Rw.tCost e r4 with
    | error y =>
     have HX := hid (show R = .error y by rw [HR1.out, HE.out]; unfold Rw.ruleP; rw [H1.out]; simp only; rw [if_neg (by omega), H2.out]; simp only; rw [H3.out]; simp only; rw [← HFB.out, if_neg (by decide), H4.out]; simp only; rw [H5.out]; simp only; rw [← HFF.out, if_neg (by decide), h6])
     rw [h6] at C6
     clear h6
     go_wp2_with fail
     refine (C6.out).mono ?_
     rintro en wq ⟨rfl, htq⟩
     unfold thrownP
     go_wp2_with fail
     refine ⟨rfl, ?_⟩
     rw [HX.out]
     exact ⟨rfl, HI12.out.tch.trans htq (fun k hk _ => hk)⟩
    | ok u =>
    obtain ⟨t6, r5⟩ := u
    rw [h6] at C6
    have HL5 := hid (show r5.length < ls.length from by have := Rw.take_less h6; have := HL4.out; omega)
    have H6 := hid h6
    clear h6
    go_wp2_with fail
    refine (C6.out).mono ?_
    rintro en w13 ⟨rfl, hP13, ht13⟩
    have HI13 := hid (HI12.out.call hpz ht13 hP13)
    have HS13 := hid ((ht13.block _ (Array.getElem?_eq_some_iff.1 HS12.out).1 HZ4.out.2.2).trans HS12.out)
    clear hP13 ht13 C6 HI12 HS12
    have C7 := hid (cost_any10 w13 p r5 e t6.1 HI13.out.ps (by have := HL5.out; have := HQ.out.2.2.1; omega))
    cases h7 : Rw.costP e r5 with
    | error y =>
     have HX := hid (show R = .error y by rw [HR1.out, HE.out]; unfold Rw.ruleP; rw [H1.out]; simp only; rw [if_neg (by omega), H2.out]; simp only; rw [H3.out]; simp only; rw [← HFB.out, if_neg (by decide), H4.out]; simp only; rw [H5.out]; simp only; rw [← HFF.out, if_neg (by decide), H6.out]; simp only; rw [h7])
     rw [h7] at C7
     clear h7
     go_wp2_with fail
     refine (C7.out).mono ?_
     rintro en wq ⟨rfl, htq⟩
     unfold thrownP
     go_wp2_with fail
     refine ⟨rfl, ?_⟩
     rw [HX.out]
     exact ⟨rfl, HI13.out.tch.trans htq (fun k hk _ => hk)⟩
    | ok u =>
    obtain ⟨c, r6⟩ := u
    rw [h7] at C7
    have HL6 := hid (show r6.length < ls.length from by have := Rw.costP_less h7; have := HL5.out; omega)
    have H7 := hid h7
    clear h7
    go_wp2_with fail
    refine (C7.out).mono ?_
    rintro en w14 ⟨rfl, ⟨b14, hP14⟩, ht14⟩
    have hs14 := (ht14.block _ (Array.getElem?_eq_some_iff.1 HS13.out).1 HZ4.out.2.2).trans HS13.out
    have d1 : w14.cell? ⟨w4.heap.size, 3, none⟩ = some (.int .i64 0) := by simp [World.cell?, hs14]
    have df : w14.frozen? ⟨w4.heap.size, 3, none⟩ = false := frozen_of_row w14 _ 3 _ _ hs14
    have dl : w4.heap.size < w14.heap.size := (Array.getElem?_eq_some_iff.1 hs14).1
    obtain ⟨W15, hW15⟩ : ∃ W15, W15 = w14.setCell ⟨w4.heap.size, 3, none⟩ (.int .i64 c) := ⟨_, rfl⟩
    have HS15 := hid (show W15.heap[w4.heap.size]? = some (.cells #[.int .i64 k, .string (bs s.2.text), .string (bs o.2.text), .int .i64 c] 34 (0, 0)) by rw [hW15]; exact blk_setP hs14 3 _)
    have hT1 : Tch (fun b => b = w4.heap.size) w14 W15 := by rw [hW15]; exact (Tch.refl (fun b => b = w4.heap.size) w14).setCell (a := ⟨w4.heap.size, 3, none⟩) (.inl rfl) _
    have HI15 := hid ((HI13.out.call hpz ht14 hP14).own hpz HZ4.out.1 HZ4.out.2.1 hT1)
    clear hs14 hP14 ht14 hT1 C7 HI13 HS13
    go_upto_region 14 with (fail)
    rw [← hW15]
    clear hW15 d1 df dl
    have C8 := hid (take_tok10 4 4 ⟨#[59]⟩ [59] rfl rfl W15 p r6 e b14 HI15.out.ps (by have := HL6.out; have := HQ.out.2.2.1; omega))
    cases h8 : Fa.take 4 [59] e r6 with
    | error y =>
     have HX := hid (show R = .error y by rw [HR1.out, HE.out]; unfold Rw.ruleP; rw [H1.out]; simp only; rw [if_neg (by omega), H2.out]; simp only; rw [H3.out]; simp only; rw [← HFB.out, if_neg (by decide), H4.out]; simp only; rw [H5.out]; simp only; rw [← HFF.out, if_neg (by decide), H6.out]; simp only; rw [H7.out]; simp only; rw [h8])
     rw [h8] at C8
     clear h8
     go_wp2_with fail
     refine (C8.out).mono ?_
     rintro en wq ⟨rfl, htq⟩
     unfold thrownP
     go_wp2_with fail
     refine ⟨rfl, ?_⟩
     rw [HX.out]
     exact ⟨rfl, HI15.out.tch.trans htq (fun k hk _ => hk)⟩
    | ok u =>
    obtain ⟨z, r7⟩ := u
    rw [h8] at C8
    have HL7 := hid (show r7.length < ls.length from by have := Rw.take_less h8; have := HL6.out; omega)
    obtain ⟨d, hd⟩ : ∃ d : Rw.Rule, d = ⟨k, s.2.text, o.2.text, c⟩ := ⟨_, rfl⟩
    have HD := hid (show Rw.ruleP rs e ls = if d.key ∈ rs.map Rw.Rule.key then .error (9, z.1) else .ok (d, r7) by
     unfold Rw.ruleP; rw [H1.out]; simp only; rw [if_neg (by omega), H2.out]; simp only; rw [H3.out]; simp only; rw [← HFB.out, if_neg (by decide), H4.out]; simp only; rw [H5.out]; simp only; rw [← HFF.out, if_neg (by decide), H6.out]; simp only; rw [H7.out]; simp only; rw [h8, hd])
    have HSF := hid (show r7 <:+ ls from (Rw.take_suf h8).trans ((Rw.costP_suf H7.out).trans ((Rw.take_suf H6.out).trans ((Rw.take_suf H5.out).trans ((Rw.take_suf H4.out).trans ((Rw.take_suf H3.out).trans ((Rw.scriptP_suf H2.out).trans (Rw.take_suf H1.out))))))))
    have HOK := hid (show Rw.ruleOk d = true by
     unfold Rw.ruleOk
     rw [hd]
     simp only [Bool.and_eq_true]
     refine ⟨⟨HFB.out.symm, HFF.out.symm⟩, ?_⟩
     have h4 := H7.out
     unfold Rw.costP at h4
     cases g : Fa.take 2 [] e r5 with
     | error y => rw [g] at h4; cases h4
     | ok q =>
      obtain ⟨t9, r9⟩ := q
      rw [g] at h4
      simp only at h4
      split at h4
      ·cases h4
      ·cases h4
       unfold Rw.isCost
       simp only [Bool.and_eq_true, decide_eq_true_eq]
       omega)
    have HCE := hid (show ruleCells d = [.int .i64 k, .string (bs s.2.text), .string (bs o.2.text), .int .i64 c] ∧ keyV d.key = .agg #[.int .i64 k, .string (bs s.2.text), .string (bs o.2.text)] by rw [hd]; exact ⟨rfl, rfl⟩)
    clear h8 hd
    go_wp2_with fail
    refine (C8.out).mono ?_
    rintro en w16 ⟨rfl, hP16, ht16⟩
    have hs16 := (ht16.block _ (Array.getElem?_eq_some_iff.1 HS15.out).1 HZ4.out.2.2).trans HS15.out
    have HI16 := hid (HI15.out.call hpz ht16 hP16)
    have HS16 := hid hs16
    have x0 : w16.cell? ⟨w4.heap.size, 0, none⟩ = some (.int .i64 k) := by simp [World.cell?, hs16]
    have x1 : w16.cell? ⟨w4.heap.size, 1, none⟩ = some (.string (bs s.2.text)) := by simp [World.cell?, hs16]
    have x2 : w16.cell? ⟨w4.heap.size, 2, none⟩ = some (.string (bs o.2.text)) := by simp [World.cell?, hs16]
    have xl : w4.heap.size < w16.heap.size := (Array.getElem?_eq_some_iff.1 hs16).1
    obtain ⟨W17, hW17⟩ : ∃ W17, W17 = w16.alloc (.cells #[.int .i64 k, .string (bs s.2.text), .string (bs o.2.text)] 70) := ⟨_, rfl⟩
    have hb17 : Below w16.heap.size w16 W17 := by rw [hW17]; exact (Below.refl _ w16).alloc (Nat.le_refl _) _
    have HK17 := hid (show W17.heap[w16.heap.size]? = some (.cells #[.int .i64 k, .string (bs s.2.text), .string (bs o.2.text)] 70 (0, 0)) by rw [hW17]; exact alloc_new w16 _)
    have HI17 := hid (HI16.out.step hb17)
    have HS17 := hid ((hb17.block _ xl).trans hs16)
    clear hs16 hP16 ht16 hb17 C8 HI15 HS15 HI16 HS16
    go_upto_region 16 with (fail)
    rw [← hW17]
    clear hW17 x0 x1 x2 xl
    obtain ⟨kl, hkl⟩ : ∃ kl, keyOf Tryz.prog 70 (.agg #[.int .i64 k, .string (bs s.2.text), .string (bs o.2.text)]) = some kl := by
     obtain ⟨⟨k1, k4⟩, k24, -⟩ := Rw.folded_text HFB.out.symm
     refine key_some k (bs s.2.text) (bs o.2.text) ?_ (by rw [bs_len]; unfold maxLen; omega) (by rw [bs_len]; have := (Rw.form_text HFF.out.symm).1; unfold maxLen; omega)
     have : k = 1 ∨ k = 2 ∨ k = 3 ∨ k = 4 := by omega
     rcases this with e | e | e | e <;> (rw [e]; rfl)
    obtain ⟨fk, hfk⟩ : ∃ fk, fk = (rs.map Rw.Rule.key).contains d.key := ⟨_, rfl⟩
    have HGET := hid (show ((seenF (rs.map Rw.Rule.key)) (.agg #[.int .i64 k, .string (bs s.2.text), .string (bs o.2.text)])).getD (.bool false) = .bool fk by rw [← HCE.out.2, seenF_get, ← hfk])
    have HFK := hid hfk
    clear hfk
    obtain ⟨c2, cl⟩ := HI17.out.ps.at_
    have k0 : W17.cell? ⟨w16.heap.size, 0, none⟩ = some (.int .i64 k) := by simp [World.cell?, HK17.out]
    have k1 : W17.cell? ⟨w16.heap.size, 1, none⟩ = some (.string (bs s.2.text)) := by simp [World.cell?, HK17.out]
    have k2 : W17.cell? ⟨w16.heap.size, 2, none⟩ = some (.string (bs o.2.text)) := by simp [World.cell?, HK17.out]
    have kz : w16.heap.size < W17.heap.size := (Array.getElem?_eq_some_iff.1 HK17.out).1
    refine wp_heldS (S := StillAt W17) (by kernel_rfl) ?_
    simp only [List.size_toArray, List.length_cons, List.length_nil, Nat.reduceAdd]
    intro hc
    have S0 : StillAt W17 (Array.replicate 9 false) W17.drew := (Below.refl _ _).drew
    refine wpAnyS_take (i := 0) (v := .map (some (w.heap.size + 2))) rfl (by kernel_rfl) (by kernel_rfl) (by kernel_rfl) (fun _ _ _ h => h) (fun _ _ => Iff.rfl) hc (by first | rfl | simp [Region.wanted]) (fun wx hx => ?_) S0 (fun hc S0 => ?_)
    ·go_simp
    try simp only [tk1, tk3, Act.put, tk4, tk5, tk6]
    refine wpAnyS_take (i := 1) (v := .agg #[.int .i64 k, .string (bs s.2.text), .string (bs o.2.text)]) rfl (by kernel_rfl) (by kernel_rfl) (by kernel_rfl) (fun _ _ _ h => h) (fun _ _ => Iff.rfl) hc (by first | rfl | simp [Region.wanted]) (fun wx hx => ?_) S0 (fun hc S0 => ?_)
    ·have q0 := (hx.still.cell (p := ⟨w16.heap.size, 0, none⟩) kz).trans k0; have q1 := (hx.still.cell (p := ⟨w16.heap.size, 1, none⟩) kz).trans k1; have q2 := (hx.still.cell (p := ⟨w16.heap.size, 2, none⟩) kz).trans k2
     go_simp
    try simp only [tk1, tk2, tk3, Act.put, tk4, tk5, tk6]
    refine wpAnyS_take (i := 2) (v := .bool fk) rfl (by kernel_rfl) (by kernel_rfl) (by kernel_rfl) (fun _ _ _ h => h) (fun _ _ => Iff.rfl) hc (by first | rfl | simp [Region.wanted]) (fun wx hx => ?_) S0 (fun hc S0 => ?_)
    ·have q := (HI17.out.m.below hx.still).get key_keyed Tryz.underlying68 (zero_bool _) hkl; rw [HGET.out] at q
     go_simp
    try simp only [tk1, tk2, tk3, Act.put, tk4, tk5, tk6]
    refine wpAnyS_take (i := 3) (v := .bool (!fk)) rfl (by kernel_rfl) (by kernel_rfl) (by kernel_rfl) (fun _ _ _ h => h) (fun _ _ => Iff.rfl) hc (by first | rfl | simp [Region.wanted]) (fun wx hx => ?_) S0 (fun hc S0 => ?_)
    ·go_simp
    try simp only [tk1, tk2, tk3, Act.put, tk4, tk5, tk6]
    refine wpAnyS_take (i := 4) (v := .pointer (some ⟨p, 0, none⟩)) rfl (by kernel_rfl) (by kernel_rfl) (by kernel_rfl) (fun _ _ _ h => h) (fun _ _ => Iff.rfl) hc (by first | rfl | simp [Region.wanted]) (fun wx hx => ?_) S0 (fun hc S0 => ?_)
    ·go_simp
    try simp only [tk1, tk2, tk3, Act.put, tk4, tk5, tk6]
    refine wpAnyS_take (i := 5) (v := .pointer (some ⟨p, 0, none⟩)) rfl (by kernel_rfl) (by kernel_rfl) (by kernel_rfl) (fun _ _ _ h => h) (fun _ _ => Iff.rfl) hc (by first | rfl | simp [Region.wanted]) (fun wx hx => ?_) S0 (fun hc S0 => ?_)
    ·go_simp
    try simp only [tk1, tk2, tk3, Act.put, tk4, tk5, tk6]
    refine wpAnyS_take (i := 6) (v := .pointer (some ⟨p, 2, none⟩)) rfl (by kernel_rfl) (by kernel_rfl) (by kernel_rfl) (fun _ _ _ h => h) (fun _ _ => Iff.rfl) hc (by first | rfl | simp [Region.wanted]) (fun wx hx => ?_) S0 (fun hc S0 => ?_)
    ·go_simp
    try simp only [tk1, tk2, tk3, Act.put, tk4, tk5, tk6]
    refine wpAnyS_take (i := 7) (v := .int .i64 z.1) rfl (by kernel_rfl) (by kernel_rfl) (by kernel_rfl) (fun _ _ _ h => h) (fun _ _ => Iff.rfl) hc (by first | rfl | simp [Region.wanted]) (fun wx hx => ?_) S0 (fun hc S0 => ?_)
    ·have q := (hx.still.cell (p := ⟨p, 2, none⟩) cl).trans c2
     go_simp
    try simp only [tk1, tk2, tk3, Act.put, tk4, tk5, tk6]
    refine wpAnyS_one (i := 8) rfl (by kernel_rfl) (by rfl) hc (fun K' hK => ?_)
    go_simp
    cases fk with
    | true =>
     have HX := hid (show R = .error (9, z.1) by rw [HR1.out, HE.out, HD.out, if_pos (by simpa using HFK.out.symm)])
     refine ((need_no 9 z.1 W17.drew)).mono ?_
     rintro en w18 ⟨rfl, hb⟩
     unfold thrownP
     go_wp2_with fail
     refine ⟨rfl, ?_⟩
     rw [HX.out]
     exact ⟨rfl, HI17.out.tch.step (Below.step (Below.refl _ W17).drew hb)⟩
    | false =>
    refine ((need_yes 9 z.1 W17.drew)).mono ?_
    rintro en w18 ⟨rfl, hb⟩
    have HBX := hid (Below.step (Below.refl _ W17).drew hb)
    clear hb
    refine hK.out _ _ HBX.out (fun hc => ?_)
    clear hK K'
    have S0 : StillAt W17 #[] w18 := HBX.out
    try simp only [tk1, tk2, tk3, Act.put, tk4, tk5, tk6]
    refine wpAnyS_done (by kernel_rfl) ?_ _
    clear hc S0
    have HI18 := hid (HI17.out.step HBX.out)
    have HK18 := hid ((HBX.out.block _ kz).trans HK17.out)
    have HS18 := hid ((HBX.out.block _ (Array.getElem?_eq_some_iff.1 HS17.out).1).trans HS17.out)
    have hkn : d.key ∉ rs.map Rw.Rule.key := by have := HFK.out; simpa using this.symm
    have HKN := hid hkn
    have HSN := hid (show seenF (rs.map Rw.Rule.key ++ [d.key]) (.agg #[.int .i64 k, .string (bs s.2.text), .string (bs o.2.text)]) = some (.bool true) ∧ ∀ y, y ≠ .agg #[.int .i64 k, .string (bs s.2.text), .string (bs o.2.text)] → seenF (rs.map Rw.Rule.key ++ [d.key]) y = seenF (rs.map Rw.Rule.key) y by
     rw [← HCE.out.2]
     exact seenF_snoc _ d.key)
    have HKL := hid hkl
    have k0 : w18.cell? ⟨w16.heap.size, 0, none⟩ = some (.int .i64 k) := by simp [World.cell?, HK18.out]
    have k1 : w18.cell? ⟨w16.heap.size, 1, none⟩ = some (.string (bs s.2.text)) := by simp [World.cell?, HK18.out]
    have k2 : w18.cell? ⟨w16.heap.size, 2, none⟩ = some (.string (bs o.2.text)) := by simp [World.cell?, HK18.out]
    have kz : w16.heap.size < w18.heap.size := (Array.getElem?_eq_some_iff.1 HK18.out).1
    have hM18 := HI18.out.m
    clear hkn hkl HI17 HK17 HS17 HBX c2 cl HGET
    go_upto_region 18 with (at_mapUpdate; refine wpList_put _ rfl _ _ _ 68 4 rfl key_keyed Tryz.underlying68 rfl hM18 (by unfold maxLen; omega) _ _ kl rfl rfl HKL.out (seenF (rs.map Rw.Rule.key ++ [d.key])) HSN.out.1 HSN.out.2 ?_; intro w19 hM19 hg19)
    have hT19 : Tch (fun k => k = w.heap.size + 2) w18 w19 := Tch.of_grown hg19 (fun r e => by cases e; rfl)
    have hs19 := (hT19.block _ (Array.getElem?_eq_some_iff.1 HS18.out).1 (by show ¬ w4.heap.size = w.heap.size + 2; have := HZ4.out.1; omega)).trans HS18.out
    have ht19 := (hT19.block _ (Array.getElem?_eq_some_iff.1 HI18.out.t).1 (by show ¬ w.heap.size + 1 = w.heap.size + 2; omega)).trans HI18.out.t
    have x0 : w19.cell? ⟨w4.heap.size, 0, none⟩ = some (.int .i64 k) := by simp [World.cell?, hs19]
    have x1 : w19.cell? ⟨w4.heap.size, 1, none⟩ = some (.string (bs s.2.text)) := by simp [World.cell?, hs19]
    have x2 : w19.cell? ⟨w4.heap.size, 2, none⟩ = some (.string (bs o.2.text)) := by simp [World.cell?, hs19]
    have x3 : w19.cell? ⟨w4.heap.size, 3, none⟩ = some (.int .i64 c) := by simp [World.cell?, hs19]
    have xl : w4.heap.size < w19.heap.size := (Array.getElem?_eq_some_iff.1 hs19).1
    have y0 : w19.cell? ⟨w.heap.size + 1, 0, none⟩ = some (.slice ra rs.length rc) := by simp [World.cell?, ht19]
    have yf : w19.frozen? ⟨w.heap.size + 1, 0, none⟩ = false := frozen_of_row w19 _ 0 _ _ ht19
    have yl : w.heap.size + 1 < w19.heap.size := (Array.getElem?_eq_some_iff.1 ht19).1
    have hO19 := ownsRow_tch HI18.out.r hT19 (fun g hg e => by have := (HI18.out.r.lt g hg).1; omega)
    have HLO := hid (show ∀ g, (Value.slice ra rs.length rc).ownBlock = some g → w.heap.size + 3 ≤ g from fun g hg => (hO19.lt g hg).1)
    have hown := hO19.alloc (.cells #[.int .i64 k, .string (bs s.2.text), .string (bs o.2.text), .int .i64 c] 34)
    have HTA := hid (Tch.of_below ((Below.refl _ w19).alloc (Nat.le_refl _) (.cells #[.int .i64 k, .string (bs s.2.text), .string (bs o.2.text), .int .i64 c] 34)) (fun k => w.heap.size + 3 ≤ k))
    have hzA : w.heap.size + 3 ≤ w19.heap.size := by have := HZ4.out.1; omega
    have HTB := hid ht19
    have HT19 := hid hT19
    have HM19 := hid hM19
    obtain ⟨i6, hi6, hz6, hs6, hy6⟩ := info_parts Tryz.infoRuleP
    clear hs19 ht19 hT19 hM19 hg19 hO19 hM18 k0 k1 k2 kz HS18 HK18
    go_wp2_with (at_builtin; refine wpList_append_own _ rfl _ _ 22 rfl (w.heap.size + 3) 34 i6 (.agg #[.int .i64 0, .string ⟨#[]⟩, .string ⟨#[]⟩, .int .i64 0]) 4 48 Tryz.underlying22 hi6 hz6 hs6 hy6 rfl (by decide) _ _ _ rfl hown ⟨w19.heap.size, 0, none⟩ 1 1 [.int .i64 k, .string (bs s.2.text), .string (bs o.2.text), .int .i64 c] rfl rfl (cells_new rfl) (by simp [Value.oneCell']) (by unfold maxLen; omega) (by omega) (by simp; omega) ?_; intro v' w20 ho20 hg20 _; obtain ⟨va', vc', rfl⟩ := ownsRow_slice ho20; have HT20 := hid (HTA.out.grown hg20 (fun r e => .inl (HLO.out r e))); have ht20 := (HT20.out.block _ (Array.getElem?_eq_some_iff.1 HTB.out).1 (by show ¬ w.heap.size + 3 ≤ w.heap.size + 1; omega)).trans HTB.out; have g0 : w20.cell? ⟨w.heap.size + 1, 0, none⟩ = some (.slice ra rs.length rc) := (by simp [World.cell?, ht20]); have gf : w20.frozen? ⟨w.heap.size + 1, 0, none⟩ = false := frozen_of_row w20 _ 0 _ _ ht20; have gl : w.heap.size + 1 < w20.heap.size := (Array.getElem?_eq_some_iff.1 ht20).1; have HO20 := hid ho20; clear ho20 hg20 ht20)
    have HN := hid (HI18.out.next hpz HT19.out HM19.out HT20.out (by rw [HCE.out.1]; exact HO20.out))
    have HNQ := hid (show Rw.rulesT [] e l = Rw.rulesT (rs ++ [d]) e r7 ∧ Rw.RulesW (rs ++ [d]) ∧ r7.length ≤ 5000 ∧ ∀ t ∈ r7, t.2.text.length ≤ 400 from
     ⟨by rw [HE.out, HD.out, if_neg HKN.out], HQ.out.2.1.snoc HOK.out HKN.out h80, by have := HL7.out; have := HQ.out.2.2.1; omega, fun t ht => HQ.out.2.2.2 t (HSF.out.subset ht)⟩)
    have HNB := hid (HBL.out.suf HSF.out)
    go_roundw
    case rel => exact ⟨rs ++ [d], _, r7, z.1, HNQ, HN, HNB⟩
    case measure => rw [HN.out.ps.left, HLF.out]; exact HL7.out
  | false =>
    have HE := hid (show Rw.rulesT [] e l = .ok (rs, ls) by
     have hf := HFW.out.symm
     rw [Bool.or_eq_false_iff, decide_eq_false_iff_not] at hf
     rw [HEQ.out, if_neg (by rintro (h | h); (exact hf.1 h); (rw [hf.2] at h; cases h))])
    clear HEQ
    go_upto_region 19 with (fail)
    have HJ1 := hid HI1.out.j
    have HBZ := hid (show ∀ X, Tch (fun b => b = p) w X → Below Wz.heap.size Wz X from fun X hX => hbz.trans (hX.below hbz.size (fun k hk => by omega)))
    have HZ1 := hid HI1.out.m.lt
    have HHT := hid hT
    have HR2 := hid (show R = match Rw.dropsT Rw.tDrop 12 [] e ls with | .error x => .error x | .ok (ds, r1) => (match Rw.dropsT Rw.tEnd 4 [] e r1 with | .error x => .error x | .ok (es, r2) => (match Rw.lastP e r2 with | .error x => .error x | .ok ((a, b, c), r3) => .ok (⟨rs, ds, es, a, b, c⟩, r3))) by rw [HR1.out, HE.out])
    have C1 := hid (drops_any10 Rw.tDrop 12 w1 p ls e b HJ1.out.ps HQ.out.2.2.1 HQ.out.2.2.2 Wz HHT.out (HBZ.out _ HJ1.out.tch) hzp)
    clear hT hbz hmm HI HI1 HR1
    cases h1 : Rw.dropsT Rw.tDrop 12 [] e ls with
    | error y =>
     have HX := hid (show R = .error y by rw [HR2.out, h1])
     rw [h1] at C1
     clear h1
     go_wp2_with fail
     refine (C1.out).mono ?_
     rintro en wq ⟨rfl, htq⟩
     unfold thrownP
     go_wp2_with fail
     refine ⟨rfl, ?_⟩
     rw [HX.out]
     exact ⟨rfl, HJ1.out.tch.trans htq (fun k hk _ => hk)⟩
    | ok u =>
    obtain ⟨ds, s1⟩ := u
    have HO1 := hid (show Rw.DropsW 12 ds ∧ s1 <:+ ls by
     have := Rw.dropsN_out (w := Rw.tDrop) (most := 12) (ls.length + 1) [] e ls HBL.out ⟨by simp, by simp, by simp⟩
     unfold Rw.dropsT at h1
     rw [h1] at this
     exact this)
    have HR3 := hid (show R = match Rw.dropsT Rw.tEnd 4 [] e s1 with | .error x => .error x | .ok (es, r2) => (match Rw.lastP e r2 with | .error x => .error x | .ok ((a, b, c), r3) => .ok (⟨rs, ds, es, a, b, c⟩, r3)) by rw [HR2.out, h1])
    rw [h1] at C1
    clear h1
    go_wp2_with fail
    refine (C1.out).mono ?_
    rintro en w2 ⟨dv, rfl, ho2, ⟨b2, hP2⟩, ht2⟩
    obtain ⟨da, dc, rfl⟩ := ownsRow_slice ho2
    have hJ2 := HJ1.out.call hpz ht2 hP2
    have hd2 : SlIn w2 (.slice da ds.length dc) (fun k => w.heap.size + 2 < k) 3 dropCells ds := (SlIn.own ho2 (fun _ _ => rfl)).mono (fun k hk _ => by have := (ho2.lt k hk).1; have := HZ1.out; show w.heap.size + 2 < k; omega)
    have HZ2 := hid (show w.heap.size + 2 < w2.heap.size from Nat.lt_of_lt_of_le HZ1.out ht2.size)
    obtain ⟨W3, hW3⟩ : ∃ W3, W3 = w2.setCell ⟨w.heap.size + 1, 1, none⟩ (.slice da ds.length dc) := ⟨_, rfl⟩
    have HJ3 := hid (show TblJ B w p e rs ds [] (.slice ra rs.length rc) (.slice da ds.length dc) (.slice none 0 0) 0 0 0 s1 b2 W3 by rw [hW3]; exact hJ2.box hpz 1 _ (blk_setP hJ2.t 1 _) hd2 hJ2.fe)
    have HZ3 := hid (show w.heap.size + 2 < W3.heap.size by rw [hW3, World.size_setCell]; exact HZ2.out)
    obtain ⟨d1, df, dl⟩ := hJ2.cells 1 _ rfl
    clear ho2 hP2 ht2 hJ2 hd2 C1 HR2
    go_upto_region 20 with (fail)
    rw [← hW3]
    clear hW3 d1 df dl
    have hl1 : s1.length ≤ 5000 := Nat.le_trans HO1.out.2.length_le HQ.out.2.2.1
    have HL1 := hid hl1
    have HS1 := hid (show ∀ t ∈ s1, t.2.text.length ≤ 400 from fun t ht => HQ.out.2.2.2 t (HO1.out.2.subset ht))
    have HB1 := hid (HBL.out.suf HO1.out.2)
    have C2 := hid (drops_any10 Rw.tEnd 4 W3 p s1 e b2 HJ3.out.ps HL1.out HS1.out Wz HHT.out (HBZ.out _ HJ3.out.tch) hzp)
    clear hl1
    cases h2 : Rw.dropsT Rw.tEnd 4 [] e s1 with
    | error y =>
     have HX := hid (show R = .error y by rw [HR3.out, h2])
     rw [h2] at C2
     clear h2
     go_wp2_with fail
     refine (C2.out).mono ?_
     rintro en wq ⟨rfl, htq⟩
     unfold thrownP
     go_wp2_with fail
     refine ⟨rfl, ?_⟩
     rw [HX.out]
     exact ⟨rfl, HJ3.out.tch.trans htq (fun k hk _ => hk)⟩
    | ok u =>
    obtain ⟨es, s2⟩ := u
    have HO2 := hid (show Rw.DropsW 4 es ∧ s2 <:+ s1 by
     have := Rw.dropsN_out (w := Rw.tEnd) (most := 4) (s1.length + 1) [] e s1 HB1.out ⟨by simp, by simp, by simp⟩
     unfold Rw.dropsT at h2
     rw [h2] at this
     exact this)
    have HR4 := hid (show R = match Rw.lastP e s2 with | .error x => .error x | .ok ((a, b, c), r3) => .ok (⟨rs, ds, es, a, b, c⟩, r3) by rw [HR3.out, h2])
    rw [h2] at C2
    clear h2
    go_wp2_with fail
    refine (C2.out).mono ?_
    rintro en w4 ⟨ev, rfl, ho4, ⟨b4, hP4⟩, ht4⟩
    obtain ⟨ea, ec, rfl⟩ := ownsRow_slice ho4
    have hJ4 := HJ3.out.call hpz ht4 hP4
    have hd4 : SlIn w4 (.slice ea es.length ec) (fun k => w.heap.size + 2 < k) 3 dropCells es := (SlIn.own ho4 (fun _ _ => rfl)).mono (fun k hk _ => by have := (ho4.lt k hk).1; have := HZ3.out; show w.heap.size + 2 < k; omega)
    obtain ⟨W5, hW5⟩ : ∃ W5, W5 = w4.setCell ⟨w.heap.size + 1, 2, none⟩ (.slice ea es.length ec) := ⟨_, rfl⟩
    have HJ5 := hid (show TblJ B w p e rs ds es (.slice ra rs.length rc) (.slice da ds.length dc) (.slice ea es.length ec) 0 0 0 s2 b4 W5 by rw [hW5]; exact hJ4.box hpz 2 _ (blk_setP hJ4.t 2 _) hJ4.fd hd4)
    obtain ⟨d1, df, dl⟩ := hJ4.cells 2 _ rfl
    clear ho4 hP4 ht4 hJ4 hd4 C2 HR3 HZ1 HZ2 HZ3
    go_upto_region 21 with (fail)
    rw [← hW5]
    clear hW5 d1 df dl
    have HL2 := hid (Nat.le_trans HO2.out.2.length_le HL1.out)
    have C3 := hid (take_tok10 1 1 ⟨#[99, 111, 115, 116, 115]⟩ Rw.tCosts rfl rfl W5 p s2 e b4 HJ5.out.ps HL2.out)
    cases h3 : Fa.take 1 Rw.tCosts e s2 with
    | error y =>
     have HX := hid (show R = .error y by rw [HR4.out]; unfold Rw.lastP; rw [h3])
     rw [h3] at C3
     clear h3
     go_wp2_with fail
     refine (C3.out).mono ?_
     rintro en wq ⟨rfl, htq⟩
     unfold thrownP
     go_wp2_with fail
     refine ⟨rfl, ?_⟩
     rw [HX.out]
     exact ⟨rfl, HJ5.out.tch.trans htq (fun k hk _ => hk)⟩
    | ok u =>
    obtain ⟨t3, s3⟩ := u
    rw [h3] at C3
    have HL3 := hid (show s3.length ≤ 5000 from by have := Rw.take_less h3; have := HL2.out; omega)
    have H3 := hid h3
    clear h3
    go_wp2_with fail
    refine (C3.out).mono ?_
    rintro en w6 ⟨rfl, hP6, ht6⟩
    have HJ6 := hid (HJ5.out.call hpz ht6 hP6)
    clear hP6 ht6 C3 HJ5
    have C4 := hid (cost_any10 w6 p s3 e t3.1 HJ6.out.ps HL3.out)
    cases h4 : Rw.costP e s3 with
    | error y =>
     have HX := hid (show R = .error y by rw [HR4.out]; unfold Rw.lastP; rw [H3.out]; simp only; rw [h4])
     rw [h4] at C4
     clear h4
     go_wp2_with fail
     refine (C4.out).mono ?_
     rintro en wq ⟨rfl, htq⟩
     unfold thrownP
     go_wp2_with fail
     refine ⟨rfl, ?_⟩
     rw [HX.out]
     exact ⟨rfl, HJ6.out.tch.trans htq (fun k hk _ => hk)⟩
    | ok u =>
    obtain ⟨c4, s4⟩ := u
    rw [h4] at C4
    have HL4 := hid (show s4.length ≤ 5000 from by have := Rw.costP_less h4; have := HL3.out; omega)
    have H4 := hid h4
    clear h4
    go_wp2_with fail
    refine (C4.out).mono ?_
    rintro en w7 ⟨rfl, ⟨a4, hP⟩, ht⟩
    have hJ := HJ6.out.call hpz ht hP
    obtain ⟨W8, hW⟩ : ∃ X, X = w7.setCell ⟨w.heap.size + 1, 3, none⟩ (.int .i64 c4) := ⟨_, rfl⟩
    have HJ8 := hid (show TblJ B w p e rs ds es (.slice ra rs.length rc) (.slice da ds.length dc) (.slice ea es.length ec) c4 0 0 s4 a4 W8 by rw [hW]; exact hJ.box hpz 3 _ (blk_setP hJ.t 3 _) hJ.fd hJ.fe)
    obtain ⟨d1, df, dl⟩ := hJ.cells 3 _ rfl
    clear hP ht hJ C4 HJ6
    go_upto_region 23 with (fail)
    rw [← hW]
    clear hW d1 df dl
    have C5 := hid (cost_any10 W8 p s4 e a4 HJ8.out.ps HL4.out)
    cases h5 : Rw.costP e s4 with
    | error y =>
     have HX := hid (show R = .error y by rw [HR4.out]; unfold Rw.lastP; rw [H3.out]; simp only; rw [H4.out]; simp only; rw [h5])
     rw [h5] at C5
     clear h5
     go_wp2_with fail
     refine (C5.out).mono ?_
     rintro en wq ⟨rfl, htq⟩
     unfold thrownP
     go_wp2_with fail
     refine ⟨rfl, ?_⟩
     rw [HX.out]
     exact ⟨rfl, HJ8.out.tch.trans htq (fun k hk _ => hk)⟩
    | ok u =>
    obtain ⟨c5, s5⟩ := u
    rw [h5] at C5
    have HL5 := hid (show s5.length ≤ 5000 from by have := Rw.costP_less h5; have := HL4.out; omega)
    have H5 := hid h5
    clear h5
    go_wp2_with fail
    refine (C5.out).mono ?_
    rintro en w9 ⟨rfl, ⟨a5, hP⟩, ht⟩
    have hJ := HJ8.out.call hpz ht hP
    obtain ⟨W10, hW⟩ : ∃ X, X = w9.setCell ⟨w.heap.size + 1, 4, none⟩ (.int .i64 c5) := ⟨_, rfl⟩
    have HJ10 := hid (show TblJ B w p e rs ds es (.slice ra rs.length rc) (.slice da ds.length dc) (.slice ea es.length ec) c4 c5 0 s5 a5 W10 by rw [hW]; exact hJ.box hpz 4 _ (blk_setP hJ.t 4 _) hJ.fd hJ.fe)
    obtain ⟨d1, df, dl⟩ := hJ.cells 4 _ rfl
    clear hP ht hJ C5 HJ8
    go_upto_region 24 with (fail)
    rw [← hW]
    clear hW d1 df dl
    have C6 := hid (cost_any10 W10 p s5 e a5 HJ10.out.ps HL5.out)
    cases h6 : Rw.costP e s5 with
    | error y =>
     have HX := hid (show R = .error y by rw [HR4.out]; unfold Rw.lastP; rw [H3.out]; simp only; rw [H4.out]; simp only; rw [H5.out]; simp only; rw [h6])
     rw [h6] at C6
     clear h6
     go_wp2_with fail
     refine (C6.out).mono ?_
     rintro en wq ⟨rfl, htq⟩
     unfold thrownP
     go_wp2_with fail
     refine ⟨rfl, ?_⟩
     rw [HX.out]
     exact ⟨rfl, HJ10.out.tch.trans htq (fun k hk _ => hk)⟩
    | ok u =>
    obtain ⟨c6, s6⟩ := u
    rw [h6] at C6
    have HL6 := hid (show s6.length ≤ 5000 from by have := Rw.costP_less h6; have := HL5.out; omega)
    have H6 := hid h6
    clear h6
    go_wp2_with fail
    refine (C6.out).mono ?_
    rintro en w11 ⟨rfl, ⟨a6, hP⟩, ht⟩
    have hJ := HJ10.out.call hpz ht hP
    obtain ⟨W12, hW⟩ : ∃ X, X = w11.setCell ⟨w.heap.size + 1, 5, none⟩ (.int .i64 c6) := ⟨_, rfl⟩
    have HJ12 := hid (show TblJ B w p e rs ds es (.slice ra rs.length rc) (.slice da ds.length dc) (.slice ea es.length ec) c4 c5 c6 s6 a6 W12 by rw [hW]; exact hJ.box hpz 5 _ (blk_setP hJ.t 5 _) hJ.fd hJ.fe)
    obtain ⟨d1, df, dl⟩ := hJ.cells 5 _ rfl
    clear hP ht hJ C6 HJ10
    go_upto_region 25 with (fail)
    rw [← hW]
    clear hW d1 df dl
    have C7 := hid (take_tok10 4 4 ⟨#[59]⟩ [59] rfl rfl W12 p s6 e a6 HJ12.out.ps HL6.out)
    cases h7 : Fa.take 4 [59] e s6 with
    | error y =>
     have HX := hid (show R = .error y by rw [HR4.out]; unfold Rw.lastP; rw [H3.out]; simp only; rw [H4.out]; simp only; rw [H5.out]; simp only; rw [H6.out]; simp only; rw [h7])
     rw [h7] at C7
     clear h7
     go_wp2_with fail
     refine (C7.out).mono ?_
     rintro en wq ⟨rfl, htq⟩
     unfold thrownP
     go_wp2_with fail
     refine ⟨rfl, ?_⟩
     rw [HX.out]
     exact ⟨rfl, HJ12.out.tch.trans htq (fun k hk _ => hk)⟩
    | ok u =>
    obtain ⟨t7, s7⟩ := u
    rw [h7] at C7
    have HX := hid (show R = .ok (⟨rs, ds, es, c4, c5, c6⟩, s7) by rw [HR4.out]; unfold Rw.lastP; rw [H3.out]; simp only; rw [H4.out]; simp only; rw [H5.out]; simp only; rw [H6.out]; simp only; rw [h7])
    have HV := hid (show Rw.valid ⟨rs, ds, es, c4, c5, c6⟩ = true by
     have := Rw.tableP_out HBN.out
     rw [← HR0.out, HX.out] at this
     exact this.1)
    clear h7
    go_wp2_with fail
    refine (C7.out).mono ?_
    rintro en w13 ⟨rfl, hP13, ht13⟩
    have HJ13 := hid (HJ12.out.call hpz ht13 hP13)
    clear hP13 ht13 C7 HJ12
    obtain ⟨c0, -, cl⟩ := HJ13.out.cells 0 _ rfl
    obtain ⟨c1, -, -⟩ := HJ13.out.cells 1 _ rfl
    obtain ⟨c2, -, -⟩ := HJ13.out.cells 2 _ rfl
    obtain ⟨c3, -, -⟩ := HJ13.out.cells 3 _ rfl
    obtain ⟨e4, -, -⟩ := HJ13.out.cells 4 _ rfl
    obtain ⟨e5, -, -⟩ := HJ13.out.cells 5 _ rfl
    have z0 : w13.cell? ⟨w.heap.size, 0, none⟩ = some (.slice none 0 0) := by simp [World.cell?, HJ13.out.z]
    have z1 : w13.cell? ⟨w.heap.size, 1, none⟩ = some (.slice none 0 0) := by simp [World.cell?, HJ13.out.z]
    have z2 : w13.cell? ⟨w.heap.size, 2, none⟩ = some (.slice none 0 0) := by simp [World.cell?, HJ13.out.z]
    have z3 : w13.cell? ⟨w.heap.size, 3, none⟩ = some (.int .i64 0) := by simp [World.cell?, HJ13.out.z]
    have z4 : w13.cell? ⟨w.heap.size, 4, none⟩ = some (.int .i64 0) := by simp [World.cell?, HJ13.out.z]
    have z5 : w13.cell? ⟨w.heap.size, 5, none⟩ = some (.int .i64 0) := by simp [World.cell?, HJ13.out.z]
    have zf : ∀ j, w13.frozen? ⟨w.heap.size, j, none⟩ = false := fun j => frozen_of_row w13 _ j _ _ HJ13.out.z
    have zl : w.heap.size < w13.heap.size := by omega
    have m1 : ¬ w.heap.size + 1 = w.heap.size := by omega
    have m2 : ¬ w.heap.size = w.heap.size + 1 := by omega
    go_wp2_with fail
    obtain ⟨o1, o2, o3, o4⟩ := tableAt_j HJ13.out hpz HV.out rfl
    refine bodyPost_ret (v := .agg #[.slice ra rs.length rc, .slice da ds.length dc, .slice ea es.length ec, .int .i64 c4, .int .i64 c5, .int .i64 c6]) (results_cell_row rfl _ _ w.heap.size 25 #[.slice ra rs.length rc, .slice da ds.length dc, .slice ea es.length ec, .int .i64 c4, .int .i64 c5, .int .i64 c6] (0, 0) _ rfl o1 Tryz.underlying25 rfl (by kernel_rfl)) rfl ?_
    rw [HX.out]
    exact ⟨_, rfl, o2, ⟨_, o3⟩, o4⟩

end Go.Proofs.YtdchjacccmajcaaGreatDoor
