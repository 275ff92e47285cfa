/-
 Several texts in one: ZMt1, ZMt2, ZMt3. Conditions: as each law says.
-/
import Derived.Test.YtdghfenbfbdijaaGreatDoorZMIxp
import Derived.Test.YtdghfenbfbdijaaGreatDoorZMRn
import Derived.Test.YtdghfenbfbdijaaGreatDoorZMBaseB
import Derived.Test.YtdghfenbfbdijaaGreatDoorZMAlA
namespace Go.Proofs.YtdghfenbfbdijaaGreatDoor
open Go.RowKit Go.Lib Go.Maps
def WordAt (w : World) (u : Mt.W) (v : Value) : Prop := ∃ va vl,v = .agg #[.int .i64 u.script,va,vl] ∧ SlOf w va 3 vrC u.vars ∧ SlOf w vl 1 strC u.letters
theorem WordAt.below {w w' : World} {u : Mt.W} {v : Value} (h : WordAt w u v) (hb : Below w.heap.size w w') : WordAt w' u v := by
 obtain ⟨va,vl,e,h1,h2⟩ := h
 exact ⟨va,vl,e,h1.below hb,h2.below hb⟩
def WordP (t : Rw.Table) (k : Int) (s : List UInt8) (W : World) (e : Ending) (W' : World) : Prop :=
 Below W.heap.size W W' ∧ ((Mt.wordOf t k s = none ∧ e = .returned (.tuple #[.agg #[.int .i64 0,.slice none 0 0,.slice none 0 0],.bool false])) ∨
  ∃ u v,Mt.wordOf t k s = some u ∧ e = .returned (.tuple #[v,.bool true]) ∧ WordAt W' u v)
theorem wordOf_some {t : Rw.Table} {k : Int} {s : List UInt8} (h : (Rw.variants t k s).2 = 0) : ∃ l,Sc.lets k s = some l ∧ Sc.lets k (Sc.fold s) = some (Fo.letters k s) := by
 have hl : Fo.letters k s ≠ [] := by
  intro e
  unfold Rw.variants at h
  rw [if_pos (.inl e)] at h
  cases h
 cases h1 : Sc.lets k s with
 | none => exact absurd (by unfold Fo.letters; rw [h1]) hl
 | some l =>
  refine ⟨l,rfl,?_⟩
  have hf := Sc.lets_fold h1
  unfold Fo.letters
  rw [h1,hf]
  rfl
theorem variants_err (t : Rw.Table) (k : Int) (s : List UInt8) : (Rw.variants t k s).2 = 0 ∨ (Rw.variants t k s).2 = 1 := by
 unfold Rw.variants
 split
 ·exact .inr rfl
 ·exact .inl rfl
theorem SlIn.base {α : Type} {w : World} {B : Nat} {e : TypeId} {v : Value} {sz : Nat} {cells : α → List Value} {l : List α} (h : w.ownsRow B e sz v l.length (l.flatMap cells)) (hc : ∀ x ∈ l,(cells x).length = sz) : SlIn w v (fun k => B ≤ k) sz cells l :=
 (SlIn.own h hc).mono fun _ hk _ => (row_blk h hk).1
theorem set_three {W : World} {b : Nat} {t : TypeId} {x y z u v w : Value} (h : Blk W b t [x,y,z]) : Blk (((W.setCell ⟨b,0,none⟩ u).setCell ⟨b,1,none⟩ v).setCell ⟨b,2,none⟩ w) b t [u,v,w] := ((h.set 0 u).set 1 v).set 2 w
set_option maxRecDepth 100000 in
set_option maxHeartbeats 4000000 in
theorem wordOf_any (t : Rw.Table) (tv : Value) (k : Int) (s : List UInt8) (W : World) (ht : TableAt W t tv) (hT : Tabs W) (hs : s.length ≤ 1000000) : Calls Tryz.prog 72 #[tv,.int .i64 k,.string (bs s)] W (WordP t k s W) := by
 have HTT := hid hT
 have HTA := hid ht
 have HLE := hid hs
 obtain ⟨⟨vr,vd,ve,rfl,⟨ar,cr,rfl,-⟩,⟨ad,cd,rfl,-⟩,⟨ae,ce,rfl,-⟩⟩,-⟩ := ht
 obtain ⟨W0,hW0⟩ := exq ((W.alloc (.cells #[.slice ar t.rules.length cr,.slice ad t.drops.length cd,.slice ae t.ends.length ce,.int .i64 t.drop,.int .i64 t.order,.int .i64 t.initial] 25)).alloc (.cells #[.int .i64 0,.slice none 0 0,.slice none 0 0] 99))
 have hb0 : Below W.heap.size W W0 := by rw [hW0]; exact ((Below.refl _ W).alloc (Nat.le_refl _) _).alloc (by simp) _
 have HB0 := hid hb0
 have HZ0 := hid (show W0.heap.size = W.heap.size + 2 by rw [hW0]; simp)
 have hk0 : Blk W0 (W.heap.size + 1) 99 [.int .i64 0,.slice none 0 0,.slice none 0 0] := by
  rw [hW0]
  have := Blk.new (W.alloc (.cells #[.slice ar t.rules.length cr,.slice ad t.drops.length cd,.slice ae t.ends.length ce,.int .i64 t.drop,.int .i64 t.order,.int .i64 t.initial] 25)) 99 [.int .i64 0,.slice none 0 0,.slice none 0 0]
  rwa [World.size_alloc] at this
 have hk1 : Blk W0 W.heap.size 25 [.slice ar t.rules.length cr,.slice ad t.drops.length cd,.slice ae t.ends.length ce,.int .i64 t.drop,.int .i64 t.order,.int .i64 t.initial] := by
  rw [hW0]
  exact (Blk.new W _ _).below ((Below.refl _ _).alloc (Nat.le_refl _) _)
 have HV := hid (variants_any t _ k s W0 (HTA.out.below hb0) (HTT.out.below hb0) hs)
 have HK0 := hid hk0
 obtain ⟨y0,y1,y2,y3,y4,y5,yz⟩ := hk1.cl6
 clear hT hs hb0 hk0 hk1
 rcases variants_err t k s with h0 | h1
 ·have HW := hid (show Mt.wordOf t k s = some ⟨k,(Rw.variants t k s).1,Fo.letters k s⟩ by unfold Mt.wordOf; rw [if_pos h0])
  obtain ⟨l,hl1,hl2⟩ := wordOf_some h0
  have HL := hid (And.intro hl1 hl2)
  have HE := hid h0
  clear h0 hl1 hl2
  go_enter Tryz.func72,Tryz.ntmps72
  go_upto_region 1 with (fail)
  rw [← hW0]
  clear hW0
  go_wp2_with fail
  refine (HV.out).mono ?_
  rintro e W1 ⟨v1,rfl,ho1,hb1⟩
  have HS1 := hid (SlIn.base ho1 (fun x _ => rfl))
  have HZ1 := hid hb1.size
  have HK1 := hid (HK0.out.below hb1)
  have HB1 := hid (Below.step HB0.out hb1)
  have HF := hid (fold_any k (bs s) W1 (by rw [bs_len]; exact HLE.out) (HTT.out.below HB1.out))
  rw [bs_list] at HF
  rw [HE.out]
  obtain ⟨ax,cx,rfl,-⟩ := HS1.out
  clear ho1 hb1 y0 y1 y2 y3 y4 y5 yz
  go_wp2_with fail
  refine (HF.out).mono ?_
  rintro e W2 ⟨he,hb2⟩
  rw [HL.out.1] at he
  subst he
  have HB2 := hid (Below.step HB1.out hb2)
  have HZ2 := hid (Nat.le_trans HZ1.out hb2.size)
  have HK2 := hid (HK1.out.below hb2)
  have HLT := hid (letters_any k (bs (Sc.fold s)) W2 (by rw [bs_len,Sc.fold_length]; exact HLE.out) (HTT.out.below HB2.out))
  rw [bs_list] at HLT
  have HS2 := hid (HS1.out.below hb2)
  clear hb2
  go_wp2_with fail
  refine (HLT.out).mono ?_
  intro e W3 h3
  unfold LettersPost at h3
  rw [HL.out.2] at h3
  obtain ⟨v3,rfl,ho3,hb3⟩ := h3
  have HB3 := hid (Below.step HB2.out hb3)
  have HS3 := hid (HS2.out.below hb3)
  have HK3 := hid (HK2.out.below hb3)
  rw [← flat_str] at ho3
  have HL3 := hid ((SlIn.base ho3 (fun x _ => rfl)).mono (Q' := fun k => W0.heap.size ≤ k) (fun k h _ => Nat.le_trans HZ2.out h))
  obtain ⟨ay,cy,rfl,-⟩ := HL3.out
  obtain ⟨z0,z1,z2,f0,f1,f2,zz⟩ := HK3.out.cf3
  clear ho3 hb3
  go_wp2_with fail
  obtain ⟨W9,hW9⟩ := exq (((W3.setCell ⟨W.heap.size + 1,0,none⟩ (.int .i64 k)).setCell ⟨W.heap.size + 1,1,none⟩ (.slice ax (Rw.variants t k s).1.length cx)).setCell ⟨W.heap.size + 1,2,none⟩ (.slice ay (Fo.letters k s).length cy))
  rw [← hW9]
  have h9 : Blk W9 (W.heap.size + 1) 99 [.int .i64 k,.slice ax (Rw.variants t k s).1.length cx,.slice ay (Fo.letters k s).length cy] := by rw [hW9]; exact set_three HK3.out
  have ht9 : Tch (fun q => q = W.heap.size + 1) W3 W9 := by
   rw [hW9]
   exact (((Tch.refl (fun q => q = W.heap.size + 1) W3).setCell (a := ⟨W.heap.size + 1,0,none⟩) (.inl rfl) _).setCell (a := ⟨W.heap.size + 1,1,none⟩) (.inl rfl) _).setCell (a := ⟨W.heap.size + 1,2,none⟩) (.inl rfl) _
  have hb9 : Below W.heap.size W W9 := by
   rw [hW9]
   exact ((HB3.out.setCell (p := ⟨W.heap.size + 1,0,none⟩) (by simp) _).setCell (p := ⟨W.heap.size + 1,1,none⟩) (by simp) _).setCell (p := ⟨W.heap.size + 1,2,none⟩) (by simp) _
  have hne : ∀ q,W0.heap.size ≤ q → ¬ q = W.heap.size + 1 := fun q h1 h2 => by have := HZ0.out; omega
  refine post_cell_tmp rfl rfl (run_loadVar_row W9 (W.heap.size + 1) _ 99 _ _ _ h9 Tryz.underlying99 rfl (by kernel_rfl)) rfl rfl ?_
  exact ⟨hb9,.inr ⟨_,_,HW.out,rfl,_,_,rfl,(HS3.out.tch ht9 hne).slOf,(HL3.out.tch ht9 hne).slOf⟩⟩
 ·have HW := hid (show Mt.wordOf t k s = none by unfold Mt.wordOf; rw [if_neg (by rw [h1]; decide)])
  have HE := hid h1
  clear h1
  go_enter Tryz.func72,Tryz.ntmps72
  go_upto_region 1 with (fail)
  rw [← hW0]
  clear hW0
  go_wp2_with fail
  refine (HV.out).mono ?_
  rintro e W1 ⟨v1,rfl,ho1,hb1⟩
  have HS1 := hid (SlOf.own ho1 (fun x _ => rfl))
  have HB1 := hid (Below.step HB0.out hb1)
  have HK3 := hid (HK0.out.below hb1)
  obtain ⟨z0,z1,z2,f0,f1,f2,zz⟩ := HK3.out.cf3
  rw [HE.out]
  obtain ⟨ax,cx,rfl,-⟩ := HS1.out
  clear ho1 hb1 y0 y1 y2 y3 y4 y5 yz
  go_wp2_with fail
  obtain ⟨W9,hW9⟩ := exq (((W1.setCell ⟨W.heap.size + 1,0,none⟩ (.int .i64 0)).setCell ⟨W.heap.size + 1,1,none⟩ (.slice none 0 0)).setCell ⟨W.heap.size + 1,2,none⟩ (.slice none 0 0))
  rw [← hW9]
  have h9 : Blk W9 (W.heap.size + 1) 99 [.int .i64 0,.slice none 0 0,.slice none 0 0] := by rw [hW9]; exact set_three HK3.out
  have hb9 : Below W.heap.size W W9 := by
   rw [hW9]
   exact ((HB1.out.setCell (p := ⟨W.heap.size + 1,0,none⟩) (by simp) _).setCell (p := ⟨W.heap.size + 1,1,none⟩) (by simp) _).setCell (p := ⟨W.heap.size + 1,2,none⟩) (by simp) _
  refine post_cell_tmp rfl rfl (run_loadVar_row W9 (W.heap.size + 1) _ 99 _ _ _ h9 Tryz.underlying99 rfl (by kernel_rfl)) rfl rfl ?_
  exact ⟨hb9,.inl ⟨HW.out,rfl⟩⟩
attribute [local go_sem] Oper.semAt_some
def wayV (w : Mt.Way) : Value := .agg #[.int .i64 0,.int .i64 0,.int .i64 w.kind,.int .i64 w.left,.int .i64 w.right,.int .i64 w.cost,.int .i64 0,.slice none 0 0,.slice none 0 0,.string ⟨#[]⟩,.string (bs w.x),.string (bs w.y)]
def tabCells (t : Rw.Table) (vr vd ve : Value) : List Value := [vr,vd,ve,.int .i64 t.drop,.int .i64 t.order,.int .i64 t.initial]
structure WaysM (lo B : Nat) (t : Rw.Table) (vr vd ve : Value) (x y : Mt.W) (xa xl ya yl : Value) (W : World) : Prop where
 tb : Blk W B 25 (tabCells t vr vd ve)
 xb : Blk W (B + 1) 99 [.int .i64 x.script,xa,xl]
 yb : Blk W (B + 2) 99 [.int .i64 y.script,ya,yl]
 xv : SlIn W xa (fun k => k < lo) 3 vrC x.vars
 xs : SlIn W xl (fun k => k < lo) 1 strC x.letters
 yv : SlIn W ya (fun k => k < lo) 3 vrC y.vars
 ys : SlIn W yl (fun k => k < lo) 1 strC y.letters
section
variable {lo B : Nat} {t : Rw.Table} {vr vd ve : Value} {x y : Mt.W} {xa xl ya yl : Value} {W W' : World}
theorem WaysM.below (h : WaysM lo B t vr vd ve x y xa xl ya yl W) (hb : Below W.heap.size W W') : WaysM lo B t vr vd ve x y xa xl ya yl W' :=
 ⟨h.tb.below hb,h.xb.below hb,h.yb.below hb,h.xv.below hb,h.xs.below hb,h.yv.below hb,h.ys.below hb⟩
theorem WaysM.ck {M : World → Prop} (h : WaysM lo B t vr vd ve x y xa xl ya yl W) (hk : CK lo B (fun e => e = 153) M W W') : WaysM lo B t vr vd ve x y xa xl ya yl W' :=
 ⟨hk.blk h.tb (.inr ⟨Nat.le_refl _,by decide⟩),hk.blk h.xb (.inr ⟨by omega,by decide⟩),hk.blk h.yb (.inr ⟨by omega,by decide⟩),h.xv.ck hk (fun _ h => .inl h),h.xs.ck hk (fun _ h => .inl h),h.yv.ck hk (fun _ h => .inl h),h.ys.ck hk (fun _ h => .inl h)⟩
end
set_option maxRecDepth 100000 in
set_option maxHeartbeats 2000000 in
theorem initial_any (kind : Int) (lo B : Nat) (t : Rw.Table) (vr vd ve : Value) (x y : Mt.W) (xa xl ya yl : Value) (W : World) (h : WaysM lo B t vr vd ve x y xa xl ya yl W) (hx : 0 < x.letters.length) (hy : 0 < y.letters.length) :
  Calls Tryz.prog 108 #[.int .i64 kind,.pointer (some ⟨B,0,none⟩),.pointer (some ⟨B + 1,0,none⟩),.pointer (some ⟨B + 2,0,none⟩)] W (Gives (wayV (Mt.initialW t kind x y)) W) := by
 have c5 := h.tb.cell (j := 5) rfl
 have xc := h.xb.cell (j := 2) rfl
 have yc := h.yb.cell (j := 2) rfl
 have z0 := h.tb.lt
 have z1 := h.xb.lt
 have z2 := h.yb.lt
 obtain ⟨ax,cx,rfl,-,-,h3⟩ := h.xs
 obtain ⟨ay,cy,rfl,-,-,h4⟩ := h.ys
 obtain ⟨g,o,rfl,-,hr⟩ := h3 hx
 obtain ⟨g',o',rfl,-,hr'⟩ := h4 hy
 obtain ⟨p,hp⟩ : ∃ p,x.letters[0]? = some p := ⟨_,List.getElem?_eq_getElem hx⟩
 obtain ⟨q,hq⟩ : ∃ q,y.letters[0]? = some q := ⟨_,List.getElem?_eq_getElem hy⟩
 have e0 := hr.2 0 p hp 0 _ rfl
 have e1 := hr'.2 0 q hq 0 _ rfl
 rw [Nat.zero_mul,Nat.add_zero] at e0 e1
 have hg := hr.1
 have hg' := hr'.1
 have hx1 : (0 : Int) < (x.letters.length : Int) := by omega
 have hy1 : (0 : Int) < (y.letters.length : Int) := by omega
 have hw : wayV (Mt.initialW t kind x y) = .agg #[.int .i64 0,.int .i64 0,.int .i64 kind,.int .i64 (-1),.int .i64 (-1),.int .i64 t.initial,.int .i64 0,.slice none 0 0,.slice none 0 0,.string ⟨#[]⟩,.string (bs p),.string (bs q)] := by
  unfold wayV Mt.initialW
  rw [List.headD_eq_head?_getD,List.headD_eq_head?_getD,List.head?_eq_getElem?,List.head?_eq_getElem?,hp,hq]
  rfl
 have HW := hid hw
 clear hw h hr hr' h3 h4 hp hq
 go_enter Tryz.func108,Tryz.ntmps108
 go_upto_region 1 with (fail)
 go_region
 go_wp2_with fail
 refine bodyPost_ret (results_cell_row rfl _ _ W.heap.size 153 _ (0,0) _ rfl (alloc_new W _) Tryz.underlying153 rfl (by kernel_rfl)) rfl ?_
 exact ⟨congrArg Ending.returned HW.out.symm,((Below.refl _ W).alloc (Nat.le_refl _) _).drew⟩
theorem ways_mk (t : Rw.Table) (vr vd ve : Value) (x y : Mt.W) (xa xl ya yl : Value) (W : World) (hr : ∃ a n c,vr = .slice a n c) (hd : ∃ a n c,vd = .slice a n c) (he : ∃ a n c,ve = .slice a n c)
  (h1 : ∃ a n c,xa = .slice a n c) (h2 : ∃ a n c,xl = .slice a n c) (h3 : ∃ a n c,ya = .slice a n c) (h4 : ∃ a n c,yl = .slice a n c) :
  Calls Tryz.prog 74 #[.agg (tabCells t vr vd ve).toArray,.agg #[.int .i64 x.script,xa,xl],.agg #[.int .i64 y.script,ya,yl]] W
   (fun e W' => e = .returned (.func (.func 107) #[] #[.pointer (some ⟨W.heap.size + 1,0,none⟩),.pointer (some ⟨W.heap.size + 2,0,none⟩),.pointer (some ⟨W.heap.size,0,none⟩)]) ∧
    W' = ((W.alloc (.cells (tabCells t vr vd ve).toArray 25)).alloc (.cells #[.int .i64 x.script,xa,xl] 99)).alloc (.cells #[.int .i64 y.script,ya,yl] 99)) := by
 obtain ⟨_,_,_,rfl⟩ := hr
 obtain ⟨_,_,_,rfl⟩ := hd
 obtain ⟨_,_,_,rfl⟩ := he
 obtain ⟨_,_,_,rfl⟩ := h1
 obtain ⟨_,_,_,rfl⟩ := h2
 obtain ⟨_,_,_,rfl⟩ := h3
 obtain ⟨_,_,_,rfl⟩ := h4
 unfold tabCells
 go_enter Tryz.func74,Tryz.ntmps74
 go_wp2_with fail
 go_ret
 exact ⟨rfl,rfl⟩
end Go.Proofs.YtdghfenbfbdijaaGreatDoor
namespace Mt
def waysAt (x y : W) (i j : Nat) : List Way :=
 match x.vars[i]? with
 | none => []
 | some u => ((y.vars.drop j).map fun v => ⟨1,u.end_,v.end_,u.cost + v.cost,u.word,v.word⟩) ++ (x.vars.drop (i + 1)).flatMap fun u => y.vars.map fun v => ⟨1,u.end_,v.end_,u.cost + v.cost,u.word,v.word⟩
theorem waysAt_zero {x y : W} {i : Nat} : waysAt x y i 0 = (x.vars.drop i).flatMap fun u => y.vars.map fun v => ⟨1,u.end_,v.end_,u.cost + v.cost,u.word,v.word⟩ := by
 unfold waysAt
 cases h : x.vars[i]? with
 | none =>
  rw [List.drop_eq_nil_of_le (List.getElem?_eq_none_iff.1 h)]
  rfl
 | some u =>
  obtain ⟨hi,he⟩ := List.getElem?_eq_some_iff.1 h
  rw [List.drop_eq_getElem_cons hi,he,List.flatMap_cons]
  rfl
theorem waysAt_next {x y : W} {i j : Nat} {u v : Rw.Vr} (hu : x.vars[i]? = some u) (hv : y.vars[j]? = some v) : waysAt x y i j = ⟨1,u.end_,v.end_,u.cost + v.cost,u.word,v.word⟩ :: waysAt x y i (j + 1) := by
 unfold waysAt
 rw [hu]
 obtain ⟨hj,he⟩ := List.getElem?_eq_some_iff.1 hv
 simp only
 rw [List.drop_eq_getElem_cons hj,he]
 rfl
theorem waysAt_row {x y : W} {i : Nat} (hi : i < x.vars.length) : waysAt x y i y.vars.length = waysAt x y (i + 1) 0 := by
 rw [waysAt_zero]
 unfold waysAt
 rw [List.getElem?_eq_getElem hi,List.drop_length]
 rfl
theorem waysAt_all {x y : W} : waysAt x y 0 0 = waysV x y := by rw [waysAt_zero]; rfl
theorem waysAt_end {x y : W} : waysAt x y x.vars.length 0 = [] := by
 rw [waysAt_zero,List.drop_length]
 rfl
end Mt
namespace Go.Proofs.YtdghfenbfbdijaaGreatDoor
open Go.RowKit Go.Lib Go.Maps
attribute [local go_sem] Oper.semAt_some
def nxW : List Mt.Way → Option (Array Value × List Mt.Way)
 | [] => none
 | w :: l => some (#[wayV w],l)
def wayA (l : List Mt.Way) : List Mt.Way := l
structure WordFew (u : Mt.W) : Prop where
 vars : u.vars.length ≤ 2000000
 lets : 0 < u.letters.length ∧ u.letters.length ≤ 1000
 cost : ∀ v ∈ u.vars,0 ≤ v.cost ∧ v.cost ≤ 1000
set_option maxRecDepth 100000 in
set_option maxHeartbeats 8000000 in
theorem ways_iter (lo B : Nat) (t : Rw.Table) (vr vd ve : Value) (x y : Mt.W) (xa xl ya yl : Value) (hx : WordFew x) (hy : WordFew y) (n : Nat) (hn : 1 ≤ n) :
  IterX Fence.wide n Tryz.prog 107 #[.pointer (some ⟨B + 1,0,none⟩),.pointer (some ⟨B + 2,0,none⟩),.pointer (some ⟨B,0,none⟩)] none (CK lo B (fun e => e = 153) (fun _ => True)) nxW
   (fun b W => b = wayA (Mt.ways t x y) ∧ WaysM lo B t vr vd ve x y xa xl ya yl W) := by
 intro l J Jx b0 W hJ hJx hY hS h0
 obtain ⟨rfl,hm⟩ := hS
 refine callsIn_of_wp Tryz.func107 rfl trivial ?_ rfl
 simp only [Tryz.ntmps107,List.size_toArray,List.length_cons,List.length_nil,Nat.reduceAdd,Nat.reduceSub,Array.replicate_succ,Array.replicate_zero,List.push_toArray,List.append_toArray,List.nil_append,List.cons_append]
 obtain ⟨R1,hR1⟩ := exq (if x.letters.length = 1 then [Mt.initialW t 2 x y] else [])
 obtain ⟨R2,hR2⟩ := exq (if y.letters.length = 1 then [Mt.initialW t 3 x y] else [])
 have HRR := hid (And.intro hR1 hR2)
 have HJ0 := hid (show J (wayA (Mt.waysAt x y 0 0 ++ (R1 ++ R2))) W by
  rw [Mt.waysAt_all,hR1,hR2,← List.append_assoc]
  exact h0)
 have HM := hid hm
 have HXF := hid hx
 have HYF := hid hy
 have x1 := hm.xb.cell (j := 1) rfl
 have xz := hm.xb.lt
 have hxv := hm.xv
 have hyv := hm.yv
 obtain ⟨xg,xc,rfl,-⟩ := hxv
 obtain ⟨yg,yc,rfl,-⟩ := hyv
 obtain ⟨xlg,xlc,rfl,-⟩ := hm.xs
 obtain ⟨ylg,ylc,rfl,-⟩ := hm.ys
 clear h0 hm hx hy hR1 hR2
 gi_wp2_with fail
 gi_loopw [13] (fun iv wr => ∃ i : Nat,i ≤ x.vars.length ∧ iv = .int .i64 i ∧ J (wayA (Mt.waysAt x y i 0 ++ (R1 ++ R2))) wr ∧ WaysM lo B t vr vd ve x y (.slice xg x.vars.length xc) (.slice xlg x.letters.length xlc) (.slice yg y.vars.length yc) (.slice ylg y.letters.length ylc) wr) (fun iv _ => x.vars.length - (RowKit.intOf iv).toNat)
 case atStart => exact ⟨0,Nat.zero_le _,rfl,HJ0.out,HM.out⟩
 case round =>
  clear x1 xz
  obtain ⟨i,hi,rfl,hj,hm⟩ := hrel
  have HMI := hid hm
  have HJI := hid hj
  clear hj hm
  by_cases hlt : i < x.vars.length
  ·obtain ⟨u,hu⟩ : ∃ u,x.vars[i]? = some u := ⟨_,List.getElem?_eq_getElem hlt⟩
   obtain ⟨a',c',e',-,-,h3⟩ := HMI.out.xv
   obtain ⟨g,o,rfl,-,hr⟩ := h3 (by omega)
   cases e'
   have hcl := hr.2 i u hu
   have c0 := hcl 0 _ rfl
   have c1 := hcl 1 _ rfl
   have c2 := hcl 2 _ rfl
   rw [Nat.add_zero] at c0
   have hg := hr.1
   have i0 : (0 : Int) ≤ (i : Int) := by omega
   have i1 : (i : Int) < (x.vars.length : Int) := by omega
   have hfew := HXF.out.vars
   have HU := hid hu
   obtain ⟨A1,hA1⟩ := exq (wr.alloc (.cells #[.string (bs u.word),.int .i64 u.end_,.int .i64 u.cost] 195))
   have hb1 := bnew hA1
   have hk1 : Blk A1 wr.heap.size 195 [.string (bs u.word),.int .i64 u.end_,.int .i64 u.cost] := by rw [hA1]; exact Blk.new wr _ _
   have HM1 := hid (HMI.out.below hb1)
   have HJ1 := hid (hJ _ _ _ none HJI.out (Below.grows hb1 none) (fun r e => by cases e))
   have HK1 := hid hk1
   have HBO := hid (show B + 2 < wr.heap.size from HMI.out.yb.lt)
   have y1 := HM1.out.yb.cell (j := 1) rfl
   have yz := HM1.out.yb.lt
   obtain ⟨b,hbq⟩ := exq (wr.heap.size)
   rw [← hbq] at HK1 HBO
   clear hr h3 hcl hu hb1 hk1
   gi_upto_region 3 with (fail)
   rw [← hA1,← hbq]
   clear hA1 hbq
   gi_wp2_with fail
   gi_loopw [20] (fun jv wx => ∃ j : Nat,j ≤ y.vars.length ∧ jv = .int .i64 j ∧ J (wayA (Mt.waysAt x y i j ++ (R1 ++ R2))) wx ∧ WaysM lo B t vr vd ve x y (.slice (some ⟨g,o,none⟩) x.vars.length xc) (.slice xlg x.letters.length xlc) (.slice yg y.vars.length yc) (.slice ylg y.letters.length ylc) wx ∧ Blk wx b 195 [.string (bs u.word),.int .i64 u.end_,.int .i64 u.cost]) (fun jv _ => y.vars.length - (RowKit.intOf jv).toNat)
   case atStart => exact ⟨0,Nat.zero_le _,rfl,HJ1.out,HM1.out,HK1.out⟩
   case round =>
    clear y1 yz c0 c1 c2 hg
    obtain ⟨j,hj,rfl,hjj,hmj,hkj⟩ := hrel
    rename World => wx
    have HMJ := hid hmj
    have HJJ := hid hjj
    have HKJ := hid hkj
    clear hjj hmj hkj
    by_cases hjt : j < y.vars.length
    ·obtain ⟨v,hv⟩ : ∃ v,y.vars[j]? = some v := ⟨_,List.getElem?_eq_getElem hjt⟩
     obtain ⟨a',c',e',-,-,h3⟩ := HMJ.out.yv
     obtain ⟨g2,o2,rfl,-,hr⟩ := h3 (by omega)
     cases e'
     have hcl := hr.2 j v hv
     have c0 := hcl 0 _ rfl
     have c1 := hcl 1 _ rfl
     have c2 := hcl 2 _ rfl
     rw [Nat.add_zero] at c0
     have hg2 := hr.1
     obtain ⟨u0,u1,u2,uz⟩ := HKJ.out.cl3
     have j0 : (0 : Int) ≤ (j : Int) := by omega
     have j1 : (j : Int) < (y.vars.length : Int) := by omega
     have hfew2 := HYF.out.vars
     have hcu := HXF.out.cost u (List.mem_of_getElem? HU.out)
     have hcv := HYF.out.cost v (List.mem_of_getElem? hv)
     have hwr : IntKind.i64.wrap (u.cost + v.cost) = u.cost + v.cost := IntWalk.i64_in _ (by omega)
     have HNX := hid (Mt.waysAt_next HU.out hv)
     obtain ⟨A2,hA2⟩ := exq (wx.alloc (.cells #[.string (bs v.word),.int .i64 v.end_,.int .i64 v.cost] 195))
     have hb2 := bnew hA2
     have hk2 : Blk A2 wx.heap.size 195 [.string (bs v.word),.int .i64 v.end_,.int .i64 v.cost] := by rw [hA2]; exact Blk.new wx _ _
     have HM2 := hid (HMJ.out.below hb2)
     have HK2 := hid (HKJ.out.below hb2)
     obtain ⟨u0,u1,u2,uz⟩ := HK2.out.cl3
     obtain ⟨v0,v1,v2,vz⟩ := hk2.cl3
     have hJ2 := hJ _ _ _ none HJJ.out (Below.grows hb2 none) (fun r e => by cases e)
     rw [HNX.out] at hJ2
     obtain ⟨fn,tmps,assign,body,hy',hR⟩ := hY _ _ (wayA (Mt.waysAt x y i (j + 1) ++ (R1 ++ R2))) A2 rfl hJ2
     have HY := hid hy'
     clear hr h3 hcl hv hb2 hk2 hJ2
     gi_upto_region 6 with (fail)
     rw [← hA2]
     clear hA2
     have hy' := HY.out
     unfold wayV at hy'
     gi_wp2_with fail
     refine hR.mono ?_
     rintro e W3 (⟨rfl,hJ3,hk3⟩ | ⟨rfl,hJx3⟩)
     ·gi_wp2_with fail
      go_roundw
      case rel => exact ⟨j + 1,by omega,by go_num,hJ3,HM2.out.ck hk3,hk3.blk HK2.out (.inr ⟨by have := HBO.out; omega,by decide⟩)⟩
      case measure => simp [RowKit.intOf]; omega
     ·gi_wp2
      refine bodyPost_ret (results_none rfl _ _ _) rfl ?_
      exact ⟨⟨_,rfl⟩,.inr ⟨_,hJx3⟩⟩
    ·have hje : j = y.vars.length := by omega
     have HJE := hid (show J (wayA (Mt.waysAt x y (i + 1) 0 ++ (R1 ++ R2))) wx by
      have := HJJ.out
      rwa [hje,Mt.waysAt_row hlt] at this)
     clear hje
     gi_wp2_with fail
     go_roundw
     case rel => exact ⟨i + 1,by omega,by go_num,HJE.out,HMJ.out⟩
     case measure => simp [RowKit.intOf]; omega
  ·have hie : i = x.vars.length := by omega
   have HJE := hid (show J (wayA (R1 ++ R2)) wr by
    have := HJI.out
    rwa [hie,Mt.waysAt_end,List.nil_append] at this)
   have p2 := HMI.out.xb.cell (j := 2) rfl
   have q2 := HMI.out.yb.cell (j := 2) rfl
   have pz := HMI.out.xb.lt
   have qz := HMI.out.yb.lt
   have HI2 := hid (initial_any 2 lo B t vr vd ve x y _ _ _ _ wr HMI.out HXF.out.lets.1 HYF.out.lets.1)
   have hl1 := HXF.out.lets
   have hl2 := HYF.out.lets
   clear hie q2 qz
   gi_upto_region 10 with (fail)
   by_cases hx1 : x.letters.length = 1
   ·have hb1 : ((x.letters.length : Int) == 1) = true := by rw [hx1]; rfl
    have HJ2 := hid (show J (wayA (Mt.initialW t 2 x y :: R2)) wr by
     have := HJE.out
     rwa [HRR.out.1,if_pos hx1] at this)
    clear hx1
    gi_wp2_with fail
    refine ⟨trivial,(callsIn_wide.2 HI2.out).mono ?_⟩
    rintro e w1 ⟨rfl,hb2⟩
    have hJ1 := hJ _ _ _ none HJ2.out (Below.grows hb2 none) (fun r e => by cases e)
    have HM1 := hid (HMI.out.below hb2)
    obtain ⟨fn,tmps,assign,body,hy',hR⟩ := hY _ _ (wayA R2) w1 rfl hJ1
    clear hb2 p2 pz
    gi_wp2_with fail
    refine hR.mono ?_
    rintro e W3 (⟨rfl,hJ3,hk3⟩ | ⟨rfl,hJx3⟩)
    ·have HM3 := hid (HM1.out.ck hk3)
     have HJ3 := hid hJ3
     clear hJ3 hk3 hy' hR hJ1
     have q2 := HM3.out.yb.cell (j := 2) rfl
     have qz := HM3.out.yb.lt
     have HI3 := hid (initial_any 3 lo B t vr vd ve x y _ _ _ _ W3 HM3.out HXF.out.lets.1 HYF.out.lets.1)
     by_cases hy1 : y.letters.length = 1
     ·have hb9 : ((y.letters.length : Int) == 1) = true := by rw [hy1]; rfl
      have HJ4 := hid (show J (wayA [Mt.initialW t 3 x y]) W3 by
       have := HJ3.out
       rwa [HRR.out.2,if_pos hy1] at this)
      clear hy1
      gi_wp2_with fail
      refine ⟨trivial,(callsIn_wide.2 HI3.out).mono ?_⟩
      rintro e w5 ⟨rfl,hb5⟩
      have hJ5 := hJ _ _ _ none HJ4.out (Below.grows hb5 none) (fun r e => by cases e)
      obtain ⟨fn,tmps,assign,body,hy',hR⟩ := hY _ _ (wayA []) w5 rfl hJ5
      clear hb5
      gi_wp2_with fail
      refine hR.mono ?_
      rintro e W6 (⟨rfl,hJ6,hk6⟩ | ⟨rfl,hJx6⟩)
      ·gi_wp2_with fail
       go_end0
       exact ⟨⟨_,rfl⟩,.inl ⟨_,rfl,hJ6⟩⟩
      ·gi_wp2_with fail
       go_end0
       exact ⟨⟨_,rfl⟩,.inr ⟨_,hJx6⟩⟩
     ·have hb9 : ((y.letters.length : Int) == 1) = false := by rw [beq_eq_false_iff_ne]; omega
      have HJ4 := hid (show J (wayA []) W3 by
       have := HJ3.out
       rwa [HRR.out.2,if_neg hy1] at this)
      clear hy1
      gi_wp2_with fail
      go_end0
      exact ⟨⟨_,rfl⟩,.inl ⟨_,rfl,HJ4.out⟩⟩
    ·gi_wp2
     refine bodyPost_ret (results_none rfl _ _ _) rfl ?_
     exact ⟨⟨_,rfl⟩,.inr ⟨_,hJx3⟩⟩
   ·have hb1 : ((x.letters.length : Int) == 1) = false := by rw [beq_eq_false_iff_ne]; omega
    have HJ2 := hid (show J (wayA R2) wr by
     have := HJE.out
     rwa [HRR.out.1,if_neg hx1,List.nil_append] at this)
    clear hx1
    have q2 := HMI.out.yb.cell (j := 2) rfl
    have qz := HMI.out.yb.lt
    have HI3 := hid (initial_any 3 lo B t vr vd ve x y _ _ _ _ wr HMI.out HXF.out.lets.1 HYF.out.lets.1)
    by_cases hy1 : y.letters.length = 1
    ·have hb9 : ((y.letters.length : Int) == 1) = true := by rw [hy1]; rfl
     have HJ4 := hid (show J (wayA [Mt.initialW t 3 x y]) wr by
      have := HJ2.out
      rwa [HRR.out.2,if_pos hy1] at this)
     clear hy1
     iterate 16 (try (first | (refine ⟨fun f hf => (by cases hf),?_⟩) | gi_wp2_with fail))
     refine ⟨trivial,(callsIn_wide.2 HI3.out).mono ?_⟩
     rintro e w5 ⟨rfl,hb5⟩
     have hJ5 := hJ _ _ _ none HJ4.out (Below.grows hb5 none) (fun r e => by cases e)
     obtain ⟨fn,tmps,assign,body,hy',hR⟩ := hY _ _ (wayA []) w5 rfl hJ5
     clear hb5
     gi_wp2_with fail
     refine hR.mono ?_
     rintro e W6 (⟨rfl,hJ6,hk6⟩ | ⟨rfl,hJx6⟩)
     ·gi_wp2_with fail
      go_end0
      exact ⟨⟨_,rfl⟩,.inl ⟨_,rfl,hJ6⟩⟩
     ·gi_wp2_with fail
      go_end0
      exact ⟨⟨_,rfl⟩,.inr ⟨_,hJx6⟩⟩
    ·have hb9 : ((y.letters.length : Int) == 1) = false := by rw [beq_eq_false_iff_ne]; omega
     have HJ4 := hid (show J (wayA []) wr by
      have := HJ2.out
      rwa [HRR.out.2,if_neg hy1] at this)
     clear hy1
     iterate 16 (try (first | (refine ⟨fun f hf => (by cases hf),?_⟩) | gi_wp2_with fail))
     go_end0
     exact ⟨⟨_,rfl⟩,.inl ⟨_,rfl,HJ4.out⟩⟩
end Go.Proofs.YtdghfenbfbdijaaGreatDoor
