/-
 Several texts in one: ZMt4, ZMt5. Conditions: as each law says.
-/
import Derived.Test.YtdghfenbfbdijaaGreatDoorZMMtA
namespace Go.Proofs.YtdghfenbfbdijaaGreatDoor
open Go.RowKit Go.Lib Go.Maps
attribute [local go_sem] Oper.semAt_some
theorem results_cells {P : Program} {fn : Func} {p q : Tmp} {ty ty2 : TypeId} (h : fn.results = #[.cell p ty,.cell q ty2]) (tmps : Array Value) (w : World) :
  (results fn tmps).run P w = ((asAddr (tmps.getD p undef)).run P w).andThen fun a w₁ => ((loadVar ty a).run P w₁).andThen fun v w₂ => ((asAddr (tmps.getD q undef)).run P w₂).andThen fun a₂ w₃ => ((loadVar ty2 a₂).run P w₃).andThen fun x w₄ => .ok (.tuple #[v,x]) w₄ := by
 simp only [results,h]
 simp [Sem.run_bind,Result.andThen]
theorem run_cell_cell {P : Program} {fn : Func} {tmps : Array Value} {w : World} {p q : Tmp} {ty ty2 : TypeId} (h : fn.results = #[.cell p ty,.cell q ty2])
  {v x : Value} {ad ad2 : Addr} (hp : tmps.getD p undef = .pointer (some ad)) (hl : (loadVar ty ad).run P w = .ok v w) (hq : tmps.getD q undef = .pointer (some ad2)) (hl2 : (loadVar ty2 ad2).run P w = .ok x w) : (results fn tmps).run P w = .ok (.tuple #[v,x]) w := by
 have e : ∀ ad,(asAddr (.pointer (some ad))).run P w = .ok ad w := fun _ => rfl
 rw [results_cells h,hp,e]
 simp only [Result.andThen]
 rw [hl]
 simp only
 rw [hq,e]
 simp only
 rw [hl2]
theorem Blk.same {w : World} {b : Nat} {e : TypeId} {vs : List Value} (h : Blk w b e vs) {j : Nat} {u : Value} (hj : vs[j]? = some u) : Blk (w.setCell ⟨b,j,none⟩ u) b e vs := by
 have h2 := h.set j u
 rwa [show vs.set j u = vs from List.ext_getElem? fun i => by
  rw [List.getElem?_set]
  split
  ·rename_i hi
   subst hi
   rw [hj,if_pos (List.getElem?_eq_some_iff.1 hj).1]
  ·rfl] at h2
def prC (p : Option Mt.P) (lv rv : Value) : List Value :=
 match p with
 | none => [.int .i64 0,.int .i64 0,.int .i64 0,.int .i64 0,.int .i64 0,.int .i64 0,.int .i64 0,.slice none 0 0,.slice none 0 0,.string ⟨#[]⟩]
 | some p => [.int .i64 0,.int .i64 0,.int .i64 p.way.kind,.int .i64 p.way.left,.int .i64 p.way.right,.int .i64 p.cost,.int .i64 p.by_.cost,lv,rv,.string (bs p.by_.form)]
def CheapP (t : Rw.Table) (x y : Mt.W) (W : World) (e : Ending) (W' : World) : Prop :=
 Below W.heap.size W W' ∧ ∃ lv rv,(∃ a n c,lv = .slice a n c) ∧ (∃ a n c,rv = .slice a n c) ∧
  e = .returned (.tuple #[.agg (prC (Mt.cheapest (Mt.al t) t x y) lv rv).toArray,.bool (Mt.cheapest (Mt.al t) t x y).isSome])
structure ChI (t : Rw.Table) (vr vd ve : Value) (x y : Mt.W) (xa xl ya yl : Value) (W : World) (b : List Mt.Way) (A : World) : Prop where
 ex : ∃ (ws : List Mt.Way) (best : Option Mt.P) (lv rv : Value),b = wayA ws ∧ ws.foldl (Mt.step (Mt.al t) x.script y.script) best = Mt.cheapest (Mt.al t) t x y ∧ (∀ w ∈ ws,Mt.WayOk w ∧ w.x.length ≤ 1000000 ∧ w.y.length ≤ 1000000) ∧ (∀ p,best = some p → 0 ≤ p.cost ∧ p.cost ≤ 26000) ∧
  (∃ a n c,lv = .slice a n c) ∧ (∃ a n c,rv = .slice a n c) ∧ Blk A (W.heap.size + 3) 103 (prC best lv rv) ∧ Blk A (W.heap.size + 4) 4 [.bool best.isSome]
 tb : Blk A W.heap.size 25 (tabCells t vr vd ve)
 xb : Blk A (W.heap.size + 1) 99 [.int .i64 x.script,xa,xl]
 yb : Blk A (W.heap.size + 2) 99 [.int .i64 y.script,ya,yl]
 below : Below W.heap.size W A
theorem Blk.rec_ {w w' : World} {b : Nat} {e : TypeId} {vs : List Value} {row : Option Nat} (h : Blk w b e vs) (hg : w.grownBy w' row) (hr : ∀ r,row = some r → ∃ o : Obj,w.heap[r]? = some o ∧ o.isCells = false) : Blk w' b e vs := by
 refine h.kept hg fun e' => ?_
 obtain ⟨o,ho,hc⟩ := hr b e'
 rw [show w.heap[b]? = _ from h] at ho
 cases ho
 cases hc
theorem chI_stays (t : Rw.Table) (vr vd ve : Value) (x y : Mt.W) (xa xl ya yl : Value) (W : World) (B : Nat) (hB : W.heap.size ≤ B) : Stays B none (ChI t vr vd ve x y xa xl ya yl W) := by
 rintro b A A' row ⟨⟨ws,best,lv,rv,h1,h2,h3,h4,h5,h6,h7,h8⟩,g1,g2,g3,g4⟩ hg hr
 have hr' : ∀ r,row = some r → B ≤ r ∧ ∃ o : Obj,A.heap[r]? = some o ∧ o.isCells = false := fun r e => by
  rcases hr r e with h | h
  ·cases h
  ·exact h
 have hr2 : ∀ r,row = some r → ∃ o : Obj,A.heap[r]? = some o ∧ o.isCells = false := fun r e => (hr' r e).2
 exact ⟨⟨ws,best,lv,rv,h1,h2,h3,h4,h5,h6,h7.rec_ hg hr2,h8.rec_ hg hr2⟩,g1.rec_ hg hr2,g2.rec_ hg hr2,g3.rec_ hg hr2,g4.grown hg g4.size (fun k hk => by have := (hr' k hk).1; omega)⟩
set_option maxRecDepth 100000 in
set_option maxHeartbeats 8000000 in
theorem cheapest_any (t : Rw.Table) (vr vd ve : Value) (x y : Mt.W) (xv yv : Value) (W : World) (ht : TableAt W t (.agg #[vr,vd,ve,.int .i64 t.drop,.int .i64 t.order,.int .i64 t.initial])) (hT : Tabs W) (hx : WordAt W x xv) (hy : WordAt W y yv) (hfx : WordFew x) (hfy : WordFew y)
  (hok : ∀ w ∈ Mt.ways t x y,Mt.WayOk w) (hsz : ∀ w ∈ Mt.ways t x y,w.x.length ≤ 1000000 ∧ w.y.length ≤ 1000000) : Calls Tryz.prog 44 #[.agg #[vr,vd,ve,.int .i64 t.drop,.int .i64 t.order,.int .i64 t.initial],xv,yv] W (CheapP t x y W) := by
 have HTA := hid ht
 have HTT := hid hT
 have HOK := hid hok
 have HSZ := hid hsz
 have HFX := hid hfx
 have HFY := hid hfy
 obtain ⟨⟨_,_,_,e,⟨ar,cr,rfl,-⟩,⟨ad,cd,rfl,-⟩,⟨ae,ce,rfl,-⟩⟩,-⟩ := ht
 cases e
 obtain ⟨xa,xl,rfl,hxv,hxl⟩ := hx
 obtain ⟨ya,yl,rfl,hyv,hyl⟩ := hy
 have HX := hid (And.intro hxv hxl)
 have HY := hid (And.intro hyv hyl)
 obtain ⟨xg,xc,rfl,-⟩ := hxv
 obtain ⟨xlg,xlc,rfl,-⟩ := hxl
 obtain ⟨yg,yc,rfl,-⟩ := hyv
 obtain ⟨ylg,ylc,rfl,-⟩ := hyl
 clear hT hok hsz hfx hfy
 obtain ⟨W1,hW1⟩ := exq (((((W.alloc (.cells #[.slice ar t.rules.length cr,.slice ad t.drops.length cd,.slice ae t.ends.length ce,.int .i64 t.drop,.int .i64 t.order,.int .i64 t.initial] 25)).alloc (.cells #[.int .i64 x.script,.slice xg x.vars.length xc,.slice xlg x.letters.length xlc] 99)).alloc (.cells #[.int .i64 y.script,.slice yg y.vars.length yc,.slice ylg y.letters.length ylc] 99)).alloc (.cells #[.int .i64 0,.int .i64 0,.int .i64 0,.int .i64 0,.int .i64 0,.int .i64 0,.int .i64 0,.slice none 0 0,.slice none 0 0,.string ⟨#[]⟩] 103)).alloc (.cells #[.bool false] 4))
 have HI1 := hid (show ChI t (.slice ar t.rules.length cr) (.slice ad t.drops.length cd) (.slice ae t.ends.length ce) x y (.slice xg x.vars.length xc) (.slice xlg x.letters.length xlc) (.slice yg y.vars.length yc) (.slice ylg y.letters.length ylc) W (wayA (Mt.ways t x y)) W1 by
  obtain ⟨Wa,ha⟩ := exq (W.alloc (.cells #[.slice ar t.rules.length cr,.slice ad t.drops.length cd,.slice ae t.ends.length ce,.int .i64 t.drop,.int .i64 t.order,.int .i64 t.initial] 25))
  rw [← ha] at hW1
  obtain ⟨Wb,hb⟩ := exq (Wa.alloc (.cells #[.int .i64 x.script,.slice xg x.vars.length xc,.slice xlg x.letters.length xlc] 99))
  rw [← hb] at hW1
  obtain ⟨Wc,hc⟩ := exq (Wb.alloc (.cells #[.int .i64 y.script,.slice yg y.vars.length yc,.slice ylg y.letters.length ylc] 99))
  rw [← hc] at hW1
  obtain ⟨Wd,hd⟩ := exq (Wc.alloc (.cells #[.int .i64 0,.int .i64 0,.int .i64 0,.int .i64 0,.int .i64 0,.int .i64 0,.int .i64 0,.slice none 0 0,.slice none 0 0,.string ⟨#[]⟩] 103))
  rw [← hd] at hW1
  have za : Wa.heap.size = W.heap.size + 1 := by rw [ha,World.size_alloc]
  have zb : Wb.heap.size = W.heap.size + 2 := by rw [hb,World.size_alloc,za]
  have zc : Wc.heap.size = W.heap.size + 3 := by rw [hc,World.size_alloc,zb]
  have zd : Wd.heap.size = W.heap.size + 4 := by rw [hd,World.size_alloc,zc]
  have ba := bnew ha
  have bb := bnew hb
  have bc := bnew hc
  have bd := bnew hd
  have b1 := bnew hW1
  have ka : Blk Wa W.heap.size 25 (tabCells t (.slice ar t.rules.length cr) (.slice ad t.drops.length cd) (.slice ae t.ends.length ce)) := by rw [ha]; exact Blk.new W _ _
  have kb : Blk Wb (W.heap.size + 1) 99 [.int .i64 x.script,.slice xg x.vars.length xc,.slice xlg x.letters.length xlc] := by rw [hb,← za]; exact Blk.new Wa _ _
  have kc : Blk Wc (W.heap.size + 2) 99 [.int .i64 y.script,.slice yg y.vars.length yc,.slice ylg y.letters.length ylc] := by rw [hc,← zb]; exact Blk.new Wb _ _
  have kd : Blk Wd (W.heap.size + 3) 103 (prC none (.slice none 0 0) (.slice none 0 0)) := by rw [hd,← zc]; exact Blk.new Wc _ _
  have k1 : Blk W1 (W.heap.size + 4) 4 [.bool false] := by rw [hW1,← zd]; exact Blk.new Wd _ _
  exact ⟨⟨Mt.ways t x y,none,_,_,rfl,rfl,fun w hw => ⟨HOK.out w hw,HSZ.out w hw⟩,fun p h => (by cases h),⟨_,_,_,rfl⟩,⟨_,_,_,rfl⟩,kd.below b1,k1⟩,(((ka.below bb).below bc).below bd).below b1,((kb.below bc).below bd).below b1,(kc.below bd).below b1,Below.step (Below.step (Below.step (Below.step ba bb) bc) bd) b1⟩)
 have HZ1 := hid (show W1.heap.size = W.heap.size + 5 by rw [hW1]; simp)
 obtain ⟨y0,y1,y2,y3,y4,y5,yz⟩ := HI1.out.tb.cl6
 obtain ⟨x0,x1,x2,xz⟩ := HI1.out.xb.cl3
 obtain ⟨u0,u1,u2,uz⟩ := HI1.out.yb.cl3
 have HMK := hid (ways_mk t (.slice ar t.rules.length cr) (.slice ad t.drops.length cd) (.slice ae t.ends.length ce) x y (.slice xg x.vars.length xc) (.slice xlg x.letters.length xlc) (.slice yg y.vars.length yc) (.slice ylg y.letters.length ylc) W1 ⟨_,_,_,rfl⟩ ⟨_,_,_,rfl⟩ ⟨_,_,_,rfl⟩ ⟨_,_,_,rfl⟩ ⟨_,_,_,rfl⟩ ⟨_,_,_,rfl⟩ ⟨_,_,_,rfl⟩)
 unfold tabCells at HMK
 refine (callsIn_wide (n := 9)).1 ?_
 refine callsIn_of_wp_marks Tryz.func44 rfl trivial ?_ rfl
 simp only [Tryz.ntmps44,List.size_toArray,List.length_cons,List.length_nil,Nat.reduceAdd,Nat.reduceSub,Array.replicate_succ,Array.replicate_zero,List.push_toArray,List.append_toArray,List.nil_append,List.cons_append]
 refine wpIn_wide.2 ?_
 go_upto_region 1 with (fail)
 simp only [Nat.add_assoc,Nat.reduceAdd]
 rw [← hW1]
 clear hW1
 go_wp2_with fail
 refine (HMK.out).mono ?_
 rintro e W4 ⟨rfl,hW4⟩
 have hb4 : Below W1.heap.size W1 W4 := by rw [hW4]; exact (((Below.refl _ W1).alloc (Nat.le_refl _) _).alloc (by simp only [World.size_alloc]; omega) _).alloc (by simp only [World.size_alloc]; omega) _
 have HM4 := hid (show WaysM W.heap.size W1.heap.size t (.slice ar t.rules.length cr) (.slice ad t.drops.length cd) (.slice ae t.ends.length ce) x y (.slice xg x.vars.length xc) (.slice xlg x.letters.length xlc) (.slice yg y.vars.length yc) (.slice ylg y.letters.length ylc) W4 by
  have hbw := Below.step HI1.out.below hb4
  obtain ⟨Wa,ha⟩ := exq (W1.alloc (.cells #[.slice ar t.rules.length cr,.slice ad t.drops.length cd,.slice ae t.ends.length ce,.int .i64 t.drop,.int .i64 t.order,.int .i64 t.initial] 25))
  rw [← ha] at hW4
  obtain ⟨Wb,hb⟩ := exq (Wa.alloc (.cells #[.int .i64 x.script,.slice xg x.vars.length xc,.slice xlg x.letters.length xlc] 99))
  rw [← hb] at hW4
  have za : Wa.heap.size = W1.heap.size + 1 := by rw [ha,World.size_alloc]
  have zb : Wb.heap.size = W1.heap.size + 2 := by rw [hb,World.size_alloc,za]
  have bb := bnew hb
  have bc := bnew hW4
  have ka : Blk Wa W1.heap.size 25 (tabCells t (.slice ar t.rules.length cr) (.slice ad t.drops.length cd) (.slice ae t.ends.length ce)) := by rw [ha]; exact Blk.new W1 _ _
  have kb : Blk Wb (W1.heap.size + 1) 99 [.int .i64 x.script,.slice xg x.vars.length xc,.slice xlg x.letters.length xlc] := by rw [hb,← za]; exact Blk.new Wa _ _
  have kc : Blk W4 (W1.heap.size + 2) 99 [.int .i64 y.script,.slice yg y.vars.length yc,.slice ylg y.letters.length ylc] := by rw [hW4,← zb]; exact Blk.new Wb _ _
  exact ⟨(ka.below bb).below bc,kb.below bc,kc,HX.out.1.slIn.below hbw,HX.out.2.slIn.below hbw,HY.out.1.slIn.below hbw,HY.out.2.slIn.below hbw⟩)
 have HI4 := hid (chI_stays t _ _ _ x y _ _ _ _ W W.heap.size (Nat.le_refl _) _ W1 W4 none HI1.out (Below.grows hb4 none) (fun r e => by cases e))
 have HZ4 := hid (show W4.heap.size = W1.heap.size + 3 by rw [hW4]; simp)
 clear hW4 hb4 y0 y1 y2 y3 y4 y5 yz x0 x1 x2 xz u0 u1 u2 uz HMK
 go_wp2_with fail
 refine (wpIn_wide (n := 9)).1 (wp_iter (own := none) rfl (by omega) (gf := 107) (lb := #[.pointer (some ⟨W1.heap.size + 1,0,none⟩),.pointer (some ⟨W1.heap.size + 2,0,none⟩),.pointer (some ⟨W1.heap.size,0,none⟩)]) rfl trivial (enters_of Tryz.func107 (by kernel_rfl) rfl)
  (ways_iter W.heap.size W1.heap.size t _ _ _ x y _ _ _ _ HFX.out HFY.out 8 (by omega)) (wayA (Mt.ways t x y)) (fun r e => by cases e)
  (fun A hA => ⟨rfl,HM4.out.below hA⟩) (fun b vals b' h => ?ps) (fun h1 h2 => h1.trans h2) (fun A l o o' hl hlo ho => CK.record hlo ho (fun _ => trivial))
  (ChI t (.slice ar t.rules.length cr) (.slice ad t.drops.length cd) (.slice ae t.ends.length ce) x y (.slice xg x.vars.length xc) (.slice xlg x.letters.length xlc) (.slice yg y.vars.length yc) (.slice ylg y.letters.length ylc) W) (fun _ _ _ => False) ?hI ?hIx ?h0 ?hround ?hdone ?hstop)
 case ps =>
  cases b with
  | nil => cases h
  | cons v l =>
   cases h
   rfl
 case hI => exact chI_stays t _ _ _ x y _ _ _ _ W _ (by have := HZ1.out; have := HZ4.out; omega)
 case hIx => intro c b A A' row h; exact h.elim
 case h0 => exact HI4.out
 case hstop => intro D c b A hD hx; exact hx.elim
 case hdone =>
  intro D b A hD hnx hi hK
  obtain ⟨⟨ws,best,lv,rv,hbw,h2,h3,h4,h5,h6,h7,h8⟩,g1,g2,g3,g4⟩ := hi
  have hws : ws = [] := by
   cases ws with
   | nil => rfl
   | cons w l => rw [hbw] at hnx; cases hnx
  subst hws
  clear hbw
  have hbest : best = Mt.cheapest (Mt.al t) t x y := h2
  have HB := hid hbest
  have HK := hid hK
  obtain ⟨la,ln,lc,rfl⟩ := h5
  obtain ⟨ra,rn,rc,rfl⟩ := h6
  clear hbest
  cases best with
  | none =>
   unfold prC at h7
   have HP := hid (And.intro h7 (And.intro h8 g4))
   obtain ⟨p0,p1,p2,p3,p4,p5,p6,p7,p8,p9,f0,f1,f2,f3,f4,f5,f6,f7,f8,f9,pz⟩ := h7.cf10
   have q0 := h8.cell (j := 0) rfl
   have qf := h8.frozen 0
   have qz := h8.lt
   clear h2 h3 h4 hnx hK g1 g2 g3 g4 h7 h8
   go_wp2_with fail
   go_upto_region 9 with (fail)
   go_region
   obtain ⟨X,hX⟩ := exq ((((((((((((A.setCell ⟨W.heap.size + 3,0,none⟩ (.int .i64 0)).setCell ⟨W.heap.size + 3,1,none⟩ (.int .i64 0)).setCell ⟨W.heap.size + 3,2,none⟩ (.int .i64 0)).setCell ⟨W.heap.size + 3,3,none⟩ (.int .i64 0)).setCell ⟨W.heap.size + 3,4,none⟩ (.int .i64 0)).setCell ⟨W.heap.size + 3,5,none⟩ (.int .i64 0)).setCell ⟨W.heap.size + 3,6,none⟩ (.int .i64 0)).setCell ⟨W.heap.size + 3,7,none⟩ (.slice none 0 0)).setCell ⟨W.heap.size + 3,8,none⟩ (.slice none 0 0)).setCell ⟨W.heap.size + 3,9,none⟩ (.string ⟨#[]⟩)).setCell ⟨W.heap.size + 4,0,none⟩ (.bool false)).drew)
   rw [← hX]
   have k1 : Blk X (W.heap.size + 3) 103 (prC (none) (.slice la ln lc) (.slice ra rn rc)) := by
    rw [hX]
    exact (((((((((((HP.out.1.same (j := 0) rfl).same (j := 1) rfl).same (j := 2) rfl).same (j := 3) rfl).same (j := 4) rfl).same (j := 5) rfl).same (j := 6) rfl).same (j := 7) rfl).same (j := 8) rfl).same (j := 9) rfl).other (by omega) _).below (Below.refl _ _).drew
   have k2 : Blk X (W.heap.size + 4) 4 [.bool false] := by
    rw [hX]
    exact (((((((((((HP.out.2.1.other (by omega) _).other (by omega) _).other (by omega) _).other (by omega) _).other (by omega) _).other (by omega) _).other (by omega) _).other (by omega) _).other (by omega) _).other (by omega) _).same (j := 0) rfl).below (Below.refl _ _).drew
   have k3 : Below W.heap.size W X := by
    rw [hX]
    exact (((((((((((HP.out.2.2.setCell (p := ⟨W.heap.size + 3,0,none⟩) (by simp) _).setCell (p := ⟨W.heap.size + 3,1,none⟩) (by simp) _).setCell (p := ⟨W.heap.size + 3,2,none⟩) (by simp) _).setCell (p := ⟨W.heap.size + 3,3,none⟩) (by simp) _).setCell (p := ⟨W.heap.size + 3,4,none⟩) (by simp) _).setCell (p := ⟨W.heap.size + 3,5,none⟩) (by simp) _).setCell (p := ⟨W.heap.size + 3,6,none⟩) (by simp) _).setCell (p := ⟨W.heap.size + 3,7,none⟩) (by simp) _).setCell (p := ⟨W.heap.size + 3,8,none⟩) (by simp) _).setCell (p := ⟨W.heap.size + 3,9,none⟩) (by simp) _).setCell (p := ⟨W.heap.size + 4,0,none⟩) (by simp) _).drew
   have hTc : Tch (fun b => b = W.heap.size + 3 ∨ b = W.heap.size + 4) A X := by
    rw [hX]
    exact ((((((((((((Tch.refl (fun b => b = W.heap.size + 3 ∨ b = W.heap.size + 4) A).setCell (a := ⟨W.heap.size + 3,0,none⟩) (.inl (.inl rfl)) _).setCell (a := ⟨W.heap.size + 3,1,none⟩) (.inl (.inl rfl)) _).setCell (a := ⟨W.heap.size + 3,2,none⟩) (.inl (.inl rfl)) _).setCell (a := ⟨W.heap.size + 3,3,none⟩) (.inl (.inl rfl)) _).setCell (a := ⟨W.heap.size + 3,4,none⟩) (.inl (.inl rfl)) _).setCell (a := ⟨W.heap.size + 3,5,none⟩) (.inl (.inl rfl)) _).setCell (a := ⟨W.heap.size + 3,6,none⟩) (.inl (.inl rfl)) _).setCell (a := ⟨W.heap.size + 3,7,none⟩) (.inl (.inl rfl)) _).setCell (a := ⟨W.heap.size + 3,8,none⟩) (.inl (.inl rfl)) _).setCell (a := ⟨W.heap.size + 3,9,none⟩) (.inl (.inl rfl)) _).setCell (a := ⟨W.heap.size + 4,0,none⟩) (.inl (.inr rfl)) _).step (Below.refl _ _).drew
   have k4 : X.heap[D]? = some (.deferred (some [])) := (hTc.block D (Array.getElem?_eq_some_iff.1 HK.out).1 (fun h => by have := HZ1.out; have := HZ4.out; rcases h with h | h <;> omega)).trans HK.out
   clear hX
   go_wp2_with fail
   have hrec := grownBy_putObj' X D (.deferred none)
   have hr2 : ∀ r,(some D : Option Nat) = some r → ∃ o : Obj,X.heap[r]? = some o ∧ o.isCells = false := fun r e => by cases e; exact ⟨_,k4,rfl⟩
   have k5 := k1.rec_ hrec hr2
   have k6 := k2.rec_ hrec hr2
   have c6 := k6.cell (j := 0) rfl
   refine ⟨by simp,.inl ⟨_,_,rfl,run_takeDeferred k4,_,run_cell_cell (x := .bool false) rfl rfl (run_loadVar_row _ (W.heap.size + 3) _ 103 _ _ _ k5 Tryz.underlying103 rfl (by kernel_rfl)) rfl (by simp [loadVar,Sem.run_bind,isAgg,run_underlying Tryz.underlying4,c6]),?_⟩⟩
   exact ⟨k3.grown hrec k3.size (fun k hk => by cases hk; have := HZ1.out; have := HZ4.out; omega),_,_,⟨_,_,_,rfl⟩,⟨_,_,_,rfl⟩,by rw [← HB.out]; rfl⟩
  | some p =>
   unfold prC at h7
   have HP := hid (And.intro h7 (And.intro h8 g4))
   obtain ⟨p0,p1,p2,p3,p4,p5,p6,p7,p8,p9,f0,f1,f2,f3,f4,f5,f6,f7,f8,f9,pz⟩ := h7.cf10
   have q0 := h8.cell (j := 0) rfl
   have qf := h8.frozen 0
   have qz := h8.lt
   clear h2 h3 h4 hnx hK g1 g2 g3 g4 h7 h8
   go_wp2_with fail
   go_upto_region 9 with (fail)
   go_region
   obtain ⟨X,hX⟩ := exq ((((((((((((A.setCell ⟨W.heap.size + 3,0,none⟩ (.int .i64 0)).setCell ⟨W.heap.size + 3,1,none⟩ (.int .i64 0)).setCell ⟨W.heap.size + 3,2,none⟩ (.int .i64 p.way.kind)).setCell ⟨W.heap.size + 3,3,none⟩ (.int .i64 p.way.left)).setCell ⟨W.heap.size + 3,4,none⟩ (.int .i64 p.way.right)).setCell ⟨W.heap.size + 3,5,none⟩ (.int .i64 p.cost)).setCell ⟨W.heap.size + 3,6,none⟩ (.int .i64 p.by_.cost)).setCell ⟨W.heap.size + 3,7,none⟩ (.slice la ln lc)).setCell ⟨W.heap.size + 3,8,none⟩ (.slice ra rn rc)).setCell ⟨W.heap.size + 3,9,none⟩ (.string (bs p.by_.form))).setCell ⟨W.heap.size + 4,0,none⟩ (.bool true)).drew)
   rw [← hX]
   have k1 : Blk X (W.heap.size + 3) 103 (prC (some p) (.slice la ln lc) (.slice ra rn rc)) := by
    rw [hX]
    exact (((((((((((HP.out.1.same (j := 0) rfl).same (j := 1) rfl).same (j := 2) rfl).same (j := 3) rfl).same (j := 4) rfl).same (j := 5) rfl).same (j := 6) rfl).same (j := 7) rfl).same (j := 8) rfl).same (j := 9) rfl).other (by omega) _).below (Below.refl _ _).drew
   have k2 : Blk X (W.heap.size + 4) 4 [.bool true] := by
    rw [hX]
    exact (((((((((((HP.out.2.1.other (by omega) _).other (by omega) _).other (by omega) _).other (by omega) _).other (by omega) _).other (by omega) _).other (by omega) _).other (by omega) _).other (by omega) _).other (by omega) _).same (j := 0) rfl).below (Below.refl _ _).drew
   have k3 : Below W.heap.size W X := by
    rw [hX]
    exact (((((((((((HP.out.2.2.setCell (p := ⟨W.heap.size + 3,0,none⟩) (by simp) _).setCell (p := ⟨W.heap.size + 3,1,none⟩) (by simp) _).setCell (p := ⟨W.heap.size + 3,2,none⟩) (by simp) _).setCell (p := ⟨W.heap.size + 3,3,none⟩) (by simp) _).setCell (p := ⟨W.heap.size + 3,4,none⟩) (by simp) _).setCell (p := ⟨W.heap.size + 3,5,none⟩) (by simp) _).setCell (p := ⟨W.heap.size + 3,6,none⟩) (by simp) _).setCell (p := ⟨W.heap.size + 3,7,none⟩) (by simp) _).setCell (p := ⟨W.heap.size + 3,8,none⟩) (by simp) _).setCell (p := ⟨W.heap.size + 3,9,none⟩) (by simp) _).setCell (p := ⟨W.heap.size + 4,0,none⟩) (by simp) _).drew
   have hTc : Tch (fun b => b = W.heap.size + 3 ∨ b = W.heap.size + 4) A X := by
    rw [hX]
    exact ((((((((((((Tch.refl (fun b => b = W.heap.size + 3 ∨ b = W.heap.size + 4) A).setCell (a := ⟨W.heap.size + 3,0,none⟩) (.inl (.inl rfl)) _).setCell (a := ⟨W.heap.size + 3,1,none⟩) (.inl (.inl rfl)) _).setCell (a := ⟨W.heap.size + 3,2,none⟩) (.inl (.inl rfl)) _).setCell (a := ⟨W.heap.size + 3,3,none⟩) (.inl (.inl rfl)) _).setCell (a := ⟨W.heap.size + 3,4,none⟩) (.inl (.inl rfl)) _).setCell (a := ⟨W.heap.size + 3,5,none⟩) (.inl (.inl rfl)) _).setCell (a := ⟨W.heap.size + 3,6,none⟩) (.inl (.inl rfl)) _).setCell (a := ⟨W.heap.size + 3,7,none⟩) (.inl (.inl rfl)) _).setCell (a := ⟨W.heap.size + 3,8,none⟩) (.inl (.inl rfl)) _).setCell (a := ⟨W.heap.size + 3,9,none⟩) (.inl (.inl rfl)) _).setCell (a := ⟨W.heap.size + 4,0,none⟩) (.inl (.inr rfl)) _).step (Below.refl _ _).drew
   have k4 : X.heap[D]? = some (.deferred (some [])) := (hTc.block D (Array.getElem?_eq_some_iff.1 HK.out).1 (fun h => by have := HZ1.out; have := HZ4.out; rcases h with h | h <;> omega)).trans HK.out
   clear hX
   go_wp2_with fail
   have hrec := grownBy_putObj' X D (.deferred none)
   have hr2 : ∀ r,(some D : Option Nat) = some r → ∃ o : Obj,X.heap[r]? = some o ∧ o.isCells = false := fun r e => by cases e; exact ⟨_,k4,rfl⟩
   have k5 := k1.rec_ hrec hr2
   have k6 := k2.rec_ hrec hr2
   have c6 := k6.cell (j := 0) rfl
   refine ⟨by simp,.inl ⟨_,_,rfl,run_takeDeferred k4,_,run_cell_cell (x := .bool true) rfl rfl (run_loadVar_row _ (W.heap.size + 3) _ 103 _ _ _ k5 Tryz.underlying103 rfl (by kernel_rfl)) rfl (by simp [loadVar,Sem.run_bind,isAgg,run_underlying Tryz.underlying4,c6]),?_⟩⟩
   exact ⟨k3.grown hrec k3.size (fun k hk => by cases hk; have := HZ1.out; have := HZ4.out; omega),_,_,⟨_,_,_,rfl⟩,⟨_,_,_,rfl⟩,by rw [← HB.out]; rfl⟩
 case hround =>
  intro l b vals b' A hl hlo hnx hi
  cases b with
  | nil => cases hnx
  | cons wy b =>
  cases hnx
  have HI := hid hi
  have HLO := hid hlo
  clear hi hlo
  unfold wayV
  gi_wp2_with fail
  obtain ⟨A2,hA2⟩ := exq (A.alloc (.cells #[.int .i64 0,.int .i64 0,.int .i64 wy.kind,.int .i64 wy.left,.int .i64 wy.right,.int .i64 wy.cost,.int .i64 0,.slice none 0 0,.slice none 0 0,.string ⟨#[]⟩,.string (bs wy.x),.string (bs wy.y)] 153))
  rw [← hA2]
  have hbA := bnew hA2
  have hk2 : Blk A2 A.heap.size 153 [.int .i64 0,.int .i64 0,.int .i64 wy.kind,.int .i64 wy.left,.int .i64 wy.right,.int .i64 wy.cost,.int .i64 0,.slice none 0 0,.slice none 0 0,.string ⟨#[]⟩,.string (bs wy.x),.string (bs wy.y)] := by rw [hA2]; exact Blk.new A _ _
  clear hA2
  refine ⟨⟨hbA.size,fun q o hq ho hn => (hbA.block q (Array.getElem?_eq_some_iff.1 ho).1).trans ho⟩,⟨hbA.size,fun q cs e fr _ h => (hbA.block q (Array.getElem?_eq_some_iff.1 h).1).trans h,fun _ => trivial⟩,fun A3 hg3 => ?_⟩
  obtain ⟨ol,hol,hoc⟩ := HLO.out
  have hol2 := (hbA.block l (Array.getElem?_eq_some_iff.1 hol).1).trans hol
  have hI2 := chI_stays t _ _ _ x y _ _ _ _ W W.heap.size (Nat.le_refl _) _ A A2 none HI.out (Below.grows hbA none) (fun r e => by cases e)
  have hI3 := chI_stays t _ _ _ x y _ _ _ _ W W.heap.size (Nat.le_refl _) _ A2 A3 (some l) hI2 hg3 (fun r e => by cases e; exact .inr ⟨by have := HZ1.out; have := HZ4.out; omega,_,hol2,hoc⟩)
  have hk3 := hk2.rec_ hg3 (fun r e => by cases e; exact ⟨_,hol2,hoc⟩)
  have HAL := hid (show W.heap.size + 8 ≤ A.heap.size by have := HZ1.out; have := HZ4.out; have := (Array.getElem?_eq_some_iff.1 hol).1; omega)
  clear hbA hk2 hol hol2 hI2 hg3
  have HI3 := hid hI3
  have HK3 := hid hk3
  obtain ⟨y0,y1,y2,y3,y4,y5,yz⟩ := hI3.tb.cl6
  have x0 := hI3.xb.cell (j := 0) rfl
  have xz := hI3.xb.lt
  have u0 := hI3.yb.cell (j := 0) rfl
  have uz := hI3.yb.lt
  have w10 := hk3.cell (j := 10) rfl
  have w11 := hk3.cell (j := 11) rfl
  have wz := hk3.lt
  obtain ⟨ws,best,lv,rv,hbw,h2,h3,h4,h5,h6,h7,h8⟩ := hI3.ex
  obtain ⟨w0,ws,rfl⟩ : ∃ w0 ws',ws = w0 :: ws' := by
   cases ws with
   | nil => cases hbw
   | cons w l => exact ⟨w,l,rfl⟩
  have hbw' : wy :: b' = w0 :: ws := hbw
  obtain ⟨rfl,rfl⟩ := List.cons.inj hbw'
  have HWO := hid (h3 wy List.mem_cons_self).1
  have HBE := hid h4
  have HFO := hid (show b'.foldl (Mt.step (Mt.al t) x.script y.script) (Mt.step (Mt.al t) x.script y.script best wy) = Mt.cheapest (Mt.al t) t x y from h2)
  have HWS := hid (show ∀ w ∈ b',Mt.WayOk w ∧ w.x.length ≤ 1000000 ∧ w.y.length ≤ 1000000 from fun w hw => h3 w (List.mem_cons_of_mem _ hw))
  have HSL := hid (And.intro h5 h6)
  have HBX := hid (And.intro h7 h8)
  have HLN := hid (show wy.x.length ≤ 1000000 ∧ wy.y.length ≤ 1000000 from (h3 wy List.mem_cons_self).2)
  have HAB := hid (best_any t (.agg #[.slice ar t.rules.length cr,.slice ad t.drops.length cd,.slice ae t.ends.length ce,.int .i64 t.drop,.int .i64 t.order,.int .i64 t.initial]) x.script y.script (bs wy.x) (bs wy.y) A3 (HTA.out.below HI3.out.below) (HTT.out.below HI3.out.below) (by rw [bs_len]; exact HLN.out.1) (by rw [bs_len]; exact HLN.out.2))
  rw [bs_list,bs_list] at HAB
  clear h2 h3 h4 h5 h6 h7 h8 hbw hI3 hk3
  gi_wp2_with fail
  refine ⟨trivial,CallsIn.inRound l (callsIn_wide.2 ((HAB.out).mono ?_))⟩
  rintro e A4 ⟨dv,rfl,⟨dl,dr,rfl,hdl,hdr⟩,hb4⟩
  obtain ⟨⟨dd,er⟩,hr⟩ : ∃ r,r = Al.bestOf t x.script wy.x y.script wy.y := ⟨_,rfl⟩
  rw [← hr]
  simp only
  rw [← hr] at hdl hdr
  have HBO := hid hr
  have hds := Al.bestOf_small t x.script wy.x y.script wy.y
  rw [← hr] at hds
  obtain ⟨dla,dlc,rfl,-⟩ := hdl
  obtain ⟨dra,drc,rfl,-⟩ := hdr
  have HDS := hid hds
  obtain ⟨A5,hA5⟩ := exq (A4.alloc (.cells #[.int .i64 dd.cost,.slice dla dd.left.length dlc,.slice dra dd.right.length drc,.string (bs dd.form)] 101))
  have hb5 : Below A3.heap.size A3 A5 := by rw [hA5]; exact Below.step hb4 ((Below.refl _ _).alloc (Nat.le_refl _) _)
  have HD5 := hid (show Blk A5 A4.heap.size 101 [.int .i64 dd.cost,.slice dla dd.left.length dlc,.slice dra dd.right.length drc,.string (bs dd.form)] by rw [hA5]; exact Blk.new A4 _ _)
  have HK5 := hid (HK3.out.below hb5)
  have HX5 := hid (And.intro (HBX.out.1.below hb5) (HBX.out.2.below hb5))
  have HB5 := hid hb5
  have HAA := hid (show A.heap.size < A4.heap.size from Nat.lt_of_lt_of_le HK3.out.lt hb4.size)
  obtain ⟨q4,hq4⟩ := exq (A4.heap.size)
  rw [← hq4] at HD5 HAA
  clear hb4 hds hr y0 y1 y2 y3 y4 y5 yz x0 xz u0 uz w10 w11 wz hb5
  gi_upto_region 4 with (fail)
  rw [← hA5,← hq4]
  clear hA5 hq4
  by_cases he : er = 0
  ·subst he
   have wf5 := HK5.out.frozen 5
   have wf6 := HK5.out.frozen 6
   have wf7 := HK5.out.frozen 7
   have wf8 := HK5.out.frozen 8
   have wf9 := HK5.out.frozen 9
   have w5 := HK5.out.cell (j := 5) rfl
   have w6 := HK5.out.cell (j := 6) rfl
   have w7 := HK5.out.cell (j := 7) rfl
   have w8 := HK5.out.cell (j := 8) rfl
   have w9 := HK5.out.cell (j := 9) rfl
   have wz := HK5.out.lt
   obtain ⟨d0,d1,d2,d3,dz⟩ := HD5.out.cl4
   have hdw := HWO.out
   have hds := HDS.out
   have hwc : IntKind.i64.wrap (wy.cost + dd.cost) = wy.cost + dd.cost := IntWalk.i64_in _ (by have h1 := hdw.1; have h2 := hdw.2; have h3 := hds.1; have h4 := hds.2; simp only at h3 h4; omega)
   have hne4 : ¬ A.heap.size = q4 := by have := HAA.out; omega
   have hne5 : ¬ q4 = A.heap.size := by have := HAA.out; omega
   clear hdw hds
   gi_upto_region 7 with (fail)
   have kk0 : Blk (A5.setCell ⟨A.heap.size,6,none⟩ (.int .i64 dd.cost)) A.heap.size 153 [.int .i64 0,.int .i64 0,.int .i64 wy.kind,.int .i64 wy.left,.int .i64 wy.right,.int .i64 wy.cost,.int .i64 dd.cost,.slice none 0 0,.slice none 0 0,.string ⟨#[]⟩,.string (bs wy.x),.string (bs wy.y)] := (HK5.out).set 6 _
   have kk1 : Blk ((A5.setCell ⟨A.heap.size,6,none⟩ (.int .i64 dd.cost)).setCell ⟨A.heap.size,7,none⟩ (.slice dla dd.left.length dlc)) A.heap.size 153 [.int .i64 0,.int .i64 0,.int .i64 wy.kind,.int .i64 wy.left,.int .i64 wy.right,.int .i64 wy.cost,.int .i64 dd.cost,.slice dla dd.left.length dlc,.slice none 0 0,.string ⟨#[]⟩,.string (bs wy.x),.string (bs wy.y)] := (kk0).set 7 _
   have kk2 : Blk (((A5.setCell ⟨A.heap.size,6,none⟩ (.int .i64 dd.cost)).setCell ⟨A.heap.size,7,none⟩ (.slice dla dd.left.length dlc)).setCell ⟨A.heap.size,8,none⟩ (.slice dra dd.right.length drc)) A.heap.size 153 [.int .i64 0,.int .i64 0,.int .i64 wy.kind,.int .i64 wy.left,.int .i64 wy.right,.int .i64 wy.cost,.int .i64 dd.cost,.slice dla dd.left.length dlc,.slice dra dd.right.length drc,.string ⟨#[]⟩,.string (bs wy.x),.string (bs wy.y)] := (kk1).set 8 _
   have kk3 : Blk ((((A5.setCell ⟨A.heap.size,6,none⟩ (.int .i64 dd.cost)).setCell ⟨A.heap.size,7,none⟩ (.slice dla dd.left.length dlc)).setCell ⟨A.heap.size,8,none⟩ (.slice dra dd.right.length drc)).setCell ⟨A.heap.size,9,none⟩ (.string (bs dd.form))) A.heap.size 153 [.int .i64 0,.int .i64 0,.int .i64 wy.kind,.int .i64 wy.left,.int .i64 wy.right,.int .i64 wy.cost,.int .i64 dd.cost,.slice dla dd.left.length dlc,.slice dra dd.right.length drc,.string (bs dd.form),.string (bs wy.x),.string (bs wy.y)] := (kk2).set 9 _
   have kk4 : Blk (((((A5.setCell ⟨A.heap.size,6,none⟩ (.int .i64 dd.cost)).setCell ⟨A.heap.size,7,none⟩ (.slice dla dd.left.length dlc)).setCell ⟨A.heap.size,8,none⟩ (.slice dra dd.right.length drc)).setCell ⟨A.heap.size,9,none⟩ (.string (bs dd.form))).setCell ⟨A.heap.size,5,none⟩ (.int .i64 (wy.cost + dd.cost))) A.heap.size 153 [.int .i64 0,.int .i64 0,.int .i64 wy.kind,.int .i64 wy.left,.int .i64 wy.right,.int .i64 (wy.cost + dd.cost),.int .i64 dd.cost,.slice dla dd.left.length dlc,.slice dra dd.right.length drc,.string (bs dd.form),.string (bs wy.x),.string (bs wy.y)] := (kk3).set 5 _
   obtain ⟨A6,hA6⟩ := exq ((((((A5.setCell ⟨A.heap.size,6,none⟩ (.int .i64 dd.cost)).setCell ⟨A.heap.size,7,none⟩ (.slice dla dd.left.length dlc)).setCell ⟨A.heap.size,8,none⟩ (.slice dra dd.right.length drc)).setCell ⟨A.heap.size,9,none⟩ (.string (bs dd.form))).setCell ⟨A.heap.size,5,none⟩ (.int .i64 (wy.cost + dd.cost))))
   rw [← hA6] at kk4
   rw [← hA6]
   have HK6 := hid kk4
   have HT6 := hid (show Tch (fun q => q = A.heap.size) A5 A6 by
    rw [hA6]
    exact (((((Tch.refl (fun q => q = A.heap.size) A5).setCell (a := ⟨A.heap.size,6,none⟩) (.inl rfl) _).setCell (a := ⟨A.heap.size,7,none⟩) (.inl rfl) _).setCell (a := ⟨A.heap.size,8,none⟩) (.inl rfl) _).setCell (a := ⟨A.heap.size,9,none⟩) (.inl rfl) _).setCell (a := ⟨A.heap.size,5,none⟩) (.inl rfl) _)
   have HX6 := hid (And.intro (HX5.out.1.tch HT6.out (by have := HAL.out; omega)) (HX5.out.2.tch HT6.out (by have := HAL.out; omega)))
   clear kk0 kk1 kk2 kk3 kk4 hA6 wf5 wf6 wf7 wf8 wf9 w5 w6 w7 w8 w9 wz d0 d1 d2 d3 dz hwc hne4 hne5
   obtain ⟨⟨la,ln,lc,rfl⟩,⟨ra,rn,rc,rfl⟩⟩ := HSL.out
   have HNB := hid (show ∀ p,(some ⟨wy,dd⟩ : Option Mt.P) = some p → 0 ≤ p.cost ∧ p.cost ≤ 26000 from fun p h => by
    cases h
    have h1 := HWO.out.1
    have h2 := HWO.out.2
    have h3 := HDS.out.1
    have h4 := HDS.out.2
    simp only at h3 h4
    unfold Mt.P.cost
    simp only
    omega)
   obtain ⟨hp,hb⟩ := HX6.out
   cases best with
   | none =>
    have HST := hid (show Mt.step (Mt.al t) x.script y.script none wy = some ⟨wy,dd⟩ by
     unfold Mt.step Mt.al
     rw [← HBO.out]
     rfl)
    unfold prC at hp
    have hb : Blk A6 (W.heap.size + 4) 4 [.bool false] := hb
    obtain ⟨c0,c1,c2,c3,c4,c5,c6,c7,c8,c9,cz⟩ := HK6.out.cl10
    obtain ⟨p0,p1,p2,p3,p4,p5,p6,p7,p8,p9,pf0,pf1,pf2,pf3,pf4,pf5,pf6,pf7,pf8,pf9,pz⟩ := hp.cf10
    have b0 := hb.cell (j := 0) rfl
    have bf := hb.frozen 0
    have bz := hb.lt
    iterate 24 (try (first | (refine ⟨fun f hf => (by cases hf),?_⟩) | gi_wp2_with fail))
    clear c0 p0 pf0 c1 p1 pf1 c2 p2 pf2 c3 p3 pf3 c4 p4 pf4 c5 p5 pf5 c6 p6 pf6 c7 p7 pf7 c8 p8 pf8 c9 p9 pf9 cz pz b0 bf bz
    have kk0 : Blk (A6.setCell ⟨W.heap.size + 3,0,none⟩ (.int .i64 0)) (W.heap.size + 3) 103 [.int .i64 0,.int .i64 0,.int .i64 0,.int .i64 0,.int .i64 0,.int .i64 0,.int .i64 0,.slice none 0 0,.slice none 0 0,.string ⟨#[]⟩] := (hp).set 0 _
    have kk1 : Blk ((A6.setCell ⟨W.heap.size + 3,0,none⟩ (.int .i64 0)).setCell ⟨W.heap.size + 3,1,none⟩ (.int .i64 0)) (W.heap.size + 3) 103 [.int .i64 0,.int .i64 0,.int .i64 0,.int .i64 0,.int .i64 0,.int .i64 0,.int .i64 0,.slice none 0 0,.slice none 0 0,.string ⟨#[]⟩] := (kk0).set 1 _
    have kk2 : Blk (((A6.setCell ⟨W.heap.size + 3,0,none⟩ (.int .i64 0)).setCell ⟨W.heap.size + 3,1,none⟩ (.int .i64 0)).setCell ⟨W.heap.size + 3,2,none⟩ (.int .i64 wy.kind)) (W.heap.size + 3) 103 [.int .i64 0,.int .i64 0,.int .i64 wy.kind,.int .i64 0,.int .i64 0,.int .i64 0,.int .i64 0,.slice none 0 0,.slice none 0 0,.string ⟨#[]⟩] := (kk1).set 2 _
    have kk3 : Blk ((((A6.setCell ⟨W.heap.size + 3,0,none⟩ (.int .i64 0)).setCell ⟨W.heap.size + 3,1,none⟩ (.int .i64 0)).setCell ⟨W.heap.size + 3,2,none⟩ (.int .i64 wy.kind)).setCell ⟨W.heap.size + 3,3,none⟩ (.int .i64 wy.left)) (W.heap.size + 3) 103 [.int .i64 0,.int .i64 0,.int .i64 wy.kind,.int .i64 wy.left,.int .i64 0,.int .i64 0,.int .i64 0,.slice none 0 0,.slice none 0 0,.string ⟨#[]⟩] := (kk2).set 3 _
    have kk4 : Blk (((((A6.setCell ⟨W.heap.size + 3,0,none⟩ (.int .i64 0)).setCell ⟨W.heap.size + 3,1,none⟩ (.int .i64 0)).setCell ⟨W.heap.size + 3,2,none⟩ (.int .i64 wy.kind)).setCell ⟨W.heap.size + 3,3,none⟩ (.int .i64 wy.left)).setCell ⟨W.heap.size + 3,4,none⟩ (.int .i64 wy.right)) (W.heap.size + 3) 103 [.int .i64 0,.int .i64 0,.int .i64 wy.kind,.int .i64 wy.left,.int .i64 wy.right,.int .i64 0,.int .i64 0,.slice none 0 0,.slice none 0 0,.string ⟨#[]⟩] := (kk3).set 4 _
    have kk5 : Blk ((((((A6.setCell ⟨W.heap.size + 3,0,none⟩ (.int .i64 0)).setCell ⟨W.heap.size + 3,1,none⟩ (.int .i64 0)).setCell ⟨W.heap.size + 3,2,none⟩ (.int .i64 wy.kind)).setCell ⟨W.heap.size + 3,3,none⟩ (.int .i64 wy.left)).setCell ⟨W.heap.size + 3,4,none⟩ (.int .i64 wy.right)).setCell ⟨W.heap.size + 3,5,none⟩ (.int .i64 (wy.cost + dd.cost))) (W.heap.size + 3) 103 [.int .i64 0,.int .i64 0,.int .i64 wy.kind,.int .i64 wy.left,.int .i64 wy.right,.int .i64 (wy.cost + dd.cost),.int .i64 0,.slice none 0 0,.slice none 0 0,.string ⟨#[]⟩] := (kk4).set 5 _
    have kk6 : Blk (((((((A6.setCell ⟨W.heap.size + 3,0,none⟩ (.int .i64 0)).setCell ⟨W.heap.size + 3,1,none⟩ (.int .i64 0)).setCell ⟨W.heap.size + 3,2,none⟩ (.int .i64 wy.kind)).setCell ⟨W.heap.size + 3,3,none⟩ (.int .i64 wy.left)).setCell ⟨W.heap.size + 3,4,none⟩ (.int .i64 wy.right)).setCell ⟨W.heap.size + 3,5,none⟩ (.int .i64 (wy.cost + dd.cost))).setCell ⟨W.heap.size + 3,6,none⟩ (.int .i64 dd.cost)) (W.heap.size + 3) 103 [.int .i64 0,.int .i64 0,.int .i64 wy.kind,.int .i64 wy.left,.int .i64 wy.right,.int .i64 (wy.cost + dd.cost),.int .i64 dd.cost,.slice none 0 0,.slice none 0 0,.string ⟨#[]⟩] := (kk5).set 6 _
    have kk7 : Blk ((((((((A6.setCell ⟨W.heap.size + 3,0,none⟩ (.int .i64 0)).setCell ⟨W.heap.size + 3,1,none⟩ (.int .i64 0)).setCell ⟨W.heap.size + 3,2,none⟩ (.int .i64 wy.kind)).setCell ⟨W.heap.size + 3,3,none⟩ (.int .i64 wy.left)).setCell ⟨W.heap.size + 3,4,none⟩ (.int .i64 wy.right)).setCell ⟨W.heap.size + 3,5,none⟩ (.int .i64 (wy.cost + dd.cost))).setCell ⟨W.heap.size + 3,6,none⟩ (.int .i64 dd.cost)).setCell ⟨W.heap.size + 3,7,none⟩ (.slice dla dd.left.length dlc)) (W.heap.size + 3) 103 [.int .i64 0,.int .i64 0,.int .i64 wy.kind,.int .i64 wy.left,.int .i64 wy.right,.int .i64 (wy.cost + dd.cost),.int .i64 dd.cost,.slice dla dd.left.length dlc,.slice none 0 0,.string ⟨#[]⟩] := (kk6).set 7 _
    have kk8 : Blk (((((((((A6.setCell ⟨W.heap.size + 3,0,none⟩ (.int .i64 0)).setCell ⟨W.heap.size + 3,1,none⟩ (.int .i64 0)).setCell ⟨W.heap.size + 3,2,none⟩ (.int .i64 wy.kind)).setCell ⟨W.heap.size + 3,3,none⟩ (.int .i64 wy.left)).setCell ⟨W.heap.size + 3,4,none⟩ (.int .i64 wy.right)).setCell ⟨W.heap.size + 3,5,none⟩ (.int .i64 (wy.cost + dd.cost))).setCell ⟨W.heap.size + 3,6,none⟩ (.int .i64 dd.cost)).setCell ⟨W.heap.size + 3,7,none⟩ (.slice dla dd.left.length dlc)).setCell ⟨W.heap.size + 3,8,none⟩ (.slice dra dd.right.length drc)) (W.heap.size + 3) 103 [.int .i64 0,.int .i64 0,.int .i64 wy.kind,.int .i64 wy.left,.int .i64 wy.right,.int .i64 (wy.cost + dd.cost),.int .i64 dd.cost,.slice dla dd.left.length dlc,.slice dra dd.right.length drc,.string ⟨#[]⟩] := (kk7).set 8 _
    have kk9 : Blk ((((((((((A6.setCell ⟨W.heap.size + 3,0,none⟩ (.int .i64 0)).setCell ⟨W.heap.size + 3,1,none⟩ (.int .i64 0)).setCell ⟨W.heap.size + 3,2,none⟩ (.int .i64 wy.kind)).setCell ⟨W.heap.size + 3,3,none⟩ (.int .i64 wy.left)).setCell ⟨W.heap.size + 3,4,none⟩ (.int .i64 wy.right)).setCell ⟨W.heap.size + 3,5,none⟩ (.int .i64 (wy.cost + dd.cost))).setCell ⟨W.heap.size + 3,6,none⟩ (.int .i64 dd.cost)).setCell ⟨W.heap.size + 3,7,none⟩ (.slice dla dd.left.length dlc)).setCell ⟨W.heap.size + 3,8,none⟩ (.slice dra dd.right.length drc)).setCell ⟨W.heap.size + 3,9,none⟩ (.string (bs dd.form))) (W.heap.size + 3) 103 [.int .i64 0,.int .i64 0,.int .i64 wy.kind,.int .i64 wy.left,.int .i64 wy.right,.int .i64 (wy.cost + dd.cost),.int .i64 dd.cost,.slice dla dd.left.length dlc,.slice dra dd.right.length drc,.string (bs dd.form)] := (kk8).set 9 _
    have kb : Blk (((((((((((A6.setCell ⟨W.heap.size + 3,0,none⟩ (.int .i64 0)).setCell ⟨W.heap.size + 3,1,none⟩ (.int .i64 0)).setCell ⟨W.heap.size + 3,2,none⟩ (.int .i64 wy.kind)).setCell ⟨W.heap.size + 3,3,none⟩ (.int .i64 wy.left)).setCell ⟨W.heap.size + 3,4,none⟩ (.int .i64 wy.right)).setCell ⟨W.heap.size + 3,5,none⟩ (.int .i64 (wy.cost + dd.cost))).setCell ⟨W.heap.size + 3,6,none⟩ (.int .i64 dd.cost)).setCell ⟨W.heap.size + 3,7,none⟩ (.slice dla dd.left.length dlc)).setCell ⟨W.heap.size + 3,8,none⟩ (.slice dra dd.right.length drc)).setCell ⟨W.heap.size + 3,9,none⟩ (.string (bs dd.form))).setCell ⟨W.heap.size + 4,0,none⟩ (.bool true)) (W.heap.size + 4) 4 [.bool true] := (((((((((((hb.other (by omega) _).other (by omega) _).other (by omega) _).other (by omega) _).other (by omega) _).other (by omega) _).other (by omega) _).other (by omega) _).other (by omega) _).other (by omega) _)).set 0 _
    have kp : Blk (((((((((((A6.setCell ⟨W.heap.size + 3,0,none⟩ (.int .i64 0)).setCell ⟨W.heap.size + 3,1,none⟩ (.int .i64 0)).setCell ⟨W.heap.size + 3,2,none⟩ (.int .i64 wy.kind)).setCell ⟨W.heap.size + 3,3,none⟩ (.int .i64 wy.left)).setCell ⟨W.heap.size + 3,4,none⟩ (.int .i64 wy.right)).setCell ⟨W.heap.size + 3,5,none⟩ (.int .i64 (wy.cost + dd.cost))).setCell ⟨W.heap.size + 3,6,none⟩ (.int .i64 dd.cost)).setCell ⟨W.heap.size + 3,7,none⟩ (.slice dla dd.left.length dlc)).setCell ⟨W.heap.size + 3,8,none⟩ (.slice dra dd.right.length drc)).setCell ⟨W.heap.size + 3,9,none⟩ (.string (bs dd.form))).setCell ⟨W.heap.size + 4,0,none⟩ (.bool true)) (W.heap.size + 3) 103 [.int .i64 0,.int .i64 0,.int .i64 wy.kind,.int .i64 wy.left,.int .i64 wy.right,.int .i64 (wy.cost + dd.cost),.int .i64 dd.cost,.slice dla dd.left.length dlc,.slice dra dd.right.length drc,.string (bs dd.form)] := kk9.other (by omega) _
    obtain ⟨Z,hZ⟩ := exq ((((((((((((A6.setCell ⟨W.heap.size + 3,0,none⟩ (.int .i64 0)).setCell ⟨W.heap.size + 3,1,none⟩ (.int .i64 0)).setCell ⟨W.heap.size + 3,2,none⟩ (.int .i64 wy.kind)).setCell ⟨W.heap.size + 3,3,none⟩ (.int .i64 wy.left)).setCell ⟨W.heap.size + 3,4,none⟩ (.int .i64 wy.right)).setCell ⟨W.heap.size + 3,5,none⟩ (.int .i64 (wy.cost + dd.cost))).setCell ⟨W.heap.size + 3,6,none⟩ (.int .i64 dd.cost)).setCell ⟨W.heap.size + 3,7,none⟩ (.slice dla dd.left.length dlc)).setCell ⟨W.heap.size + 3,8,none⟩ (.slice dra dd.right.length drc)).setCell ⟨W.heap.size + 3,9,none⟩ (.string (bs dd.form))).setCell ⟨W.heap.size + 4,0,none⟩ (.bool true)))
    rw [← hZ] at kb kp
    rw [← hZ]
    have HTZ := hid (show Tch (fun q => q = W.heap.size + 3 ∨ q = W.heap.size + 4) A6 Z by
     rw [hZ]
     exact (((((((((((Tch.refl (fun q => q = W.heap.size + 3 ∨ q = W.heap.size + 4) A6).setCell (a := ⟨W.heap.size + 3,0,none⟩) (.inl (.inl rfl)) _).setCell (a := ⟨W.heap.size + 3,1,none⟩) (.inl (.inl rfl)) _).setCell (a := ⟨W.heap.size + 3,2,none⟩) (.inl (.inl rfl)) _).setCell (a := ⟨W.heap.size + 3,3,none⟩) (.inl (.inl rfl)) _).setCell (a := ⟨W.heap.size + 3,4,none⟩) (.inl (.inl rfl)) _).setCell (a := ⟨W.heap.size + 3,5,none⟩) (.inl (.inl rfl)) _).setCell (a := ⟨W.heap.size + 3,6,none⟩) (.inl (.inl rfl)) _).setCell (a := ⟨W.heap.size + 3,7,none⟩) (.inl (.inl rfl)) _).setCell (a := ⟨W.heap.size + 3,8,none⟩) (.inl (.inl rfl)) _).setCell (a := ⟨W.heap.size + 3,9,none⟩) (.inl (.inl rfl)) _).setCell (a := ⟨W.heap.size + 4,0,none⟩) (.inl (.inr rfl)) _)
    have HKZ := hid (And.intro kp kb)
    clear hZ kp kb kk0 kk1 kk2 kk3 kk4 kk5 kk6 kk7 kk8 kk9
    have hTZ : Tch (fun q => q = A.heap.size ∨ q = W.heap.size + 3 ∨ q = W.heap.size + 4) A3 Z := (((Tch.of_below HB5.out (fun q => q = A.heap.size ∨ q = W.heap.size + 3 ∨ q = W.heap.size + 4)).trans (HT6.out.mono (fun k h => .inl h)) (fun k h _ => h)).trans (HTZ.out.mono (O' := fun q => q = A.heap.size ∨ q = W.heap.size + 3 ∨ q = W.heap.size + 4) (fun k h => .inr h)) (fun k h _ => h))
    have hz1 := HZ1.out
    have hz4 := HZ4.out
    have hal := HAL.out
    have hway : A3.heap[A.heap.size]? = some (.cells _ 153 (0,0)) := HK3.out
    refine ⟨⟨hTZ.size,fun q o hq ho hn => ?_⟩,CK.of_tch hTZ (fun q h => by rcases h with h | h | h <;> omega) (fun q cs e fr h hq ho => ?_) (fun _ => trivial),?_⟩
    ·refine (hTZ.block q (Array.getElem?_eq_some_iff.1 ho).1 (fun h => ?_)).trans ho
     rcases h with h | h | h
     ·rw [h,hway] at ho
      cases ho
      cases hn
     ·omega
     ·omega
    ·rcases h with h | h | h
     ·rw [h,hway] at ho
      cases ho
      rfl
     ·omega
     ·omega
    ·exact ⟨⟨b',some ⟨wy,dd⟩,_,_,rfl,by rw [← HFO.out,HST.out],HWS.out,HNB.out,⟨_,_,_,rfl⟩,⟨_,_,_,rfl⟩,HKZ.out.1,HKZ.out.2⟩,HI3.out.tb.tch hTZ (by omega),HI3.out.xb.tch hTZ (by omega),HI3.out.yb.tch hTZ (by omega),HI3.out.below.trans (hTZ.below HI3.out.below.size (fun k h => by rcases h with h | h | h <;> omega))⟩
   | some p =>
    unfold prC at hp
    have hb : Blk A6 (W.heap.size + 4) 4 [.bool true] := hb
    by_cases hlt : wy.cost + dd.cost < p.cost
    ·have HST := hid (show Mt.step (Mt.al t) x.script y.script (some p) wy = some ⟨wy,dd⟩ by
      unfold Mt.step Mt.al
      rw [← HBO.out]
      show (if wy.cost + dd.cost < p.cost then some (⟨wy,dd⟩ : Mt.P) else some p) = _
      rw [if_pos hlt])
     have hdl : decide (wy.cost + dd.cost < p.cost) = true := decide_eq_true hlt
     clear hlt
     obtain ⟨c0,c1,c2,c3,c4,c5,c6,c7,c8,c9,cz⟩ := HK6.out.cl10
     obtain ⟨p0,p1,p2,p3,p4,p5,p6,p7,p8,p9,pf0,pf1,pf2,pf3,pf4,pf5,pf6,pf7,pf8,pf9,pz⟩ := hp.cf10
     have b0 := hb.cell (j := 0) rfl
     have bf := hb.frozen 0
     have bz := hb.lt
     gi_wp2_with fail
     clear c0 p0 pf0 c1 p1 pf1 c2 p2 pf2 c3 p3 pf3 c4 p4 pf4 c5 p5 pf5 c6 p6 pf6 c7 p7 pf7 c8 p8 pf8 c9 p9 pf9 cz pz b0 bf bz
     have kk0 : Blk (A6.setCell ⟨W.heap.size + 3,0,none⟩ (.int .i64 0)) (W.heap.size + 3) 103 [.int .i64 0,.int .i64 0,.int .i64 p.way.kind,.int .i64 p.way.left,.int .i64 p.way.right,.int .i64 p.cost,.int .i64 p.by_.cost,.slice la ln lc,.slice ra rn rc,.string (bs p.by_.form)] := (hp).set 0 _
     have kk1 : Blk ((A6.setCell ⟨W.heap.size + 3,0,none⟩ (.int .i64 0)).setCell ⟨W.heap.size + 3,1,none⟩ (.int .i64 0)) (W.heap.size + 3) 103 [.int .i64 0,.int .i64 0,.int .i64 p.way.kind,.int .i64 p.way.left,.int .i64 p.way.right,.int .i64 p.cost,.int .i64 p.by_.cost,.slice la ln lc,.slice ra rn rc,.string (bs p.by_.form)] := (kk0).set 1 _
     have kk2 : Blk (((A6.setCell ⟨W.heap.size + 3,0,none⟩ (.int .i64 0)).setCell ⟨W.heap.size + 3,1,none⟩ (.int .i64 0)).setCell ⟨W.heap.size + 3,2,none⟩ (.int .i64 wy.kind)) (W.heap.size + 3) 103 [.int .i64 0,.int .i64 0,.int .i64 wy.kind,.int .i64 p.way.left,.int .i64 p.way.right,.int .i64 p.cost,.int .i64 p.by_.cost,.slice la ln lc,.slice ra rn rc,.string (bs p.by_.form)] := (kk1).set 2 _
     have kk3 : Blk ((((A6.setCell ⟨W.heap.size + 3,0,none⟩ (.int .i64 0)).setCell ⟨W.heap.size + 3,1,none⟩ (.int .i64 0)).setCell ⟨W.heap.size + 3,2,none⟩ (.int .i64 wy.kind)).setCell ⟨W.heap.size + 3,3,none⟩ (.int .i64 wy.left)) (W.heap.size + 3) 103 [.int .i64 0,.int .i64 0,.int .i64 wy.kind,.int .i64 wy.left,.int .i64 p.way.right,.int .i64 p.cost,.int .i64 p.by_.cost,.slice la ln lc,.slice ra rn rc,.string (bs p.by_.form)] := (kk2).set 3 _
     have kk4 : Blk (((((A6.setCell ⟨W.heap.size + 3,0,none⟩ (.int .i64 0)).setCell ⟨W.heap.size + 3,1,none⟩ (.int .i64 0)).setCell ⟨W.heap.size + 3,2,none⟩ (.int .i64 wy.kind)).setCell ⟨W.heap.size + 3,3,none⟩ (.int .i64 wy.left)).setCell ⟨W.heap.size + 3,4,none⟩ (.int .i64 wy.right)) (W.heap.size + 3) 103 [.int .i64 0,.int .i64 0,.int .i64 wy.kind,.int .i64 wy.left,.int .i64 wy.right,.int .i64 p.cost,.int .i64 p.by_.cost,.slice la ln lc,.slice ra rn rc,.string (bs p.by_.form)] := (kk3).set 4 _
     have kk5 : Blk ((((((A6.setCell ⟨W.heap.size + 3,0,none⟩ (.int .i64 0)).setCell ⟨W.heap.size + 3,1,none⟩ (.int .i64 0)).setCell ⟨W.heap.size + 3,2,none⟩ (.int .i64 wy.kind)).setCell ⟨W.heap.size + 3,3,none⟩ (.int .i64 wy.left)).setCell ⟨W.heap.size + 3,4,none⟩ (.int .i64 wy.right)).setCell ⟨W.heap.size + 3,5,none⟩ (.int .i64 (wy.cost + dd.cost))) (W.heap.size + 3) 103 [.int .i64 0,.int .i64 0,.int .i64 wy.kind,.int .i64 wy.left,.int .i64 wy.right,.int .i64 (wy.cost + dd.cost),.int .i64 p.by_.cost,.slice la ln lc,.slice ra rn rc,.string (bs p.by_.form)] := (kk4).set 5 _
     have kk6 : Blk (((((((A6.setCell ⟨W.heap.size + 3,0,none⟩ (.int .i64 0)).setCell ⟨W.heap.size + 3,1,none⟩ (.int .i64 0)).setCell ⟨W.heap.size + 3,2,none⟩ (.int .i64 wy.kind)).setCell ⟨W.heap.size + 3,3,none⟩ (.int .i64 wy.left)).setCell ⟨W.heap.size + 3,4,none⟩ (.int .i64 wy.right)).setCell ⟨W.heap.size + 3,5,none⟩ (.int .i64 (wy.cost + dd.cost))).setCell ⟨W.heap.size + 3,6,none⟩ (.int .i64 dd.cost)) (W.heap.size + 3) 103 [.int .i64 0,.int .i64 0,.int .i64 wy.kind,.int .i64 wy.left,.int .i64 wy.right,.int .i64 (wy.cost + dd.cost),.int .i64 dd.cost,.slice la ln lc,.slice ra rn rc,.string (bs p.by_.form)] := (kk5).set 6 _
     have kk7 : Blk ((((((((A6.setCell ⟨W.heap.size + 3,0,none⟩ (.int .i64 0)).setCell ⟨W.heap.size + 3,1,none⟩ (.int .i64 0)).setCell ⟨W.heap.size + 3,2,none⟩ (.int .i64 wy.kind)).setCell ⟨W.heap.size + 3,3,none⟩ (.int .i64 wy.left)).setCell ⟨W.heap.size + 3,4,none⟩ (.int .i64 wy.right)).setCell ⟨W.heap.size + 3,5,none⟩ (.int .i64 (wy.cost + dd.cost))).setCell ⟨W.heap.size + 3,6,none⟩ (.int .i64 dd.cost)).setCell ⟨W.heap.size + 3,7,none⟩ (.slice dla dd.left.length dlc)) (W.heap.size + 3) 103 [.int .i64 0,.int .i64 0,.int .i64 wy.kind,.int .i64 wy.left,.int .i64 wy.right,.int .i64 (wy.cost + dd.cost),.int .i64 dd.cost,.slice dla dd.left.length dlc,.slice ra rn rc,.string (bs p.by_.form)] := (kk6).set 7 _
     have kk8 : Blk (((((((((A6.setCell ⟨W.heap.size + 3,0,none⟩ (.int .i64 0)).setCell ⟨W.heap.size + 3,1,none⟩ (.int .i64 0)).setCell ⟨W.heap.size + 3,2,none⟩ (.int .i64 wy.kind)).setCell ⟨W.heap.size + 3,3,none⟩ (.int .i64 wy.left)).setCell ⟨W.heap.size + 3,4,none⟩ (.int .i64 wy.right)).setCell ⟨W.heap.size + 3,5,none⟩ (.int .i64 (wy.cost + dd.cost))).setCell ⟨W.heap.size + 3,6,none⟩ (.int .i64 dd.cost)).setCell ⟨W.heap.size + 3,7,none⟩ (.slice dla dd.left.length dlc)).setCell ⟨W.heap.size + 3,8,none⟩ (.slice dra dd.right.length drc)) (W.heap.size + 3) 103 [.int .i64 0,.int .i64 0,.int .i64 wy.kind,.int .i64 wy.left,.int .i64 wy.right,.int .i64 (wy.cost + dd.cost),.int .i64 dd.cost,.slice dla dd.left.length dlc,.slice dra dd.right.length drc,.string (bs p.by_.form)] := (kk7).set 8 _
     have kk9 : Blk ((((((((((A6.setCell ⟨W.heap.size + 3,0,none⟩ (.int .i64 0)).setCell ⟨W.heap.size + 3,1,none⟩ (.int .i64 0)).setCell ⟨W.heap.size + 3,2,none⟩ (.int .i64 wy.kind)).setCell ⟨W.heap.size + 3,3,none⟩ (.int .i64 wy.left)).setCell ⟨W.heap.size + 3,4,none⟩ (.int .i64 wy.right)).setCell ⟨W.heap.size + 3,5,none⟩ (.int .i64 (wy.cost + dd.cost))).setCell ⟨W.heap.size + 3,6,none⟩ (.int .i64 dd.cost)).setCell ⟨W.heap.size + 3,7,none⟩ (.slice dla dd.left.length dlc)).setCell ⟨W.heap.size + 3,8,none⟩ (.slice dra dd.right.length drc)).setCell ⟨W.heap.size + 3,9,none⟩ (.string (bs dd.form))) (W.heap.size + 3) 103 [.int .i64 0,.int .i64 0,.int .i64 wy.kind,.int .i64 wy.left,.int .i64 wy.right,.int .i64 (wy.cost + dd.cost),.int .i64 dd.cost,.slice dla dd.left.length dlc,.slice dra dd.right.length drc,.string (bs dd.form)] := (kk8).set 9 _
     have kb : Blk (((((((((((A6.setCell ⟨W.heap.size + 3,0,none⟩ (.int .i64 0)).setCell ⟨W.heap.size + 3,1,none⟩ (.int .i64 0)).setCell ⟨W.heap.size + 3,2,none⟩ (.int .i64 wy.kind)).setCell ⟨W.heap.size + 3,3,none⟩ (.int .i64 wy.left)).setCell ⟨W.heap.size + 3,4,none⟩ (.int .i64 wy.right)).setCell ⟨W.heap.size + 3,5,none⟩ (.int .i64 (wy.cost + dd.cost))).setCell ⟨W.heap.size + 3,6,none⟩ (.int .i64 dd.cost)).setCell ⟨W.heap.size + 3,7,none⟩ (.slice dla dd.left.length dlc)).setCell ⟨W.heap.size + 3,8,none⟩ (.slice dra dd.right.length drc)).setCell ⟨W.heap.size + 3,9,none⟩ (.string (bs dd.form))).setCell ⟨W.heap.size + 4,0,none⟩ (.bool true)) (W.heap.size + 4) 4 [.bool true] := (((((((((((hb.other (by omega) _).other (by omega) _).other (by omega) _).other (by omega) _).other (by omega) _).other (by omega) _).other (by omega) _).other (by omega) _).other (by omega) _).other (by omega) _)).set 0 _
     have kp : Blk (((((((((((A6.setCell ⟨W.heap.size + 3,0,none⟩ (.int .i64 0)).setCell ⟨W.heap.size + 3,1,none⟩ (.int .i64 0)).setCell ⟨W.heap.size + 3,2,none⟩ (.int .i64 wy.kind)).setCell ⟨W.heap.size + 3,3,none⟩ (.int .i64 wy.left)).setCell ⟨W.heap.size + 3,4,none⟩ (.int .i64 wy.right)).setCell ⟨W.heap.size + 3,5,none⟩ (.int .i64 (wy.cost + dd.cost))).setCell ⟨W.heap.size + 3,6,none⟩ (.int .i64 dd.cost)).setCell ⟨W.heap.size + 3,7,none⟩ (.slice dla dd.left.length dlc)).setCell ⟨W.heap.size + 3,8,none⟩ (.slice dra dd.right.length drc)).setCell ⟨W.heap.size + 3,9,none⟩ (.string (bs dd.form))).setCell ⟨W.heap.size + 4,0,none⟩ (.bool true)) (W.heap.size + 3) 103 [.int .i64 0,.int .i64 0,.int .i64 wy.kind,.int .i64 wy.left,.int .i64 wy.right,.int .i64 (wy.cost + dd.cost),.int .i64 dd.cost,.slice dla dd.left.length dlc,.slice dra dd.right.length drc,.string (bs dd.form)] := kk9.other (by omega) _
     obtain ⟨Z,hZ⟩ := exq ((((((((((((A6.setCell ⟨W.heap.size + 3,0,none⟩ (.int .i64 0)).setCell ⟨W.heap.size + 3,1,none⟩ (.int .i64 0)).setCell ⟨W.heap.size + 3,2,none⟩ (.int .i64 wy.kind)).setCell ⟨W.heap.size + 3,3,none⟩ (.int .i64 wy.left)).setCell ⟨W.heap.size + 3,4,none⟩ (.int .i64 wy.right)).setCell ⟨W.heap.size + 3,5,none⟩ (.int .i64 (wy.cost + dd.cost))).setCell ⟨W.heap.size + 3,6,none⟩ (.int .i64 dd.cost)).setCell ⟨W.heap.size + 3,7,none⟩ (.slice dla dd.left.length dlc)).setCell ⟨W.heap.size + 3,8,none⟩ (.slice dra dd.right.length drc)).setCell ⟨W.heap.size + 3,9,none⟩ (.string (bs dd.form))).setCell ⟨W.heap.size + 4,0,none⟩ (.bool true)))
     rw [← hZ] at kb kp
     rw [← hZ]
     have HTZ := hid (show Tch (fun q => q = W.heap.size + 3 ∨ q = W.heap.size + 4) A6 Z by
      rw [hZ]
      exact (((((((((((Tch.refl (fun q => q = W.heap.size + 3 ∨ q = W.heap.size + 4) A6).setCell (a := ⟨W.heap.size + 3,0,none⟩) (.inl (.inl rfl)) _).setCell (a := ⟨W.heap.size + 3,1,none⟩) (.inl (.inl rfl)) _).setCell (a := ⟨W.heap.size + 3,2,none⟩) (.inl (.inl rfl)) _).setCell (a := ⟨W.heap.size + 3,3,none⟩) (.inl (.inl rfl)) _).setCell (a := ⟨W.heap.size + 3,4,none⟩) (.inl (.inl rfl)) _).setCell (a := ⟨W.heap.size + 3,5,none⟩) (.inl (.inl rfl)) _).setCell (a := ⟨W.heap.size + 3,6,none⟩) (.inl (.inl rfl)) _).setCell (a := ⟨W.heap.size + 3,7,none⟩) (.inl (.inl rfl)) _).setCell (a := ⟨W.heap.size + 3,8,none⟩) (.inl (.inl rfl)) _).setCell (a := ⟨W.heap.size + 3,9,none⟩) (.inl (.inl rfl)) _).setCell (a := ⟨W.heap.size + 4,0,none⟩) (.inl (.inr rfl)) _)
     have HKZ := hid (And.intro kp kb)
     clear hZ kp kb kk0 kk1 kk2 kk3 kk4 kk5 kk6 kk7 kk8 kk9
     have hTZ : Tch (fun q => q = A.heap.size ∨ q = W.heap.size + 3 ∨ q = W.heap.size + 4) A3 Z := (((Tch.of_below HB5.out (fun q => q = A.heap.size ∨ q = W.heap.size + 3 ∨ q = W.heap.size + 4)).trans (HT6.out.mono (fun k h => .inl h)) (fun k h _ => h)).trans (HTZ.out.mono (O' := fun q => q = A.heap.size ∨ q = W.heap.size + 3 ∨ q = W.heap.size + 4) (fun k h => .inr h)) (fun k h _ => h))
     have hz1 := HZ1.out
     have hz4 := HZ4.out
     have hal := HAL.out
     have hway : A3.heap[A.heap.size]? = some (.cells _ 153 (0,0)) := HK3.out
     refine ⟨⟨hTZ.size,fun q o hq ho hn => ?_⟩,CK.of_tch hTZ (fun q h => by rcases h with h | h | h <;> omega) (fun q cs e fr h hq ho => ?_) (fun _ => trivial),?_⟩
     ·refine (hTZ.block q (Array.getElem?_eq_some_iff.1 ho).1 (fun h => ?_)).trans ho
      rcases h with h | h | h
      ·rw [h,hway] at ho
       cases ho
       cases hn
      ·omega
      ·omega
     ·rcases h with h | h | h
      ·rw [h,hway] at ho
       cases ho
       rfl
      ·omega
      ·omega
     ·exact ⟨⟨b',some ⟨wy,dd⟩,_,_,rfl,by rw [← HFO.out,HST.out],HWS.out,HNB.out,⟨_,_,_,rfl⟩,⟨_,_,_,rfl⟩,HKZ.out.1,HKZ.out.2⟩,HI3.out.tb.tch hTZ (by omega),HI3.out.xb.tch hTZ (by omega),HI3.out.yb.tch hTZ (by omega),HI3.out.below.trans (hTZ.below HI3.out.below.size (fun k h => by rcases h with h | h | h <;> omega))⟩
    ·have HST := hid (show Mt.step (Mt.al t) x.script y.script (some p) wy = some p by
      unfold Mt.step Mt.al
      rw [← HBO.out]
      show (if wy.cost + dd.cost < p.cost then some (⟨wy,dd⟩ : Mt.P) else some p) = _
      rw [if_neg hlt])
     have hdl : decide (wy.cost + dd.cost < p.cost) = false := decide_eq_false hlt
     clear hlt
     obtain ⟨c0,c1,c2,c3,c4,c5,c6,c7,c8,c9,cz⟩ := HK6.out.cl10
     obtain ⟨p0,p1,p2,p3,p4,p5,p6,p7,p8,p9,pf0,pf1,pf2,pf3,pf4,pf5,pf6,pf7,pf8,pf9,pz⟩ := hp.cf10
     have b0 := hb.cell (j := 0) rfl
     have bf := hb.frozen 0
     have bz := hb.lt
     gi_wp2_with fail
     clear c0 p0 pf0 c1 p1 pf1 c2 p2 pf2 c3 p3 pf3 c4 p4 pf4 c5 p5 pf5 c6 p6 pf6 c7 p7 pf7 c8 p8 pf8 c9 p9 pf9 cz pz b0 bf bz
     obtain ⟨Z,hZ⟩ := exq (A6)
     rw [← hZ]
     have HTZ := hid (show Tch (fun q => q = W.heap.size + 3 ∨ q = W.heap.size + 4) A6 Z by rw [hZ]; exact Tch.refl _ _)
     have HKZ := hid (show Blk Z (W.heap.size + 3) 103 (prC (some p) (.slice la ln lc) (.slice ra rn rc)) ∧ Blk Z (W.heap.size + 4) 4 [.bool true] by rw [hZ]; exact ⟨hp,hb⟩)
     clear hZ
     have hTZ : Tch (fun q => q = A.heap.size ∨ q = W.heap.size + 3 ∨ q = W.heap.size + 4) A3 Z := (((Tch.of_below HB5.out (fun q => q = A.heap.size ∨ q = W.heap.size + 3 ∨ q = W.heap.size + 4)).trans (HT6.out.mono (fun k h => .inl h)) (fun k h _ => h)).trans (HTZ.out.mono (O' := fun q => q = A.heap.size ∨ q = W.heap.size + 3 ∨ q = W.heap.size + 4) (fun k h => .inr h)) (fun k h _ => h))
     have hz1 := HZ1.out
     have hz4 := HZ4.out
     have hal := HAL.out
     have hway : A3.heap[A.heap.size]? = some (.cells _ 153 (0,0)) := HK3.out
     refine ⟨⟨hTZ.size,fun q o hq ho hn => ?_⟩,CK.of_tch hTZ (fun q h => by rcases h with h | h | h <;> omega) (fun q cs e fr h hq ho => ?_) (fun _ => trivial),?_⟩
     ·refine (hTZ.block q (Array.getElem?_eq_some_iff.1 ho).1 (fun h => ?_)).trans ho
      rcases h with h | h | h
      ·rw [h,hway] at ho
       cases ho
       cases hn
      ·omega
      ·omega
     ·rcases h with h | h | h
      ·rw [h,hway] at ho
       cases ho
       rfl
      ·omega
      ·omega
     ·exact ⟨⟨b',some p,_,_,rfl,by rw [← HFO.out,HST.out],HWS.out,HBE.out,⟨_,_,_,rfl⟩,⟨_,_,_,rfl⟩,HKZ.out.1,HKZ.out.2⟩,HI3.out.tb.tch hTZ (by omega),HI3.out.xb.tch hTZ (by omega),HI3.out.yb.tch hTZ (by omega),HI3.out.below.trans (hTZ.below HI3.out.below.size (fun k h => by rcases h with h | h | h <;> omega))⟩
  ·have hne : (er != 0) = true := by simpa using he
   have HST := hid (show Mt.step (Mt.al t) x.script y.script best wy = best by
    unfold Mt.step Mt.al
    rw [← HBO.out,if_neg he])
   gi_wp2_with fail
   refine ⟨⟨HB5.out.size,fun q o hq ho hn => (HB5.out.block q (Array.getElem?_eq_some_iff.1 ho).1).trans ho⟩,⟨HB5.out.size,fun q cs e fr _ h => (HB5.out.block q (Array.getElem?_eq_some_iff.1 h).1).trans h,fun _ => trivial⟩,?_⟩
   exact ⟨⟨b',best,lv,rv,rfl,by rw [← HFO.out,HST.out],HWS.out,HBE.out,HSL.out.1,HSL.out.2,HX5.out.1,HX5.out.2⟩,HI3.out.tb.below HB5.out,HI3.out.xb.below HB5.out,HI3.out.yb.below HB5.out,Below.step HI3.out.below HB5.out⟩
end Go.Proofs.YtdghfenbfbdijaaGreatDoor
namespace Fo
theorem letters_join {k : Int} {s : List UInt8} (h : letters k s ≠ []) : (letters k s).flatten = Sc.fold s ∧ (letters k s).length ≤ 12 := by
 unfold letters at h ⊢
 cases h1 : Sc.lets k s with
 | none => rw [h1] at h; exact absurd rfl h
 | some l =>
  rw [h1] at h
  have hf := Sc.lets_fold h1
  simp only at h ⊢
  rw [hf]
  exact ⟨Sc.lets_join hf,(Sc.lets_len hf).2⟩
theorem flatten_take_le {α : Type} (L : List (List α)) (n : Nat) : (L.take n).flatten.length ≤ L.flatten.length := by
 conv => rhs; rw [← List.take_append_drop n L]
 rw [List.flatten_append,List.length_append]
 omega
theorem mem_flatten_le {α : Type} {L : List (List α)} {l : List α} (h : l ∈ L) : l.length ≤ L.flatten.length := by
 induction L with
 | nil => cases h
 | cons x L ih =>
  rw [List.flatten_cons,List.length_append]
  rcases List.mem_cons.1 h with rfl | h
  ·omega
  ·have := ih h; omega
end Fo
namespace Rw
theorem ends_word (k : Int) (L : List (List UInt8)) : ∀ (a : List Drop) (i : Nat),∀ v ∈ endsFrom k L i a,v.word.length ≤ L.flatten.length
 | [],_,v,h => by cases h
 | d :: a,i,v,h => by
  simp only [endsFrom,List.mem_append] at h
  rcases h with h | h
  ·unfold endOf at h
   split at h
   ·simp at h
    subst h
    exact Fo.flatten_take_le _ _
   ·simp at h
  ·exact ends_word k L a (i + 1) v h
end Rw
namespace Go.Proofs.YtdghfenbfbdijaaGreatDoor
open Go.RowKit Go.Lib Go.Maps
structure WordShort (u : Mt.W) : Prop where
 few : WordFew u
 vars : ∀ v ∈ u.vars,v.word.length ≤ 1000000
 lets : ∀ l ∈ u.letters,l.length ≤ 1000000
theorem word_short {t : Rw.Table} {k : Int} {s : List UInt8} {u : Mt.W} (h : Mt.wordOf t k s = some u) (ht : t.ends.length ≤ 1000000) (hs : s.length ≤ 1000000) : WordShort u := by
 obtain ⟨hv,h1,h2,h3,h4,h5⟩ := Mt.word_ok h
 rw [h2] at h3
 obtain ⟨j1,j2⟩ := Fo.letters_join h3
 have j3 : (Fo.letters k s).flatten.length ≤ 1000000 := by rw [j1,Sc.fold_length]; exact hs
 have hvars : (Rw.variants t k s).1 = ⟨(Fo.letters k s).flatten,-1,0⟩ :: Rw.endsFrom k (Fo.letters k s) 0 t.ends := by
  unfold Rw.variants
  rw [if_neg (by rintro (h | h); exact h3 h; rw [hv] at h; cases h)]
 refine ⟨⟨?_,?_,h5⟩,?_,?_⟩
 ·rw [h4,hvars,List.length_cons]
  have := Rw.endsFrom_len k (Fo.letters k s) t.ends 0
  omega
 ·rw [h2]
  exact ⟨List.length_pos_iff.2 h3,by omega⟩
 ·rw [h4,hvars]
  intro v hv
  rcases List.mem_cons.1 hv with rfl | hv
  ·exact j3
  ·exact Nat.le_trans (Rw.ends_word k _ _ _ v hv) j3
 ·rw [h2]
  exact fun l hl => Nat.le_trans (Fo.mem_flatten_le hl) j3
theorem ways_short {t : Rw.Table} {u v : Mt.W} (hu : WordShort u) (hv : WordShort v) : ∀ w ∈ Mt.ways t u v,w.x.length ≤ 1000000 ∧ w.y.length ≤ 1000000 := by
 have hl : ∀ {x : Mt.W},WordShort x → (x.letters.headD []).length ≤ 1000000 := fun {x} hx => by
  cases hl : x.letters with
  | nil => simp
  | cons a l => exact hx.lets a (by rw [hl]; exact List.mem_cons_self)
 intro w hw
 unfold Mt.ways at hw
 rw [List.mem_append,List.mem_append] at hw
 rcases hw with (hw | hw) | hw
 ·unfold Mt.waysV at hw
  rw [List.mem_flatMap] at hw
  obtain ⟨a,ha,hw⟩ := hw
  rw [List.mem_map] at hw
  obtain ⟨b,hb,rfl⟩ := hw
  exact ⟨hu.vars a ha,hv.vars b hb⟩
 ·split at hw
  ·rw [List.mem_singleton] at hw
   subst hw
   exact ⟨hl hu,hl hv⟩
  ·cases hw
 ·split at hw
  ·rw [List.mem_singleton] at hw
   subst hw
   exact ⟨hl hu,hl hv⟩
  ·cases hw
def WPairP (t : Rw.Table) (a : Int) (x : List UInt8) (b : Int) (y : List UInt8) (W : World) (e : Ending) (W' : World) : Prop :=
 Below W.heap.size W W' ∧ ∃ (p : Option Mt.P) (lv rv : Value) (er : Int),(∃ a n c,lv = .slice a n c) ∧ (∃ a n c,rv = .slice a n c) ∧ e = .returned (.tuple #[.agg (prC p lv rv).toArray,.int .i64 er]) ∧
  ((er = 0 ∧ ∃ q,p = some q ∧ Mt.pairCost t a x b y = q.cost) ∨ (er ≠ 0 ∧ p = none ∧ Mt.pairCost t a x b y = 100000))
set_option maxRecDepth 100000 in
set_option maxHeartbeats 8000000 in
theorem word16_any (t : Rw.Table) (vr vd ve : Value) (a : Int) (x : List UInt8) (b : Int) (y : List UInt8) (W : World) (ht : TableAt W t (.agg #[vr,vd,ve,.int .i64 t.drop,.int .i64 t.order,.int .i64 t.initial])) (hT : Tabs W) (hx : x.length ≤ 1000000) (hy : y.length ≤ 1000000) :
  Calls Tryz.prog 97 #[.agg #[vr,vd,ve,.int .i64 t.drop,.int .i64 t.order,.int .i64 t.initial],.int .i64 a,.string (bs x),.int .i64 b,.string (bs y)] W (WPairP t a x b y W) := by
 have HTA := hid ht
 have HTT := hid hT
 have HXY := hid (And.intro hx hy)
 have HEN := hid ht.few.2.2
 obtain ⟨⟨_,_,_,e,⟨ar,cr,rfl,-⟩,⟨ad,cd,rfl,-⟩,⟨ae,ce,rfl,-⟩⟩,-⟩ := ht
 cases e
 obtain ⟨W1,hW1⟩ := exq ((W.alloc (.cells #[.slice ar t.rules.length cr,.slice ad t.drops.length cd,.slice ae t.ends.length ce,.int .i64 t.drop,.int .i64 t.order,.int .i64 t.initial] 25)).alloc (.cells #[.int .i64 0,.int .i64 0,.int .i64 0,.int .i64 0,.int .i64 0,.int .i64 0,.int .i64 0,.slice none 0 0,.slice none 0 0,.string ⟨#[]⟩] 103))
 have hb1 : Below W.heap.size W W1 := by rw [hW1]; exact ((Below.refl _ W).alloc (Nat.le_refl _) _).alloc (by simp only [World.size_alloc]; omega) _
 have hk1 : Blk W1 W.heap.size 25 [.slice ar t.rules.length cr,.slice ad t.drops.length cd,.slice ae t.ends.length ce,.int .i64 t.drop,.int .i64 t.order,.int .i64 t.initial] := by rw [hW1]; exact (Blk.new W _ _).below ((Below.refl _ _).alloc (Nat.le_refl _) _)
 have hk2 : Blk W1 (W.heap.size + 1) 103 (prC none (.slice none 0 0) (.slice none 0 0)) := by
  rw [hW1]
  have := Blk.new (W.alloc (.cells #[.slice ar t.rules.length cr,.slice ad t.drops.length cd,.slice ae t.ends.length ce,.int .i64 t.drop,.int .i64 t.order,.int .i64 t.initial] 25)) 103 (prC none (.slice none 0 0) (.slice none 0 0))
  rwa [World.size_alloc] at this
 have HB1 := hid hb1
 have HK1 := hid hk1
 have HK2 := hid hk2
 have HWX := hid (wordOf_any t _ a x W1 (HTA.out.below hb1) (HTT.out.below hb1) hx)
 obtain ⟨y0,y1,y2,y3,y4,y5,yz⟩ := hk1.cl6
 clear hT hx hy hb1 hk1 hk2
 go_enter Tryz.func97,Tryz.ntmps97
 go_upto_region 1 with (fail)
 rw [← hW1]
 clear hW1
 go_wp2_with fail
 refine (HWX.out).mono ?_
 rintro e W2 ⟨hb2,hw⟩
 rcases hw with ⟨hn,rfl⟩ | ⟨u,uv,hu,rfl,uva,ula,rfl,hua1,hua2⟩
 ·obtain ⟨X1,hX1⟩ := exq (W2.alloc (.cells #[.int .i64 0,.slice none 0 0,.slice none 0 0] 99))
  have bX1 := bnew hX1
  have kX1 : Blk X1 W2.heap.size 99 [.int .i64 0,.slice none 0 0,.slice none 0 0] := by rw [hX1]; exact Blk.new _ _ _
  have HBX1 := hid (Below.step (Below.step HB1.out hb2) bX1)
  have HKX1 := hid ((HK1.out.below hb2).below bX1)
  have HKX2 := hid ((HK2.out.below hb2).below bX1)
  have HW1 := hid kX1
  have HWY := hid (wordOf_any t _ b y X1 (HTA.out.below HBX1.out) (HTT.out.below HBX1.out) HXY.out.2)
  clear y0 y1 y2 y3 y4 y5 yz hb2 bX1 kX1
  have k1 := HKX1.out
  have k2 := HKX2.out
  obtain ⟨y0,y1,y2,y3,y4,y5,yz⟩ := k1.cl6
  obtain ⟨r0,r1,r2,r3,r4,r5,r6,r7,r8,r9,rf0,rf1,rf2,rf3,rf4,rf5,rf6,rf7,rf8,rf9,rz⟩ := k2.cf10
  clear k1 k2
  go_upto_region 2 with (fail)
  rw [← hX1]
  clear hX1
  go_wp2_with fail
  refine (HWY.out).mono ?_
  rintro e W3 ⟨hb3,hw3⟩
  have hz2 := HW1.out.lt
  obtain ⟨q2,hq2⟩ := exq (W2.heap.size)
  rw [← hq2] at HW1 hz2 ⊢
  clear hq2
  rcases hw3 with ⟨hm,rfl⟩ | ⟨v,vv,hm,rfl,vva,vla,rfl,hva1,hva2⟩
  ·obtain ⟨X2,hX2⟩ := exq (W3.alloc (.cells #[.int .i64 0,.slice none 0 0,.slice none 0 0] 99))
   have bX2 := bnew hX2
   have kX2 : Blk X2 W3.heap.size 99 [.int .i64 0,.slice none 0 0,.slice none 0 0] := by rw [hX2]; exact Blk.new _ _ _
   have HBX2 := hid (Below.step (Below.step HBX1.out hb3) bX2)
   have HKY1 := hid ((HKX1.out.below hb3).below bX2)
   have HKY2 := hid ((HKX2.out.below hb3).below bX2)
   have HWY2 := hid kX2
   have HWX2 := hid ((HW1.out.below hb3).below bX2)
   obtain ⟨q3,hq3⟩ := exq (W3.heap.size)
   rw [← hq3] at HWY2
   clear y0 y1 y2 y3 y4 y5 yz r0 rf0 r1 rf1 r2 rf2 r3 rf3 r4 rf4 r5 rf5 r6 rf6 r7 rf7 r8 rf8 r9 rf9 rz hb3 bX2 kX2
   have k1 := HKY1.out
   have k2 := HKY2.out
   obtain ⟨y0,y1,y2,y3,y4,y5,yz⟩ := k1.cl6
   obtain ⟨r0,r1,r2,r3,r4,r5,r6,r7,r8,r9,rf0,rf1,rf2,rf3,rf4,rf5,rf6,rf7,rf8,rf9,rz⟩ := k2.cf10
   clear k1 k2
   go_upto_region 3 with (fail)
   rw [← hX2,← hq3]
   clear hX2 hq3
   go_wp2_with fail
   obtain ⟨Z,hZ⟩ := exq (((((((((((X2.setCell ⟨W.heap.size + 1,0,none⟩ (.int .i64 0)).setCell ⟨W.heap.size + 1,1,none⟩ (.int .i64 0)).setCell ⟨W.heap.size + 1,2,none⟩ (.int .i64 0)).setCell ⟨W.heap.size + 1,3,none⟩ (.int .i64 0)).setCell ⟨W.heap.size + 1,4,none⟩ (.int .i64 0)).setCell ⟨W.heap.size + 1,5,none⟩ (.int .i64 0)).setCell ⟨W.heap.size + 1,6,none⟩ (.int .i64 0)).setCell ⟨W.heap.size + 1,7,none⟩ (.slice none 0 0)).setCell ⟨W.heap.size + 1,8,none⟩ (.slice none 0 0)).setCell ⟨W.heap.size + 1,9,none⟩ (.string ⟨#[]⟩)))
   rw [← hZ]
   have hk : Blk Z (W.heap.size + 1) 103 (prC none (.slice none 0 0) (.slice none 0 0)) := by
    rw [hZ]
    exact (((((((((((HKY2.out).same (j := 0) rfl).same (j := 1) rfl).same (j := 2) rfl).same (j := 3) rfl).same (j := 4) rfl).same (j := 5) rfl).same (j := 6) rfl).same (j := 7) rfl).same (j := 8) rfl).same (j := 9) rfl)
   have hb : Below W.heap.size W Z := by
    rw [hZ]
    exact ((((((((((HBX2.out.setCell (p := ⟨W.heap.size + 1,0,none⟩) (by simp) _).setCell (p := ⟨W.heap.size + 1,1,none⟩) (by simp) _).setCell (p := ⟨W.heap.size + 1,2,none⟩) (by simp) _).setCell (p := ⟨W.heap.size + 1,3,none⟩) (by simp) _).setCell (p := ⟨W.heap.size + 1,4,none⟩) (by simp) _).setCell (p := ⟨W.heap.size + 1,5,none⟩) (by simp) _).setCell (p := ⟨W.heap.size + 1,6,none⟩) (by simp) _).setCell (p := ⟨W.heap.size + 1,7,none⟩) (by simp) _).setCell (p := ⟨W.heap.size + 1,8,none⟩) (by simp) _).setCell (p := ⟨W.heap.size + 1,9,none⟩) (by simp) _)
   refine post_cell_tmp rfl rfl (run_loadVar_row Z (W.heap.size + 1) _ 103 _ _ _ hk Tryz.underlying103 rfl (by kernel_rfl)) rfl rfl ?_
   exact ⟨hb,none,_,_,1,⟨_,_,_,rfl⟩,⟨_,_,_,rfl⟩,rfl,.inr ⟨by decide,rfl,by unfold Mt.pairCost; rw [hn]⟩⟩
  ·have HVA := hid (And.intro hva1 hva2)
   obtain ⟨vva,vvc,rfl,-⟩ := hva1
   obtain ⟨vla,vlc,rfl,-⟩ := hva2
   obtain ⟨X2,hX2⟩ := exq (W3.alloc (.cells #[.int .i64 v.script,.slice vva v.vars.length vvc,.slice vla v.letters.length vlc] 99))
   have bX2 := bnew hX2
   have kX2 : Blk X2 W3.heap.size 99 [.int .i64 v.script,.slice vva v.vars.length vvc,.slice vla v.letters.length vlc] := by rw [hX2]; exact Blk.new _ _ _
   have HBX2 := hid (Below.step (Below.step HBX1.out hb3) bX2)
   have HKY1 := hid ((HKX1.out.below hb3).below bX2)
   have HKY2 := hid ((HKX2.out.below hb3).below bX2)
   have HWY2 := hid kX2
   have HWX2 := hid ((HW1.out.below hb3).below bX2)
   obtain ⟨q3,hq3⟩ := exq (W3.heap.size)
   rw [← hq3] at HWY2
   clear y0 y1 y2 y3 y4 y5 yz r0 rf0 r1 rf1 r2 rf2 r3 rf3 r4 rf4 r5 rf5 r6 rf6 r7 rf7 r8 rf8 r9 rf9 rz hb3 bX2 kX2
   have k1 := HKY1.out
   have k2 := HKY2.out
   obtain ⟨y0,y1,y2,y3,y4,y5,yz⟩ := k1.cl6
   obtain ⟨r0,r1,r2,r3,r4,r5,r6,r7,r8,r9,rf0,rf1,rf2,rf3,rf4,rf5,rf6,rf7,rf8,rf9,rz⟩ := k2.cf10
   clear k1 k2
   go_upto_region 3 with (fail)
   rw [← hX2,← hq3]
   clear hX2 hq3
   go_wp2_with fail
   obtain ⟨Z,hZ⟩ := exq (((((((((((X2.setCell ⟨W.heap.size + 1,0,none⟩ (.int .i64 0)).setCell ⟨W.heap.size + 1,1,none⟩ (.int .i64 0)).setCell ⟨W.heap.size + 1,2,none⟩ (.int .i64 0)).setCell ⟨W.heap.size + 1,3,none⟩ (.int .i64 0)).setCell ⟨W.heap.size + 1,4,none⟩ (.int .i64 0)).setCell ⟨W.heap.size + 1,5,none⟩ (.int .i64 0)).setCell ⟨W.heap.size + 1,6,none⟩ (.int .i64 0)).setCell ⟨W.heap.size + 1,7,none⟩ (.slice none 0 0)).setCell ⟨W.heap.size + 1,8,none⟩ (.slice none 0 0)).setCell ⟨W.heap.size + 1,9,none⟩ (.string ⟨#[]⟩)))
   rw [← hZ]
   have hk : Blk Z (W.heap.size + 1) 103 (prC none (.slice none 0 0) (.slice none 0 0)) := by
    rw [hZ]
    exact (((((((((((HKY2.out).same (j := 0) rfl).same (j := 1) rfl).same (j := 2) rfl).same (j := 3) rfl).same (j := 4) rfl).same (j := 5) rfl).same (j := 6) rfl).same (j := 7) rfl).same (j := 8) rfl).same (j := 9) rfl)
   have hb : Below W.heap.size W Z := by
    rw [hZ]
    exact ((((((((((HBX2.out.setCell (p := ⟨W.heap.size + 1,0,none⟩) (by simp) _).setCell (p := ⟨W.heap.size + 1,1,none⟩) (by simp) _).setCell (p := ⟨W.heap.size + 1,2,none⟩) (by simp) _).setCell (p := ⟨W.heap.size + 1,3,none⟩) (by simp) _).setCell (p := ⟨W.heap.size + 1,4,none⟩) (by simp) _).setCell (p := ⟨W.heap.size + 1,5,none⟩) (by simp) _).setCell (p := ⟨W.heap.size + 1,6,none⟩) (by simp) _).setCell (p := ⟨W.heap.size + 1,7,none⟩) (by simp) _).setCell (p := ⟨W.heap.size + 1,8,none⟩) (by simp) _).setCell (p := ⟨W.heap.size + 1,9,none⟩) (by simp) _)
   refine post_cell_tmp rfl rfl (run_loadVar_row Z (W.heap.size + 1) _ 103 _ _ _ hk Tryz.underlying103 rfl (by kernel_rfl)) rfl rfl ?_
   exact ⟨hb,none,_,_,1,⟨_,_,_,rfl⟩,⟨_,_,_,rfl⟩,rfl,.inr ⟨by decide,rfl,by unfold Mt.pairCost; rw [hn]⟩⟩
 ·have hua : WordAt W2 u (.agg #[.int .i64 u.script,uva,ula]) := ⟨_,_,rfl,hua1,hua2⟩
  obtain ⟨uva,uvc,rfl,-⟩ := hua1
  obtain ⟨ula,ulc,rfl,-⟩ := hua2
  obtain ⟨X1,hX1⟩ := exq (W2.alloc (.cells #[.int .i64 u.script,.slice uva u.vars.length uvc,.slice ula u.letters.length ulc] 99))
  have bX1 := bnew hX1
  have kX1 : Blk X1 W2.heap.size 99 [.int .i64 u.script,.slice uva u.vars.length uvc,.slice ula u.letters.length ulc] := by rw [hX1]; exact Blk.new _ _ _
  have HBX1 := hid (Below.step (Below.step HB1.out hb2) bX1)
  have HKX1 := hid ((HK1.out.below hb2).below bX1)
  have HKX2 := hid ((HK2.out.below hb2).below bX1)
  have HW1 := hid kX1
  have HWY := hid (wordOf_any t _ b y X1 (HTA.out.below HBX1.out) (HTT.out.below HBX1.out) HXY.out.2)
  have HUA := hid (hua.below bX1)
  clear y0 y1 y2 y3 y4 y5 yz hb2 bX1 kX1
  have k1 := HKX1.out
  have k2 := HKX2.out
  obtain ⟨y0,y1,y2,y3,y4,y5,yz⟩ := k1.cl6
  obtain ⟨r0,r1,r2,r3,r4,r5,r6,r7,r8,r9,rf0,rf1,rf2,rf3,rf4,rf5,rf6,rf7,rf8,rf9,rz⟩ := k2.cf10
  clear k1 k2
  go_upto_region 2 with (fail)
  rw [← hX1]
  clear hX1
  go_wp2_with fail
  refine (HWY.out).mono ?_
  rintro e W3 ⟨hb3,hw3⟩
  have hz2 := HW1.out.lt
  obtain ⟨q2,hq2⟩ := exq (W2.heap.size)
  rw [← hq2] at HW1 hz2 ⊢
  clear hq2
  rcases hw3 with ⟨hm,rfl⟩ | ⟨v,vv,hm,rfl,vva,vla,rfl,hva1,hva2⟩
  ·obtain ⟨X2,hX2⟩ := exq (W3.alloc (.cells #[.int .i64 0,.slice none 0 0,.slice none 0 0] 99))
   have bX2 := bnew hX2
   have kX2 : Blk X2 W3.heap.size 99 [.int .i64 0,.slice none 0 0,.slice none 0 0] := by rw [hX2]; exact Blk.new _ _ _
   have HBX2 := hid (Below.step (Below.step HBX1.out hb3) bX2)
   have HKY1 := hid ((HKX1.out.below hb3).below bX2)
   have HKY2 := hid ((HKX2.out.below hb3).below bX2)
   have HWY2 := hid kX2
   have HWX2 := hid ((HW1.out.below hb3).below bX2)
   obtain ⟨q3,hq3⟩ := exq (W3.heap.size)
   rw [← hq3] at HWY2
   clear y0 y1 y2 y3 y4 y5 yz r0 rf0 r1 rf1 r2 rf2 r3 rf3 r4 rf4 r5 rf5 r6 rf6 r7 rf7 r8 rf8 r9 rf9 rz hb3 bX2 kX2
   have k1 := HKY1.out
   have k2 := HKY2.out
   obtain ⟨y0,y1,y2,y3,y4,y5,yz⟩ := k1.cl6
   obtain ⟨r0,r1,r2,r3,r4,r5,r6,r7,r8,r9,rf0,rf1,rf2,rf3,rf4,rf5,rf6,rf7,rf8,rf9,rz⟩ := k2.cf10
   clear k1 k2
   go_upto_region 3 with (fail)
   rw [← hX2,← hq3]
   clear hX2 hq3
   go_wp2_with fail
   obtain ⟨Z,hZ⟩ := exq (((((((((((X2.setCell ⟨W.heap.size + 1,0,none⟩ (.int .i64 0)).setCell ⟨W.heap.size + 1,1,none⟩ (.int .i64 0)).setCell ⟨W.heap.size + 1,2,none⟩ (.int .i64 0)).setCell ⟨W.heap.size + 1,3,none⟩ (.int .i64 0)).setCell ⟨W.heap.size + 1,4,none⟩ (.int .i64 0)).setCell ⟨W.heap.size + 1,5,none⟩ (.int .i64 0)).setCell ⟨W.heap.size + 1,6,none⟩ (.int .i64 0)).setCell ⟨W.heap.size + 1,7,none⟩ (.slice none 0 0)).setCell ⟨W.heap.size + 1,8,none⟩ (.slice none 0 0)).setCell ⟨W.heap.size + 1,9,none⟩ (.string ⟨#[]⟩)))
   rw [← hZ]
   have hk : Blk Z (W.heap.size + 1) 103 (prC none (.slice none 0 0) (.slice none 0 0)) := by
    rw [hZ]
    exact (((((((((((HKY2.out).same (j := 0) rfl).same (j := 1) rfl).same (j := 2) rfl).same (j := 3) rfl).same (j := 4) rfl).same (j := 5) rfl).same (j := 6) rfl).same (j := 7) rfl).same (j := 8) rfl).same (j := 9) rfl)
   have hb : Below W.heap.size W Z := by
    rw [hZ]
    exact ((((((((((HBX2.out.setCell (p := ⟨W.heap.size + 1,0,none⟩) (by simp) _).setCell (p := ⟨W.heap.size + 1,1,none⟩) (by simp) _).setCell (p := ⟨W.heap.size + 1,2,none⟩) (by simp) _).setCell (p := ⟨W.heap.size + 1,3,none⟩) (by simp) _).setCell (p := ⟨W.heap.size + 1,4,none⟩) (by simp) _).setCell (p := ⟨W.heap.size + 1,5,none⟩) (by simp) _).setCell (p := ⟨W.heap.size + 1,6,none⟩) (by simp) _).setCell (p := ⟨W.heap.size + 1,7,none⟩) (by simp) _).setCell (p := ⟨W.heap.size + 1,8,none⟩) (by simp) _).setCell (p := ⟨W.heap.size + 1,9,none⟩) (by simp) _)
   refine post_cell_tmp rfl rfl (run_loadVar_row Z (W.heap.size + 1) _ 103 _ _ _ hk Tryz.underlying103 rfl (by kernel_rfl)) rfl rfl ?_
   exact ⟨hb,none,_,_,1,⟨_,_,_,rfl⟩,⟨_,_,_,rfl⟩,rfl,.inr ⟨by decide,rfl,by unfold Mt.pairCost; rw [hu,hm]⟩⟩
  ·have HVA := hid (And.intro hva1 hva2)
   obtain ⟨vva,vvc,rfl,-⟩ := hva1
   obtain ⟨vla,vlc,rfl,-⟩ := hva2
   obtain ⟨X2,hX2⟩ := exq (W3.alloc (.cells #[.int .i64 v.script,.slice vva v.vars.length vvc,.slice vla v.letters.length vlc] 99))
   have bX2 := bnew hX2
   have kX2 : Blk X2 W3.heap.size 99 [.int .i64 v.script,.slice vva v.vars.length vvc,.slice vla v.letters.length vlc] := by rw [hX2]; exact Blk.new _ _ _
   have HBX2 := hid (Below.step (Below.step HBX1.out hb3) bX2)
   have HKY1 := hid ((HKX1.out.below hb3).below bX2)
   have HKY2 := hid ((HKX2.out.below hb3).below bX2)
   have HWY2 := hid kX2
   have HWX2 := hid ((HW1.out.below hb3).below bX2)
   have HUA2 := hid ((HUA.out.below hb3).below bX2)
   have HVA2 := hid (show WordAt X2 v (.agg #[.int .i64 v.script,.slice vva v.vars.length vvc,.slice vla v.letters.length vlc]) from ⟨_,_,rfl,HVA.out.1.below bX2,HVA.out.2.below bX2⟩)
   obtain ⟨q3,hq3⟩ := exq (W3.heap.size)
   rw [← hq3] at HWY2
   clear y0 y1 y2 y3 y4 y5 yz r0 rf0 r1 rf1 r2 rf2 r3 rf3 r4 rf4 r5 rf5 r6 rf6 r7 rf7 r8 rf8 r9 rf9 rz hb3 bX2 kX2
   have k1 := HKY1.out
   have k2 := HKY2.out
   obtain ⟨y0,y1,y2,y3,y4,y5,yz⟩ := k1.cl6
   obtain ⟨r0,r1,r2,r3,r4,r5,r6,r7,r8,r9,rf0,rf1,rf2,rf3,rf4,rf5,rf6,rf7,rf8,rf9,rz⟩ := k2.cf10
   clear k1 k2
   go_upto_region 3 with (fail)
   rw [← hX2,← hq3]
   clear hX2 hq3
   have hus := word_short hu HEN.out HXY.out.1
   have hvs := word_short hm HEN.out HXY.out.2
   have HCH := hid (cheapest_any t _ _ _ u v _ _ X2 (HTA.out.below HBX2.out) (HTT.out.below HBX2.out) HUA2.out HVA2.out hus.few hvs.few (Mt.ways_ok hu hm) (ways_short hus hvs))
   have HPC := hid (show Mt.pairCost t a x b y = (match Mt.cheapest (Mt.al t) t u v with | some p => p.cost | none => 100000) by unfold Mt.pairCost; rw [hu,hm]; first | done | rfl)
   obtain ⟨wx0,wx1,wx2,wxz⟩ := HWX2.out.cl3
   obtain ⟨wy0,wy1,wy2,wyz⟩ := HWY2.out.cl3
   clear hus hvs
   go_wp2_with fail
   refine (HCH.out).mono ?_
   rintro e W4 ⟨hb4,lv,rv,⟨la,ln,lc,rfl⟩,⟨ra,rn,rc,rfl⟩,rfl⟩
   obtain ⟨p,hp⟩ := exq (Mt.cheapest (Mt.al t) t u v)
   have hpc := HPC.out
   rw [← hp] at hpc ⊢
   have HPD := hid hpc
   clear hp hpc
   rcases p with _ | p
   ·dsimp only [prC,Option.isSome]
    obtain ⟨X4,hX4⟩ := exq (W4.alloc (.cells #[.int .i64 0,.int .i64 0,.int .i64 0,.int .i64 0,.int .i64 0,.int .i64 0,.int .i64 0,.slice none 0 0,.slice none 0 0,.string ⟨#[]⟩] 103))
    have bX4 := bnew hX4
    have kX4 : Blk X4 W4.heap.size 103 [.int .i64 0,.int .i64 0,.int .i64 0,.int .i64 0,.int .i64 0,.int .i64 0,.int .i64 0,.slice none 0 0,.slice none 0 0,.string ⟨#[]⟩] := by rw [hX4]; exact Blk.new _ _ _
    have HBX4 := hid (Below.step (Below.step HBX2.out hb4) bX4)
    have HKZ2 := hid ((HKY2.out.below hb4).below bX4)
    have HKN := hid kX4
    obtain ⟨q4,hq4⟩ := exq (W4.heap.size)
    rw [← hq4] at HKN
    clear hb4 bX4 kX4 y0 y1 y2 y3 y4 y5 yz r0 rf0 r1 rf1 r2 rf2 r3 rf3 r4 rf4 r5 rf5 r6 rf6 r7 rf7 r8 rf8 r9 rf9 rz wx0 wx1 wx2 wxz wy0 wy1 wy2 wyz
    have k2 := HKZ2.out
    have k3 := HKN.out
    obtain ⟨r0,r1,r2,r3,r4,r5,r6,r7,r8,r9,rf0,rf1,rf2,rf3,rf4,rf5,rf6,rf7,rf8,rf9,-⟩ := k2.cf10
    obtain ⟨n0,n1,n2,n3,n4,n5,n6,n7,n8,n9,-⟩ := k3.cl10
    have rz := k2.lt
    have nz := k3.lt
    clear k2 k3
    go_upto_region 6 with (fail)
    rw [← hX4,← hq4]
    clear hX4 hq4
    go_wp2_with fail
    obtain ⟨Z,hZ⟩ := exq (((((((((((X4.setCell ⟨W.heap.size + 1,0,none⟩ (.int .i64 0)).setCell ⟨W.heap.size + 1,1,none⟩ (.int .i64 0)).setCell ⟨W.heap.size + 1,2,none⟩ (.int .i64 0)).setCell ⟨W.heap.size + 1,3,none⟩ (.int .i64 0)).setCell ⟨W.heap.size + 1,4,none⟩ (.int .i64 0)).setCell ⟨W.heap.size + 1,5,none⟩ (.int .i64 0)).setCell ⟨W.heap.size + 1,6,none⟩ (.int .i64 0)).setCell ⟨W.heap.size + 1,7,none⟩ (.slice none 0 0)).setCell ⟨W.heap.size + 1,8,none⟩ (.slice none 0 0)).setCell ⟨W.heap.size + 1,9,none⟩ (.string ⟨#[]⟩)))
    rw [← hZ]
    have hk : Blk Z (W.heap.size + 1) 103 (prC none (.slice none 0 0) (.slice none 0 0)) := by
     rw [hZ]
     exact (((((((((((HKZ2.out).same (j := 0) rfl).same (j := 1) rfl).same (j := 2) rfl).same (j := 3) rfl).same (j := 4) rfl).same (j := 5) rfl).same (j := 6) rfl).same (j := 7) rfl).same (j := 8) rfl).same (j := 9) rfl)
    have hb : Below W.heap.size W Z := by
     rw [hZ]
     exact ((((((((((HBX4.out.setCell (p := ⟨W.heap.size + 1,0,none⟩) (by simp) _).setCell (p := ⟨W.heap.size + 1,1,none⟩) (by simp) _).setCell (p := ⟨W.heap.size + 1,2,none⟩) (by simp) _).setCell (p := ⟨W.heap.size + 1,3,none⟩) (by simp) _).setCell (p := ⟨W.heap.size + 1,4,none⟩) (by simp) _).setCell (p := ⟨W.heap.size + 1,5,none⟩) (by simp) _).setCell (p := ⟨W.heap.size + 1,6,none⟩) (by simp) _).setCell (p := ⟨W.heap.size + 1,7,none⟩) (by simp) _).setCell (p := ⟨W.heap.size + 1,8,none⟩) (by simp) _).setCell (p := ⟨W.heap.size + 1,9,none⟩) (by simp) _)
    refine post_cell_tmp rfl rfl (run_loadVar_row Z (W.heap.size + 1) _ 103 _ _ _ hk Tryz.underlying103 rfl (by kernel_rfl)) rfl rfl ?_
    exact ⟨hb,none,_,_,11,⟨_,_,_,rfl⟩,⟨_,_,_,rfl⟩,rfl,.inr ⟨by decide,rfl,HPD.out⟩⟩
   ·dsimp only [prC,Option.isSome]
    obtain ⟨X4,hX4⟩ := exq (W4.alloc (.cells #[.int .i64 0,.int .i64 0,.int .i64 p.way.kind,.int .i64 p.way.left,.int .i64 p.way.right,.int .i64 p.cost,.int .i64 p.by_.cost,.slice la ln lc,.slice ra rn rc,.string (bs p.by_.form)] 103))
    have bX4 := bnew hX4
    have kX4 : Blk X4 W4.heap.size 103 [.int .i64 0,.int .i64 0,.int .i64 p.way.kind,.int .i64 p.way.left,.int .i64 p.way.right,.int .i64 p.cost,.int .i64 p.by_.cost,.slice la ln lc,.slice ra rn rc,.string (bs p.by_.form)] := by rw [hX4]; exact Blk.new _ _ _
    have HBX4 := hid (Below.step (Below.step HBX2.out hb4) bX4)
    have HKZ2 := hid ((HKY2.out.below hb4).below bX4)
    have HKN := hid kX4
    obtain ⟨q4,hq4⟩ := exq (W4.heap.size)
    rw [← hq4] at HKN
    clear hb4 bX4 kX4 y0 y1 y2 y3 y4 y5 yz r0 rf0 r1 rf1 r2 rf2 r3 rf3 r4 rf4 r5 rf5 r6 rf6 r7 rf7 r8 rf8 r9 rf9 rz wx0 wx1 wx2 wxz wy0 wy1 wy2 wyz
    have k2 := HKZ2.out
    have k3 := HKN.out
    obtain ⟨r0,r1,r2,r3,r4,r5,r6,r7,r8,r9,rf0,rf1,rf2,rf3,rf4,rf5,rf6,rf7,rf8,rf9,-⟩ := k2.cf10
    obtain ⟨n0,n1,n2,n3,n4,n5,n6,n7,n8,n9,-⟩ := k3.cl10
    have rz := k2.lt
    have nz := k3.lt
    clear k2 k3
    go_upto_region 6 with (fail)
    rw [← hX4,← hq4]
    clear hX4 hq4
    go_wp2_with fail
    have kk0 : Blk (X4.setCell ⟨W.heap.size + 1,0,none⟩ (.int .i64 0)) (W.heap.size + 1) 103 [.int .i64 0,.int .i64 0,.int .i64 0,.int .i64 0,.int .i64 0,.int .i64 0,.int .i64 0,.slice none 0 0,.slice none 0 0,.string ⟨#[]⟩] := (HKZ2.out).set 0 _
    have kk1 : Blk ((X4.setCell ⟨W.heap.size + 1,0,none⟩ (.int .i64 0)).setCell ⟨W.heap.size + 1,1,none⟩ (.int .i64 0)) (W.heap.size + 1) 103 [.int .i64 0,.int .i64 0,.int .i64 0,.int .i64 0,.int .i64 0,.int .i64 0,.int .i64 0,.slice none 0 0,.slice none 0 0,.string ⟨#[]⟩] := (kk0).set 1 _
    have kk2 : Blk (((X4.setCell ⟨W.heap.size + 1,0,none⟩ (.int .i64 0)).setCell ⟨W.heap.size + 1,1,none⟩ (.int .i64 0)).setCell ⟨W.heap.size + 1,2,none⟩ (.int .i64 p.way.kind)) (W.heap.size + 1) 103 [.int .i64 0,.int .i64 0,.int .i64 p.way.kind,.int .i64 0,.int .i64 0,.int .i64 0,.int .i64 0,.slice none 0 0,.slice none 0 0,.string ⟨#[]⟩] := (kk1).set 2 _
    have kk3 : Blk ((((X4.setCell ⟨W.heap.size + 1,0,none⟩ (.int .i64 0)).setCell ⟨W.heap.size + 1,1,none⟩ (.int .i64 0)).setCell ⟨W.heap.size + 1,2,none⟩ (.int .i64 p.way.kind)).setCell ⟨W.heap.size + 1,3,none⟩ (.int .i64 p.way.left)) (W.heap.size + 1) 103 [.int .i64 0,.int .i64 0,.int .i64 p.way.kind,.int .i64 p.way.left,.int .i64 0,.int .i64 0,.int .i64 0,.slice none 0 0,.slice none 0 0,.string ⟨#[]⟩] := (kk2).set 3 _
    have kk4 : Blk (((((X4.setCell ⟨W.heap.size + 1,0,none⟩ (.int .i64 0)).setCell ⟨W.heap.size + 1,1,none⟩ (.int .i64 0)).setCell ⟨W.heap.size + 1,2,none⟩ (.int .i64 p.way.kind)).setCell ⟨W.heap.size + 1,3,none⟩ (.int .i64 p.way.left)).setCell ⟨W.heap.size + 1,4,none⟩ (.int .i64 p.way.right)) (W.heap.size + 1) 103 [.int .i64 0,.int .i64 0,.int .i64 p.way.kind,.int .i64 p.way.left,.int .i64 p.way.right,.int .i64 0,.int .i64 0,.slice none 0 0,.slice none 0 0,.string ⟨#[]⟩] := (kk3).set 4 _
    have kk5 : Blk ((((((X4.setCell ⟨W.heap.size + 1,0,none⟩ (.int .i64 0)).setCell ⟨W.heap.size + 1,1,none⟩ (.int .i64 0)).setCell ⟨W.heap.size + 1,2,none⟩ (.int .i64 p.way.kind)).setCell ⟨W.heap.size + 1,3,none⟩ (.int .i64 p.way.left)).setCell ⟨W.heap.size + 1,4,none⟩ (.int .i64 p.way.right)).setCell ⟨W.heap.size + 1,5,none⟩ (.int .i64 p.cost)) (W.heap.size + 1) 103 [.int .i64 0,.int .i64 0,.int .i64 p.way.kind,.int .i64 p.way.left,.int .i64 p.way.right,.int .i64 p.cost,.int .i64 0,.slice none 0 0,.slice none 0 0,.string ⟨#[]⟩] := (kk4).set 5 _
    have kk6 : Blk (((((((X4.setCell ⟨W.heap.size + 1,0,none⟩ (.int .i64 0)).setCell ⟨W.heap.size + 1,1,none⟩ (.int .i64 0)).setCell ⟨W.heap.size + 1,2,none⟩ (.int .i64 p.way.kind)).setCell ⟨W.heap.size + 1,3,none⟩ (.int .i64 p.way.left)).setCell ⟨W.heap.size + 1,4,none⟩ (.int .i64 p.way.right)).setCell ⟨W.heap.size + 1,5,none⟩ (.int .i64 p.cost)).setCell ⟨W.heap.size + 1,6,none⟩ (.int .i64 p.by_.cost)) (W.heap.size + 1) 103 [.int .i64 0,.int .i64 0,.int .i64 p.way.kind,.int .i64 p.way.left,.int .i64 p.way.right,.int .i64 p.cost,.int .i64 p.by_.cost,.slice none 0 0,.slice none 0 0,.string ⟨#[]⟩] := (kk5).set 6 _
    have kk7 : Blk ((((((((X4.setCell ⟨W.heap.size + 1,0,none⟩ (.int .i64 0)).setCell ⟨W.heap.size + 1,1,none⟩ (.int .i64 0)).setCell ⟨W.heap.size + 1,2,none⟩ (.int .i64 p.way.kind)).setCell ⟨W.heap.size + 1,3,none⟩ (.int .i64 p.way.left)).setCell ⟨W.heap.size + 1,4,none⟩ (.int .i64 p.way.right)).setCell ⟨W.heap.size + 1,5,none⟩ (.int .i64 p.cost)).setCell ⟨W.heap.size + 1,6,none⟩ (.int .i64 p.by_.cost)).setCell ⟨W.heap.size + 1,7,none⟩ (.slice la ln lc)) (W.heap.size + 1) 103 [.int .i64 0,.int .i64 0,.int .i64 p.way.kind,.int .i64 p.way.left,.int .i64 p.way.right,.int .i64 p.cost,.int .i64 p.by_.cost,.slice la ln lc,.slice none 0 0,.string ⟨#[]⟩] := (kk6).set 7 _
    have kk8 : Blk (((((((((X4.setCell ⟨W.heap.size + 1,0,none⟩ (.int .i64 0)).setCell ⟨W.heap.size + 1,1,none⟩ (.int .i64 0)).setCell ⟨W.heap.size + 1,2,none⟩ (.int .i64 p.way.kind)).setCell ⟨W.heap.size + 1,3,none⟩ (.int .i64 p.way.left)).setCell ⟨W.heap.size + 1,4,none⟩ (.int .i64 p.way.right)).setCell ⟨W.heap.size + 1,5,none⟩ (.int .i64 p.cost)).setCell ⟨W.heap.size + 1,6,none⟩ (.int .i64 p.by_.cost)).setCell ⟨W.heap.size + 1,7,none⟩ (.slice la ln lc)).setCell ⟨W.heap.size + 1,8,none⟩ (.slice ra rn rc)) (W.heap.size + 1) 103 [.int .i64 0,.int .i64 0,.int .i64 p.way.kind,.int .i64 p.way.left,.int .i64 p.way.right,.int .i64 p.cost,.int .i64 p.by_.cost,.slice la ln lc,.slice ra rn rc,.string ⟨#[]⟩] := (kk7).set 8 _
    have kk9 : Blk ((((((((((X4.setCell ⟨W.heap.size + 1,0,none⟩ (.int .i64 0)).setCell ⟨W.heap.size + 1,1,none⟩ (.int .i64 0)).setCell ⟨W.heap.size + 1,2,none⟩ (.int .i64 p.way.kind)).setCell ⟨W.heap.size + 1,3,none⟩ (.int .i64 p.way.left)).setCell ⟨W.heap.size + 1,4,none⟩ (.int .i64 p.way.right)).setCell ⟨W.heap.size + 1,5,none⟩ (.int .i64 p.cost)).setCell ⟨W.heap.size + 1,6,none⟩ (.int .i64 p.by_.cost)).setCell ⟨W.heap.size + 1,7,none⟩ (.slice la ln lc)).setCell ⟨W.heap.size + 1,8,none⟩ (.slice ra rn rc)).setCell ⟨W.heap.size + 1,9,none⟩ (.string (bs p.by_.form))) (W.heap.size + 1) 103 [.int .i64 0,.int .i64 0,.int .i64 p.way.kind,.int .i64 p.way.left,.int .i64 p.way.right,.int .i64 p.cost,.int .i64 p.by_.cost,.slice la ln lc,.slice ra rn rc,.string (bs p.by_.form)] := (kk8).set 9 _
    obtain ⟨Z,hZ⟩ := exq (((((((((((X4.setCell ⟨W.heap.size + 1,0,none⟩ (.int .i64 0)).setCell ⟨W.heap.size + 1,1,none⟩ (.int .i64 0)).setCell ⟨W.heap.size + 1,2,none⟩ (.int .i64 p.way.kind)).setCell ⟨W.heap.size + 1,3,none⟩ (.int .i64 p.way.left)).setCell ⟨W.heap.size + 1,4,none⟩ (.int .i64 p.way.right)).setCell ⟨W.heap.size + 1,5,none⟩ (.int .i64 p.cost)).setCell ⟨W.heap.size + 1,6,none⟩ (.int .i64 p.by_.cost)).setCell ⟨W.heap.size + 1,7,none⟩ (.slice la ln lc)).setCell ⟨W.heap.size + 1,8,none⟩ (.slice ra rn rc)).setCell ⟨W.heap.size + 1,9,none⟩ (.string (bs p.by_.form))))
    rw [← hZ] at kk9 ⊢
    have hb : Below W.heap.size W Z := by
     rw [hZ]
     exact ((((((((((HBX4.out.setCell (p := ⟨W.heap.size + 1,0,none⟩) (by simp) _).setCell (p := ⟨W.heap.size + 1,1,none⟩) (by simp) _).setCell (p := ⟨W.heap.size + 1,2,none⟩) (by simp) _).setCell (p := ⟨W.heap.size + 1,3,none⟩) (by simp) _).setCell (p := ⟨W.heap.size + 1,4,none⟩) (by simp) _).setCell (p := ⟨W.heap.size + 1,5,none⟩) (by simp) _).setCell (p := ⟨W.heap.size + 1,6,none⟩) (by simp) _).setCell (p := ⟨W.heap.size + 1,7,none⟩) (by simp) _).setCell (p := ⟨W.heap.size + 1,8,none⟩) (by simp) _).setCell (p := ⟨W.heap.size + 1,9,none⟩) (by simp) _)
    have hk : Blk Z (W.heap.size + 1) 103 (prC (some p) (.slice la ln lc) (.slice ra rn rc)) := kk9
    refine post_cell_tmp rfl rfl (run_loadVar_row Z (W.heap.size + 1) _ 103 _ _ _ hk Tryz.underlying103 rfl (by kernel_rfl)) rfl rfl ?_
    exact ⟨hb,some p,_,_,0,⟨_,_,_,rfl⟩,⟨_,_,_,rfl⟩,rfl,.inl ⟨rfl,p,rfl,HPD.out⟩⟩
end Go.Proofs.YtdghfenbfbdijaaGreatDoor
