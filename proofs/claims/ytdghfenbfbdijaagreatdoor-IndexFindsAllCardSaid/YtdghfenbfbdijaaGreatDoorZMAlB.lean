/-
 Several texts in one: ZAl8, ZAl9, ZAl10, ZAl11, ZAl12. Conditions: as each law says.
-/
import Derived.Test.YtdghfenbfbdijaaGreatDoorZMAlA
import Derived.Test.YtdghfenbfbdijaaGreatDoorZMBase
import Derived.Outline
namespace Go.Proofs.YtdghfenbfbdijaaGreatDoor
open Go.RowKit Go.Lib Go.Maps
attribute [local go_sem] Oper.semAt_some
def DerAt (W : World) (d : Al.D) (v : List Value) : Prop :=
 ∃ lv rv,v = [.int .i64 d.cost,lv,rv,.string (bs d.form)] ∧ SlOf W lv 1 (fun i : Int => [.int .i64 i]) d.left ∧ SlOf W rv 1 (fun i : Int => [.int .i64 i]) d.right
def Al.bestOf (t : Rw.Table) (a : Int) (x : List UInt8) (b : Int) (y : List UInt8) : Al.D × Int :=
 if Al.openB t a x b y then
  match Al.side t.rules a x,Al.side t.rules b y with
  | some S1,some S2 => Al.best ⟨S1,S2⟩
  | _,_ => (⟨0,[],[],[]⟩,1)
 else (⟨0,[],[],[]⟩,1)
def BestPost (r : Al.D × Int) (W : World) (e : Ending) (W' : World) : Prop :=
 ∃ v,e = .returned (.tuple #[.agg v.toArray,.int .i64 r.2]) ∧ DerAt W' r.1 v ∧ Below W.heap.size W W'
theorem bodyM_ret {F : Fence} {n : Nat} {P : Program} {fn : Func} {R : Ending → World → Prop} {tmps : Array Value} {w : World} {v : Value} (hr : (results fn tmps).run P w = .ok v w) (hR : R (.returned v) w) :
  bodyPostM F n P fn R .ret { tmps := tmps,defers := [] } w := ⟨v,hr,hR⟩
theorem run_cell_tmp {P : Program} {fn : Func} {tmps : Array Value} {w : World} {p u : Tmp} {ty : TypeId} (h : fn.results = #[.cell p ty,.tmp u])
  {v x : Value} {ad : Addr} (hp : tmps.getD p undef = .pointer (some ad)) (hl : (loadVar ty ad).run P w = .ok v w) (hu : tmps.getD u undef = x) : (results fn tmps).run P w = .ok (.tuple #[v,x]) w := by
 rw [results_cell_tmp h,hp,hu]
 have e : (asAddr (.pointer (some ad))).run P w = .ok ad w := rfl
 rw [e]
 simp only [Result.andThen]
 rw [hl]
theorem info_int : (Tryz.prog.info? 3).map (fun i => (i.zero,i.size,i.bytes)) = some (some (.int .i64 0),1,8) := by kernel_rfl
def intsV (l : List Al.R) : List Value := l.map fun r => .int .i64 r.index
structure BestW (w : Al.Ws) (Wk : World) (K : List Al.St) (Bs N k : Nat) (Ds : List Nat) (s : Al.St) (q : List (Bool × Al.R)) (A : World) : Prop where
 st : A.heap[Bs]? = some (.cells (stC s).toArray 207 (0,0))
 d : ∃ lv rv,A.heap[Bs + 1]? = some (.cells #[.int .i64 (Al.cost w Al.zero),lv,rv,.string (bs (Al.form (Al.lefts q)))] 101 (0,0)) ∧
  A.ownsRow (Bs + 2) 3 1 lv (Al.lefts q).length (intsV (Al.lefts q)) ∧ A.ownsRow (Bs + 2) 3 1 rv (Al.rights q).length (intsV (Al.rights q)) ∧
  (∀ x,lv.ownBlock = some x → rv.ownBlock ≠ some x)
 path : Al.path w N Al.zero = q ++ Al.path w k s
 meas : Al.meas w s < k
 len : q.length + k ≤ N
 flen : (Al.form (Al.lefts q)).length ≤ 1000 * q.length
 ok : Al.Ok w s
 inK : s ∈ K
 cheap : Al.cost w s < Al.endless
 below : Below Bs Wk A
 once : Ds.Nodup
 marks : ∀ D ∈ Ds,Bs + 2 ≤ D ∧ A.heap[D]? = some (.deferred (some []))
theorem BestW.grown {w : Al.Ws} {Wk : World} {K : List Al.St} {Bs N k : Nat} {Ds : List Nat} {s : Al.St} {q : List (Bool × Al.R)} {A A' : World} {row : Option Nat} (h : BestW w Wk K Bs N k Ds s q A) (hg : A.grownBy A' row)
  (hr : ∀ r,row = some r → Bs + 2 ≤ r ∧ r ∉ Ds ∧ ∃ o : Obj,A.heap[r]? = some o ∧ o.isCells = false) : BestW w Wk K Bs N k Ds s q A' := by
 have far : ∀ (x : Nat) (o : Obj),A.heap[x]? = some o → o.isCells = true → A'.heap[x]? = some o := fun x o ho hc =>
  (hg.block x (Array.getElem?_eq_some_iff.1 ho).1 (fun e => by
   obtain ⟨_,_,o',h1,h2⟩ := hr x e.symm
   rw [ho] at h1; cases h1; rw [hc] at h2; cases h2)).trans ho
 have own : ∀ {v : Value} {n : Nat} {xs : List Value},A.ownsRow (Bs + 2) 3 1 v n xs → A'.ownsRow (Bs + 2) 3 1 v n xs := fun ho => by
  refine ho.kept hg ?_
  cases hv : Value.ownBlock _ with
  | none => exact .inl rfl
  | some x =>
   refine .inr (fun e => ?_)
   obtain ⟨_,cs,h3⟩ := own_cells ho hv
   obtain ⟨_,_,o',h1,h2⟩ := hr x e.symm
   rw [h3] at h1; cases h1; cases h2
 obtain ⟨lv,rv,d1,d2,d3,d4⟩ := h.d
 refine ⟨far _ _ h.st rfl,⟨lv,rv,far _ _ d1 rfl,own d2,own d3,d4⟩,h.path,h.meas,h.len,h.flen,h.ok,h.inK,h.cheap,?_,h.once,fun D hD => ?_⟩
 ·refine h.below.grown hg ?_ (fun r e => by have := (hr r e).1; omega)
  have := (Array.getElem?_eq_some_iff.1 h.st).1; omega
 ·obtain ⟨m1,m2⟩ := h.marks D hD
  refine ⟨m1,(hg.block D (Array.getElem?_eq_some_iff.1 m2).1 (fun e => ?_)).trans m2⟩
  exact (hr D e.symm).2.1 hD
structure BestI (w : Al.Ws) (Wk : World) (K : List Al.St) (Bs N k : Nat) (Ds : List Nat) (s : Al.St) (q : List (Bool × Al.R)) (fl fr : List (Al.R × Value)) (b : List (Al.R × Value)) (A : World) : Prop where
 base : BestW w Wk K Bs N k Ds s q A
 pick : Al.pick w s = (mvs w s b).find? (fun p => p.1.cost + Al.cost w p.2 == Al.cost w s)
 all : ∀ p ∈ mvs w s b,p ∈ Al.moves w s
 sub : ∀ p ∈ b,p ∈ theRules w s fl fr
theorem bestI_stays (w : Al.Ws) (Wk : World) (K : List Al.St) (Bs N k : Nat) (Ds : List Nat) (s : Al.St) (q : List (Bool × Al.R)) (fl fr : List (Al.R × Value)) (B : Nat) (hB : Bs + 2 ≤ B) (hD : ∀ D ∈ Ds,D < B) :
  Stays B none (BestI w Wk K Bs N k Ds s q fl fr) := by
 rintro b A A' row ⟨h1,h2,h3,h4⟩ hg hr
 refine ⟨h1.grown hg (fun r e => ?_),h2,h3,h4⟩
 rcases hr r e with h | ⟨h5,h6⟩
 ·cases h
 ·exact ⟨by omega,fun hm => by have := hD r hm; omega,h6⟩
def BestX (w : Al.Ws) (Wk : World) (K : List Al.St) (Bs N k : Nat) (Ds : List Nat) (c : Code) (_b : List (Al.R × Value)) (A : World) : Prop :=
 c = .exit 2 ∧ ∃ k' s' q',k' < k ∧ BestW w Wk K Bs N k' Ds s' q' A
theorem bestX_stays (w : Al.Ws) (Wk : World) (K : List Al.St) (Bs N k : Nat) (Ds : List Nat) (c : Code) (B : Nat) (hB : Bs + 2 ≤ B) (hD : ∀ D ∈ Ds,D < B) :
  Stays B none (BestX w Wk K Bs N k Ds c) := by
 rintro b A A' row ⟨hc,k',s',q',hk,h1⟩ hg hr
 refine ⟨hc,k',s',q',hk,h1.grown hg (fun r e => ?_)⟩
 rcases hr r e with h | ⟨h5,h6⟩
 ·cases h
 ·exact ⟨by omega,fun hm => by have := hD r hm; omega,h6⟩
theorem ButThese.row {Ds : List Nat} {W W' : World} {B : Nat} {e : TypeId} {z : Nat} {v : Value} {n : Nat} {xs : List Value} (h : ButThese Ds W W') (ho : W.ownsRow B e z v n xs) (hd : ∀ D ∈ Ds,W.heap[D]? = some (.deferred (some []))) : W'.ownsRow B e z v n xs := by
 refine ⟨ho.1,?_⟩
 rcases ho.2 with h2 | ⟨g,cap,cur,hv,hg,hh,r⟩
 ·exact .inl h2
 ·refine .inr ⟨g,cap,cur,hv,hg,(h.block g (fun hm => ?_)).trans hh,r⟩
  rw [hd g hm] at hh; cases hh
theorem intsV_flat (l : List Al.R) : intsV l = (Al.ints l).flatMap (fun i : Int => [.int .i64 i]) := by
 unfold intsV Al.ints
 induction l with
 | nil => rfl
 | cons x l ih => rw [List.map_cons,List.map_cons,List.flatMap_cons,ih]; rfl
theorem slOf_ints {W : World} {B : Nat} {v : Value} {l : List Al.R} (h : W.ownsRow B 3 1 v l.length (intsV l)) : SlOf W v 1 (fun i : Int => [.int .i64 i]) (Al.ints l) := by
 rw [intsV_flat] at h
 have e : l.length = (Al.ints l).length := by unfold Al.ints; rw [List.length_map]
 rw [e] at h
 exact SlOf.own h (fun x _ => rfl)
def OnlyDrawn (A : World) (_ : Array Bool) (X : World) : Prop := ∃ n,X = A.drewN n
theorem AtS.drawn {md : Region.Mode} {ops : Array Oper} {A X : World} {i : Nat} (h : AtS md ops (OnlyDrawn A) i X) : ∃ n,X = A.drewN n := by
 obtain ⟨_,_,_,h⟩ := h
 exact h
set_option maxRecDepth 100000 in
set_option maxHeartbeats 20000000 in
theorem best_any (t : Rw.Table) (tv : Value) (a b : Int) (x y : ByteArray) (W : World) (ht : TableAt W t tv) (hT : Tabs W) (hx : x.size ≤ 1000000) (hy : y.size ≤ 1000000) :
  Calls Tryz.prog 75 #[tv,.int .i64 a,.string x,.int .i64 b,.string y] W (BestPost (Al.bestOf t a x.data.toList b y.data.toList) W) := by
 have HT := hid ht
 have HTT := hid hT
 obtain ⟨⟨vr,vd,ve,rfl,⟨ar,cr,rfl,-⟩,⟨ad,cd,rfl,-⟩,⟨ae,ce,rfl,-⟩⟩,-,-,-,-,-,-⟩ := ht
 clear hT
 obtain ⟨W1,hW1⟩ := exq ((W.alloc (.cells #[.slice ar t.rules.length cr,.slice ad t.drops.length cd,.slice ae t.ends.length ce,.int .i64 t.drop,.int .i64 t.order,.int .i64 t.initial] 25)).alloc (.cells #[.int .i64 0,.slice none 0 0,.slice none 0 0,.string ⟨#[]⟩] 101))
 have hb1 : Below W.heap.size W W1 := by rw [hW1]; exact ((Below.refl _ W).alloc (Nat.le_refl _) _).alloc (by simp) _
 have hr1 : W1.heap[W.heap.size + 1]? = some (.cells #[.int .i64 0,.slice none 0 0,.slice none 0 0,.string ⟨#[]⟩] 101 (0,0)) := by
  rw [hW1]
  have := World.alloc_heap_new (W.alloc (.cells #[.slice ar t.rules.length cr,.slice ad t.drops.length cd,.slice ae t.ends.length ce,.int .i64 t.drop,.int .i64 t.order,.int .i64 t.initial] 25)) (.cells #[.int .i64 0,.slice none 0 0,.slice none 0 0,.string ⟨#[]⟩] 101)
  rwa [World.size_alloc] at this
 have HS1 := hid (open_any t _ a b x y W1 (HT.out.below hb1) (HTT.out.below hb1) hx hy)
 have H1 := hid (And.intro hb1 hr1)
 clear hb1 hr1
 have hmode : 0 = 0 := rfl
 clear hmode
 refine (callsIn_wide (n := 9)).1 ?_
 refine callsIn_of_wp_marks Tryz.func75 rfl trivial ?_ rfl
 simp only [Tryz.ntmps75,List.size_toArray,List.length_cons,List.length_nil,Nat.reduceAdd,Nat.reduceSub,Array.replicate_succ,Array.replicate_zero,List.push_toArray,List.append_toArray,List.nil_append,List.cons_append]
 refine wpIn_wide.2 ?_
 go_wp2_with fail
 rw [← hW1]
 clear hW1
 refine (HS1.out).mono ?_
 rintro e W2 ⟨hb2,a1,n1,c1,a2,n2,c2,a3,n3,c3,a4,n4,c4,rfl,hWA⟩
 obtain ⟨hb1,hr1⟩ := H1.out
 obtain ⟨W3,hW3⟩ := exq (W2.alloc (.cells #[.slice a1 n1 c1,.slice a2 n2 c2,.slice a3 n3 c3,.slice a4 n4 c4] 201))
 have hb3 := bnew hW3
 have hs3 : W3.heap[W2.heap.size]? = some (.cells #[.slice a1 n1 c1,.slice a2 n2 c2,.slice a3 n3 c3,.slice a4 n4 c4] 201 (0,0)) := by rw [hW3]; exact World.alloc_heap_new W2 _
 have b13 := Below.step hb2 hb3
 have hr3 := (b13.block _ (Array.getElem?_eq_some_iff.1 hr1).1).trans hr1
 have hbW3 := hb1.trans (b13.mono hb1.size)
 cases ho : Al.openB t a x.data.toList b y.data.toList with
 | false =>
  have hno := hid (show Al.bestOf t a x.data.toList b y.data.toList = (⟨0,[],[],[]⟩,1) by unfold Al.bestOf; rw [ho]; rfl)
  have hr2 := (hb2.block _ (Array.getElem?_eq_some_iff.1 hr1).1).trans hr1
  have r0 : W2.cell? ⟨W.heap.size + 1,0,none⟩ = some (.int .i64 0) := by simp [World.cell?,hr2]
  have r1 : W2.cell? ⟨W.heap.size + 1,1,none⟩ = some (.slice none 0 0) := by simp [World.cell?,hr2]
  have r2 : W2.cell? ⟨W.heap.size + 1,2,none⟩ = some (.slice none 0 0) := by simp [World.cell?,hr2]
  have r3 : W2.cell? ⟨W.heap.size + 1,3,none⟩ = some (.string ⟨#[]⟩) := by simp [World.cell?,hr2]
  have q0 : W2.frozen? ⟨W.heap.size + 1,0,none⟩ = false := by simp [World.frozen?,hr2]
  have q1 : W2.frozen? ⟨W.heap.size + 1,1,none⟩ = false := by simp [World.frozen?,hr2]
  have q2 : W2.frozen? ⟨W.heap.size + 1,2,none⟩ = false := by simp [World.frozen?,hr2]
  have q3 : W2.frozen? ⟨W.heap.size + 1,3,none⟩ = false := by simp [World.frozen?,hr2]
  have z2 : W.heap.size + 1 < W2.heap.size := (Array.getElem?_eq_some_iff.1 hr2).1
  have R3 := hid (hb1.trans (hb2.mono hb1.size))
  clear hb3 hs3 b13 hr3 hr2 hbW3 hb1 hr1 hb2 hWA ho hW3 W3
  go_wp2_with fail
  refine (bodyM_ret (v := .tuple #[.agg #[.int .i64 0,.slice none 0 0,.slice none 0 0,.string ⟨#[]⟩],.int .i64 1]) ?_ ?_)
  ·refine run_cell_tmp (v := .agg #[.int .i64 0,.slice none 0 0,.slice none 0 0,.string ⟨#[]⟩]) rfl rfl ?_ rfl
   go_simp
  ·rw [hno.out]
   refine ⟨_,rfl,⟨_,_,rfl,SlOf.nil _ _ _,SlOf.nil _ _ _⟩,?_⟩
   have hx := R3.out.size
   exact ((((R3.out.setCell (p := ⟨W.heap.size + 1,0,none⟩) (by simp) _).setCell (p := ⟨W.heap.size + 1,1,none⟩) (by simp) _).setCell (p := ⟨W.heap.size + 1,2,none⟩) (by simp) _).setCell (p := ⟨W.heap.size + 1,3,none⟩) (by simp) _).alloc (by simp [World.setCell]; omega) _
 | true =>
  obtain ⟨S1,S2,h1,h2,hv⟩ : ∃ S1 S2,Al.side t.rules a x.data.toList = some S1 ∧ Al.side t.rules b y.data.toList = some S2 ∧ Rw.valid t = true := by
   unfold Al.openB at ho
   simp only [Bool.and_eq_true] at ho
   obtain ⟨⟨u,v⟩,z⟩ := ho
   obtain ⟨S1,e1⟩ := Option.isSome_iff_exists.1 u
   obtain ⟨S2,e2⟩ := Option.isSome_iff_exists.1 v
   exact ⟨S1,S2,e1,e2,z⟩
  obtain ⟨fl,fr,hwa⟩ := hWA S1 S2 h1 h2
  obtain ⟨w,hw⟩ : ∃ w : Al.Ws,w = ⟨S1,S2⟩ := ⟨_,rfl⟩
  rw [← hw] at hwa
  have hf : Few w := by rw [hw]; exact few_valid hv h1 h2
  have hno := hid (show Al.bestOf t a x.data.toList b y.data.toList = Al.best w by unfold Al.bestOf; rw [ho,if_pos rfl,h1,h2,hw])
  have HCO := hid (costs_any w hf fl fr _ W3 (hwa.below hb3))
  have hWA3 := hid (hwa.below hb3)
  have H3 := hid (And.intro hbW3 (And.intro hs3 hr3))
  have H2 := hid (And.intro hb2 hwa)
  clear hWA h1 h2 hv hwa hw ho hb2 hb3 hs3 b13 hr3 hbW3 hb1 hr1
  go_wp2_with fail
  rw [← hW3]
  clear hW3
  refine (HCO.out).mono ?_
  rintro e W4 ⟨m,K,rfl,hb4,hmap,hcl,hz⟩
  obtain ⟨hbW3,hs3,hr3⟩ := H3.out
  have hr4 := (hb4.block _ (Array.getElem?_eq_some_iff.1 hr3).1).trans hr3
  have hs4 := (hb4.block _ (Array.getElem?_eq_some_iff.1 hs3).1).trans hs3
  have hbW4 := hbW3.trans (hb4.mono hbW3.size)
  have z4 : W.heap.size + 1 < W4.heap.size := (Array.getElem?_eq_some_iff.1 hr4).1
  have hwz : W2.heap.size < W4.heap.size := (Array.getElem?_eq_some_iff.1 hs4).1
  have hmW := hmap.lt
  have z40 : W.heap.size < W4.heap.size := by omega
  have z41 : ¬ W.heap.size = W4.heap.size := by omega
  have hb5 : Below W4.heap.size W4 ((W4.alloc (.cells #[.map (some m)] 204)).alloc (.cells #[.int .i64 0,.int .i64 0,.string ⟨#[]⟩,.bool false] 207)) := ((Below.refl _ W4).alloc (Nat.le_refl _) _).alloc (by simp) _
  obtain ⟨kl,hkl⟩ := st_some Al.zero (by decide) (by decide) (by decide)
  have hget : (Instr.lookup 204 (.map (some m)) (.agg #[.int .i64 0,.int .i64 0,.string ⟨#[]⟩,.bool false]) false).run Tryz.prog ((W4.alloc (.cells #[.map (some m)] 204)).alloc (.cells #[.int .i64 0,.int .i64 0,.string ⟨#[]⟩,.bool false] 207)) = .ok (.int .i64 (Al.cost w Al.zero)) ((W4.alloc (.cells #[.map (some m)] 204)).alloc (.cells #[.int .i64 0,.int .i64 0,.string ⟨#[]⟩,.bool false] 207)) := by
   have := (hmap.below hb5).get st_keyed Tryz.underlying204 (zero_int _) hkl
   rw [costsF_in hz] at this
   exact this
  have C4 := hid (And.intro hbW4 (And.intro hr4 (And.intro hs4 (And.intro hmap (And.intro hcl (And.intro hz hb4))))))
  have hc0 := Al.cost_nonneg hf.good _ Al.zero (Nat.le_refl _) Al.within_zero
  clear hbW3 hs3 hr3 hbW4 hmap hcl hz hb4 hb5 hkl
  by_cases hce : (1099511627776 : Int) ≤ Al.cost w Al.zero
  ·have hbe := hid (show Al.best w = (⟨0,[],[],[]⟩,11) by unfold Al.best; rw [if_pos (show Al.endless ≤ _ from hce)])
   have r0 : W4.cell? ⟨W.heap.size + 1,0,none⟩ = some (.int .i64 0) := by simp [World.cell?,hr4]
   have r1 : W4.cell? ⟨W.heap.size + 1,1,none⟩ = some (.slice none 0 0) := by simp [World.cell?,hr4]
   have r2 : W4.cell? ⟨W.heap.size + 1,2,none⟩ = some (.slice none 0 0) := by simp [World.cell?,hr4]
   have r3 : W4.cell? ⟨W.heap.size + 1,3,none⟩ = some (.string ⟨#[]⟩) := by simp [World.cell?,hr4]
   have q0 : W4.frozen? ⟨W.heap.size + 1,0,none⟩ = false := by simp [World.frozen?,hr4]
   have q1 : W4.frozen? ⟨W.heap.size + 1,1,none⟩ = false := by simp [World.frozen?,hr4]
   have q2 : W4.frozen? ⟨W.heap.size + 1,2,none⟩ = false := by simp [World.frozen?,hr4]
   have q3 : W4.frozen? ⟨W.heap.size + 1,3,none⟩ = false := by simp [World.frozen?,hr4]
   clear hr4 hs4
   go_wp2_with fail
   refine (bodyM_ret (v := .tuple #[.agg #[.int .i64 0,.slice none 0 0,.slice none 0 0,.string ⟨#[]⟩],.int .i64 11]) ?_ ?_)
   ·refine run_cell_tmp (v := .agg #[.int .i64 0,.slice none 0 0,.slice none 0 0,.string ⟨#[]⟩]) rfl rfl ?_ rfl
    go_simp
   ·rw [hno.out,hbe.out]
    refine ⟨_,rfl,⟨_,_,rfl,SlOf.nil _ _ _,SlOf.nil _ _ _⟩,?_⟩
    have hx := C4.out.1.size
    exact (((((C4.out.1.setCell (p := ⟨W.heap.size + 1,0,none⟩) (by simp) _).setCell (p := ⟨W.heap.size + 1,1,none⟩) (by simp) _).setCell (p := ⟨W.heap.size + 1,2,none⟩) (by simp) _).setCell (p := ⟨W.heap.size + 1,3,none⟩) (by simp) _).alloc (by simp [World.setCell]; omega) _).alloc (by simp [World.setCell]; omega) _
  ·clear hr4 hs4
   have hce' := hid (show Al.cost w Al.zero < Al.endless by unfold Al.endless; omega)
   go_wp2_with fail
   obtain ⟨Wk,hWk⟩ := exq (W4.alloc (.cells #[.map (some m)] 204))
   have hzk : Wk.heap.size = W4.heap.size + 1 := by rw [hWk,World.size_alloc]
   obtain ⟨N,hN⟩ := exq (Al.meas w Al.zero + 1)
   obtain ⟨T,hT⟩ : ∃ T : Value → Value → Value → Value → Value → Value → Value → Array Value,T = fun u43 u44 u45 u46 u47 u48 u49 => #[.agg #[.slice ar t.rules.length cr,.slice ad t.drops.length cd,.slice ae t.ends.length ce,.int .i64 t.drop,.int .i64 t.order,.int .i64 t.initial],.int .i64 a,.string x,.int .i64 b,.string y,
     .pointer (some ⟨W.heap.size,0,none⟩),undef,undef,undef,undef,.pointer (some ⟨W.heap.size + 1,0,none⟩),.int .i64 0,.pointer (some ⟨W2.heap.size,0,none⟩),.bool true,.pointer (some ⟨W4.heap.size,0,none⟩),.pointer (some ⟨W4.heap.size + 1,0,none⟩),.pointer (some ⟨W4.heap.size + 1 + 1,0,none⟩),undef,undef,
     .tuple #[.agg #[.slice a1 n1 c1,.slice a2 n2 c2,.slice a3 n3 c3,.slice a4 n4 c4],.bool true],.agg #[.slice ar t.rules.length cr,.slice ad t.drops.length cd,.slice ae t.ends.length ce,.int .i64 t.drop,.int .i64 t.order,.int .i64 t.initial],.int .i64 a,.string x,.int .i64 b,.string y,
     .tuple #[.agg #[.slice a1 n1 c1,.slice a2 n2 c2,.slice a3 n3 c3,.slice a4 n4 c4],.bool true],.agg #[.slice a1 n1 c1,.slice a2 n2 c2,.slice a3 n3 c3,.slice a4 n4 c4],.bool true,.bool true,.bool false,undef,.agg #[.slice a1 n1 c1,.slice a2 n2 c2,.slice a3 n3 c3,.slice a4 n4 c4],.map (some m),
     .agg #[.int .i64 0,.int .i64 0,.string ⟨#[]⟩,.bool false],.map (some m),.agg #[.int .i64 0,.int .i64 0,.string ⟨#[]⟩,.bool false],.int .i64 (Al.cost w Al.zero),.bool (decide (1099511627776 ≤ Al.cost w Al.zero)),undef,.map (some m),.agg #[.int .i64 0,.int .i64 0,.string ⟨#[]⟩,.bool false],.int .i64 (Al.cost w Al.zero),
     .agg #[.int .i64 (Al.cost w Al.zero),.slice none 0 0,.slice none 0 0,.string ⟨#[]⟩],u43,u44,u45,u46,u47,u48,u49,undef,undef,undef,undef,undef,undef,undef,undef,undef,undef,undef,undef,undef,undef,undef,undef,undef,undef,undef,undef,undef,undef,undef,undef,undef,undef,undef,undef,undef,undef,undef,undef,undef,undef,undef,undef,undef,undef,undef] := ⟨_,rfl⟩
   refine wp_loop_ghost_k (fun k A wr => ∃ (u43 u44 u45 u46 u47 u48 u49 : Value) (Ds : List Nat) (s : Al.St) (q : List (Bool × Al.R)),A = { tmps := T u43 u44 u45 u46 u47 u48 u49,defers := Ds.map mark } ∧ BestW w Wk K (W4.heap.size + 1) N k Ds s q wr) N ?_ ?_
   ·refine ⟨undef,undef,undef,undef,undef,undef,undef,[],Al.zero,[],by rw [hT]; rfl,?_⟩
    rw [← hWk]
    have e1 : (((Wk.alloc (.cells #[.int .i64 0,.int .i64 0,.string ⟨#[]⟩,.bool false] 207))).alloc (.cells #[.int .i64 (Al.cost w Al.zero),.slice none 0 0,.slice none 0 0,.string ⟨#[]⟩] 101)).heap[W4.heap.size + 1]? = some (.cells (stC Al.zero).toArray 207 (0,0)) := by
     rw [← hzk]; exact (Below.heap_alloc _ _ _ (by simp)).trans (World.alloc_heap_new Wk _)
    have e2 : (((Wk.alloc (.cells #[.int .i64 0,.int .i64 0,.string ⟨#[]⟩,.bool false] 207))).alloc (.cells #[.int .i64 (Al.cost w Al.zero),.slice none 0 0,.slice none 0 0,.string ⟨#[]⟩] 101)).heap[W4.heap.size + 1 + 1]? = some (.cells #[.int .i64 (Al.cost w Al.zero),.slice none 0 0,.slice none 0 0,.string ⟨#[]⟩] 101 (0,0)) := by
     have := World.alloc_heap_new (Wk.alloc (.cells #[.int .i64 0,.int .i64 0,.string ⟨#[]⟩,.bool false] 207)) (.cells #[.int .i64 (Al.cost w Al.zero),.slice none 0 0,.slice none 0 0,.string ⟨#[]⟩] 101)
     rwa [World.size_alloc,hzk] at this
    exact ⟨e1,⟨_,_,e2,World.ownsRow_nil _ _ _ _,World.ownsRow_nil _ _ _ _,fun x h => by cases h⟩,rfl,by omega,by simp,by simp [Al.lefts,Al.form],Al.ok_zero,C4.out.2.2.2.2.2.1,hce'.out,
     by rw [← hzk]; exact ((Below.refl _ Wk).alloc (Nat.le_refl _) _).alloc (by simp) _,List.nodup_nil,fun D h => by cases h⟩
   ·rintro k A wr ⟨u43,u44,u45,u46,u47,u48,u49,Ds,s,q,rfl,HB⟩ J Kx hJ hKx
    have HWk := hid hWk
    have HN0 := hid hN
    have HZk := hid hzk
    clear hWk hN hzk
    rw [hT]
    have HT7 := hid hT
    clear hT
    obtain ⟨hbW4,hr4,hs4,hmap,hcl,hz,hb4⟩ := C4.out
    have hbk : Below W4.heap.size W4 Wk := by rw [HWk.out]; exact (Below.refl _ W4).alloc (Nat.le_refl _) _
    have hbkw : Below W4.heap.size W4 wr := hbk.trans (HB.below.mono (by omega))
    have hknown : Wk.heap[W4.heap.size]? = some (.cells #[.map (some m)] 204 (0,0)) := by rw [HWk.out]; exact World.alloc_heap_new W4 _
    have hws := (hbkw.block _ hwz).trans hs4
    have v0 : wr.cell? ⟨W2.heap.size,0,none⟩ = some (.slice a1 n1 c1) := by simp [World.cell?,hws]
    have v1 : wr.cell? ⟨W2.heap.size,1,none⟩ = some (.slice a2 n2 c2) := by simp [World.cell?,hws]
    have v2 : wr.cell? ⟨W2.heap.size,2,none⟩ = some (.slice a3 n3 c3) := by simp [World.cell?,hws]
    have v3 : wr.cell? ⟨W2.heap.size,3,none⟩ = some (.slice a4 n4 c4) := by simp [World.cell?,hws]
    have hst := HB.st
    have s0 : wr.cell? ⟨W4.heap.size + 1,0,none⟩ = some (.int .i64 s.i) := by simp [World.cell?,hst,stC]
    have s1 : wr.cell? ⟨W4.heap.size + 1,1,none⟩ = some (.int .i64 s.j) := by simp [World.cell?,hst,stC]
    have s2 : wr.cell? ⟨W4.heap.size + 1,2,none⟩ = some (.string (bs s.ahead)) := by simp [World.cell?,hst,stC]
    have s3 : wr.cell? ⟨W4.heap.size + 1,3,none⟩ = some (.bool s.right) := by simp [World.cell?,hst,stC]
    have hwa4 := hWA3.out.below hb4
    have HWA := hid (show ∀ A,Below W4.heap.size W4 A → WordsAt A w fl fr [.slice a1 n1 c1,.slice a2 n2 c2,.slice a3 n3 c3,.slice a4 n4 c4] from fun A h => hwa4.below h)
    have HD := hid (done_any w s fl fr _ wr (HWA.out _ hbkw))
    unfold stV stC at HD
    have HBB := hid HB
    have HK0 := hid (And.intro hknown (And.intro hbk hbkw))
    clear hbW4 hr4 hs4 hmap hcl hz hb4 hbk hbkw hknown hws hst hwa4 HB
    go_wp2_with fail
    refine (HD.out).mono ?_
    rintro e w1 ⟨rfl,hb1⟩
    cases hd : Al.done w s with
    | true =>
     obtain ⟨lv,rv,hd1,hd2,hd3,-⟩ := HBB.out.d
     obtain ⟨lb,lc,rfl⟩ := ownsRow_slice hd2
     obtain ⟨rb,rc,rfl⟩ := ownsRow_slice hd3
     have hd1' := (hb1.block _ (Array.getElem?_eq_some_iff.1 hd1).1).trans hd1
     have e0 : w1.cell? ⟨W4.heap.size + 1 + 1,0,none⟩ = some (.int .i64 (Al.cost w Al.zero)) := by simp [World.cell?,hd1']
     have e1 : w1.cell? ⟨W4.heap.size + 1 + 1,1,none⟩ = some (.slice lb (Al.lefts q).length lc) := by simp [World.cell?,hd1']
     have e2 : w1.cell? ⟨W4.heap.size + 1 + 1,2,none⟩ = some (.slice rb (Al.rights q).length rc) := by simp [World.cell?,hd1']
     have e3 : w1.cell? ⟨W4.heap.size + 1 + 1,3,none⟩ = some (.string (bs (Al.form (Al.lefts q)))) := by simp [World.cell?,hd1']
     have hbw1 := HK0.out.2.2.trans (hb1.mono HK0.out.2.2.size)
     have hr1 := (hbw1.block _ z4).trans C4.out.2.1
     have r0 : w1.cell? ⟨W.heap.size + 1,0,none⟩ = some (.int .i64 0) := by simp [World.cell?,hr1]
     have r1 : w1.cell? ⟨W.heap.size + 1,1,none⟩ = some (.slice none 0 0) := by simp [World.cell?,hr1]
     have r2 : w1.cell? ⟨W.heap.size + 1,2,none⟩ = some (.slice none 0 0) := by simp [World.cell?,hr1]
     have r3 : w1.cell? ⟨W.heap.size + 1,3,none⟩ = some (.string ⟨#[]⟩) := by simp [World.cell?,hr1]
     have q0 : w1.frozen? ⟨W.heap.size + 1,0,none⟩ = false := by simp [World.frozen?,hr1]
     have q1 : w1.frozen? ⟨W.heap.size + 1,1,none⟩ = false := by simp [World.frozen?,hr1]
     have q2 : w1.frozen? ⟨W.heap.size + 1,2,none⟩ = false := by simp [World.frozen?,hr1]
     have q3 : w1.frozen? ⟨W.heap.size + 1,3,none⟩ = false := by simp [World.frozen?,hr1]
     have hbest := hid (show Al.best w = (⟨Al.cost w Al.zero,Al.ints (Al.lefts q),Al.ints (Al.rights q),Al.form (Al.lefts q)⟩,0) by
      have hp := HBB.out.path
      rw [Al.path_done hd,List.append_nil] at hp
      unfold Al.best
      rw [if_neg (by have := hce'.out; omega)]
      simp only
      rw [← HN0.out,hp])
     have FF := hid (And.intro (ownsRow_below hd2 hb1) (And.intro (ownsRow_below hd3 hb1) (And.intro (C4.out.1.trans (hbw1.mono C4.out.1.size)) (And.intro hr1 (show ∀ D ∈ Ds,W4.heap.size + 1 + 2 ≤ D ∧ w1.heap[D]? = some (.deferred (some [])) from fun D h => ⟨(HBB.out.marks D h).1,(hb1.block D (Array.getElem?_eq_some_iff.1 (HBB.out.marks D h).2).1).trans (HBB.out.marks D h).2⟩)))))
     clear hd1 hd2 hd3 hd1' hbw1 hr1 hb1 hd v0 v1 v2 v3 s0 s1 s2 s3
     go_wp2_with fail
     obtain ⟨o1,o2,hbW1,hr1,hmk⟩ := FF.out
     obtain ⟨w2,hw2⟩ := exq ((((w1.setCell ⟨W.heap.size + 1,0,none⟩ (.int .i64 (Al.cost w Al.zero))).setCell ⟨W.heap.size + 1,1,none⟩ (.slice lb (Al.lefts q).length lc)).setCell ⟨W.heap.size + 1,2,none⟩ (.slice rb (Al.rights q).length rc)).setCell ⟨W.heap.size + 1,3,none⟩ (.string (bs (Al.form (Al.lefts q)))))
     rw [← hw2]
     have far : ∀ x,x ≠ W.heap.size + 1 → w2.heap[x]? = w1.heap[x]? := fun x h => by
      rw [hw2,Below.heap_setCell _ ⟨W.heap.size + 1,3,none⟩ _ x h,Below.heap_setCell _ ⟨W.heap.size + 1,2,none⟩ _ x h,Below.heap_setCell _ ⟨W.heap.size + 1,1,none⟩ _ x h,Below.heap_setCell _ ⟨W.heap.size + 1,0,none⟩ _ x h]
     have hres : w2.heap[W.heap.size + 1]? = some (.cells #[.int .i64 (Al.cost w Al.zero),.slice lb (Al.lefts q).length lc,.slice rb (Al.rights q).length rc,.string (bs (Al.form (Al.lefts q)))] 101 (0,0)) := by
      rw [hw2]; simp [World.setCell,Array.getElem?_modify,hr1]
     have hbW2 : Below W.heap.size W w2 := by
      rw [hw2]
      exact (((hbW1.setCell (p := ⟨W.heap.size + 1,0,none⟩) (by simp) _).setCell (p := ⟨W.heap.size + 1,1,none⟩) (by simp) _).setCell (p := ⟨W.heap.size + 1,2,none⟩) (by simp) _).setCell (p := ⟨W.heap.size + 1,3,none⟩) (by simp) _
     have keep : ∀ {v : Value} {n : Nat} {xs : List Value},w1.ownsRow (W4.heap.size + 1 + 2) 3 1 v n xs → w2.ownsRow (W4.heap.size + 1 + 2) 3 1 v n xs := fun h => by
      rw [hw2]
      exact kept_at (kept_at (kept_at (kept_at h (set_grown_at _ _ 0 _) (by omega)) (set_grown_at _ _ 1 _) (by omega)) (set_grown_at _ _ 2 _) (by omega)) (set_grown_at _ _ 3 _) (by omega)
     have hmk2 : ∀ D ∈ Ds,w2.heap[D]? = some (.deferred (some [])) := fun D h => (far D (by have := (hmk D h).1; omega)).trans (hmk D h).2
     refine leaves_marks Ds w2 HBB.out.once hmk2 (fun W' hW' => ?_)
     have hres' := (hW'.block (W.heap.size + 1) (fun h => by have := (hmk _ h).1; omega)).trans hres
     have k0 : W'.cell? ⟨W.heap.size + 1,0,none⟩ = some (.int .i64 (Al.cost w Al.zero)) := by simp [World.cell?,hres']
     have k1 : W'.cell? ⟨W.heap.size + 1,1,none⟩ = some (.slice lb (Al.lefts q).length lc) := by simp [World.cell?,hres']
     have k2 : W'.cell? ⟨W.heap.size + 1,2,none⟩ = some (.slice rb (Al.rights q).length rc) := by simp [World.cell?,hres']
     have k3 : W'.cell? ⟨W.heap.size + 1,3,none⟩ = some (.string (bs (Al.form (Al.lefts q)))) := by simp [World.cell?,hres']
     refine ⟨_,run_cell_tmp (v := .agg #[.int .i64 (Al.cost w Al.zero),.slice lb (Al.lefts q).length lc,.slice rb (Al.rights q).length rc,.string (bs (Al.form (Al.lefts q)))]) rfl rfl ?_ rfl,?_⟩
     ·clear hres' hres hw2
      go_simp
     ·rw [hno.out,hbest.out]
      exact ⟨_,rfl,⟨_,_,rfl,slOf_ints (hW'.row (keep o1) hmk2),slOf_ints (hW'.row (keep o2) hmk2)⟩,hbW2.trans (hW'.below (fun D h => by have := (hmk D h).1; omega))⟩
    | false =>
     have hbw1 := HK0.out.2.2.trans (hb1.mono HK0.out.2.2.size)
     have hB1 := HBB.out.grown (Below.grows hb1 none) (fun r e => by cases e)
     have hws := (hbw1.block _ hwz).trans C4.out.2.2.1
     have v0 : w1.cell? ⟨W2.heap.size,0,none⟩ = some (.slice a1 n1 c1) := by simp [World.cell?,hws]
     have v1 : w1.cell? ⟨W2.heap.size,1,none⟩ = some (.slice a2 n2 c2) := by simp [World.cell?,hws]
     have v2 : w1.cell? ⟨W2.heap.size,2,none⟩ = some (.slice a3 n3 c3) := by simp [World.cell?,hws]
     have v3 : w1.cell? ⟨W2.heap.size,3,none⟩ = some (.slice a4 n4 c4) := by simp [World.cell?,hws]
     have hst := hB1.st
     have s0 : w1.cell? ⟨W4.heap.size + 1,0,none⟩ = some (.int .i64 s.i) := by simp [World.cell?,hst,stC]
     have s1 : w1.cell? ⟨W4.heap.size + 1,1,none⟩ = some (.int .i64 s.j) := by simp [World.cell?,hst,stC]
     have s2 : w1.cell? ⟨W4.heap.size + 1,2,none⟩ = some (.string (bs s.ahead)) := by simp [World.cell?,hst,stC]
     have s3 : w1.cell? ⟨W4.heap.size + 1,3,none⟩ = some (.bool s.right) := by simp [World.cell?,hst,stC]
     have HMK := hid (moves_mk (.slice a1 n1 c1) (.slice a2 n2 c2) (.slice a3 n3 c3) (.slice a4 n4 c4) s w1)
     unfold stV stC at HMK
     have HB1 := hid (And.intro hB1 hbw1)
     have HD0 := hid hd
     clear hB1 hws hst hb1 hbw1 hd
     go_wp2_with fail
     refine (HMK.out).mono ?_
     rintro e w2 ⟨rfl,hw2⟩
     have hz2 : w2.heap.size = w1.heap.size + 2 := by rw [hw2]; simp
     have hb2 : Below w1.heap.size w1 w2 := by rw [hw2]; exact ((Below.refl _ w1).alloc (Nat.le_refl _) _).alloc (by simp) _
     have hws2 : w2.heap[w1.heap.size]? = some (.cells #[.slice a1 n1 c1,.slice a2 n2 c2,.slice a3 n3 c3,.slice a4 n4 c4] 201 (0,0)) := by
      rw [hw2]
      exact (Below.heap_alloc _ _ _ (by simp)).trans (World.alloc_heap_new w1 _)
     have hst2 : w2.heap[w1.heap.size + 1]? = some (.cells (stC s).toArray 207 (0,0)) := by
      rw [hw2]
      have := World.alloc_heap_new (w1.alloc (.cells #[.slice a1 n1 c1,.slice a2 n2 c2,.slice a3 n3 c3,.slice a4 n4 c4] 201)) (.cells (stC s).toArray 207)
      rw [World.size_alloc] at this
      exact this
     have HB2 := hid (And.intro (HB1.out.1.grown (Below.grows hb2 none) (fun r e => by cases e)) (HB1.out.2.trans (hb2.mono HB1.out.2.size)))
     have hBsz : W4.heap.size + 1 + 2 ≤ w1.heap.size := by
      obtain ⟨_,_,hd1,_⟩ := HB1.out.1.d
      have := (Array.getElem?_eq_some_iff.1 hd1).1
      omega
     have hDs : ∀ D ∈ Ds,D < w2.heap.size := fun D h => by
      have := (Array.getElem?_eq_some_iff.1 (HB2.out.1.marks D h).2).1
      exact this
     have HWA2 := hid (HWA.out _ HB2.out.2)
     have hrules : (theRules w s fl fr).map Prod.fst = (Al.one w s).rules := theRules_map HWA2.out.left HWA2.out.right
     have hmvs := mvs_all hrules
     have hst2' := hid hst2
     have hws2' := hid hws2
     have HDS := hid hDs
     clear hst2 hws2 hDs hw2 hb2 v0 v1 v2 v3 s0 s1 s2 s3
     go_wp2_with fail
     refine (wpIn_wide (n := 9)).1 (wp_iter (own := none) rfl (by omega) (gf := 151) (lb := #[.pointer (some ⟨w1.heap.size + 1,0,none⟩),.pointer (some ⟨w1.heap.size,0,none⟩)]) rfl trivial (enters_of Tryz.func151 (by kernel_rfl) rfl)
      (moves_iter w s fl fr [.slice a1 n1 c1,.slice a2 n2 c2,.slice a3 n3 c3,.slice a4 n4 c4] w1.heap.size 8 (by omega)) (theRules w s fl fr) (fun r e => by cases e)
      (fun A hA => ?st) (fun b vals b' h => ?ps) (fun h1 h2 => h1.trans h2) (fun A l o o' _ hl ho => movesKeep_record _ _ _ _ _ A l o o' hl ho)
      (BestI w Wk K (W4.heap.size + 1) N k Ds s q fl fr) (BestX w Wk K (W4.heap.size + 1) N k Ds) ?hI ?hIx ?h0 ?hround ?hdone ?hstop)
     case st =>
      have hok := HB2.out.1.ok
      exact ⟨rfl,(hA.block _ (Array.getElem?_eq_some_iff.1 hst2'.out).1).trans hst2'.out,(hA.block _ (Array.getElem?_eq_some_iff.1 hws2'.out).1).trans hws2'.out,HWA2.out.below hA,hf.good,
       by have := hf.small.left; omega,by have := hf.small.right; omega,by have := hf.small.left; have := hok.1.1; omega,by have := hf.small.right; have := hok.1.2.1; omega,hf.sizes⟩
     case ps =>
      obtain ⟨p,s',_,rfl,_⟩ := nx_some h
      rfl
     case hI => exact bestI_stays _ _ _ _ _ _ _ _ _ _ _ _ (by omega) HDS.out
     case hIx => intro c; exact bestX_stays _ _ _ _ _ _ _ _ _ (by omega) HDS.out
     case h0 =>
      exact ⟨HB2.out.1,by rw [hmvs]; rfl,fun p hp => by rw [hmvs] at hp; exact hp,fun p hp => hp⟩
     case hdone =>
      intro D b A hD hnx hi hK
      exfalso
      obtain ⟨p,hp,-⟩ := Al.pick_some hf.good hi.base.ok.1 hi.base.cheap HD0.out
      rw [hi.pick,nx_none hnx] at hp
      cases hp
     case hstop =>
      intro D c b A hD hx hK
      obtain ⟨rfl,k',s',q',hk,hB⟩ := hx
      refine wpIn_wide.2 ?_
      have HX := hid (And.intro hB hK)
      clear hB hK
      go_wp2_with fail
      have hB := HX.out.1
      refine ⟨k',hk,hJ _ _ _ ⟨_,_,_,_,_,_,_,D :: Ds,s',q',by rw [HT7.out]; rfl,⟨hB.st,hB.d,hB.path,hB.meas,hB.len,hB.flen,hB.ok,hB.inK,hB.cheap,hB.below,?_,fun D' hD' => ?_⟩⟩⟩
      ·exact List.nodup_cons.2 ⟨fun h => by have := HDS.out D h; omega,hB.once⟩
      ·rcases List.mem_cons.1 hD' with rfl | hD'
       ·exact ⟨by omega,HX.out.2⟩
       ·exact hB.marks D' hD'
     case hround =>
      intro l b vals b' A hl hlo hnx hi
      obtain ⟨⟨r,fv⟩,s',hpb,rfl,hmv,hsub⟩ := nx_some hnx
      have hbA0 : Below W4.heap.size W4 A := (show Below W4.heap.size W4 Wk by rw [HWk.out]; exact (Below.refl _ W4).alloc (Nat.le_refl _) _).trans (hi.base.below.mono (by omega))
      have hfv := (HWA.out A hbA0).mem (hi.sub _ hpb)
      simp only at hfv
      obtain ⟨af,cf,rfl,-,-,-⟩ := hfv
      have HMV := hid hmv
      have HSUB := hid hsub
      have HI := hid hi
      have HLO := hid hlo
      unfold ruleV ruleC stV stC
      clear hnx hmv hsub hi hpb hlo hbA0
      gi_wp2_with fail
      obtain ⟨A2,hA2⟩ := exq ((A.alloc (.cells #[.int .i64 r.index,.int .i64 r.cost,.slice af r.from_.length cf,.string (bs r.to_)] 213)).alloc (.cells #[.int .i64 s'.i,.int .i64 s'.j,.string (bs s'.ahead),.bool s'.right] 207))
      rw [← hA2]
      have hbA : Below A.heap.size A A2 := by rw [hA2]; exact ((Below.refl _ A).alloc (Nat.le_refl _) _).alloc (by simp) _
      have hr2 : A2.heap[A.heap.size]? = some (.cells #[.int .i64 r.index,.int .i64 r.cost,.slice af r.from_.length cf,.string (bs r.to_)] 213 (0,0)) := by
       rw [hA2]; exact (Below.heap_alloc _ _ _ (by simp)).trans (World.alloc_heap_new A _)
      have hn2 : A2.heap[A.heap.size + 1]? = some (.cells #[.int .i64 s'.i,.int .i64 s'.j,.string (bs s'.ahead),.bool s'.right] 207 (0,0)) := by
       rw [hA2]
       have := World.alloc_heap_new (A.alloc (.cells #[.int .i64 r.index,.int .i64 r.cost,.slice af r.from_.length cf,.string (bs r.to_)] 213)) (.cells #[.int .i64 s'.i,.int .i64 s'.j,.string (bs s'.ahead),.bool s'.right] 207)
       rwa [World.size_alloc] at this
      have hsz2 : A2.heap.size = A.heap.size + 2 := by rw [hA2]; simp
      clear hA2
      refine ⟨⟨hbA.size,fun q o hq ho hn => (hbA.block q (Array.getElem?_eq_some_iff.1 ho).1).trans ho⟩,⟨hbA.size,fun q o _ h _ => (hbA.block q (Array.getElem?_eq_some_iff.1 h).1).trans h,fun h => h.below hbA⟩,fun A3 hg3 => ?_⟩
      obtain ⟨ol,hol,hoc⟩ := HLO.out
      have hol2 := (hbA.block l (Array.getElem?_eq_some_iff.1 hol).1).trans hol
      have hI2 := bestI_stays w Wk K (W4.heap.size + 1) N k Ds s q fl fr w2.heap.size (by omega) HDS.out b A A2 none HI.out (Below.grows hbA none) (fun r e => by cases e)
      have hI3 := bestI_stays w Wk K (W4.heap.size + 1) N k Ds s q fl fr w2.heap.size (by omega) HDS.out b A2 A3 (some l) hI2 hg3 (fun r e => by cases e; exact .inr ⟨by omega,_,hol2,hoc⟩)
      have hbut := grown_but (r := l) hg3 (fun q e => by cases e; rfl)
      have hr3 := hbut.cells hol2 hoc hr2 rfl
      have hn3 := hbut.cells hol2 hoc hn2 rfl
      have hszA : w2.heap.size < A.heap.size := by have := (Array.getElem?_eq_some_iff.1 hol).1; omega
      have hsz3 : A.heap.size + 2 ≤ A3.heap.size := by have := hg3.size; omega
      clear hI2 hbut hr2 hn2 hol2
      obtain ⟨hW3,hpick,hall,hsub3⟩ := hI3
      have hmem : (r,s') ∈ Al.moves w s := hall _ (by rw [HMV.out]; exact List.mem_cons_self)
      obtain ⟨hok',hme,hdir⟩ := Al.move_step hf.good hmem hW3.ok.1
      have hin' : s' ∈ K := C4.out.2.2.2.2.1.on s hW3.inK _ hmem
      have hb43 : Below W4.heap.size W4 A3 := (show Below W4.heap.size W4 Wk by rw [HWk.out]; exact (Below.refl _ W4).alloc (Nat.le_refl _) _).trans (hW3.below.mono (by omega))
      have hkn3 : A3.heap[W4.heap.size]? = some (.cells #[.map (some m)] 204 (0,0)) := (hW3.below.block _ (by omega)).trans HK0.out.1
      have hst3 := hW3.st
      have p0 : A3.cell? ⟨W4.heap.size,0,none⟩ = some (.map (some m)) := (cell_blk hkn3).1
      have pc : A3.cell? ⟨A.heap.size,1,none⟩ = some (.int .i64 r.cost) := by simp [World.cell?,hr3]
      have n0 : A3.cell? ⟨A.heap.size + 1,0,none⟩ = some (.int .i64 s'.i) := by simp [World.cell?,hn3]
      have n1 : A3.cell? ⟨A.heap.size + 1,1,none⟩ = some (.int .i64 s'.j) := by simp [World.cell?,hn3]
      have n2 : A3.cell? ⟨A.heap.size + 1,2,none⟩ = some (.string (bs s'.ahead)) := by simp [World.cell?,hn3]
      have n3 : A3.cell? ⟨A.heap.size + 1,3,none⟩ = some (.bool s'.right) := by simp [World.cell?,hn3]
      have s0 : A3.cell? ⟨W4.heap.size + 1,0,none⟩ = some (.int .i64 s.i) := by simp [World.cell?,hst3,stC]
      have s1 : A3.cell? ⟨W4.heap.size + 1,1,none⟩ = some (.int .i64 s.j) := by simp [World.cell?,hst3,stC]
      have s2 : A3.cell? ⟨W4.heap.size + 1,2,none⟩ = some (.string (bs s.ahead)) := by simp [World.cell?,hst3,stC]
      have s3 : A3.cell? ⟨W4.heap.size + 1,3,none⟩ = some (.bool s.right) := by simp [World.cell?,hst3,stC]
      have hmap3 := C4.out.2.2.2.1.below hb43
      have keyOk : ∀ z : Al.St,Al.Ok w z → ∃ kl,keyOf Tryz.prog 207 (stV z) = some kl := fun z hz =>
       st_some z (by have := hz.1.1; have := hf.small.left; omega) (by have := hz.1.2.1; have := hf.small.right; omega) (Al.aheads_len (fun r hr => (hf.sizes r hr).2) hz.2)
      have hokS : Al.Ok w s' := Al.ok_step hf.good hmem hW3.ok
      have look : ∀ z : Al.St,z ∈ K → Al.Ok w z → ∀ n,(Instr.lookup 204 (.map (some m)) (.agg #[.int .i64 z.i,.int .i64 z.j,.string (bs z.ahead),.bool z.right]) false).run Tryz.prog (A3.drewN n) = .ok (.int .i64 (Al.cost w z)) (A3.drewN n) := fun z hz ho n => by
       obtain ⟨kl,hkl⟩ := keyOk z ho
       have := (hmap3.below (Below.drewQ A3 n)).get st_keyed Tryz.underlying204 (zero_int _) hkl
       rw [costsF_in hz] at this
       exact this
      have HG1 := hid (look s' hin' hokS)
      have HG2 := hid (look s hW3.inK hW3.ok)
      have hrc := hf.good.one s |>.cost r (Al.mem_moves.1 hmem).1
      have hcn0 := Al.cost_nonneg hf.good _ s' (Nat.le_refl _) hok'
      have hcn1 := Al.cost_le hf.good hok'
      have hwrap : IntKind.i64.wrap (r.cost + Al.cost w s') = r.cost + Al.cost w s' := IntWalk.i64_in _ (by unfold Al.endless at hcn1; omega)
      have HH := hid (And.intro hW3 (And.intro hpick (And.intro hall (And.intro hsub3 (And.intro hst3 (And.intro hr3 hn3))))))
      have HM := hid (And.intro hmem (And.intro hok' (And.intro hme (And.intro hdir (And.intro hin' hokS)))))
      clear hW3 hpick hall hsub3 hst3 hr3 hn3 hmem hok' hme hdir hin' hokS look keyOk hmap3 hkn3 hb43 hrc hcn0 hcn1
      gi_wp2_with fail
      refine round_heldS (S := OnlyDrawn A3) (by kernel_rfl) (by kernel_rfl) (fun ⟨_,_,h⟩ => h) ?_
      simp only [List.size_toArray,List.length_cons,List.length_nil,Nat.reduceAdd]
      intro hc
      have S0 : OnlyDrawn A3 (Array.replicate 10 false) A3.drew := ⟨1,rfl⟩
      refine wpAnyS_take (i := 0) (v := .pointer (some ⟨A.heap.size,1,none⟩)) rfl (by kernel_rfl) (by kernel_rfl) (by kernel_rfl) (fun _ _ _ h => h) (fun _ _ => Iff.rfl) hc (by rfl) (fun wx hx => ?_) S0 (fun hc S0 => ?_)
      ·obtain ⟨nx,rfl⟩ := hx.drawn
       go_simp
      simp only [tk1,tk3,Act.put,tk4,tk5,tk6]
      refine wpAnyS_take (i := 1) (v := .int .i64 r.cost) rfl (by kernel_rfl) (by kernel_rfl) (by kernel_rfl) (fun _ _ _ h => h) (fun _ _ => Iff.rfl) hc (by rfl) (fun wx hx => ?_) S0 (fun hc S0 => ?_)
      ·obtain ⟨nx,rfl⟩ := hx.drawn
       go_simp
      simp only [tk1,tk2,tk3,Act.put,tk4,tk5,tk6]
      refine wpAnyS_take (i := 2) (v := .map (some m)) rfl (by kernel_rfl) (by kernel_rfl) (by kernel_rfl) (fun _ _ _ h => h) (fun _ _ => Iff.rfl) hc (by rfl) (fun wx hx => ?_) S0 (fun hc S0 => ?_)
      ·obtain ⟨nx,rfl⟩ := hx.drawn
       go_simp
      simp only [tk1,tk2,tk3,Act.put,tk4,tk5,tk6]
      refine wpAnyS_take (i := 3) (v := .agg #[.int .i64 s'.i,.int .i64 s'.j,.string (bs s'.ahead),.bool s'.right]) rfl (by kernel_rfl) (by kernel_rfl) (by kernel_rfl) (fun _ _ _ h => h) (fun _ _ => Iff.rfl) hc (by rfl) (fun wx hx => ?_) S0 (fun hc S0 => ?_)
      ·obtain ⟨nx,rfl⟩ := hx.drawn
       go_simp
      simp only [tk1,tk2,tk3,Act.put,tk4,tk5,tk6]
      refine wpAnyS_take (i := 4) (v := .int .i64 (Al.cost w s')) rfl (by kernel_rfl) (by kernel_rfl) (by kernel_rfl) (fun _ _ _ h => h) (fun _ _ => Iff.rfl) hc (by rfl) (fun wx hx => ?_) S0 (fun hc S0 => ?_)
      ·obtain ⟨nx,rfl⟩ := hx.drawn
       have hg := HG1.out nx
       go_simp
      simp only [tk1,tk2,tk3,Act.put,tk4,tk5,tk6]
      refine wpAnyS_take (i := 5) (v := .int .i64 (r.cost + Al.cost w s')) rfl (by kernel_rfl) (by kernel_rfl) (by kernel_rfl) (fun _ _ _ h => h) (fun _ _ => Iff.rfl) hc (by rfl) (fun wx hx => ?_) S0 (fun hc S0 => ?_)
      ·obtain ⟨nx,rfl⟩ := hx.drawn
       go_simp
      simp only [tk1,tk2,tk3,Act.put,tk4,tk5,tk6]
      refine wpAnyS_take (i := 6) (v := .map (some m)) rfl (by kernel_rfl) (by kernel_rfl) (by kernel_rfl) (fun _ _ _ h => h) (fun _ _ => Iff.rfl) hc (by rfl) (fun wx hx => ?_) S0 (fun hc S0 => ?_)
      ·obtain ⟨nx,rfl⟩ := hx.drawn
       go_simp
      simp only [tk1,tk2,tk3,Act.put,tk4,tk5,tk6]
      refine wpAnyS_take (i := 7) (v := .agg #[.int .i64 s.i,.int .i64 s.j,.string (bs s.ahead),.bool s.right]) rfl (by kernel_rfl) (by kernel_rfl) (by kernel_rfl) (fun _ _ _ h => h) (fun _ _ => Iff.rfl) hc (by rfl) (fun wx hx => ?_) S0 (fun hc S0 => ?_)
      ·obtain ⟨nx,rfl⟩ := hx.drawn
       go_simp
      simp only [tk1,tk2,tk3,Act.put,tk4,tk5,tk6]
      refine wpAnyS_take (i := 8) (v := .int .i64 (Al.cost w s)) rfl (by kernel_rfl) (by kernel_rfl) (by kernel_rfl) (fun _ _ _ h => h) (fun _ _ => Iff.rfl) hc (by rfl) (fun wx hx => ?_) S0 (fun hc S0 => ?_)
      ·obtain ⟨nx,rfl⟩ := hx.drawn
       have hg := HG2.out nx
       go_simp
      simp only [tk1,tk2,tk3,Act.put,tk4,tk5,tk6]
      refine wpAnyS_take (i := 9) (v := .bool (r.cost + Al.cost w s' != Al.cost w s)) rfl (by kernel_rfl) (by kernel_rfl) (by kernel_rfl) (fun _ _ _ h => h) (fun _ _ => Iff.rfl) hc (by rfl) (fun wx hx => ?_) S0 (fun hc S0 => ?_)
      ·obtain ⟨nx,rfl⟩ := hx.drawn
       go_simp
      simp only [tk1,tk2,tk3,Act.put,tk4,tk5,tk6]
      refine wpAnyS_done (by kernel_rfl) ?_ _
      have hbD : Below A3.heap.size A3 A3.drew := (Below.refl _ A3).drew
      have HBD := hid hbD
      clear hbD S0 hc
      by_cases heq : r.cost + Al.cost w s' = Al.cost w s
      ·have hne : (r.cost + Al.cost w s' != Al.cost w s) = false := by simpa using heq
       have HEQ := hid heq
       clear heq
       gi_upto_if 66 with (fail)
       obtain ⟨lv,rv,hd1,hd2,hd3,hd4⟩ := HH.out.1.d
       obtain ⟨lb,lc,rfl⟩ := ownsRow_slice hd2
       obtain ⟨rb,rc,rfl⟩ := ownsRow_slice hd3
       have HD4 := hid hd4
       clear hd4
       rw [hne]
       clear hne
       generalize hb66 : decide (s.i < s'.i) = b66
       gi_cut [] from 67 (fun wx => KeepsFrom w2.heap.size A3 wx ∧ wx.heap[A.heap.size + 1]? = some (.cells (stC s').toArray 207 (0,0)) ∧ wx.heap[W4.heap.size + 1]? = some (.cells (stC s).toArray 207 (0,0)) ∧
        (∃ lv rv,wx.heap[W4.heap.size + 1 + 1]? = some (.cells #[.int .i64 (Al.cost w Al.zero),lv,rv,.string (bs (Al.form (Al.lefts (q ++ [(b66,r)]))))] 101 (0,0)) ∧
         wx.ownsRow (W4.heap.size + 1 + 2) 3 1 lv (Al.lefts (q ++ [(b66,r)])).length (intsV (Al.lefts (q ++ [(b66,r)]))) ∧
         wx.ownsRow (W4.heap.size + 1 + 2) 3 1 rv (Al.rights (q ++ [(b66,r)])).length (intsV (Al.rights (q ++ [(b66,r)]))) ∧ (∀ x,lv.ownBlock = some x → rv.ownBlock ≠ some x)) ∧
        Below (W4.heap.size + 1) Wk wx ∧ (∀ D ∈ Ds,wx.heap[D]? = some (.deferred (some []))))
       case first =>
        cases b66 with
        | true =>
         have hlt : s.i < s'.i := of_decide_eq_true hb66
         have hlt' : (s.i : Int) < (s'.i : Int) := by omega
         clear hb66
         have hq := hid (show Al.lefts (q ++ [(true,r)]) = Al.lefts q ++ [r] ∧ Al.rights (q ++ [(true,r)]) = Al.rights q by
          simp [Al.lefts,Al.rights])
         obtain ⟨hW3,-,-,-,hst3,hr3,hn3⟩ := HH.out
         have hlen : (Al.lefts q).length ≤ 100 := by
          have h1 := hW3.len
          have h2 := HN0.out
          have h3 := hf.small.left
          have h4 := hf.small.right
          have h5 : (Al.lefts q).length ≤ q.length := by unfold Al.lefts; rw [List.length_map]; exact List.length_filter_le _ _
          have h6 : Al.meas w Al.zero = w.left.letters.length + w.right.letters.length := rfl
          omega
         have hfl : (Al.form (Al.lefts q)).length ≤ 100000 := by
          have h1 := hW3.len
          have h2 := HN0.out
          have h3 := hf.small.left
          have h4 := hf.small.right
          have h5 := hW3.flen
          have h6 : Al.meas w Al.zero = w.left.letters.length + w.right.letters.length := rfl
          omega
         have hto : r.to_.length ≤ 1000 := (hf.sizes r (one_mem (Al.mem_moves.1 HM.out.1).1)).2
         have hz9 : ¬ 9223372036854775807 < (bs (Al.form (Al.lefts q))).size + (bs r.to_).size := by rw [bs_len,bs_len]; omega
         have d1 : A3.cell? ⟨W4.heap.size + 1 + 1,1,none⟩ = some (.slice lb (Al.lefts q).length lc) := by simp [World.cell?,hd1]
         have d3 : A3.cell? ⟨W4.heap.size + 1 + 1,3,none⟩ = some (.string (bs (Al.form (Al.lefts q)))) := by simp [World.cell?,hd1]
         have p0' : A3.cell? ⟨A.heap.size,0,none⟩ = some (.int .i64 r.index) := by simp [World.cell?,hr3]
         have p3' : A3.cell? ⟨A.heap.size,3,none⟩ = some (.string (bs r.to_)) := by simp [World.cell?,hr3]
         have hbd := (Array.getElem?_eq_some_iff.1 hd1).1
         have hzr := (Array.getElem?_eq_some_iff.1 hr3).1
         have HD1 := hid hd1
         have HR3 := hid hr3
         have HX := hid (And.intro hst3 hn3)
         clear hd1 hr3 hst3 hn3 hW3
         gi_wp2_with fail
         refine round_heldS (S := TwoS 12 14 (fun X => X.cell? ⟨W4.heap.size + 1 + 1,1,none⟩ = some (.slice lb (Al.lefts q).length lc) ∧ X.cell? ⟨W4.heap.size + 1 + 1,3,none⟩ = some (.string (bs (Al.form (Al.lefts q))))) (fun X => X.cell? ⟨A.heap.size,0,none⟩ = some (.int .i64 r.index) ∧ X.cell? ⟨A.heap.size,3,none⟩ = some (.string (bs r.to_)))) (by kernel_rfl) (by kernel_rfl) (fun ⟨_,_,h⟩ => h) ?_
         simp only [List.size_toArray,List.length_cons,List.length_nil,Nat.reduceAdd]
         intro hc
         have S0 : TwoS 12 14 (fun X => X.cell? ⟨W4.heap.size + 1 + 1,1,none⟩ = some (.slice lb (Al.lefts q).length lc) ∧ X.cell? ⟨W4.heap.size + 1 + 1,3,none⟩ = some (.string (bs (Al.form (Al.lefts q))))) (fun X => X.cell? ⟨A.heap.size,0,none⟩ = some (.int .i64 r.index) ∧ X.cell? ⟨A.heap.size,3,none⟩ = some (.string (bs r.to_))) (Array.replicate 15 false) A3.drew.drew := ⟨.inr ⟨d1,d3⟩,.inr ⟨p0',p3'⟩⟩
         refine wpAnyS_take (i := 0) (v := .pointer (some ⟨W4.heap.size + 1 + 1,1,none⟩)) rfl (by kernel_rfl) (by kernel_rfl) (by kernel_rfl) (fun _ _ _ h => h) (fun _ _ => TwoS.set_ (by decide) (by decide) _ _) hc (by rfl) (fun wx hx => ?_) S0 (fun hc S0 => ?_)
         ·go_simp
         simp only [tk1,tk3,Act.put,tk4,tk5,tk6]
         refine wpAnyS_take (i := 1) (v := .slice lb (Al.lefts q).length lc) rfl (by kernel_rfl) (by kernel_rfl) (by kernel_rfl) (fun _ _ _ h => h) (fun _ _ => TwoS.set_ (by decide) (by decide) _ _) hc (by rfl) (fun wx hx => ?_) S0 (fun hc S0 => ?_)
         ·obtain ⟨g,g'⟩ := hx.left (by kernel_rfl)
          go_simp
         simp only [tk1,tk2,tk3,Act.put,tk4,tk5,tk6]
         refine wpAnyS_take (i := 2) (v := .pointer (some ⟨A.heap.size,0,none⟩)) rfl (by kernel_rfl) (by kernel_rfl) (by kernel_rfl) (fun _ _ _ h => h) (fun _ _ => TwoS.set_ (by decide) (by decide) _ _) hc (by rfl) (fun wx hx => ?_) S0 (fun hc S0 => ?_)
         ·go_simp
         simp only [tk1,tk2,tk3,Act.put,tk4,tk5,tk6]
         refine wpAnyS_take (i := 3) (v := .int .i64 r.index) rfl (by kernel_rfl) (by kernel_rfl) (by kernel_rfl) (fun _ _ _ h => h) (fun _ _ => TwoS.set_ (by decide) (by decide) _ _) hc (by rfl) (fun wx hx => ?_) S0 (fun hc S0 => ?_)
         ·obtain ⟨g,g'⟩ := hx.right (by kernel_rfl)
          go_simp
         simp only [tk1,tk2,tk3,Act.put,tk4,tk5,tk6]
         refine wpAnyS_take (i := 6) (v := .pointer (some ⟨W4.heap.size + 1 + 1,3,none⟩)) rfl (by kernel_rfl) (by kernel_rfl) (by kernel_rfl) (fun _ _ _ h => h) (fun _ _ => TwoS.set_ (by decide) (by decide) _ _) hc (by rfl) (fun wx hx => ?_) S0 (fun hc S0 => ?_)
         ·go_simp
         simp only [tk1,tk2,tk3,Act.put,tk4,tk5,tk6]
         refine wpAnyS_take (i := 7) (v := .string (bs (Al.form (Al.lefts q)))) rfl (by kernel_rfl) (by kernel_rfl) (by kernel_rfl) (fun _ _ _ h => h) (fun _ _ => TwoS.set_ (by decide) (by decide) _ _) hc (by rfl) (fun wx hx => ?_) S0 (fun hc S0 => ?_)
         ·obtain ⟨g,g'⟩ := hx.left (by kernel_rfl)
          go_simp
         simp only [tk1,tk2,tk3,Act.put,tk4,tk5,tk6]
         refine wpAnyS_take (i := 8) (v := .pointer (some ⟨A.heap.size,3,none⟩)) rfl (by kernel_rfl) (by kernel_rfl) (by kernel_rfl) (fun _ _ _ h => h) (fun _ _ => TwoS.set_ (by decide) (by decide) _ _) hc (by rfl) (fun wx hx => ?_) S0 (fun hc S0 => ?_)
         ·go_simp
         simp only [tk1,tk2,tk3,Act.put,tk4,tk5,tk6]
         refine wpAnyS_take (i := 9) (v := .string (bs r.to_)) rfl (by kernel_rfl) (by kernel_rfl) (by kernel_rfl) (fun _ _ _ h => h) (fun _ _ => TwoS.set_ (by decide) (by decide) _ _) hc (by rfl) (fun wx hx => ?_) S0 (fun hc S0 => ?_)
         ·obtain ⟨g,g'⟩ := hx.right (by kernel_rfl)
          go_simp
         simp only [tk1,tk2,tk3,Act.put,tk4,tk5,tk6]
         refine wpAnyS_take (i := 10) (v := .string (bs (Al.form (Al.lefts q)) ++ bs r.to_)) rfl (by kernel_rfl) (by kernel_rfl) (by kernel_rfl) (fun _ _ _ h => h) (fun _ _ => TwoS.set_ (by decide) (by decide) _ _) hc (by rfl) (fun wx hx => ?_) S0 (fun hc S0 => ?_)
         ·go_simp
         simp only [tk1,tk2,tk3,Act.put,tk4,tk5,tk6]
         refine onI (i := 4) rfl hc (fun K' hK => ?_)
         go_simp
         refine hK.out _ _ ⟨.inr ⟨?_,?_⟩,.inr ⟨?_,?_⟩⟩ (fun hc => ?_)
         ·exact (World.cell?_alloc_lt _ _ _ hbd).trans d1
         ·exact (World.cell?_alloc_lt _ _ _ hbd).trans d3
         ·exact (World.cell?_alloc_lt _ _ _ hzr).trans p0'
         ·exact (World.cell?_alloc_lt _ _ _ hzr).trans p3'
         clear hK K'
         obtain ⟨i0,hi0,hz0,hz1,hz2'⟩ := info_parts info_int
         have hown1 := ((hd2.alloc (.cells #[.int .i64 r.index] 3)).drew).drew
         refine wpAnyS_law (i := 5) rfl (by kernel_rfl) hc (fun K' hK => ?_)
         refine step_append_lies _ rfl _ _ 90 rfl (W4.heap.size + 1 + 2) 3 i0 (.int .i64 0) 1 8 Tryz.underlying90 hi0 hz0 hz1 hz2' rfl (by decide) _ _ _ rfl hown1 ⟨A3.heap.size,0,none⟩ 1 1 [.int .i64 r.index] rfl rfl (cell_one_new _ _ _) (by simp [Value.oneCell']) (by decide) (by unfold maxLen; omega) (by omega) (by simp; omega) (A3.heap.size + 1) (by simp) ?_
         intro g cap' w4 hown4 hgr4 hat hlt4
         have hA3s : W4.heap.size + 1 + 2 ≤ A3.heap.size := by omega
         have far4 : ∀ (x : Nat) (o : Obj),A3.heap[x]? = some o → (∀ cs,o ≠ .cells cs 3 (0,0)) → w4.heap[x]? = some o := fun x o ho hn =>
          (hgr4.block x (by show x < (A3.alloc _).heap.size; rw [World.size_alloc]; have := (Array.getElem?_eq_some_iff.1 ho).1; omega) (fun e => by
           obtain ⟨_,cs,h1⟩ := own_cells hd2 e.symm
           rw [ho] at h1; cases h1; exact hn cs rfl)).trans ((Below.heap_alloc A3 _ x (Array.getElem?_eq_some_iff.1 ho).1).trans ho)
         have bd4 := far4 _ _ HD1.out (fun cs h => by cases h)
         have br4 := far4 _ _ HR3.out (fun cs h => by cases h)
         have x1 : w4.cell? ⟨W4.heap.size + 1 + 1,1,none⟩ = some (.slice lb (Al.lefts q).length lc) := by simp [World.cell?,bd4]
         have x3 : w4.cell? ⟨W4.heap.size + 1 + 1,3,none⟩ = some (.string (bs (Al.form (Al.lefts q)))) := by simp [World.cell?,bd4]
         have f1 : w4.frozen? ⟨W4.heap.size + 1 + 1,1,none⟩ = false := by simp [World.frozen?,bd4]
         have f3 : w4.frozen? ⟨W4.heap.size + 1 + 1,3,none⟩ = false := by simp [World.frozen?,bd4]
         have y0 : w4.cell? ⟨A.heap.size,0,none⟩ = some (.int .i64 r.index) := by simp [World.cell?,br4]
         have y3 : w4.cell? ⟨A.heap.size,3,none⟩ = some (.string (bs r.to_)) := by simp [World.cell?,br4]
         refine hK.out _ _ ⟨.inr ⟨x1,x3⟩,.inr ⟨y0,y3⟩⟩ (fun hc => ?_)
         clear hK K'
         simp only [tk1,tk2,tk3,Act.put,tk4,tk5,tk6]
         refine onI (i := 11) rfl hc (fun K' hK => ?_)
         go_simp
         refine hK.out _ _ ⟨.inr ⟨x1,x3⟩,.inr ⟨y0,y3⟩⟩ (fun hc => ?_)
         clear hK K'
         refine onI (i := 12) rfl hc (fun K' hK => ?_)
         go_simp
         have hne1 : ¬ A.heap.size = W4.heap.size + 1 + 1 := by omega
         have hne2 : ¬ W4.heap.size + 1 + 1 = A.heap.size := by omega
         have y0' : (w4.setCell ⟨W4.heap.size + 1 + 1,1,none⟩ (.slice (some ⟨g,0,none⟩) ((Al.lefts q).length + 1) cap')).cell? ⟨A.heap.size,0,none⟩ = some (.int .i64 r.index) := by
          rw [World.cell?_setCell_other _ _ _ _ (by intro h; simp only [Addr.mk.injEq] at h; omega)]; exact y0
         have y3' : (w4.setCell ⟨W4.heap.size + 1 + 1,1,none⟩ (.slice (some ⟨g,0,none⟩) ((Al.lefts q).length + 1) cap')).cell? ⟨A.heap.size,3,none⟩ = some (.string (bs r.to_)) := by
          rw [World.cell?_setCell_other _ _ _ _ (by intro h; simp only [Addr.mk.injEq] at h; omega)]; exact y3
         refine hK.out _ _ ⟨.inl rfl,.inr ⟨y0',y3'⟩⟩ (fun hc => ?_)
         clear hK K'
         refine onI (i := 13) rfl hc (fun K' hK => ?_)
         go_simp
         refine hK.out _ _ ⟨.inl rfl,.inr ⟨y0',y3'⟩⟩ (fun hc => ?_)
         clear hK K'
         refine onI (i := 14) rfl hc (fun K' hK => ?_)
         go_simp
         refine hK.out _ _ ⟨.inl rfl,.inl rfl⟩ (fun hc => ?_)
         clear hK K'
         refine wpAnyS_done (by kernel_rfl) ?_ _
         obtain ⟨w6,hw6⟩ := exq ((w4.setCell ⟨W4.heap.size + 1 + 1,1,none⟩ (.slice (some ⟨g,0,none⟩) ((Al.lefts q).length + 1) cap')).setCell ⟨W4.heap.size + 1 + 1,3,none⟩ (.string (bs (Al.form (Al.lefts q)) ++ bs r.to_)))
         rw [← hw6]
         have hset : ∀ x,x ≠ W4.heap.size + 1 + 1 → w6.heap[x]? = w4.heap[x]? := fun x h1 => by
          rw [hw6]; exact (Below.heap_setCell _ ⟨W4.heap.size + 1 + 1,3,none⟩ _ x h1).trans (Below.heap_setCell _ ⟨W4.heap.size + 1 + 1,1,none⟩ _ x h1)
         have b6 : w6.heap[W4.heap.size + 1 + 1]? = some (.cells #[.int .i64 (Al.cost w Al.zero),.slice (some ⟨g,0,none⟩) ((Al.lefts q).length + 1) cap',.slice rb (Al.rights q).length rc,.string (bs (Al.form (Al.lefts q)) ++ bs r.to_)] 101 (0,0)) := by
          rw [hw6]; simp [World.setCell,Array.getElem?_modify,bd4]
         have keep6 : ∀ {v : Value} {n : Nat} {xs : List Value},w4.ownsRow (W4.heap.size + 1 + 2) 3 1 v n xs → w6.ownsRow (W4.heap.size + 1 + 2) 3 1 v n xs := fun h => by
          rw [hw6]; exact kept_at (kept_at h (set_grown_at _ _ 1 _) (by omega)) (set_grown_at _ _ 3 _) (by omega)
         have hr4' : w4.ownsRow (W4.heap.size + 1 + 2) 3 1 (.slice rb (Al.rights q).length rc) (Al.rights q).length (intsV (Al.rights q)) := by
          refine (((hd3.alloc (.cells #[.int .i64 r.index] 3)).drew).drew).kept hgr4 ?_
          cases hv : Value.ownBlock (.slice rb (Al.rights q).length rc) with
          | none => exact .inl rfl
          | some x => exact .inr (fun e => HD4.out x e.symm hv)
         have hdis : ∀ x,Value.ownBlock (.slice (some ⟨g,0,none⟩) ((Al.lefts q).length + 1) cap') = some x → Value.ownBlock (.slice rb (Al.rights q).length rc) ≠ some x := fun x hx hy => by
          obtain rfl : g = x := by simpa [Value.ownBlock] using hx
          rcases hat with h | h
          ·exact HD4.out _ h hy
          ·have := hd3.lt _ hy; omega
         have hs64 : w6.heap.size = w4.heap.size := by rw [hw6]; simp [World.setCell]
         have sz34 : A3.heap.size ≤ w4.heap.size := Nat.le_trans (by show A3.heap.size ≤ (A3.alloc _).heap.size; rw [World.size_alloc]; omega) hgr4.size
         have hb6 : Below (W4.heap.size + 1) Wk w6 := by
          have h4 : Below (W4.heap.size + 1) Wk w4 := (((HH.out.1.below.alloc (by omega) (.cells #[.int .i64 r.index] 3)).drew).drew).grown hgr4 (by show W4.heap.size + 1 ≤ (A3.alloc _).heap.size; rw [World.size_alloc]; omega) (fun x e => by have := (own_cells hd2 e).1; omega)
          rw [hw6]
          exact (h4.setCell (p := ⟨W4.heap.size + 1 + 1,1,none⟩) (by simp) _).setCell (p := ⟨W4.heap.size + 1 + 1,3,none⟩) (by simp) _
         have far6 : ∀ (x : Nat) (o : Obj),x ≠ W4.heap.size + 1 + 1 → A3.heap[x]? = some o → (∀ cs,o ≠ .cells cs 3 (0,0)) → w6.heap[x]? = some o := fun x o h1 h2 h3 => (hset x h1).trans (far4 x o h2 h3)
         have FIN := hid (show KeepsFrom w2.heap.size A3 w6 ∧ w6.heap[A.heap.size + 1]? = some (.cells (stC s').toArray 207 (0,0)) ∧ w6.heap[W4.heap.size + 1]? = some (.cells (stC s).toArray 207 (0,0)) ∧
           (∃ lv rv,w6.heap[W4.heap.size + 1 + 1]? = some (.cells #[.int .i64 (Al.cost w Al.zero),lv,rv,.string (bs (Al.form (Al.lefts (q ++ [(true,r)]))))] 101 (0,0)) ∧
            w6.ownsRow (W4.heap.size + 1 + 2) 3 1 lv (Al.lefts (q ++ [(true,r)])).length (intsV (Al.lefts (q ++ [(true,r)]))) ∧
            w6.ownsRow (W4.heap.size + 1 + 2) 3 1 rv (Al.rights (q ++ [(true,r)])).length (intsV (Al.rights (q ++ [(true,r)]))) ∧ (∀ x,lv.ownBlock = some x → rv.ownBlock ≠ some x)) ∧
           Below (W4.heap.size + 1) Wk w6 ∧ (∀ D ∈ Ds,w6.heap[D]? = some (.deferred (some []))) by
          refine ⟨⟨by omega,fun x o hx ho hn => far6 x o (by omega) ho (fun cs h => by rw [h] at hn; cases hn)⟩,far6 _ _ (by omega) HX.out.2 (fun cs h => by cases h),far6 _ _ (by omega) HX.out.1 (fun cs h => by cases h),⟨_,_,?_,?_,?_,hdis⟩,hb6,
           fun D hD => far6 D _ (by have := (HH.out.1.marks D hD).1; omega) (HH.out.1.marks D hD).2 (fun cs h => by cases h)⟩
          ·rw [hq.out.1,b6]
           have : bs (Al.form (Al.lefts q ++ [r])) = bs (Al.form (Al.lefts q)) ++ bs r.to_ := by
            refine (bs_ext ?_).symm
            simp [Al.form,bs]
           rw [this]
          ·rw [hq.out.1,List.length_append]
           unfold intsV
           rw [List.map_append]
           exact keep6 hown4
          ·rw [hq.out.2]
           exact keep6 hr4')
         clear hw6 hset b6 keep6 hr4' hdis hs64 sz34 hb6 far6 far4 hown1 hown4 hgr4 hat bd4 br4 x1 x3 f1 f3 y0 y3 y0' y3' hc S0
         gi_wp2
         gi_meet
         case rel => exact FIN.out
        | false =>
         have hlt : ¬ s.i < s'.i := of_decide_eq_false hb66
         have hlt' : ¬ (s.i : Int) < (s'.i : Int) := by omega
         clear hb66
         have hq := hid (show Al.lefts (q ++ [(false,r)]) = Al.lefts q ∧ Al.rights (q ++ [(false,r)]) = Al.rights q ++ [r] by
          simp [Al.lefts,Al.rights])
         obtain ⟨hW3,-,-,-,hst3,hr3,hn3⟩ := HH.out
         have hlen : (Al.rights q).length ≤ 100 := by
          have h1 := hW3.len
          have h2 := HN0.out
          have h3 := hf.small.left
          have h4 := hf.small.right
          have h5 : (Al.rights q).length ≤ q.length := by unfold Al.rights; rw [List.length_map]; exact List.length_filter_le _ _
          have h6 : Al.meas w Al.zero = w.left.letters.length + w.right.letters.length := rfl
          omega
         have d2 : A3.cell? ⟨W4.heap.size + 1 + 1,2,none⟩ = some (.slice rb (Al.rights q).length rc) := by simp [World.cell?,hd1]
         have p0' : A3.cell? ⟨A.heap.size,0,none⟩ = some (.int .i64 r.index) := by simp [World.cell?,hr3]
         have hbd := (Array.getElem?_eq_some_iff.1 hd1).1
         have hzr := (Array.getElem?_eq_some_iff.1 hr3).1
         have HD1 := hid hd1
         have HR3 := hid hr3
         have HX := hid (And.intro hst3 hn3)
         obtain ⟨i0,hi0,hz0,hz1,hz2'⟩ := info_parts info_int
         have hown1 := (hd3.alloc (.cells #[.int .i64 r.index] 3)).drew
         clear hd1 hr3 hst3 hn3 hW3
         gi_wp2_with (gi_at_builtin; refine wpListIn_append_lies _ rfl _ _ 90 rfl (W4.heap.size + 1 + 2) 3 i0 (.int .i64 0) 1 8 Tryz.underlying90 hi0 hz0 hz1 hz2' rfl (by decide) _ _ _ rfl hown1 ⟨A3.heap.size,0,none⟩ 1 1 [.int .i64 r.index] rfl rfl (cells_new rfl) (fun x hx => by simp at hx; subst hx; rfl) (by decide) ?c3 ?c4 ?c5 ?_)
         case c3 => unfold maxLen; omega
         case c4 => omega
         case c5 => omega
         intro g5 c5 w5 hown5 hgr5 hat5
         obtain ⟨a5,ha5⟩ : ∃ a5 : Option Addr,a5 = some ⟨g5,0,none⟩ := ⟨_,rfl⟩
         rw [← ha5] at hown5
         rw [← ha5]
         have HA5 := hid (And.intro ha5 hat5)
         clear ha5 hat5
         have far5 : ∀ (x : Nat) (o : Obj),A3.heap[x]? = some o → (∀ cs,o ≠ .cells cs 3 (0,0)) → w5.heap[x]? = some o := fun x o ho hn =>
          (hgr5.block x (by show x < (A3.alloc _).heap.size; rw [World.size_alloc]; have := (Array.getElem?_eq_some_iff.1 ho).1; omega) (fun e => by
           obtain ⟨_,cs,h1⟩ := own_cells hd3 e.symm
           rw [ho] at h1; cases h1; exact hn cs rfl)).trans ((Below.heap_alloc A3 _ x (Array.getElem?_eq_some_iff.1 ho).1).trans ho)
         have bd5 := far5 _ _ HD1.out (fun cs h => by cases h)
         have x2 : w5.cell? ⟨W4.heap.size + 1 + 1,2,none⟩ = some (.slice rb (Al.rights q).length rc) := by simp [World.cell?,bd5]
         have f2 : w5.frozen? ⟨W4.heap.size + 1 + 1,2,none⟩ = false := by simp [World.frozen?,bd5]
         have HB5 := hid bd5
         have HO5 := hid (And.intro hown5 hgr5)
         have HF5 := hid far5
         clear bd5 hown5 hgr5 far5 hown1 hi0 hz0 hz1 hz2'
         gi_wp2
         gi_meet
         case rel =>
          obtain ⟨hown5,hgr5⟩ := HO5.out
          have hset : ∀ x,x ≠ W4.heap.size + 1 + 1 → (w5.setCell ⟨W4.heap.size + 1 + 1,2,none⟩ (.slice a5 ((Al.rights q).length + 1) c5)).heap[x]? = w5.heap[x]? := fun x h1 => Below.heap_setCell _ ⟨W4.heap.size + 1 + 1,2,none⟩ _ x h1
          have sz35 : A3.heap.size ≤ w5.heap.size := Nat.le_trans (by show A3.heap.size ≤ (A3.alloc _).heap.size; rw [World.size_alloc]; omega) hgr5.size
          have far6 : ∀ (x : Nat) (o : Obj),x ≠ W4.heap.size + 1 + 1 → A3.heap[x]? = some o → (∀ cs,o ≠ .cells cs 3 (0,0)) → (w5.setCell ⟨W4.heap.size + 1 + 1,2,none⟩ (.slice a5 ((Al.rights q).length + 1) c5)).heap[x]? = some o := fun x o h1 h2 h3 => (hset x h1).trans (HF5.out x o h2 h3)
          have hl5 : w5.ownsRow (W4.heap.size + 1 + 2) 3 1 (.slice lb (Al.lefts q).length lc) (Al.lefts q).length (intsV (Al.lefts q)) := by
           refine ((hd2.alloc (.cells #[.int .i64 r.index] 3)).drew).kept hgr5 ?_
           cases hv : Value.ownBlock (.slice lb (Al.lefts q).length lc) with
           | none => exact .inl rfl
           | some x => exact .inr (fun e => HD4.out x hv e.symm)
          have h4 : Below (W4.heap.size + 1) Wk w5 := ((HH.out.1.below.alloc (by omega) (.cells #[.int .i64 r.index] 3)).drew).grown hgr5 (by show W4.heap.size + 1 ≤ (A3.alloc _).heap.size; rw [World.size_alloc]; omega) (fun x e => by have := (own_cells hd3 e).1; omega)
          refine ⟨⟨by simp [World.setCell]; omega,fun x o hx ho hn => far6 x o (by omega) ho (fun cs h => by rw [h] at hn; cases hn)⟩,far6 _ _ (by omega) HX.out.2 (fun cs h => by cases h),far6 _ _ (by omega) HX.out.1 (fun cs h => by cases h),
           ⟨.slice lb (Al.lefts q).length lc,.slice a5 ((Al.rights q).length + 1) c5,?_,?_,?_,?_⟩,h4.setCell (p := ⟨W4.heap.size + 1 + 1,2,none⟩) (by simp) _,
           fun D hD => far6 D _ (by have := (HH.out.1.marks D hD).1; omega) (HH.out.1.marks D hD).2 (fun cs h => by cases h)⟩
          ·rw [hq.out.1]
           simp [World.setCell,Array.getElem?_modify,HB5.out]
          ·rw [hq.out.1]
           exact kept_at hl5 (set_grown_at _ _ 2 _) (by omega)
          ·rw [hq.out.2,List.length_append]
           unfold intsV
           rw [List.map_append]
           exact kept_at hown5 (set_grown_at _ _ 2 _) (by omega)
          ·intro x hx hy
           obtain ⟨ha5,hat5⟩ := HA5.out
           rw [ha5] at hy
           obtain rfl : g5 = x := by simpa [Value.ownBlock] using hy
           rcases hat5 with h | h
           ·exact HD4.out _ hx h
           ·have := hd2.lt _ hx
            have h' : g5 = A3.heap.size + 1 := by rw [h]
            omega
       case rest =>
       obtain ⟨hkf,hn6,hst6,⟨lv,rv,hd6,ho6,hp6,hdd⟩,hb6,hm6⟩ := hcut
       rename World => A6
       have hR6 := hid (And.intro hkf (And.intro hd6 (And.intro ho6 (And.intro hp6 (And.intro hdd (And.intro hb6 hm6))))))
       have n0' : A6.cell? ⟨A.heap.size + 1,0,none⟩ = some (.int .i64 s'.i) := by simp [World.cell?,hn6,stC]
       have n1' : A6.cell? ⟨A.heap.size + 1,1,none⟩ = some (.int .i64 s'.j) := by simp [World.cell?,hn6,stC]
       have n2' : A6.cell? ⟨A.heap.size + 1,2,none⟩ = some (.string (bs s'.ahead)) := by simp [World.cell?,hn6,stC]
       have n3' : A6.cell? ⟨A.heap.size + 1,3,none⟩ = some (.bool s'.right) := by simp [World.cell?,hn6,stC]
       have t0 : A6.cell? ⟨W4.heap.size + 1,0,none⟩ = some (.int .i64 s.i) := by simp [World.cell?,hst6,stC]
       have t1 : A6.cell? ⟨W4.heap.size + 1,1,none⟩ = some (.int .i64 s.j) := by simp [World.cell?,hst6,stC]
       have t2 : A6.cell? ⟨W4.heap.size + 1,2,none⟩ = some (.string (bs s.ahead)) := by simp [World.cell?,hst6,stC]
       have t3 : A6.cell? ⟨W4.heap.size + 1,3,none⟩ = some (.bool s.right) := by simp [World.cell?,hst6,stC]
       have g0 : A6.frozen? ⟨W4.heap.size + 1,0,none⟩ = false := by simp [World.frozen?,hst6]
       have g1 : A6.frozen? ⟨W4.heap.size + 1,1,none⟩ = false := by simp [World.frozen?,hst6]
       have g2 : A6.frozen? ⟨W4.heap.size + 1,2,none⟩ = false := by simp [World.frozen?,hst6]
       have g3 : A6.frozen? ⟨W4.heap.size + 1,3,none⟩ = false := by simp [World.frozen?,hst6]
       have HST6 := hid hst6
       clear hkf hn6 hst6 hd6 ho6 hp6 hdd hb6 hm6 hd1 hd2 hd3 n0 n1 n2 n3 s0 s1 s2 s3 p0 pc
       gi_wp2_with fail
       obtain ⟨A7,hA7⟩ := exq ((((A6.setCell ⟨W4.heap.size + 1,0,none⟩ (.int .i64 s'.i)).setCell ⟨W4.heap.size + 1,1,none⟩ (.int .i64 s'.j)).setCell ⟨W4.heap.size + 1,2,none⟩ (.string (bs s'.ahead))).setCell ⟨W4.heap.size + 1,3,none⟩ (.bool s'.right))
       rw [← hA7]
       obtain ⟨hkf,hd6,ho6,hp6,hdd,hb6,hm6⟩ := hR6.out
       obtain ⟨hW3,hpick,hall,hsub3,-,-,-⟩ := HH.out
       obtain ⟨hmem,hok',hme,hdir,hin',hokS⟩ := HM.out
       have far7 : ∀ x,x ≠ W4.heap.size + 1 → A7.heap[x]? = A6.heap[x]? := fun x h => by
        rw [hA7,Below.heap_setCell _ ⟨W4.heap.size + 1,3,none⟩ _ x h,Below.heap_setCell _ ⟨W4.heap.size + 1,2,none⟩ _ x h,Below.heap_setCell _ ⟨W4.heap.size + 1,1,none⟩ _ x h,Below.heap_setCell _ ⟨W4.heap.size + 1,0,none⟩ _ x h]
       have hst7 : A7.heap[W4.heap.size + 1]? = some (.cells (stC s').toArray 207 (0,0)) := by
        rw [hA7]; simp [World.setCell,Array.getElem?_modify,HST6.out,stC]
       have keep7 : ∀ {v : Value} {n : Nat} {xs : List Value},A6.ownsRow (W4.heap.size + 1 + 2) 3 1 v n xs → A7.ownsRow (W4.heap.size + 1 + 2) 3 1 v n xs := fun h => by
        rw [hA7]
        exact kept_at (kept_at (kept_at (kept_at h (set_grown_at _ _ 0 _) (by omega)) (set_grown_at _ _ 1 _) (by omega)) (set_grown_at _ _ 2 _) (by omega)) (set_grown_at _ _ 3 _) (by omega)
       have hb7 : Below (W4.heap.size + 1) Wk A7 := by
        rw [hA7]
        exact (((hb6.setCell (p := ⟨W4.heap.size + 1,0,none⟩) (by simp) _).setCell (p := ⟨W4.heap.size + 1,1,none⟩) (by simp) _).setCell (p := ⟨W4.heap.size + 1,2,none⟩) (by simp) _).setCell (p := ⟨W4.heap.size + 1,3,none⟩) (by simp) _
       have hs76 : A7.heap.size = A6.heap.size := by rw [hA7]; simp [World.setCell]
       obtain ⟨k',rfl⟩ : ∃ k',k = k' + 1 := ⟨k - 1,by have := hW3.meas; omega⟩
       have hpk : Al.pick w s = some (r,s') := by
        rw [hpick,HMV.out,List.find?_cons_of_pos (by simpa using HEQ.out)]
       have hpath := Al.path_next HD0.out hpk k'
       refine ⟨⟨by have := hkf.1; omega,fun x o hx ho hn => (far7 x (by omega)).trans (hkf.2 x o (by omega) ho hn)⟩,rfl,k',s',q ++ [(b66,r)],by omega,⟨hst7,⟨lv,rv,(far7 _ (by omega)).trans hd6,keep7 ho6,keep7 hp6,hdd⟩,?_,by have := hW3.meas; omega,?_,?_,hokS,hin',?_,hb7,hW3.once,fun D hD => ⟨(hW3.marks D hD).1,(far7 D (by have := (hW3.marks D hD).1; omega)).trans (hm6 D hD)⟩⟩⟩
       ·rw [hW3.path,hpath,hb66]; simp
       ·have := hW3.len
        simp only [List.length_append,List.length_cons,List.length_nil]; omega
       ·have h1 := hW3.flen
        have h2 := (hf.sizes r (one_mem (Al.mem_moves.1 hmem).1)).2
        have h3 : (Al.form (Al.lefts (q ++ [(b66,r)]))).length ≤ (Al.form (Al.lefts q)).length + r.to_.length := by
         cases b66 <;> simp [Al.lefts,Al.form]
        simp only [List.length_append,List.length_cons,List.length_nil]; omega
       ·have h1 := HEQ.out
        have h2 := (hf.good.one s |>.cost r (Al.mem_moves.1 hmem).1).1
        have h3 := hW3.cheap
        omega
      ·have hne : (r.cost + Al.cost w s' != Al.cost w s) = true := by simpa using heq
       have HEQ := hid heq
       clear heq
       gi_wp2_with fail
       refine ⟨⟨HBD.out.size,fun q o _ ho _ => (HBD.out.block q (Array.getElem?_eq_some_iff.1 ho).1).trans ho⟩,⟨HBD.out.size,fun q o _ ho _ => (HBD.out.block q (Array.getElem?_eq_some_iff.1 ho).1).trans ho,fun h => h.below HBD.out⟩,⟨HH.out.1.grown (Below.grows HBD.out none) (fun r e => by cases e),?_,?_,?_⟩⟩
       ·rw [HH.out.2.1,HMV.out,List.find?_cons_of_neg (by simpa using HEQ.out)]
       ·intro p hp
        exact HH.out.2.2.1 p (by rw [HMV.out]; exact List.mem_cons_of_mem _ hp)
       ·intro p hp
        exact HH.out.2.2.2.1 p (HSUB.out p hp)
end Go.Proofs.YtdghfenbfbdijaaGreatDoor
namespace Al
end Al
namespace Go.Proofs.YtdghfenbfbdijaaGreatDoor
open Go.RowKit Go.Lib Go.Maps
end Go.Proofs.YtdghfenbfbdijaaGreatDoor
namespace Al
end Al
namespace Go.Proofs.YtdghfenbfbdijaaGreatDoor
open Go.RowKit Go.Lib Go.Maps
theorem DerAt.below {W W' : World} {d : Al.D} {v : List Value} (h : DerAt W d v) (hb : Below W.heap.size W W') : DerAt W' d v := by
 obtain ⟨lv,rv,e,h1,h2⟩ := h
 exact ⟨lv,rv,e,h1.below hb,h2.below hb⟩
theorem str_beq (a b : List UInt8) : ((bs a).toList == (bs b).toList) = decide (a = b) := by
 rw [ByteArray.toList_eq,ByteArray.toList_eq]
 show ((bs a).data.toList == (bs b).data.toList) = _
 rw [bs_list,bs_list,Bool.eq_iff_iff]
 simp
end Go.Proofs.YtdghfenbfbdijaaGreatDoor
namespace Al
def fewB (t : Rw.Table) (ws : List (List UInt8)) : Bool :=
 decide (t.rules.length ≤ 80) && decide (t.drops.length ≤ 40) && decide (t.ends.length ≤ 40) && t.rules.all (fun r => decide (r.from_.length ≤ 12) && decide (r.to_.length ≤ 12)) &&
  t.drops.all (fun d => decide (d.word.length ≤ 60)) && t.ends.all (fun d => decide (d.word.length ≤ 60)) && ws.all (fun x => decide (x.length ≤ 30))
end Al
namespace Go.Proofs.YtdghfenbfbdijaaGreatDoor
open Go.RowKit Go.Lib Go.Maps
structure TableRaw (w : World) (t : Rw.Table) (v : Value) : Prop where
 at_ : ∃ vr vd ve,v = .agg #[vr,vd,ve,.int .i64 t.drop,.int .i64 t.order,.int .i64 t.initial] ∧ SlOf w vr 4 ruleCells t.rules ∧ SlOf w vd 3 dropCells t.drops ∧ SlOf w ve 3 dropCells t.ends
 rules : ∀ r ∈ t.rules,(Lit.int .i64 r.script).wf = true ∧ r.from_.length ≤ maxLen ∧ r.to_.length ≤ maxLen
 drops : ∀ d ∈ t.drops,(Lit.int .i64 d.script).wf = true ∧ d.word.length ≤ maxLen
 ends : ∀ d ∈ t.ends,(Lit.int .i64 d.script).wf = true ∧ d.word.length ≤ maxLen
theorem TableRaw.below {w w' : World} {t : Rw.Table} {v : Value} (h : TableRaw w t v) (hb : Below w.heap.size w w') : TableRaw w' t v := by
 obtain ⟨⟨vr,vd,ve,e,h1,h2,h3⟩,h4,h5,h6⟩ := h
 exact ⟨⟨vr,vd,ve,e,h1.below hb,h2.below hb,h3.below hb⟩,h4,h5,h6⟩
theorem TableRaw.few {w : World} {t : Rw.Table} {v : Value} {ws : List (List UInt8)} (h : TableRaw w t v) (hf : Al.fewB t ws = true) : TableAt w t v := by
 unfold Al.fewB at hf
 simp only [Bool.and_eq_true,decide_eq_true_eq,List.all_eq_true] at hf
 obtain ⟨⟨⟨⟨⟨⟨f1,f2⟩,f3⟩,f4⟩,f5⟩,f6⟩,f7⟩ := hf
 exact ⟨h.at_,fun r hr => ⟨(h.rules r hr).1,by have := f4 r hr; omega,by have := f4 r hr; omega⟩,fun d hd => ⟨(h.drops d hd).1,by have := f5 d hd; omega⟩,fun d hd => ⟨(h.ends d hd).1,by have := f6 d hd; omega⟩,by omega,by omega,by omega⟩
theorem all_step {α : Type} {p : α → Bool} {l : List α} {n : Nat} {x : α} (h : (l.take n).all p = true) (hx : l[n]? = some x) : (l.take (n + 1)).all p = p x := by
 obtain ⟨hn,he⟩ := List.getElem?_eq_some_iff.1 hx
 rw [List.take_succ_eq_append_getElem hn,he,List.all_append,h]
 simp
theorem all_stop {α : Type} {p : α → Bool} {l : List α} {n : Nat} (h : (l.take (n + 1)).all p = false) : l.all p = false := by
 rw [← List.take_append_drop (n + 1) l,List.all_append,h]; rfl
end Go.Proofs.YtdghfenbfbdijaaGreatDoor
