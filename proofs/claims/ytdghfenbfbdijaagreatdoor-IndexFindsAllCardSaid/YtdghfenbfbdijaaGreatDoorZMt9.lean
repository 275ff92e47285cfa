/-
 match.Best: the cost of the cheapest match of two names. Conditions: the table and the second name are valid; lengths; the library's tables.
-/
import Derived.Test.YtdghfenbfbdijaaGreatDoorZMMtC
namespace Go.Proofs.YtdghfenbfbdijaaGreatDoor
open Go.RowKit Go.Lib Go.Maps
def CheapQ (t : Rw.Table) (a : Int) (x : List UInt8) (b : Int) (y : List UInt8) (W : World) (e : Ending) (W' : World) : Prop :=
 Below W.heap.size W W' ∧ ∃ (k l r c g : Int) (la : Option Addr) (ln lc : Nat) (ra : Option Addr) (rn rc : Nat) (s : ByteArray) (ok : Bool),
  e = .returned (.tuple #[.agg #[.int .i64 0,.int .i64 0,.int .i64 k,.int .i64 l,.int .i64 r,.int .i64 c,.int .i64 g,.slice la ln lc,.slice ra rn rc,.string s],.bool ok]) ∧
  ((ok = true ∧ Mt.pairCost t a x b y = c) ∨ (ok = false ∧ Mt.pairCost t a x b y = 100000))
theorem cheap_flat (t : Rw.Table) (vr vd ve : Value) (a : Int) (x : List UInt8) (b : Int) (y : List UInt8) (u v : Mt.W) (xv yv : Value) (W : World) (ht : TableAt W t (.agg #[vr,vd,ve,.int .i64 t.drop,.int .i64 t.order,.int .i64 t.initial])) (hT : Tabs W)
  (hx : WordAt W u xv) (hy : WordAt W v yv) (hu : Mt.wordOf t a x = some u) (hv : Mt.wordOf t b y = some v) (h1 : x.length ≤ 1000000) (h2 : y.length ≤ 1000000) :
  Calls Tryz.prog 44 #[.agg #[vr,vd,ve,.int .i64 t.drop,.int .i64 t.order,.int .i64 t.initial],xv,yv] W (CheapQ t a x b y W) := by
 have hus := word_short hu ht.few.2.2 h1
 have hvs := word_short hv ht.few.2.2 h2
 refine (cheapest_any t vr vd ve u v xv yv W ht hT hx hy hus.few hvs.few (Mt.ways_ok hu hv) (ways_short hus hvs)).mono ?_
 rintro e W' ⟨hb,lv,rv,⟨la,ln,lc,rfl⟩,⟨ra,rn,rc,rfl⟩,rfl⟩
 have hpc : Mt.pairCost t a x b y = match Mt.cheapest (Mt.al t) t u v with | some p => p.cost | none => 100000 := by
  unfold Mt.pairCost
  rw [hu,hv]
  rfl
 cases hc : Mt.cheapest (Mt.al t) t u v with
 | none =>
  rw [hc] at hpc
  exact ⟨hb,0,0,0,0,0,none,0,0,none,0,0,⟨#[]⟩,false,rfl,.inr ⟨rfl,hpc⟩⟩
 | some p =>
  rw [hc] at hpc
  exact ⟨hb,_,_,_,_,_,_,_,_,_,_,_,_,true,rfl,.inl ⟨rfl,hpc⟩⟩
open Classical in
noncomputable def updF (F : Value → Option Value) (k v : Value) : Value → Option Value := fun x => if x = k then some v else F x
theorem updF_same {F : Value → Option Value} {k v : Value} : updF F k v k = some v := by unfold updF; rw [if_pos rfl]
theorem updF_other {F : Value → Option Value} {k v : Value} : ∀ y,y ≠ k → updF F k v y = F y := fun y h => by unfold updF; rw [if_neg h]
theorem updF_is {F : Value → Option Value} {k v : Value} (h : ∀ x u,F x = some u → PrV u) (hv : PrV v) : ∀ x u,updF F k v x = some u → PrV u := fun x u hu => by
 unfold updF at hu
 split at hu
 ·cases hu; exact hv
 ·exact h x u hu
def MBestP (t : Rw.Table) (n m : Li.Nm) (W : World) (e : Ending) (W' : World) : Prop :=
 Below W.heap.size W W' ∧ ((Li.nmOk n = false ∧ e = .returned (.tuple #[.agg #[.int .i64 0,.bool false,.slice none 0 0],.int .i64 1])) ∨
  (Li.nmOk n = true ∧ ∃ sw a k c,e = .returned (.tuple #[.agg #[.int .i64 (Mt.dist t n m),.bool sw,.slice a k c],.int .i64 0])))
theorem flat_row : ∀ ps : List (List Int × Value),ps.flatMap rowC = ps.map Prod.snd
 | [] => rfl
 | p :: ps => by rw [List.flatMap_cons,List.map_cons,flat_row ps]; rfl
theorem name_len {B : Nat} {t : Rw.Table} {n : Li.Nm} {us : List (Mt.W × Value × Value)} {wv dv : Value} {W : World} (h : NameR B t n us wv dv W) : us.length = n.words.length := by
 have := congrArg List.length h.words
 rwa [List.length_map,List.length_map] at this
theorem name_word {B : Nat} {t : Rw.Table} {n : Li.Nm} {us : List (Mt.W × Value × Value)} {wv dv : Value} {W : World} (h : NameR B t n us wv dv W) {i : Nat} (hi : i < us.length) :
  ∃ s u a c b d,n.words[i]? = some s ∧ Mt.wordOf t n.script s = some u ∧ us[i]? = some (u,.slice a u.vars.length c,.slice b u.letters.length d) := by
 obtain ⟨⟨u,va,vl⟩,hu⟩ : ∃ p,us[i]? = some p := ⟨_,List.getElem?_eq_getElem hi⟩
 obtain ⟨s,hs⟩ : ∃ s,n.words[i]? = some s := ⟨_,List.getElem?_eq_getElem (by rw [← name_len h]; exact hi)⟩
 have h1 := congrArg (fun l => l[i]?) h.words
 simp only [List.getElem?_map,hu,hs,Option.map_some] at h1
 have h2 := h.each _ (List.mem_of_getElem? hu)
 obtain ⟨a,c,e1⟩ := ownsRow_slice h2.vars
 obtain ⟨b,d,e2⟩ := ownsRow_slice h2.lets
 dsimp only at e1 e2
 subst e1
 subst e2
 exact ⟨s,u,a,c,b,d,hs,(Option.some.inj h1).symm,hu⟩
set_option maxRecDepth 100000 in
set_option maxHeartbeats 16000000 in
theorem mbest_any (t : Rw.Table) (tv : Value) (n m : Li.Nm) (vn vm : Value) (W : World) (ht : TableAt W t tv) (hT : Tabs W) (hv : Rw.valid t = true) (hto : 0 ≤ t.order ∧ t.order ≤ 1000000)
  (hn : SlOf W vn 1 strC n.words) (hnw : ∀ s ∈ n.words,s.length ≤ 1000000) (hm : SlOf W vm 1 strC m.words) (hmk : Li.nmOk m = true) :
  Calls Tryz.prog 28 #[tv,.agg #[.int .i64 n.script,vn],.agg #[.int .i64 m.script,vm]] W (MBestP t n m W) := by
 obtain ⟨ii,hii,hz0,hz1,hz2⟩ := info_parts Tryz.infoIntG
 have HTA := hid ht
 have HTT := hid hT
 have HV := hid hv
 have HTO := hid hto
 have HN := hid (And.intro hn hnw)
 have HM := hid (And.intro hm hmk)
 obtain ⟨⟨vr,vd,ve,rfl,⟨ar,cr,rfl,-⟩,⟨ad,cd,rfl,-⟩,⟨ae,ce,rfl,-⟩⟩,-⟩ := ht
 obtain ⟨na,nc,rfl,-⟩ := hn
 obtain ⟨ma,mc,rfl,-⟩ := hm
 have HMF := hid (Li.nm_few hmk)
 obtain ⟨Wa,hWa⟩ := exq (W.alloc (.cells #[.slice ar t.rules.length cr,.slice ad t.drops.length cd,.slice ae t.ends.length ce,.int .i64 t.drop,.int .i64 t.order,.int .i64 t.initial] 25))
 obtain ⟨Wb,hWb⟩ := exq (Wa.alloc (.cells #[.int .i64 n.script,.slice na n.words.length nc] 46))
 obtain ⟨Wc,hWc⟩ := exq (Wb.alloc (.cells #[.int .i64 m.script,.slice ma m.words.length mc] 46))
 obtain ⟨W1,hW1⟩ := exq (Wc.alloc (.cells #[.int .i64 0,.bool false,.slice none 0 0] 65))
 have sa : Wa.heap.size = W.heap.size + 1 := by rw [hWa,World.size_alloc]
 have sb : Wb.heap.size = W.heap.size + 2 := by rw [hWb,World.size_alloc,sa]
 have sc : Wc.heap.size = W.heap.size + 3 := by rw [hWc,World.size_alloc,sb]
 have ba := bnew hWa
 have bb := bnew hWb
 have bc := bnew hWc
 have bd := bnew hW1
 have T1 := hid (show Blk W1 W.heap.size 25 [.slice ar t.rules.length cr,.slice ad t.drops.length cd,.slice ae t.ends.length ce,.int .i64 t.drop,.int .i64 t.order,.int .i64 t.initial] by
  have : Blk Wa W.heap.size 25 [.slice ar t.rules.length cr,.slice ad t.drops.length cd,.slice ae t.ends.length ce,.int .i64 t.drop,.int .i64 t.order,.int .i64 t.initial] := by rw [hWa]; exact Blk.new W _ _
  exact ((this.below bb).below bc).below bd)
 have N1 := hid (show Blk W1 (W.heap.size + 1) 46 [.int .i64 n.script,.slice na n.words.length nc] by
  have : Blk Wb (W.heap.size + 1) 46 [.int .i64 n.script,.slice na n.words.length nc] := by rw [hWb,← sa]; exact Blk.new Wa _ _
  exact (this.below bc).below bd)
 have M1 := hid (show Blk W1 (W.heap.size + 2) 46 [.int .i64 m.script,.slice ma m.words.length mc] by
  have : Blk Wc (W.heap.size + 2) 46 [.int .i64 m.script,.slice ma m.words.length mc] := by rw [hWc,← sb]; exact Blk.new Wb _ _
  exact this.below bd)
 have R1 := hid (show Blk W1 (W.heap.size + 3) 65 [.int .i64 0,.bool false,.slice none 0 0] by rw [hW1,← sc]; exact Blk.new Wc _ _)
 have B1 := hid (Below.step (Below.step (Below.step ba bb) bc) bd)
 rw [hWc,hWb,hWa] at hW1
 have HNA := hid (nameOf_any t _ n _ W1 (HTA.out.below B1.out) (HTT.out.below B1.out) hv (HN.out.1.below B1.out) hnw)
 obtain ⟨t0,t1,t2,t3,t4,t5,tl⟩ := T1.out.cl6
 obtain ⟨n0,n1,nl⟩ := N1.out.cl2
 clear hT hv hto hnw hmk ba bb bc bd sa sb sc hWa hWb hWc
 go_enter Tryz.func28,Tryz.ntmps28
 go_upto_region 1 with (fail)
 try simp only [World.size_alloc]
 rw [← hW1]
 clear hW1
 go_wp2_with fail
 refine (HNA.out).mono ?_
 rintro e W2 ⟨hb2,hor⟩
 have B2 := hid (Below.step B1.out hb2)
 have T2 := hid (T1.out.below hb2)
 have M2 := hid (M1.out.below hb2)
 have R2 := hid (R1.out.below hb2)
 clear t0 t1 t2 t3 t4 t5 tl n0 n1 nl hb2 HNA
 rcases hor with ⟨hok,rfl⟩ | ⟨hok,us,xw,xd,rfl,hxr⟩
 ·have HOK := hid hok
  clear hok
  obtain ⟨X2,hX2⟩ := exq (W2.alloc (.cells #[.slice none 0 0,.slice none 0 0] 92))
  have bx := bnew hX2
  have HX := hid (show Blk X2 W2.heap.size 92 [.slice none 0 0,.slice none 0 0] by rw [hX2]; exact Blk.new _ _ _)
  have B3 := hid (Below.step B2.out bx)
  have T3 := hid (T2.out.below bx)
  have M3 := hid (M2.out.below bx)
  have R3 := hid (R2.out.below bx)
  obtain ⟨qx,hqx⟩ := exq (W2.heap.size)
  rw [← hqx] at HX
  go_upto_region 2 with (fail)
  rw [← hX2,← hqx]
  clear hX2 bx hqx
  have HMA := hid (nameOf_any t _ m _ X2 (HTA.out.below B3.out) (HTT.out.below B3.out) HV.out (HM.out.1.below B3.out) HMF.out.2.2.2)
  obtain ⟨t0,t1,t2,t3,t4,t5,tl⟩ := T3.out.cl6
  obtain ⟨m0,m1,ml⟩ := M3.out.cl2
  go_wp2_with fail
  refine (HMA.out).mono ?_
  rintro e W3 ⟨hb3,hor⟩
  obtain ⟨vs,yw,yd,rfl,hyr⟩ : ∃ vs yw yd,e = .returned (.tuple #[.agg #[yw,yd],.bool true]) ∧ NameR X2.heap.size t m vs yw yd W3 := by
   rcases hor with ⟨h,-⟩ | ⟨-,vs,yw,yd,h1,h2⟩
   ·have := HM.out.2; rw [h] at this; cases this
   ·exact ⟨vs,yw,yd,h1,h2⟩
  obtain ⟨yaw,ycw,rfl⟩ := ownsRow_slice hyr.row
  obtain ⟨yad,ycd,rfl⟩ := ownsRow_slice hyr.drops
  clear t0 t1 t2 t3 t4 t5 tl m0 m1 ml HMA
  obtain ⟨X3,hX3⟩ := exq (W3.alloc (.cells #[.slice yaw vs.length ycw,.slice yad (Mt.dropsN t m).length ycd] 92))
  have by_ := bnew hX3
  have HY := hid (show Blk X3 W3.heap.size 92 [.slice yaw vs.length ycw,.slice yad (Mt.dropsN t m).length ycd] by rw [hX3]; exact Blk.new _ _ _)
  have hb23 := Below.step hb3 by_
  have B4 := hid (Below.step B3.out hb23)
  have T4 := hid (T3.out.below hb23)
  have R4 := hid (R3.out.below hb23)
  have HX4 := hid (HX.out.below hb23)
  have HYR := hid (hyr.below by_)
  obtain ⟨qy,hqy⟩ := exq (W3.heap.size)
  rw [← hqy] at HY
  go_upto_region 3 with (fail)
  rw [← hX3,← hqy]
  clear hX3 by_ hqy hb3 hb23 hyr
  obtain ⟨r0,r1,r2,rf0,rf1,rf2,rl⟩ := R4.out.cf3
  go_wp2_with fail
  try simp only [Nat.add_assoc,Nat.reduceAdd]
  obtain ⟨W9,hW9⟩ := exq (((X3.setCell ⟨W.heap.size + 3,0,none⟩ (.int .i64 0)).setCell ⟨W.heap.size + 3,1,none⟩ (.bool false)).setCell ⟨W.heap.size + 3,2,none⟩ (.slice none 0 0))
  rw [← hW9]
  have h9 : Blk W9 (W.heap.size + 3) 65 [.int .i64 0,.bool false,.slice none 0 0] := by rw [hW9]; exact ((R4.out.set 0 _).set 1 _).set 2 _
  have hb9 : Below W.heap.size W W9 := by rw [hW9]; exact ((B4.out.setCell (p := ⟨W.heap.size + 3,0,none⟩) (by simp) _).setCell (p := ⟨W.heap.size + 3,1,none⟩) (by simp) _).setCell (p := ⟨W.heap.size + 3,2,none⟩) (by simp) _
  refine post_cell_tmp rfl rfl (run_loadVar_row W9 (W.heap.size + 3) _ 65 _ _ _ h9 Tryz.underlying65 rfl (by kernel_rfl)) rfl rfl ?_
  exact ⟨hb9,.inl ⟨HOK.out,rfl⟩⟩
 have HOK := hid hok
 obtain ⟨xaw,xcw,rfl⟩ := ownsRow_slice hxr.row
 obtain ⟨xad,xcd,rfl⟩ := ownsRow_slice hxr.drops
 clear hok
 obtain ⟨X2,hX2⟩ := exq (W2.alloc (.cells #[.slice xaw us.length xcw,.slice xad (Mt.dropsN t n).length xcd] 92))
 have bx := bnew hX2
 have HX := hid (show Blk X2 W2.heap.size 92 [.slice xaw us.length xcw,.slice xad (Mt.dropsN t n).length xcd] by rw [hX2]; exact Blk.new _ _ _)
 have B3 := hid (Below.step B2.out bx)
 have T3 := hid (T2.out.below bx)
 have M3 := hid (M2.out.below bx)
 have R3 := hid (R2.out.below bx)
 have hxr2 := hxr.below bx
 obtain ⟨qx,hqx⟩ := exq (W2.heap.size)
 rw [← hqx] at HX
 go_upto_region 2 with (fail)
 rw [← hX2,← hqx]
 clear hX2 bx hqx
 have HMA := hid (nameOf_any t _ m _ X2 (HTA.out.below B3.out) (HTT.out.below B3.out) HV.out (HM.out.1.below B3.out) HMF.out.2.2.2)
 obtain ⟨t0,t1,t2,t3,t4,t5,tl⟩ := T3.out.cl6
 obtain ⟨m0,m1,ml⟩ := M3.out.cl2
 go_wp2_with fail
 refine (HMA.out).mono ?_
 rintro e W3 ⟨hb3,hor⟩
 obtain ⟨vs,yw,yd,rfl,hyr⟩ : ∃ vs yw yd,e = .returned (.tuple #[.agg #[yw,yd],.bool true]) ∧ NameR X2.heap.size t m vs yw yd W3 := by
  rcases hor with ⟨h,-⟩ | ⟨-,vs,yw,yd,h1,h2⟩
  ·have := HM.out.2; rw [h] at this; cases this
  ·exact ⟨vs,yw,yd,h1,h2⟩
 obtain ⟨yaw,ycw,rfl⟩ := ownsRow_slice hyr.row
 obtain ⟨yad,ycd,rfl⟩ := ownsRow_slice hyr.drops
 clear t0 t1 t2 t3 t4 t5 tl m0 m1 ml HMA
 obtain ⟨X3,hX3⟩ := exq (W3.alloc (.cells #[.slice yaw vs.length ycw,.slice yad (Mt.dropsN t m).length ycd] 92))
 have by_ := bnew hX3
 have HY := hid (show Blk X3 W3.heap.size 92 [.slice yaw vs.length ycw,.slice yad (Mt.dropsN t m).length ycd] by rw [hX3]; exact Blk.new _ _ _)
 have hb23 := Below.step hb3 by_
 have B4 := hid (Below.step B3.out hb23)
 have T4 := hid (T3.out.below hb23)
 have R4 := hid (R3.out.below hb23)
 have HX4 := hid (HX.out.below hb23)
 have HYR := hid (hyr.below by_)
 have HXR := hid (hxr2.below hb23)
 clear hxr hxr2
 obtain ⟨qy,hqy⟩ := exq (W3.heap.size)
 rw [← hqy] at HY
 go_upto_region 3 with (fail)
 rw [← hX3,← hqy]
 clear hX3 by_ hqy hb3 hb23 hyr
 have HFW := hid (Li.nm_few HOK.out)
 have hXL := name_len HXR.out
 have hYL := name_len HYR.out
 obtain ⟨N,hNN⟩ := exq (us.length)
 obtain ⟨M,hMM⟩ := exq (vs.length)
 have HL := hid (show N = us.length ∧ M = vs.length ∧ us.length = n.words.length ∧ vs.length = m.words.length ∧ 0 < N ∧ N ≤ 6 ∧ M ≤ 6 by
  have h1 := HFW.out
  have h2 := HMF.out
  omega)
 rw [← hNN] at HX4 ⊢
 rw [← hMM] at HY ⊢
 clear hXL hYL hNN hMM
 have x0 := HX4.out.cell (j := 0) rfl
 have xz := HX4.out.lt
 have hN6 : N ≤ 6 := HL.out.2.2.2.2.2.1
 have hM6 : M ≤ 6 := HL.out.2.2.2.2.2.2
 have hmm := @run_makeMap Tryz.prog
 obtain ⟨Wm,hWm⟩ := exq (X3.alloc (.map #[] 0))
 obtain ⟨W5,hW5⟩ := exq (Wm.alloc (.cells #[.map (some X3.heap.size)] 95))
 have sm : Wm.heap.size = X3.heap.size + 1 := by rw [hWm,World.size_alloc]
 have bm := bnew hWm
 have b5 := bnew hW5
 have P5 := hid (show Blk W5 (X3.heap.size + 1) 95 [.map (some X3.heap.size)] by rw [hW5,← sm]; exact Blk.new Wm _ _)
 have F5 := hid (show PairsAt W5 X3.heap.size 0 from PairsAt.below ⟨_,by rw [hWm]; exact MapF.made X3 Tryz.prog 106,fun x v h => by cases h⟩ b5)
 have B5 := hid (Below.step bm b5)
 have Z5 := hid (show W5.heap.size = X3.heap.size + 2 by rw [hW5,World.size_alloc,sm])
 rw [hWm] at hW5
 clear sm bm b5 hWm
 go_upto_region 6 with (fail)
 try simp only [World.size_alloc]
 rw [← hW5]
 clear hW5 hmm
 have hms := make_intsS N (by omega) W5
 have xb := HX4.out.below B5.out
 have x0 := xb.cell (j := 0) rfl
 have xz := xb.lt
 obtain ⟨W6,hW6⟩ := exq (W5.alloc (.cells (Array.replicate N (.slice none 0 0)) 90))
 have b6 := bnew hW6
 obtain ⟨mb,hmb⟩ := exq (X3.heap.size)
 obtain ⟨G,hG⟩ := exq (W5.heap.size)
 have HG6 := hid (show Blk W6 G 90 (List.replicate N (.slice none 0 0)) by
  rw [hG,hW6]
  have := Blk.new W5 90 (List.replicate N (.slice none 0 0))
  rwa [List.toArray_replicate] at this)
 have B6 := hid (Below.step B5.out b6)
 have HGZ := hid (show G = mb + 2 ∧ X3.heap.size = mb by rw [hG,hmb]; exact ⟨Z5.out,rfl⟩)
 have P6 := hid (P5.out.below b6)
 have F6 := hid (F5.out.below b6)
 rw [← hmb] at P6 F6
 go_upto_region 7 with (fail)
 rw [← hW6,← hG,← hmb]
 clear hW6 hms x0 xz xb b6 hG hmb
 have xb := HX4.out.below B6.out
 have x0 := xb.cell (j := 0) rfl
 have xz := xb.lt
 clear xb
 go_wp2_with fail
 go_loopw [53] (fun iv wr => ∃ (i : Nat) (ps : List (List Int × Value)),i ≤ N ∧ iv = .int .i64 i ∧ Hid (ps.map Prod.fst = (Mt.costM t n m).take i ∧ ps.length = i) ∧ Hid (Blk wr G 90 (ps.map Prod.snd ++ List.replicate (N - i) (.slice none 0 0))) ∧ Hid (∀ p ∈ ps,wr.ownsRow (G + 1) 3 1 p.2 p.1.length (p.1.flatMap intC1)) ∧
  Hid (Blk wr (mb + 1) 95 [.map (some mb)]) ∧ Hid (PairsAt wr mb (i * M)) ∧ Hid (Below X3.heap.size X3 wr)) (fun iv _ => N - (RowKit.intOf iv).toNat)
 case atStart => exact ⟨0,[],Nat.zero_le _,rfl,hid ⟨rfl,rfl⟩,HG6.out,hid (fun p hp => by cases hp),P6.out,hid (by rw [Nat.zero_mul]; exact F6.out),B6.out⟩
 case round =>
  clear x0 xz
  obtain ⟨i,ps,hi,rfl,HPS,HG,HPR,HPB,HPM,HB⟩ := hrel
  rename World => wr
  by_cases hlt : i < N
  ·obtain ⟨s1,u,ua,uc,la,lc,hs1,hu,hui⟩ := name_word HXR.out (i := i) (by have := HL.out; omega)
   have hxr := HXR.out.below HB.out
   obtain ⟨g1,o1,rfl,hr⟩ : ∃ g o,xaw = some ⟨g,o,none⟩ ∧ RowOf wr g o 3 wdC us := by
    obtain ⟨a',c',e',-,-,hr⟩ := SlOf.own (cells := wdC) hxr.row (fun _ _ => rfl)
    simp only [Value.slice.injEq] at e'
    obtain ⟨rfl,-,rfl⟩ := e'
    exact hr (by have := HL.out; omega)
   have s0 := hr.2 i _ hui 0 _ rfl
   have s1' := hr.2 i _ hui 1 _ rfl
   have s2 := hr.2 i _ hui 2 _ rfl
   rw [Nat.add_zero] at s0
   have hg1 := hr.1
   have HS1 := hid (And.intro hs1 hu)
   have HUI := hid hui
   have i0 : (0 : Int) ≤ (i : Int) := by omega
   have i1 : (i : Int) < (N : Int) := by omega
   obtain ⟨A1,hA1⟩ := exq (wr.alloc (.cells #[.int .i64 u.script,.slice ua u.vars.length uc,.slice la u.letters.length lc] 99))
   have ba := bnew hA1
   have HU1 := hid (show Blk A1 wr.heap.size 99 [.int .i64 u.script,.slice ua u.vars.length uc,.slice la u.letters.length lc] by rw [hA1]; exact Blk.new _ _ _)
   obtain ⟨q1,hq1⟩ := exq (wr.heap.size)
   rw [← hq1] at HU1
   have HBA := hid ba
   have HB1 := hid (show Below X3.heap.size X3 A1 from HB.out.trans (ba.mono HB.out.size))
   have HQ1 := hid (show G < q1 ∧ q1 < A1.heap.size ∧ q1 = wr.heap.size by
    have := HG.out.lt
    have := HU1.out.lt
    omega)
   clear hr hs1 hu hui hxr
   go_upto_region 10 with (fail)
   rw [← hA1,← hq1]
   clear hA1 ba hq1 s0 s1' s2 hg1
   have HG1 := hid (show Blk A1 G 90 (ps.map Prod.snd ++ .slice none 0 0 :: List.replicate (N - i - 1) (.slice none 0 0)) by
    have h := HG.out.below HBA.out
    rwa [show N - i = (N - i - 1) + 1 by omega,List.replicate_succ] at h)
   have HPR1 := hid (show ∀ p ∈ ps,A1.ownsRow (G + 1) 3 1 p.2 p.1.length (p.1.flatMap intC1) from fun p hp => ownsRow_below (HPR.out p hp) HBA.out)
   have HPL := hid (show ∀ p ∈ ps,∀ b,p.2.ownBlock = some b → b < A1.heap.size from fun p hp b e => ((HPR1.out p hp).lt b e).2)
   have HPB1 := hid (HPB.out.below HBA.out)
   have HPM1 := hid (HPM.out.below HBA.out)
   have yb := HY.out.below HB1.out
   have y0 := yb.cell (j := 0) rfl
   have yz := yb.lt
   clear yb
   go_wp2_with fail
   go_loopw [61] (fun jv wx => ∃ (j : Nat) (ra : Option Addr) (rc : Nat),j ≤ M ∧ jv = .int .i64 j ∧ Hid (Blk wx G 90 (ps.map Prod.snd ++ .slice ra j rc :: List.replicate (N - i - 1) (.slice none 0 0))) ∧ Hid (wx.ownsRow A1.heap.size 3 1 (.slice ra j rc) j (((m.words.take j).map fun y => Mt.pairCost t n.script s1 m.script y).flatMap intC1)) ∧
    Hid (∀ p ∈ ps,wx.ownsRow (G + 1) 3 1 p.2 p.1.length (p.1.flatMap intC1)) ∧ Hid (Blk wx (mb + 1) 95 [.map (some mb)]) ∧ Hid (PairsAt wx mb (i * M + j)) ∧ Hid (Below X3.heap.size X3 wx) ∧ Hid (Blk wx q1 99 [.int .i64 u.script,.slice ua u.vars.length uc,.slice la u.letters.length lc]) ∧ Hid (A1.heap.size ≤ wx.heap.size)) (fun jv _ => M - (RowKit.intOf jv).toNat)
   case atStart => exact ⟨0,none,0,Nat.zero_le _,rfl,HG1.out,hid (World.ownsRow_nil _ _ _ _),HPR1.out,HPB1.out,HPM1.out,HB1.out,HU1.out,hid (Nat.le_refl _)⟩
   case round =>
    clear y0 yz
    obtain ⟨j,ra,rc,hj,rfl,HGX,HRX,HPX,HPBX,HPMX,HBX,HUX,HAX⟩ := hrel
    rename World => wx
    by_cases hjm : j < M
    ·obtain ⟨s2,v,va,vc,ka,kc,hs2,hv,hvi⟩ := name_word HYR.out (i := j) (by have := HL.out; omega)
     have hyr := HYR.out.below HBX.out
     have hxr := HXR.out.below HBX.out
     obtain ⟨g2,o2,rfl,hr⟩ : ∃ g o,yaw = some ⟨g,o,none⟩ ∧ RowOf wx g o 3 wdC vs := by
      obtain ⟨a',c',e',-,-,hr⟩ := SlOf.own (cells := wdC) hyr.row (fun _ _ => rfl)
      simp only [Value.slice.injEq] at e'
      obtain ⟨rfl,-,rfl⟩ := e'
      exact hr (by have := HL.out; omega)
     have v0 := hr.2 j _ hvi 0 _ rfl
     have v1 := hr.2 j _ hvi 1 _ rfl
     have v2 := hr.2 j _ hvi 2 _ rfl
     rw [Nat.add_zero] at v0
     have hg2 := hr.1
     have HS2 := hid (And.intro hs2 hv)
     have j0 : (0 : Int) ≤ (j : Int) := by omega
     have j1 : (j : Int) < (M : Int) := by omega
     obtain ⟨A2,hA2⟩ := exq (wx.alloc (.cells #[.int .i64 v.script,.slice va v.vars.length vc,.slice ka v.letters.length kc] 99))
     have ba := bnew hA2
     have hU2 : Blk A2 wx.heap.size 99 [.int .i64 v.script,.slice va v.vars.length vc,.slice ka v.letters.length kc] := by rw [hA2]; exact Blk.new _ _ _
     have hB2 : Below X3.heap.size X3 A2 := HBX.out.trans (ba.mono HBX.out.size)
     have hBW := B4.out.trans (hB2.mono B4.out.size)
     have HCH := hid (cheap_flat t _ _ _ n.script s1 m.script s2 u v _ _ A2 (HTA.out.below hBW) (HTT.out.below hBW) ((hxr.each _ (List.mem_of_getElem? HUI.out)).below ba).at_ ((hyr.each _ (List.mem_of_getElem? hvi)).below ba).at_ HS1.out.2 hv (HN.out.2 s1 (List.mem_of_getElem? HS1.out.1)) (HMF.out.2.2.2 s2 (List.mem_of_getElem? hs2)))
     have HBA2 := hid ba
     go_upto_region 13 with (fail)
     rw [← hA2]
     clear v0 v1 v2 hg2 hr hs2 hv hvi hyr hxr hA2
     obtain ⟨q2,hq2⟩ := exq (wx.heap.size)
     have HQ2 := hid hq2
     rw [← hq2] at hU2 ⊢
     have tb := T4.out.below hB2
     obtain ⟨t0,t1,t2,t3,t4,t5,tl⟩ := tb.cl6
     have ub := HUX.out.below ba
     obtain ⟨u0,u1,u2,ul⟩ := ub.cl3
     obtain ⟨v0,v1,v2,vl⟩ := hU2.cl3
     clear tb ub hq2 ba hB2 hBW
     go_wp2_with fail
     refine (HCH.out).mono ?_
     rintro e A3 ⟨hb3,k,l,r,c,g,xa,xn,xc,ya,yn,yc,sf,ok,rfl,hor⟩
     clear t0 t1 t2 t3 t4 t5 tl u0 u1 u2 ul v0 v1 v2 vl hU2 HCH
     obtain ⟨A4,hA4⟩ := exq (A3.alloc (.cells #[.int .i64 0,.int .i64 0,.int .i64 k,.int .i64 l,.int .i64 r,.int .i64 c,.int .i64 g,.slice xa xn xc,.slice ya yn yc,.string sf] 103))
     have bb := bnew hA4
     have hk4 : Blk A4 A3.heap.size 103 [.int .i64 0,.int .i64 0,.int .i64 k,.int .i64 l,.int .i64 r,.int .i64 c,.int .i64 g,.slice xa xn xc,.slice ya yn yc,.string sf] := by rw [hA4]; exact Blk.new _ _ _
     have hbx := Below.step HBA2.out (Below.step hb3 bb)
     have HQB := hid (show wx.heap.size ≤ A3.heap.size from Nat.le_trans HBA2.out.size hb3.size)
     go_upto_region 14 with (fail)
     rw [← hA4]
     obtain ⟨qb,hqb⟩ := exq (A3.heap.size)
     rw [← hqb] at hk4 HQB ⊢
     clear hA4 bb hb3 hqb
     obtain ⟨p0,p1,-⟩ := hk4.cl2
     have p5 := hk4.cell (j := 5) rfl
     have pf0 := hk4.frozen 0
     have pf1 := hk4.frozen 1
     have pf5 := hk4.frozen 5
     have pz := hk4.lt
     refine hor.elim (fun hor => ?C1) (fun hor => ?C2)
     case' C1 =>
      obtain ⟨rfl,hpc⟩ := hor
      go_upto_region 17 with (fail)
      obtain ⟨Z,hZ⟩ := exq ((A4.setCell ⟨qb,0,none⟩ (.int .i64 i)).setCell ⟨qb,1,none⟩ (.int .i64 j))
      rw [← hZ]
      obtain ⟨cc,hcc⟩ := exq (c)
      have hZB : Blk Z qb 103 (prF i j k l r cc g xa xn xc ya yn yc sf) := by rw [hZ,hcc]; exact (hk4.set 0 _).set 1 _
      have hbZ : Below wx.heap.size wx Z := by rw [hZ]; exact (hbx.setCell (p := ⟨qb,0,none⟩) HQB.out _).setCell (p := ⟨qb,1,none⟩) HQB.out _
     case' C2 =>
      obtain ⟨rfl,hpc⟩ := hor
      go_upto_region 17 with (fail)
      obtain ⟨Z,hZ⟩ := exq (((A4.setCell ⟨qb,5,none⟩ (.int .i64 100000)).setCell ⟨qb,0,none⟩ (.int .i64 i)).setCell ⟨qb,1,none⟩ (.int .i64 j))
      rw [← hZ]
      obtain ⟨cc,hcc⟩ : ∃ x : Int,x = 100000 := ⟨_,rfl⟩
      have hZB : Blk Z qb 103 (prF i j k l r cc g xa xn xc ya yn yc sf) := by rw [hZ,hcc]; exact ((hk4.set 5 _).set 0 _).set 1 _
      have hbZ : Below wx.heap.size wx Z := by rw [hZ]; exact ((hbx.setCell (p := ⟨qb,5,none⟩) HQB.out _).setCell (p := ⟨qb,0,none⟩) HQB.out _).setCell (p := ⟨qb,1,none⟩) HQB.out _
     all_goals
      rw [← hcc] at hpc
      clear hcc
      obtain ⟨kl,hkl⟩ := i2_some (i := (i : Int)) (j := (j : Int)) (by omega) (by omega)
      obtain ⟨F,hF,hFV⟩ := HPMX.out.below hbZ
      have HKL := hid hkl
      have HFV := hid hFV
      have hmp := (HPBX.out.below hbZ).cell (j := 0) rfl
      have hmz := (HPBX.out.below hbZ).lt
      obtain ⟨z0,z1,z2,z3,z4,z5,z6,z7,z8,z9,zz⟩ := hZB.cl10
      have HZB := hid hZB
      have HBZ := hid hbZ
      have HF := hid hF
      have hnm : i * M + j ≤ 100 := by
       have : i * M ≤ 6 * 6 := Nat.mul_le_mul (by omega) hM6
       omega
      clear hZ hbZ hZB hkl hFV hk4 hbx p0 p1 p5 pf0 pf1 pf5 pz
      go_upto_region 18 with (at_mapUpdate; refine wpList_put _ rfl _ _ _ 95 103 rfl i2_keyed Tryz.underlying95 rfl hF (by unfold maxLen; omega) _ _ kl rfl rfl HKL.out (updF F (.agg #[.int .i64 i,.int .i64 j]) (.agg #[.int .i64 i,.int .i64 j,.int .i64 k,.int .i64 l,.int .i64 r,.int .i64 cc,.int .i64 g,.slice xa xn xc,.slice ya yn yc,.string sf])) updF_same updF_other ?_; intro A5 hM5 hg5)
      have hom : ∃ o : Obj,Z.heap[mb]? = some o ∧ o.isCells = false := HF.out.no_cells
      have hr2 : ∀ r',(some mb : Option Nat) = some r' → ∃ o : Obj,Z.heap[r']? = some o ∧ o.isCells = false := fun r' e => by cases e; exact hom
      have G5 := (HGX.out.below HBZ.out).rec_ hg5 hr2
      have R5 := owns_rec (ownsRow_below HRX.out HBZ.out) hg5 hr2
      have HR5 := hid (show ∀ p ∈ ps,A5.ownsRow (G + 1) 3 1 p.2 p.1.length (p.1.flatMap intC1) from fun p hp => owns_rec (ownsRow_below (HPX.out p hp) HBZ.out) hg5 hr2)
      have HP5 := hid ((HPBX.out.below HBZ.out).rec_ hg5 hr2)
      have HM5 := hid (show PairsAt A5 mb (i * M + j + 1) from ⟨_,hM5,updF_is HFV.out ⟨_,_,_,_,_,_,_,_,_,_,_,_,_,_,rfl⟩⟩)
      have HB5 := hid (show Below X3.heap.size X3 A5 from (HBX.out.trans (HBZ.out.mono HBX.out.size)).grown hg5 (Nat.le_trans HBX.out.size HBZ.out.size) (fun r' e => by have := Option.some.inj e; have := HGZ.out.2; omega))
      have HU5 := hid ((HUX.out.below HBZ.out).rec_ hg5 hr2)
      have B5' := HZB.out.rec_ hg5 hr2
      have HZ5 := hid (show A1.heap.size ≤ A5.heap.size from Nat.le_trans HAX.out (Nat.le_trans HBZ.out.size hg5.size))
      have HG5 := hid G5
      have HRV5 := hid R5
      clear hF hmp hmz z0 z1 z2 z3 z4 z5 z6 z7 z8 z9 zz hM5 hom hr2 hg5 HF HKL
      have hpl : ps.length = i := HPS.out.2
      have gi : A5.cell? ⟨G,i,none⟩ = some (.slice ra j rc) := by
       refine G5.cell (j := i) ?_
       rw [List.getElem?_append_right (by rw [List.length_map]; omega),List.length_map,hpl,Nat.sub_self]
       rfl
      have gf := G5.frozen i
      have gz := G5.lt
      have y5 := B5'.cell (j := 5) rfl
      have yz := B5'.lt
      have hqg : ¬ ((Value.slice ra j rc).ownBlock = some qb ∨ qb = G) := by
       rintro (e | e)
       ·have := (HRX.out.lt _ e).2; have := HQB.out; omega
       ·have := HQB.out; have := HQ1.out; have := HAX.out; omega
      have hin : (i : Int) < (N : Int) := i1
      clear G5 R5 B5'
      refine wp_heldS (S := HeldC 11 (fun X => X.cell? ⟨G,i,none⟩ = some (.slice ra j rc)) (fun b => (Value.slice ra j rc).ownBlock = some b ∨ b = G) A5) (by kernel_rfl) ?_
      simp only [List.size_toArray,List.length_cons,List.length_nil,Nat.reduceAdd]
      intro hc
      have S0 : HeldC 11 (fun X => X.cell? ⟨G,i,none⟩ = some (.slice ra j rc)) (fun b => (Value.slice ra j rc).ownBlock = some b ∨ b = G) A5 (Array.replicate 12 false) A5.drew := ⟨.inr gi,(Tch.refl _ A5).step (Below.refl _ _).drew⟩
      refine tkI (i := 0) (v := .slice (some ⟨G,0,none⟩) N N) rfl hc (fun wx hx => ?_) S0 (fun hc S0 => ?_) (hSi := fun _ _ => HeldC.set_ (by decide) _ _)
      ·go_simp
      try simp only [tk1,tk3,Act.put,tk4,tk5,tk6]
      refine tkI (i := 1) (v := .int .i64 i) rfl hc (fun wx hx => ?_) S0 (fun hc S0 => ?_) (hSi := fun _ _ => HeldC.set_ (by decide) _ _)
      ·go_simp
      try simp only [tk1,tk2,tk3,Act.put,tk4,tk5,tk6]
      refine tkI (i := 2) (v := .slice (some ⟨G,0,none⟩) N N) rfl hc (fun wx hx => ?_) S0 (fun hc S0 => ?_) (hSi := fun _ _ => HeldC.set_ (by decide) _ _)
      ·go_simp
      try simp only [tk1,tk2,tk3,Act.put,tk4,tk5,tk6]
      refine tkI (i := 3) (v := .int .i64 i) rfl hc (fun wx hx => ?_) S0 (fun hc S0 => ?_) (hSi := fun _ _ => HeldC.set_ (by decide) _ _)
      ·go_simp
      try simp only [tk1,tk2,tk3,Act.put,tk4,tk5,tk6]
      refine tkI (i := 4) (v := .pointer (some ⟨G,i,none⟩)) rfl hc (fun wx hx => ?_) S0 (fun hc S0 => ?_) (hSi := fun _ _ => HeldC.set_ (by decide) _ _)
      ·go_simp
      try simp only [tk1,tk2,tk3,Act.put,tk4,tk5,tk6]
      refine tkI (i := 5) (v := .slice ra j rc) rfl hc (fun wx hx => ?_) S0 (fun hc S0 => ?_) (hSi := fun _ _ => HeldC.set_ (by decide) _ _)
      ·have y := hx.cee (n := 12) (by kernel_rfl)
       go_simp
      try simp only [tk1,tk2,tk3,Act.put,tk4,tk5,tk6]
      refine tkI (i := 6) (v := .pointer (some ⟨qb,5,none⟩)) rfl hc (fun wx hx => ?_) S0 (fun hc S0 => ?_) (hSi := fun _ _ => HeldC.set_ (by decide) _ _)
      ·go_simp
      try simp only [tk1,tk2,tk3,Act.put,tk4,tk5,tk6]
      refine tkI (i := 7) (v := .int .i64 cc) rfl hc (fun wx hx => ?_) S0 (fun hc S0 => ?_) (hSi := fun _ _ => HeldC.set_ (by decide) _ _)
      ·have y := (World.cell?_of_block (a := ⟨qb,5,none⟩) (hx.tee.block _ yz hqg)).trans y5
       go_simp
      try simp only [tk1,tk2,tk3,Act.put,tk4,tk5,tk6]
      obtain ⟨D,hD⟩ := exq (A5.drew)
      have hbD : Below A5.heap.size A5 D := by rw [hD]; exact (Below.refl _ A5).drew
      rw [← hD]
      clear S0 hD y5 yz
      refine onI (i := 8) rfl hc (fun K' hK => ?_)
      go_simp
      obtain ⟨D1,hD1⟩ := exq (D.alloc (.cells #[.int .i64 cc] 3))
      rw [← hD1]
      have hb1 : Below A5.heap.size A5 D1 := by rw [hD1]; exact Below.step hbD ((Below.refl _ D).alloc (Nat.le_refl _) _)
      have hn1 : Blk D1 D.heap.size 3 [.int .i64 cc] := by rw [hD1]; exact Blk.new _ _ _
      clear hD1
      refine hK.out _ _ ⟨.inr ((hb1.cell (p := ⟨G,i,none⟩) gz).trans gi),Tch.of_below hb1 _⟩ (fun hc => ?_)
      clear hK K'
      try simp only [tk1,tk2,tk3,Act.put,tk4,tk5,tk6]
      have hown := ownsRow_below HRV5.out hb1
      refine onI (i := 9) rfl hc (fun K' hK => ?_)
      refine wp_append_join _ _ 90 rfl A1.heap.size 3 ii (.int .i64 0) 1 8 Tryz.underlying90 hii hz0 hz1 hz2 rfl (by decide) _ _ _ rfl hown (some ⟨D.heap.size,0,none⟩) 1 1 [.int .i64 cc] rfl rfl (fun h => by cases h) (fun b hb => by cases hb; exact blk_news hn1) (by simp [Value.oneCell']) (by unfold maxLen; omega) (by omega) (by have := HZ5.out; have := hb1.size; omega) ?_
      intro v' D2 ho2 hg2 _
      have hG2 := blk_other (HG5.out.below hb1) hown hg2 (by decide)
      have g2i : D2.cell? ⟨G,i,none⟩ = some (.slice ra j rc) := by
       refine hG2.cell (j := i) ?_
       rw [List.getElem?_append_right (by rw [List.length_map]; omega),List.length_map,hpl,Nat.sub_self]
       rfl
      have g2f := hG2.frozen i
      have g2z := hG2.lt
      have hT2 := (Tch.of_below hb1 (fun b => (Value.slice ra j rc).ownBlock = some b ∨ b = G)).grown hg2 fun r' e => .inl (.inl e)
      refine hK.out _ _ ⟨.inr g2i,hT2⟩ (fun hc => ?_)
      clear hK K'
      try simp only [tk1,tk2,tk3,Act.put,tk4,tk5,tk6]
      obtain ⟨va2,vc2,rfl⟩ := ownsRow_slice ho2
      refine onI (i := 10) rfl hc (fun K' hK => ?_)
      go_simp
      refine hK.out _ _ ⟨.inr g2i,hT2⟩ (fun hc => ?_)
      clear hK K'
      try simp only [tk1,tk2,tk3,Act.put,tk4,tk5,tk6]
      refine onI (i := 11) rfl hc (fun K' hK => ?_)
      go_simp
      refine hK.out _ _ ⟨.inl rfl,hT2.setCell (a := ⟨G,i,none⟩) (.inl (.inr rfl)) _⟩ (fun hc => ?_)
      clear hK K'
      try simp only [tk1,tk2,tk3,Act.put,tk4,tk5,tk6]
      refine wpAnyS_done (by kernel_rfl) ?_ _
      obtain ⟨D3,hD3⟩ := exq (D2.setCell ⟨G,i,none⟩ (.slice va2 (j + 1) vc2))
      have hg3 := set_grown_at D2 G i (.slice va2 (j + 1) vc2)
      rw [← hD3] at hg3 ⊢
      have hcb : ∀ {b e vs},e ≠ 3 → b ≠ G → Blk A5 b e vs → Blk D3 b e vs := fun h1 h2 h => (blk_other (h.below hb1) hown hg2 h1).kept hg3 (fun e => h2 (Option.some.inj e).symm)
      have HG9 := hid (show Blk D3 G 90 (ps.map Prod.snd ++ .slice va2 (j + 1) vc2 :: List.replicate (N - i - 1) (.slice none 0 0)) by
       rw [hD3]
       have h := hG2.set i (.slice va2 (j + 1) vc2)
       rwa [List.set_append_right _ _ (by rw [List.length_map]; omega),List.length_map,hpl,Nat.sub_self,List.set_cons_zero] at h)
      have HR9 := hid (kept_at ho2 hg3 (by have := HQ1.out; omega))
      have HP9 := hid (show ∀ p ∈ ps,D3.ownsRow (G + 1) 3 1 p.2 p.1.length (p.1.flatMap intC1) from fun p hp => kept_at ((ownsRow_below (HR5.out p hp) hb1).kept hg2 (by
       cases hv : p.2.ownBlock with
       | none => exact .inl rfl
       | some z => exact .inr (fun e => by have := HPL.out p hp z hv; have := (hown.lt _ e.symm).1; omega))) hg3 (by omega))
      have HPB9 := hid (hcb (by decide) (by have := HGZ.out.1; omega) HP5.out)
      have HU9 := hid (hcb (by decide) (by have := HQ1.out; omega) HU5.out)
      have HM9 := hid (show PairsAt D3 mb (i * M + (j + 1)) by
       obtain ⟨F',h1,h2⟩ := HM5.out
       exact ⟨F',((h1.below hb1).kept hg2 (own_ne hown (by have := HGZ.out.1; have := HQ1.out; omega))).kept hg3 (fun e => by have := Option.some.inj e; have := HGZ.out.1; omega),h2⟩)
      have HB9 := hid (show Below X3.heap.size X3 D3 from ((HB5.out.trans (hb1.mono HB5.out.size)).grown hg2 (Nat.le_trans HB5.out.size hb1.size) (fun r' e => by have := (hown.lt _ e).1; have := HB1.out.size; omega)).grown hg3 (Nat.le_trans HB5.out.size (Nat.le_trans hb1.size hg2.size)) (fun r' e => by have := Option.some.inj e; have := HGZ.out; omega))
      have HA9 := hid (show A1.heap.size ≤ D3.heap.size from Nat.le_trans HZ5.out (Nat.le_trans hb1.size (Nat.le_trans hg2.size hg3.size)))
      clear hc hg2 hg3 ho2 hown hn1 hb1 hbD hG2 g2i g2f g2z hT2 hcb hD3 gi gf gz hqg
      go_wp2_with fail
      go_roundw
      case rel =>
       refine ⟨j + 1,va2,vc2,by omega,by go_num,HG9,hid ?_,HP9,HPB9,HM9,HB9,HU9,HA9⟩
       rw [List.take_add_one,HS2.out.1,List.map_append,List.flatMap_append]
       have h := HR9.out
       rw [← hpc] at h
       exact h
      case measure => simp [RowKit.intOf]; omega
    ·have hje : j = M := by omega
     have hjl : ¬ (j : Int) < (M : Int) := by omega
     have HJE := hid hje
     clear hje hjm
     go_wp2_with fail
     go_roundw
     case rel =>
      have hrow : ((m.words.take j).map fun y => Mt.pairCost t n.script s1 m.script y) = m.words.map fun y => Mt.pairCost t n.script s1 m.script y := by
       rw [List.take_of_length_le (by have := HL.out; have := HJE.out; omega)]
      have hre := HRX.out
      rw [hrow] at hre
      refine ⟨i + 1,ps ++ [(m.words.map fun y => Mt.pairCost t n.script s1 m.script y,.slice ra j rc)],by omega,by go_num,hid ⟨?_,by rw [List.length_append,HPS.out.2]; rfl⟩,hid ?_,hid (fun p hp => ?_),HPBX.out,hid ?_,HBX.out⟩
      ·rw [List.map_append,HPS.out.1,costM_take HS1.out.1]
       rfl
      ·have h := HGX.out
       rw [List.map_append,List.append_assoc]
       rwa [show N - (i + 1) = N - i - 1 by omega]
      ·rcases List.mem_append.1 hp with hp | hp
       ·exact HPX.out p hp
       ·rw [List.mem_singleton.1 hp]
        show wx.ownsRow (G + 1) 3 1 (.slice ra j rc) (m.words.map fun y => Mt.pairCost t n.script s1 m.script y).length _
        rw [List.length_map,show m.words.length = j by have := HL.out; have := HJE.out; omega]
        exact ownsRow_base hre (by have := HQ1.out; omega)
      ·have h := HPMX.out
       rw [HJE.out] at h
       rw [Nat.add_mul,Nat.one_mul]
       exact h
     case measure => simp [RowKit.intOf]; omega
  ·have hie : i = N := by omega
   have hil : ¬ (i : Int) < (N : Int) := by omega
   have HIE := hid hie
   have HPC := hid (show ps.map Prod.fst = Mt.costM t n m by
    have h := HPS.out.1
    rwa [List.take_of_length_le (by unfold Mt.costM; rw [List.length_map]; have := HL.out; omega)] at h)
   have hpl : ps.length = N := by rw [HPS.out.2,hie]
   have HPLN := hid hpl
   have HRA := hid (show RowsAt wr (.slice (some ⟨G,0,none⟩) N N) ps from ⟨by
    have h := HG.out
    rw [show N - i = 0 by omega,List.replicate_zero,List.append_nil] at h
    exact SlOf.block h (flat_row ps).symm (fun _ _ => rfl) hpl.symm (by unfold maxLen; omega),fun p hp => ⟨SlOf.own (HPR.out p hp) (fun _ _ => rfl),by
    have h1 : p.1 ∈ ps.map Prod.fst := List.mem_map_of_mem hp
    rw [HPC.out] at h1
    unfold Mt.costM at h1
    obtain ⟨s,-,hs⟩ := List.mem_map.1 h1
    rw [← hs,List.length_map]
    have := HL.out
    omega⟩⟩)
   have HXD := hid (SlOf.own (cells := intC1) (HXR.out.below HB.out).drops (fun _ _ => rfl))
   have HYD := hid (SlOf.own (cells := intC1) (HYR.out.below HB.out).drops (fun _ _ => rfl))
   have hdn : (Mt.dropsN t n).length = n.words.length := by unfold Mt.dropsN; rw [List.length_map]
   have hdm : (Mt.dropsN t m).length = m.words.length := by unfold Mt.dropsN; rw [List.length_map]
   have HOR := hid (ordered_any ps (Mt.dropsN t n) (Mt.dropsN t m) _ _ _ wr HRA.out HXD.out HYD.out (by rw [hpl]; omega) (by rw [hdn]; have := HL.out; omega) (by rw [hdm]; have := HL.out; omega))
   have HAB : Hid (∀ X,Below wr.heap.size wr X → Calls Tryz.prog 47 #[.slice (some ⟨G,0,none⟩) N N,.slice xad (Mt.dropsN t n).length xcd,.slice yad (Mt.dropsN t m).length ycd] X (AsgP (Mt.costM t n m) (Mt.dropsN t n) (Mt.dropsN t m) X)) := hid fun X hX => by
    have h := asgBest_any ps (Mt.dropsN t n) (Mt.dropsN t m) _ _ _ X (HRA.out.below hX) (HXD.out.below hX) (HYD.out.below hX) (by rw [HPLN.out]; have := HL.out; omega) (by rw [HPLN.out]; omega) (by rw [hdn]; have := HL.out; omega) (by rw [hdm]; have := HL.out; omega)
    rwa [HPC.out] at h
   rw [HPC.out] at HOR
   have HBW := hid (show Below W.heap.size W wr from B4.out.trans (HB.out.mono B4.out.size))
   have HXW := hid (HX4.out.below HB.out)
   have HYW := hid (HY.out.below HB.out)
   have HTW := hid (T4.out.below HB.out)
   have HRW := hid (R4.out.below HB.out)
   have xd1 := HXW.out.cell (j := 1) rfl
   have xdz := HXW.out.lt
   have yd1 := HYW.out.cell (j := 1) rfl
   have ydz := HYW.out.lt
   clear hie hdn hdm hpl
   go_upto_region 22 with (fail)
   go_wp2_with fail
   refine (HOR.out).mono ?_
   rintro e W8 ⟨hb8,ov,cols,rfl,hov,hof⟩
   generalize (if As.valid (Mt.costM t n m) (Mt.dropsN t n) (Mt.dropsN t m) then (0 : Int) else 1) = er1
   have HCO := hid (And.intro hov hof)
   obtain ⟨oa,oc,rfl,-⟩ := hov
   obtain ⟨ord,hord⟩ := exq (As.ordered (Mt.costM t n m) (Mt.dropsN t n) (Mt.dropsN t m))
   rw [← hord]
   have HOD := hid hord
   have HA8 := hid (HAB.out W8 hb8)
   have HB8 := hid hb8
   have k1 := HXW.out.below hb8
   have k2 := HYW.out.below hb8
   clear xd1 xdz yd1 ydz hord hof HOR
   have xd1 := k1.cell (j := 1) rfl
   have xdz := k1.lt
   have yd1 := k2.cell (j := 1) rfl
   have ydz := k2.lt
   clear k1 k2 hb8
   go_wp2_with fail
   refine (HA8.out).mono ?_
   rintro e W9 ⟨hb9,pv,uv,vv,P,U,V,rfl,hpp,huu,hvv,hpf⟩
   generalize (if As.valid (Mt.costM t n m) (Mt.dropsN t n) (Mt.dropsN t m) then (0 : Int) else 1) = er2
   obtain ⟨bst,hbst⟩ := exq (As.best (Mt.costM t n m) (Mt.dropsN t n) (Mt.dropsN t m))
   rw [← hbst]
   have HBS := hid hbst
   have HPP := hid (And.intro hpp hpf)
   obtain ⟨pa,pc,rfl,-⟩ := hpp
   obtain ⟨ua,uc,rfl,-⟩ := huu
   obtain ⟨va,vc,rfl,-⟩ := hvv
   clear xd1 xdz yd1 ydz HA8 hbst hpf
   obtain ⟨Y,hY⟩ := exq (W9.alloc (.cells #[.int .i64 bst,.slice pa P.length pc,.slice ua U.length uc,.slice va V.length vc] 111))
   have bY := bnew hY
   have KY := hid (show Blk Y W9.heap.size 111 [.int .i64 bst,.slice pa P.length pc,.slice ua U.length uc,.slice va V.length vc] by rw [hY]; exact Blk.new _ _ _)
   obtain ⟨qa,hqa⟩ := exq (W9.heap.size)
   rw [← hqa] at KY
   have hb89 := Below.step hb9 bY
   have HBY := hid (Below.step HB8.out hb89)
   have HPY := hid (HPP.out.1.below bY)
   have HOY := hid (HCO.out.1.below hb89)
   have HTY := hid (HTW.out.below HBY.out)
   have HRY := hid (HRW.out.below HBY.out)
   have HMY := hid (HPM.out.below HBY.out)
   have HQY := hid (HPB.out.below HBY.out)
   have HWY := hid (Below.step HBW.out HBY.out)
   go_upto_region 24 with (fail)
   rw [← hY,← hqa]
   clear hY bY hqa hb9 hb89
   have HBU1 := hid (build_any P _ (bst + t.order) true (mb + 1) mb (i * M) Y HPY.out HPP.out.2 HQY.out HMY.out)
   have HBU2 := hid (build_any cols _ ord false (mb + 1) mb (i * M) Y HOY.out HCO.out.2 HQY.out HMY.out)
   obtain ⟨a0,a1,az⟩ := KY.out.cl2
   have t4 := HTY.out.cell (j := 4) rfl
   have tz := HTY.out.lt
   obtain ⟨r0,r1,r2,rz⟩ := HRY.out.cl3
   have hwr : IntKind.i64.wrap (bst + t.order) = bst + t.order := IntWalk.i64_in _ (by
    have h1 := As.best_bounds (Mt.costM t n m) (Mt.dropsN t n) (Mt.dropsN t m)
    rw [← HBS.out] at h1
    have h2 := HTO.out
    omega)
   by_cases hsw : bst + t.order < ord
   ·have HSW := hid hsw
    go_wp2_with fail
    refine (HBU1.out).mono ?_
    rintro e Y2 ⟨hbE,ea,en,ec,rfl⟩
    have HRE := hid (HRY.out.below hbE)
    have HWE := hid (Below.step HWY.out hbE)
    clear a0 a1 az t4 tz r0 r1 r2 rz hbE
    obtain ⟨r0,r1,r2,rf0,rf1,rf2,rz⟩ := HRE.out.cf3
    go_wp2_with fail
    try simp only [Nat.add_assoc,Nat.reduceAdd]
    obtain ⟨V9,hV9⟩ := exq (((Y2.setCell ⟨W.heap.size + 3,0,none⟩ (.int .i64 (bst + t.order))).setCell ⟨W.heap.size + 3,1,none⟩ (.bool true)).setCell ⟨W.heap.size + 3,2,none⟩ (.slice ea en ec))
    rw [← hV9]
    have h9 : Blk V9 (W.heap.size + 3) 65 [.int .i64 (bst + t.order),.bool true,.slice ea en ec] := by rw [hV9]; exact ((HRE.out.set 0 _).set 1 _).set 2 _
    have hb9 : Below W.heap.size W V9 := by rw [hV9]; exact ((HWE.out.setCell (p := ⟨W.heap.size + 3,0,none⟩) (by simp) _).setCell (p := ⟨W.heap.size + 3,1,none⟩) (by simp) _).setCell (p := ⟨W.heap.size + 3,2,none⟩) (by simp) _
    refine post_cell_tmp (x := .int .i64 0) rfl rfl (run_loadVar_row V9 (W.heap.size + 3) _ 65 _ _ _ h9 Tryz.underlying65 rfl (by kernel_rfl)) rfl rfl ?_
    refine ⟨hb9,.inr ⟨HOK.out,true,ea,en,ec,?_⟩⟩
    rw [Mt.dist_swap (by rw [← HBS.out,← HOD.out]; have h := HSW.out; omega),← HBS.out]
   ·have HSW := hid hsw
    go_wp2_with fail
    refine (HBU2.out).mono ?_
    rintro e Y2 ⟨hbE,ea,en,ec,rfl⟩
    have HRE := hid (HRY.out.below hbE)
    have HWE := hid (Below.step HWY.out hbE)
    clear a0 a1 az t4 tz r0 r1 r2 rz hbE
    obtain ⟨r0,r1,r2,rf0,rf1,rf2,rz⟩ := HRE.out.cf3
    go_wp2_with fail
    try simp only [Nat.add_assoc,Nat.reduceAdd]
    obtain ⟨V9,hV9⟩ := exq (((Y2.setCell ⟨W.heap.size + 3,0,none⟩ (.int .i64 ord)).setCell ⟨W.heap.size + 3,1,none⟩ (.bool false)).setCell ⟨W.heap.size + 3,2,none⟩ (.slice ea en ec))
    rw [← hV9]
    have h9 : Blk V9 (W.heap.size + 3) 65 [.int .i64 ord,.bool false,.slice ea en ec] := by rw [hV9]; exact ((HRE.out.set 0 _).set 1 _).set 2 _
    have hb9 : Below W.heap.size W V9 := by rw [hV9]; exact ((HWE.out.setCell (p := ⟨W.heap.size + 3,0,none⟩) (by simp) _).setCell (p := ⟨W.heap.size + 3,1,none⟩) (by simp) _).setCell (p := ⟨W.heap.size + 3,2,none⟩) (by simp) _
    refine post_cell_tmp (x := .int .i64 0) rfl rfl (run_loadVar_row V9 (W.heap.size + 3) _ 65 _ _ _ h9 Tryz.underlying65 rfl (by kernel_rfl)) rfl rfl ?_
    refine ⟨hb9,.inr ⟨HOK.out,false,ea,en,ec,?_⟩⟩
    rw [Mt.dist_keep (by rw [← HBS.out,← HOD.out]; have h := HSW.out; omega),← HOD.out]
end Go.Proofs.YtdghfenbfbdijaaGreatDoor
