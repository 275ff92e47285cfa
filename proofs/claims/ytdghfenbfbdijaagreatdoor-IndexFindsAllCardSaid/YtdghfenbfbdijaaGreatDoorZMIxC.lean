/-
 Several texts in one: ZIx6, ZIxT, ZIx7. Conditions: as each law says.
-/
import Derived.Test.YtdghfenbfbdijaaGreatDoorZMIxB
import Derived.Test.YtdghfenbfbdijaaGreatDoorZMMtB
import Derived.Test.YtdghfenbfbdijaaGreatDoorZMBase
import Derived.Deep.CutRange
import Derived.BigQuiet
import Derived.Test.YtdghfenbfbdijaaGreatDoorZMAsA
import Derived.Test.YtdghfenbfbdijaaGreatDoorZMRn
import Derived.Test.YtdghfenbfbdijaaGreatDoorZMAsB
namespace Go.Proofs.YtdghfenbfbdijaaGreatDoor
open Go.RowKit Go.Lib Go.Maps
def WPairQ (t : Rw.Table) (a : Int) (x : List UInt8) (b : Int) (y : List UInt8) (W : World) (e : Ending) (W' : World) : Prop :=
 Below W.heap.size W W' ∧ ∃ (k l r c g : Int) (la : Option Addr) (ln lc : Nat) (ra : Option Addr) (rn rc : Nat) (s : List UInt8) (er : Int),
  e = .returned (.tuple #[.agg #[.int .i64 0,.int .i64 0,.int .i64 k,.int .i64 l,.int .i64 r,.int .i64 c,.int .i64 g,.slice la ln lc,.slice ra rn rc,.string (bs s)],.int .i64 er]) ∧
  ((er = 0 ∧ Mt.pairCost t a x b y = c) ∨ (er ≠ 0 ∧ Mt.pairCost t a x b y = 100000))
theorem word_flat (t : Rw.Table) (vr vd ve : Value) (a : Int) (x : List UInt8) (b : Int) (y : List UInt8) (W : World) (ht : TableAt W t (.agg #[vr,vd,ve,.int .i64 t.drop,.int .i64 t.order,.int .i64 t.initial])) (hT : Tabs W) (hx : x.length ≤ 1000000) (hy : y.length ≤ 1000000) :
  Calls Tryz.prog 97 #[.agg #[vr,vd,ve,.int .i64 t.drop,.int .i64 t.order,.int .i64 t.initial],.int .i64 a,.string (bs x),.int .i64 b,.string (bs y)] W (WPairQ t a x b y W) := by
 refine (word16_any t vr vd ve a x b y W ht hT hx hy).mono ?_
 rintro e W' ⟨hb,p,lv,rv,er,⟨la,ln,lc,rfl⟩,⟨ra,rn,rc,rfl⟩,rfl,hor⟩
 cases p with
 | none =>
  rcases hor with ⟨_,q,hq,_⟩ | ⟨h0,_,h1⟩
  ·cases hq
  ·exact ⟨hb,0,0,0,0,0,none,0,0,none,0,0,[],er,rfl,.inr ⟨h0,h1⟩⟩
 | some p =>
  rcases hor with ⟨h0,q,hq,h1⟩ | ⟨h0,hq,h1⟩
  ·cases hq
   exact ⟨hb,_,_,_,_,_,_,_,_,_,_,_,_,er,rfl,.inl ⟨h0,h1⟩⟩
  ·cases hq
def CostP (px eb cb : Nat) (t : Rw.Table) (tc : List Value) (bd : Int) (Q : Nat → Prop) (P : List (Li.En × Value)) (nc : Nat) (a : Int) (x : List UInt8) (b : Int) (y : List UInt8) (W : World) (e : Ending) (W' : World) : Prop :=
 But W.heap.size cb W W' ∧ e = .returned (.int .i64 (Mt.pairCost t a x b y)) ∧ ∃ nc',nc ≤ nc' ∧ nc' ≤ nc + 1 ∧ IxAt W' px eb cb t tc bd Q P nc'
set_option maxRecDepth 100000 in
set_option maxHeartbeats 4000000 in
theorem cost_any (px eb cb : Nat) (t : Rw.Table) (vr vd ve : Value) (bd : Int) (Q : Nat → Prop) (P : List (Li.En × Value)) (nc : Nat) (a : Int) (x : List UInt8) (b : Int) (y : List UInt8) (W : World) (h : IxAt W px eb cb t [vr,vd,ve,.int .i64 t.drop,.int .i64 t.order,.int .i64 t.initial] bd Q P nc)
  (ht : TableAt W t (.agg #[vr,vd,ve,.int .i64 t.drop,.int .i64 t.order,.int .i64 t.initial])) (hT : Tabs W) (ha : 0 ≤ a ∧ a ≤ 10) (hb : 0 ≤ b ∧ b ≤ 10) (hx : x.length ≤ 1000000) (hy : y.length ≤ 1000000) (hnc : nc ≤ 1000000) :
  Calls Tryz.prog 65 #[.pointer (some ⟨px,0,none⟩),.agg #[.int .i64 a,.string (bs x)],.agg #[.int .i64 b,.string (bs y)]] W (CostP px eb cb t [vr,vd,ve,.int .i64 t.drop,.int .i64 t.order,.int .i64 t.initial] bd Q P nc a x b y W) := by
 obtain ⟨kl,hkl⟩ := pair_some ha hb hx hy
 obtain ⟨W1,hW1⟩ := exq (((W.alloc (.cells #[.int .i64 a,.string (bs x)] 138)).alloc (.cells #[.int .i64 b,.string (bs y)] 138)).alloc (.cells #[.int .i64 a,.string (bs x),.int .i64 b,.string (bs y)] 181))
 have hb1 : Below W.heap.size W W1 := by rw [hW1]; exact (((Below.refl _ W).alloc (Nat.le_refl _) _).alloc (by simp only [World.size_alloc]; omega) _).alloc (by simp only [World.size_alloc]; omega) _
 have hk1 : Blk W1 W.heap.size 138 [.int .i64 a,.string (bs x)] := by rw [hW1]; exact ((Blk.new W _ _).below ((Below.refl _ _).alloc (Nat.le_refl _) _)).below ((Below.refl _ _).alloc (Nat.le_refl _) _)
 have hk2 : Blk W1 (W.heap.size + 1) 138 [.int .i64 b,.string (bs y)] := by
  rw [hW1]
  have := (Blk.new (W.alloc (.cells #[.int .i64 a,.string (bs x)] 138)) 138 [.int .i64 b,.string (bs y)]).below ((Below.refl _ _).alloc (Nat.le_refl _) (.cells #[.int .i64 a,.string (bs x),.int .i64 b,.string (bs y)] 181))
  rwa [World.size_alloc] at this
 have hk3 : Blk W1 (W.heap.size + 2) 181 [.int .i64 a,.string (bs x),.int .i64 b,.string (bs y)] := by
  rw [hW1]
  have := Blk.new ((W.alloc (.cells #[.int .i64 a,.string (bs x)] 138)).alloc (.cells #[.int .i64 b,.string (bs y)] 138)) 181 [.int .i64 a,.string (bs x),.int .i64 b,.string (bs y)]
  rwa [World.size_alloc,World.size_alloc] at this
 have HB1 := hid hb1
 have HK1 := hid hk1
 have HK2 := hid hk2
 have HK3 := hid hk3
 have HI1 := hid (h.below hb1)
 have HTB := hid (And.intro (ht.below hb1) (hT.below hb1))
 have HXY := hid (And.intro hx (And.intro hy hnc))
 have HKL := hid hkl
 obtain ⟨F,hF,hOK⟩ := HI1.out.costs
 have hget := (hF.below (Below.refl _ W1).drew).getOk pair_keyed Tryz.underlying76 (zero_int W1.drew) hkl
 have HF := hid (And.intro hF hOK)
 obtain ⟨x0,x1,xz⟩ := hk1.cl2
 obtain ⟨y0,y1,yz⟩ := hk2.cl2
 obtain ⟨z0,z1,z2,z3,zz⟩ := hk3.cl4
 have c8 := HI1.out.box.cell (j := 8) rfl
 have cz := HI1.out.box.lt
 clear h ht hT ha hb hx hy hnc hb1 hk1 hk2 hk3 hkl
 cases hf : F (pairV a x b y) with
 | some c =>
  have hc := hOK a x b y c hf
  subst hc
  rw [hf] at hget
  simp only [Option.getD_some,Option.isSome_some] at hget
  unfold pairV at hget
  clear hF hOK hf
  go_enter Tryz.func65,Tryz.ntmps65
  go_upto_region 2 with (fail)
  simp only [Nat.add_assoc,Nat.reduceAdd]
  rw [← hW1]
  clear hW1
  go_region
  go_wp2_with fail
  go_ret
  exact ⟨But.of_below HB1.out.drew _,rfl,nc,Nat.le_refl _,Nat.le_succ _,HI1.out.below (Below.refl _ _).drew⟩
 | none =>
  rw [hf] at hget
  simp only [Option.getD_none,Option.isSome_none] at hget
  unfold pairV at hget
  clear hF hOK
  go_enter Tryz.func65,Tryz.ntmps65
  go_upto_region 2 with (fail)
  simp only [Nat.add_assoc,Nat.reduceAdd]
  rw [← hW1]
  clear hW1
  go_region
  go_upto_region 5 with (fail)
  obtain ⟨W2,hW2⟩ := exq (W1.drew)
  have hb2 : Below W1.heap.size W1 W2 := by rw [hW2]; exact (Below.refl _ _).drew
  rw [← hW2]
  clear hW2
  have HI2 := hid (HI1.out.below hb2)
  have HB2 := hid (Below.step HB1.out hb2)
  have HF2 := hid (And.intro (HF.out.1.below hb2) HF.out.2)
  have hk1 := HK1.out.below hb2
  have hk2 := HK2.out.below hb2
  have hk3 := HK3.out.below hb2
  have HKK := hid (And.intro hk1 (And.intro hk2 hk3))
  have HWX : Hid (∀ X,Below W2.heap.size W2 X → Calls Tryz.prog 97 #[.agg #[vr,vd,ve,.int .i64 t.drop,.int .i64 t.order,.int .i64 t.initial],.int .i64 a,.string (bs x),.int .i64 b,.string (bs y)] X (WPairQ t a x b y X)) := hid fun X hX => word_flat t vr vd ve a x b y X ((HTB.out.1.below hb2).below hX) ((HTB.out.2.below hb2).below hX) HXY.out.1 HXY.out.2.1
  clear x0 x1 xz y0 y1 yz z0 z1 z2 z3 zz c8 cz hget hb2
  obtain ⟨x0,x1,xz⟩ := hk1.cl2
  obtain ⟨y0,y1,yz⟩ := hk2.cl2
  obtain ⟨c0,c1,c2,c3,c4,c5,cz⟩ := HI2.out.box.cl6
  clear hk1 hk2 hk3
  go_cut [10,11] from 26 (fun v10 v11 wx => ∃ (q : Nat) (c er : Int),v10 = .pointer (some ⟨q,0,none⟩) ∧ v11 = .int .i64 er ∧ Below W2.heap.size W2 wx ∧ wx.cell? ⟨q,5,none⟩ = some (.int .i64 c) ∧ q < wx.heap.size ∧ ((er = 0 ∧ Mt.pairCost t a x b y = c) ∨ (er ≠ 0 ∧ Mt.pairCost t a x b y = 100000)))
  case first =>
   -- region 5
   refine wp_heldS (S := StillAt W2) (by kernel_rfl) ?_
   simp only [List.size_toArray,List.length_cons,List.length_nil,Nat.reduceAdd]
   intro hc
   have S0 : StillAt W2 (Array.replicate 19 false) W2.drew := (Below.refl _ _).drew
   obtain ⟨D2,hD2⟩ := exq (W2.drew)
   rw [← hD2] at S0 ⊢
   have BD : Below W2.heap.size W2 D2 := by rw [hD2]; exact (Below.refl _ _).drew
   clear hD2
   refine tkI (i := 0) (v := .pointer (some ⟨px,0,none⟩)) rfl hc (fun wx hx => ?_) S0 (fun hc S0 => ?_)
   ·go_simp
   try simp only [tk1,tk3,Act.put,tk4,tk5,tk6]
   refine tkI (i := 1) (v := .pointer (some ⟨px,0,none⟩)) rfl hc (fun wx hx => ?_) S0 (fun hc S0 => ?_)
   ·go_simp
   try simp only [tk1,tk2,tk3,Act.put,tk4,tk5,tk6]
   refine tkI (i := 2) (v := .pointer (some ⟨px,0,none⟩)) rfl hc (fun wx hx => ?_) S0 (fun hc S0 => ?_)
   ·go_simp
   try simp only [tk1,tk2,tk3,Act.put,tk4,tk5,tk6]
   refine tkI (i := 3) (v := .agg #[vr,vd,ve,.int .i64 t.drop,.int .i64 t.order,.int .i64 t.initial]) rfl hc (fun wx hx => ?_) S0 (fun hc S0 => ?_)
   ·have g0 := (hx.still.cell (p := ⟨px,0,none⟩) cz).trans c0; have g1 := (hx.still.cell (p := ⟨px,1,none⟩) cz).trans c1; have g2 := (hx.still.cell (p := ⟨px,2,none⟩) cz).trans c2; have g3 := (hx.still.cell (p := ⟨px,3,none⟩) cz).trans c3; have g4 := (hx.still.cell (p := ⟨px,4,none⟩) cz).trans c4; have g5 := (hx.still.cell (p := ⟨px,5,none⟩) cz).trans c5
    go_simp
   try simp only [tk1,tk2,tk3,Act.put,tk4,tk5,tk6]
   refine tkI (i := 4) (v := .pointer (some ⟨W.heap.size,0,none⟩)) rfl hc (fun wx hx => ?_) S0 (fun hc S0 => ?_)
   ·go_simp
   try simp only [tk1,tk2,tk3,Act.put,tk4,tk5,tk6]
   refine tkI (i := 5) (v := .int .i64 a) rfl hc (fun wx hx => ?_) S0 (fun hc S0 => ?_)
   ·have g := (hx.still.cell (p := ⟨W.heap.size,0,none⟩) xz).trans x0
    go_simp
   try simp only [tk1,tk2,tk3,Act.put,tk4,tk5,tk6]
   refine tkI (i := 6) (v := .pointer (some ⟨W.heap.size,1,none⟩)) rfl hc (fun wx hx => ?_) S0 (fun hc S0 => ?_)
   ·go_simp
   try simp only [tk1,tk2,tk3,Act.put,tk4,tk5,tk6]
   refine tkI (i := 7) (v := .string (bs x)) rfl hc (fun wx hx => ?_) S0 (fun hc S0 => ?_)
   ·have g := (hx.still.cell (p := ⟨W.heap.size,1,none⟩) xz).trans x1
    go_simp
   try simp only [tk1,tk2,tk3,Act.put,tk4,tk5,tk6]
   refine tkI (i := 8) (v := .pointer (some ⟨W.heap.size + 1,0,none⟩)) rfl hc (fun wx hx => ?_) S0 (fun hc S0 => ?_)
   ·go_simp
   try simp only [tk1,tk2,tk3,Act.put,tk4,tk5,tk6]
   refine tkI (i := 9) (v := .int .i64 b) rfl hc (fun wx hx => ?_) S0 (fun hc S0 => ?_)
   ·have g := (hx.still.cell (p := ⟨W.heap.size + 1,0,none⟩) yz).trans y0
    go_simp
   try simp only [tk1,tk2,tk3,Act.put,tk4,tk5,tk6]
   refine tkI (i := 10) (v := .pointer (some ⟨W.heap.size + 1,1,none⟩)) rfl hc (fun wx hx => ?_) S0 (fun hc S0 => ?_)
   ·go_simp
   try simp only [tk1,tk2,tk3,Act.put,tk4,tk5,tk6]
   refine tkI (i := 11) (v := .string (bs y)) rfl hc (fun wx hx => ?_) S0 (fun hc S0 => ?_)
   ·have g := (hx.still.cell (p := ⟨W.heap.size + 1,1,none⟩) yz).trans y1
    go_simp
   try simp only [tk1,tk2,tk3,Act.put,tk4,tk5,tk6]
   clear x0 x1 xz y0 y1 yz c0 c1 c2 c3 c4 c5 cz
   refine wpAnyS_two (i := 12) (k := 16) rfl rfl (by kernel_rfl) (by rfl) (by rfl) hc (fun K' hK => ?A1) (fun K' hK => ?B1)
   case' A1 =>
    go_simp
    refine (HWX.out D2 BD).mono ?_
    rintro e w3 ⟨hb3,k,l,r,c,g,la,ln,lc,ra,rn,rc,s,er,rfl,hor⟩
    have HOR := hid hor
    have B3 := Below.step BD hb3
    clear hor
    refine hK.out _ _ B3 (fun hc => ?_)
    clear hK K'
    have S0 : StillAt W2 #[] w3 := B3
    try simp only [tk1,tk2,tk3,Act.put,tk4,tk5,tk6]
    refine tkI (i := 13) (v := .tuple #[.agg #[.int .i64 0,.int .i64 0,.int .i64 k,.int .i64 l,.int .i64 r,.int .i64 c,.int .i64 g,.slice la ln lc,.slice ra rn rc,.string (bs s)],.int .i64 er]) rfl hc (fun wx hx => ?_) S0 (fun hc S0 => ?_)
    ·go_simp
    try simp only [tk1,tk2,tk3,Act.put,tk4,tk5,tk6]
    refine tkI (i := 14) (v := .agg #[.int .i64 0,.int .i64 0,.int .i64 k,.int .i64 l,.int .i64 r,.int .i64 c,.int .i64 g,.slice la ln lc,.slice ra rn rc,.string (bs s)]) rfl hc (fun wx hx => ?_) S0 (fun hc S0 => ?_)
    ·go_simp
    try simp only [tk1,tk2,tk3,Act.put,tk4,tk5,tk6]
    refine tkI (i := 15) (v := .int .i64 er) rfl hc (fun wx hx => ?_) S0 (fun hc S0 => ?_)
    ·go_simp
    try simp only [tk1,tk2,tk3,Act.put,tk4,tk5,tk6]
    refine onI (i := 16) rfl hc (fun K' hK => ?_)
    go_simp
    obtain ⟨X1,hX1⟩ := exq (w3.alloc (.cells #[.int .i64 0,.int .i64 0,.int .i64 0,.int .i64 0,.int .i64 0,.int .i64 0,.int .i64 0,.slice none 0 0,.slice none 0 0,.string ⟨#[]⟩] 103))
    rw [← hX1]
    have bX1 := bnew hX1
    have kX1 : Blk X1 w3.heap.size 103 [.int .i64 0,.int .i64 0,.int .i64 0,.int .i64 0,.int .i64 0,.int .i64 0,.int .i64 0,.slice none 0 0,.slice none 0 0,.string ⟨#[]⟩] := by rw [hX1]; exact Blk.new _ _ _
    have B4 := Below.step B3 bX1
    have hq0 : W2.heap.size ≤ w3.heap.size := (B3).size
    obtain ⟨q,hq⟩ := exq (w3.heap.size)
    rw [← hq] at kX1 hq0 ⊢
    clear hX1 hq
    refine hK.out _ _ B4 (fun hc => ?_)
    clear hK K'
    have S0 : StillAt W2 #[] X1 := B4
    try simp only [tk1,tk2,tk3,Act.put,tk4,tk5,tk6]
    have kX := kX1
    obtain ⟨n0,n1,n2,n3,n4,n5,n6,n7,n8,n9,f0,f1,f2,f3,f4,f5,f6,f7,f8,f9,nz⟩ := kX.cf10
    refine onI (i := 17) rfl hc (fun K' hK => ?_)
    go_simp
    obtain ⟨Z,hZ⟩ := exq (((((((((((X1.setCell ⟨q,0,none⟩ (.int .i64 0)).setCell ⟨q,1,none⟩ (.int .i64 0)).setCell ⟨q,2,none⟩ (.int .i64 k)).setCell ⟨q,3,none⟩ (.int .i64 l)).setCell ⟨q,4,none⟩ (.int .i64 r)).setCell ⟨q,5,none⟩ (.int .i64 c)).setCell ⟨q,6,none⟩ (.int .i64 g)).setCell ⟨q,7,none⟩ (.slice la ln lc)).setCell ⟨q,8,none⟩ (.slice ra rn rc)).setCell ⟨q,9,none⟩ (.string (bs s))))
    rw [← hZ]
    have kZ : Blk Z q 103 [.int .i64 0,.int .i64 0,.int .i64 k,.int .i64 l,.int .i64 r,.int .i64 c,.int .i64 g,.slice la ln lc,.slice ra rn rc,.string (bs s)] := by rw [hZ]; exact ((((((((((kX.set 0 (.int .i64 0)).set 1 (.int .i64 0)).set 2 (.int .i64 k)).set 3 (.int .i64 l)).set 4 (.int .i64 r)).set 5 (.int .i64 c)).set 6 (.int .i64 g)).set 7 (.slice la ln lc)).set 8 (.slice ra rn rc)).set 9 (.string (bs s)))
    have bZ : Below W2.heap.size W2 Z := by rw [hZ]; exact ((((((((((B4.setCell (p := ⟨q,0,none⟩) hq0 (.int .i64 0)).setCell (p := ⟨q,1,none⟩) hq0 (.int .i64 0)).setCell (p := ⟨q,2,none⟩) hq0 (.int .i64 k)).setCell (p := ⟨q,3,none⟩) hq0 (.int .i64 l)).setCell (p := ⟨q,4,none⟩) hq0 (.int .i64 r)).setCell (p := ⟨q,5,none⟩) hq0 (.int .i64 c)).setCell (p := ⟨q,6,none⟩) hq0 (.int .i64 g)).setCell (p := ⟨q,7,none⟩) hq0 (.slice la ln lc)).setCell (p := ⟨q,8,none⟩) hq0 (.slice ra rn rc)).setCell (p := ⟨q,9,none⟩) hq0 (.string (bs s)))
    clear hZ kX n0 f0 n1 f1 n2 f2 n3 f3 n4 f4 n5 f5 n6 f6 n7 f7 n8 f8 n9 f9 nz
    refine hK.out _ _ bZ (fun hc => ?_)
    clear hK K'
    have S0 : StillAt W2 #[] Z := bZ
    try simp only [tk1,tk2,tk3,Act.put,tk4,tk5,tk6]
    refine tkI (i := 18) (v := .int .i64 er) rfl hc (fun wx hx => ?_) S0 (fun hc S0 => ?_)
    ·go_simp
    try simp only [tk1,tk2,tk3,Act.put,tk4,tk5,tk6]
    refine wpAnyS_done (by kernel_rfl) ?_ _
    clear hc S0
    go_wp2_with fail
    go_meet
    case rel => exact ⟨q,c,er,rfl,rfl,bZ,kZ.cell (j := 5) rfl,kZ.lt,HOR.out⟩
   case' B1 =>
    go_simp
    obtain ⟨X1,hX1⟩ := exq (D2.alloc (.cells #[.int .i64 0,.int .i64 0,.int .i64 0,.int .i64 0,.int .i64 0,.int .i64 0,.int .i64 0,.slice none 0 0,.slice none 0 0,.string ⟨#[]⟩] 103))
    rw [← hX1]
    have bX1 := bnew hX1
    have kX1 : Blk X1 D2.heap.size 103 [.int .i64 0,.int .i64 0,.int .i64 0,.int .i64 0,.int .i64 0,.int .i64 0,.int .i64 0,.slice none 0 0,.slice none 0 0,.string ⟨#[]⟩] := by rw [hX1]; exact Blk.new _ _ _
    have B4 := Below.step BD bX1
    have hq0 : W2.heap.size ≤ D2.heap.size := (BD).size
    obtain ⟨q,hq⟩ := exq (D2.heap.size)
    rw [← hq] at kX1 hq0 ⊢
    clear hX1 hq
    refine hK.out _ _ B4 (fun hc => ?_)
    clear hK K'
    have S0 : StillAt W2 #[] X1 := B4
    try simp only [tk1,tk2,tk3,Act.put,tk4,tk5,tk6]
    refine onI (i := 12) rfl hc (fun K' hK => ?_)
    go_simp
    refine (HWX.out X1 B4).mono ?_
    rintro e w3 ⟨hb3,k,l,r,c,g,la,ln,lc,ra,rn,rc,s,er,rfl,hor⟩
    have HOR := hid hor
    have B3 := Below.step B4 hb3
    clear hor
    refine hK.out _ _ B3 (fun hc => ?_)
    clear hK K'
    have S0 : StillAt W2 #[] w3 := B3
    try simp only [tk1,tk2,tk3,Act.put,tk4,tk5,tk6]
    refine tkI (i := 13) (v := .tuple #[.agg #[.int .i64 0,.int .i64 0,.int .i64 k,.int .i64 l,.int .i64 r,.int .i64 c,.int .i64 g,.slice la ln lc,.slice ra rn rc,.string (bs s)],.int .i64 er]) rfl hc (fun wx hx => ?_) S0 (fun hc S0 => ?_)
    ·go_simp
    try simp only [tk1,tk2,tk3,Act.put,tk4,tk5,tk6]
    refine tkI (i := 14) (v := .agg #[.int .i64 0,.int .i64 0,.int .i64 k,.int .i64 l,.int .i64 r,.int .i64 c,.int .i64 g,.slice la ln lc,.slice ra rn rc,.string (bs s)]) rfl hc (fun wx hx => ?_) S0 (fun hc S0 => ?_)
    ·go_simp
    try simp only [tk1,tk2,tk3,Act.put,tk4,tk5,tk6]
    refine tkI (i := 15) (v := .int .i64 er) rfl hc (fun wx hx => ?_) S0 (fun hc S0 => ?_)
    ·go_simp
    try simp only [tk1,tk2,tk3,Act.put,tk4,tk5,tk6]
    have kX := (kX1.below hb3)
    obtain ⟨n0,n1,n2,n3,n4,n5,n6,n7,n8,n9,f0,f1,f2,f3,f4,f5,f6,f7,f8,f9,nz⟩ := kX.cf10
    refine onI (i := 17) rfl hc (fun K' hK => ?_)
    go_simp
    obtain ⟨Z,hZ⟩ := exq (((((((((((w3.setCell ⟨q,0,none⟩ (.int .i64 0)).setCell ⟨q,1,none⟩ (.int .i64 0)).setCell ⟨q,2,none⟩ (.int .i64 k)).setCell ⟨q,3,none⟩ (.int .i64 l)).setCell ⟨q,4,none⟩ (.int .i64 r)).setCell ⟨q,5,none⟩ (.int .i64 c)).setCell ⟨q,6,none⟩ (.int .i64 g)).setCell ⟨q,7,none⟩ (.slice la ln lc)).setCell ⟨q,8,none⟩ (.slice ra rn rc)).setCell ⟨q,9,none⟩ (.string (bs s))))
    rw [← hZ]
    have kZ : Blk Z q 103 [.int .i64 0,.int .i64 0,.int .i64 k,.int .i64 l,.int .i64 r,.int .i64 c,.int .i64 g,.slice la ln lc,.slice ra rn rc,.string (bs s)] := by rw [hZ]; exact ((((((((((kX.set 0 (.int .i64 0)).set 1 (.int .i64 0)).set 2 (.int .i64 k)).set 3 (.int .i64 l)).set 4 (.int .i64 r)).set 5 (.int .i64 c)).set 6 (.int .i64 g)).set 7 (.slice la ln lc)).set 8 (.slice ra rn rc)).set 9 (.string (bs s)))
    have bZ : Below W2.heap.size W2 Z := by rw [hZ]; exact ((((((((((B3.setCell (p := ⟨q,0,none⟩) hq0 (.int .i64 0)).setCell (p := ⟨q,1,none⟩) hq0 (.int .i64 0)).setCell (p := ⟨q,2,none⟩) hq0 (.int .i64 k)).setCell (p := ⟨q,3,none⟩) hq0 (.int .i64 l)).setCell (p := ⟨q,4,none⟩) hq0 (.int .i64 r)).setCell (p := ⟨q,5,none⟩) hq0 (.int .i64 c)).setCell (p := ⟨q,6,none⟩) hq0 (.int .i64 g)).setCell (p := ⟨q,7,none⟩) hq0 (.slice la ln lc)).setCell (p := ⟨q,8,none⟩) hq0 (.slice ra rn rc)).setCell (p := ⟨q,9,none⟩) hq0 (.string (bs s)))
    clear hZ kX n0 f0 n1 f1 n2 f2 n3 f3 n4 f4 n5 f5 n6 f6 n7 f7 n8 f8 n9 f9 nz
    refine hK.out _ _ bZ (fun hc => ?_)
    clear hK K'
    have S0 : StillAt W2 #[] Z := bZ
    try simp only [tk1,tk2,tk3,Act.put,tk4,tk5,tk6]
    refine tkI (i := 18) (v := .int .i64 er) rfl hc (fun wx hx => ?_) S0 (fun hc S0 => ?_)
    ·go_simp
    try simp only [tk1,tk2,tk3,Act.put,tk4,tk5,tk6]
    refine wpAnyS_done (by kernel_rfl) ?_ _
    clear hc S0
    go_wp2_with fail
    go_meet
    case rel => exact ⟨q,c,er,rfl,rfl,bZ,kZ.cell (j := 5) rfl,kZ.lt,HOR.out⟩
   -- region 5 ends
  case rest =>
   obtain ⟨q,c,er,rfl,rfl,hb3,hc5,hqz,hor⟩ := hcut
   rename World => W3
   obtain ⟨pc,hpc⟩ := exq (Mt.pairCost t a x b y)
   rw [← hpc] at hor
   have HPC := hid hpc
   have HB3 := hid (Below.step HB2.out hb3)
   have HI3 := hid (HI2.out.below hb3)
   have hk3 := HKK.out.2.2.below hb3
   obtain ⟨F',hF1,hF2⟩ : ∃ F' : Value → Option Value,F' (pairV a x b y) = some (.int .i64 pc) ∧ ∀ v,v ≠ pairV a x b y → F' v = F v := by
    classical
    exact ⟨fun v => if v = pairV a x b y then some (.int .i64 pc) else F v,by simp,fun v h => by simp [h]⟩
   have HOK' := hid (show CostsOk t F' by
    intro a' x' b' y' c' h
    by_cases he : pairV a' x' b' y' = pairV a x b y
    ·obtain ⟨rfl,rfl,rfl,rfl⟩ := pairV_inj he
     rw [hF1] at h
     cases h
     rw [HPC.out]
    ·rw [hF2 _ he] at h
     exact HF2.out.2 _ _ _ _ _ h)
   obtain ⟨W4,hput,hM4,hg4⟩ := ((HF2.out.1.below hb3).below (Below.refl _ W3).drew).put pair_keyed Tryz.underlying76 (by have := HXY.out.2.2; unfold maxLen; omega) HKL.out hF1 hF2
   unfold pairV at hput
   have HM4 := hid (And.intro hM4 hg4)
   clear x0 x1 xz y0 y1 yz c0 c1 c2 c3 c4 c5 cz hf hF1 hF2 hpc hM4 hg4
   obtain ⟨z0,z1,z2,z3,zz⟩ := hk3.cl4
   have c8 := HI3.out.box.cell (j := 8) rfl
   have cz := HI3.out.box.lt
   have hend : But W.heap.size cb W W4 ∧ Ending.returned (Value.int .i64 pc) = .returned (.int .i64 (Mt.pairCost t a x b y)) ∧ ∃ nc',nc ≤ nc' ∧ nc' ≤ nc + 1 ∧ IxAt W4 px eb cb t [vr,vd,ve,.int .i64 t.drop,.int .i64 t.order,.int .i64 t.initial] bd Q P nc' := by
    have hB : But W3.drew.heap.size cb W3.drew W4 := But.of_grown HM4.out.2 (fun r e => (Option.some.inj e).symm)
    exact ⟨(But.of_below (Below.step HB3.out (Below.refl _ W3).drew) cb).step hB,by rw [HPC.out],nc + 1,Nat.le_succ _,Nat.le_refl _,(HI3.out.below (Below.refl _ W3).drew).costs_new hB HM4.out.1 HOK'.out⟩
   have HEND := hid hend
   clear hend hk3 hb3
   rcases hor with ⟨h0,h1⟩ | ⟨h0,h1⟩
   ·subst h1
    have h0' : (er == 0) = true := by rw [h0]; rfl
    clear h0
    go_wp2_with fail
    go_region
    go_wp2_with fail
    go_ret
    exact HEND.out
   ·subst h1
    have h0' : (er == 0) = false := by rw [beq_eq_false_iff_ne]; exact h0
    clear h0 hc5 hqz
    go_wp2_with fail
    go_region
    go_wp2_with fail
    go_ret
    exact HEND.out
section
variable {W W' : World} {m : Nat} {om : Obj}
theorem tableAt_but {t : Rw.Table} {v : Value} (h : TableAt W t v) (hb : But W.heap.size m W W') (hm : W.heap[m]? = some om) (hmc : om.isCells = false) : TableAt W' t v := by
 obtain ⟨⟨vr,vd,ve,e,h1,h2,h3⟩,h4,h5,h6,h7⟩ := h
 exact ⟨⟨vr,vd,ve,e,h1.but hb hm hmc,h2.but hb hm hmc,h3.but hb hm hmc⟩,h4,h5,h6,h7⟩
theorem tabs_but (h : Tabs W) (hb : But W.heap.size m W W') (hm : W.heap[m]? = some om) (hmc : om.isCells = false) : Tabs W' := by
 obtain ⟨⟨R,oR,cap,h1,h2⟩,h3,h4⟩ := h
 have key : ∀ (a : Addr) v,W.cell? a = some v → W'.cell? a = some v := fun a v ha => by
  obtain ⟨o,ho,hc⟩ := cell_isCells ha
  exact (World.cell?_of_block ((hb.cells hm hmc ho hc).trans ho.symm)).trans ha
 refine ⟨⟨R,oR,cap,key _ _ h1,?_⟩,fun c hc => key _ _ (h3 c hc),fun i hi => ⟨key _ _ (h4 i hi).1,key _ _ (h4 i hi).2⟩⟩
 intro i hi
 obtain ⟨a1,a2,a3,a4,a5⟩ := h2 i hi
 exact ⟨key _ _ a1,key _ _ a2,key _ _ a3,key _ _ a4,key _ _ a5⟩
theorem owns_but {B : Nat} {e : TypeId} {sz : Nat} {v : Value} {n : Nat} {xs : List Value} (h : W.ownsRow B e sz v n xs) (hb : But W.heap.size m W W') (hm : W.heap[m]? = some om) (hmc : om.isCells = false) : W'.ownsRow B e sz v n xs := by
 refine ⟨h.1,?_⟩
 rcases h.2 with h2 | ⟨g,cap,cur,rfl,hg,hh,r⟩
 ·exact .inl h2
 ·exact .inr ⟨g,cap,cur,rfl,hg,hb.cells hm hmc hh rfl,r⟩
theorem blk_but {b : Nat} {e : TypeId} {vs : List Value} (h : Blk W b e vs) (hb : But W.heap.size m W W') (hm : W.heap[m]? = some om) (hmc : om.isCells = false) : Blk W' b e vs := hb.cells hm hmc h rfl
end
structure IxT (W : World) (px eb cb : Nat) (t : Rw.Table) (vr vd ve : Value) (b : Int) (Q : Nat → Prop) (P : List (Li.En × Value)) (nc : Nat) : Prop where
 ix : IxAt W px eb cb t [vr,vd,ve,.int .i64 t.drop,.int .i64 t.order,.int .i64 t.initial] b Q P nc
 tb : TableAt W t (.agg #[vr,vd,ve,.int .i64 t.drop,.int .i64 t.order,.int .i64 t.initial])
 tabs : Tabs W
section
variable {W W' : World} {px eb cb : Nat} {t : Rw.Table} {vr vd ve : Value} {b : Int} {Q : Nat → Prop} {P : List (Li.En × Value)} {nc nc' : Nat}
theorem IxT.below (h : IxT W px eb cb t vr vd ve b Q P nc) (hb : Below W.heap.size W W') : IxT W' px eb cb t vr vd ve b Q P nc := ⟨h.ix.below hb,h.tb.below hb,h.tabs.below hb⟩
theorem IxT.map (h : IxT W px eb cb t vr vd ve b Q P nc) : ∃ o : Obj,W.heap[cb]? = some o ∧ o.isCells = false := by
 obtain ⟨F,h1,-⟩ := h.ix.costs
 exact h1.no_cells
theorem IxT.step (h : IxT W px eb cb t vr vd ve b Q P nc) (hb : But W.heap.size cb W W') (hi : IxAt W' px eb cb t [vr,vd,ve,.int .i64 t.drop,.int .i64 t.order,.int .i64 t.initial] b Q P nc') : IxT W' px eb cb t vr vd ve b Q P nc' := by
 obtain ⟨o,e1,e2⟩ := h.map
 exact ⟨hi,tableAt_but h.tb hb e1 e2,tabs_but h.tabs hb e1 e2⟩
theorem IxT.rec_ {l : Nat} {o : Obj} (h : IxT W px eb cb t vr vd ve b Q P nc) (hg : W.grownBy W' (some l)) (hl : W.heap[l]? = some o) (ho : o.isCells = false) (h1 : l ≠ eb) (h2 : l ≠ cb) : IxT W' px eb cb t vr vd ve b Q P nc := by
 have hb : But W.heap.size l W W' := But.of_grown hg (fun r e => (Option.some.inj e).symm)
 obtain ⟨F,f1,f2⟩ := h.ix.costs
 exact ⟨⟨blk_but h.ix.box hb hl ho,h.ix.ents.kept hg (fun e => h1 (Option.some.inj e).symm),fun p hp => (h.ix.names p hp).but hb hl ho,⟨F,f1.kept hg (fun e => h2 (Option.some.inj e).symm),f2⟩,h.ix.ne,h.ix.ok⟩,tableAt_but h.tb hb hl ho,tabs_but h.tabs hb hl ho⟩
end
end Go.Proofs.YtdghfenbfbdijaaGreatDoor
namespace Go.Proofs.YtdghfenbfbdijaaGreatDoor
open Go.RowKit Go.Lib Go.Maps
def DropsP (t : Rw.Table) (n : Li.Nm) (W : World) (e : Ending) (W' : World) : Prop :=
 Below W.heap.size W W' ∧ ∃ a c,e = .returned (.slice a n.words.length c) ∧ SlOf W' (.slice a n.words.length c) 1 intC1 (Mt.dropsN t n)
theorem drops_take {t : Rw.Table} {n : Li.Nm} {k : Nat} {s : List UInt8} (h : n.words[k]? = some s) : (Mt.dropsN t n).take (k + 1) = (Mt.dropsN t n).take k ++ [(Rw.dropping t n.script s).1] := by
 rw [List.take_add_one]
 congr 1
 unfold Mt.dropsN
 rw [List.getElem?_map,h]
 rfl
set_option maxRecDepth 100000 in
set_option maxHeartbeats 4000000 in
theorem drops_any (px eb cb : Nat) (t : Rw.Table) (vr vd ve : Value) (bd : Int) (Q : Nat → Prop) (P : List (Li.En × Value)) (nc : Nat) (n : Li.Nm) (v : Value) (W : World) (h : IxT W px eb cb t vr vd ve bd Q P nc)
  (hn : SlOf W v 1 strC n.words) (hw : ∀ s ∈ n.words,s.length ≤ 1000000) (hl : n.words.length ≤ 1000) :
  Calls Tryz.prog 66 #[.pointer (some ⟨px,0,none⟩),.agg #[.int .i64 n.script,v]] W (DropsP t n W) := by
 obtain ⟨i0,hi,hz0,hz1,hz2⟩ := info_parts Tryz.infoIntG
 have HSL := hid hn
 have HWL := hid hw
 obtain ⟨a,c,rfl,-⟩ := hn
 obtain ⟨L,hL⟩ := exq (n.words.length)
 have HL := hid hL
 rw [← hL] at hl HSL ⊢
 obtain ⟨W1,hW1⟩ := exq (W.alloc (.cells #[.int .i64 n.script,.slice a L c] 46))
 have hb1 := bnew hW1
 have hk1 : Blk W1 W.heap.size 46 [.int .i64 n.script,.slice a L c] := by rw [hW1]; exact Blk.new W _ _
 have HB1 := hid hb1
 have HK1 := hid hk1
 have HI1 := hid (h.below hb1)
 have HSL1 := hid (HSL.out.below hb1)
 have z1 := hk1.cell (j := 1) rfl
 have zz := hk1.lt
 clear h hw hb1 hk1 hL
 go_enter Tryz.func66,Tryz.ntmps66
 go_upto_region 1 with (fail)
 rw [← hW1]
 clear hW1
 go_wp2_with fail
 go_loopw [5,13] (fun ov kv wr => ∃ (k : Nat),k ≤ L ∧ kv = .int .i64 k ∧ (∃ a l c,ov = .slice a l c) ∧ Hid (wr.ownsRow W1.heap.size 3 1 ov k (((Mt.dropsN t n).take k).flatMap intC1)) ∧ Hid (Below W1.heap.size W1 wr)) (fun _ kv _ => L - (RowKit.intOf kv).toNat)
 case atStart => exact ⟨0,Nat.zero_le _,rfl,⟨_,_,_,rfl⟩,World.ownsRow_nil _ _ _ _,Below.refl _ _⟩
 case round =>
  clear z1 zz
  obtain ⟨k,hk,rfl,⟨oa,ol,oc,rfl⟩,HRO,HR⟩ := hrel
  rename World => wr
  by_cases hlt : k < L
  ·obtain ⟨s,hs⟩ : ∃ s,n.words[k]? = some s := ⟨_,List.getElem?_eq_getElem (by rw [← HL.out]; exact hlt)⟩
   obtain ⟨g,o,rfl,hr⟩ : ∃ g o,a = some ⟨g,o,none⟩ ∧ RowOf wr g o 1 strC n.words := by
    obtain ⟨a',c',e',-,-,hr⟩ := HSL1.out.below HR.out
    cases e'
    exact hr (by rw [← HL.out]; omega)
   have s0 := hr.2 k s hs 0 _ rfl
   rw [Nat.add_zero,Nat.mul_one] at s0
   have hg := hr.1
   have HD := hid (dropping_any t _ n.script s wr.drew ((HI1.out.tb.below HR.out).below (Below.refl _ _).drew) ((HI1.out.tabs.below HR.out).below (Below.refl _ _).drew) (HWL.out s (List.mem_of_getElem? hs)))
   have hkb := HK1.out.below HR.out
   have hix := (HI1.out.ix.box).below HR.out
   have z0 := hkb.cell (j := 0) rfl
   have zz := hkb.lt
   obtain ⟨c0,c1,c2,c3,c4,c5,cz⟩ := hix.cl6
   have k0 : (0 : Int) ≤ (k : Int) := by omega
   have k1 : (k : Int) < (L : Int) := by omega
   have HTK := hid (drops_take (t := t) hs)
   clear hr hs hkb hix
   go_upto_region 5 with (fail)
   go_cut [8,13] from 13 to 32 (fun v8 v13 wx => v8 = .int .i64 (Rw.dropping t n.script s).1 ∧ v13 = .int .i64 k ∧ Below wr.heap.size wr wx)
   case first =>
    go_region_with (refine (HD.out).mono ?_; rintro e w3 ⟨rfl,hb3⟩)
    all_goals (go_wp2_with fail)
    all_goals go_meet
    all_goals exact ⟨rfl,rfl,Below.step (Below.refl _ _).drew hb3⟩
   case rest =>
   obtain ⟨rfl,rfl,hb⟩ := hcut
   rename World => wx
   have HROX := hid ((ownsRow_below HRO.out hb).alloc (.cells #[.int .i64 (Rw.dropping t n.script s).1] 3))
   have HOB := hid (show W1.heap.size ≤ wx.heap.size from Nat.le_trans HR.out.size hb.size)
   have HBX := hid ((Below.step HR.out hb).alloc (by have := HOB.out; simpa using this) (.cells #[.int .i64 (Rw.dropping t n.script s).1] 3))
   clear s0 hg z0 zz c0 c1 c2 c3 c4 c5 cz hb HD
   obtain ⟨dd,hdd⟩ := exq ((Rw.dropping t n.script s).1)
   rw [← hdd] at HROX HBX HTK ⊢
   clear hdd
   go_wp2_with (at_builtin; refine wpList_append_own _ rfl _ _ 90 rfl W1.heap.size 3 i0 (.int .i64 0) 1 8 Tryz.underlying90 hi hz0 hz1 hz2 rfl (by decide) _ _ _ rfl HROX.out ⟨wx.heap.size,0,none⟩ 1 1 [.int .i64 dd] rfl rfl (cells_new rfl) (by simp [Value.oneCell']) (by unfold maxLen; omega) (by omega) (by have := HOB.out; simp; omega) ?_; intro v' w9 ho9 hg9 _; have HB9 := hid (Below.appended HBX.out hg9 (by have := HOB.out; simp; omega) HROX.out); have HO9 := hid ho9; obtain ⟨va,vc,rfl⟩ := ownsRow_slice ho9; clear ho9 hg9)
   go_roundw
   case rel => exact ⟨k + 1,by omega,by go_num,⟨_,_,_,rfl⟩,hid (by rw [HTK.out,List.flatMap_append]; exact HO9.out),HB9⟩
   case measure => simp [RowKit.intOf]; omega
  ·have hke : k = L := by omega
   have hle : ¬ (k : Int) < (L : Int) := by omega
   have HKE := hid hke
   clear hke
   go_wp2_with fail
   go_ret
   obtain ⟨va,vc,hv⟩ := ownsRow_slice HRO.out
   have HO := HRO.out
   rw [hv] at HO ⊢
   rw [HKE.out,HL.out] at HO ⊢
   rw [List.take_of_length_le (by unfold Mt.dropsN; rw [List.length_map]; exact Nat.le_refl _)] at HO
   have hdl : n.words.length = (Mt.dropsN t n).length := by unfold Mt.dropsN; rw [List.length_map]
   refine ⟨Below.step HB1.out HR.out,_,_,rfl,SlOf.own (e := 3) (B := W1.heap.size) ?_ (fun _ _ => rfl)⟩
   rw [← hdl]
   exact HO
end Go.Proofs.YtdghfenbfbdijaaGreatDoor
