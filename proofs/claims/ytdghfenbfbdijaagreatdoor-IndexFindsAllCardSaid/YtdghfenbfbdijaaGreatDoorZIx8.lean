/-
 index.distance: the cost of the cheapest match of two names. Conditions: lengths, kinds; the library's tables.
-/
import Derived.Test.YtdghfenbfbdijaaGreatDoorZMIxC
import Derived.Test.YtdghfenbfbdijaaGreatDoorZMAsA
import Derived.Test.YtdghfenbfbdijaaGreatDoorZMAsB
namespace As
theorem best_bounds (c : List (List Int)) (d e : List Int) : 0 ≤ best c d e ∧ best c d e ≤ 120000 := by
 cases hv : valid c d e with
 | true =>
  rw [tAt_best hv]
  exact tAt_bounds (valid_iff.1 hv) 0 0
 | false =>
  unfold best
  rw [hv]
  simp
end As
namespace Go.Proofs.YtdghfenbfbdijaaGreatDoor
open Go.RowKit Go.Lib Go.Maps
def CostsAt (W : World) (cb : Nat) (t : Rw.Table) (nc : Nat) : Prop := ∃ F,MapF W Tryz.prog 181 cb nc F ∧ CostsOk t F
section
variable {W W' : World} {px eb cb : Nat} {t : Rw.Table} {vr vd ve : Value} {b : Int} {Q : Nat → Prop} {P : List (Li.En × Value)} {nc nc' : Nat}
theorem CostsAt.kept {row : Option Nat} (h : CostsAt W cb t nc) (hg : W.grownBy W' row) (hne : some cb ≠ row) : CostsAt W' cb t nc := by
 obtain ⟨F,h1,h2⟩ := h
 exact ⟨F,h1.kept hg hne,h2⟩
theorem CostsAt.below (h : CostsAt W cb t nc) (hb : Below W.heap.size W W') : CostsAt W' cb t nc := h.kept (Below.grows hb none) (by simp)
theorem CostsAt.map (h : CostsAt W cb t nc) : ∃ o : Obj,W.heap[cb]? = some o ∧ o.isCells = false := by
 obtain ⟨F,h1,-⟩ := h
 exact h1.no_cells
theorem IxT.now (h : IxT W px eb cb t vr vd ve b Q P nc) (hb : But W.heap.size cb W W') (hc : CostsAt W' cb t nc') : IxT W' px eb cb t vr vd ve b Q P nc' := by
 obtain ⟨F,h1,h2⟩ := hc
 exact h.step hb (h.ix.costs_new hb h1 h2)
theorem IxT.costs (h : IxT W px eb cb t vr vd ve b Q P nc) : CostsAt W cb t nc := h.ix.costs
end
theorem But.alloc_ {n m : Nat} {a w : World} (h : But n m a w) (hn : n ≤ w.heap.size) (o : Obj) : But n m a (w.alloc o) :=
 h.trans (But.of_below (((Below.refl w.heap.size w).alloc (Nat.le_refl _) o).mono hn) m)
theorem But.app_ {n m : Nat} {a w w' : World} {v : Value} {e : TypeId} {size k : Nat} {xs : List Value} (h : But n m a w) (hg : w.grownBy w' v.ownBlock) (hn : n ≤ w.heap.size) (ho : w.ownsRow n e size v k xs) : But n m a w' := by
 refine h.trans ⟨hg.os,hg.tape,hg.output,hg.size,fun q hq _ => hg.block q (by omega) (fun e' => ?_)⟩
 rcases ho.2 with ⟨h2,-⟩ | ⟨g,cap,cur,rfl,hgg,-,-⟩
 ·rw [h2] at e'; cases e'
 ·simp [Value.ownBlock] at e'; omega
theorem own_ne {w : World} {B : Nat} {e : TypeId} {sz : Nat} {v : Value} {n : Nat} {xs : List Value} (h : w.ownsRow B e sz v n xs) {k : Nat} (hk : k < B) : some k ≠ v.ownBlock := by
 intro e'
 rcases h.2 with ⟨h2,-⟩ | ⟨g,cap,cur,rfl,hg,-,-⟩
 ·rw [h2] at e'; cases e'
 ·simp [Value.ownBlock] at e'; omega
def DistP (cb : Nat) (t : Rw.Table) (nc : Nat) (n m : Li.Nm) (W : World) (e : Ending) (W' : World) : Prop :=
 But W.heap.size cb W W' ∧ e = .returned (.int .i64 (Mt.dist t n m)) ∧ ∃ nc',nc' ≤ nc + n.words.length * m.words.length ∧ CostsAt W' cb t nc'
theorem costRow_take {f : List UInt8 → Int} {ws : List (List UInt8)} {j : Nat} {u : List UInt8} (h : ws[j]? = some u) : (ws.take (j + 1)).map f = (ws.take j).map f ++ [f u] := by
 rw [List.take_add_one,h,List.map_append]
 rfl
theorem costM_take {t : Rw.Table} {n m : Li.Nm} {k : Nat} {s : List UInt8} (h : n.words[k]? = some s) : (Mt.costM t n m).take (k + 1) = (Mt.costM t n m).take k ++ [m.words.map fun u => Mt.pairCost t n.script s m.script u] := by
 rw [List.take_add_one]
 congr 1
 unfold Mt.costM
 rw [List.getElem?_map,h]
 rfl
set_option maxRecDepth 100000 in
set_option maxHeartbeats 8000000 in
theorem dist_any (px eb cb : Nat) (t : Rw.Table) (vr vd ve : Value) (bd : Int) (Q : Nat → Prop) (P : List (Li.En × Value)) (nc : Nat) (n m : Li.Nm) (vn vm : Value) (W : World) (h : IxT W px eb cb t vr vd ve bd Q P nc)
  (hn : SlOf W vn 1 strC n.words) (hnw : ∀ s ∈ n.words,s.length ≤ 1000000) (hn0 : 0 < n.words.length) (hnl : n.words.length ≤ 100) (hns : 0 ≤ n.script ∧ n.script ≤ 10)
  (hm : SlOf W vm 1 strC m.words) (hmw : ∀ s ∈ m.words,s.length ≤ 1000000) (hml : m.words.length ≤ 100) (hms : 0 ≤ m.script ∧ m.script ≤ 10)
  (hnc : nc ≤ 900000) (hto : 0 ≤ t.order ∧ t.order ≤ 1000000) :
  Calls Tryz.prog 39 #[.pointer (some ⟨px,0,none⟩),.agg #[.int .i64 n.script,vn],.agg #[.int .i64 m.script,vm]] W (DistP cb t nc n m W) := by
 obtain ⟨i0,hi,hz0,hz1,hz2⟩ := info_parts Tryz.infoIntG
 obtain ⟨i1,hji,hy0,hy1,hy2⟩ := info_parts Tryz.infoIntsG
 have HN := hid hn
 have HM := hid hm
 have HNW := hid (And.intro hnw hmw)
 have HSC := hid (And.intro hns hms)
 have HTO := hid hto
 have HNC := hid hnc
 obtain ⟨na,ncp,rfl,-⟩ := hn
 obtain ⟨ma,mcp,rfl,-⟩ := hm
 obtain ⟨N,hN⟩ := exq (n.words.length)
 obtain ⟨M,hM⟩ := exq (m.words.length)
 have HL := hid (And.intro hN hM)
 have HN0 := hid hn0
 rw [← hN] at hnl HN
 rw [← hM] at hml HM
 rw [← hN,← hM]
 have HLL := hid (And.intro hnl hml)
 obtain ⟨Wa,hWa⟩ := exq (W.alloc (.cells #[.int .i64 n.script,.slice na N ncp] 46))
 obtain ⟨W1,hW1⟩ := exq (Wa.alloc (.cells #[.int .i64 m.script,.slice ma M mcp] 46))
 have hza : Wa.heap.size = W.heap.size + 1 := by rw [hWa,World.size_alloc]
 have hba := bnew hWa
 have hbb := bnew hW1
 have hb1 := Below.step hba hbb
 have hk1 : Blk W1 W.heap.size 46 [.int .i64 n.script,.slice na N ncp] := by
  have : Blk Wa W.heap.size 46 [.int .i64 n.script,.slice na N ncp] := by rw [hWa]; exact Blk.new W _ _
  exact this.below hbb
 have hk2 : Blk W1 (W.heap.size + 1) 46 [.int .i64 m.script,.slice ma M mcp] := by rw [hW1,← hza]; exact Blk.new Wa _ _
 have HB1 := hid hb1
 have HK := hid (And.intro hk1 hk2)
 have HI1 := hid (h.below hb1)
 have HNM := hid (And.intro (HN.out.below hb1) (HM.out.below hb1))
 have HMAP := hid (h.below hb1).map
 have HCB := hid (h.below hb1).ix.costs
 have hcb : cb < W1.heap.size := by
  obtain ⟨o,e1,-⟩ := HMAP.out
  exact (Array.getElem?_eq_some_iff.1 e1).1
 have HCL := hid hcb
 have z1 := hk1.cell (j := 1) rfl
 have zz := hk1.lt
 rw [hWa] at hW1
 have HW1 := hid hW1
 clear h hnw hmw hns hms hto hn0 hb1 hba hbb hk1 hk2 hN hM hza hWa hnc hcb
 go_enter Tryz.func39,Tryz.ntmps39
 go_upto_region 1 with (fail)
 try simp only [World.size_alloc]
 rw [← HW1.out]
 clear hW1 HW1
 go_wp2_with fail
 go_loopw [7,23] (fun cv kv wr => ∃ (k : Nat) (ps : List (List Int × Value)),k ≤ N ∧ kv = .int .i64 k ∧ (∃ a l c,cv = .slice a l c) ∧ Hid (ps.map Prod.fst = (Mt.costM t n m).take k) ∧ Hid (wr.ownsRow W1.heap.size 90 1 cv k (ps.flatMap rowC)) ∧
  Hid (∀ p ∈ ps,wr.ownsRow W1.heap.size 3 1 p.2 p.1.length (p.1.flatMap intC1)) ∧ Hid (But W1.heap.size cb W1 wr) ∧ Hid (∃ nc',nc' ≤ nc + k * M ∧ CostsAt wr cb t nc')) (fun _ kv _ => N - (RowKit.intOf kv).toNat)
 case atStart => exact ⟨0,[],Nat.zero_le _,rfl,⟨_,_,_,rfl⟩,rfl,World.ownsRow_nil _ _ _ _,(fun p hp => by cases hp),But.refl _ _ _,⟨nc,by omega,HCB.out⟩⟩
 case round =>
  clear z1 zz
  obtain ⟨k,ps,hk,rfl,⟨oa,ol,oc,rfl⟩,HPS,HRO,HRP,HR,HCO⟩ := hrel
  rename World => wr
  obtain ⟨om,hom,hoc⟩ := HMAP.out
  have hkn := blk_but HK.out.1 HR.out hom hoc
  have hkm := blk_but HK.out.2 HR.out hom hoc
  have HKW := hid (And.intro hkn hkm)
  have HNMW := hid (And.intro (HNM.out.1.but HR.out hom hoc) (HNM.out.2.but HR.out hom hoc))
  clear hom hoc
  by_cases hlt : k < N
  ·obtain ⟨s,hs⟩ : ∃ s,n.words[k]? = some s := ⟨_,List.getElem?_eq_getElem (by rw [← HL.out.1]; exact hlt)⟩
   obtain ⟨g,o,rfl,hr⟩ : ∃ g o,na = some ⟨g,o,none⟩ ∧ RowOf wr g o 1 strC n.words := by
    obtain ⟨a',c',e',-,-,hr⟩ := HNMW.out.1
    simp only [Value.slice.injEq] at e'
    obtain ⟨rfl,-,rfl⟩ := e'
    exact hr (by rw [← HL.out.1]; omega)
   have s0 := hr.2 k s hs 0 _ rfl
   rw [Nat.add_zero,Nat.mul_one] at s0
   have hg := hr.1
   have HS := hid (HNW.out.1 s (List.mem_of_getElem? hs))
   have HTK := hid (costM_take (t := t) (m := m) hs)
   have m1 := hkm.cell (j := 1) rfl
   have mz := hkm.lt
   have k0 : (0 : Int) ≤ (k : Int) := by omega
   have k1 : (k : Int) < (N : Int) := by omega
   clear hr hs hkn hkm
   go_wp2_with fail
   go_loopw [10,30] (fun rv jv wx => ∃ (j : Nat),j ≤ M ∧ jv = .int .i64 j ∧ (∃ a l c,rv = .slice a l c) ∧ Hid (wx.ownsRow wr.heap.size 3 1 rv j (((m.words.take j).map fun u => Mt.pairCost t n.script s m.script u).flatMap intC1)) ∧
    Hid (But wr.heap.size cb wr wx) ∧ Hid (∃ nc',nc' ≤ nc + k * M + j ∧ CostsAt wx cb t nc')) (fun _ jv _ => M - (RowKit.intOf jv).toNat)
   case atStart => exact ⟨0,Nat.zero_le _,rfl,⟨_,_,_,rfl⟩,World.ownsRow_nil _ _ _ _,But.refl _ _ _,HCO.out⟩
   case round =>
    clear s0 hg m1 mz
    obtain ⟨j,hj,rfl,⟨ra,rl,rc,rfl⟩,HRR,HX,HCX⟩ := hrel
    rename World => wx
    obtain ⟨om,hom,hoc⟩ := (CostsAt.map HCO.out.choose_spec.2)
    have hkn := blk_but HKW.out.1 HX.out hom hoc
    have hkm := blk_but HKW.out.2 HX.out hom hoc
    have hmw := HNMW.out.2.but HX.out hom hoc
    clear hom hoc
    by_cases hjm : j < M
    ·obtain ⟨u,hu⟩ : ∃ u,m.words[j]? = some u := ⟨_,List.getElem?_eq_getElem (by rw [← HL.out.2]; exact hjm)⟩
     obtain ⟨g2,o2,rfl,hr⟩ : ∃ g o,ma = some ⟨g,o,none⟩ ∧ RowOf wx g o 1 strC m.words := by
      obtain ⟨a',c',e',-,-,hr⟩ := hmw
      simp only [Value.slice.injEq] at e'
      obtain ⟨rfl,-,rfl⟩ := e'
      exact hr (by rw [← HL.out.2]; omega)
     have u0 := hr.2 j u hu 0 _ rfl
     rw [Nat.add_zero,Nat.mul_one] at u0
     have hg2 := hr.1
     have a0 := hkn.cell (j := 0) rfl
     have az := hkn.lt
     have b0 := hkm.cell (j := 0) rfl
     have bz := hkm.lt
     have j0 : (0 : Int) ≤ (j : Int) := by omega
     have j1 : (j : Int) < (M : Int) := by omega
     have HTJ := hid (costRow_take (f := fun u => Mt.pairCost t n.script s m.script u) hu)
     obtain ⟨nc1,hn1,hc1⟩ := HCX.out
     have hkM : k * M + j ≤ 100 * 100 := by
      have h1 := HLL.out
      have : (k + 1) * M ≤ 100 * 100 := Nat.mul_le_mul (by omega) h1.2
      rw [Nat.add_mul] at this
      omega
     have HN1 := hid hn1
     have HC1 := hid hc1
     have HIX := hid ((HI1.out.now (HR.out.trans (HX.out.mono HR.out.size)) hc1))
     have HCC := hid (cost_any px eb cb t vr vd ve bd Q P nc1 n.script s m.script u wx HIX.out.ix HIX.out.tb HIX.out.tabs HSC.out.1 HSC.out.2 HS.out (HNW.out.2 u (List.mem_of_getElem? hu)) (by have := HNC.out; omega))
     clear hr hu hkn hkm hmw hc1 hn1 hkM
     obtain ⟨c,hc⟩ := exq (Mt.pairCost t n.script s m.script u)
     try simp only at HTJ
     rw [← hc] at HTJ
     go_wp2_with fail
     refine (HCC.out).mono ?_
     rintro e w3 ⟨hb3,rfl,nc2,h21,h22,hix⟩
     rw [← hc]
     clear hc
     obtain ⟨om,hom,hoc⟩ := CostsAt.map HC1.out
     have HOB := hid (show wr.heap.size ≤ w3.heap.size from Nat.le_trans HX.out.size hb3.size)
     have HRR3 := hid ((owns_but HRR.out hb3 hom hoc).alloc (.cells #[.int .i64 c] 3))
     have HX3 := hid ((HX.out.trans (hb3.mono HX.out.size)).alloc_ HOB.out (.cells #[.int .i64 c] 3))
     have HC3 := hid (CostsAt.below (W' := w3.alloc (.cells #[.int .i64 c] 3)) hix.costs ((Below.refl _ w3).alloc (Nat.le_refl _) _))
     have HNE := hid (own_ne HRR.out (show cb < wr.heap.size from Nat.lt_of_lt_of_le HCL.out HR.out.size))
     have HN2 := hid (show nc2 ≤ nc + k * M + (j + 1) by have := HN1.out; omega)
     have hml := HLL.out.2
     clear hom hoc hb3 h21 h22 hix u0 hg2 a0 az b0 bz
     go_wp2_with (at_builtin; refine wpList_append_own _ rfl _ _ 90 rfl wr.heap.size 3 i0 (.int .i64 0) 1 8 Tryz.underlying90 hi hz0 hz1 hz2 rfl (by decide) _ _ _ rfl HRR3.out ⟨w3.heap.size,0,none⟩ 1 1 [.int .i64 c] rfl rfl (cells_new rfl) (by simp [Value.oneCell']) (by unfold maxLen; omega) (by omega) (by have := HOB.out; simp; omega) ?_; intro v' w9 ho9 hg9 _; have HX9 := hid (HX3.out.app_ hg9 (by have := HOB.out; simp; omega) HRR3.out); have HC9 := hid (HC3.out.kept hg9 HNE.out); have HO9 := hid ho9; obtain ⟨va,vc,hv9⟩ := ownsRow_slice ho9; clear ho9 hg9; subst hv9)
     go_roundw
     case rel => exact ⟨j + 1,by omega,by go_num,⟨_,_,_,rfl⟩,hid (by rw [HTJ.out,List.flatMap_append]; exact HO9.out),HX9,hid ⟨nc2,HN2.out,HC9.out⟩⟩
     case measure => simp [RowKit.intOf]; omega
    ·have hje : j = M := by omega
     have hjl : ¬ (j : Int) < (M : Int) := by omega
     have HJE := hid hje
     obtain ⟨om,hom,hoc⟩ := CostsAt.map HCO.out.choose_spec.2
     have HOB := hid (show W1.heap.size ≤ wx.heap.size from Nat.le_trans HR.out.size HX.out.size)
     have hrl := ownsRow_slice HRR.out
     obtain ⟨ra',rc',hrv⟩ := hrl
     cases hrv
     have HROX := hid ((owns_but HRO.out HX.out hom hoc).alloc (.cells #[.slice ra j rc] 90))
     have HRPX := hid (show ∀ p ∈ ps,(wx.alloc (.cells #[.slice ra j rc] 90)).ownsRow W1.heap.size 3 1 p.2 p.1.length (p.1.flatMap intC1) from fun p hp => (owns_but (HRP.out p hp) HX.out hom hoc).alloc _)
     have HRRX := hid ((ownsRow_to HRR.out HR.out.size).alloc (.cells #[.slice ra j rc] 90))
     have HX3 := hid ((HR.out.trans (HX.out.mono HR.out.size)).alloc_ HOB.out (.cells #[.slice ra j rc] 90))
     have HC3 := hid (show ∃ nc',nc' ≤ nc + k * M + M ∧ CostsAt (wx.alloc (.cells #[.slice ra j rc] 90)) cb t nc' by
      obtain ⟨nc1,hn1,hc1⟩ := HCX.out
      exact ⟨nc1,by omega,hc1.below ((Below.refl _ wx).alloc (Nat.le_refl _) _)⟩)
     have HNE := hid (own_ne HRO.out HCL.out)
     have hnl := HLL.out.1
     clear hom hoc hje hkn hkm hmw
     go_wp2_with (at_builtin; refine wpList_append_own _ rfl _ _ 96 rfl W1.heap.size 90 i1 (.slice none 0 0) 1 24 Tryz.underlying96 hji hy0 hy1 hy2 rfl (by decide) _ _ _ rfl HROX.out ⟨wx.heap.size,0,none⟩ 1 1 [.slice ra j rc] rfl rfl (cells_new rfl) (by simp [Value.oneCell']) (by unfold maxLen; omega) (by omega) (by have := HOB.out; simp; omega) ?_; intro v' w9 ho9 hg9 _; have HX9 := hid (HX3.out.app_ hg9 (by have := HOB.out; simp; omega) HROX.out); have HC9 := hid (show ∃ nc',nc' ≤ nc + k * M + M ∧ CostsAt w9 cb t nc' from HC3.out.imp fun _ h => ⟨h.1,h.2.kept hg9 HNE.out⟩); have HP9 := hid (show ∀ p ∈ ps,w9.ownsRow W1.heap.size 3 1 p.2 p.1.length (p.1.flatMap intC1) from fun p hp => owns_other (HRPX.out p hp) HROX.out hg9 (by decide)); have HR9 := hid (owns_other HRRX.out HROX.out hg9 (by decide)); have HO9 := hid ho9; obtain ⟨va,vc,hv9⟩ := ownsRow_slice ho9; clear ho9 hg9; subst hv9)
     go_roundw
     case rel =>
      have hrow : ((m.words.take j).map fun u => Mt.pairCost t n.script s m.script u) = m.words.map fun u => Mt.pairCost t n.script s m.script u := by
       rw [List.take_of_length_le (by rw [← HL.out.2]; omega)]
      have HR9' := HR9.out
      rw [hrow] at HR9'
      refine ⟨k + 1,ps ++ [(m.words.map fun u => Mt.pairCost t n.script s m.script u,.slice ra j rc)],by omega,by go_num,⟨_,_,_,rfl⟩,hid (by rw [List.map_append,HPS.out,HTK.out]; rfl),hid (by rw [List.flatMap_append]; exact HO9.out),hid (fun p hp => ?_),HX9,hid ?_⟩
      ·rcases List.mem_append.1 hp with hp | hp
       ·exact HP9.out p hp
       ·rw [List.mem_singleton.1 hp]
        show w9.ownsRow W1.heap.size 3 1 (.slice ra j rc) (m.words.map fun u => Mt.pairCost t n.script s m.script u).length _
        rw [List.length_map,← HL.out.2,← HJE.out]
        exact HR9'
      ·obtain ⟨nc1,hn1,hc1⟩ := HC9.out
       exact ⟨nc1,by rw [Nat.add_mul]; omega,hc1⟩
     case measure => simp [RowKit.intOf]; omega
  ·have hke : k = N := by omega
   have hle : ¬ (k : Int) < (N : Int) := by omega
   subst hke
   obtain ⟨nc1,hn1,hc1⟩ := HCO.out
   have HIX := hid (HI1.out.now HR.out hc1)
   have HNC1 := hid (And.intro hn1 hc1)
   have HPC := hid (show ps.map Prod.fst = Mt.costM t n m by
    have := HPS.out
    rwa [List.take_of_length_le (by unfold Mt.costM; rw [List.length_map,← HL.out.1]; exact Nat.le_refl _)] at this)
   have HPL := hid (show ps.length = k by
    have := congrArg List.length HPC.out
    unfold Mt.costM at this
    rw [List.length_map,List.length_map,← HL.out.1] at this
    exact this)
   obtain ⟨oa',oc',hov⟩ := ownsRow_slice HRO.out
   cases hov
   have HRA := hid (show RowsAt wr (.slice oa k oc) ps from ⟨SlOf.own (e := 90) (B := W1.heap.size) (by rw [HPL.out]; exact HRO.out) (fun _ _ => rfl),fun p hp => ⟨SlOf.own (HRP.out p hp) (fun _ _ => rfl),by
    have h1 : p.1 ∈ ps.map Prod.fst := List.mem_map_of_mem hp
    rw [HPC.out] at h1
    unfold Mt.costM at h1
    obtain ⟨s,-,hs⟩ := List.mem_map.1 h1
    rw [← hs,List.length_map,← HL.out.2]
    have := HLL.out.2
    omega⟩⟩)
   obtain ⟨D,hD⟩ := exq (wr.drew)
   have hbD : Below wr.heap.size wr D := by rw [hD]; exact (Below.refl _ _).drew
   have HBD := hid hbD
   have HD1 := hid (drops_any px eb cb t vr vd ve bd Q P nc1 n _ D (HIX.out.below hbD) (HNMW.out.1.below hbD) HNW.out.1 (by rw [← HL.out.1]; have := HLL.out.1; omega))
   have HD2 : Hid (∀ X,Below D.heap.size D X → Calls Tryz.prog 66 #[.pointer (some ⟨px,0,none⟩),.agg #[.int .i64 m.script,.slice ma M mcp]] X (DropsP t m X)) := hid fun X hX => drops_any px eb cb t vr vd ve bd Q P nc1 m _ X ((HIX.out.below hbD).below hX) ((HNMW.out.2.below hbD).below hX) HNW.out.2 (by rw [← HL.out.2]; have := HLL.out.2; omega)
   have HK2 := hid (HKW.out.2.below hbD)
   obtain ⟨a0,a1,az⟩ := hkn.cl2
   obtain ⟨b0,b1,bz⟩ := hkm.cl2
   clear hkn hkm hn1 hc1 hbD
   go_upto_region 13 with (fail)
   go_cut [13,14] from 53 (fun v13 v14 wx => ∃ a c a2 c2,v13 = .slice a k c ∧ v14 = .slice a2 M c2 ∧ Below wr.heap.size wr wx ∧ Hid (SlOf wx (.slice a k c) 1 intC1 (Mt.dropsN t n)) ∧ Hid (SlOf wx (.slice a2 M c2) 1 intC1 (Mt.dropsN t m)))
   case first =>
    go_region_with (first | (rw [← hD]; refine (HD1.out).mono ?_; rintro e w2 ⟨hb2,a2,c2,rfl,ho2⟩; rw [← HL.out.1] at ho2 ⊢; have HB2 := hid hb2; have HO2 := hid ho2; have kb2 := HK2.out.below hb2; have q0 := kb2.cell (j := 0) rfl; have q1 := kb2.cell (j := 1) rfl; have qz := kb2.lt; clear hb2 ho2 kb2) | (refine (HD2.out _ HB2.out).mono ?_; rintro e w4 ⟨hb4,a4,c4,rfl,ho4⟩; rw [← HL.out.2] at ho4 ⊢; have HB4 := hid hb4; have HO4 := hid ho4; clear hb4 ho4))
    all_goals (go_wp2_with fail)
    all_goals go_meet
    all_goals exact ⟨_,_,_,_,rfl,rfl,Below.step HBD.out (Below.step HB2.out HB4.out),hid (HO2.out.below HB4.out),hid HO4.out⟩
   case rest =>
   obtain ⟨da,dc,ea,ec,rfl,rfl,hb3,HDN,HDM⟩ := hcut
   rename World => W3
   have HB3 := hid hb3
   have HPC' := HPC.out
   have HBE := hid (asgBest_any ps (Mt.dropsN t n) (Mt.dropsN t m) _ _ _ W3 (HRA.out.below hb3) HDN.out HDM.out (by rw [HPL.out,HL.out.1]; exact HN0.out) (by rw [HPL.out]; have := HLL.out.1; omega) (by unfold Mt.dropsN; rw [List.length_map,← HL.out.1]; have := HLL.out.1; omega) (by unfold Mt.dropsN; rw [List.length_map,← HL.out.2]; have := HLL.out.2; omega))
   rw [HPC'] at HBE
   clear hb3 hD a0 a1 az b0 b1 bz HPC'
   go_wp2_with fail
   refine (HBE.out).mono ?_
   rintro e W4 ⟨hb4,pv,uv,vv,P',U',V',rfl,hp,hu,hv,-⟩
   generalize (if As.valid (Mt.costM t n m) (Mt.dropsN t n) (Mt.dropsN t m) then (0 : Int) else 1) = er1
   obtain ⟨pa,pc,rfl,-⟩ := hp
   obtain ⟨ua,uc,rfl,-⟩ := hu
   obtain ⟨va,vc,rfl,-⟩ := hv
   obtain ⟨bst,hbst⟩ := exq (As.best (Mt.costM t n m) (Mt.dropsN t n) (Mt.dropsN t m))
   rw [← hbst]
   have HBS := hid hbst
   obtain ⟨W5,hW5⟩ := exq (W4.alloc (.cells #[.int .i64 bst,.slice pa P'.length pc,.slice ua U'.length uc,.slice va V'.length vc] 111))
   have hb5 := bnew hW5
   have hk5 : Blk W5 W4.heap.size 111 [.int .i64 bst,.slice pa P'.length pc,.slice ua U'.length uc,.slice va V'.length vc] := by rw [hW5]; exact Blk.new _ _ _
   have hb35 := Below.step hb4 hb5
   have HB5 := hid (Below.step HB3.out hb35)
   have HK5 := hid hk5
   have HOR := hid (ordered_any ps (Mt.dropsN t n) (Mt.dropsN t m) _ _ _ W5 (HRA.out.below HB5.out) (HDN.out.below hb35) (HDM.out.below hb35) (by rw [HPL.out]; have := HLL.out.1; omega) (by unfold Mt.dropsN; rw [List.length_map,← HL.out.1]; have := HLL.out.1; omega) (by unfold Mt.dropsN; rw [List.length_map,← HL.out.2]; have := HLL.out.2; omega))
   obtain ⟨q5,hq5⟩ := exq (W4.heap.size)
   rw [← hq5] at HK5
   have HPC' := HPC.out
   rw [HPC'] at HOR
   clear hb4 hb5 hk5 hb35 hbst HBE HPC'
   go_upto_region 15 with (fail)
   rw [← hW5,← hq5]
   clear hW5 hq5
   go_wp2_with fail
   refine (HOR.out).mono ?_
   rintro e W6 ⟨hb6,ov,out,rfl,hov,-⟩
   generalize (if As.valid (Mt.costM t n m) (Mt.dropsN t n) (Mt.dropsN t m) then (0 : Int) else 1) = er2
   obtain ⟨va2,vc2,rfl,-⟩ := hov
   obtain ⟨ord,hord⟩ := exq (As.ordered (Mt.costM t n m) (Mt.dropsN t n) (Mt.dropsN t m))
   rw [← hord]
   have HOD := hid hord
   have HB6 := hid (Below.step HB5.out hb6)
   have hk6 := HK5.out.below hb6
   have p0 := hk6.cell (j := 0) rfl
   have pz := hk6.lt
   have hix := HIX.out.ix.box.below HB6.out
   have c4 := hix.cell (j := 4) rfl
   have cz := hix.lt
   have hwr : IntKind.i64.wrap (bst + t.order) = bst + t.order := IntWalk.i64_in _ (by
    have h1 := As.best_bounds (Mt.costM t n m) (Mt.dropsN t n) (Mt.dropsN t m)
    rw [← HBS.out] at h1
    have h2 := HTO.out
    omega)
   clear hk6 hix hord hb6 HOR
   go_upto_region 16 with (fail)
   go_region
   go_wp2_with fail
   go_ret
   refine ⟨(But.of_below HB1.out cb).step (HR.out.trans ((But.of_below (HB6.out.drew) cb).mono HR.out.size)),?_,?_⟩
   ·unfold Mt.dist
    rw [← HBS.out,← HOD.out]
    rfl
   ·obtain ⟨h1,h2⟩ := HNC1.out
    exact ⟨nc1,by rw [← HL.out.1,← HL.out.2]; exact h1,h2.below HB6.out.drew⟩
end Go.Proofs.YtdghfenbfbdijaaGreatDoor
