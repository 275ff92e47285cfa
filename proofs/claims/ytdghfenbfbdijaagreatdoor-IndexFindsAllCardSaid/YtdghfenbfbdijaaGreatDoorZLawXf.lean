/-
 IndexFindsAll: Find returns, for each entry of Entries and each of its names, in order, a hit with the cost of match.Best exactly if this is at most the bound. Conditions: the arguments lie in memory and are of sizes that a machine holds; the library's tables.
-/
import Derived.Test.YtdghfenbfbdijaaGreatDoorZIy7
import Derived.Test.YtdghfenbfbdijaaGreatDoorZMt9
import Derived.Sort.Walk0
import Derived.BigQuiet
namespace Go.Proofs.YtdghfenbfbdijaaGreatDoor
open Go.RowKit Go.Lib Go.Maps
theorem bs_lessX (a b : List UInt8) : Op.bytesLess (bs a).toList (bs b).toList = decide (a < b) := by
 have h : ∀ x : List UInt8,(bs x).toList = x := fun x => by rw [ByteArray.toList_eq]; rfl
 rw [h,h]
 exact bytesLess_eq a b
theorem sorted_ids {P : List (Li.En × Value)} (h : Idx.Ok (P.map Prod.fst)) {i : Nat} {a b : Li.En} (ha : ((Idx.sortE P).map Prod.fst)[i]? = some a) (hb : ((Idx.sortE P).map Prod.fst)[i + 1]? = some b) : a.id < b.id := by
 have h1 : (P.map fun p => p.1.id).Nodup := by have := h.once; rwa [List.map_map] at this
 have h2 := (Idx.sortE_srt h1).ord
 obtain ⟨h3,rfl⟩ := List.getElem?_eq_some_iff.1 ha
 obtain ⟨h4,rfl⟩ := List.getElem?_eq_some_iff.1 hb
 exact List.pairwise_iff_getElem.1 h2 i (i + 1) h3 h4 (by omega)
def FdS (t : Rw.Table) (bd : Int) (n : Li.Nm) (L : List Li.En) (H : List Idx.Hit) (er : Int) (i k : Nat) (pre : List Idx.Hit) : Prop :=
 (Li.nmOk n = true ∧ H = pre ++ Idx.left (Mt.dist t n) bd L i k) ∨ (Li.nmOk n = false ∧ i = 0 ∧ k = 0 ∧ H = [] ∧ pre = [] ∧ er = 1)
set_option maxRecDepth 100000 in
set_option maxHeartbeats 16000000 in
theorem finds_law (t : Rw.Table) (tv : Value) (bd : Int) (ps : List (Li.En × Value)) (vl : Value) (n : Li.Nm) (nv : Value) (W : World) (ht : TableRaw W t tv) (hl : EnsRaw W vl ps) (hn : SlOf W nv 1 strC n.words)
  (hz : ∀ e ∈ ps.map Prod.fst,∀ m ∈ e.names,m.words.length ≤ 8796093022208) (hzn : n.words.length ≤ 8796093022208) (hT : Tabs W) :
  Calls Tryz.prog 9 #[tv,.int .i64 bd,vl,.agg #[.int .i64 n.script,nv]] W (Gives (.bool true) W) := by
 have HT := hid ht
 have HTT := hid hT
 have HL := hid hl
 have HN := hid hn
 have HZ := hid (And.intro hz hzn)
 obtain ⟨⟨vr,vd,ve,rfl,⟨ar,cr,rfl,-⟩,⟨ad,cd,rfl,-⟩,⟨ae,ce,rfl,-⟩⟩,-,-,-⟩ := ht
 obtain ⟨la,lc,rfl,-⟩ := hl.sl
 obtain ⟨na,nc,rfl,-⟩ := hn
 clear hT hl hz hzn
 obtain ⟨Wa,hWa⟩ := exq (W.alloc (.cells #[.slice ar t.rules.length cr,.slice ad t.drops.length cd,.slice ae t.ends.length ce,.int .i64 t.drop,.int .i64 t.order,.int .i64 t.initial] 25))
 obtain ⟨W1,hW1⟩ := exq (Wa.alloc (.cells #[.int .i64 n.script,.slice na n.words.length nc] 46))
 have sa : Wa.heap.size = W.heap.size + 1 := by rw [hWa,World.size_alloc]
 have ba := bnew hWa
 have bb := bnew hW1
 have T1 := hid (show Blk W1 W.heap.size 25 [.slice ar t.rules.length cr,.slice ad t.drops.length cd,.slice ae t.ends.length ce,.int .i64 t.drop,.int .i64 t.order,.int .i64 t.initial] by
  have : Blk Wa W.heap.size 25 [.slice ar t.rules.length cr,.slice ad t.drops.length cd,.slice ae t.ends.length ce,.int .i64 t.drop,.int .i64 t.order,.int .i64 t.initial] := by rw [hWa]; exact Blk.new W _ _
  exact this.below bb)
 have N1 := hid (show Blk W1 (W.heap.size + 1) 46 [.int .i64 n.script,.slice na n.words.length nc] by rw [hW1,← sa]; exact Blk.new Wa _ _)
 have B1 := hid (Below.step ba bb)
 rw [hWa] at hW1
 have HH := hid (head_true W1 (HTT.out.below B1.out))
 clear ba bb sa hWa
 go_enter Tryz.func9,Tryz.ntmps9
 go_upto_region 1 with (fail)
 try simp only [World.size_alloc]
 rw [← hW1]
 clear hW1
 go_wp2_with fail
 refine (HH.out).mono ?_
 rintro e W2 ⟨rfl,hb2⟩
 have B2 := hid (Below.step B1.out hb2)
 have T2 := hid (T1.out.below hb2)
 have N2 := hid (N1.out.below hb2)
 clear hb2 HH
 obtain ⟨X3,hX3⟩ := exq (W2.alloc (.cells #[.int .i64 n.script,.slice na n.words.length nc] 46))
 have b3 := bnew hX3
 have k3 : Blk X3 W2.heap.size 46 [.int .i64 n.script,.slice na n.words.length nc] := by rw [hX3]; exact Blk.new _ _ _
 have B3 := hid (Below.step B2.out b3)
 have T3 := hid (T2.out.below b3)
 have N3 := hid (N2.out.below b3)
 have HS := hid (small_any t _ ps (.slice la ps.length lc) none 0 0 [n] (.slice (some ⟨W2.heap.size,0,none⟩) 1 1) X3 (HT.out.below B3.out) (HL.out.below B3.out)
  ⟨[(n,.slice na n.words.length nc)],rfl,SlOf.block k3 rfl (fun _ _ => rfl) rfl (by decide),fun p hp => by rw [List.mem_singleton.1 hp]; exact HN.out.below B3.out⟩ (by decide))
 obtain ⟨t0,t1,t2,t3,t4,t5,tl⟩ := T2.out.cl6
 obtain ⟨n0,n1,nl⟩ := N2.out.cl2
 clear b3 k3
 go_wp2_with fail
 rw [← hX3]
 clear hX3 t0 t1 t2 t3 t4 t5 tl n0 n1 nl
 refine (HS.out).mono ?_
 rintro e W3 ⟨rfl,hb3⟩
 have B4 := hid (Below.step B3.out hb3)
 have T4 := hid (T3.out.below hb3)
 have N4 := hid (N3.out.below hb3)
 clear hb3 HS
 cases hs : smallZ t (ps.map Prod.fst) 0 [n] with
 | false =>
  clear hs
  go_wp2_with fail
  go_ret
  exact ⟨rfl,B4.out⟩
 | true =>
 unfold smallZ at hs
 simp only [Bool.and_eq_true,decide_eq_true_eq] at hs
 have TA := hid (HT.out.few10 hs.1.1.1.1)
 have HSM := hid (Idx.few_small hs.1.1.1.2 HZ.out.1)
 have HNS := hid (Idx.names_small hs.1.2 hs.2 (fun m hm => by rw [List.mem_singleton.1 hm]; exact HZ.out.2) n List.mem_cons_self)
 clear hs
 have HFA := hid (filled_any t _ _ _ bd (fun _ => True) ps _ W3 (TA.out.below B4.out) (HTT.out.below B4.out) (HL.out.below B4.out) HSM.out (fun _ _ => trivial))
 obtain ⟨t0,t1,t2,t3,t4,t5,tl⟩ := T4.out.cl6
 go_wp2_with fail
 refine (HFA.out).mono ?_
 rintro e W4 ⟨hb4,hx⟩
 have B5 := hid (Below.step B4.out hb4)
 have T5 := hid (T4.out.below hb4)
 have N5 := hid (N4.out.below hb4)
 clear t0 t1 t2 t3 t4 t5 tl hb4 HFA
 rcases hx with ⟨-,rfl⟩ | ⟨hok,px,eb,cb,P,rfl,he,hc,hP,hix⟩
 ·go_wp2_with fail
  go_ret
  exact ⟨rfl,B5.out⟩
 have HIX := hid hix
 have HEC := hid (And.intro he hc)
 have HVT := hid (show Rw.valid t = true by unfold newOk at hok; simp only [Bool.and_eq_true] at hok; exact hok.1.1)
 clear he hc hP hix hok
 have hw6 : ∀ s ∈ n.words,s.length ≤ 1000000 := fun s hs => by have := HNS.out.2 s hs; omega
 have HW6 := hid hw6
 have HFI := hid (find_all px eb cb t _ _ _ bd (fun _ => True) P 0 n _ W4 HIX.out (HN.out.below B5.out) hw6 (by omega) (Rw.valid_order HVT.out))
 obtain ⟨n0,n1,nl⟩ := N5.out.cl2
 clear hw6
 go_wp2_with fail
 refine (HFI.out).mono ?_
 rintro e W5 ⟨hb5,fa,fc,nc5,rfl,hfs,-,hi5⟩
 obtain ⟨om,hom,hoc⟩ := HIX.out.map
 have B6 := hid (B5.out.trans (hb5.below B5.out.size (Nat.le_trans B4.out.size HEC.out.2)))
 have T6 := hid (blk_but T5.out hb5 hom hoc)
 have N6 := hid (blk_but N5.out hb5 hom hoc)
 have HI5 := hid hi5
 obtain ⟨L,hL⟩ := exq ((Idx.sortE P).map Prod.fst)
 have HLS := hid hL
 rw [← hL] at hfs ⊢
 have HFS := hid hfs
 clear n0 n1 nl hb5 hom hoc hi5 hL hfs HFI
 have HEN := hid (entries_raw px eb cb t _ _ _ bd _ P nc5 W5 HI5.out)
 rw [← HLS.out] at HEN
 go_wp2_with fail
 refine (HEN.out).mono ?_
 rintro e W6 ⟨hb6,ga,gc,es,rfl,hes,hen⟩
 have HES := hid hes
 have HEL := hid (show es.length = L.length by have := congrArg List.length hes; rwa [List.length_map] at this)
 have HER := hid hen
 have HFS6 := hid (HFS.out.below hb6)
 have B7 := hid (Below.step B6.out hb6)
 have T7 := hid (T6.out.below hb6)
 have N7 := hid (N6.out.below hb6)
 have HPR := hid (show ∀ e ∈ L,Li.proper e = true from fun e he => by
  rw [HLS.out] at he
  obtain ⟨p,hp,rfl⟩ := List.mem_map.1 he
  exact HIX.out.ix.ok.prop p.1 (List.mem_map_of_mem (Idx.sortE_mem.1 hp)))
 have HLF := hid (show L.length ≤ 400 by
  have h := HIX.out.ix.ok.few
  rw [List.length_map] at h
  rw [HLS.out,List.length_map,Idx.sortE_len]
  exact h)
 obtain ⟨H,hH⟩ := exq ((Idx.findZ t bd n L).1)
 obtain ⟨er,her⟩ := exq ((Idx.findZ t bd n L).2)
 have HFE := hid (And.intro hH her)
 rw [← hH] at HFS6
 rw [← hH,← her]
 clear hes hen hb6 hH her HEN
 have HHL := hid (show H.length ≤ 3200 by
  have h := HFE.out.1
  unfold Idx.findZ at h
  split at h
  ·have h1 := Idx.hits_len (Mt.dist t n) bd (m := 8) L (fun e he => (Li.proper_few (HPR.out e he)).1)
   have h2 := HLF.out
   rw [h]
   dsimp only
   omega
  ·rw [h]
   simp)
 have HST := hid (show FdS t bd n L H er 0 0 [] by
  have h := HFE.out
  unfold Idx.findZ at h
  cases hok : Li.nmOk n with
  | true =>
   rw [hok] at h
   exact .inl ⟨hok,by rw [h.1,Idx.left_start,List.drop_zero]; rfl⟩
  | false =>
   rw [hok] at h
   exact .inr ⟨hok,rfl,rfl,h.1,rfl,h.2⟩)
 go_wp2_with fail
 go_loopw [15,16] (fun av iv wr => ∃ (i : Nat) (pre : List Idx.Hit),i ≤ L.length ∧ iv = .int .i64 i ∧ av = .int .i64 pre.length ∧ Hid (FdS t bd n L H er i 0 pre) ∧ Hid (Below W6.heap.size W6 wr)) (fun _ iv _ => L.length - (RowKit.intOf iv).toNat)
 case atStart => exact ⟨0,[],Nat.zero_le _,rfl,rfl,HST.out,Below.refl _ _⟩
 case round =>
  obtain ⟨i,pre,hi,rfl,rfl,HPRE,HR⟩ := hrel
  rename World => wr
  by_cases hlt : i < L.length
  ·obtain ⟨⟨en,env⟩,hei⟩ : ∃ e,es[i]? = some e := ⟨_,List.getElem?_eq_getElem (by rw [HEL.out]; exact hlt)⟩
   have hLi : L[i]? = some en := by rw [← HES.out,List.getElem?_map,hei]; rfl
   have her := HER.out.below HR.out
   obtain ⟨gl,ol,rfl,hrl⟩ : ∃ g o,ga = some ⟨g,o,none⟩ ∧ RowOf wr g o 2 enC es := by
    obtain ⟨a',c',e',-,-,hr⟩ := her.sl
    simp only [Value.slice.injEq] at e'
    obtain ⟨rfl,-,rfl⟩ := e'
    exact hr (by rw [HEL.out]; omega)
   have l0 := hrl.2 i _ hei 0 _ rfl
   have l1 := hrl.2 i _ hei 1 _ rfl
   rw [Nat.add_zero] at l0
   have glz := hrl.1
   obtain ⟨qs,hqs,hqr,hqa⟩ := her.nm _ (List.mem_of_getElem? hei)
   dsimp only at hqs hqr l1
   obtain ⟨ea,ec,rfl,-⟩ := id hqr
   have hpr := HPR.out en (List.mem_of_getElem? hLi)
   have HPF := hid (Li.proper_few hpr)
   have hne0 : 0 < en.names.length := by unfold Li.proper at hpr; simp only [Bool.and_eq_true,decide_eq_true_eq] at hpr; exact hpr.1.1.2
   have hql : qs.length = en.names.length := by rw [← hqs,List.length_map]
   rw [hql] at l1
   have HLI := hid hLi
   have HQS := hid (And.intro hqs (And.intro hql hqa))
   have HQR := hid hqr
   have i0 : (0 : Int) ≤ (i : Int) := by omega
   have i1 : (i : Int) < (es.length : Int) := by rw [HEL.out]; omega
   clear hei hLi her hrl hqs hqr hqa hpr hql
   obtain ⟨E,hE⟩ := exq (en.names.length)
   have HE := hid hE
   have HE6 := hid (show E ≤ 8 by rw [hE]; exact HPF.out.1)
   rw [← hE] at l1 hne0
   clear hE
   go_wp2_with fail
   go_loopw [15,17] (fun av kv wx => ∃ (k : Nat) (pre2 : List Idx.Hit),k ≤ E ∧ kv = .int .i64 k ∧ av = .int .i64 pre2.length ∧ Hid (FdS t bd n L H er i k pre2) ∧ Hid (Below wr.heap.size wr wx)) (fun _ kv _ => E - (RowKit.intOf kv).toNat)
   case atStart => exact ⟨0,pre,Nat.zero_le _,rfl,rfl,HPRE.out,Below.refl _ _⟩
   case round =>
    obtain ⟨k,pre2,hk,rfl,rfl,HP2,HX⟩ := hrel
    rename World => wx
    by_cases hkE : k < E
    ·obtain ⟨⟨m,mv⟩,hqk⟩ : ∃ q,qs[k]? = some q := ⟨_,List.getElem?_eq_getElem (by rw [HQS.out.2.1,← HE.out]; exact hkE)⟩
     have hmk : en.names[k]? = some m := by rw [← HQS.out.1,List.getElem?_map,hqk]; rfl
     have hnk := (HQS.out.2.2 _ (List.mem_of_getElem? hqk)).below HX.out
     unfold NmAt at hnk
     dsimp only at hnk
     obtain ⟨ge,oe,rfl,hre⟩ : ∃ g o,ea = some ⟨g,o,none⟩ ∧ RowOf wx g o 2 nmC qs := by
      obtain ⟨a',c',e',-,-,hr⟩ := HQR.out.below HX.out
      simp only [Value.slice.injEq] at e'
      obtain ⟨rfl,-,rfl⟩ := e'
      exact hr (by rw [HQS.out.2.1,← HE.out]; omega)
     have q0 := hre.2 k _ hqk 0 _ rfl
     have q1 := hre.2 k _ hqk 1 _ rfl
     rw [Nat.add_zero] at q0
     have gez := hre.1
     obtain ⟨ma,mc,rfl,-⟩ := id hnk
     have hmo := HPF.out.2 m (List.mem_of_getElem? hmk)
     have hbw := B7.out.trans ((HR.out.trans (HX.out.mono HR.out.size)).mono B7.out.size)
     have HMB : Hid (∀ X,Below wx.heap.size wx X → Calls Tryz.prog 28 #[.agg #[.slice ar t.rules.length cr,.slice ad t.drops.length cd,.slice ae t.ends.length ce,.int .i64 t.drop,.int .i64 t.order,.int .i64 t.initial],.agg #[.int .i64 n.script,.slice na n.words.length nc],.agg #[.int .i64 m.script,.slice ma m.words.length mc]] X (MBestP t n m X)) := hid fun X hX =>
      mbest_any t _ n m _ _ X (TA.out.below (hbw.trans (hX.mono hbw.size))) (HTT.out.below (hbw.trans (hX.mono hbw.size))) HVT.out (Rw.valid_order HVT.out) (HN.out.below (hbw.trans (hX.mono hbw.size))) HW6.out (hnk.below hX) hmo
     have HBW := hid hbw
     have HMK := hid hmk
     have m0 := (HX.out.cell (p := ⟨gl,ol + i * 2,none⟩) glz).trans l0
     have m1 := (HX.out.cell (p := ⟨gl,ol + i * 2 + 1,none⟩) glz).trans l1
     have mz : gl < wx.heap.size := Nat.lt_of_lt_of_le glz HX.out.size
     have tb := T7.out.below (HR.out.trans (HX.out.mono HR.out.size))
     obtain ⟨t0,t1,t2,t3,t4,t5,tl⟩ := tb.cl6
     have nb := N7.out.below (HR.out.trans (HX.out.mono HR.out.size))
     obtain ⟨n0,n1,nl⟩ := nb.cl2
     have k0 : (0 : Int) ≤ (k : Int) := by omega
     have k1 : (k : Int) < (E : Int) := by omega
     clear tb nb hqk hmk hnk hre hmo hbw
     go_upto_region 16 with (fail)
     refine wp_heldS (S := StillAt wx) (by kernel_rfl) ?_
     simp only [List.size_toArray,List.length_cons,List.length_nil,Nat.reduceAdd]
     intro hc
     have S0 : StillAt wx (Array.replicate 17 false) wx.drew := (Below.refl _ _).drew
     refine tkI (i := 0) (v := .agg #[.slice ar t.rules.length cr,.slice ad t.drops.length cd,.slice ae t.ends.length ce,.int .i64 t.drop,.int .i64 t.order,.int .i64 t.initial]) rfl hc (fun wx hx => ?_) S0 (fun hc S0 => ?_)
     ·have y0 := (hx.still.cell (p := ⟨W.heap.size,0,none⟩) tl).trans t0; have y1 := (hx.still.cell (p := ⟨W.heap.size,1,none⟩) tl).trans t1; have y2 := (hx.still.cell (p := ⟨W.heap.size,2,none⟩) tl).trans t2; have y3 := (hx.still.cell (p := ⟨W.heap.size,3,none⟩) tl).trans t3; have y4 := (hx.still.cell (p := ⟨W.heap.size,4,none⟩) tl).trans t4; have y5 := (hx.still.cell (p := ⟨W.heap.size,5,none⟩) tl).trans t5
      go_simp
     try simp only [tk1,tk3,Act.put,tk4,tk5,tk6]
     refine tkI (i := 1) (v := .agg #[.int .i64 n.script,.slice na n.words.length nc]) rfl hc (fun wx hx => ?_) S0 (fun hc S0 => ?_)
     ·have y0 := (hx.still.cell (p := ⟨W.heap.size + 1,0,none⟩) nl).trans n0; have y1 := (hx.still.cell (p := ⟨W.heap.size + 1,1,none⟩) nl).trans n1
      go_simp
     try simp only [tk1,tk2,tk3,Act.put,tk4,tk5,tk6]
     refine tkI (i := 2) (v := .slice (some ⟨gl,ol,none⟩) es.length gc) rfl hc (fun wx hx => ?_) S0 (fun hc S0 => ?_)
     ·go_simp
     try simp only [tk1,tk2,tk3,Act.put,tk4,tk5,tk6]
     refine tkI (i := 3) (v := .int .i64 i) rfl hc (fun wx hx => ?_) S0 (fun hc S0 => ?_)
     ·go_simp
     try simp only [tk1,tk2,tk3,Act.put,tk4,tk5,tk6]
     refine tkI (i := 4) (v := .pointer (some ⟨gl,ol + i * 2,none⟩)) rfl hc (fun wx hx => ?_) S0 (fun hc S0 => ?_)
     ·go_simp
     try simp only [tk1,tk2,tk3,Act.put,tk4,tk5,tk6]
     refine tkI (i := 5) (v := .pointer (some ⟨gl,ol + i * 2 + 1,none⟩)) rfl hc (fun wx hx => ?_) S0 (fun hc S0 => ?_)
     ·go_simp
     try simp only [tk1,tk2,tk3,Act.put,tk4,tk5,tk6]
     refine tkI (i := 6) (v := .slice (some ⟨ge,oe,none⟩) E ec) rfl hc (fun wx hx => ?_) S0 (fun hc S0 => ?_)
     ·have y0 := (hx.still.cell (p := ⟨gl,ol + i * 2 + 1,none⟩) mz).trans m1
      go_simp
     try simp only [tk1,tk2,tk3,Act.put,tk4,tk5,tk6]
     refine tkI (i := 7) (v := .int .i64 k) rfl hc (fun wx hx => ?_) S0 (fun hc S0 => ?_)
     ·go_simp
     try simp only [tk1,tk2,tk3,Act.put,tk4,tk5,tk6]
     refine tkI (i := 8) (v := .pointer (some ⟨ge,oe + k * 2,none⟩)) rfl hc (fun wx hx => ?_) S0 (fun hc S0 => ?_)
     ·go_simp
     try simp only [tk1,tk2,tk3,Act.put,tk4,tk5,tk6]
     refine tkI (i := 9) (v := .agg #[.int .i64 m.script,.slice ma m.words.length mc]) rfl hc (fun wx hx => ?_) S0 (fun hc S0 => ?_)
     ·have y0 := (hx.still.cell (p := ⟨ge,oe + k * 2,none⟩) gez).trans q0; have y1 := (hx.still.cell (p := ⟨ge,oe + k * 2 + 1,none⟩) gez).trans q1
      go_simp
     try simp only [tk1,tk2,tk3,Act.put,tk4,tk5,tk6]
     obtain ⟨D,hD⟩ := exq (wx.drew)
     have BD : Below wx.heap.size wx D := by rw [hD]; exact (Below.refl _ wx).drew
     rw [← hD]
     clear S0 hD t0 t1 t2 t3 t4 t5 tl n0 n1 nl q0 q1 gez m0 m1 mz
     refine wpAnyS_two (i := 10) (k := 14) rfl rfl (by kernel_rfl) (by rfl) (by rfl) hc (fun K' hK => ?A1) (fun K' hK => ?B1)
     case' A1 =>
      go_simp
      refine (HMB.out D BD).mono ?_
      rintro e w3 ⟨hb3,hor⟩
      obtain ⟨d,sw,xa,xn,xc,ev,rfl,hor2⟩ : ∃ d sw a k c ev,e = .returned (.tuple #[.agg #[.int .i64 d,.bool sw,.slice a k c],.int .i64 ev]) ∧ ((ev = 1 ∧ Li.nmOk n = false) ∨ (ev = 0 ∧ Li.nmOk n = true ∧ d = Mt.dist t n m)) := by
       rcases hor with ⟨h,rfl⟩ | ⟨h,sw,a,k,c,rfl⟩
       ·exact ⟨_,_,_,_,_,_,rfl,.inl ⟨rfl,h⟩⟩
       ·exact ⟨_,_,_,_,_,_,rfl,.inr ⟨rfl,h,rfl⟩⟩
      have HOR := hid hor2
      clear hor hor2
      have B3 := Below.step BD hb3
      refine hK.out _ _ B3 (fun hc => ?_)
      clear hK K'
      have S0 : StillAt wx #[] w3 := B3
      try simp only [tk1,tk2,tk3,Act.put,tk4,tk5,tk6]
      refine tkI (i := 11) (v := .tuple #[.agg #[.int .i64 d,.bool sw,.slice xa xn xc],.int .i64 ev]) rfl hc (fun wx hx => ?_) S0 (fun hc S0 => ?_)
      ·go_simp
      try simp only [tk1,tk2,tk3,Act.put,tk4,tk5,tk6]
      refine tkI (i := 12) (v := .agg #[.int .i64 d,.bool sw,.slice xa xn xc]) rfl hc (fun wx hx => ?_) S0 (fun hc S0 => ?_)
      ·go_simp
      try simp only [tk1,tk2,tk3,Act.put,tk4,tk5,tk6]
      refine tkI (i := 13) (v := .int .i64 ev) rfl hc (fun wx hx => ?_) S0 (fun hc S0 => ?_)
      ·go_simp
      try simp only [tk1,tk2,tk3,Act.put,tk4,tk5,tk6]
      refine onI (i := 14) rfl hc (fun K' hK => ?_)
      go_simp
      obtain ⟨X1,hX1⟩ := exq (w3.alloc (.cells #[.int .i64 0,.bool false,.slice none 0 0] 65))
      rw [← hX1]
      have bX1 := bnew hX1
      have kX1 : Blk X1 w3.heap.size 65 [.int .i64 0,.bool false,.slice none 0 0] := by rw [hX1]; exact Blk.new _ _ _
      have B4 := Below.step B3 bX1
      have hq0 : wx.heap.size ≤ w3.heap.size := (B3).size
      obtain ⟨qm,hqm⟩ := exq (w3.heap.size)
      rw [← hqm] at kX1 hq0 ⊢
      clear hX1 hqm
      refine hK.out _ _ B4 (fun hc => ?_)
      clear hK K'
      have S0 : StillAt wx #[] X1 := B4
      try simp only [tk1,tk2,tk3,Act.put,tk4,tk5,tk6]
      have kX := kX1
      obtain ⟨x0,x1,x2,f0,f1,f2,xz⟩ := kX.cf3
      refine onI (i := 15) rfl hc (fun K' hK => ?_)
      go_simp
      obtain ⟨Z,hZ⟩ := exq (((X1.setCell ⟨qm,0,none⟩ (.int .i64 d)).setCell ⟨qm,1,none⟩ (.bool sw)).setCell ⟨qm,2,none⟩ (.slice xa xn xc))
      rw [← hZ]
      have kZ : Blk Z qm 65 [.int .i64 d,.bool sw,.slice xa xn xc] := by rw [hZ]; exact ((kX.set 0 _).set 1 _).set 2 _
      have bZ : Below wx.heap.size wx Z := by rw [hZ]; exact ((B4.setCell (p := ⟨qm,0,none⟩) hq0 _).setCell (p := ⟨qm,1,none⟩) hq0 _).setCell (p := ⟨qm,2,none⟩) hq0 _
      clear hZ kX x0 f0 x1 f1 x2 f2 xz
      refine hK.out _ _ bZ (fun hc => ?_)
      clear hK K'
      have S0 : StillAt wx #[] Z := bZ
      try simp only [tk1,tk2,tk3,Act.put,tk4,tk5,tk6]
      refine tkI (i := 16) (v := .int .i64 ev) rfl hc (fun wx hx => ?_) S0 (fun hc S0 => ?_)
      ·go_simp
      try simp only [tk1,tk2,tk3,Act.put,tk4,tk5,tk6]
      refine wpAnyS_done (by kernel_rfl) ?_ _
      clear hc S0
      clear B3 B4 BD bX1 kX1 hb3
     case' B1 =>
      go_simp
      obtain ⟨X1,hX1⟩ := exq (D.alloc (.cells #[.int .i64 0,.bool false,.slice none 0 0] 65))
      rw [← hX1]
      have bX1 := bnew hX1
      have kX1 : Blk X1 D.heap.size 65 [.int .i64 0,.bool false,.slice none 0 0] := by rw [hX1]; exact Blk.new _ _ _
      have B4 := Below.step BD bX1
      have hq0 : wx.heap.size ≤ D.heap.size := (BD).size
      obtain ⟨qm,hqm⟩ := exq (D.heap.size)
      rw [← hqm] at kX1 hq0 ⊢
      clear hX1 hqm
      refine hK.out _ _ B4 (fun hc => ?_)
      clear hK K'
      have S0 : StillAt wx #[] X1 := B4
      try simp only [tk1,tk2,tk3,Act.put,tk4,tk5,tk6]
      refine onI (i := 10) rfl hc (fun K' hK => ?_)
      go_simp
      refine (HMB.out X1 B4).mono ?_
      rintro e w3 ⟨hb3,hor⟩
      obtain ⟨d,sw,xa,xn,xc,ev,rfl,hor2⟩ : ∃ d sw a k c ev,e = .returned (.tuple #[.agg #[.int .i64 d,.bool sw,.slice a k c],.int .i64 ev]) ∧ ((ev = 1 ∧ Li.nmOk n = false) ∨ (ev = 0 ∧ Li.nmOk n = true ∧ d = Mt.dist t n m)) := by
       rcases hor with ⟨h,rfl⟩ | ⟨h,sw,a,k,c,rfl⟩
       ·exact ⟨_,_,_,_,_,_,rfl,.inl ⟨rfl,h⟩⟩
       ·exact ⟨_,_,_,_,_,_,rfl,.inr ⟨rfl,h,rfl⟩⟩
      have HOR := hid hor2
      clear hor hor2
      have B3 := Below.step B4 hb3
      refine hK.out _ _ B3 (fun hc => ?_)
      clear hK K'
      have S0 : StillAt wx #[] w3 := B3
      try simp only [tk1,tk2,tk3,Act.put,tk4,tk5,tk6]
      refine tkI (i := 11) (v := .tuple #[.agg #[.int .i64 d,.bool sw,.slice xa xn xc],.int .i64 ev]) rfl hc (fun wx hx => ?_) S0 (fun hc S0 => ?_)
      ·go_simp
      try simp only [tk1,tk2,tk3,Act.put,tk4,tk5,tk6]
      refine tkI (i := 12) (v := .agg #[.int .i64 d,.bool sw,.slice xa xn xc]) rfl hc (fun wx hx => ?_) S0 (fun hc S0 => ?_)
      ·go_simp
      try simp only [tk1,tk2,tk3,Act.put,tk4,tk5,tk6]
      refine tkI (i := 13) (v := .int .i64 ev) rfl hc (fun wx hx => ?_) S0 (fun hc S0 => ?_)
      ·go_simp
      try simp only [tk1,tk2,tk3,Act.put,tk4,tk5,tk6]
      have kX := (kX1.below hb3)
      obtain ⟨x0,x1,x2,f0,f1,f2,xz⟩ := kX.cf3
      refine onI (i := 15) rfl hc (fun K' hK => ?_)
      go_simp
      obtain ⟨Z,hZ⟩ := exq (((w3.setCell ⟨qm,0,none⟩ (.int .i64 d)).setCell ⟨qm,1,none⟩ (.bool sw)).setCell ⟨qm,2,none⟩ (.slice xa xn xc))
      rw [← hZ]
      have kZ : Blk Z qm 65 [.int .i64 d,.bool sw,.slice xa xn xc] := by rw [hZ]; exact ((kX.set 0 _).set 1 _).set 2 _
      have bZ : Below wx.heap.size wx Z := by rw [hZ]; exact ((B3.setCell (p := ⟨qm,0,none⟩) hq0 _).setCell (p := ⟨qm,1,none⟩) hq0 _).setCell (p := ⟨qm,2,none⟩) hq0 _
      clear hZ kX x0 f0 x1 f1 x2 f2 xz
      refine hK.out _ _ bZ (fun hc => ?_)
      clear hK K'
      have S0 : StillAt wx #[] Z := bZ
      try simp only [tk1,tk2,tk3,Act.put,tk4,tk5,tk6]
      refine tkI (i := 16) (v := .int .i64 ev) rfl hc (fun wx hx => ?_) S0 (fun hc S0 => ?_)
      ·go_simp
      try simp only [tk1,tk2,tk3,Act.put,tk4,tk5,tk6]
      refine wpAnyS_done (by kernel_rfl) ?_ _
      clear hc S0
      clear B3 B4 BD bX1 kX1 hb3
     all_goals
      have HXZ := hid (Below.step HX.out bZ)
      have HKE := hid (And.intro hkE HE6.out)
      have kz0 := kZ.cell (j := 0) rfl
      have kzz := kZ.lt
      rcases HOR.out with ⟨rfl,hno⟩ | ⟨rfl,hok,hcd⟩
      ·obtain ⟨rfl,rfl⟩ : H = [] ∧ er = 1 := by
        rcases HP2.out with ⟨h,-⟩ | ⟨-,-,-,h1,-,h2⟩
        ·rw [hno] at h; cases h
        ·exact ⟨h1,h2⟩
       have HBX := hid (Below.step HBW.out bZ)
       clear bZ kZ hq0
       go_wp2_with fail
       go_ret
       exact ⟨rfl,HBX.out⟩
      have HPG := hid (show H = pre2 ++ Idx.left (Mt.dist t n) bd L i k by
       rcases HP2.out with ⟨-,h⟩ | ⟨h,-⟩
       ·exact h
       ·rw [hok] at h; cases h)
      have HOK := hid hok
      obtain ⟨d,hd⟩ := exq (Mt.dist t n m)
      have HD := hid hd
      rw [← hd] at hcd
      subst hcd
      have hfs := HFS6.out.below (HR.out.trans (HXZ.out.mono HR.out.size))
      have l0z := (HXZ.out.cell (p := ⟨gl,ol + i * 2,none⟩) glz).trans l0
      have glzz : gl < Z.heap.size := Nat.lt_of_lt_of_le glz HXZ.out.size
      clear bZ kZ hq0
      by_cases hle : d ≤ bd
      ·have hhit := Idx.left_hit HPG.out HLI.out HMK.out (by rw [← hd]; exact hle)
       rw [← hd] at hhit
       obtain ⟨hh1,hh2⟩ := hhit
       have HNX := hid hh2
       have hpl := (List.getElem?_eq_some_iff.1 hh1).1
       obtain ⟨gf,of_,hgf,hrf⟩ : ∃ g o,fa = some ⟨g,o,none⟩ ∧ RowOf Z g o 3 hitC H := by
        obtain ⟨a',c',e',-,-,hr⟩ := hfs
        simp only [Value.slice.injEq] at e'
        obtain ⟨rfl,-,rfl⟩ := e'
        exact hr (by omega)
       have f0 := hrf.2 _ _ hh1 0 _ rfl
       have f1 := hrf.2 _ _ hh1 1 _ rfl
       have f2 := hrf.2 _ _ hh1 2 _ rfl
       rw [Nat.add_zero] at f0
       have fz := hrf.1
       subst hgf
       obtain ⟨A,hA⟩ := exq (pre2.length)
       have HA := hid hA
       have HA4 := hid (show A ≤ 3200 by rw [hA]; have := HHL.out; omega)
       rw [← hA] at f0 f1 f2 hpl ⊢
       have a0 : (0 : Int) ≤ (A : Int) := by omega
       have a1 : (A : Int) < (H.length : Int) := by omega
       have a2 : decide ((H.length : Int) ≤ (A : Int)) = false := decide_eq_false (by omega)
       have a3 : decide (H.length ≤ A) = false := decide_eq_false (by omega)
       have a4 : ¬ H.length ≤ A := by omega
       have a5 : ¬ bd < d := by omega
       have hE8 := HE6.out
       have hA4 := HA4.out
       clear hh1 hh2 hrf hfs hd hA hpl hle
       go_upto_region 20 with (fail)
       go_quiet (fail)
       go_wp2_with fail
       go_roundw
       case rel => exact ⟨k + 1,pre2 ++ [(⟨en.id,k,d⟩ : Idx.Hit)],by have := HKE.out; omega,by have := HKE.out; go_num,by have := HA4.out; rw [List.length_append,List.length_singleton,← HA.out]; go_num,hid (.inl ⟨HOK.out,HNX.out⟩),Below.step HXZ.out (Below.drewQ _ _)⟩
       case measure => have := HKE.out; simp [RowKit.intOf]; omega
      ·have a5 : bd < d := by omega
       have HLE := hid hle
       have hE8 := HE6.out
       clear hfs hd hle
       go_wp2_with fail
       go_roundw
       case rel => exact ⟨k + 1,pre2,by have := HKE.out; omega,by have := HKE.out; go_num,rfl,hid (.inl ⟨HOK.out,Idx.left_over HPG.out HLI.out HMK.out (by rw [← HD.out]; exact HLE.out)⟩),HXZ.out⟩
       case measure => have := HKE.out; simp [RowKit.intOf]; omega
    ·have hke : k = E := by omega
     have hkl : ¬ (k : Int) < (E : Int) := by omega
     have HRX := hid (HR.out.trans (HX.out.mono HR.out.size))
     have HNI := hid (show FdS t bd n L H er (i + 1) 0 pre2 by
      rcases HP2.out with ⟨h1,h2⟩ | ⟨-,-,h,-⟩
      ·exact .inl ⟨h1,by rw [← Idx.left_row HLI.out (k := k) (by rw [hke,HE.out]; exact Nat.le_refl _)]; exact h2⟩
      ·omega)
     have m0 := (HX.out.cell (p := ⟨gl,ol + i * 2,none⟩) glz).trans l0
     have m1 := (HX.out.cell (p := ⟨gl,ol + i * 2 + 1,none⟩) glz).trans l1
     have mz : gl < wx.heap.size := Nat.lt_of_lt_of_le glz HX.out.size
     clear hke l0 l1 glz
     have hL4 := HLF.out
     have HIL := hid hlt
     have hk8 := HE6.out
     by_cases hi0 : i = 0
     ·have HI0 := hid hi0
      have hi1 : ¬ (0 : Int) < (i : Int) := by omega
      have hi2 : decide (0 < i) = false := decide_eq_false (by omega)
      clear hi0
      go_upto_region 23 with (fail)
      go_quiet (fail)
      go_wp2_with fail
      go_roundw
      case rel => exact ⟨i + 1,pre2,by have := HIL.out; omega,by have := HLF.out; go_num,rfl,HNI.out,Below.step HRX.out (Below.drewQ _ _)⟩
      case measure => have := HIL.out; simp [RowKit.intOf]; omega
     ·obtain ⟨b,hb⟩ := exq (i - 1)
      have hbi : b + 1 = i := by omega
      obtain ⟨⟨pn,pv⟩,hpi⟩ : ∃ e,es[b]? = some e := ⟨_,List.getElem?_eq_getElem (by rw [HEL.out]; omega)⟩
      have hLb : L[b]? = some pn := by rw [← HES.out,List.getElem?_map,hpi]; rfl
      have hlt2 : pn.id < en.id := by
       have h1 := hLb
       have h2 := HLI.out
       rw [HLS.out] at h1 h2
       rw [← hbi] at h2
       exact sorted_ids HIX.out.ix.ok h1 h2
      have HLT := hid hlt2
      have p0 : wx.cell? ⟨gl,ol + b * 2,none⟩ = some (.string (bs pn.id)) := by
       have hb6 := HER.out.below HRX.out
       obtain ⟨a',c',e',-,-,hr⟩ := hb6.sl
       simp only [Value.slice.injEq] at e'
       obtain ⟨e1,-,-⟩ := e'
       obtain ⟨g,o,e2,hr⟩ := hr (by rw [HEL.out]; omega)
       rw [← e1] at e2
       cases e2
       have h := hr.2 b _ hpi 0 _ rfl
       rwa [Nat.add_zero] at h
      have hw : IntKind.i64.wrap ((i : Int) - 1) = (b : Int) := by
       rw [show (i : Int) - 1 = (b : Int) by omega]
       exact IntWalk.i64_in _ (by omega)
      have hcmp : Op.bytesLess (bs pn.id).toList (bs en.id).toList = true := by rw [bs_lessX,decide_eq_true HLT.out]
      have hcm2 : (!Op.bytesLess (bs pn.id).toList (bs en.id).toList) = false := by rw [hcmp]; rfl
      have c0 : (0 : Int) < (i : Int) := by omega
      have c1 : decide (0 < i) = true := decide_eq_true (by omega)
      have b0 : (0 : Int) ≤ (b : Int) := by omega
      have b1 : (b : Int) < (es.length : Int) := by rw [HEL.out]; omega
      clear hb hbi hpi hLb hlt2 hi0
      go_upto_region 23 with (fail)
      go_quiet (fail)
      go_wp2_with fail
      go_roundw
      case rel => exact ⟨i + 1,pre2,by have := HIL.out; omega,by have := HLF.out; go_num,rfl,HNI.out,Below.step HRX.out (Below.drewQ _ _)⟩
      case measure => have := HIL.out; simp [RowKit.intOf]; omega
  ·have hle : ¬ (i : Int) < (es.length : Int) := by rw [HEL.out]; omega
   have HBR := hid (Below.step B7.out HR.out)
   have hpe : pre.length = H.length := by
    rcases HPRE.out with ⟨-,h⟩ | ⟨-,-,-,h1,h2,-⟩
    ·rw [Idx.left_none (by omega),List.append_nil] at h
     rw [h]
    ·rw [h1,h2]
   rw [hpe]
   clear hpe
   go_wp2_with fail
   go_ret
   exact ⟨rfl,HBR.out⟩
end Go.Proofs.YtdghfenbfbdijaaGreatDoor
