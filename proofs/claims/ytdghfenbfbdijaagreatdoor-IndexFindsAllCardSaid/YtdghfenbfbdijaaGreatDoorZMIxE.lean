/-
 Several texts in one: ZIx1, ZIx5. Conditions: as each law says.
-/
import Derived.Test.YtdghfenbfbdijaaGreatDoorZMLi
import Derived.Test.YtdghfenbfbdijaaGreatDoorZMLd
import Derived.Test.YtdghfenbfbdijaaGreatDoorZMLexA
import Derived.Test.YtdghfenbfbdijaaGreatDoorZMLexD
import Derived.BigQuiet
import Derived.Test.YtdghfenbfbdijaaGreatDoorZMIxB
import Derived.Deep.CutRange
namespace Go.Proofs.YtdghfenbfbdijaaGreatDoor
open Go.RowKit Go.Lib Go.Maps
theorem entry_box {w W : World} {s v : Value} (h : W = w.alloc (.cells #[s,v] 40)) : W.cell? ⟨w.heap.size,0,none⟩ = some s ∧ W.cell? ⟨w.heap.size,1,none⟩ = some v ∧ w.heap.size < W.heap.size ∧ Below w.heap.size w W := by
 subst h
 exact ⟨by rw [World.cell?_alloc_at _ _ _ _ rfl]; rfl,by rw [World.cell?_alloc_at _ _ _ _ rfl]; rfl,by rw [World.size_alloc]; omega,(Below.refl _ w).alloc (Nat.le_refl _) _⟩
theorem hasBad_all (l : List (Li.Nm × Value)) : (!hasBad l) = (l.map Prod.fst).all Li.nmOk := by
 unfold hasBad
 induction l with
 | nil => rfl
 | cons a l ih => rw [List.any_cons,List.map_cons,List.all_cons,Bool.not_or,ih,Bool.not_not]
theorem nm_ident (s : List UInt8) : Lg.nm (bs s) = Li.ident s := by
 unfold Lg.nm Li.ident
 rw [bs_len]
 rfl
set_option maxRecDepth 100000 in
set_option maxHeartbeats 8000000 in
theorem ixValid_any (id : List UInt8) (l : List (Li.Nm × Value)) (v : Value) (w : World) (h : NmsAt w v l) (hs : id.length ≤ 5000) (hT : Tabs w) :
  Calls Tryz.prog 34 #[.agg #[.string (bs id),v]] w (Gives (.bool (Li.proper ⟨id,l.map Prod.fst⟩)) w) := by
 obtain ⟨W1,hW1⟩ := exq (w.alloc (.cells #[.string (bs id),v] 40))
 obtain ⟨c0,c1,z1,hb1⟩ := entry_box hW1
 have HB1 := hid hb1
 have HN := Lg.ident_nm (t := bs id) (by rw [bs_len]; exact hs)
 unfold Lg.identP at HN
 have HL := hid (lex_any (bs id) W1 (by rw [bs_len]; unfold maxLen; omega))
 have HA := hid (h.below hb1)
 have HT0 := hid (hT.below hb1)
 have HP := hid (show Li.proper ⟨id,l.map Prod.fst⟩ = (Lg.nm (bs id) && decide (0 < l.length) && decide (l.length ≤ 8) && !hasBad l) by
  rw [hasBad_all,nm_ident]
  unfold Li.proper
  simp only [List.length_map])
 obtain ⟨⟨a,cap,rfl,h1,h2,-⟩,-,-⟩ := h
 have hl1 : l.length ≤ 9223372036854775807 := by unfold maxLen at h2; omega
 clear hT hb1 h1 h2 hs
 go_enter Tryz.func34,Tryz.ntmps34
 go_upto_region 1 with (fail)
 rw [← hW1]
 clear hW1
 go_wp2_with fail
 refine (HL.out).mono ?_
 rintro e w1 ⟨v,rfl,ho,hb⟩
 have HT := TokSl.of_owns ho
 have HB := hid (Below.step HB1.out hb)
 have HA2 := hid (HA.out.below hb)
 have HT2 := hid (HT0.out.below hb)
 replace c0 := (hb.cell (p := ⟨w.heap.size,0,none⟩) z1).trans c0
 replace c1 := (hb.cell (p := ⟨w.heap.size,1,none⟩) z1).trans c1
 replace z1 := Nat.lt_of_lt_of_le z1 hb.size
 have HC : Hid (∀ X,Below w1.heap.size w1 X → Calls Tryz.prog 56 #[.slice a l.length cap,.func (.func 57) #[] #[]] X (Gives (.bool (hasBad l)) X)) := hid fun X hX => contains_name l _ X (HA2.out.below hX) (HT2.out.below hX)
 clear ho hb HL HA HT0
 rw [bs_list] at HN HT ⊢
 generalize Lx.lex id = r at HN HT ⊢
 obtain ⟨tl,x,y⟩ := r
 simp only at HN HT ⊢
 obtain ⟨tcap,k1,k2,HT⟩ := HT
 by_cases hx : x = 0
 ·subst hx
  rcases tl with _ | ⟨p,_ | ⟨q,tl⟩⟩
  ·have HE := hid (show Li.proper ⟨id,l.map Prod.fst⟩ = false by rw [HP.out,show Lg.nm (bs id) = false by rw [Bool.eq_false_iff]; intro h; have := HN.2 h; simp at this]; rfl)
   clear HN
   obtain ⟨a,hv⟩ : ∃ a,v = .slice a 0 tcap := by
    rcases HT with ⟨_,rfl⟩ | ⟨g,o,rfl,_⟩
    ·exact ⟨_,rfl⟩
    ·exact ⟨_,rfl⟩
   subst hv
   clear HT k1 k2
   go_upto_region 2 with (fail)
   go_quiet (fail)
   go_wp2_with fail
   go_ret
   exact ⟨ret_bool HE.out.symm,Below.step HB.out (Below.drewQ _ _)⟩
  ·rcases HT with ⟨h,_⟩ | ⟨g,o,rfl,hr⟩
   ·cases h
   ·obtain ⟨d0,d1,d2,d3⟩ := hr.2 0 p rfl
    rw [Nat.zero_mul,Nat.add_zero] at d0 d1 d2 d3
    have hg := hr.1
    clear hr d1 d2
    by_cases hk : p.2.kind = 1
    ·rw [hk] at d0
     have hl := list_beq (bs p.2.text) (bs id)
     cases hd : decide (bs p.2.text = bs id) with
     | true =>
      rw [hd] at hl
      have HN2 := hid (show Lg.nm (bs id) = true from HN.1 ⟨rfl,p.1,p.2.n,by
       obtain ⟨o,k,n,x⟩ := p
       simp only at hk hd
       subst hk
       rw [decide_eq_true_eq] at hd
       have hxi : x = id := by have := congrArg (fun b => b.data.toList) hd; simpa [bs_list] using this
       rw [hxi]⟩)
      clear HN hd hk
      simp only [List.length_cons,List.length_nil] at k1 ⊢
      by_cases h0 : 0 < l.length
      ·have h0' : (0 : Int) < (l.length : Int) := by omega
       by_cases h8 : l.length ≤ 8
       ·have h8' : (l.length : Int) ≤ 8 := by omega
        have HE := hid (show Li.proper ⟨id,l.map Prod.fst⟩ = !hasBad l by rw [HP.out,HN2.out,decide_eq_true h0,decide_eq_true h8]; rfl)
        go_upto_region 2 with (fail)
        go_quiet (fail)
        go_wp2_with fail
        refine (HC.out _ (Below.drewQ _ _)).mono ?_
        rintro e w2 ⟨rfl,hb3⟩
        have HB3 := hid (Below.step (Below.step HB.out (Below.drewQ _ _)) hb3)
        clear hb3
        go_wp2_with fail
        go_ret
        exact ⟨by rw [HE.out]; rfl,HB3.out⟩
       ·have h8' : ¬ (l.length : Int) ≤ 8 := by omega
        have HE := hid (show Li.proper ⟨id,l.map Prod.fst⟩ = false by rw [HP.out,HN2.out,decide_eq_true h0,decide_eq_false h8]; rfl)
        go_upto_region 2 with (fail)
        go_quiet (fail)
        go_wp2_with fail
        go_ret
        exact ⟨by rw [HE.out]; rfl,Below.step HB.out (Below.drewQ _ _)⟩
      ·have h0' : ¬ (0 : Int) < (l.length : Int) := by omega
       have HE := hid (show Li.proper ⟨id,l.map Prod.fst⟩ = false by rw [HP.out,HN2.out,decide_eq_false h0]; rfl)
       go_upto_region 2 with (fail)
       go_quiet (fail)
       go_wp2_with fail
       go_ret
       exact ⟨by rw [HE.out]; rfl,Below.step HB.out (Below.drewQ _ _)⟩
     | false =>
      rw [hd] at hl
      have HE := hid (show Li.proper ⟨id,l.map Prod.fst⟩ = false by
       rw [HP.out,show Lg.nm (bs id) = false by
        rw [Bool.eq_false_iff]; intro h
        obtain ⟨_,o,n,e⟩ := HN.2 h
        simp only [List.cons.injEq,and_true] at e
        rw [e] at hd
        simp at hd]
       rfl)
      clear HN hd hk
      simp only [List.length_cons,List.length_nil] at k1 ⊢
      go_upto_region 2 with (fail)
      go_quiet (fail)
      go_wp2_with fail
      go_ret
      exact ⟨ret_bool HE.out.symm,Below.step HB.out (Below.drewQ _ _)⟩
    ·have hk' : ((p.2.kind : Int) == 1) = false := by rw [beq_eq_false_iff_ne]; omega
     have hk2 : ((p.2.kind : Int) != 1) = true := by unfold bne; rw [hk']; rfl
     have HE := hid (show Li.proper ⟨id,l.map Prod.fst⟩ = false by
      rw [HP.out,show Lg.nm (bs id) = false by
       rw [Bool.eq_false_iff]; intro h
       obtain ⟨_,o,n,e⟩ := HN.2 h
       simp only [List.cons.injEq,and_true] at e
       rw [e] at hk
       exact hk rfl]
      rfl)
     clear HN hk
     simp only [List.length_cons,List.length_nil] at k1 ⊢
     go_upto_region 2 with (fail)
     go_quiet (fail)
     go_wp2_with fail
     go_ret
     exact ⟨ret_bool HE.out.symm,Below.step HB.out (Below.drewQ _ _)⟩
  ·have HE := hid (show Li.proper ⟨id,l.map Prod.fst⟩ = false by rw [HP.out,show Lg.nm (bs id) = false by rw [Bool.eq_false_iff]; intro h; obtain ⟨_,o,n,e⟩ := HN.2 h; simp at e]; rfl)
   clear HN
   obtain ⟨n,hn2,e⟩ : ∃ n : Nat,2 ≤ n ∧ (p :: q :: tl).length = n := ⟨_,by simp,rfl⟩
   rw [e] at HT k1
   obtain ⟨a,hv⟩ : ∃ a,v = .slice a n tcap := by
    rcases HT with ⟨h,rfl⟩ | ⟨g,o,rfl,_⟩
    ·cases h
    ·exact ⟨_,rfl⟩
   subst hv
   clear HT k1 k2 e
   have hne : ((n : Int) == 1) = false := by rw [beq_eq_false_iff_ne]; omega
   have hne2 : ((n : Int) != 1) = true := by unfold bne; rw [hne]; rfl
   go_upto_region 2 with (fail)
   go_quiet (fail)
   go_wp2_with fail
   go_ret
   exact ⟨ret_bool HE.out.symm,Below.step HB.out (Below.drewQ _ _)⟩
 ·have HE := hid (show Li.proper ⟨id,l.map Prod.fst⟩ = false by rw [HP.out,show Lg.nm (bs id) = false by rw [Bool.eq_false_iff]; intro h; exact hx (HN.2 h).1]; rfl)
  have hx' : (x == 0) = false := by rw [beq_eq_false_iff_ne]; exact hx
  have hx2 : (x != 0) = true := by unfold bne; rw [hx']; rfl
  clear HN HT hx
  go_upto_region 2 with (fail)
  go_quiet (fail)
  go_wp2_with fail
  go_ret
  exact ⟨ret_bool HE.out.symm,Below.step HB.out (Below.drewQ _ _)⟩
def PutP (px eb cb : Nat) (t : Rw.Table) (tc : List Value) (b : Int) (Q : Nat → Prop) (P : List (Li.En × Value)) (nc : Nat) (x : Li.En) (W : World) (e : Ending) (W' : World) : Prop :=
 But W.heap.size eb W W' ∧ e = .returned (.int .i64 (Idx.put (P.map Prod.fst) x).2) ∧ ∃ P',P'.map Prod.fst = (Idx.put (P.map Prod.fst) x).1 ∧ IxAt W' px eb cb t tc b Q P' nc
set_option maxRecDepth 100000 in
set_option maxHeartbeats 4000000 in
theorem put_any (px eb cb : Nat) (t : Rw.Table) (vr vd ve : Value) (b : Int) (Q : Nat → Prop) (P : List (Li.En × Value)) (nc : Nat) (id : List UInt8) (ns : List Li.Nm) (v : Value) (W : World) (h : IxAt W px eb cb t [vr,vd,ve,.int .i64 t.drop,.int .i64 t.order,.int .i64 t.initial] b Q P nc)
  (hQ : ∀ k,W.heap.size ≤ k → Q k) (hv : NmSl W v ns) (hs : id.length ≤ 5000) (hn : ns.length ≤ 1000) (hw : ∀ n ∈ ns,n.words.length ≤ 1000) (hsh : ∀ n ∈ ns,shortN n) (hT : Tabs W) :
  Calls Tryz.prog 14 #[.pointer (some ⟨px,0,none⟩),.agg #[.string (bs id),v]] W (PutP px eb cb t [vr,vd,ve,.int .i64 t.drop,.int .i64 t.order,.int .i64 t.initial] b Q P nc ⟨id,ns⟩ W) := by
 have hkl : (bs id).size ≤ maxLen := by rw [bs_len]; unfold maxLen; omega
 have HKL := hid hkl
 have HQ := hid hQ
 have HNW := hid (And.intro hn hw)
 have HNV := hid hv
 obtain ⟨a,nl,c,rfl⟩ : ∃ a nl c,v = .slice a nl c := by obtain ⟨l,h1,h2,-⟩ := hv; obtain ⟨a,c,e,-⟩ := h2; exact ⟨a,_,c,e⟩
 obtain ⟨W1,hW1⟩ := exq (W.alloc (.cells #[.string (bs id),.slice a nl c] 40))
 have hb1 := bnew hW1
 have hk1 : Blk W1 W.heap.size 40 [.string (bs id),.slice a nl c] := by rw [hW1]; exact Blk.new W _ _
 have HB1 := hid hb1
 have HK1 := hid hk1
 have HI1 := hid (h.below hb1)
 obtain ⟨l,hl1,hl2,hl3⟩ := hv.below hb1
 have HV := ixValid_any id l _ W1 ⟨hl2,hl3,fun p hp => hsh p.1 (by rw [← hl1]; exact List.mem_map_of_mem (f := Prod.fst) hp)⟩ hs (hT.below hb1)
 rw [hl1] at HV
 have HVV := hid HV
 obtain ⟨y0,y1,yz⟩ := hk1.cl2
 clear h hb1 hk1 hl1 hl2 hl3 HV hkl hn hw hs hT hv hQ hsh
 go_enter Tryz.func14,Tryz.ntmps14
 go_upto_region 1 with (fail)
 rw [← hW1]
 clear hW1
 go_wp2_with fail
 refine (HVV.out).mono ?_
 rintro e W2 ⟨rfl,hb2⟩
 have HB2 := hid (Below.step HB1.out hb2)
 have HI2 := hid (HI1.out.below hb2)
 have HK2 := hid (HK1.out.below hb2)
 clear y0 y1 yz hb2
 cases hp : Li.proper ⟨id,ns⟩ with
 | false =>
  have HP := hid (show Idx.put (P.map Prod.fst) ⟨id,ns⟩ = (P.map Prod.fst,1) by unfold Idx.put; rw [if_pos hp])
  clear hp
  go_wp2_with fail
  go_ret
  exact ⟨But.of_below HB2.out _,(by rw [HP.out]; rfl),P,by rw [HP.out],HI2.out⟩
 | true =>
  obtain ⟨y0,y1,yz⟩ := HK2.out.cl2
  have c7 := HI2.out.box.cell (j := 7) rfl
  have cz := HI2.out.box.lt
  have ez := HI2.out.ents.lt
  have HAL := hid (show ∀ y : Array Value,Below W2.heap.size W2 (W2.alloc (.cells y 40)).drew from fun y => ((Below.refl _ W2).alloc (Nat.le_refl _) _).drew)
  have hg1 := (HI2.out.ents.mapF.below (Below.refl _ W2).drew).getOk strF_keyed Tryz.underlying75 (zero_entry W2.drew) (strF_key HKL.out)
  have hg2 := (HI2.out.ents.mapF.below (HAL.out #[.string ⟨#[]⟩,.slice none 0 0])).getOk strF_keyed Tryz.underlying75 (zero_entry _) (strF_key HKL.out)
  rw [entF_bs] at hg1 hg2
  cases hb : Idx.byId P id with
  | some p =>
   obtain ⟨a2,c2,e2⟩ := (HI2.out.names p (Idx.byId_some hb).1).slice
   obtain ⟨en,vv⟩ := p
   dsimp only at e2
   subst e2
   simp only [hb,Option.map_some,Option.getD_some,Option.isSome_some,enV] at hg1 hg2
   have hh : Idx.has (P.map Prod.fst) id = true := Idx.has_iff.2 ⟨en,List.mem_map_of_mem (f := Prod.fst) (Idx.byId_some hb).1,(Idx.byId_some hb).2⟩
   have HP := hid (show Idx.put (P.map Prod.fst) ⟨id,ns⟩ = (P.map Prod.fst,9) by unfold Idx.put; rw [hp,if_neg (by simp),if_pos hh])
   clear hp hb hh
   go_upto_region 3 with (fail)
   go_region
   all_goals (go_wp2_with fail)
   all_goals go_ret
   all_goals exact ⟨But.of_below (Below.step HB2.out (HAL.out _)) _,(by rw [HP.out]; rfl),P,by rw [HP.out],HI2.out.below (HAL.out _)⟩
  | none =>
   simp only [hb,Option.map_none,Option.getD_none,Option.isSome_none] at hg1 hg2
   have HH := hid (Idx.byId_none.1 hb)
   have HPR := hid hp
   clear hp hb
   go_upto_region 3 with (fail)
   go_cut [5,6] from 14 to 24 (fun v5 v6 wx => v5 = .pointer (some ⟨W2.heap.size,0,none⟩) ∧ v6 = .bool false ∧ Below W2.heap.size W2 wx)
   case first =>
    go_region
    all_goals (go_wp2_with fail)
    all_goals (go_meet)
    all_goals exact ⟨rfl,rfl,HAL.out _⟩
   case rest =>
   obtain ⟨rfl,rfl,hb3⟩ := hcut
   rename World => W3
   have HB3 := hid (Below.step HB2.out hb3)
   have HI3 := hid (HI2.out.below hb3)
   have HK3 := hid (HK2.out.below hb3)
   clear c7 cz ez y0 y1 yz hg1 hg2 hb3
   obtain ⟨z0,z1,zz⟩ := HK3.out.cl2
   have c7 := HI3.out.box.cell (j := 7) rfl
   have cz := HI3.out.box.lt
   have ez := HI3.out.ents.lt
   have hlen := HI3.out.ents.len Tryz.underlying75 3
   by_cases h4 : 400 ≤ P.length
   ·have g1 : decide ((400 : Int) ≤ (P.length : Int)) = true := decide_eq_true (by omega)
    have HP := hid (show Idx.put (P.map Prod.fst) ⟨id,ns⟩ = (P.map Prod.fst,28) by unfold Idx.put; rw [HPR.out,if_neg (by simp),HH.out,if_neg (by simp),if_pos (by simpa using h4)])
    clear h4
    go_wp2_with fail
    go_ret
    exact ⟨But.of_below HB3.out _,(by rw [HP.out]; rfl),P,by rw [HP.out],HI3.out⟩
   ·have g1 : decide ((400 : Int) ≤ (P.length : Int)) = false := decide_eq_false (by omega)
    have HP := hid (show Idx.put (P.map Prod.fst) ⟨id,ns⟩ = (P.map Prod.fst ++ [⟨id,ns⟩],0) by unfold Idx.put; rw [HPR.out,if_neg (by simp),HH.out,if_neg (by simp),if_neg (by simpa using h4)])
    have HP4 := hid h4
    have HCP := hid (clone_any id ns _ W3.drew (HNV.out.below (HB3.out.drew)) HNW.out.1 HNW.out.2)
    clear h4
    have H0 := hid (And.intro c7 (And.intro z0 z1))
    have HLL := hid (And.intro cz (And.intro zz ez))
    go_upto_region 8 with (fail)
    refine wp_heldS (S := HeldC 8 (fun X => X.cell? ⟨px,7,none⟩ = some (.map (some eb)) ∧ X.cell? ⟨W.heap.size,0,none⟩ = some (.string (bs id)) ∧ X.cell? ⟨W.heap.size,1,none⟩ = some (.slice a nl c)) (fun k => k = eb) W3) (by kernel_rfl) ?_
    simp only [List.size_toArray,List.length_cons,List.length_nil,Nat.reduceAdd]
    intro hc
    have S0 : HeldC 8 (fun X => X.cell? ⟨px,7,none⟩ = some (.map (some eb)) ∧ X.cell? ⟨W.heap.size,0,none⟩ = some (.string (bs id)) ∧ X.cell? ⟨W.heap.size,1,none⟩ = some (.slice a nl c)) (fun k => k = eb) W3 (Array.replicate 9 false) W3.drew := ⟨.inr H0.out,(Tch.refl _ W3).step (Below.refl _ _).drew⟩
    refine tkI (i := 0) (v := .pointer (some ⟨px,0,none⟩)) rfl hc (fun wx hx => ?_) S0 (fun hc S0 => ?_) (hSi := fun _ _ => HeldC.set_ (by decide) _ _)
    ·go_simp
    try simp only [tk1,tk3,Act.put,tk4,tk5,tk6]
    refine tkI (i := 1) (v := .pointer (some ⟨px,0,none⟩)) rfl hc (fun wx hx => ?_) S0 (fun hc S0 => ?_) (hSi := fun _ _ => HeldC.set_ (by decide) _ _)
    ·go_simp
    try simp only [tk1,tk2,tk3,Act.put,tk4,tk5,tk6]
    refine tkI (i := 2) (v := .pointer (some ⟨px,7,none⟩)) rfl hc (fun wx hx => ?_) S0 (fun hc S0 => ?_) (hSi := fun _ _ => HeldC.set_ (by decide) _ _)
    ·go_simp
    try simp only [tk1,tk2,tk3,Act.put,tk4,tk5,tk6]
    refine tkI (i := 3) (v := .map (some eb)) rfl hc (fun wx hx => ?_) S0 (fun hc S0 => ?_) (hSi := fun _ _ => HeldC.set_ (by decide) _ _)
    ·have y := (hx.cee (n := 12) (by kernel_rfl)).1
     go_simp
    try simp only [tk1,tk2,tk3,Act.put,tk4,tk5,tk6]
    refine tkI (i := 4) (v := .pointer (some ⟨W.heap.size,0,none⟩)) rfl hc (fun wx hx => ?_) S0 (fun hc S0 => ?_) (hSi := fun _ _ => HeldC.set_ (by decide) _ _)
    ·go_simp
    try simp only [tk1,tk2,tk3,Act.put,tk4,tk5,tk6]
    refine tkI (i := 5) (v := .string (bs id)) rfl hc (fun wx hx => ?_) S0 (fun hc S0 => ?_) (hSi := fun _ _ => HeldC.set_ (by decide) _ _)
    ·have y := (hx.cee (n := 12) (by kernel_rfl)).2.1
     go_simp
    try simp only [tk1,tk2,tk3,Act.put,tk4,tk5,tk6]
    refine tkI (i := 6) (v := .agg #[.string (bs id),.slice a nl c]) rfl hc (fun wx hx => ?_) S0 (fun hc S0 => ?_) (hSi := fun _ _ => HeldC.set_ (by decide) _ _)
    ·have y := (hx.cee (n := 12) (by kernel_rfl)).2.1; have y2 := (hx.cee (n := 12) (by kernel_rfl)).2.2
     go_simp
    try simp only [tk1,tk2,tk3,Act.put,tk4,tk5,tk6]
    refine onI (i := 7) rfl hc (fun K' hK => ?_)
    go_simp
    refine (HCP.out).mono ?_
    rintro e2 w2 ⟨vn,rfl,hq2,hb2⟩
    have hb3 : Below W3.heap.size W3 w2 := Below.step (Below.refl _ W3).drew hb2
    have e3 : w2.cell? ⟨px,7,none⟩ = some (.map (some eb)) ∧ w2.cell? ⟨W.heap.size,0,none⟩ = some (.string (bs id)) ∧ w2.cell? ⟨W.heap.size,1,none⟩ = some (.slice a nl c) :=
     ⟨(hb3.cell (p := ⟨px,7,none⟩) HLL.out.1).trans H0.out.1,(hb3.cell (p := ⟨W.heap.size,0,none⟩) HLL.out.2.1).trans H0.out.2.1,(hb3.cell (p := ⟨W.heap.size,1,none⟩) HLL.out.2.1).trans H0.out.2.2⟩
    refine hK.out _ _ ⟨.inr e3,Tch.of_below hb3 _⟩ (fun hc => ?_)
    clear hK K'
    try simp only [tk1,tk2,tk3,Act.put,tk4,tk5,tk6]
    obtain ⟨a3,c3,rfl⟩ := hq2.slice
    have HEP := hid (entF_put (P := P) (p := (⟨id,ns⟩,.slice a3 ns.length c3)) HH.out)
    obtain ⟨W4,hput,hM4,hg4⟩ := (HI3.out.ents.below hb3).put_new strF_keyed Tryz.underlying75 (zero_entry w2) (by have := HP4.out; unfold maxLen; omega) (strF_key HKL.out) HEP.out.1 HEP.out.2.1 HEP.out.2.2
    dsimp only [enV] at hput
    have HM4 := hid (And.intro hM4 (And.intro hg4 (And.intro hb3 hq2)))
    clear hM4 hq2 hb2 HCP e3
    refine onI (i := 8) rfl hc (fun K' hK => ?_)
    go_simp
    refine hK.out _ _ ⟨.inl rfl,(Tch.of_below HM4.out.2.2.1 (fun k => k = eb)).grown HM4.out.2.1 (fun r e => .inl (Option.some.inj e).symm)⟩ (fun hc => ?_)
    clear hK K'
    try simp only [tk1,tk2,tk3,Act.put,tk4,tk5,tk6]
    refine wpAnyS_done (by kernel_rfl) ?_ _
    clear hb3 hg4 hc
    go_wp2_with fail
    go_ret
    obtain ⟨hM4,hg4,hb3,hq2⟩ := HM4.out
    have hB4 : But w2.heap.size eb w2 W4 := But.of_grown hg4 (fun r e => (Option.some.inj e).symm)
    have hI := HI3.out.below hb3
    obtain ⟨oe,e1,e2⟩ := hI.ents.no_cells
    refine ⟨But.step (But.of_below (Below.step HB3.out hb3) eb) hB4,(by rw [HP.out]; rfl),P ++ [(⟨id,ns⟩,.slice a3 ns.length c3)],(by rw [HP.out,List.map_append]; rfl),hI.ents_new hB4 (by rw [List.length_append]; exact hM4) (fun q hq => ?_) ?_⟩
    ·rcases List.mem_append.1 hq with hq | hq
     ·exact (hI.names q hq).but hB4 e1 e2
     ·rw [List.mem_singleton.1 hq]
      exact (hq2.mono (fun k hk _ => HQ.out k (Nat.le_trans HB3.out.size hk))).but hB4 e1 e2
    ·have := HI3.out.ok.put ⟨id,ns⟩
     rw [HP.out] at this
     simpa using this
end Go.Proofs.YtdghfenbfbdijaaGreatDoor
