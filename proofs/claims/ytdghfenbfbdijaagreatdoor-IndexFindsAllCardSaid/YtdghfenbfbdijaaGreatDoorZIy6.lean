/-
 The law's filled; Find of what is no name; what small says of sizes. Conditions: lengths; the library's tables.
-/
import Derived.Test.YtdghfenbfbdijaaGreatDoorZMIy
import Derived.Test.YtdghfenbfbdijaaGreatDoorZMIxB
namespace Idx
open Go.RowKit
theorem longZ_bd : ∀ l : List (List UInt8),0 ≤ longZ l ∧ longZ l ≤ 1000 * (l.length : Int)
 | [] => by simp [longZ]
 | w :: l => by
  have := longZ_bd l
  simp only [longZ,List.length_cons]
  split <;> omega
theorem longZ_short : ∀ l : List (List UInt8),longZ l < 1000 → ∀ w ∈ l,w.length ≤ 40
 | [],_,w,hw => by cases hw
 | x :: l,h,w,hw => by
  have h1 := longZ_bd l
  simp only [longZ] at h
  rcases List.mem_cons.1 hw with rfl | hw
  ·split at h <;> omega
  ·exact longZ_short l (by split at h <;> omega) w hw
theorem nameZ_bd (n : Li.Nm) (h : n.words.length ≤ 8796093022208) : 0 ≤ nameZ n ∧ nameZ n ≤ 8804889115230208 := by
 have := longZ_bd n.words
 unfold nameZ
 omega
theorem nameZ_pos (n : Li.Nm) : 0 ≤ nameZ n := by
 have := longZ_bd n.words
 unfold nameZ
 omega
theorem wordsZ_pos : ∀ l : List Li.Nm,0 ≤ wordsZ l
 | [] => by simp [wordsZ]
 | n :: l => by
  have := wordsZ_pos l
  have := nameZ_pos n
  simp only [wordsZ]
  omega
theorem wordsZ_bd : ∀ l : List Li.Nm,(∀ n ∈ l,n.words.length ≤ 8796093022208) → wordsZ l ≤ 8804889115230208 * (l.length : Int)
 | [],_ => by simp [wordsZ]
 | n :: l,h => by
  have h1 := wordsZ_bd l fun m hm => h m (List.mem_cons_of_mem _ hm)
  have h2 := nameZ_bd n (h n List.mem_cons_self)
  simp only [wordsZ,List.length_cons]
  omega
theorem wordsZ_mem : ∀ {l : List Li.Nm} {n : Li.Nm},n ∈ l → nameZ n ≤ wordsZ l
 | m :: l,n,h => by
  have h1 := wordsZ_pos l
  have h2 := nameZ_pos m
  simp only [wordsZ]
  rcases List.mem_cons.1 h with rfl | h
  ·omega
  ·have := wordsZ_mem h; omega
theorem sumZ_pos : ∀ l : List Li.En,0 ≤ sumZ l
 | [] => by simp [sumZ]
 | e :: l => by
  have := sumZ_pos l
  have := wordsZ_pos e.names
  simp only [sumZ]
  omega
theorem sumZ_bd : ∀ l : List Li.En,(∀ e ∈ l,e.names.length ≤ 12 ∧ ∀ n ∈ e.names,n.words.length ≤ 8796093022208) → sumZ l ≤ 105658669382762496 * (l.length : Int)
 | [],_ => by simp [sumZ]
 | e :: l,h => by
  have h1 := sumZ_bd l fun m hm => h m (List.mem_cons_of_mem _ hm)
  have h2 := wordsZ_bd e.names (h e List.mem_cons_self).2
  have h3 := (h e List.mem_cons_self).1
  simp only [sumZ,List.length_cons]
  omega
theorem sumZ_mem : ∀ {l : List Li.En} {e : Li.En},e ∈ l → wordsZ e.names ≤ sumZ l
 | m :: l,n,h => by
  have h1 := sumZ_pos l
  have h2 := wordsZ_pos m.names
  simp only [sumZ]
  rcases List.mem_cons.1 h with rfl | h
  ·omega
  ·have := sumZ_mem h; omega
theorem nameZ_few {n : Li.Nm} {m : Nat} (h : nameZ n ≤ m) (hm : m < 1000) : n.words.length ≤ m ∧ ∀ w ∈ n.words,w.length ≤ 40 := by
 have h1 := longZ_bd n.words
 unfold nameZ at h
 exact ⟨by omega,longZ_short _ (by omega)⟩
def Small (l : List Li.En) : Prop := l.length ≤ 12 ∧ ∀ e ∈ l,e.names.length ≤ 12 ∧ e.id.length ≤ 60 ∧ ∀ n ∈ e.names,n.words.length ≤ 24 ∧ ∀ w ∈ n.words,w.length ≤ 40
theorem few_small {l : List Li.En} (h : fewZ l 24 = true) (hz : ∀ e ∈ l,∀ n ∈ e.names,n.words.length ≤ 8796093022208) : Small l := by
 unfold fewZ at h
 simp only [Bool.and_eq_true,decide_eq_true_eq,List.all_eq_true] at h
 obtain ⟨⟨h1,h2⟩,h3⟩ := h
 have h4 : ∀ e ∈ l,e.names.length ≤ 12 ∧ e.id.length ≤ 60 := fun e he => by
  have := h1 e he
  unfold okSz at this
  simpa using this
 have h5 := sumZ_bd l fun e he => ⟨(h4 e he).1,hz e he⟩
 have h6 := sumZ_pos l
 have h7 : sumZ l ≤ 24 := by
  unfold wrap64 at h3
  omega
 refine ⟨h2,fun e he => ⟨(h4 e he).1,(h4 e he).2,fun n hn => ?_⟩⟩
 have h8 := sumZ_mem he
 have h9 := wordsZ_mem hn
 exact nameZ_few (m := 24) (by omega) (by omega)
theorem names_small {ns : List Li.Nm} (h : ns.length ≤ 6) (hw : wrap64 (wordsZ ns) ≤ 6) (hz : ∀ n ∈ ns,n.words.length ≤ 8796093022208) : ∀ n ∈ ns,n.words.length ≤ 6 ∧ ∀ w ∈ n.words,w.length ≤ 40 := by
 have h5 := wordsZ_bd ns hz
 have h6 := wordsZ_pos ns
 have h7 : wordsZ ns ≤ 6 := by
  unfold wrap64 at hw
  omega
 intro n hn
 have h9 := wordsZ_mem hn
 exact nameZ_few (m := 6) (by omega) (by omega)
theorem fill_take {l : List Li.En} {k : Nat} {e : Li.En} (h : l[k]? = some e) : fill [] (l.take (k + 1)) = (put (fill [] (l.take k)) e).1 := by
 rw [take_one h,fill_snoc]
end Idx
namespace Go.Proofs.YtdghfenbfbdijaaGreatDoor
open Go.RowKit Go.Lib Go.Maps
attribute [local go_sem] Oper.semAt_some
set_option maxRecDepth 100000 in
set_option maxHeartbeats 2000000 in
theorem ixFind_bad (px eb cb : Nat) (t : Rw.Table) (vr vd ve : Value) (bd : Int) (Q : Nat → Prop) (P : List (Li.En × Value)) (nc : Nat) (n : Li.Nm) (vn : Value) (W : World) (h : IxT W px eb cb t vr vd ve bd Q P nc)
  (hn : SlOf W vn 1 strC n.words) (hok : Li.nmOk n = false) (hw : ∀ s ∈ n.words,s.length ≤ 1000000) :
  Calls Tryz.prog 18 #[.pointer (some ⟨px,0,none⟩),.agg #[.int .i64 n.script,vn]] W (Gives (.tuple #[.slice none 0 0,.int .i64 1]) W) := by
 have HN := hid hn
 obtain ⟨na,ncp,rfl,-⟩ := hn
 obtain ⟨Wa,hWa⟩ := exq (W.alloc (.cells #[.pointer (some ⟨px,0,none⟩)] 31))
 obtain ⟨W1,hW1⟩ := exq (Wa.alloc (.cells #[.int .i64 n.script,.slice na n.words.length ncp] 46))
 have hza : Wa.heap.size = W.heap.size + 1 := by rw [hWa,World.size_alloc]
 have hba := bnew hWa
 have hbb := bnew hW1
 have hb1 := Below.step hba hbb
 have hk1 : Blk W1 W.heap.size 31 [.pointer (some ⟨px,0,none⟩)] := by
  have : Blk Wa W.heap.size 31 [.pointer (some ⟨px,0,none⟩)] := by rw [hWa]; exact Blk.new W _ _
  exact this.below hbb
 have hk2 : Blk W1 (W.heap.size + 1) 46 [.int .i64 n.script,.slice na n.words.length ncp] := by rw [hW1,← hza]; exact Blk.new Wa _ _
 have HB1 := hid hb1
 have HVA := scrValid_any n _ W1 (show NmAt W1 (n,.slice na n.words.length ncp) from HN.out.below hb1) hw ((h.tabs).below hb1)
 rw [hok] at HVA
 unfold nmV at HVA
 have HVA := hid HVA
 have x0 := hk1.cell (j := 0) rfl
 have xz := hk1.lt
 obtain ⟨y0,y1,yz⟩ := hk2.cl2
 rw [hWa] at hW1
 clear h hok hw hba hbb hb1 hk1 hk2 hza hWa
 refine (callsIn_wide (n := 9)).1 ?_
 refine callsIn_of_wp_marks Tryz.func18 rfl trivial ?_ rfl
 simp only [Tryz.ntmps18,List.size_toArray,List.length_cons,List.length_nil,Nat.reduceAdd,Nat.reduceSub,Array.replicate_succ,Array.replicate_zero,List.push_toArray,List.append_toArray,List.nil_append,List.cons_append]
 refine wpIn_wide.2 ?_
 go_upto_region 1 with (fail)
 try simp only [World.size_alloc]
 rw [← hW1]
 clear hW1
 go_wp2_with fail
 refine (HVA.out).mono ?_
 rintro e W2 ⟨rfl,hb2⟩
 have HB2 := hid (Below.step HB1.out hb2)
 clear x0 xz y0 y1 yz hb2
 go_wp2_with fail
 exact ⟨_,results_tmp2 rfl _ _ _,rfl,HB2.out⟩
def FillP (t : Rw.Table) (vr vd ve : Value) (b : Int) (Q : Nat → Prop) (l : List Li.En) (W : World) (e : Ending) (W' : World) : Prop :=
 Below W.heap.size W W' ∧ ((newOk t b = false ∧ e = .returned (.tuple #[.pointer none,.bool false])) ∨
  (newOk t b = true ∧ ∃ px eb cb P,e = .returned (.tuple #[.pointer (some ⟨px,0,none⟩),.bool true]) ∧ W.heap.size ≤ eb ∧ W.heap.size ≤ cb ∧ P.map Prod.fst = Idx.fill [] l ∧ IxT W' px eb cb t vr vd ve b Q P 0))
set_option maxRecDepth 100000 in
set_option maxHeartbeats 4000000 in
theorem filled_any (t : Rw.Table) (vr vd ve : Value) (b : Int) (Q : Nat → Prop) (ps : List (Li.En × Value)) (vl : Value) (W : World) (ht : TableAt W t (.agg #[vr,vd,ve,.int .i64 t.drop,.int .i64 t.order,.int .i64 t.initial])) (hT : Tabs W) (hl : EnsRaw W vl ps)
  (hs : Idx.Small (ps.map Prod.fst)) (hQ : ∀ k,W.heap.size ≤ k → Q k) :
  Calls Tryz.prog 24 #[.agg #[vr,vd,ve,.int .i64 t.drop,.int .i64 t.order,.int .i64 t.initial],.int .i64 b,vl] W (FillP t vr vd ve b Q (ps.map Prod.fst) W) := by
 have HTA := hid ht
 have HTT := hid hT
 have HL := hid hl
 have HS := hid hs
 have HQ := hid hQ
 obtain ⟨⟨_,_,_,e,⟨ar,cr,rfl,-⟩,⟨ad,cd,rfl,-⟩,⟨ae,ce,rfl,-⟩⟩,-⟩ := ht
 cases e
 obtain ⟨la,lc,rfl,-⟩ := hl.sl
 have hl12 : ps.length ≤ 12 := by have := hs.1; rwa [List.length_map] at this
 obtain ⟨W1,hW1⟩ := exq (W.alloc (.cells #[.slice ar t.rules.length cr,.slice ad t.drops.length cd,.slice ae t.ends.length ce,.int .i64 t.drop,.int .i64 t.order,.int .i64 t.initial] 25))
 have hb1 := bnew hW1
 have T1 : Blk W1 W.heap.size 25 [.slice ar t.rules.length cr,.slice ad t.drops.length cd,.slice ae t.ends.length ce,.int .i64 t.drop,.int .i64 t.order,.int .i64 t.initial] := by rw [hW1]; exact Blk.new W _ _
 have HB1 := hid hb1
 have HNW := hid (new_any t _ _ _ b W1 (HTA.out.below hb1) (HTT.out.below hb1))
 obtain ⟨t0,t1,t2,t3,t4,t5,tl⟩ := T1.cl6
 clear hT hl hs hQ hb1 T1
 go_enter Tryz.func24,Tryz.ntmps24
 go_upto_region 1 with (fail)
 rw [← hW1]
 clear hW1
 go_wp2_with fail
 refine (HNW.out).mono ?_
 rintro e W2 ⟨hb2,hor⟩
 have HB2 := hid (Below.step HB1.out hb2)
 clear t0 t1 t2 t3 t4 t5 tl HNW
 rcases hor with ⟨hno,rfl⟩ | ⟨hok,px,eb,cb,rfl,he,hc,-,hix⟩
 ·have HNO := hid hno
  clear hno hb2
  go_wp2_with fail
  go_loopw [10] (fun kv wr => kv = .int .i64 0 ∧ Hid (Below W.heap.size W wr)) (fun kv _ => 0)
  case atStart => exact ⟨rfl,HB2.out⟩
  case round =>
   obtain ⟨rfl,HB⟩ := hrel
   rename World => wr
   by_cases h0 : 0 < ps.length
   ·have g0 : decide ((0 : Int) < (ps.length : Int)) = true := decide_eq_true (by omega)
    go_wp2_with fail
    go_ret2
    exact ⟨HB.out,.inl ⟨HNO.out,rfl⟩⟩
   ·have g0 : decide ((0 : Int) < (ps.length : Int)) = false := decide_eq_false (by omega)
    go_wp2_with fail
    go_ret2
    exact ⟨HB.out,.inl ⟨HNO.out,rfl⟩⟩
 ·have HI2 := hid (show IxT W2 px eb cb t _ _ _ b Q [] 0 from ⟨hix Q,(HTA.out.below HB1.out).below hb2,(HTT.out.below HB1.out).below hb2⟩)
  have HEC := hid (show W.heap.size ≤ eb ∧ W.heap.size ≤ cb by have := HB1.out.size; omega)
  have HOK := hid hok
  clear hok hb2 he hc hix
  go_wp2_with fail
  go_loopw [10] (fun kv wr => ∃ (k : Nat) (P : List (Li.En × Value)),k ≤ ps.length ∧ kv = .int .i64 k ∧ Hid (P.map Prod.fst = Idx.fill [] ((ps.map Prod.fst).take k)) ∧ Hid (IxT wr px eb cb t (.slice ar t.rules.length cr) (.slice ad t.drops.length cd) (.slice ae t.ends.length ce) b Q P 0) ∧ Hid (Below W.heap.size W wr)) (fun kv _ => ps.length - (RowKit.intOf kv).toNat)
  case atStart => exact ⟨0,[],Nat.zero_le _,rfl,rfl,HI2.out,HB2.out⟩
  case round =>
   obtain ⟨k,P,hk,rfl,HP,HI,HB⟩ := hrel
   rename World => wr
   by_cases hlt : k < ps.length
   ·obtain ⟨⟨en,ev⟩,hx⟩ : ∃ x,ps[k]? = some x := ⟨_,List.getElem?_eq_getElem hlt⟩
    obtain ⟨g,o,rfl,hr⟩ : ∃ g o,la = some ⟨g,o,none⟩ ∧ RowOf wr g o 2 enC ps := by
     obtain ⟨a',c',e',-,-,hr⟩ := HL.out.sl.below HB.out
     simp only [Value.slice.injEq] at e'
     obtain ⟨rfl,-,rfl⟩ := e'
     exact hr (by omega)
    have s0 := hr.2 k _ hx 0 _ rfl
    have s1 := hr.2 k _ hx 1 _ rfl
    rw [Nat.add_zero] at s0
    dsimp only at s0 s1
    have hg := hr.1
    have hnm := (HL.out.nm _ (List.mem_of_getElem? hx)).below HB.out
    have HEL := hid (show (ps.map Prod.fst)[k]? = some en by rw [List.getElem?_map,hx]; rfl)
    have hsm := HS.out.2 en (List.mem_of_getElem? HEL.out)
    have HPU := hid (put_any px eb cb t _ _ _ b Q P 0 en.id en.names ev wr HI.out.ix (fun q hq => HQ.out q (Nat.le_trans HB.out.size hq)) hnm (by have := hsm.2.1; omega) (by have := hsm.1; omega) (fun n hn => by have := (hsm.2.2 n hn).1; omega) (fun n hn w hw => by have := (hsm.2.2 n hn).2 w hw; omega) HI.out.tabs)
    obtain ⟨xa,xn,xc,hxv⟩ : ∃ a n c,ev = .slice a n c := by obtain ⟨l,-,⟨a,c,e,-⟩,-⟩ := hnm; exact ⟨a,_,c,e⟩
    subst hxv
    have k0 : (0 : Int) ≤ (k : Int) := by omega
    have k1 : (k : Int) < (ps.length : Int) := by omega
    clear hr hx hnm hsm
    go_wp2_with fail
    refine (HPU.out).mono ?_
    rintro e w3 ⟨hb3,rfl,P',hP',hix⟩
    obtain ⟨oe,e1,e2⟩ := HI.out.ix.ents.no_cells
    have HI3 := hid (show IxT w3 px eb cb t (.slice ar t.rules.length cr) (.slice ad t.drops.length cd) (.slice ae t.ends.length ce) b Q P' 0 from ⟨hix,tableAt_but HI.out.tb hb3 e1 e2,tabs_but HI.out.tabs hb3 e1 e2⟩)
    have HB3 := hid (HB.out.trans (hb3.below HB.out.size HEC.out.1))
    have HP3 := hid hP'
    clear s0 s1 hg hb3 hP' hix e1 e2 HPU
    go_wp2_with fail
    go_roundw
    case rel => exact ⟨k + 1,P',by omega,by go_num,hid (by rw [HP3.out,HP.out,Idx.fill_take HEL.out]),HI3.out,HB3.out⟩
    case measure => simp [RowKit.intOf]; omega
   ·have hke : k = ps.length := by omega
    have hle : ¬ (k : Int) < (ps.length : Int) := by omega
    have HPE := hid (show P.map Prod.fst = Idx.fill [] (ps.map Prod.fst) by
     have := HP.out
     rwa [List.take_of_length_le (by rw [List.length_map]; omega)] at this)
    clear hke
    go_wp2_with fail
    go_ret2
    exact ⟨HB.out,.inr ⟨HOK.out,px,eb,cb,P,rfl,HEC.out.1,HEC.out.2,HPE.out,HI.out⟩⟩
end Go.Proofs.YtdghfenbfbdijaaGreatDoor
