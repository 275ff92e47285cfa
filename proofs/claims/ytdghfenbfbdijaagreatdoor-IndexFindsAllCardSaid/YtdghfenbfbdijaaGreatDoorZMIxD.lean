/-
 Several texts in one: ZIx9, ZIxA, ZIxB. Conditions: as each law says.
-/
import Derived.Test.YtdghfenbfbdijaaGreatDoorZMIxA
import Derived.Test.YtdghfenbfbdijaaGreatDoorZMIxC
import Derived.Test.YtdghfenbfbdijaaGreatDoorZMFm
import Derived.Test.YtdghfenbfbdijaaGreatDoorZMBase
import Derived.Test.YtdghfenbfbdijaaGreatDoorZIx8
import Derived.Test.YtdghfenbfbdijaaGreatDoorZMLi
import Derived.Test.YtdghfenbfbdijaaGreatDoorZMMtB
namespace Go.Proofs.YtdghfenbfbdijaaGreatDoor
open Go.RowKit Go.Lib Go.Maps
attribute [local go_sem] Oper.semAt_some
theorem all_mk (po : Option Addr) (W : World) : Calls Tryz.prog 38 #[.pointer po] W (fun e W' => e = .returned (.func (.func 62) #[] #[.pointer (some ⟨W.heap.size,0,none⟩)]) ∧ W' = W.alloc (.cells #[.pointer po] 31)) := by
 go_enter Tryz.func38,Tryz.ntmps38
 go_wp2_with fail
 go_ret
 exact ⟨rfl,rfl⟩
theorem owns_ck {lo hi : Nat} {T : TypeId → Prop} {M : World → Prop} {W W' : World} {B : Nat} {e : TypeId} {sz : Nat} {v : Value} {n : Nat} {xs : List Value} (h : W.ownsRow B e sz v n xs) (hk : CK lo hi T M W W') (hB : hi ≤ B) (hT : ¬ T e) : W'.ownsRow B e sz v n xs := by
 refine ⟨h.1,?_⟩
 rcases h.2 with h2 | ⟨g,cap,cur,rfl,hg,hh,r⟩
 ·exact .inl h2
 ·exact .inr ⟨g,cap,cur,rfl,hg,hk.cells g _ _ _ (.inr ⟨by omega,hT⟩) hh,r⟩
def allV (L : List (Li.En × Value)) : List (Li.En × Value) := L
def nxE : List (Li.En × Value) → Option (Array Value × List (Li.En × Value))
 | [] => none
 | p :: l => some (#[enV p],l)
theorem enc_str (l : List (List UInt8)) : l.map encStr = l.flatMap strC := by
 induction l with
 | nil => rfl
 | cons x l ih => rw [List.map_cons,List.flatMap_cons,ih]; rfl
theorem ids_sorted {W : World} {px eb cb : Nat} {t : Rw.Table} {tc : List Value} {b : Int} {Q : Nat → Prop} {P : List (Li.En × Value)} {nc : Nat} (h : IxAt W px eb cb t tc b Q P nc) :
  ∃ D : DataW Value,W.ownsMap Tryz.prog 9 readV eb P.length D ∧ Maps.size D ≤ 400 ∧ ∀ ss : List (List UInt8),ss.Perm (strKeys D) → ss.mergeSort (fun x y => decide (x ≤ y)) = (Idx.sortE P).map fun p => p.1.id := by
 obtain ⟨D,h1,h2,h3,h4,h5,h6⟩ := h.ents.mapF.keys strF_keyed Tryz.underlying9 Tryz.underlying75 (zero_entry W)
 have hn : (P.map fun p => p.1.id).Nodup := by
  have := h.ok.once
  rwa [List.map_map] at this
 have hids : ∀ x,x ∈ strKeys D ↔ ∃ p ∈ P,p.1.id = x := by
  have key : ∀ x : List UInt8,x.length ≤ maxLen → (x ∈ strKeys D ↔ ∃ p ∈ P,p.1.id = x) := fun x hx => by
   rw [h6 x hx,entF_bs,Option.isSome_map]
   constructor
   ·intro hs
    obtain ⟨p,hp⟩ := Option.isSome_iff_exists.1 hs
    exact ⟨p,Idx.byId_some hp⟩
   ·rintro ⟨p,hp,rfl⟩
    rw [Idx.byId_mem hn hp]
    rfl
  intro x
  constructor
  ·intro hx
   exact (key x (h5 x hx)).1 hx
  ·rintro ⟨p,hp,rfl⟩
   refine (key _ ?_).2 ⟨p,hp,rfl⟩
   have := h.ok.prop p.1 (List.mem_map_of_mem hp)
   unfold Li.proper Li.ident at this
   simp only [Bool.and_eq_true,decide_eq_true_eq] at this
   have := this.1.1.1.1.2
   unfold maxLen
   omega
 refine ⟨D,h1,?_,fun ss hs => ?_⟩
 ·rw [← h4]
  have := nodup_le h3 (b := P.map fun p => p.1.id) (fun x hx => by
   obtain ⟨p,hp,e⟩ := (hids x).1 hx
   exact List.mem_map.2 ⟨p,hp,e⟩)
  rw [List.length_map] at this
  have h7 := h.ok.few
  rw [List.length_map] at h7
  omega
 ·exact Idx.sortE_ids hn (hs.nodup_iff.2 h3) (fun x => by rw [hs.mem_iff]; exact hids x)
set_option maxRecDepth 100000 in
set_option maxHeartbeats 8000000 in
theorem all_iter (lo hi B : Nat) (T : TypeId → Prop) (px eb cb : Nat) (t : Rw.Table) (vr vd ve : Value) (bd : Int) (Q : Nat → Prop) (P : List (Li.En × Value)) (hB : B < lo ∨ (hi ≤ B ∧ ¬ T 31)) (hT : ¬ T 9) (n : Nat) (hn : 1 ≤ n) :
  IterX Fence.wide n Tryz.prog 62 #[.pointer (some ⟨B,0,none⟩)] none (CK lo hi T (fun W => ∃ nc,IxT W px eb cb t vr vd ve bd Q P nc)) nxE
   (fun b W => b = allV (Idx.sortE P) ∧ Blk W B 31 [.pointer (some ⟨px,0,none⟩)] ∧ hi ≤ W.heap.size ∧ ∃ nc,IxT W px eb cb t vr vd ve bd Q P nc) := by
 intro l J Jx b0 W hJ hJx hY hS h0
 obtain ⟨rfl,hbx,hhi,nc0,hix⟩ := hS
 refine callsIn_of_wp Tryz.func62 rfl trivial ?_ rfl
 simp only [Tryz.ntmps62,List.size_toArray,List.length_cons,List.length_nil,Nat.reduceAdd,Nat.reduceSub,Array.replicate_succ,Array.replicate_zero,List.push_toArray,List.append_toArray,List.nil_append,List.cons_append]
 obtain ⟨D,hD,hsz,hso⟩ := ids_sorted hix.ix
 have HKE := hid (maps_keys (some eb) W)
 have HSK := hid (sorted_keys eb P.length D readV W hD (by unfold maxLen; omega) (by omega))
 have HJ0 := hid h0
 have HIX := hid hix
 have HBX := hid hbx
 have HHI := hid hhi
 have HSO := hid hso
 have x0 := hbx.cell (j := 0) rfl
 have xz := hbx.lt
 have c7 := hix.ix.box.cell (j := 7) rfl
 have cz := hix.ix.box.lt
 clear h0 hix hbx hhi hD hsz hso
 gi_wp2_with fail
 refine ⟨trivial,(callsIn_wide.2 HKE.out).mono ?_⟩
 rintro e w1 ⟨rfl,rfl⟩
 clear x0 xz c7 cz
 gi_wp2_with fail
 refine ⟨trivial,(callsIn_wide.2 HSK.out).mono ?_⟩
 rintro e w2 ⟨sv,ss,rfl,hpm,hown,-,hb2⟩
 rw [HSO.out ss hpm,enc_str] at hown
 have hlen : ss.length = P.length := by
  have := congrArg List.length (HSO.out ss hpm)
  rw [List.length_mergeSort,List.length_map,Idx.sortE_len] at this
  exact this
 rw [hlen] at hown
 have hb02 : Below W.heap.size W w2 := Below.step ((Below.refl _ W).alloc (Nat.le_refl _) _) hb2
 have HJ2 := hid (hJ _ _ _ none HJ0.out (Below.grows hb02 none) (fun r e => by cases e))
 have HO2 := hid (ownsRow_base hown (show W.heap.size ≤ _ by simp))
 have HB2 := hid (HBX.out.below hb02)
 have HI2 := hid (show ∃ nc,IxT w2 px eb cb t vr vd ve bd Q P nc from ⟨nc0,HIX.out.below hb02⟩)
 obtain ⟨sa,sc,rfl⟩ := ownsRow_slice hown
 obtain ⟨N,hN⟩ := exq (P.length)
 have HN := hid hN
 have hN4 : N ≤ 400 := by
  have := HIX.out.ix.ok.few
  rw [List.length_map] at this
  omega
 rw [← hN] at HO2 ⊢
 obtain ⟨S0,hS0⟩ := exq (W.heap.size)
 rw [← hS0] at HO2 HHI
 clear hpm hown hlen hb2 hb02 HKE HSK HJ0 hN hS0
 gi_wp2_with fail
 gi_loopw [14] (fun kv wr => ∃ k : Nat,k ≤ N ∧ kv = .int .i64 k ∧ Hid (J (allV ((Idx.sortE P).drop k)) wr) ∧ Hid (wr.ownsRow S0 9 1 (.slice sa N sc) N (((Idx.sortE P).map fun p => p.1.id).flatMap strC)) ∧ Hid (Blk wr B 31 [.pointer (some ⟨px,0,none⟩)]) ∧ Hid (∃ nc,IxT wr px eb cb t vr vd ve bd Q P nc)) (fun kv _ => N - (RowKit.intOf kv).toNat)
 case atStart => exact ⟨0,Nat.zero_le _,rfl,HJ2.out,HO2.out,HB2.out,HI2.out⟩
 case round =>
  obtain ⟨k,hk,rfl,HJK,HOK,HBK,HIK⟩ := hrel
  rename World => wr
  by_cases hlt : k < N
  ·obtain ⟨p,hp⟩ : ∃ p,(Idx.sortE P)[k]? = some p := ⟨_,List.getElem?_eq_getElem (by rw [Idx.sortE_len,← HN.out]; exact hlt)⟩
   obtain ⟨nc1,hix⟩ := HIK.out
   have hpm := Idx.sortE_mem.1 (List.mem_of_getElem? hp)
   obtain ⟨va,vc,hv⟩ := (hix.ix.names p hpm).slice
   have hdr : (Idx.sortE P).drop k = p :: (Idx.sortE P).drop (k + 1) := by
    obtain ⟨h1,h2⟩ := List.getElem?_eq_some_iff.1 hp
    rw [List.drop_eq_getElem_cons h1,h2]
   have hJK := HJK.out
   rw [hdr] at hJK
   obtain ⟨fn,tmps,assign,body,hy',hR⟩ := hY _ _ (allV ((Idx.sortE P).drop (k + 1))) wr rfl hJK
   have hnd : (P.map fun p => p.1.id).Nodup := by
    have := hix.ix.ok.once
    rwa [List.map_map] at this
   have hidl : p.1.id.length ≤ 24 := by
    have := hix.ix.ok.prop p.1 (List.mem_map_of_mem hpm)
    unfold Li.proper Li.ident at this
    simp only [Bool.and_eq_true,decide_eq_true_eq] at this
    exact this.1.1.1.1.2
   have hget := hix.ix.ents.mapF.get strF_keyed Tryz.underlying75 (zero_entry wr) (strF_key (s := bs p.1.id) (by rw [bs_len]; unfold maxLen; omega))
   rw [entF_bs,Idx.byId_mem hnd hpm] at hget
   simp only [Option.map_some,Option.getD_some] at hget
   have hso := SlOf.own (l := (Idx.sortE P).map fun p => p.1.id) (sz := 1) (cells := strC) (by rw [List.length_map,Idx.sortE_len,← HN.out]; exact HOK.out) (fun _ _ => rfl)
   obtain ⟨en,pv⟩ := p
   dsimp only at hv
   subst hv
   obtain ⟨a',c',e',-,-,h3⟩ := hso
   simp only [Value.slice.injEq] at e'
   obtain ⟨rfl,-,rfl⟩ := e'
   obtain ⟨g,o,rfl,hr⟩ := h3 (by rw [List.length_map,Idx.sortE_len,← HN.out]; omega)
   have s0 := hr.2 k en.id (by rw [List.getElem?_map,hp]; rfl) 0 _ rfl
   rw [Nat.add_zero,Nat.mul_one] at s0
   have hg := hr.1
   have k0 : (0 : Int) ≤ (k : Int) := by omega
   have k1 : (k : Int) < (N : Int) := by omega
   have x0 := HBK.out.cell (j := 0) rfl
   have xz := HBK.out.lt
   have c7 := hix.ix.box.cell (j := 7) rfl
   have cz := hix.ix.box.lt
   unfold enV at hget hy'
   dsimp only at hget hy'
   have HIX1 := hid hix
   have HTT := hid (And.intro hB hT)
   clear hr hp hpm hdr hJK hnd hidl h3 hix hB hT
   gi_wp2_with fail
   refine hR.mono ?_
   rintro e W3 (⟨rfl,hJ3,hk3⟩ | ⟨rfl,hJx3⟩)
   ·gi_wp2_with fail
    go_roundw
    case rel => exact ⟨k + 1,by omega,by go_num,hJ3,owns_ck HOK.out hk3 HHI.out HTT.out.2,hk3.blk HBK.out HTT.out.1,hk3.mem ⟨_,HIX1.out⟩⟩
    case measure => simp [RowKit.intOf]; omega
   ·gi_wp2
    refine bodyPost_ret (results_none rfl _ _ _) rfl ?_
    exact ⟨⟨_,rfl⟩,.inr ⟨_,hJx3⟩⟩
  ·have hke : k = N := by omega
   have hle : ¬ (k : Int) < (N : Int) := by omega
   have HJE := hid (show J (allV []) wr by
    have := HJK.out
    rwa [List.drop_of_length_le (by rw [Idx.sortE_len,← HN.out]; omega)] at this)
   clear hke
   gi_wp2_with fail
   go_end0
   exact ⟨⟨_,rfl⟩,.inl ⟨_,rfl,HJE.out⟩⟩
end Go.Proofs.YtdghfenbfbdijaaGreatDoor
namespace Go.Proofs.YtdghfenbfbdijaaGreatDoor
open Go.RowKit Go.Lib Go.Maps
attribute [local go_sem] Oper.semAt_some
theorem Tryz.infoHit : (Tryz.prog.info? 56).map (fun i => (i.zero,i.size,i.bytes)) = some (some (.agg #[.string ⟨#[]⟩,.int .i64 0,.int .i64 0]),3,32) := by kernel_rfl
def hitC (h : Idx.Hit) : List Value := [.string (bs h.id),.int .i64 h.alias_,.int .i64 h.cost]
theorem owns_rec {A A' : World} {B : Nat} {e : TypeId} {sz : Nat} {v : Value} {n : Nat} {xs : List Value} {row : Option Nat} (h : A.ownsRow B e sz v n xs) (hg : A.grownBy A' row) (hr : ∀ r,row = some r → ∃ o : Obj,A.heap[r]? = some o ∧ o.isCells = false) : A'.ownsRow B e sz v n xs := by
 refine ⟨h.1,?_⟩
 rcases h.2 with h2 | ⟨g,cap,cur,rfl,hg',hh,r⟩
 ·exact .inl h2
 ·refine .inr ⟨g,cap,cur,rfl,hg',(hg.block g (Array.getElem?_eq_some_iff.1 hh).1 (fun e' => ?_)).trans hh,r⟩
  obtain ⟨o,ho,hc⟩ := hr g e'.symm
  rw [hh] at ho
  cases ho
  cases hc
def Rd (ty : TypeId) (q cb : Nat) (A W : World) : Prop := A.heap.size ≤ W.heap.size ∧ ∀ k,k < A.heap.size → k ≠ q → k ≠ cb → (k ≤ q ∨ ∀ cs fr,A.heap[k]? ≠ some (.cells cs ty fr)) → W.heap[k]? = A.heap[k]?
section
variable {ty : TypeId} {q cb : Nat} {A W W' : World}
theorem Rd.refl (ty : TypeId) (q cb : Nat) (A : World) : Rd ty q cb A A := ⟨Nat.le_refl _,fun _ _ _ _ _ => rfl⟩
theorem Rd.trans (h : Rd ty q cb A W) (g : Rd ty q cb W W') : Rd ty q cb A W' := by
 refine ⟨Nat.le_trans h.1 g.1,fun k hk h1 h2 h3 => ?_⟩
 have e := h.2 k hk h1 h2 h3
 refine (g.2 k (Nat.lt_of_lt_of_le hk h.1) h1 h2 ?_).trans e
 rw [e]
 exact h3
theorem Rd.of_but (h : But W.heap.size cb W W') : Rd ty q cb W W' := ⟨h.size,fun k hk _ h2 _ => h.block k hk h2⟩
theorem Rd.app {v : Value} {n sz : Nat} {xs : List Value} (hg : W.grownBy W' v.ownBlock) (ho : W.ownsRow (q + 1) ty sz v n xs) : Rd ty q cb W W' := by
 refine ⟨hg.size,fun k hk _ _ h3 => hg.block k hk (fun e => ?_)⟩
 rcases ho.2 with ⟨h2,-⟩ | ⟨g,cap,cur,rfl,hgg,hh,-⟩
 ·rw [h2] at e; cases e
 ·simp only [Value.ownBlock,Option.some.injEq] at e
  subst e
  rcases h3 with h3 | h3
  ·omega
  ·exact h3 _ _ hh
theorem Rd.set (j : Nat) (u : Value) : Rd ty q cb W (W.setCell ⟨q,j,none⟩ u) := ⟨by simp [World.setCell],fun k _ h1 _ _ => Below.heap_setCell _ ⟨q,j,none⟩ _ k h1⟩
theorem Rd.keeps (h : Rd ty q cb A W) {B : Nat} (hB : q < B) (hcb : cb < B) : KeepsFrom B A W := by
 refine ⟨h.1,fun k o hk ho hn => ?_⟩
 refine (h.2 k (Array.getElem?_eq_some_iff.1 ho).1 (by omega) (by omega) (.inr fun cs fr e => ?_)).trans ho
 rw [e] at ho
 cases ho
 cases hn
theorem Rd.ck (h : Rd ty q cb A W) {M : World → Prop} (hcb : ∃ o : Obj,A.heap[cb]? = some o ∧ o.isCells = false) (hM : M A → M W) : CK q (q + 1) (fun e => e = ty) M A W := by
 refine ⟨h.1,fun k cs e fr hk ho => ?_,hM⟩
 refine (h.2 k (Array.getElem?_eq_some_iff.1 ho).1 (by omega) (fun e' => ?_) ?_).trans ho
 ·obtain ⟨o,h1,h2⟩ := hcb
  rw [e',h1] at ho
  cases ho
  cases h2
 ·rcases hk with hk | ⟨hk,hT⟩
  ·exact .inl (by omega)
  ·refine .inr fun cs' fr' e' => hT ?_
   rw [e'] at ho
   cases ho
   rfl
end
theorem blk_other {W W' : World} {b B2 : Nat} {e e2 : TypeId} {vs ys : List Value} {z2 n2 : Nat} {u : Value} (h : Blk W b e vs) (g : W.ownsRow B2 e2 z2 u n2 ys) (hg : W.grownBy W' u.ownBlock) (hne : e ≠ e2) : Blk W' b e vs := by
 refine h.kept hg fun e' => ?_
 rcases g.2 with ⟨g2,-⟩ | ⟨q2,cap2,cur2,rfl,hq2,hh2,r2⟩
 ·rw [g2] at e'; cases e'
 ·simp only [Value.ownBlock,Option.some.injEq] at e'
  subst e'
  have h' : W.heap[q2]? = _ := h
  rw [hh2] at h'
  cases h'
  exact hne rfl
theorem hits_take {f : Li.Nm → Int} {b : Int} {id : List UInt8} {ns : List Li.Nm} {i : Nat} {m : Li.Nm} (h : ns[i]? = some m) : Idx.hitsN f b id 0 (ns.take (i + 1)) = Idx.hitsN f b id 0 (ns.take i) ++ if f m ≤ b then [⟨id,i,f m⟩] else [] := by
 have hi := (List.getElem?_eq_some_iff.1 h).1
 rw [List.take_add_one,h]
 simp only [Option.toList_some]
 rw [Idx.hitsN_snoc,List.length_take,Nat.zero_add,Nat.min_eq_left (by omega)]
def FindP (cb : Nat) (t : Rw.Table) (nc : Nat) (n : Li.Nm) (bd : Int) (P : List (Li.En × Value)) (W : World) (e : Ending) (W' : World) : Prop :=
 But W.heap.size cb W W' ∧ ∃ v,e = .returned (.tuple #[v,.int .i64 0]) ∧ W'.ownsRow W.heap.size 56 3 v (Idx.hits (Mt.dist t n) bd ((Idx.sortE P).map Prod.fst)).length ((Idx.hits (Mt.dist t n) bd ((Idx.sortE P).map Prod.fst)).flatMap hitC) ∧ ∃ nc',nc' ≤ nc + 115200 ∧ CostsAt W' cb t nc'
structure FdI (W2 : World) (cb : Nat) (t : Rw.Table) (bd : Int) (P : List (Li.En × Value)) (nc : Nat) (n : Li.Nm) (b : List (Li.En × Value)) (A : World) : Prop where
 ex : ∃ (done rest : List (Li.En × Value)) (v : Value) (nc' : Nat),b = allV rest ∧ Idx.sortE P = done ++ rest ∧ (∃ a l c,v = .slice a l c) ∧ Blk A W2.heap.size 42 [v] ∧
  A.ownsRow (W2.heap.size + 1) 56 3 v (Idx.hits (Mt.dist t n) bd (done.map Prod.fst)).length ((Idx.hits (Mt.dist t n) bd (done.map Prod.fst)).flatMap hitC) ∧ nc' ≤ nc + 288 * done.length ∧ CostsAt A cb t nc'
 but : But W2.heap.size cb W2 A
theorem fdI_stays (W2 : World) (cb : Nat) (t : Rw.Table) (bd : Int) (P : List (Li.En × Value)) (nc : Nat) (n : Li.Nm) (B : Nat) (hB : W2.heap.size ≤ B) (hcb : cb < W2.heap.size) : Stays B none (FdI W2 cb t bd P nc n) := by
 rintro b A A' row ⟨⟨done,rest,v,nc',h1,h2,h3,h4,h5,h6,h7⟩,g⟩ hg hr
 have hr' : ∀ r,row = some r → B ≤ r ∧ ∃ o : Obj,A.heap[r]? = some o ∧ o.isCells = false := fun r e => by
  rcases hr r e with h | h
  ·cases h
  ·exact h
 have hr2 : ∀ r,row = some r → ∃ o : Obj,A.heap[r]? = some o ∧ o.isCells = false := fun r e => (hr' r e).2
 refine ⟨⟨done,rest,v,nc',h1,h2,h3,h4.rec_ hg hr2,owns_rec h5 hg hr2,h6,h7.kept hg (fun e => ?_)⟩,?_⟩
 ·have := (hr' cb e.symm).1
  omega
 ·refine g.trans ⟨hg.os,hg.tape,hg.output,hg.size,fun k hk _ => hg.block k (Nat.lt_of_lt_of_le hk g.size) (fun e => ?_)⟩
  have := (hr' k e.symm).1
  omega
set_option maxRecDepth 100000 in
set_option maxHeartbeats 8000000 in
theorem find_any (px eb cb : Nat) (t : Rw.Table) (vr vd ve : Value) (bd : Int) (Q : Nat → Prop) (P : List (Li.En × Value)) (nc : Nat) (n : Li.Nm) (vn : Value) (W : World) (h : IxT W px eb cb t vr vd ve bd Q P nc)
  (hn : SlOf W vn 1 strC n.words) (hok : Li.nmOk n = true) (hnc : nc ≤ 700000) (hto : 0 ≤ t.order ∧ t.order ≤ 1000000) :
  Calls Tryz.prog 18 #[.pointer (some ⟨px,0,none⟩),.agg #[.int .i64 n.script,vn]] W (FindP cb t nc n bd P W) := by
 obtain ⟨i0,hi0,hz0,hz1,hz2⟩ := info_parts Tryz.infoHit
 have HFW := hid (Li.nm_few hok)
 have HOK := hid hok
 have HN := hid hn
 have HNC := hid (And.intro hnc hto)
 obtain ⟨na,ncp,rfl,-⟩ := hn
 obtain ⟨Wa,hWa⟩ := exq (W.alloc (.cells #[.pointer (some ⟨px,0,none⟩)] 31))
 obtain ⟨W1,hW1⟩ := exq (Wa.alloc (.cells #[.int .i64 n.script,.slice na n.words.length ncp] 46))
 have hza : Wa.heap.size = W.heap.size + 1 := by rw [hWa,World.size_alloc]
 have hba := bnew hWa
 have hbb := bnew hW1
 have hb1 := Below.step hba hbb
 have hk1 : Blk W1 W.heap.size 31 [.pointer (some ⟨px,0,none⟩)] := by
  have : Blk Wa W.heap.size 31 [.pointer (some ⟨px,0,none⟩)] := by rw [hWa]; exact Blk.new W _ _
  exact this.below hbb
 have hk2 : Blk W1 (W.heap.size + 1) 46 [.int .i64 n.script,.slice na n.words.length ncp] := by rw [hW1,← hza]; exact Blk.new Wa _ _
 have HB1 := hid hb1
 have HK1 := hid (And.intro hk1 hk2)
 have HI1 := hid (h.below hb1)
 have HVA := scrValid_any n _ W1 (show NmAt W1 (n,.slice na n.words.length ncp) from HN.out.below hb1) HFW.out.2.2.2 HI1.out.tabs
 rw [hok] at HVA
 unfold nmV at HVA
 have HVA := hid HVA
 have x0 := hk1.cell (j := 0) rfl
 have xz := hk1.lt
 obtain ⟨y0,y1,yz⟩ := hk2.cl2
 rw [hWa] at hW1
 clear h hok hnc hto hba hbb hb1 hk1 hk2 hza hWa
 refine (callsIn_wide (n := 9)).1 ?_
 refine callsIn_of_wp_marks Tryz.func18 rfl trivial ?_ rfl
 simp only [Tryz.ntmps18,List.size_toArray,List.length_cons,List.length_nil,Nat.reduceAdd,Nat.reduceSub,Array.replicate_succ,Array.replicate_zero,List.push_toArray,List.append_toArray,List.nil_append,List.cons_append]
 refine wpIn_wide.2 ?_
 go_upto_region 1 with (fail)
 try simp only [World.size_alloc]
 rw [← hW1]
 clear hW1
 go_wp2_with fail
 refine (HVA.out).mono ?_
 rintro e W2 ⟨rfl,hb2⟩
 have HB2 := hid (Below.step HB1.out hb2)
 have HK2 := hid (And.intro (HK1.out.1.below hb2) (HK1.out.2.below hb2))
 have HI2 := hid (HI1.out.below hb2)
 have HLT2 := hid (show W.heap.size + 1 < W2.heap.size from Nat.lt_of_lt_of_le HK1.out.2.lt hb2.size)
 clear x0 xz y0 y1 yz hb2
 obtain ⟨W3,hW3⟩ := exq (W2.alloc (.cells #[.slice none 0 0] 42))
 have hb3 := bnew hW3
 have hk3 : Blk W3 W2.heap.size 42 [.slice none 0 0] := by rw [hW3]; exact Blk.new _ _ _
 have hz3 : W3.heap.size = W2.heap.size + 1 := by rw [hW3,World.size_alloc]
 have HB3 := hid hb3
 have HK3 := hid hk3
 have HZ3 := hid hz3
 have HMK := hid (all_mk (some ⟨px,0,none⟩) W3)
 have kx := HK2.out.1.below hb3
 have x0 := kx.cell (j := 0) rfl
 have xz := kx.lt
 clear hb3 hk3 hz3 kx
 go_upto_region 4 with (fail)
 rw [← hW3]
 clear hW3
 go_wp2_with fail
 refine (HMK.out).mono ?_
 rintro e W4 ⟨rfl,hW4⟩
 have hb4 := bnew hW4
 have HZ4 := hid (show W4.heap.size = W2.heap.size + 2 by rw [hW4,World.size_alloc,HZ3.out])
 have HKB := hid (show Blk W4 W3.heap.size 31 [.pointer (some ⟨px,0,none⟩)] by rw [hW4]; exact Blk.new _ _ _)
 have HI4 := hid ((HI2.out.below HB3.out).below hb4)
 have HC2 := hid (show eb < W2.heap.size ∧ cb < W2.heap.size by
  obtain ⟨o,e1,-⟩ := HI2.out.map
  exact ⟨HI2.out.ix.ents.lt,(Array.getElem?_eq_some_iff.1 e1).1⟩)
 have HF4 := hid (show FdI W2 cb t bd P nc n (allV (Idx.sortE P)) W4 from ⟨⟨[],Idx.sortE P,.slice none 0 0,nc,rfl,rfl,⟨_,_,_,rfl⟩,HK3.out.below hb4,World.ownsRow_nil _ _ _ _,by omega,HI4.out.costs⟩,But.of_below (Below.step HB3.out hb4) cb⟩)
 clear hW4 hb4 x0 xz HMK
 go_wp2_with fail
 refine (wpIn_wide (n := 9)).1 (wp_iter (own := none) rfl (by omega) (gf := 62) (lb := #[.pointer (some ⟨W3.heap.size,0,none⟩)]) rfl trivial (enters_of Tryz.func62 (by kernel_rfl) rfl)
  (all_iter W2.heap.size (W2.heap.size + 1) W3.heap.size (fun e => e = 56) px eb cb t vr vd ve bd Q P (.inr ⟨by rw [HZ3.out]; exact Nat.le_refl _,by decide⟩) (by decide) 8 (by omega)) (allV (Idx.sortE P)) (fun r e => by cases e)
  (fun A hA => ⟨rfl,HKB.out.below hA,by have := hA.size; have := HZ4.out; omega,nc,HI4.out.below hA⟩) (fun b vals b' h => ?ps) (fun h1 h2 => h1.trans h2)
  (fun A l o o' hl hlo ho => CK.record hlo ho (fun ⟨nc',hm⟩ => ⟨nc',hm.rec_ (grownBy_putObj' A l o') hlo ho (by have := HC2.out; have := HZ4.out; omega) (by have := HC2.out; have := HZ4.out; omega)⟩))
  (FdI W2 cb t bd P nc n) (fun _ _ _ => False) ?hI ?hIx ?h0 ?hround ?hdone ?hstop)
 case ps =>
  cases b with
  | nil => cases h
  | cons v l =>
   cases h
   rfl
 case hI => exact fdI_stays W2 cb t bd P nc n _ (by have := HZ4.out; omega) HC2.out.2
 case hIx => intro c b A A' row h; exact h.elim
 case h0 => exact HF4.out
 case hstop => intro D c b A hD hx; exact hx.elim
 case hdone =>
  intro D b A hD hnx hi hK
  obtain ⟨⟨done,rest,v,nc1,h1,h2,⟨oa,ol,oc,rfl⟩,h4,h5,h6,h7⟩,hbut⟩ := hi
  have hrest : rest = [] := by
   cases rest with
   | nil => rfl
   | cons w l => rw [h1] at hnx; cases hnx
  subst hrest
  rw [List.append_nil] at h2
  have HDN := hid h2
  have HK := hid hK
  have HO := hid (And.intro h5 (And.intro h6 h7))
  have HBU := hid hbut
  have HDL := hid hD
  have p0 := h4.cell (j := 0) rfl
  have pz := h4.lt
  clear h1 h2 h4 h5 h6 h7 hnx hbut hD hK
  go_wp2_with fail
  refine ⟨by simp,.inl ⟨_,_,rfl,run_takeDeferred HK.out,_,results_tmp2 rfl _ _ _,?_⟩⟩
  have hrec := grownBy_putObj' A D (.deferred none)
  have hr2 : ∀ r,(some D : Option Nat) = some r → ∃ o : Obj,A.heap[r]? = some o ∧ o.isCells = false := fun r e => by cases e; exact ⟨_,HK.out,rfl⟩
  have hz4 := HZ4.out
  have hdl := HDL.out
  refine ⟨(But.of_below HB2.out cb).step (HBU.out.trans ⟨hrec.os,hrec.tape,hrec.output,hrec.size,fun k hk _ => hrec.block k (Nat.lt_of_lt_of_le hk HBU.out.size) (fun e => by cases e; omega)⟩),_,rfl,?_,nc1,?_,HO.out.2.2.kept hrec (fun e => by cases e; have := HC2.out; omega)⟩
  ·rw [HDN.out]
   exact owns_rec (ownsRow_to HO.out.1 (by have := HB2.out.size; omega)) hrec hr2
  ·have h1 := HO.out.2.1
   have h2 := congrArg List.length HDN.out
   rw [Idx.sortE_len] at h2
   have h3 := HI2.out.ix.ok.few
   rw [List.length_map] at h3
   omega
 case hround =>
  intro l b vals b' A hl hlo hnx hi
  cases b with
  | nil => cases hnx
  | cons p b =>
  cases hnx
  have HI := hid hi
  have HLO := hid hlo
  have HRE := hid (show ∃ done,Idx.sortE P = done ++ p :: b' by
   obtain ⟨⟨done,rest,v,nc1,h1,h2,-⟩,-⟩ := hi
   have h1' : p :: b' = rest := h1
   rw [← h1'] at h2
   exact ⟨done,h2⟩)
  have hmem : p ∈ P := Idx.sortE_mem.1 (by
   obtain ⟨done,h2⟩ := HRE.out
   rw [h2]
   exact List.mem_append_right _ List.mem_cons_self)
  have hpr := HI2.out.ix.ok.prop p.1 (List.mem_map_of_mem hmem)
  obtain ⟨va,vc,hv⟩ := (HI2.out.ix.names p hmem).slice
  obtain ⟨en,pv⟩ := p
  dsimp only at hv
  subst hv
  have HME := hid hmem
  have HPF := hid (Li.proper_few hpr)
  clear hi hlo hmem hpr
  unfold enV
  dsimp only
  gi_wp2_with fail
  obtain ⟨A2,hA2⟩ := exq (A.alloc (.cells #[.string (bs en.id),.slice va en.names.length vc] 40))
  rw [← hA2]
  have hbA := bnew hA2
  have hk2 : Blk A2 A.heap.size 40 [.string (bs en.id),.slice va en.names.length vc] := by rw [hA2]; exact Blk.new A _ _
  clear hA2
  refine ⟨⟨hbA.size,fun q o hq ho hn => (hbA.block q (Array.getElem?_eq_some_iff.1 ho).1).trans ho⟩,⟨hbA.size,fun q cs e fr _ h => (hbA.block q (Array.getElem?_eq_some_iff.1 h).1).trans h,fun ⟨nc',hm⟩ => ⟨nc',hm.below hbA⟩⟩,fun A3 hg3 => ?_⟩
  obtain ⟨ol,hol,hoc⟩ := HLO.out
  have hol2 := (hbA.block l (Array.getElem?_eq_some_iff.1 hol).1).trans hol
  have hI2 := fdI_stays W2 cb t bd P nc n W2.heap.size (Nat.le_refl _) HC2.out.2 _ A A2 none HI.out (Below.grows hbA none) (fun r e => by cases e)
  have hI3 := fdI_stays W2 cb t bd P nc n W2.heap.size (Nat.le_refl _) HC2.out.2 _ A2 A3 (some l) hI2 hg3 (fun r e => by cases e; exact .inr ⟨by have := HZ4.out; omega,_,hol2,hoc⟩)
  have hk3 := hk2.rec_ hg3 (fun r e => by cases e; exact ⟨_,hol2,hoc⟩)
  have HAL := hid (show W2.heap.size + 2 ≤ A.heap.size by have := HZ4.out; have := (Array.getElem?_eq_some_iff.1 hol).1; omega)
  clear hbA hk2 hol hol2 hI2 hg3 HLO HI
  obtain ⟨⟨done,rest,v,nc1,h1,h2,⟨oa,ol',oc,rfl⟩,h4,h5,h6,h7⟩,hbut⟩ := hI3
  have h1' : (en,Value.slice va en.names.length vc) :: b' = rest := h1
  subst h1'
  obtain ⟨qe,hqe⟩ := exq (A.heap.size)
  rw [← hqe] at hk3 HAL ⊢
  have HDN := hid h2
  have HN1 := hid h6
  have HK3 := hid hk3
  have HS3 := hid (And.intro h4 (And.intro h5 (And.intro h7 hbut)))
  have e1 := hk3.cell (j := 1) rfl
  have ez := hk3.lt
  obtain ⟨q,hq⟩ := exq (W2.heap.size)
  obtain ⟨pre,hpre⟩ := exq (Idx.hits (Mt.dist t n) bd (done.map Prod.fst))
  obtain ⟨E,hE⟩ := exq (en.names.length)
  rw [← hq,← hpre] at HS3
  rw [← hq]
  have HQ := hid hq
  have HPRE := hid hpre
  have HE := hid hE
  rw [← hE] at HK3 e1
  clear hqe h1 h2 h4 h5 h6 h7 hbut hk3 hq hpre hE
  gi_upto_region 6 with (fail)
  gi_wp2_with fail
  gi_loopw [24] (fun iv wr => ∃ (i : Nat) (v : Value) (nc2 : Nat),i ≤ E ∧ iv = .int .i64 i ∧ (∃ a l c,v = .slice a l c) ∧ Hid (Blk wr q 42 [v]) ∧ Hid (wr.ownsRow (q + 1) 56 3 v (pre ++ Idx.hitsN (Mt.dist t n) bd en.id 0 (en.names.take i)).length ((pre ++ Idx.hitsN (Mt.dist t n) bd en.id 0 (en.names.take i)).flatMap hitC)) ∧
   Hid (nc2 ≤ nc1 + 36 * i ∧ CostsAt wr cb t nc2) ∧ Hid (But W2.heap.size cb W2 wr) ∧ Hid (Blk wr qe 40 [.string (bs en.id),.slice va E vc]) ∧ Hid (Rd 56 q cb A3 wr)) (fun iv _ => E - (RowKit.intOf iv).toNat)
  case atStart => exact ⟨0,_,nc1,Nat.zero_le _,rfl,⟨_,_,_,rfl⟩,HS3.out.1,hid (by rw [List.take_zero]; unfold Idx.hitsN; rw [List.append_nil]; exact HS3.out.2.1),⟨by omega,HS3.out.2.2.1⟩,hid (by have := HS3.out.2.2.2; rwa [HQ.out] at this),HK3.out,Rd.refl _ _ _ _⟩
  case round =>
   clear e1 ez
   obtain ⟨i,hv,nc2,hi,rfl,⟨ha,hl',hc,rfl⟩,HBO,HRO,HCO,HBU,HKE,HRD⟩ := hrel
   rename World => wr
   have hE8 : E ≤ 8 := by rw [HE.out]; exact HPF.out.1
   by_cases hlt : i < E
   ·obtain ⟨om,hom,hoc⟩ := HI2.out.map
    have hIX := HI2.out.now HBU.out HCO.out.2
    obtain ⟨ls,hl1,hl2,hl3⟩ := hIX.ix.names _ HME.out
    have hll : ls.length = E := by rw [HE.out,← hl1,List.length_map]
    obtain ⟨⟨m,mv⟩,hq⟩ : ∃ q,ls[i]? = some q := ⟨_,List.getElem?_eq_getElem (by rw [hll]; exact hlt)⟩
    have hmn : en.names[i]? = some m := by
     have : (ls.map Prod.fst)[i]? = some m := by rw [List.getElem?_map,hq]; rfl
     rw [hl1] at this
     exact this
    have HMN := hid hmn
    have HMF := hid (Li.nm_few (HPF.out.2 m (List.mem_of_getElem? hmn)))
    have hsl := hl3 _ (List.mem_of_getElem? hq)
    obtain ⟨ma,mc,hmv⟩ := hsl.slice
    dsimp only at hmv
    subst hmv
    obtain ⟨g,o,rfl,hr⟩ : ∃ g o,va = some ⟨g,o,none⟩ ∧ RowOf wr g o 2 nmC ls := by
     obtain ⟨a',c',e',-,-,hr⟩ := hl2
     rw [hll,← HE.out] at e'
     simp only [Value.slice.injEq] at e'
     obtain ⟨rfl,-,rfl⟩ := e'
     obtain ⟨g,o,ha,-,hr⟩ := hr (by omega)
     exact ⟨g,o,ha,hr⟩
    have s0 := hr.2 i _ hq 0 _ rfl
    have s1 := hr.2 i _ hq 1 _ rfl
    rw [Nat.add_zero] at s0
    have hg := hr.1
    have kx := blk_but HK2.out.1 HBU.out hom hoc
    have kn := blk_but HK2.out.2 HBU.out hom hoc
    have hns := (HN.out.below HB2.out).but HBU.out hom hoc
    obtain ⟨A5,hA5⟩ := exq (wr.alloc (.cells #[.int .i64 m.script,.slice ma m.words.length mc] 46))
    have hb5 := bnew hA5
    have hk5 : Blk A5 wr.heap.size 46 [.int .i64 m.script,.slice ma m.words.length mc] := by rw [hA5]; exact Blk.new _ _ _
    have HB5 := hid hb5
    have HIX5 := hid (hIX.below hb5)
    have HKX5 := hid (kx.below hb5)
    have HDI := hid (dist_any px eb cb t vr vd ve bd Q P nc2 n m _ _ A5 (hIX.below hb5) (hns.below hb5) HFW.out.2.2.2 HFW.out.1 (by have := HFW.out.2.1; omega) HFW.out.2.2.1 ((SlIn.slOf hsl).below hb5) HMF.out.2.2.2 (by have := HMF.out.2.1; omega) HMF.out.2.2.1 (by
     have h1 := HCO.out.1
     have h2 := HN1.out
     have h3 := HNC.out.1
     have h4 := congrArg List.length HDN.out
     rw [Idx.sortE_len,List.length_append,List.length_cons] at h4
     have h5 := HI2.out.ix.ok.few
     rw [List.length_map] at h5
     have h6 := HPF.out.1
     rw [← HE.out] at h6
     omega) HNC.out.2)
    have x0 := (kx.below hb5).cell (j := 0) rfl
    have xz := (kx.below hb5).lt
    obtain ⟨n0,n1,nz⟩ := (kn.below hb5).cl2
    obtain ⟨m0,m1,mz⟩ := hk5.cl2
    have i0' : (0 : Int) ≤ (i : Int) := by omega
    have i1' : (i : Int) < (E : Int) := by omega
    clear hom hoc hIX hl1 hl2 hl3 hll hq hmn hsl hr kx kn hns hb5 hk5
    gi_upto_region 9 with (fail)
    rw [← hA5]
    clear hA5 s0 s1 hg
    gi_wp2_with fail
    refine ⟨trivial,CallsIn.inRound l (callsIn_wide.2 ((HDI.out).mono ?_))⟩
    rintro e A6 ⟨hb6,rfl,nc3,h31,h32⟩
    obtain ⟨d,hd⟩ := exq (Mt.dist t n m)
    rw [← hd]
    have HTK := hid (hits_take (f := Mt.dist t n) (b := bd) (id := en.id) HMN.out)
    rw [← hd] at HTK
    clear hd
    obtain ⟨om5,hom5,hoc5⟩ := HIX5.out.map
    have HIX6 := hid (HIX5.out.now hb6 h32)
    have kx6 := blk_but HKX5.out hb6 hom5 hoc5
    have ke6 := blk_but (HKE.out.below HB5.out) hb6 hom5 hoc5
    have kb6 := blk_but (HBO.out.below HB5.out) hb6 hom5 hoc5
    have HRO6 := hid (owns_but (ownsRow_below HRO.out HB5.out) hb6 hom5 hoc5)
    have HKS := hid (And.intro kb6 ke6)
    have HBU6 := hid (HBU.out.trans (((But.of_below HB5.out cb).mono HBU.out.size).trans (hb6.mono (Nat.le_trans HBU.out.size HB5.out.size))))
    have HRD6 := hid (HRD.out.trans ((Rd.of_but (But.of_below HB5.out cb)).trans (Rd.of_but hb6)))
    have HC6 := hid h32
    have HN6 := hid (show nc3 ≤ nc1 + 36 * (i + 1) by
     have h1 : n.words.length * m.words.length ≤ 6 * 6 := Nat.mul_le_mul HFW.out.2.1 HMF.out.2.1
     have h2 := HCO.out.1
     omega)
    have hLN : (pre ++ Idx.hitsN (Mt.dist t n) bd en.id 0 (en.names.take i)).length ≤ 4000 := by
     have h1 := Idx.hits_len (Mt.dist t n) bd (m := 8) (done.map Prod.fst) (fun e he => by
      obtain ⟨p,hp,rfl⟩ := List.mem_map.1 he
      have hp2 : p ∈ P := Idx.sortE_mem.1 (by rw [HDN.out]; exact List.mem_append_left _ hp)
      exact (Li.proper_few (HI2.out.ix.ok.prop p.1 (List.mem_map_of_mem hp2))).1)
     have h2 := Idx.hitsN_len (Mt.dist t n) bd en.id (en.names.take i) 0
     have h3 := congrArg List.length HDN.out
     rw [Idx.sortE_len,List.length_append,List.length_cons] at h3
     have h4 := HI2.out.ix.ok.few
     rw [List.length_map] at h4
     have h5 := HPF.out.1
     rw [List.length_take] at h2
     rw [← HPRE.out,List.length_map] at h1
     rw [List.length_append]
     omega
    have x0 := kx6.cell (j := 0) rfl
    have xz := kx6.lt
    have c6 := HIX6.out.ix.box.cell (j := 6) rfl
    have cz := HIX6.out.ix.box.lt
    clear hom5 hoc5 hb6 h31 h32 kx6 n0 n1 nz m0 m1 mz
    by_cases hle : d ≤ bd
    ·have HL1 := hid hle
     have o0 := kb6.cell (j := 0) rfl
     have of := kb6.frozen 0
     have oz := kb6.lt
     have e0 := ke6.cell (j := 0) rfl
     have ez := ke6.lt
     obtain ⟨H,hH⟩ := exq (pre ++ Idx.hitsN (Mt.dist t n) bd en.id 0 (en.names.take i))
     have HH := hid hH
     rw [← hH] at hLN HRO6
     have hown1 := HRO6.out.alloc (.cells #[.string (bs en.id),.int .i64 i,.int .i64 d] 56)
     have HOW := hid hown1
     have HQ2 := hid (show q + 1 ≤ A6.heap.size by have := kb6.lt; omega)
     clear hH kb6 ke6
     gi_wp2_with (gi_at_builtin; refine wpListIn_append_lies _ rfl _ _ 42 rfl (q + 1) 56 i0 (.agg #[.string ⟨#[]⟩,.int .i64 0,.int .i64 0]) 3 32 Tryz.underlying42 hi0 hz0 hz1 hz2 rfl (by decide) _ _ _ rfl hown1 ⟨A6.heap.size,0,none⟩ 1 1 [.string (bs en.id),.int .i64 i,.int .i64 d] rfl rfl (cells_new rfl) (fun x hx => by simp at hx; rcases hx with rfl | rfl | rfl <;> rfl) (by decide) ?c3 ?c4 ?c5 ?_)
     case c3 => unfold maxLen; omega
     case c4 => omega
     case c5 => have := HQ2.out; simp; omega
     intro g5 c5 w5 hown5 hgr5 hat5
     have hq5 := ((HKS.out.1.below ((Below.refl _ A6).alloc (Nat.le_refl _) (.cells #[.string (bs en.id),.int .i64 i,.int .i64 d] 56))).kept hgr5 (fun e' => own_ne HOW.out (Nat.lt_succ_self q) e'.symm))
     have he5 := blk_other (HKS.out.2.below ((Below.refl _ A6).alloc (Nat.le_refl _) (.cells #[.string (bs en.id),.int .i64 i,.int .i64 d] 56))) HOW.out hgr5 (by decide)
     have HC5 := hid ((HC6.out.below ((Below.refl _ A6).alloc (Nat.le_refl _) (.cells #[.string (bs en.id),.int .i64 i,.int .i64 d] 56))).kept hgr5 (own_ne HOW.out (show cb < q + 1 by have := HC2.out.2; have := HQ.out; omega)))
     have HBU5 := hid ((HBU6.out.alloc_ (by have := HQ2.out; have := HQ.out; omega) (.cells #[.string (bs en.id),.int .i64 i,.int .i64 d] 56)).app_ hgr5 (by have := HQ2.out; have := HQ.out; simp; omega) (ownsRow_base HOW.out (by have := HQ.out; omega)))
     have HRD5 := hid ((HRD6.out.trans (Rd.of_but (But.of_below ((Below.refl _ A6).alloc (Nat.le_refl _) (.cells #[.string (bs en.id),.int .i64 i,.int .i64 d] 56)) cb))).trans (Rd.app hgr5 HOW.out))
     have HQ5 := hid (And.intro hq5 he5)
     have HO5 := hid hown5
     have o0 := hq5.cell (j := 0) rfl
     have of := hq5.frozen 0
     have oz := hq5.lt
     obtain ⟨a5,ha5⟩ : ∃ a5 : Option Addr,a5 = some ⟨g5,0,none⟩ := ⟨_,rfl⟩
     rw [← ha5] at HO5
     rw [← ha5]
     clear ha5 hown5 hgr5 hat5 hq5 he5 hown1
     gi_wp2_with fail
     go_roundw
     case rel =>
      have htk := HTK.out
      rw [if_pos HL1.out] at htk
      refine ⟨i + 1,_,nc3,by omega,by go_num,⟨_,_,_,rfl⟩,hid (HQ5.out.1.set 0 _),hid ?_,⟨HN6.out,HC5.out.kept (set_grown w5 q _) (fun e => by cases e; have := HC2.out.2; have := HQ.out; omega)⟩,HBU5.out.trans (But.of_below ((Below.refl _ w5).setCell (p := ⟨q,0,none⟩) (by have := HQ.out; show W2.heap.size ≤ q; omega) _) cb),hid (HQ5.out.2.other (by have := HAL.out; have := HQ.out; omega) _),HRD5.out.trans (Rd.set 0 _)⟩
      rw [htk,← List.append_assoc,← HH.out,List.flatMap_append,List.length_append]
      exact ownsRow_setCell_below HO5.out (a := ⟨q,0,none⟩) (Nat.lt_succ_self q) _
     case measure => simp [RowKit.intOf]; omega
    ·have HL1 := hid hle
     have hlt' : ¬ d ≤ bd := hle
     clear kb6 ke6
     gi_wp2_with fail
     go_roundw
     case rel =>
      have htk := HTK.out
      rw [if_neg (by have := HL1.out; omega),List.append_nil] at htk
      exact ⟨i + 1,_,nc3,by omega,by go_num,⟨_,_,_,rfl⟩,HKS.out.1,hid (by rw [htk]; exact HRO6.out),⟨HN6.out,HC6.out⟩,HBU6.out,HKS.out.2,HRD6.out⟩
     case measure => simp [RowKit.intOf]; omega
   ·have hie : i = E := by omega
    have hil : ¬ (i : Int) < (E : Int) := by omega
    have HIE := hid hie
    clear hie
    gi_wp2_with fail
    have hcm := HS3.out.2.2.1.map
    refine ⟨HRD.out.keeps (by have := HZ4.out; have := HQ.out; omega) (by have := HZ4.out; have := HC2.out.2; omega),HRD.out.ck hcm (fun _ => ⟨nc2,HI2.out.now HBU.out HCO.out.2⟩),⟨done ++ [(en,.slice va en.names.length vc)],b',.slice ha hl' hc,nc2,rfl,?_,⟨_,_,_,rfl⟩,?_,?_,?_,HCO.out.2⟩,HBU.out⟩
    ·rw [HDN.out,List.append_assoc]
     rfl
    ·rw [← HQ.out]
     exact HBO.out
    ·have := HRO.out
     rw [List.take_of_length_le (by rw [HIE.out,HE.out]; exact Nat.le_refl _)] at this
     rw [List.map_append,List.map_cons,List.map_nil,Idx.hits_snoc,← HPRE.out,← HQ.out]
     exact this
    ·have h1 := HCO.out.1
     have h2 := HN1.out
     rw [List.length_append,List.length_singleton]
     have h3 := HIE.out
     omega
end Go.Proofs.YtdghfenbfbdijaaGreatDoor
namespace Go.Proofs.YtdghfenbfbdijaaGreatDoor
open Go.RowKit Go.Lib Go.Maps
attribute [local go_sem] Oper.semAt_some
theorem Tryz.infoEntry : (Tryz.prog.info? 40).map (fun i => (i.zero,i.size,i.bytes)) = some (some (.agg #[.string ⟨#[]⟩,.slice none 0 0]),2,40) := by kernel_rfl
section
variable {B : Nat} {v : Value} {qs : List (Li.Nm × Value)} {w w' : World} {p : Li.En × Value}
theorem CpN.slice (h : CpN B v qs w) : ∃ a c,v = .slice a qs.length c := ownsRow_slice h.own
theorem CpN.sl (h : CpN B v qs w) : NmSl w v (qs.map Prod.fst) := ⟨qs,rfl,SlOf.own h.own (fun _ _ => rfl),fun q hq => SlOf.own (h.ws q hq) (fun _ _ => rfl)⟩
theorem CpN.but {m : Nat} {o : Obj} (h : CpN B v qs w) (hb : But w.heap.size m w w') (hm : w.heap[m]? = some o) (hc : o.isCells = false) : CpN B v qs w' := ⟨owns_but h.own hb hm hc,fun q hq => owns_but (h.ws q hq) hb hm hc⟩
theorem CpN.app {B2 z n : Nat} {u : Value} {ys : List Value} (h : CpN B v qs w) (g : w.ownsRow B2 40 z u n ys) (hg : w.grownBy w' u.ownBlock) : CpN B v qs w' := ⟨owns_other h.own g hg (by decide),fun q hq => owns_other (h.ws q hq) g hg (by decide)⟩
theorem CpN.set {l o : Nat} {u : Value} (h : CpN B v qs w) (hl : l < B) : CpN B v qs (w.setCell ⟨l,o,none⟩ u) := ⟨ownsRow_setCell_below h.own (a := ⟨l,o,none⟩) hl _,fun q hq => ownsRow_setCell_below (h.ws q hq) (a := ⟨l,o,none⟩) hl _⟩
def EnO (B : Nat) (A : World) (p : Li.En × Value) : Prop := ∃ qs,qs.map Prod.fst = p.1.names ∧ CpN B p.2 qs A
theorem EnO.below (h : EnO B w p) (hb : Below w.heap.size w w') : EnO B w' p := by obtain ⟨qs,h1,h2⟩ := h; exact ⟨qs,h1,h2.below hb⟩
theorem EnO.mono {B' : Nat} (h : EnO B w p) (hb : B' ≤ B) : EnO B' w p := by obtain ⟨qs,h1,h2⟩ := h; exact ⟨qs,h1,h2.mono hb⟩
theorem EnO.but {m : Nat} {o : Obj} (h : EnO B w p) (hb : But w.heap.size m w w') (hm : w.heap[m]? = some o) (hc : o.isCells = false) : EnO B w' p := by obtain ⟨qs,h1,h2⟩ := h; exact ⟨qs,h1,h2.but hb hm hc⟩
theorem EnO.app {B2 z n : Nat} {u : Value} {ys : List Value} (h : EnO B w p) (g : w.ownsRow B2 40 z u n ys) (hg : w.grownBy w' u.ownBlock) : EnO B w' p := by obtain ⟨qs,h1,h2⟩ := h; exact ⟨qs,h1,h2.app g hg⟩
theorem EnO.set {l o : Nat} {u : Value} (h : EnO B w p) (hl : l < B) : EnO B (w.setCell ⟨l,o,none⟩ u) p := by obtain ⟨qs,h1,h2⟩ := h; exact ⟨qs,h1,h2.set hl⟩
end
def EntsO (P : List (Li.En × Value)) (W : World) (e : Ending) (W' : World) : Prop :=
 Below W.heap.size W W' ∧ ∃ (v : Value) (ps : List (Li.En × Value)),e = .returned v ∧ ps.map Prod.fst = (Idx.sortE P).map Prod.fst ∧ W'.ownsRow W.heap.size 40 2 v ps.length (ps.flatMap enC) ∧ ∀ p ∈ ps,EnO W.heap.size W' p
structure EnJ (q : Nat) (W : World) (P : List (Li.En × Value)) (b : List (Li.En × Value)) (A : World) : Prop where
 ex : ∃ (done rest : List (Li.En × Value)) (v : Value) (ps : List (Li.En × Value)),b = allV rest ∧ Idx.sortE P = done ++ rest ∧ (∃ a l c,v = .slice a l c) ∧ ps.map Prod.fst = done.map Prod.fst ∧ Blk A q 26 [v] ∧
  A.ownsRow (q + 1) 40 2 v ps.length (ps.flatMap enC) ∧ ∀ p ∈ ps,EnO (q + 1) A p
 below : Below q W A
theorem enJ_stays (q : Nat) (W : World) (P : List (Li.En × Value)) (B : Nat) (hB : q ≤ B) (hq : q ≤ W.heap.size) : Stays B none (EnJ q W P) := by
 rintro b A A' row ⟨⟨done,rest,v,ps,h1,h2,h3,h4,h5,h6,h7⟩,g⟩ hg hr
 have hr' : ∀ r,row = some r → B ≤ r ∧ ∃ o : Obj,A.heap[r]? = some o ∧ o.isCells = false := fun r e => by
  rcases hr r e with h | h
  ·cases h
  ·exact h
 have hr2 : ∀ r,row = some r → ∃ o : Obj,A.heap[r]? = some o ∧ o.isCells = false := fun r e => (hr' r e).2
 refine ⟨⟨done,rest,v,ps,h1,h2,h3,h4,h5.rec_ hg hr2,owns_rec h6 hg hr2,fun p hp => ?_⟩,g.grown hg (Nat.le_trans hq g.size) (fun k hk => by have := (hr' k hk).1; omega)⟩
 cases row with
 | none => exact (h7 p hp).below ((Below.refl _ A).grown hg (Nat.le_refl _) (fun k hk => by cases hk))
 | some r =>
  obtain ⟨o,ho,hc⟩ := hr2 r rfl
  exact (h7 p hp).but (But.of_grown hg (fun r' e => (Option.some.inj e).symm)) ho hc
set_option maxRecDepth 100000 in
set_option maxHeartbeats 8000000 in
theorem entries_own (px eb cb : Nat) (t : Rw.Table) (vr vd ve : Value) (bd : Int) (Q : Nat → Prop) (P : List (Li.En × Value)) (nc : Nat) (W : World) (h : IxT W px eb cb t vr vd ve bd Q P nc) :
  Calls Tryz.prog 22 #[.pointer (some ⟨px,0,none⟩)] W (EntsO P W) := by
 obtain ⟨i0,hi0,hz0,hz1,hz2⟩ := info_parts Tryz.infoEntry
 have HI0 := hid h
 clear h
 refine (callsIn_wide (n := 9)).1 ?_
 refine callsIn_of_wp_marks Tryz.func22 rfl trivial ?_ rfl
 simp only [Tryz.ntmps22,List.size_toArray,List.length_cons,List.length_nil,Nat.reduceAdd,Nat.reduceSub,Array.replicate_succ,Array.replicate_zero,List.push_toArray,List.append_toArray,List.nil_append,List.cons_append]
 refine wpIn_wide.2 ?_
 obtain ⟨W3,hW3⟩ := exq (W.alloc (.cells #[.slice none 0 0] 26))
 have hb3 := bnew hW3
 have hk3 : Blk W3 W.heap.size 26 [.slice none 0 0] := by rw [hW3]; exact Blk.new _ _ _
 have HZ3 := hid (show W3.heap.size = W.heap.size + 1 by rw [hW3,World.size_alloc])
 have HB3 := hid hb3
 have HK3 := hid hk3
 have HMK := hid (all_mk (some ⟨px,0,none⟩) W3)
 clear hb3 hk3
 go_upto_region 2 with (fail)
 rw [← hW3]
 clear hW3
 go_wp2_with fail
 refine (HMK.out).mono ?_
 rintro e W4 ⟨rfl,hW4⟩
 have hb4 := bnew hW4
 have HZ4 := hid (show W4.heap.size = W.heap.size + 2 by rw [hW4,World.size_alloc,HZ3.out])
 have HKB := hid (show Blk W4 W3.heap.size 31 [.pointer (some ⟨px,0,none⟩)] by rw [hW4]; exact Blk.new _ _ _)
 have HI4 := hid ((HI0.out.below HB3.out).below hb4)
 have HC0 := hid (show eb < W.heap.size ∧ cb < W.heap.size by
  obtain ⟨o,e1,-⟩ := HI0.out.map
  exact ⟨HI0.out.ix.ents.lt,(Array.getElem?_eq_some_iff.1 e1).1⟩)
 have HF4 := hid (show EnJ W.heap.size W P (allV (Idx.sortE P)) W4 from ⟨⟨[],Idx.sortE P,.slice none 0 0,[],rfl,rfl,⟨_,_,_,rfl⟩,rfl,HK3.out.below hb4,World.ownsRow_nil _ _ _ _,(fun p hp => by cases hp)⟩,Below.step HB3.out hb4⟩)
 clear hW4 hb4 HMK
 go_wp2_with fail
 refine (wpIn_wide (n := 9)).1 (wp_iter (own := none) rfl (by omega) (gf := 62) (lb := #[.pointer (some ⟨W3.heap.size,0,none⟩)]) rfl trivial (enters_of Tryz.func62 (by kernel_rfl) rfl)
  (all_iter W.heap.size (W.heap.size + 1) W3.heap.size (fun e => e = 40) px eb cb t vr vd ve bd Q P (.inr ⟨by rw [HZ3.out]; exact Nat.le_refl _,by decide⟩) (by decide) 8 (by omega)) (allV (Idx.sortE P)) (fun r e => by cases e)
  (fun A hA => ⟨rfl,HKB.out.below hA,by have := hA.size; have := HZ4.out; omega,nc,HI4.out.below hA⟩) (fun b vals b' h => ?ps) (fun h1 h2 => h1.trans h2)
  (fun A l o o' hl hlo ho => CK.record hlo ho (fun ⟨nc',hm⟩ => ⟨nc',hm.rec_ (grownBy_putObj' A l o') hlo ho (by have := HC0.out; have := HZ4.out; omega) (by have := HC0.out; have := HZ4.out; omega)⟩))
  (EnJ W.heap.size W P) (fun _ _ _ => False) ?hI ?hIx ?h0 ?hround ?hdone ?hstop)
 case ps =>
  cases b with
  | nil => cases h
  | cons v l =>
   cases h
   rfl
 case hI => exact enJ_stays W.heap.size W P _ (by have := HZ4.out; omega) (Nat.le_refl _)
 case hIx => intro c b A A' row h; exact h.elim
 case h0 => exact HF4.out
 case hstop => intro D c b A hD hx; exact hx.elim
 case hdone =>
  intro D b A hD hnx hi hK
  obtain ⟨⟨done,rest,v,ps,h1,h2,⟨oa,ol,oc,rfl⟩,h4,h5,h6,h7⟩,hbut⟩ := hi
  have hrest : rest = [] := by
   cases rest with
   | nil => rfl
   | cons w l => rw [h1] at hnx; cases hnx
  subst hrest
  rw [List.append_nil] at h2
  have HDN := hid h2
  have HK := hid hK
  have HO := hid (And.intro h4 (And.intro h6 h7))
  have HBU := hid hbut
  have HDL := hid hD
  have p0 := h5.cell (j := 0) rfl
  have pz := h5.lt
  clear h1 h2 h4 h5 h6 h7 hnx hbut hD hK
  go_wp2_with fail
  refine ⟨by simp,.inl ⟨_,_,rfl,run_takeDeferred HK.out,_,results_tmp rfl _ _ _,?_⟩⟩
  have hrec := grownBy_putObj' A D (.deferred none)
  have hr2 : ∀ r,(some D : Option Nat) = some r → ∃ o : Obj,A.heap[r]? = some o ∧ o.isCells = false := fun r e => by cases e; exact ⟨_,HK.out,rfl⟩
  have hz4 := HZ4.out
  have hdl := HDL.out
  refine ⟨HBU.out.grown hrec HBU.out.size (fun k hk => by cases hk; omega),_,ps,rfl,by rw [HO.out.1,HDN.out],owns_rec (ownsRow_to HO.out.2.1 (Nat.le_succ _)) hrec hr2,fun p hp => ?_⟩
  exact ((HO.out.2.2 p hp).mono (Nat.le_succ _)).but (But.of_grown hrec (fun r e => (Option.some.inj e).symm)) HK.out rfl
 case hround =>
  intro l b vals b' A hl hlo hnx hi
  cases b with
  | nil => cases hnx
  | cons p b =>
  cases hnx
  obtain ⟨⟨done,rest,v,ps,h1,h2,⟨oa,ol,oc,rfl⟩,h4,h5,h6,h7⟩,hbl⟩ := hi
  have h1' : p :: b' = rest := h1
  subst h1'
  have hmem : p ∈ P := Idx.sortE_mem.1 (by rw [h2]; exact List.mem_append_right _ List.mem_cons_self)
  have hpr := HI0.out.ix.ok.prop p.1 (List.mem_map_of_mem hmem)
  have hnm := HI0.out.ix.names p hmem
  obtain ⟨va,vc,hv⟩ := hnm.slice
  obtain ⟨en,pv⟩ := p
  dsimp only at hv
  subst hv
  have HNM := hid hnm
  have HPF := hid (Li.proper_few hpr)
  have HDN := hid h2
  have HLO := hid hlo
  unfold enV
  dsimp only
  gi_wp2_with fail
  obtain ⟨A2,hA2⟩ := exq (A.alloc (.cells #[.string (bs en.id),.slice va en.names.length vc] 40))
  rw [← hA2]
  have hbA := bnew hA2
  have hk2 : Blk A2 A.heap.size 40 [.string (bs en.id),.slice va en.names.length vc] := by rw [hA2]; exact Blk.new A _ _
  clear hA2
  refine ⟨⟨hbA.size,fun q o hq ho hn => (hbA.block q (Array.getElem?_eq_some_iff.1 ho).1).trans ho⟩,⟨hbA.size,fun q cs e fr _ h => (hbA.block q (Array.getElem?_eq_some_iff.1 h).1).trans h,fun ⟨nc',hm⟩ => ⟨nc',hm.below hbA⟩⟩,fun A3 hg3 => ?_⟩
  obtain ⟨olb,hol,hoc⟩ := HLO.out
  have hol2 := (hbA.block l (Array.getElem?_eq_some_iff.1 hol).1).trans hol
  have hr2 : ∀ r,(some l : Option Nat) = some r → ∃ o : Obj,A2.heap[r]? = some o ∧ o.isCells = false := fun r e => by cases e; exact ⟨_,hol2,hoc⟩
  have HAL := hid (show W.heap.size + 2 ≤ A.heap.size by have := HZ4.out; have := (Array.getElem?_eq_some_iff.1 hol).1; omega)
  have HNQ := hid (ownsRow_lt h6 (Nat.le_refl A.heap.size))
  have hk3 := hk2.rec_ hg3 hr2
  have h43 := (h5.below hbA).rec_ hg3 hr2
  have h63 := owns_rec (ownsRow_below h6 hbA) hg3 hr2
  have h73 : ∀ p ∈ ps,EnO (W.heap.size + 1) A3 p := fun p hp => ((h7 p hp).below hbA).but (But.of_grown hg3 (fun r' e => (Option.some.inj e).symm)) hol2 hoc
  have hb3 : Below W.heap.size W A3 := (hbl.trans (hbA.mono hbl.size)).grown hg3 (Nat.le_trans hbl.size hbA.size) (fun k hk => by cases hk; have := HZ4.out; omega)
  obtain ⟨qe,hqe⟩ := exq (A.heap.size)
  rw [← hqe] at hk3 HAL HNQ ⊢
  obtain ⟨q,hq⟩ := exq (W.heap.size)
  have HQ := hid hq
  have HS3 := hid (And.intro h43 (And.intro h63 (And.intro h73 hb3)))
  have HKE := hid hk3
  have HPS := hid h4
  have hpl : ps.length ≤ 400 := by
   have e1 := congrArg List.length h4
   have e2 := congrArg List.length h2
   rw [List.length_map,List.length_map] at e1
   rw [Idx.sortE_len,List.length_append,List.length_cons] at e2
   have e3 := HI0.out.ix.ok.few
   rw [List.length_map] at e3
   omega
  have HCP := hid (clone_own en.id en.names (.slice va en.names.length vc) A3.drew (((HNM.out.below hb3).below (Below.refl _ A3).drew).sl) (by have := HPF.out.1; omega) (fun n hn => by have := (Li.nm_few (HPF.out.2 n hn)).2.1; omega))
  have c0 : A3.cell? ⟨q,0,none⟩ = some (.slice oa ol oc) ∧ A3.cell? ⟨qe,0,none⟩ = some (.string (bs en.id)) ∧ A3.cell? ⟨qe,1,none⟩ = some (.slice va en.names.length vc) := by
   rw [hq]
   exact ⟨h43.cell (j := 0) rfl,hk3.cell (j := 0) rfl,hk3.cell (j := 1) rfl⟩
  have zz : q < A3.heap.size ∧ qe < A3.heap.size := by rw [hq]; exact ⟨h43.lt,hk3.lt⟩
  have hqq : q + 2 ≤ qe := by rw [hq]; exact HAL.out
  have H0 := hid c0
  have HZZ := hid (And.intro zz hqq)
  rw [← hq] at HS3 ⊢
  clear h1 h2 h4 h5 h6 h7 hbl hlo hbA hk2 hg3 hol hoc hol2 hr2 hk3 h43 h63 h73 hb3 hqe hq hmem hpr hnm
  gi_upto_region 4 with (fail)
  refine round_heldS (S := HeldC 5 (fun X => X.cell? ⟨q,0,none⟩ = some (.slice oa ol oc) ∧ X.cell? ⟨qe,0,none⟩ = some (.string (bs en.id)) ∧ X.cell? ⟨qe,1,none⟩ = some (.slice va en.names.length vc)) (fun b => b = q ∨ (Value.slice oa ol oc).ownBlock = some b) A3) (by kernel_rfl) (by kernel_rfl) (fun ⟨_,_,h⟩ => h) ?_
  simp only [List.size_toArray,List.length_cons,List.length_nil,Nat.reduceAdd]
  intro hc
  have S0 : HeldC 5 (fun X => X.cell? ⟨q,0,none⟩ = some (.slice oa ol oc) ∧ X.cell? ⟨qe,0,none⟩ = some (.string (bs en.id)) ∧ X.cell? ⟨qe,1,none⟩ = some (.slice va en.names.length vc)) (fun b => b = q ∨ (Value.slice oa ol oc).ownBlock = some b) A3 (Array.replicate 6 false) A3.drew := ⟨.inr H0.out,(Tch.refl _ A3).step (Below.refl _ _).drew⟩
  refine tkI (i := 0) (v := .slice oa ol oc) rfl hc (fun wx hx => ?_) S0 (fun hc S0 => ?_) (hSi := fun _ _ => HeldC.set_ (by decide) _ _)
  ·have y := (hx.cee (n := 12) (by kernel_rfl)).1
   go_simp
  try simp only [tk1,tk3,Act.put,tk4,tk5,tk6]
  refine tkI (i := 1) (v := .agg #[.string (bs en.id),.slice va en.names.length vc]) rfl hc (fun wx hx => ?_) S0 (fun hc S0 => ?_) (hSi := fun _ _ => HeldC.set_ (by decide) _ _)
  ·have y := (hx.cee (n := 12) (by kernel_rfl)).2.1; have y2 := (hx.cee (n := 12) (by kernel_rfl)).2.2
   go_simp
  try simp only [tk1,tk2,tk3,Act.put,tk4,tk5,tk6]
  refine onI (i := 2) rfl hc (fun K' hK => ?_)
  go_simp
  refine (HCP.out).mono ?_
  rintro e2 w2 ⟨vn,qs2,rfl,hq1,hq2,hb2⟩
  have hb3 : Below A3.heap.size A3 w2 := Below.step (Below.refl _ A3).drew hb2
  have e3 : w2.cell? ⟨q,0,none⟩ = some (.slice oa ol oc) ∧ w2.cell? ⟨qe,0,none⟩ = some (.string (bs en.id)) ∧ w2.cell? ⟨qe,1,none⟩ = some (.slice va en.names.length vc) :=
   ⟨(hb3.cell (p := ⟨q,0,none⟩) HZZ.out.1.1).trans H0.out.1,(hb3.cell (p := ⟨qe,0,none⟩) HZZ.out.1.2).trans H0.out.2.1,(hb3.cell (p := ⟨qe,1,none⟩) HZZ.out.1.2).trans H0.out.2.2⟩
  refine hK.out _ _ ⟨.inr e3,Tch.of_below hb3 _⟩ (fun hc => ?_)
  clear hK K'
  try simp only [tk1,tk2,tk3,Act.put,tk4,tk5,tk6]
  obtain ⟨a3,c3,hv3⟩ := hq2.slice
  rw [show qs2.length = en.names.length by rw [← hq1,List.length_map]] at hv3
  subst hv3
  refine onI (i := 3) rfl hc (fun K' hK => ?_)
  go_simp
  have hb8 : Below A3.heap.size A3 (w2.alloc (.cells #[.string (bs en.id),.slice a3 en.names.length c3] 40)) := Below.step hb3 ((Below.refl _ w2).alloc (Nat.le_refl _) _)
  have e8 : (w2.alloc (.cells #[.string (bs en.id),.slice a3 en.names.length c3] 40)).cell? ⟨q,0,none⟩ = some (.slice oa ol oc) ∧ (w2.alloc (.cells #[.string (bs en.id),.slice a3 en.names.length c3] 40)).cell? ⟨qe,0,none⟩ = some (.string (bs en.id)) ∧ (w2.alloc (.cells #[.string (bs en.id),.slice a3 en.names.length c3] 40)).cell? ⟨qe,1,none⟩ = some (.slice va en.names.length vc) :=
   ⟨(hb8.cell (p := ⟨q,0,none⟩) HZZ.out.1.1).trans H0.out.1,(hb8.cell (p := ⟨qe,0,none⟩) HZZ.out.1.2).trans H0.out.2.1,(hb8.cell (p := ⟨qe,1,none⟩) HZZ.out.1.2).trans H0.out.2.2⟩
  refine hK.out _ _ ⟨.inr e8,Tch.of_below hb8 _⟩ (fun hc => ?_)
  clear hK K'
  try simp only [tk1,tk2,tk3,Act.put,tk4,tk5,tk6]
  have hown1 := ownsRow_below HS3.out.2.1 hb8
  have hs2 : A3.heap.size ≤ w2.heap.size := hb3.size
  have hqlt := HZZ.out.1.1
  refine wpAnyS_law (i := 4) rfl (by kernel_rfl) hc (fun K' hK => ?_)
  refine step_append_lies _ rfl _ _ 26 rfl (q + 1) 40 i0 (.agg #[.string ⟨#[]⟩,.slice none 0 0]) 2 40 Tryz.underlying26 hi0 hz0 hz1 hz2 rfl (by decide) _ _ _ rfl hown1 ⟨w2.heap.size,0,none⟩ 1 1 [.string (bs en.id),.slice a3 en.names.length c3] rfl rfl (cells_new rfl) (by intro x hx; simp at hx; rcases hx with rfl | rfl <;> rfl) (by decide) (by unfold maxLen; omega) (by omega) (by simp; omega) (w2.heap.size + 1) (by simp) ?_
  intro g cap' w4 hown4 hgr4 hat hlt4
  have hq4 : Blk w4 q 26 [.slice oa ol oc] := (HS3.out.1.below hb8).kept hgr4 (fun e' => own_ne HS3.out.2.1 (Nat.lt_succ_self q) e'.symm)
  have he4 : Blk w4 qe 40 [.string (bs en.id),.slice va en.names.length vc] := (HKE.out.below hb8).kept hgr4 (fun e' => HNQ.out e'.symm)
  have hT4 : Tch (fun b => b = q ∨ (Value.slice oa ol oc).ownBlock = some b) A3 w4 := (Tch.of_below hb8 _).grown hgr4 (fun r e => .inl (.inr e))
  refine hK.out _ _ ⟨.inr ⟨hq4.cell (j := 0) rfl,he4.cell (j := 0) rfl,he4.cell (j := 1) rfl⟩,hT4⟩ (fun hc => ?_)
  clear hK K'
  try simp only [tk1,tk2,tk3,Act.put,tk4,tk5,tk6]
  have r0 := hq4.cell (j := 0) rfl
  have rf := hq4.frozen 0
  have rz := hq4.lt
  refine onI (i := 5) rfl hc (fun K' hK => ?_)
  go_simp
  refine hK.out _ _ ⟨.inl rfl,hT4.setCell (a := ⟨q,0,none⟩) (.inl (.inl rfl)) _⟩ (fun hc => ?_)
  clear hK K'
  try simp only [tk1,tk2,tk3,Act.put,tk4,tk5,tk6]
  refine wpAnyS_done (by kernel_rfl) ?_ _
  clear hc S0 r0 rf rz e8 e3
  obtain ⟨X8,hX8⟩ := exq (w2.alloc (.cells #[.string (bs en.id),.slice a3 en.names.length c3] 40))
  have HX8 := hid (show X8.heap.size = w2.heap.size + 1 by rw [hX8,World.size_alloc])
  have hbn := bnew hX8
  rw [← hX8] at hb8 hgr4 hown1
  clear hX8
  have HG4 := hid (And.intro hgr4 (And.intro hown1 (And.intro hat hown4)))
  have HB8 := hid (And.intro hb8 (And.intro hbn hb3))
  have HQ4 := hid hq4
  have HQ2 := hid (And.intro hq1 hq2)
  obtain ⟨W9,hW9⟩ := exq (w4.setCell ⟨q,0,none⟩ (.slice (some ⟨g,0,none⟩) (ps.length + 1) cap'))
  rw [← hW9]
  have HW9 := hid hW9
  clear hgr4 hown1 hat hown4 hb8 hbn hb3 hq4 he4 hT4 hq1 hq2 hb2 hW9 hs2 hlt4
  gi_wp2_with fail
  have hgr4 := HG4.out.1
  have hown1 := HG4.out.2.1
  have hb8 := HB8.out.1
  have hq := HQ.out
  have hRd : Rd 40 q cb A3 W9 := by
   rw [HW9.out]
   exact (Rd.of_but (But.of_below hb8 cb)).trans ((Rd.app hgr4 hown1).trans (Rd.set 0 _))
  have hbw : Below q W W9 := by
   rw [HW9.out]
   exact (((HS3.out.2.2.2.trans (hb8.mono (by omega))).grown hgr4 (by have := hb8.size; omega) (fun k hk => Nat.le_of_not_lt fun hlt => own_ne hown1 (show k < q + 1 by omega) hk.symm)).setCell (p := ⟨q,0,none⟩) (Nat.le_refl _) _)
  have hbA : Below W.heap.size W A3 := by rw [← hq]; exact HS3.out.2.2.2
  have hbW : Below W.heap.size W W9 := by rw [← hq]; exact hbw
  refine ⟨hRd.keeps (by have := HZ4.out; omega) (by have := HZ4.out; have := HC0.out; omega),?_,⟨⟨done ++ [(en,.slice va en.names.length vc)],b',.slice (some ⟨g,0,none⟩) (ps.length + 1) cap',ps ++ [(en,.slice a3 en.names.length c3)],rfl,?_,⟨_,_,_,rfl⟩,?_,?_,?_,fun p hp => ?_⟩,hbw⟩⟩
  ·exact hRd.ck (HI0.out.below hbA).map (fun _ => ⟨nc,HI0.out.below hbW⟩)
  ·rw [HDN.out,List.append_assoc]
   rfl
  ·rw [List.map_append,HPS.out,List.map_append]
   rfl
  ·rw [HW9.out]
   exact HQ4.out.set 0 _
  ·rw [HW9.out,List.flatMap_append,List.length_append]
   exact ownsRow_setCell_below HG4.out.2.2.2 (a := ⟨q,0,none⟩) (Nat.lt_succ_self q) _
  ·have key : ∀ p : Li.En × Value,EnO (q + 1) X8 p → EnO (q + 1) W9 p := fun p h => by
    rw [HW9.out]
    exact (h.app hown1 hgr4).set (Nat.lt_succ_self q)
   rcases List.mem_append.1 hp with hp | hp
   ·exact key p ((HS3.out.2.2.1 p hp).below hb8)
   ·rw [List.mem_singleton.1 hp]
    exact key (en,.slice a3 en.names.length c3) ⟨qs2,HQ2.out.1,(HQ2.out.2.below HB8.out.2.1).mono (by have := HZZ.out.1.1; show q + 1 ≤ A3.heap.size; omega)⟩
end Go.Proofs.YtdghfenbfbdijaaGreatDoor
