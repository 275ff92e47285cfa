/-
 The law file's head: the examples of the chapter. Conditions: the library's tables.
-/
import Derived.Test.YtdghfenbfbdijaaGreatDoorZMIxA
import Derived.Test.YtdghfenbfbdijaaGreatDoorZMIy
import Derived.Test.YtdghfenbfbdijaaGreatDoorZMIxB
import Derived.Test.YtdghfenbfbdijaaGreatDoorZMBase
namespace Go.Proofs.YtdghfenbfbdijaaGreatDoor
open Go.RowKit Go.Lib Go.Maps
theorem Tryz.infoRule16 : (Tryz.prog.info? 71).map (fun i => (i.zero,i.size,i.bytes)) = some (some (.agg #[.int .i64 0,.string ⟨#[]⟩,.string ⟨#[]⟩,.int .i64 0]),4,48) := by kernel_rfl
structure TbJ (p : Nat) (W X : World) (k : Nat) (rv : Value) : Prop where
 t : Blk X (p + 2) 25 [rv,.slice (some ⟨p,0,none⟩) 1 1,.slice (some ⟨p + 1,0,none⟩) 1 1,.int .i64 5,.int .i64 1,.int .i64 3]
 d : Blk X p 69 [.int .i64 1,.string (bs [97,108]),.int .i64 0]
 e : Blk X (p + 1) 69 [.int .i64 1,.string (bs [107,105]),.int .i64 2]
 own : X.ownsRow (p + 3) 71 4 rv k ((Idx.tab16.rules.take k).flatMap ruleCells)
 below : Below W.heap.size W X
theorem TbJ.step {p : Nat} {W X Y : World} {k : Nat} {rv : Value} (h : TbJ p W X k rv) (hb : Below X.heap.size X Y) : TbJ p W Y k rv :=
 ⟨h.t.below hb,h.d.below hb,h.e.below hb,ownsRow_below h.own hb,Below.step h.below hb⟩
theorem TbJ.app {p : Nat} {W X Y : World} {k m : Nat} {rv v' : Value} {xs : List Value} (h : TbJ p W X k rv) (hp : p = W.heap.size) (hg : X.grownBy Y rv.ownBlock) (ho : Y.ownsRow (p + 3) 71 4 v' (k + m) ((Idx.tab16.rules.take k).flatMap ruleCells ++ xs))
  (hx : (Idx.tab16.rules.take k).flatMap ruleCells ++ xs = (Idx.tab16.rules.take (k + m)).flatMap ruleCells) :
  TbJ p W (Y.setCell ⟨p + 2,0,none⟩ v') (k + m) v' ∧ Y.cell? ⟨p + 2,0,none⟩ = some rv ∧ Y.frozen? ⟨p + 2,0,none⟩ = false ∧ p + 2 < Y.heap.size := by
 have keep : ∀ b,b < p + 3 → rv.ownBlock ≠ some b := fun b hb e => by have := (h.own.lt b e).1; omega
 have hz := h.t.lt
 have ht := h.t.kept hg (keep _ (by omega))
 refine ⟨⟨ht.set 0 v',(h.d.kept hg (keep _ (by omega))).other (by omega) _,(h.e.kept hg (keep _ (by omega))).other (by omega) _,?_,?_⟩,ht.cell rfl,ht.frozen 0,ht.lt⟩
 ·rw [← hx]
  refine ho.kept (grown_set Y (p + 2) 0 v') ?_
  cases hv : v'.ownBlock with
  | none => exact .inl rfl
  | some q =>
   refine .inr fun e => ?_
   cases e
   have := (ho.lt _ hv).1
   omega
 ·exact (h.below.grown hg (by have := h.below.size; omega) (fun b hb => by have := (h.own.lt b hb).1; omega)).setCell (p := ⟨p + 2,0,none⟩) (by show W.heap.size ≤ p + 2; omega) _
theorem anki {k : Nat} (h : k < 4) : ∃ r : Rw.Rule,Idx.tab16.rules[k]? = some r ∧ r.script = 1 ∧ r.cost = 0 ∧ bs r.from_ = (⟨#[97,110,107,105]⟩ : ByteArray).extract k (k + 1) ∧ bs r.to_ = (⟨#[97,110,107,105]⟩ : ByteArray).extract k (k + 1) := by
 have : k = 0 ∨ k = 1 ∨ k = 2 ∨ k = 3 := by omega
 rcases this with rfl | rfl | rfl | rfl
 ·exact ⟨_,rfl,rfl,rfl,rfl,rfl⟩
 ·exact ⟨_,rfl,rfl,rfl,rfl,rfl⟩
 ·exact ⟨_,rfl,rfl,rfl,rfl,rfl⟩
 ·exact ⟨_,rfl,rfl,rfl,rfl,rfl⟩
theorem fits_tab16 : (∀ r ∈ Idx.tab16.rules,RuleFits r) ∧ (∀ d ∈ Idx.tab16.drops,DropFits d) ∧ (∀ d ∈ Idx.tab16.ends,DropFits d) := by
 refine ⟨fun r hr => ?_,fun d hd => ?_,fun d hd => ?_⟩
 ·have : ∀ r ∈ Idx.tab16.rules,((Lit.int .i64 r.script).wf && decide (r.from_.length ≤ 1000) && decide (r.to_.length ≤ 1000)) = true := by decide +kernel
  have := this r hr
  simp only [Bool.and_eq_true,decide_eq_true_eq] at this
  exact ⟨this.1.1,this.1.2,this.2⟩
 ·have : ∀ d ∈ Idx.tab16.drops,((Lit.int .i64 d.script).wf && decide (d.word.length ≤ 1000)) = true := by decide +kernel
  have := this d hd
  simp only [Bool.and_eq_true,decide_eq_true_eq] at this
  exact ⟨this.1,this.2⟩
 ·have : ∀ d ∈ Idx.tab16.ends,((Lit.int .i64 d.script).wf && decide (d.word.length ≤ 1000)) = true := by decide +kernel
  have := this d hd
  simp only [Bool.and_eq_true,decide_eq_true_eq] at this
  exact ⟨this.1,this.2⟩
theorem TbJ.tab {p : Nat} {W X : World} {rv : Value} (h : TbJ p W X 4 rv) : ∃ g c,rv = .slice (some ⟨g,0,none⟩) 4 c ∧ TableAt X Idx.tab16 (.agg #[.slice (some ⟨g,0,none⟩) 4 c,.slice (some ⟨p,0,none⟩) 1 1,.slice (some ⟨p + 1,0,none⟩) 1 1,.int .i64 5,.int .i64 1,.int .i64 3]) := by
 have ho := h.own
 obtain ⟨f1,f2,f3⟩ := fits_tab16
 have hs : SlOf X rv 4 ruleCells Idx.tab16.rules := SlOf.own ho (fun _ _ => rfl)
 obtain ⟨a,c,rfl,h1,h2,h3⟩ := hs
 obtain ⟨g,o,rfl,hr⟩ := h3 (by decide)
 have ho0 : o = 0 := by
  rcases ho.2 with ⟨e,-⟩ | ⟨g',cap,cur,e,-⟩
  ·cases e
  ·cases e; rfl
 subst ho0
 have hd : SlOf X (.slice (some ⟨p,0,none⟩) 1 1) 3 dropCells Idx.tab16.drops := SlOf.block h.d rfl (fun _ _ => rfl) rfl (by decide)
 have he : SlOf X (.slice (some ⟨p + 1,0,none⟩) 1 1) 3 dropCells Idx.tab16.ends := SlOf.block h.e rfl (fun _ _ => rfl) rfl (by decide)
 exact ⟨g,c,rfl,⟨⟨_,_,_,rfl,⟨_,_,rfl,h1,h2,fun _ => ⟨g,0,rfl,hr⟩⟩,hd,he⟩,f1,f2,f3,by decide⟩⟩
theorem sorted_head {P : List (Li.En × Value)} (h : P.map Prod.fst = [Idx.e2,Idx.e1]) (hok : Idx.Ok (P.map Prod.fst)) : (Idx.sortE P).map Prod.fst = [Idx.e1,Idx.e2] := by
 have hn : (P.map fun p => p.1.id).Nodup := by
  have := hok.once
  rwa [List.map_map] at this
 have hl : Idx.e1.id < Idx.e2.id := by decide
 refine Idx.Srt.uniq (Idx.sortE_srt hn) (S' := [Idx.e1,Idx.e2]) ⟨by simp [hl],fun e => Iff.rfl⟩ (fun e => ?_)
 rw [h]
 simp [or_comm]
set_option maxRecDepth 100000 in
set_option maxHeartbeats 16000000 in
theorem head_true (W : World) (hT : Tabs W) : Calls Tryz.prog 10 #[] W (Gives (.bool true) W) := by
 obtain ⟨i0,hi,hz0,hz1,hz2⟩ := info_parts Tryz.infoRule16
 have HT := hid hT
 obtain ⟨Wa,hWa⟩ := exq (W.alloc (.cells #[.int .i64 1,.string ⟨#[97,108]⟩,.int .i64 0] 69))
 obtain ⟨Wb,hWb⟩ := exq (Wa.alloc (.cells #[.int .i64 1,.string ⟨#[107,105]⟩,.int .i64 2] 69))
 obtain ⟨X0,hX0⟩ := exq (Wb.alloc (.cells #[.slice none 0 0,.slice (some ⟨W.heap.size,0,none⟩) 1 1,.slice (some ⟨W.heap.size + 1,0,none⟩) 1 1,.int .i64 5,.int .i64 1,.int .i64 3] 25))
 have HI0 := hid (show TbJ W.heap.size W X0 0 (.slice none 0 0) by
  have sa : Wa.heap.size = W.heap.size + 1 := by rw [hWa,World.size_alloc]
  have sb : Wb.heap.size = W.heap.size + 2 := by rw [hWb,World.size_alloc,sa]
  have ba := bnew hWa
  have bb := bnew hWb
  have b0 := bnew hX0
  have ka : Blk Wa W.heap.size 69 [.int .i64 1,.string (bs [97,108]),.int .i64 0] := by rw [hWa]; exact Blk.new W _ _
  have kb : Blk Wb (W.heap.size + 1) 69 [.int .i64 1,.string (bs [107,105]),.int .i64 2] := by rw [hWb,← sa]; exact Blk.new Wa _ _
  have k0 : Blk X0 (W.heap.size + 2) 25 [.slice none 0 0,.slice (some ⟨W.heap.size,0,none⟩) 1 1,.slice (some ⟨W.heap.size + 1,0,none⟩) 1 1,.int .i64 5,.int .i64 1,.int .i64 3] := by rw [hX0,← sb]; exact Blk.new Wb _ _
  exact ⟨k0,(ka.below bb).below b0,kb.below b0,World.ownsRow_nil _ _ _ _,Below.step (Below.step ba bb) b0⟩)
 clear hT
 rw [hWb,hWa] at hX0
 go_enter Tryz.func10,Tryz.ntmps10
 go_upto_region 2 with (fail)
 try simp only [World.size_alloc]
 rw [← hX0]
 clear hX0 hWa hWb
 go_wp2_with fail
 go_loopw [2] (fun iv wr => ∃ k : Nat,k ≤ 4 ∧ iv = .int .i64 k ∧ Hid (∃ rv,TbJ W.heap.size W wr k rv)) (fun iv _ => 4 - (RowKit.intOf iv).toNat)
 case atStart => exact ⟨0,by omega,rfl,_,HI0.out⟩
 case round =>
 obtain ⟨k,hk,rfl,HI⟩ := hrel
 obtain ⟨rv,hI⟩ := HI.out
 rename World => wr
 have HI1 := hid hI
 obtain ⟨va,vc,rfl⟩ := ownsRow_slice hI.own
 by_cases hlt : k < 4
 ·obtain ⟨r,hr,hs,hc0,hf,ht⟩ := anki hlt
  have k0 : (0 : Int) ≤ (k : Int) := by omega
  have k1 : (k : Int) < 4 := by omega
  have k2 : (0 : Int) ≤ (k : Int) + 1 ∧ (k : Int) + 1 ≤ 4 := by omega
  have k3 : (k : Int) ≤ (k : Int) + 1 := by omega
  have k4 : ((k : Int) + 1).toNat = k + 1 := by omega
  have k5 : k ≤ k + 1 := by omega
  have k6 : k + 1 ≤ 4 := by omega
  have k7 : (0 : Int) ≤ (k : Int) + 1 := by omega
  have k8 : IntKind.i64.wrap ((k : Int) + 1) = (k : Int) + 1 := IntWalk.i64_in _ (by omega)
  have c0 := hI.t.cell (j := 0) rfl
  have cz := hI.t.lt
  have HR := hid (show (Idx.tab16.rules.take k).flatMap ruleCells ++ [.int .i64 1,.string ((⟨#[97,110,107,105]⟩ : ByteArray).extract k (k + 1)),.string ((⟨#[97,110,107,105]⟩ : ByteArray).extract k (k + 1)),.int .i64 0] = (Idx.tab16.rules.take (k + 1)).flatMap ruleCells by
   rw [Idx.take_one hr,List.flatMap_append,List.flatMap_cons,List.flatMap_nil,List.append_nil]
   unfold ruleCells
   rw [hs,hc0,hf,ht])
  clear hr hs hc0 hf ht hI
  go_upto_region 5 with (fail)
  refine wp_heldS (S := TwoS 14 14 (fun X => X.cell? ⟨W.heap.size + 2,0,none⟩ = some (.slice va k vc)) (fun _ => True)) (by kernel_rfl) ?_
  simp only [List.size_toArray,List.length_cons,List.length_nil,Nat.reduceAdd]
  intro hc
  have S0 : TwoS 14 14 (fun X => X.cell? ⟨W.heap.size + 2,0,none⟩ = some (.slice va k vc)) (fun _ => True) (Array.replicate 15 false) wr.drew := ⟨.inr c0,.inr trivial⟩
  refine wpAnyS_take (i := 0) (v := .pointer (some ⟨W.heap.size + 2,0,none⟩)) rfl (by kernel_rfl) (by kernel_rfl) (by kernel_rfl) (fun _ _ _ h => h) (fun _ _ => TwoS.set_ (by decide) (by decide) _ _) hc (by first | rfl | simp [Region.wanted]) (fun wx hx => ?_) S0 (fun hc S0 => ?_)
  ·go_simp
  try simp only [tk1,tk3,Act.put,tk4,tk5,tk6]
  refine wpAnyS_take (i := 1) (v := .slice va k vc) rfl (by kernel_rfl) (by kernel_rfl) (by kernel_rfl) (fun _ _ _ h => h) (fun _ _ => TwoS.set_ (by decide) (by decide) _ _) hc (by first | rfl | simp [Region.wanted]) (fun wx hx => ?_) S0 (fun hc S0 => ?_)
  ·have y := hx.leftN (n := 4) (by kernel_rfl)
   go_simp
  try simp only [tk1,tk2,tk3,Act.put,tk4,tk5,tk6]
  refine wpAnyS_take (i := 2) (v := .int .i64 k) rfl (by kernel_rfl) (by kernel_rfl) (by kernel_rfl) (fun _ _ _ h => h) (fun _ _ => TwoS.set_ (by decide) (by decide) _ _) hc (by first | rfl | simp [Region.wanted]) (fun wx hx => ?_) S0 (fun hc S0 => ?_)
  ·go_simp
  try simp only [tk1,tk2,tk3,Act.put,tk4,tk5,tk6]
  refine wpAnyS_take (i := 3) (v := .int .i64 k) rfl (by kernel_rfl) (by kernel_rfl) (by kernel_rfl) (fun _ _ _ h => h) (fun _ _ => TwoS.set_ (by decide) (by decide) _ _) hc (by first | rfl | simp [Region.wanted]) (fun wx hx => ?_) S0 (fun hc S0 => ?_)
  ·go_simp
  try simp only [tk1,tk2,tk3,Act.put,tk4,tk5,tk6]
  refine wpAnyS_take (i := 4) (v := .int .i64 ((k : Int) + 1)) rfl (by kernel_rfl) (by kernel_rfl) (by kernel_rfl) (fun _ _ _ h => h) (fun _ _ => TwoS.set_ (by decide) (by decide) _ _) hc (by first | rfl | simp [Region.wanted]) (fun wx hx => ?_) S0 (fun hc S0 => ?_)
  ·go_simp
  try simp only [tk1,tk2,tk3,Act.put,tk4,tk5,tk6]
  refine wpAnyS_take (i := 5) (v := .string ((⟨#[97,110,107,105]⟩ : ByteArray).extract k (k + 1))) rfl (by kernel_rfl) (by kernel_rfl) (by kernel_rfl) (fun _ _ _ h => h) (fun _ _ => TwoS.set_ (by decide) (by decide) _ _) hc (by first | rfl | simp [Region.wanted]) (fun wx hx => ?_) S0 (fun hc S0 => ?_)
  ·go_simp
  try simp only [tk1,tk2,tk3,Act.put,tk4,tk5,tk6]
  refine wpAnyS_take (i := 6) (v := .int .i64 k) rfl (by kernel_rfl) (by kernel_rfl) (by kernel_rfl) (fun _ _ _ h => h) (fun _ _ => TwoS.set_ (by decide) (by decide) _ _) hc (by first | rfl | simp [Region.wanted]) (fun wx hx => ?_) S0 (fun hc S0 => ?_)
  ·go_simp
  try simp only [tk1,tk2,tk3,Act.put,tk4,tk5,tk6]
  refine wpAnyS_take (i := 7) (v := .int .i64 k) rfl (by kernel_rfl) (by kernel_rfl) (by kernel_rfl) (fun _ _ _ h => h) (fun _ _ => TwoS.set_ (by decide) (by decide) _ _) hc (by first | rfl | simp [Region.wanted]) (fun wx hx => ?_) S0 (fun hc S0 => ?_)
  ·go_simp
  try simp only [tk1,tk2,tk3,Act.put,tk4,tk5,tk6]
  refine wpAnyS_take (i := 8) (v := .int .i64 ((k : Int) + 1)) rfl (by kernel_rfl) (by kernel_rfl) (by kernel_rfl) (fun _ _ _ h => h) (fun _ _ => TwoS.set_ (by decide) (by decide) _ _) hc (by first | rfl | simp [Region.wanted]) (fun wx hx => ?_) S0 (fun hc S0 => ?_)
  ·go_simp
  try simp only [tk1,tk2,tk3,Act.put,tk4,tk5,tk6]
  refine wpAnyS_take (i := 9) (v := .string ((⟨#[97,110,107,105]⟩ : ByteArray).extract k (k + 1))) rfl (by kernel_rfl) (by kernel_rfl) (by kernel_rfl) (fun _ _ _ h => h) (fun _ _ => TwoS.set_ (by decide) (by decide) _ _) hc (by first | rfl | simp [Region.wanted]) (fun wx hx => ?_) S0 (fun hc S0 => ?_)
  ·go_simp
  try simp only [tk1,tk2,tk3,Act.put,tk4,tk5,tk6]
  refine wpAnyS_take (i := 10) (v := .agg #[.int .i64 1,.string ((⟨#[97,110,107,105]⟩ : ByteArray).extract k (k + 1)),.string ((⟨#[97,110,107,105]⟩ : ByteArray).extract k (k + 1)),.int .i64 0]) rfl (by kernel_rfl) (by kernel_rfl) (by kernel_rfl) (fun _ _ _ h => h) (fun _ _ => TwoS.set_ (by decide) (by decide) _ _) hc (by first | rfl | simp [Region.wanted]) (fun wx hx => ?_) S0 (fun hc S0 => ?_)
  ·go_simp
  try simp only [tk1,tk2,tk3,Act.put,tk4,tk5,tk6]
  refine onI (i := 11) rfl hc (fun K' hK => ?_)
  go_simp
  have hbA : Below wr.heap.size wr (wr.drew.alloc (.cells #[.int .i64 1,.string ((⟨#[97,110,107,105]⟩ : ByteArray).extract k (k + 1)),.string ((⟨#[97,110,107,105]⟩ : ByteArray).extract k (k + 1)),.int .i64 0] 71)) := (Below.refl _ wr).drew.alloc (Nat.le_refl _) _
  have hIA := HI1.out.step hbA
  refine hK.out _ _ ⟨.inr (hIA.t.cell (j := 0) rfl),.inr trivial⟩ (fun hc => ?_)
  clear hK K'
  try simp only [tk1,tk2,tk3,Act.put,tk4,tk5,tk6]
  refine onI (i := 12) rfl hc (fun K' hK => ?_)
  refine wp_append_own _ _ _ 22 rfl (W.heap.size + 3) 71 i0 (.agg #[.int .i64 0,.string ⟨#[]⟩,.string ⟨#[]⟩,.int .i64 0]) 4 48 Tryz.underlying22 hi hz0 hz1 hz2 rfl (by decide) _ _ _ rfl hIA.own ⟨wr.drew.heap.size,0,none⟩ 1 1 [.int .i64 1,.string ((⟨#[97,110,107,105]⟩ : ByteArray).extract k (k + 1)),.string ((⟨#[97,110,107,105]⟩ : ByteArray).extract k (k + 1)),.int .i64 0] rfl rfl (cells_new rfl) (by simp [Value.oneCell']) (by unfold maxLen; omega) (by omega) (hIA.t.lt) ?_
  intro v' w8 ho8 hg8 _
  obtain ⟨a8,c8,rfl⟩ := ownsRow_slice ho8
  obtain ⟨hI8,q1,q2,q3⟩ := hIA.app (m := 1) rfl hg8 ho8 HR.out
  have HI8 := hid hI8
  refine hK.out _ _ ⟨.inr q1,.inr trivial⟩ (fun hc => ?_)
  clear hK K' hIA ho8 hg8 hI8
  try simp only [tk1,tk2,tk3,Act.put,tk4,tk5,tk6]
  refine onI (i := 13) rfl hc (fun K' hK => ?_)
  go_simp
  refine hK.out _ _ ⟨.inr q1,.inr trivial⟩ (fun hc => ?_)
  clear hK K'
  try simp only [tk1,tk2,tk3,Act.put,tk4,tk5,tk6]
  refine onI (i := 14) rfl hc (fun K' hK => ?_)
  go_simp
  refine hK.out _ _ ⟨.inl rfl,.inl rfl⟩ (fun hc => ?_)
  clear hK K'
  try simp only [tk1,tk2,tk3,Act.put,tk4,tk5,tk6]
  refine wpAnyS_done (by kernel_rfl) ?_ _
  clear hc S0 q1 q2 q3 c0 cz hbA
  go_wp2_with fail
  go_roundw
  case rel => exact ⟨k + 1,by omega,by go_num,_,HI8.out⟩
  case measure => simp [RowKit.intOf]; omega
 have hke : k = 4 := by omega
 subst hke
 have k1 : ¬ ((4 : Nat) : Int) < 4 := by omega
 obtain ⟨g,c,hgc,htab⟩ := hI.tab
 cases hgc
 obtain ⟨c0,c1,c2,c3,c4,c5,cz⟩ := hI.t.cl6
 have HNW := hid (new_any Idx.tab16 _ _ _ 3 wr htab (HT.out.below hI.below))
 have HTB := hid htab
 have HBW := hid hI.below
 clear hI htab HI HI1
 go_wp2_with fail
 refine (HNW.out).mono ?_
 rintro e X0 ⟨hb0,⟨hno,-⟩ | ⟨-,px,eb,cb,rfl,he,hc,-,hix⟩⟩
 ·exact absurd hno (by unfold newOk; rw [Idx.head_pure.1]; decide)
 have HI_X0 := hid (show IxT X0 px eb cb Idx.tab16 (.slice (some ⟨g,0,none⟩) 4 vc) (.slice (some ⟨W.heap.size,0,none⟩) 1 1) (.slice (some ⟨W.heap.size + 1,0,none⟩) 1 1) 3 (fun _ => True) [] 0 from ⟨hix _,HTB.out.below hb0,(HT.out.below HBW.out).below hb0⟩)
 have HB_X0 := hid (Below.step HBW.out hb0)
 have HEC := hid (show W.heap.size ≤ eb ∧ W.heap.size ≤ cb by have := HBW.out.size; omega)
 have HNC_0 := hid (show (0 : Nat) ≤ 0 from Nat.le_refl _)
 clear c0 c1 c2 c3 c4 c5 cz hb0 he hc hix HNW
 obtain ⟨Y1,hY1⟩ := exq (X0.alloc (.cells #[.string ⟨#[97,110,110,97]⟩] 9))
 obtain ⟨g2,hg2⟩ := exq (X0.heap.size)
 have bY1 := bnew hY1
 have KA_Y1 := hid (show Blk Y1 g2 9 [.string ⟨#[97,110,110,97]⟩] by rw [hY1,hg2]; exact Blk.new _ _ _)
 have HI_Y1 := hid (HI_X0.out.below bY1)
 have HB_Y1 := hid (Below.step HB_X0.out bY1)
 clear bY1
 have HPL := hid (plain16_any (some ⟨g2,0,none⟩) 1 1 Y1)
 go_wp2_with fail
 rw [← hY1,← hg2]
 clear hY1 hg2
 refine (HPL.out).mono ?_
 rintro e Y3 ⟨rfl,hb⟩
 have HI_Y3 := hid (HI_Y1.out.below hb)
 have HB_Y3 := hid (Below.step HB_Y1.out hb)
 have KA_Y3 := hid (KA_Y1.out.below hb)
 clear hb HPL
 obtain ⟨Y4,hY4⟩ := exq (Y3.alloc (.cells #[.string ⟨#[97,108]⟩,.string ⟨#[97,110,110,97,107,105]⟩] 9))
 obtain ⟨g5,hg5⟩ := exq (Y3.heap.size)
 have bY4 := bnew hY4
 have KB_Y4 := hid (show Blk Y4 g5 9 [.string ⟨#[97,108]⟩,.string ⟨#[97,110,110,97,107,105]⟩] by rw [hY4,hg5]; exact Blk.new _ _ _)
 have HI_Y4 := hid (HI_Y3.out.below bY4)
 have HB_Y4 := hid (Below.step HB_Y3.out bY4)
 have KA_Y4 := hid (KA_Y3.out.below bY4)
 clear bY4
 have HPL := hid (plain16_any (some ⟨g5,0,none⟩) 2 2 Y4)
 go_wp2_with fail
 rw [← hY4,← hg5]
 clear hY4 hg5
 refine (HPL.out).mono ?_
 rintro e Y6 ⟨rfl,hb⟩
 have HI_Y6 := hid (HI_Y4.out.below hb)
 have HB_Y6 := hid (Below.step HB_Y4.out hb)
 have KA_Y6 := hid (KA_Y4.out.below hb)
 have KB_Y6 := hid (KB_Y4.out.below hb)
 clear hb HPL
 obtain ⟨Y7,hY7⟩ := exq (Y6.alloc (.cells #[.int .i64 1,.slice (some ⟨g2,0,none⟩) 1 1,.int .i64 1,.slice (some ⟨g5,0,none⟩) 2 2] 46))
 obtain ⟨g8,hg8⟩ := exq (Y6.heap.size)
 have bY7 := bnew hY7
 have KN_Y7 := hid (show Blk Y7 g8 46 [.int .i64 1,.slice (some ⟨g2,0,none⟩) 1 1,.int .i64 1,.slice (some ⟨g5,0,none⟩) 2 2] by rw [hY7,hg8]; exact Blk.new _ _ _)
 have HI_Y7 := hid (HI_Y6.out.below bY7)
 have HB_Y7 := hid (Below.step HB_Y6.out bY7)
 have KA_Y7 := hid (KA_Y6.out.below bY7)
 have KB_Y7 := hid (KB_Y6.out.below bY7)
 clear bY7
 have HNS := hid (show NmSl Y7 (.slice (some ⟨g8,0,none⟩) 2 2) [Idx.nA,Idx.nB] from ⟨[(Idx.nA,.slice (some ⟨g2,0,none⟩) 1 1),(Idx.nB,.slice (some ⟨g5,0,none⟩) 2 2)],rfl,SlOf.block KN_Y7.out rfl (fun _ _ => rfl) rfl (by decide),fun p hp => by
  simp only [List.mem_cons,List.not_mem_nil,or_false] at hp
  rcases hp with rfl | rfl
  ·exact SlOf.block KA_Y7.out rfl (fun _ _ => rfl) rfl (by decide)
  ·exact SlOf.block KB_Y7.out rfl (fun _ _ => rfl) rfl (by decide)
  ⟩)
 have HPU := hid (show Calls Tryz.prog 14 #[.pointer (some ⟨px,0,none⟩),.agg #[.string ⟨#[101,50]⟩,.slice (some ⟨g8,0,none⟩) 2 2]] Y7 (PutP px eb cb Idx.tab16 [.slice (some ⟨g,0,none⟩) 4 vc,.slice (some ⟨W.heap.size,0,none⟩) 1 1,.slice (some ⟨W.heap.size + 1,0,none⟩) 1 1,.int .i64 5,.int .i64 1,.int .i64 3] 3 (fun _ => True) [] 0 Idx.e2 Y7) from
  put_any px eb cb Idx.tab16 _ _ _ 3 (fun _ => True) [] 0 Idx.e2.id Idx.e2.names _ Y7 HI_Y7.out.ix (fun _ _ => trivial) HNS.out (by decide) (by decide) (by decide) (by unfold shortN; decide) HI_Y7.out.tabs)
 go_wp2_with fail
 rw [← hY7,← hg8]
 clear hY7 hg8
 refine (HPU.out).mono ?_
 rintro e Y9 ⟨hb,rfl,P10,hP10,hix⟩
 have HP_P10 := hid hP10
 obtain ⟨oe,e1,e2⟩ := HI_Y7.out.ix.ents.no_cells
 have HI_Y9 := hid (show IxT Y9 px eb cb Idx.tab16 (.slice (some ⟨g,0,none⟩) 4 vc) (.slice (some ⟨W.heap.size,0,none⟩) 1 1) (.slice (some ⟨W.heap.size + 1,0,none⟩) 1 1) 3 (fun _ => True) P10 0 from ⟨hix,tableAt_but HI_Y7.out.tb hb e1 e2,tabs_but HI_Y7.out.tabs hb e1 e2⟩)
 have HB_Y9 := hid (HB_Y7.out.trans (hb.below HB_Y7.out.size HEC.out.1))
 clear hb hix hP10 e1 e2 HPU HNS
 have hq2 := Idx.head_pure.2.1
 rw [show ([] : List (Li.En × Value)).map Prod.fst = [] from rfl,hq2] at HP_P10
 rw [show (Idx.put (List.map Prod.fst ([] : List (Li.En × Value))) Idx.e2).2 = 0 by rw [show ([] : List (Li.En × Value)).map Prod.fst = [] from rfl,hq2]]
 clear hq2
 simp only at HP_P10
 obtain ⟨Y11,hY11⟩ := exq (Y9.alloc (.cells #[.string ⟨#[97,110,110,97]⟩,.string ⟨#[107,97,105]⟩] 9))
 obtain ⟨g12,hg12⟩ := exq (Y9.heap.size)
 have bY11 := bnew hY11
 have KC_Y11 := hid (show Blk Y11 g12 9 [.string ⟨#[97,110,110,97]⟩,.string ⟨#[107,97,105]⟩] by rw [hY11,hg12]; exact Blk.new _ _ _)
 have HI_Y11 := hid (HI_Y9.out.below bY11)
 have HB_Y11 := hid (Below.step HB_Y9.out bY11)
 clear bY11
 have HPL := hid (plain16_any (some ⟨g12,0,none⟩) 2 2 Y11)
 go_wp2_with fail
 rw [← hY11,← hg12]
 clear hY11 hg12
 refine (HPL.out).mono ?_
 rintro e Y13 ⟨rfl,hb⟩
 have HI_Y13 := hid (HI_Y11.out.below hb)
 have HB_Y13 := hid (Below.step HB_Y11.out hb)
 have KC_Y13 := hid (KC_Y11.out.below hb)
 clear hb HPL
 obtain ⟨Y14,hY14⟩ := exq (Y13.alloc (.cells #[.int .i64 1,.slice (some ⟨g12,0,none⟩) 2 2] 46))
 obtain ⟨g15,hg15⟩ := exq (Y13.heap.size)
 have bY14 := bnew hY14
 have KM_Y14 := hid (show Blk Y14 g15 46 [.int .i64 1,.slice (some ⟨g12,0,none⟩) 2 2] by rw [hY14,hg15]; exact Blk.new _ _ _)
 have HI_Y14 := hid (HI_Y13.out.below bY14)
 have HB_Y14 := hid (Below.step HB_Y13.out bY14)
 have KC_Y14 := hid (KC_Y13.out.below bY14)
 clear bY14
 have HNS := hid (show NmSl Y14 (.slice (some ⟨g15,0,none⟩) 1 1) [Idx.nC] from ⟨[(Idx.nC,.slice (some ⟨g12,0,none⟩) 2 2)],rfl,SlOf.block KM_Y14.out rfl (fun _ _ => rfl) rfl (by decide),fun p hp => by
  simp only [List.mem_cons,List.not_mem_nil,or_false] at hp
  rcases hp with rfl
  ·exact SlOf.block KC_Y14.out rfl (fun _ _ => rfl) rfl (by decide)
  ⟩)
 have HPU := hid (show Calls Tryz.prog 14 #[.pointer (some ⟨px,0,none⟩),.agg #[.string ⟨#[101,49]⟩,.slice (some ⟨g15,0,none⟩) 1 1]] Y14 (PutP px eb cb Idx.tab16 [.slice (some ⟨g,0,none⟩) 4 vc,.slice (some ⟨W.heap.size,0,none⟩) 1 1,.slice (some ⟨W.heap.size + 1,0,none⟩) 1 1,.int .i64 5,.int .i64 1,.int .i64 3] 3 (fun _ => True) P10 0 Idx.e1 Y14) from
  put_any px eb cb Idx.tab16 _ _ _ 3 (fun _ => True) P10 0 Idx.e1.id Idx.e1.names _ Y14 HI_Y14.out.ix (fun _ _ => trivial) HNS.out (by decide) (by decide) (by decide) (by unfold shortN; decide) HI_Y14.out.tabs)
 go_wp2_with fail
 rw [← hY14,← hg15]
 clear hY14 hg15
 refine (HPU.out).mono ?_
 rintro e Y16 ⟨hb,rfl,P17,hP17,hix⟩
 have HP_P17 := hid hP17
 obtain ⟨oe,e1,e2⟩ := HI_Y14.out.ix.ents.no_cells
 have HI_Y16 := hid (show IxT Y16 px eb cb Idx.tab16 (.slice (some ⟨g,0,none⟩) 4 vc) (.slice (some ⟨W.heap.size,0,none⟩) 1 1) (.slice (some ⟨W.heap.size + 1,0,none⟩) 1 1) 3 (fun _ => True) P17 0 from ⟨hix,tableAt_but HI_Y14.out.tb hb e1 e2,tabs_but HI_Y14.out.tabs hb e1 e2⟩)
 have HB_Y16 := hid (HB_Y14.out.trans (hb.below HB_Y14.out.size HEC.out.1))
 clear hb hix hP17 e1 e2 HPU HNS
 have hq1 := Idx.head_pure.2.2.1
 rw [HP_P10.out,hq1] at HP_P17
 rw [show (Idx.put (P10.map Prod.fst) Idx.e1).2 = 0 by rw [HP_P10.out,hq1]]
 simp only at HP_P17
 clear hq1
 have HSO := hid (show (Idx.sortE P17).map Prod.fst = [Idx.e1,Idx.e2] from sorted_head HP_P17.out HI_Y16.out.ix.ok)
 obtain ⟨Y18,hY18⟩ := exq (Y16.alloc (.cells #[.string ⟨#[97,110,110,97]⟩] 9))
 obtain ⟨g19,hg19⟩ := exq (Y16.heap.size)
 have bY18 := bnew hY18
 have KD_Y18 := hid (show Blk Y18 g19 9 [.string ⟨#[97,110,110,97]⟩] by rw [hY18,hg19]; exact Blk.new _ _ _)
 have HI_Y18 := hid (HI_Y16.out.below bY18)
 have HB_Y18 := hid (Below.step HB_Y16.out bY18)
 clear bY18
 have HPL := hid (plain16_any (some ⟨g19,0,none⟩) 1 1 Y18)
 go_wp2_with fail
 rw [← hY18,← hg19]
 clear hY18 hg19
 refine (HPL.out).mono ?_
 rintro e Y20 ⟨rfl,hb⟩
 have HI_Y20 := hid (HI_Y18.out.below hb)
 have HB_Y20 := hid (Below.step HB_Y18.out hb)
 have KD_Y20 := hid (KD_Y18.out.below hb)
 clear hb HPL
 have HFI := hid (show Calls Tryz.prog 18 #[.pointer (some ⟨px,0,none⟩),.agg #[.int .i64 1,.slice (some ⟨g19,0,none⟩) 1 1]] Y20 (FindP cb Idx.tab16 0 Idx.nA 3 P17 Y20) from
  find_any px eb cb Idx.tab16 _ _ _ 3 (fun _ => True) P17 0 Idx.nA _ Y20 HI_Y20.out (SlOf.block KD_Y20.out rfl (fun _ _ => rfl) rfl (by decide)) (by decide +kernel) (by have := HNC_0.out; omega) (by decide))
 go_wp2_with fail
 refine (HFI.out).mono ?_
 rintro e Y21 ⟨hb,v22,rfl,ho,nc23,hnc,hcs⟩
 rw [HSO.out,Idx.hits_a] at ho
 have HI_Y21 := hid (HI_Y20.out.now hb hcs)
 have HNC_nc23 := hid (show nc23 ≤ 115200 by have := HNC_0.out; omega)
 have HB_Y21 := hid (HB_Y20.out.trans (hb.below HB_Y20.out.size HEC.out.2))
 have HH24_Y21 := hid (SlOf.own (sz := 3) (cells := hitC) (l := ([⟨[101,50],0,0⟩,⟨[101,50],1,2⟩] : List Idx.Hit)) ho (fun _ _ => rfl))
 obtain ⟨av22,cv22,ev22,-⟩ := SlOf.own (sz := 3) (cells := hitC) (l := ([⟨[101,50],0,0⟩,⟨[101,50],1,2⟩] : List Idx.Hit)) ho (fun _ _ => rfl)
 subst ev22
 clear hb ho hnc hcs HFI
 obtain ⟨Y25,hY25⟩ := exq (Y21.alloc (.cells #[.string ⟨#[107,97,105]⟩,.string ⟨#[97,110,110,97]⟩] 9))
 obtain ⟨g26,hg26⟩ := exq (Y21.heap.size)
 have bY25 := bnew hY25
 have KE_Y25 := hid (show Blk Y25 g26 9 [.string ⟨#[107,97,105]⟩,.string ⟨#[97,110,110,97]⟩] by rw [hY25,hg26]; exact Blk.new _ _ _)
 have HI_Y25 := hid (HI_Y21.out.below bY25)
 have HB_Y25 := hid (Below.step HB_Y21.out bY25)
 have HH24_Y25 := hid (HH24_Y21.out.below bY25)
 clear bY25
 have HPL := hid (plain16_any (some ⟨g26,0,none⟩) 2 2 Y25)
 go_wp2_with fail
 rw [← hY25,← hg26]
 clear hY25 hg26
 refine (HPL.out).mono ?_
 rintro e Y27 ⟨rfl,hb⟩
 have HI_Y27 := hid (HI_Y25.out.below hb)
 have HB_Y27 := hid (Below.step HB_Y25.out hb)
 have HH24_Y27 := hid (HH24_Y25.out.below hb)
 have KE_Y27 := hid (KE_Y25.out.below hb)
 clear hb HPL
 have HFI := hid (show Calls Tryz.prog 18 #[.pointer (some ⟨px,0,none⟩),.agg #[.int .i64 1,.slice (some ⟨g26,0,none⟩) 2 2]] Y27 (FindP cb Idx.tab16 nc23 Idx.nD 3 P17 Y27) from
  find_any px eb cb Idx.tab16 _ _ _ 3 (fun _ => True) P17 nc23 Idx.nD _ Y27 HI_Y27.out (SlOf.block KE_Y27.out rfl (fun _ _ => rfl) rfl (by decide)) (by decide +kernel) (by have := HNC_nc23.out; omega) (by decide))
 go_wp2_with fail
 refine (HFI.out).mono ?_
 rintro e Y28 ⟨hb,v29,rfl,ho,nc30,hnc,hcs⟩
 rw [HSO.out,Idx.hits_b] at ho
 have HI_Y28 := hid (HI_Y27.out.now hb hcs)
 have HNC_nc30 := hid (show nc30 ≤ 230400 by have := HNC_nc23.out; omega)
 have HB_Y28 := hid (HB_Y27.out.trans (hb.below HB_Y27.out.size HEC.out.2))
 have HH24_Y28 := hid (by obtain ⟨oc,e1,e2⟩ := HI_Y27.out.map; exact HH24_Y27.out.but hb e1 e2)
 have HH31_Y28 := hid (SlOf.own (sz := 3) (cells := hitC) (l := ([⟨[101,49],0,1⟩] : List Idx.Hit)) ho (fun _ _ => rfl))
 obtain ⟨av29,cv29,ev29,-⟩ := SlOf.own (sz := 3) (cells := hitC) (l := ([⟨[101,49],0,1⟩] : List Idx.Hit)) ho (fun _ _ => rfl)
 subst ev29
 clear hb ho hnc hcs HFI
 obtain ⟨Y32,hY32⟩ := exq (Y28.alloc (.cells #[.string ⟨#[107,97,110,97]⟩] 9))
 obtain ⟨g33,hg33⟩ := exq (Y28.heap.size)
 have bY32 := bnew hY32
 have KF_Y32 := hid (show Blk Y32 g33 9 [.string ⟨#[107,97,110,97]⟩] by rw [hY32,hg33]; exact Blk.new _ _ _)
 have HI_Y32 := hid (HI_Y28.out.below bY32)
 have HB_Y32 := hid (Below.step HB_Y28.out bY32)
 have HH24_Y32 := hid (HH24_Y28.out.below bY32)
 have HH31_Y32 := hid (HH31_Y28.out.below bY32)
 clear bY32
 have HPL := hid (plain16_any (some ⟨g33,0,none⟩) 1 1 Y32)
 go_wp2_with fail
 rw [← hY32,← hg33]
 clear hY32 hg33
 refine (HPL.out).mono ?_
 rintro e Y34 ⟨rfl,hb⟩
 have HI_Y34 := hid (HI_Y32.out.below hb)
 have HB_Y34 := hid (Below.step HB_Y32.out hb)
 have HH24_Y34 := hid (HH24_Y32.out.below hb)
 have HH31_Y34 := hid (HH31_Y32.out.below hb)
 have KF_Y34 := hid (KF_Y32.out.below hb)
 clear hb HPL
 have HFI := hid (show Calls Tryz.prog 18 #[.pointer (some ⟨px,0,none⟩),.agg #[.int .i64 1,.slice (some ⟨g33,0,none⟩) 1 1]] Y34 (FindP cb Idx.tab16 nc30 Idx.nE 3 P17 Y34) from
  find_any px eb cb Idx.tab16 _ _ _ 3 (fun _ => True) P17 nc30 Idx.nE _ Y34 HI_Y34.out (SlOf.block KF_Y34.out rfl (fun _ _ => rfl) rfl (by decide)) (by decide +kernel) (by have := HNC_nc30.out; omega) (by decide))
 go_wp2_with fail
 refine (HFI.out).mono ?_
 rintro e Y35 ⟨hb,v36,rfl,ho,nc37,hnc,hcs⟩
 rw [HSO.out,Idx.hits_c] at ho
 have HI_Y35 := hid (HI_Y34.out.now hb hcs)
 have HNC_nc37 := hid (show nc37 ≤ 345600 by have := HNC_nc30.out; omega)
 have HB_Y35 := hid (HB_Y34.out.trans (hb.below HB_Y34.out.size HEC.out.2))
 have HH24_Y35 := hid (by obtain ⟨oc,e1,e2⟩ := HI_Y34.out.map; exact HH24_Y34.out.but hb e1 e2)
 have HH31_Y35 := hid (by obtain ⟨oc,e1,e2⟩ := HI_Y34.out.map; exact HH31_Y34.out.but hb e1 e2)
 have HH38_Y35 := hid (SlOf.own (sz := 3) (cells := hitC) (l := ([] : List Idx.Hit)) ho (fun _ _ => rfl))
 obtain ⟨av36,cv36,ev36,-⟩ := SlOf.own (sz := 3) (cells := hitC) (l := ([] : List Idx.Hit)) ho (fun _ _ => rfl)
 subst ev36
 clear hb ho hnc hcs HFI
 obtain ⟨Y39,hY39⟩ := exq (Y35.alloc (.cells #[.string ⟨#[101,50]⟩,.int .i64 0,.int .i64 0,.string ⟨#[101,50]⟩,.int .i64 1,.int .i64 2] 56))
 obtain ⟨g40,hg40⟩ := exq (Y35.heap.size)
 have bY39 := bnew hY39
 have KP_Y39 := hid (show Blk Y39 g40 56 [.string ⟨#[101,50]⟩,.int .i64 0,.int .i64 0,.string ⟨#[101,50]⟩,.int .i64 1,.int .i64 2] by rw [hY39,hg40]; exact Blk.new _ _ _)
 have HI_Y39 := hid (HI_Y35.out.below bY39)
 have HB_Y39 := hid (Below.step HB_Y35.out bY39)
 have HH24_Y39 := hid (HH24_Y35.out.below bY39)
 have HH31_Y39 := hid (HH31_Y35.out.below bY39)
 have HH38_Y39 := hid (HH38_Y35.out.below bY39)
 clear bY39
 have HHE := hid (show Calls Tryz.prog 20 #[.slice av22 ([⟨[101,50],0,0⟩,⟨[101,50],1,2⟩] : List Idx.Hit).length cv22,.slice (some ⟨g40,0,none⟩) 2 2] Y39 (Gives (.bool true) Y39) from by
  have := hitsE_any ([⟨[101,50],0,0⟩,⟨[101,50],1,2⟩] : List Idx.Hit) ([⟨[101,50],0,0⟩,⟨[101,50],1,2⟩] : List Idx.Hit) _ _ Y39 HH24_Y39.out (SlOf.block KP_Y39.out rfl (fun _ _ => rfl) rfl (by decide))
  rw [decide_eq_true rfl] at this
  exact this)
 go_wp2_with fail
 rw [← hY39,← hg40]
 clear hY39 hg40
 refine (HHE.out).mono ?_
 rintro e Y41 ⟨rfl,hb⟩
 have HI_Y41 := hid (HI_Y39.out.below hb)
 have HB_Y41 := hid (Below.step HB_Y39.out hb)
 have HH24_Y41 := hid (HH24_Y39.out.below hb)
 have HH31_Y41 := hid (HH31_Y39.out.below hb)
 have HH38_Y41 := hid (HH38_Y39.out.below hb)
 clear hb HHE
 obtain ⟨Y42,hY42⟩ := exq (Y41.alloc (.cells #[.string ⟨#[101,49]⟩,.int .i64 0,.int .i64 1] 56))
 obtain ⟨g43,hg43⟩ := exq (Y41.heap.size)
 have bY42 := bnew hY42
 have KQ_Y42 := hid (show Blk Y42 g43 56 [.string ⟨#[101,49]⟩,.int .i64 0,.int .i64 1] by rw [hY42,hg43]; exact Blk.new _ _ _)
 have HI_Y42 := hid (HI_Y41.out.below bY42)
 have HB_Y42 := hid (Below.step HB_Y41.out bY42)
 have HH24_Y42 := hid (HH24_Y41.out.below bY42)
 have HH31_Y42 := hid (HH31_Y41.out.below bY42)
 have HH38_Y42 := hid (HH38_Y41.out.below bY42)
 clear bY42
 have HHE := hid (show Calls Tryz.prog 20 #[.slice av29 ([⟨[101,49],0,1⟩] : List Idx.Hit).length cv29,.slice (some ⟨g43,0,none⟩) 1 1] Y42 (Gives (.bool true) Y42) from by
  have := hitsE_any ([⟨[101,49],0,1⟩] : List Idx.Hit) ([⟨[101,49],0,1⟩] : List Idx.Hit) _ _ Y42 HH31_Y42.out (SlOf.block KQ_Y42.out rfl (fun _ _ => rfl) rfl (by decide))
  rw [decide_eq_true rfl] at this
  exact this)
 go_wp2_with fail
 rw [← hY42,← hg43]
 clear hY42 hg43
 refine (HHE.out).mono ?_
 rintro e Y44 ⟨rfl,hb⟩
 have HI_Y44 := hid (HI_Y42.out.below hb)
 have HB_Y44 := hid (Below.step HB_Y42.out hb)
 have HH24_Y44 := hid (HH24_Y42.out.below hb)
 have HH31_Y44 := hid (HH31_Y42.out.below hb)
 have HH38_Y44 := hid (HH38_Y42.out.below hb)
 clear hb HHE
 have HEN := hid (entries_own px eb cb Idx.tab16 _ _ _ 3 (fun _ => True) P17 nc37 Y44 HI_Y44.out)
 go_wp2_with fail
 refine (HEN.out).mono ?_
 rintro e Y45 ⟨hb,v,ps,rfl,hps,ho,-⟩
 have hpl : ps.length = 2 := by
  have := congrArg List.length hps
  rw [List.length_map,HSO.out] at this
  exact this
 rw [hpl] at ho
 obtain ⟨ae,ce,rfl⟩ := ownsRow_slice ho
 have HI_Y45 := hid (HI_Y44.out.below hb)
 have HB_Y45 := hid (Below.step HB_Y44.out hb)
 clear hb ho hps hpl HEN
 have HDR := hid (drop_any px eb cb Idx.tab16 _ _ _ 3 (fun _ => True) P17 nc37 [101,49] Y45 HI_Y45.out.ix (by decide))
 go_wp2_with fail
 refine (HDR.out).mono ?_
 rintro e Y46 ⟨hb,hor⟩
 obtain ⟨rfl,hix⟩ : e = .returned (.int .i64 0) ∧ IxAt Y46 px eb cb Idx.tab16 [.slice (some ⟨g,0,none⟩) 4 vc,.slice (some ⟨W.heap.size,0,none⟩) 1 1,.slice (some ⟨W.heap.size + 1,0,none⟩) 1 1,.int .i64 5,.int .i64 1,.int .i64 3] 3 (fun _ => True) (Idx.strike P17 [101,49]) nc37 := by
  rcases hor with ⟨h1,h2,h3⟩ | ⟨h1,h2,h3⟩
  ·exact ⟨h2,h3⟩
  ·rw [HP_P17.out] at h1; exact absurd h1 (by decide)
 obtain ⟨oe,e1,e2⟩ := HI_Y45.out.ix.ents.no_cells
 have HI_Y46 := hid (show IxT Y46 px eb cb Idx.tab16 (.slice (some ⟨g,0,none⟩) 4 vc) (.slice (some ⟨W.heap.size,0,none⟩) 1 1) (.slice (some ⟨W.heap.size + 1,0,none⟩) 1 1) 3 (fun _ => True) (Idx.strike P17 [101,49]) nc37 from ⟨hix,tableAt_but HI_Y45.out.tb hb e1 e2,tabs_but HI_Y45.out.tabs hb e1 e2⟩)
 have HB_Y46 := hid (HB_Y45.out.trans (hb.below HB_Y45.out.size HEC.out.1))
 clear hb hix hor e1 e2 HDR
 have HPS := hid (show (Idx.strike P17 [101,49]).map Prod.fst = [Idx.e2] by rw [Idx.strike_map,HP_P17.out]; rfl)
 have HDR := hid (drop_any px eb cb Idx.tab16 _ _ _ 3 (fun _ => True) (Idx.strike P17 [101,49]) nc37 [101,49] Y46 HI_Y46.out.ix (by decide))
 go_wp2_with fail
 refine (HDR.out).mono ?_
 rintro e Y47 ⟨hb,hor⟩
 obtain ⟨rfl,hix⟩ : e = .returned (.int .i64 11) ∧ IxAt Y47 px eb cb Idx.tab16 [.slice (some ⟨g,0,none⟩) 4 vc,.slice (some ⟨W.heap.size,0,none⟩) 1 1,.slice (some ⟨W.heap.size + 1,0,none⟩) 1 1,.int .i64 5,.int .i64 1,.int .i64 3] 3 (fun _ => True) (Idx.strike P17 [101,49]) nc37 := by
  rcases hor with ⟨h1,h2,h3⟩ | ⟨h1,h2,h3⟩
  ·rw [HPS.out] at h1; exact absurd h1 (by decide)
  ·exact ⟨h2,h3⟩
 obtain ⟨oe,e1,e2⟩ := HI_Y46.out.ix.ents.no_cells
 have HI_Y47 := hid (show IxT Y47 px eb cb Idx.tab16 (.slice (some ⟨g,0,none⟩) 4 vc) (.slice (some ⟨W.heap.size,0,none⟩) 1 1) (.slice (some ⟨W.heap.size + 1,0,none⟩) 1 1) 3 (fun _ => True) (Idx.strike P17 [101,49]) nc37 from ⟨hix,tableAt_but HI_Y46.out.tb hb e1 e2,tabs_but HI_Y46.out.tabs hb e1 e2⟩)
 have HB_Y47 := hid (HB_Y46.out.trans (hb.below HB_Y46.out.size HEC.out.1))
 clear hb hix hor e1 e2 HDR
 have HPU := hid (show Calls Tryz.prog 14 #[.pointer (some ⟨px,0,none⟩),.agg #[.string ⟨#[101,50]⟩,.slice none 0 0]] Y47 (PutP px eb cb Idx.tab16 [.slice (some ⟨g,0,none⟩) 4 vc,.slice (some ⟨W.heap.size,0,none⟩) 1 1,.slice (some ⟨W.heap.size + 1,0,none⟩) 1 1,.int .i64 5,.int .i64 1,.int .i64 3] 3 (fun _ => True) (Idx.strike P17 [101,49]) nc37 ⟨[101,50],[]⟩ Y47) from
  put_any px eb cb Idx.tab16 _ _ _ 3 (fun _ => True) (Idx.strike P17 [101,49]) nc37 [101,50] [] _ Y47 HI_Y47.out.ix (fun _ _ => trivial) ⟨[],rfl,SlOf.nil _ _ _,fun p hp => by cases hp⟩ (by decide) (by decide) (by decide) (fun n hn => by cases hn) HI_Y47.out.tabs)
 go_wp2_with fail
 refine (HPU.out).mono ?_
 rintro e Yf ⟨hb,rfl,-⟩
 rw [HPS.out,show (Idx.put [Idx.e2] ⟨[101,50],[]⟩).2 = 1 by decide +kernel]
 have HBF := hid (HB_Y47.out.trans (hb.below HB_Y47.out.size HEC.out.1))
 clear hb HPU
 go_wp2_with fail
 go_ret
 exact ⟨rfl,HBF.out⟩
end Go.Proofs.YtdghfenbfbdijaaGreatDoor
