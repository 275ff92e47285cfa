/-
 Several texts in one: ZIx2, ZIx3, ZIx4. Conditions: as each law says.
-/
import Derived.Test.YtdghfenbfbdijaaGreatDoorZMIxA
import Derived.Test.YtdghfenbfbdijaaGreatDoorZMMtA
import Derived.Test.YtdghfenbfbdijaaGreatDoorZMBaseB
import Derived.Lib.LazyBuf
import Derived.Test.YtdghfenbfbdijaaGreatDoorZMFm
namespace Go.Proofs.YtdghfenbfbdijaaGreatDoor
open Go.RowKit Go.Lib Go.Maps
theorem entF_nil : entF [] = fun _ => none := by
 funext v
 cases v <;> rfl
theorem ix_made (W : World) (t : Rw.Table) (tc : List Value) (b : Int) (Q : Nat → Prop) :
  IxAt (((W.alloc (.map #[] 0)).alloc (.map #[] 0)).alloc (.cells (tc ++ [Value.int .i64 b,Value.map (some W.heap.size),Value.map (some (W.heap.size + 1))]).toArray 78)) (W.heap.size + 2) W.heap.size (W.heap.size + 1) t tc b Q [] 0 := by
 obtain ⟨W3,h3⟩ := exq (W.alloc (.map #[] 0))
 obtain ⟨W4,h4⟩ := exq (W3.alloc (.map #[] 0))
 have z3 : W3.heap.size = W.heap.size + 1 := by rw [h3,World.size_alloc]
 have z4 : W4.heap.size = W.heap.size + 2 := by rw [h4,World.size_alloc,z3]
 have mA : MapC W3 Tryz.prog 9 W.heap.size 0 (fun _ => none) := by rw [h3]; exact MapC.made W Tryz.prog 9
 have mB : MapF W4 Tryz.prog 181 (W.heap.size + 1) 0 (fun _ => none) := by rw [h4,← z3]; exact MapF.made W3 Tryz.prog 181
 have b4 := bnew h4
 rw [← h3,← h4]
 have b5 : Below W4.heap.size W4 (W4.alloc (.cells (tc ++ [Value.int .i64 b,Value.map (some W.heap.size),Value.map (some (W.heap.size + 1))]).toArray 78)) := (Below.refl _ W4).alloc (Nat.le_refl _) _
 refine ⟨?_,?_,fun p hp => (by cases hp),⟨_,mB.below b5,fun a x b y c h => (by cases h)⟩,by omega,Idx.Ok.nil⟩
 ·rw [← z4]
  exact Blk.new W4 _ _
 ·rw [entF_nil]
  exact (mA.below b4).below b5
def newOk (t : Rw.Table) (b : Int) : Bool := Rw.valid t && decide (0 ≤ b) && decide (b ≤ 100000)
def NewP (t : Rw.Table) (tc : List Value) (b : Int) (W : World) (e : Ending) (W' : World) : Prop :=
 Below W.heap.size W W' ∧ ((newOk t b = false ∧ e = .returned (.tuple #[.pointer none,.int .i64 1])) ∨
  (newOk t b = true ∧ ∃ px eb cb,e = .returned (.tuple #[.pointer (some ⟨px,0,none⟩),.int .i64 0]) ∧ W.heap.size ≤ eb ∧ W.heap.size ≤ cb ∧ W.heap.size ≤ px ∧ ∀ Q,IxAt W' px eb cb t tc b Q [] 0))
set_option maxRecDepth 100000 in
set_option maxHeartbeats 2000000 in
theorem new_any (t : Rw.Table) (vr vd ve : Value) (b : Int) (W : World) (ht : TableAt W t (.agg #[vr,vd,ve,.int .i64 t.drop,.int .i64 t.order,.int .i64 t.initial])) (hT : Tabs W) :
  Calls Tryz.prog 12 #[.agg #[vr,vd,ve,.int .i64 t.drop,.int .i64 t.order,.int .i64 t.initial],.int .i64 b] W (NewP t [vr,vd,ve,.int .i64 t.drop,.int .i64 t.order,.int .i64 t.initial] b W) := by
 obtain ⟨W1,hW1⟩ := exq (W.alloc (.cells #[vr,vd,ve,.int .i64 t.drop,.int .i64 t.order,.int .i64 t.initial] 25))
 have hb1 := bnew hW1
 have HB1 := hid hb1
 have hk1 : Blk W1 W.heap.size 25 [vr,vd,ve,.int .i64 t.drop,.int .i64 t.order,.int .i64 t.initial] := by
  rw [hW1]
  exact Blk.new W _ _
 have HK1 := hid hk1
 have HV := hid (valid_any t _ W1 (ht.below hb1) (hT.below hb1))
 obtain ⟨⟨_,_,_,e,⟨ar,cr,rfl,-⟩,⟨ad,cd,rfl,-⟩,⟨ae,ce,rfl,-⟩⟩,-⟩ := ht
 cases e
 obtain ⟨y0,y1,y2,y3,y4,y5,yz⟩ := hk1.cl6
 clear hT hb1 hk1
 go_enter Tryz.func12,Tryz.ntmps12
 go_upto_region 1 with (fail)
 rw [← hW1]
 clear hW1
 go_wp2_with fail
 refine (HV.out).mono ?_
 rintro e W2 ⟨rfl,hb2⟩
 have HB2 := hid (Below.step HB1.out hb2)
 have HK2 := HK1.out.below hb2
 clear hb2 y0 y1 y2 y3 y4 y5 yz
 obtain ⟨y0,y1,y2,y3,y4,y5,yz⟩ := HK2.cl6
 clear HK2
 cases hv : Rw.valid t with
 | false =>
  have HN := hid (show newOk t b = false by unfold newOk; rw [hv]; rfl)
  clear hv
  go_wp2_with fail
  go_ret2
  exact ⟨HB2.out,.inl ⟨HN.out,rfl⟩⟩
 | true =>
  by_cases h0 : b < 0
  ·have g0 : decide (b < 0) = true := decide_eq_true h0
   have HN := hid (show newOk t b = false by unfold newOk; rw [hv,decide_eq_false (show ¬ 0 ≤ b by omega)]; rfl)
   clear hv
   go_wp2_with fail
   go_ret2
   exact ⟨HB2.out,.inl ⟨HN.out,rfl⟩⟩
  ·have g0 : decide (b < 0) = false := decide_eq_false h0
   by_cases h1 : 100000 < b
   ·have g1 : decide (100000 < b) = true := decide_eq_true h1
    have HN := hid (show newOk t b = false by unfold newOk; rw [hv,decide_eq_true (show 0 ≤ b by omega),decide_eq_false (show ¬ b ≤ 100000 by omega)]; rfl)
    clear hv
    go_wp2_with fail
    go_ret2
    exact ⟨HB2.out,.inl ⟨HN.out,rfl⟩⟩
   ·have g1 : decide (100000 < b) = false := decide_eq_false h1
    have HN := hid (show newOk t b = true by unfold newOk; rw [hv,decide_eq_true (show 0 ≤ b by omega),decide_eq_true (show b ≤ 100000 by omega)]; rfl)
    clear hv h0 h1
    have hmm := @run_makeMap Tryz.prog
    go_wp2_with fail
    go_ret2
    have hz := HB2.out.size
    exact ⟨((HB2.out.alloc hz _).alloc (by simp; omega) _).alloc (by simp; omega) _,.inr ⟨HN.out,W2.heap.size + 2,W2.heap.size,W2.heap.size + 1,rfl,hz,by omega,by omega,fun Q => ix_made W2 t [.slice ar t.rules.length cr,.slice ad t.drops.length cd,.slice ae t.ends.length ce,.int .i64 t.drop,.int .i64 t.order,.int .i64 t.initial] b Q⟩⟩
theorem Tryz.infoNameC : (Tryz.prog.info? 46).map (fun i => (i.zero,i.size,i.bytes)) = some (some (.agg #[.int .i64 0,.slice none 0 0]),2,32) := by kernel_rfl
theorem Tryz.infoStC : (Tryz.prog.info? 9).map (fun i => (i.zero,i.size,i.bytes)) = some (some (.string ⟨#[]⟩),1,16) := by kernel_rfl
def OwnP {α : Type} (e : TypeId) (sz : Nat) (cells : α → List Value) (l : List α) (W : World) (en : Ending) (W' : World) : Prop :=
 ∃ v,en = .returned v ∧ W'.ownsRow W.heap.size e sz v l.length (l.flatMap cells) ∧ Below W.heap.size W W'
theorem str_one (l : List (List UInt8)) : ∀ u ∈ l.flatMap strC,u.oneCell' = true := by
 intro u hu
 obtain ⟨p,_,hp⟩ := List.mem_flatMap.1 hu
 simp [strC] at hp
 subst hp
 rfl
theorem nm_one (l : List (Li.Nm × Value)) (h : ∀ p ∈ l,p.2.oneCell' = true) : ∀ u ∈ l.flatMap nmC,u.oneCell' = true := by
 intro u hu
 obtain ⟨p,hp,hx⟩ := List.mem_flatMap.1 hu
 simp [nmC] at hx
 rcases hx with rfl | rfl
 ·rfl
 ·exact h p hp
set_option maxRecDepth 100000 in
set_option maxHeartbeats 1000000 in
theorem cloneN_any (l : List (Li.Nm × Value)) (v : Value) (w : World) (h : SlOf w v 2 nmC l) (h1 : ∀ p ∈ l,p.2.oneCell' = true) (hl : l.length ≤ 1000000) : Calls Tryz.prog 58 #[v] w (OwnP 46 2 nmC l w) := by
 obtain ⟨i0,hi,hz0,hz1,hz2⟩ := info_parts Tryz.infoNameC
 obtain ⟨a,cap,rfl,k1,k2,h3⟩ := h
 have hnl := _root_.Go.run_eql_slice_nil (P := Tryz.prog) w 28 46 a l.length cap Tryz.underlying28
 have HO := hid (nm_one l h1)
 cases a with
 | some ad =>
  have HC := hid (show ∀ j u,(l.flatMap nmC)[j]? = some u → (w.alloc (.cells #[] 46)).cell? (ad.add j) = some u by
   by_cases h0 : 0 < l.length
   ·obtain ⟨g,o,e,hr⟩ := h3 h0
    cases e
    exact flatCells (cells := nmC) (sz := 2) (fun x => rfl) (hr.below ((Below.refl _ w).alloc (Nat.le_refl _) (.cells #[] 46)))
   ·have : l = [] := List.length_eq_zero_iff.1 (by omega)
    subst this
    intro j u hu
    simp at hu)
  have hown : (w.alloc (.cells #[] 46)).ownsRow w.heap.size 46 2 (.slice (some ⟨w.heap.size,0,none⟩) 0 0) 0 [] := World.ownsRow_made w #[] 0 (Nat.le_refl _) (by unfold maxLen; omega) rfl
  have hb : Below w.heap.size w (w.alloc (.cells #[] 46)) := (Below.refl _ w).alloc (Nat.le_refl _) _
  have HL := hid (flatLen (cells := nmC) (sz := 2) l (fun x => rfl))
  rw [show (some ad).isNone = false from rfl] at hnl
  clear h3
  go_enter Tryz.func58,Tryz.ntmps58
  go_wp2_with (at_builtin; refine wpList_append_own _ rfl _ _ 28 rfl w.heap.size 46 i0 (.agg #[.int .i64 0,.slice none 0 0]) 2 32 Tryz.underlying28 hi hz0 hz1 hz2 rfl (by decide) _ _ _ rfl hown _ _ _ (l.flatMap nmC) rfl HL.out HC.out HO.out (by unfold maxLen; omega) (by omega) (by simp) ?_; intro v' w' ho hg hnn)
  go_ret
  rw [Nat.zero_add,List.nil_append] at ho
  exact ⟨v',rfl,ho,Below.appended hb hg (by simp) hown⟩
 | none =>
  rw [show (none : Option Addr).isNone = true from rfl] at hnl
  have HN := hid (show l = [] by
   by_cases h0 : 0 < l.length
   ·obtain ⟨g,o,e,hr⟩ := h3 h0
    cases e
   ·exact List.length_eq_zero_iff.1 (by omega))
  clear h3
  go_enter Tryz.func58,Tryz.ntmps58
  go_wp2
  go_ret
  refine ⟨_,rfl,?_,Below.refl _ _⟩
  rw [HN.out]
  exact World.ownsRow_nil _ _ _ _
set_option maxRecDepth 100000 in
set_option maxHeartbeats 1000000 in
theorem cloneT_any (l : List (List UInt8)) (v : Value) (w : World) (h : SlOf w v 1 strC l) (hl : l.length ≤ 1000000) : Calls Tryz.prog 59 #[v] w (OwnP 9 1 strC l w) := by
 obtain ⟨i0,hi,hz0,hz1,hz2⟩ := info_parts Tryz.infoStC
 obtain ⟨a,cap,rfl,k1,k2,h3⟩ := h
 have hnl := _root_.Go.run_eql_slice_nil (P := Tryz.prog) w 27 9 a l.length cap Tryz.underlying27
 have HO := hid (str_one l)
 cases a with
 | some ad =>
  have HC := hid (show ∀ j u,(l.flatMap strC)[j]? = some u → (w.alloc (.cells #[] 9)).cell? (ad.add j) = some u by
   by_cases h0 : 0 < l.length
   ·obtain ⟨g,o,e,hr⟩ := h3 h0
    cases e
    exact flatCells (cells := strC) (sz := 1) (fun x => rfl) (hr.below ((Below.refl _ w).alloc (Nat.le_refl _) (.cells #[] 9)))
   ·have : l = [] := List.length_eq_zero_iff.1 (by omega)
    subst this
    intro j u hu
    simp at hu)
  have hown : (w.alloc (.cells #[] 9)).ownsRow w.heap.size 9 1 (.slice (some ⟨w.heap.size,0,none⟩) 0 0) 0 [] := World.ownsRow_made w #[] 0 (Nat.le_refl _) (by unfold maxLen; omega) rfl
  have hb : Below w.heap.size w (w.alloc (.cells #[] 9)) := (Below.refl _ w).alloc (Nat.le_refl _) _
  have HL := hid (flatLen (cells := strC) (sz := 1) l (fun x => rfl))
  rw [show (some ad).isNone = false from rfl] at hnl
  clear h3
  go_enter Tryz.func59,Tryz.ntmps59
  go_wp2_with (at_builtin; refine wpList_append_own _ rfl _ _ 27 rfl w.heap.size 9 i0 (.string ⟨#[]⟩) 1 16 Tryz.underlying27 hi hz0 hz1 hz2 rfl (by decide) _ _ _ rfl hown _ _ _ (l.flatMap strC) rfl HL.out HC.out HO.out (by unfold maxLen; omega) (by omega) (by simp) ?_; intro v' w' ho hg hnn)
  go_ret
  rw [Nat.zero_add,List.nil_append] at ho
  exact ⟨v',rfl,ho,Below.appended hb hg (by simp) hown⟩
 | none =>
  rw [show (none : Option Addr).isNone = true from rfl] at hnl
  have HN := hid (show l = [] by
   by_cases h0 : 0 < l.length
   ·obtain ⟨g,o,e,hr⟩ := h3 h0
    cases e
   ·exact List.length_eq_zero_iff.1 (by omega))
  clear h3
  go_enter Tryz.func59,Tryz.ntmps59
  go_wp2
  go_ret
  refine ⟨_,rfl,?_,Below.refl _ _⟩
  rw [HN.out]
  exact World.ownsRow_nil _ _ _ _
theorem flat_nm {l : List (Li.Nm × Value)} {k : Nat} {q : Li.Nm × Value} (hq : l[k]? = some q) (u : Value) : (l.flatMap nmC).set (k * 2 + 1) u = (l.set k (q.1,u)).flatMap nmC := by
 induction l generalizing k with
 | nil => simp at hq
 | cons x l ih =>
  cases k with
  | zero =>
   simp at hq; subst hq
   simp [nmC]
  | succ k =>
   have h2 := ih (k := k) (by simpa using hq)
   rw [List.set_cons_succ,List.flatMap_cons,List.flatMap_cons,← h2]
   rw [show (k + 1) * 2 + 1 = (k * 2 + 1) + 2 by omega]
   simp [nmC]
def CopyP (id : List UInt8) (ns : List Li.Nm) (W : World) (e : Ending) (W' : World) : Prop :=
 ∃ v,e = .returned (.agg #[.string (bs id),v]) ∧ NmsQ (fun k => W.heap.size ≤ k) W' v ns ∧ Below W.heap.size W W'
theorem owns_other {W W' : World} {B B2 : Nat} {e e2 : TypeId} {z z2 n n2 : Nat} {v u : Value} {xs ys : List Value} (h : W.ownsRow B e z v n xs) (g : W.ownsRow B2 e2 z2 u n2 ys) (hg : W.grownBy W' u.ownBlock) (hne : e ≠ e2) : W'.ownsRow B e z v n xs := by
 refine ⟨h.1,?_⟩
 rcases h.2 with h2 | ⟨q,cap,cur,rfl,hq,hh,r⟩
 ·exact .inl h2
 ·refine .inr ⟨q,cap,cur,rfl,hq,(hg.block q (Array.getElem?_eq_some_iff.1 hh).1 (fun e' => ?_)).trans hh,r⟩
  rcases g.2 with ⟨g2,-⟩ | ⟨q2,cap2,cur2,rfl,hq2,hh2,r2⟩
  ·rw [g2] at e'; cases e'
  ·cases e'
   rw [hh] at hh2
   cases hh2
   exact hne rfl
structure CpN (B : Nat) (v : Value) (qs : List (Li.Nm × Value)) (W : World) : Prop where
 own : W.ownsRow B 46 2 v qs.length (qs.flatMap nmC)
 ws : ∀ q ∈ qs,W.ownsRow B 9 1 q.2 q.1.words.length (q.1.words.flatMap strC)
theorem CpN.below {B : Nat} {v : Value} {qs : List (Li.Nm × Value)} {w w' : World} (h : CpN B v qs w) (hb : Below w.heap.size w w') : CpN B v qs w' := ⟨ownsRow_below h.own hb,fun q hq => ownsRow_below (h.ws q hq) hb⟩
theorem CpN.mono {B B' : Nat} {v : Value} {qs : List (Li.Nm × Value)} {w : World} (h : CpN B v qs w) (hb : B' ≤ B) : CpN B' v qs w := ⟨ownsRow_base h.own hb,fun q hq => ownsRow_base (h.ws q hq) hb⟩
def CpyP (id : List UInt8) (ns : List Li.Nm) (W : World) (e : Ending) (W' : World) : Prop :=
 ∃ v qs,e = .returned (.agg #[.string (bs id),v]) ∧ qs.map Prod.fst = ns ∧ CpN W.heap.size v qs W' ∧ Below W.heap.size W W'
set_option maxRecDepth 100000 in
set_option maxHeartbeats 8000000 in
theorem clone_own (id : List UInt8) (ns : List Li.Nm) (v : Value) (W : World) (h : NmSl W v ns) (hn : ns.length ≤ 1000) (hw : ∀ n ∈ ns,n.words.length ≤ 1000) : Calls Tryz.prog 35 #[.agg #[.string (bs id),v]] W (CpyP id ns W) := by
 obtain ⟨ps,hps,hsl,hat⟩ := h
 obtain ⟨W1,hW1⟩ := exq ((W.alloc (.cells #[.string (bs id),v] 40)).alloc (.cells #[.string ⟨#[]⟩,.slice none 0 0] 40))
 have hb1 : Below W.heap.size W W1 := by rw [hW1]; exact ((Below.refl _ W).alloc (Nat.le_refl _) _).alloc (by simp) _
 have hk1 : Blk W1 W.heap.size 40 [.string (bs id),v] := by rw [hW1]; exact (Blk.new W _ _).below ((Below.refl _ _).alloc (Nat.le_refl _) _)
 have hk2 : Blk W1 (W.heap.size + 1) 40 [.string ⟨#[]⟩,.slice none 0 0] := by
  rw [hW1]
  have := Blk.new (W.alloc (.cells #[.string (bs id),v] 40)) 40 [.string ⟨#[]⟩,.slice none 0 0]
  rwa [World.size_alloc] at this
 have hpl : ps.length = ns.length := by rw [← hps,List.length_map]
 have h1 : ∀ p ∈ ps,p.2.oneCell' = true := fun p hp => by
  obtain ⟨a,c,e,-⟩ := hat p hp
  rw [e]; rfl
 have HC := hid (cloneN_any ps v W1 (hsl.below hb1) h1 (by omega))
 have HB1 := hid hb1
 have HK1 := hid hk1
 have HK2 := hid hk2
 have HPS := hid hps
 have HAT := hid (show ∀ p ∈ ps,SlOf W p.2 1 strC p.1.words from hat)
 have HWL := hid (show ∀ p ∈ ps,p.1.words.length ≤ 1000 from fun p hp => hw p.1 (by rw [← hps]; exact List.mem_map_of_mem hp))
 have HPL := hid hpl
 obtain ⟨av,cv,rfl,-⟩ := hsl
 obtain ⟨y0,y1,-⟩ := hk1.cl2
 have yf := hk1.frozen 1
 have yz := hk1.lt
 clear hb1 hk1 hk2 hps hat h1 hw hpl
 go_enter Tryz.func35,Tryz.ntmps35
 go_upto_region 1 with (fail)
 rw [← hW1]
 clear hW1
 go_wp2_with fail
 refine (HC.out).mono ?_
 rintro e w1 ⟨out,rfl,ho1,hb1⟩
 have HR := hid ho1
 have HW1 := hid hb1
 obtain ⟨oa,oc,hoe⟩ := ownsRow_slice ho1
 subst hoe
 have hk := HK1.out.below hb1
 obtain ⟨z0,z1,-⟩ := hk.cl2
 have zf := hk.frozen 1
 have zz := hk.lt
 obtain ⟨W2,hW2⟩ := exq (w1.setCell ⟨W.heap.size,1,none⟩ (.slice oa ps.length oc))
 have HK3 := hid (show Blk W2 W.heap.size 40 [.string (bs id),.slice oa ps.length oc] by rw [hW2]; exact hk.set 1 _)
 have HK4 := hid (show Blk W2 (W.heap.size + 1) 40 [.string ⟨#[]⟩,.slice none 0 0] by rw [hW2]; exact (HK2.out.below hb1).other (by omega) _)
 have HBW := hid (show Below W.heap.size W W2 by rw [hW2]; exact (Below.step HB1.out hb1).setCell (p := ⟨W.heap.size,1,none⟩) (Nat.le_refl _) _)
 have HRO := hid (show W2.ownsRow W1.heap.size 46 2 (.slice oa ps.length oc) ps.length (ps.flatMap nmC) by rw [hW2]; exact ownsRow_setCell_below ho1 (a := ⟨W.heap.size,1,none⟩) (by have := HK2.out.lt; show W.heap.size < W1.heap.size; omega) _)
 have HPA := hid (show ∀ p ∈ ps,SlIn W2 p.2 (fun b => b < W.heap.size) 1 strC p.1.words from fun p hp => ((HAT.out p hp).slIn).below HBW.out)
 have HLT1 := hid (show W.heap.size + 1 < W1.heap.size from HK2.out.lt)
 have hp9 : ps.length ≤ 1000 := by rw [HPL.out]; exact hn
 clear ho1 hb1 hk HC y0 y1 yf yz
 go_upto_region 2 with (fail)
 rw [← hW2]
 clear hW2 z0 z1 zf zz
 obtain ⟨z0,z1,zz⟩ := HK3.out.cl2
 go_wp2_with fail
 go_loopw [11] (fun kv wr => ∃ (k : Nat) (qs : List (Li.Nm × Value)),k ≤ ps.length ∧ kv = .int .i64 k ∧ Hid (qs.map Prod.fst = ns ∧ wr.ownsRow W1.heap.size 46 2 (.slice oa ps.length oc) ps.length (qs.flatMap nmC) ∧ (∀ i q,qs[i]? = some q → i < k → wr.ownsRow W1.heap.size 9 1 q.2 q.1.words.length (q.1.words.flatMap strC)) ∧
  (∀ i q,qs[i]? = some q → k ≤ i → SlIn wr q.2 (fun b => b < W.heap.size) 1 strC q.1.words)) ∧ Hid (Blk wr W.heap.size 40 [.string (bs id),.slice oa ps.length oc] ∧ Blk wr (W.heap.size + 1) 40 [.string ⟨#[]⟩,.slice none 0 0] ∧ Below W.heap.size W wr)) (fun kv _ => ps.length - (RowKit.intOf kv).toNat)
 case atStart => exact ⟨0,ps,Nat.zero_le _,rfl,hid ⟨HPS.out,HRO.out,fun i q _ h => by omega,fun i q hq _ => HPA.out q (List.mem_of_getElem? hq)⟩,hid ⟨HK3.out,HK4.out,HBW.out⟩⟩
 case round =>
  clear z0 z1 zz
  obtain ⟨k,qs,hk,rfl,HQ,HB⟩ := hrel
  rename World => wr
  have HQL := hid (show qs.length = ps.length by have := congrArg List.length HQ.out.1; rw [List.length_map] at this; rw [this,HPL.out])
  by_cases hlt : k < ps.length
  ·obtain ⟨q,hq⟩ : ∃ q,qs[k]? = some q := ⟨_,List.getElem?_eq_getElem (by rw [HQL.out]; exact hlt)⟩
   have hwl : q.1.words.length ≤ 1000 := by
    have h1 : (qs.map Prod.fst)[k]? = some q.1 := by rw [List.getElem?_map,hq]; rfl
    rw [HQ.out.1,← HPS.out,List.getElem?_map] at h1
    cases h2 : ps[k]? with
    | none => rw [h2] at h1; cases h1
    | some q' =>
     rw [h2] at h1
     simp at h1
     have := HWL.out q' (List.mem_of_getElem? h2)
     rw [h1] at this
     exact this
   have hslq := HQ.out.2.2.2 k q hq (Nat.le_refl _)
   obtain ⟨qa,qc,hqv⟩ := hslq.slice
   have hrow := HQ.out.2.1
   rw [← HQL.out] at hrow
   obtain ⟨a',cap',ea,-,-,h4⟩ := SlIn.own hrow (fun x _ => rfl)
   rw [HQL.out] at ea h4
   cases ea
   obtain ⟨g,o,rfl,hgo,hr⟩ := h4 (by omega)
   have ho0 : o = 0 := by
    rcases hrow.2 with ⟨h1,_⟩ | ⟨g',cap,cur,h1,_⟩
    ·cases h1
    ·simp only [Value.slice.injEq,Option.some.injEq,Addr.mk.injEq] at h1
     exact h1.1.2.1
   subst ho0
   have e1 := hr.2 k q hq 1 _ rfl
   rw [hqv,Nat.zero_add] at e1
   have hg := hr.1
   have hk0 : (0 : Int) ≤ (k : Int) := by omega
   have hk1 : (k : Int) < (ps.length : Int) := by omega
   have hgw : W1.heap.size ≤ g := (HQ.out.2.1.lt g rfl).1
   have HCP := hid (cloneT_any q.1.words q.2 wr.drew (hslq.slOf.below (Below.refl _ wr).drew) (by omega))
   rw [hqv] at HCP
   have HQQ := hid (And.intro hq hqv)
   have z1 := HB.out.1.cell (j := 1) rfl
   have zz := HB.out.1.lt
   have hne : ¬ W.heap.size = g := by have := HLT1.out; omega
   have HGW := hid hgw
   clear hq hslq hqv hrow h4 hr hgo
   go_upto_region 5 with (fail)
   refine wp_heldS (S := HeldC 12 (fun X => X.cell? ⟨g,k * 2 + 1,none⟩ = some (.slice qa q.1.words.length qc)) (fun b => b = g) wr) (by kernel_rfl) ?_
   simp only [List.size_toArray,List.length_cons,List.length_nil,Nat.reduceAdd]
   intro hc
   have S0 : HeldC 12 (fun X => X.cell? ⟨g,k * 2 + 1,none⟩ = some (.slice qa q.1.words.length qc)) (fun b => b = g) wr (Array.replicate 13 false) wr.drew := ⟨.inr e1,(Tch.refl _ wr).step (Below.refl _ _).drew⟩
   refine tkI (i := 0) (v := .pointer (some ⟨W.heap.size,1,none⟩)) rfl hc (fun wx hx => ?_) S0 (fun hc S0 => ?_) (hSi := fun _ _ => HeldC.set_ (by decide) _ _)
   ·go_simp
   try simp only [tk1,tk3,Act.put,tk4,tk5,tk6]
   refine tkI (i := 1) (v := .slice (some ⟨g,0,none⟩) ps.length oc) rfl hc (fun wx hx => ?_) S0 (fun hc S0 => ?_) (hSi := fun _ _ => HeldC.set_ (by decide) _ _)
   ·have y := (World.cell?_of_block (a := ⟨W.heap.size,1,none⟩) (hx.tee.block _ zz hne)).trans z1
    go_simp
   try simp only [tk1,tk2,tk3,Act.put,tk4,tk5,tk6]
   refine tkI (i := 2) (v := .int .i64 k) rfl hc (fun wx hx => ?_) S0 (fun hc S0 => ?_) (hSi := fun _ _ => HeldC.set_ (by decide) _ _)
   ·go_simp
   try simp only [tk1,tk2,tk3,Act.put,tk4,tk5,tk6]
   refine tkI (i := 3) (v := .pointer (some ⟨W.heap.size,1,none⟩)) rfl hc (fun wx hx => ?_) S0 (fun hc S0 => ?_) (hSi := fun _ _ => HeldC.set_ (by decide) _ _)
   ·go_simp
   try simp only [tk1,tk2,tk3,Act.put,tk4,tk5,tk6]
   refine tkI (i := 4) (v := .slice (some ⟨g,0,none⟩) ps.length oc) rfl hc (fun wx hx => ?_) S0 (fun hc S0 => ?_) (hSi := fun _ _ => HeldC.set_ (by decide) _ _)
   ·have y := (World.cell?_of_block (a := ⟨W.heap.size,1,none⟩) (hx.tee.block _ zz hne)).trans z1
    go_simp
   try simp only [tk1,tk2,tk3,Act.put,tk4,tk5,tk6]
   refine tkI (i := 5) (v := .int .i64 k) rfl hc (fun wx hx => ?_) S0 (fun hc S0 => ?_) (hSi := fun _ _ => HeldC.set_ (by decide) _ _)
   ·go_simp
   try simp only [tk1,tk2,tk3,Act.put,tk4,tk5,tk6]
   refine tkI (i := 6) (v := .pointer (some ⟨g,k * 2,none⟩)) rfl hc (fun wx hx => ?_) S0 (fun hc S0 => ?_) (hSi := fun _ _ => HeldC.set_ (by decide) _ _)
   ·go_simp
   try simp only [tk1,tk2,tk3,Act.put,tk4,tk5,tk6]
   refine tkI (i := 7) (v := .pointer (some ⟨g,k * 2 + 1,none⟩)) rfl hc (fun wx hx => ?_) S0 (fun hc S0 => ?_) (hSi := fun _ _ => HeldC.set_ (by decide) _ _)
   ·go_simp
   try simp only [tk1,tk2,tk3,Act.put,tk4,tk5,tk6]
   refine tkI (i := 8) (v := .slice qa q.1.words.length qc) rfl hc (fun wx hx => ?_) S0 (fun hc S0 => ?_) (hSi := fun _ _ => HeldC.set_ (by decide) _ _)
   ·have y := hx.cee (n := 16) (by kernel_rfl)
    go_simp
   try simp only [tk1,tk2,tk3,Act.put,tk4,tk5,tk6]
   refine onI (i := 9) rfl hc (fun K' hK => ?_)
   go_simp
   refine (HCP.out).mono ?_
   rintro e2 w2 ⟨vn,rfl,ho2,hb2⟩
   have hb3 : Below wr.heap.size wr w2 := Below.step (Below.refl _ wr).drew hb2
   have e3 : w2.cell? ⟨g,k * 2 + 1,none⟩ = some (.slice qa q.1.words.length qc) := (hb3.cell (p := ⟨g,k * 2 + 1,none⟩) hg).trans e1
   refine hK.out _ _ ⟨.inr e3,Tch.of_below hb3 _⟩ (fun hc => ?_)
   clear hK K'
   have S0 : HeldC 12 (fun X => X.cell? ⟨g,k * 2 + 1,none⟩ = some (.slice qa q.1.words.length qc)) (fun b => b = g) wr #[] w2 := ⟨.inr e3,Tch.of_below hb3 _⟩
   try simp only [tk1,tk2,tk3,Act.put,tk4,tk5,tk6]
   refine tkI (i := 10) (v := .pointer (some ⟨g,k * 2,none⟩)) rfl hc (fun wx hx => ?_) S0 (fun hc S0 => ?_) (hSi := fun _ _ => HeldC.set_ (by decide) _ _)
   ·go_simp
   try simp only [tk1,tk2,tk3,Act.put,tk4,tk5,tk6]
   refine tkI (i := 11) (v := .pointer (some ⟨g,k * 2 + 1,none⟩)) rfl hc (fun wx hx => ?_) S0 (fun hc S0 => ?_) (hSi := fun _ _ => HeldC.set_ (by decide) _ _)
   ·go_simp
   try simp only [tk1,tk2,tk3,Act.put,tk4,tk5,tk6]
   obtain ⟨na,nc,hne2⟩ := ownsRow_slice ho2
   subst hne2
   have f3 : w2.frozen? ⟨g,k * 2 + 1,none⟩ = false := (ownsRow_below HQ.out.2.1 hb3).frozenAt _
   have hg2 : g < w2.heap.size := Nat.lt_of_lt_of_le hg hb3.size
   clear S0
   refine onI (i := 12) rfl hc (fun K' hK => ?_)
   go_simp
   refine hK.out _ _ ⟨.inl rfl,(Tch.of_below hb3 (fun b => b = g)).setCell (a := ⟨g,k * 2 + 1,none⟩) (.inl rfl) _⟩ (fun hc => ?_)
   clear hK K'
   try simp only [tk1,tk2,tk3,Act.put,tk4,tk5,tk6]
   refine wpAnyS_done (by kernel_rfl) ?_ _
   have H2 := hid (And.intro hb3 (And.intro (show w2.ownsRow wr.heap.size 9 1 (.slice na q.1.words.length nc) q.1.words.length (q.1.words.flatMap strC) from ho2) (ownsRow_below HQ.out.2.1 hb3)))
   have HWR := hid (show W.heap.size ≤ wr.heap.size ∧ W1.heap.size ≤ wr.heap.size from ⟨HB.out.2.2.size,by omega⟩)
   have HNE := hid hne
   have HGL := hid (show g < wr.heap.size from hg)
   clear hb2 hb3 ho2 e1 e3 f3 hc HCP z1 zz
   go_wp2_with fail
   go_roundw
   case rel =>
    obtain ⟨hb2,ho2,hrow2⟩ := H2.out
    have a9 : W.heap.size + 1 < W1.heap.size := HLT1.out
    have a8 : W1.heap.size ≤ g := HGW.out
    have a7 : ¬ W.heap.size + 1 = g := by omega
    have hq := HQQ.out.1
    have hkl := (List.getElem?_eq_some_iff.1 hq).1
    have hst := (hrow2.stored (k * 2 + 1) (.slice na q.1.words.length nc)).1
    rw [flat_nm hq] at hst
    have t2 : Tch (fun x => x = g) wr (w2.setCell ⟨g,k * 2 + 1,none⟩ (.slice na q.1.words.length nc)) := (Tch.of_below hb2 (fun x => x = g)).setCell (a := ⟨g,k * 2 + 1,none⟩) (.inl rfl) _
    have t3 : Tch (fun x => x = g) w2 (w2.setCell ⟨g,k * 2 + 1,none⟩ (.slice na q.1.words.length nc)) := (Tch.refl (fun x => x = g) w2).setCell (a := ⟨g,k * 2 + 1,none⟩) (.inl rfl) _
    refine ⟨k + 1,qs.set k (q.1,.slice na q.1.words.length nc),by omega,by go_num,hid ⟨?_,hst,?_,?_⟩,hid ⟨(HB.out.1.below hb2).other HNE.out _,(HB.out.2.1.below hb2).other a7 _,?_⟩⟩
    ·rw [List.map_set,← HQ.out.1]
     refine List.ext_getElem? fun i => ?_
     rw [List.getElem?_set]
     split
     ·rename_i h; subst h
      rw [List.getElem?_map,hq]
      simp [hkl]
     ·rfl
    ·intro i q' hq' hi
     rw [List.getElem?_set] at hq'
     split at hq'
     ·rename_i h
      subst h
      try rw [if_pos hkl] at hq'
      cases hq'
      exact ownsRow_base (owns_other ho2 hrow2 (set_grown_at w2 g (k * 2 + 1) _) (by decide)) HWR.out.2
     ·exact owns_other (ownsRow_below (HQ.out.2.2.1 i q' hq' (by omega)) hb2) hrow2 (set_grown_at w2 g (k * 2 + 1) _) (by decide)
    ·intro i q' hq' hi
     rw [List.getElem?_set,if_neg (by omega)] at hq'
     exact (HQ.out.2.2.2 i q' hq' (by omega)).tch t2 (fun x hx e => by have a1 := HLT1.out; have a2 := HGW.out; omega)
    ·exact HB.out.2.2.trans (t2.below HB.out.2.2.size (fun x e => by have e' : x = g := e; omega))
   case measure => simp [RowKit.intOf]; omega
  ·have hke : k = ps.length := by omega
   obtain ⟨z0,z1,zz⟩ := HB.out.1.cl2
   obtain ⟨q0,q1,qf0,qf1,qz⟩ := HB.out.2.1.cf2
   have HKE := hid hke
   clear hke hlt
   have hk1 : ¬ (k : Int) < (ps.length : Int) := by have := HKE.out; omega
   go_wp2_with fail
   obtain ⟨W9,hW9⟩ := exq ((wr.setCell ⟨W.heap.size + 1,0,none⟩ (.string (bs id))).setCell ⟨W.heap.size + 1,1,none⟩ (.slice oa ps.length oc))
   rw [← hW9]
   have h9 : Blk W9 (W.heap.size + 1) 40 [.string (bs id),.slice oa ps.length oc] := by rw [hW9]; exact (HB.out.2.1.set 0 _).set 1 _
   have hb9 : Below W.heap.size W W9 := by rw [hW9]; exact (HB.out.2.2.setCell (p := ⟨W.heap.size + 1,0,none⟩) (by simp) _).setCell (p := ⟨W.heap.size + 1,1,none⟩) (by simp) _
   have t9 : Tch (fun x => x = W.heap.size + 1) wr W9 := by rw [hW9]; exact ((Tch.refl (fun x => x = W.heap.size + 1) wr).setCell (a := ⟨W.heap.size + 1,0,none⟩) (.inl rfl) _).setCell (a := ⟨W.heap.size + 1,1,none⟩) (.inl rfl) _
   refine bodyPost_ret (results_cell_row rfl _ _ (W.heap.size + 1) 40 _ (0,0) _ rfl h9 Tryz.underlying40 rfl (by kernel_rfl)) rfl ?_
   obtain ⟨g1,g2,g3,g4⟩ := HQ.out
   have hlt1 := HLT1.out
   have k9 : ∀ {e z v m xs},wr.ownsRow W1.heap.size e z v m xs → W9.ownsRow W.heap.size e z v m xs := fun h => by
    rw [hW9]
    exact ownsRow_base (kept_at (kept_at h (set_grown_at wr (W.heap.size + 1) 0 _) (by omega)) (set_grown_at _ (W.heap.size + 1) 1 _) (by omega)) (by omega)
   refine ⟨_,qs,rfl,g1,⟨by rw [← HQL.out] at g2 ⊢; exact k9 g2,fun q hq => ?_⟩,hb9⟩
   obtain ⟨i,hi⟩ := List.getElem?_of_mem hq
   have hil := (List.getElem?_eq_some_iff.1 hi).1
   exact k9 (g3 i q hi (by rw [HKE.out,← HQL.out]; exact hil))
theorem clone_any (id : List UInt8) (ns : List Li.Nm) (v : Value) (W : World) (h : NmSl W v ns) (hn : ns.length ≤ 1000) (hw : ∀ n ∈ ns,n.words.length ≤ 1000) : Calls Tryz.prog 35 #[.agg #[.string (bs id),v]] W (CopyP id ns W) := by
 refine (clone_own id ns v W h hn hw).mono ?_
 rintro e W' ⟨u,qs,rfl,hqs,hc,hb⟩
 exact ⟨u,rfl,⟨qs,hqs,SlIn.base hc.own (fun _ _ => rfl),fun p hp => SlIn.base (hc.ws p hp) (fun _ _ => rfl)⟩,hb⟩
theorem zero_entry (w : World) : (zeroValue 40).run Tryz.prog w = .ok (.agg #[.string ⟨#[]⟩,.slice none 0 0]) w := by kernel_rfl
theorem ok_strike {P : List (Li.En × Value)} (h : Idx.Ok (P.map Prod.fst)) (id : List UInt8) : Idx.Ok ((Idx.strike P id).map Prod.fst) := by
 rw [Idx.strike_map]
 exact ⟨fun e he => h.prop e (List.mem_filter.1 he).1,(List.filter_sublist.map _).nodup h.once,Nat.le_trans (List.length_filter_le _ _) h.few⟩
def DropP (px eb cb : Nat) (t : Rw.Table) (tc : List Value) (b : Int) (Q : Nat → Prop) (P : List (Li.En × Value)) (nc : Nat) (id : List UInt8) (W : World) (e : Ending) (W' : World) : Prop :=
 But W.heap.size eb W W' ∧ ((Idx.has (P.map Prod.fst) id = true ∧ e = .returned (.int .i64 0) ∧ IxAt W' px eb cb t tc b Q (Idx.strike P id) nc) ∨ (Idx.has (P.map Prod.fst) id = false ∧ e = .returned (.int .i64 11) ∧ IxAt W' px eb cb t tc b Q P nc))
set_option maxRecDepth 100000 in
set_option maxHeartbeats 4000000 in
theorem drop_any (px eb cb : Nat) (t : Rw.Table) (vr vd ve : Value) (b : Int) (Q : Nat → Prop) (P : List (Li.En × Value)) (nc : Nat) (id : List UInt8) (W : World) (h : IxAt W px eb cb t [vr,vd,ve,.int .i64 t.drop,.int .i64 t.order,.int .i64 t.initial] b Q P nc) (hs : id.length ≤ 1000000) :
  Calls Tryz.prog 16 #[.pointer (some ⟨px,0,none⟩),.string (bs id)] W (DropP px eb cb t [vr,vd,ve,.int .i64 t.drop,.int .i64 t.order,.int .i64 t.initial] b Q P nc id W) := by
 have hkl : (bs id).size ≤ maxLen := by rw [bs_len]; unfold maxLen; omega
 have hget := h.ents.mapF.getOk strF_keyed Tryz.underlying75 (zero_entry W) (strF_key hkl)
 rw [entF_bs] at hget
 have c7 := h.box.cell (j := 7) rfl
 have cz := h.box.lt
 have ez := h.ents.lt
 have HI := hid h
 have HB : ∀ x : Array Value,Hid (Below W.heap.size W (W.alloc (.cells x 40))) := fun x => (Below.refl _ W).alloc (Nat.le_refl _) _
 cases hb : Idx.byId P id with
 | none =>
  simp only [hb,Option.map_none,Option.getD_none,Option.isSome_none] at hget
  have HN := hid (Idx.byId_none.1 hb)
  clear h hb hkl
  go_enter Tryz.func16,Tryz.ntmps16
  go_wp2_with fail
  go_ret
  exact ⟨But.of_below (HB _).out _,.inr ⟨HN.out,rfl,HI.out.below (HB _).out⟩⟩
 | some p =>
  obtain ⟨a,c,e2⟩ := (h.names p (Idx.byId_some hb).1).slice
  obtain ⟨en,vv⟩ := p
  dsimp only at e2
  subst e2
  simp only [hb,Option.map_some,Option.getD_some,Option.isSome_some,enV] at hget
  obtain ⟨hp,he⟩ := Idx.byId_some hb
  have HN := hid (show Idx.has (P.map Prod.fst) id = true from Idx.has_iff.2 ⟨en,List.mem_map_of_mem (f := Prod.fst) hp,he⟩)
  have hnd : (P.map fun p => p.1.id).Nodup := by
   have := h.ok.once
   rwa [List.map_map] at this
  have hl := Idx.strike_len hnd hp
  dsimp only at hl he
  rw [he] at hl
  have hsome : (entF P (.string (bs id))).isSome = true := by rw [entF_bs,hb]; rfl
  obtain ⟨W1,hW1⟩ := exq (W.alloc (.cells #[.string (bs en.id),.slice a en.names.length c] 40))
  have hb1 : Below W.heap.size W W1 := by rw [hW1]; exact (HB _).out
  have hE := h.ents.below hb1
  rw [← hl] at hE
  obtain ⟨W2,hdel,hM2,hg2⟩ := hE.del strF_keyed Tryz.underlying75 (zero_entry _) (strF_key hkl) hsome entF_strike.1 entF_strike.2 0
  have hB2 : But W1.heap.size eb W1 W2 := But.of_grown hg2 (fun r e => (Option.some.inj e).symm)
  have HX := hid ((h.below hb1).ents_new hB2 hM2 (fun q hq => by
   have h1 := (h.below hb1).names q (List.mem_filter.1 hq).1
   obtain ⟨oe,e1,e2⟩ := (h.below hb1).ents.no_cells
   exact h1.but hB2 e1 e2) (ok_strike h.ok id))
  have HBU := hid (But.step (But.of_below hb1 eb) hB2)
  rw [hW1] at hdel
  clear h hb hkl hp he hnd hl hsome hW1 hb1 hE hM2 hg2 hB2
  go_enter Tryz.func16,Tryz.ntmps16
  go_wp2_with fail
  go_ret
  exact ⟨HBU.out,.inl ⟨HN.out,rfl,HX.out⟩⟩
end Go.Proofs.YtdghfenbfbdijaaGreatDoor
