/-
 Several texts in one: ZAs1, ZAs2, ZAs3, ZAs4, ZAs5, ZAs6, ZAs7. Conditions: as each law says.
-/
import Derived.Test.YtdghfenbfbdijaaGreatDoorZMIxp
import Derived.Test.YtdghfenbfbdijaaGreatDoorZMBase
import Derived.Test.YtdghfenbfbdijaaGreatDoorZMLexB
import Derived.Test.YtdghfenbfbdijaaGreatDoorZMAlA
import Derived.Deep.Cut
import Derived.Deep.CutRange
import Derived.Test.YtdghfenbfbdijaaGreatDoorZMBaseB
namespace As
def outside (lo hi n : Int) : Bool := decide (n < lo) || decide (hi < n)
theorem within_any (l : List Int) (lo hi : Int) : within l lo hi = !l.any (outside lo hi) := by
 unfold within outside
 induction l with
 | nil => rfl
 | cons x l ih =>
  rw [List.all_cons,List.any_cons,ih]
  by_cases h1 : x < lo
  ·rw [decide_eq_true h1,decide_eq_false (by omega)]; simp
  ·by_cases h2 : hi < x
   ·rw [decide_eq_false h1,decide_eq_true h2,decide_eq_true (show lo ≤ x by omega),decide_eq_false (show ¬ x ≤ hi by omega)]; simp
   ·rw [decide_eq_false h1,decide_eq_false h2,decide_eq_true (show lo ≤ x by omega),decide_eq_true (show x ≤ hi by omega)]; simp
end As
namespace Go.Proofs.YtdghfenbfbdijaaGreatDoor
open Go.RowKit Go.Lib Go.Maps
def intC1 (i : Int) : List Value := [.int .i64 i]
set_option maxRecDepth 100000 in
theorem outside_any (n lo hi : Int) (a b : Nat) (W : World) (ha : Blk W a 3 [.int .i64 lo]) (hb : Blk W b 3 [.int .i64 hi]) :
  Calls Tryz.prog 155 #[.int .i64 n,.pointer (some ⟨a,0,none⟩),.pointer (some ⟨b,0,none⟩)] W (Gives (.bool (As.outside lo hi n)) W) := by
 have c0 := ha.cell (j := 0) rfl
 have c1 := hb.cell (j := 0) rfl
 have z0 := ha.lt
 have z1 := hb.lt
 by_cases h1 : n < lo
 ·have g1 : decide (n < lo) = true := decide_eq_true h1
  have HE := hid (show As.outside lo hi n = true by unfold As.outside; rw [g1]; rfl)
  clear h1
  go_enter Tryz.func155,Tryz.ntmps155
  go_wp2_with fail
  go_ret
  exact ⟨ret_bool HE.out.symm,Below.refl _ _⟩
 ·have g1 : decide (n < lo) = false := decide_eq_false h1
  have HE := hid (show As.outside lo hi n = decide (hi < n) by unfold As.outside; rw [g1]; rfl)
  clear h1
  go_enter Tryz.func155,Tryz.ntmps155
  go_wp2_with fail
  go_ret
  exact ⟨ret_bool HE.out.symm,Below.refl _ _⟩
def IdxO (l : List Int) (lo hi : Int) (W : World) (e : Ending) (W' : World) : Prop :=
 Below W.heap.size W W' ∧ ∃ i : Int,e = .returned (.int .i64 i) ∧ decide (0 ≤ i) = l.any (As.outside lo hi)
set_option maxRecDepth 100000 in
set_option maxHeartbeats 2000000 in
theorem idx_out (l : List Int) (v : Value) (lo hi : Int) (a b : Nat) (W : World) (h : SlOf W v 1 intC1 l) (ha : Blk W a 3 [.int .i64 lo]) (hb : Blk W b 3 [.int .i64 hi]) (hlen : l.length ≤ 1000000) :
  Calls Tryz.prog 191 #[v,.func (.func 155) #[] #[.pointer (some ⟨a,0,none⟩),.pointer (some ⟨b,0,none⟩)]] W (IdxO l lo hi W) := by
 obtain ⟨ad,cap,rfl,h1,h2,h3⟩ := h
 have H3 := hid h3
 have HA := hid (And.intro ha hb)
 clear h3 ha hb
 go_enter Tryz.func191,Tryz.ntmps191
 go_wp2_with fail
 go_loopw [8] (fun k wr => ∃ n : Nat,n ≤ l.length ∧ k = .int .i64 n ∧ Hid ((l.take n).any (As.outside lo hi) = false) ∧ Hid (Below W.heap.size W wr)) (fun k _ => l.length - (RowKit.intOf k).toNat)
 case atStart => exact ⟨0,Nat.zero_le _,rfl,rfl,Below.refl _ _⟩
 case round =>
  obtain ⟨n,hn,rfl,HNO,HB⟩ := hrel
  by_cases hlt : n < l.length
  ·obtain ⟨g,o,rfl,hr⟩ := H3.out (by omega)
   obtain ⟨q,hq⟩ : ∃ q,l[n]? = some q := ⟨_,List.getElem?_eq_getElem hlt⟩
   have c0 := (hr.below HB.out).2 n q hq 0 _ rfl
   rw [Nat.add_zero,Nat.mul_one] at c0
   have hg := (hr.below HB.out).1
   have hn0 : (0 : Int) ≤ (n : Int) := by omega
   have hn1 : (n : Int) < (l.length : Int) := by omega
   have HC := hid (outside_any q lo hi a b wr (HA.out.1.below HB.out) (HA.out.2.below HB.out))
   have HP := hid hq
   obtain ⟨ou,hou⟩ := exq (As.outside lo hi q)
   rw [← hou] at HC
   have HOU := hid hou
   clear hr hq hou
   go_wp2_with fail
   refine (HC.out).mono ?_
   rintro e w1 ⟨rfl,hb1⟩
   have HB1 := hid (Below.step HB.out hb1)
   clear hb1
   cases ou with
   | true =>
    go_wp2_with fail
    go_ret
    refine ⟨HB1.out,(n : Int),rfl,?_⟩
    rw [show l.any (As.outside lo hi) = true from List.any_eq_true.2 ⟨q,List.mem_of_getElem? HP.out,HOU.out.symm⟩]
    simp
   | false =>
    have HNX := hid (show (l.take (n + 1)).any (As.outside lo hi) = false by
     rw [List.take_add_one,HP.out,List.any_append,HNO.out]
     simp [← HOU.out])
    go_wp2_with fail
    go_roundw
    case rel => exact ⟨n + 1,by omega,by go_num,HNX,HB1⟩
    case measure => simp [RowKit.intOf]; omega
  ·have hne : n = l.length := by omega
   have HE := hid (show l.any (As.outside lo hi) = false by
    have := HNO.out
    rwa [hne,List.take_length] at this)
   clear hne
   go_wp2_with fail
   go_ret
   exact ⟨HB.out,-1,rfl,by rw [HE.out]; rfl⟩
set_option maxRecDepth 100000 in
set_option maxHeartbeats 2000000 in
theorem contains_out (l : List Int) (v : Value) (lo hi : Int) (a b : Nat) (W : World) (h : SlOf W v 1 intC1 l) (ha : Blk W a 3 [.int .i64 lo]) (hb : Blk W b 3 [.int .i64 hi]) (hlen : l.length ≤ 1000000) :
  Calls Tryz.prog 154 #[v,.func (.func 155) #[] #[.pointer (some ⟨a,0,none⟩),.pointer (some ⟨b,0,none⟩)]] W (Gives (.bool (l.any (As.outside lo hi))) W) := by
 have HC := hid (idx_out l v lo hi a b W h ha hb hlen)
 obtain ⟨ad,cap,rfl,h1,h2,h3⟩ := h
 clear h3 ha hb
 go_enter Tryz.func154,Tryz.ntmps154
 go_wp2_with fail
 refine (HC.out).mono ?_
 rintro e w1 ⟨hb1,i,rfl,hi⟩
 have HI := hid hi
 have HB1 := hid hb1
 clear hi hb1
 go_wp2_with fail
 go_ret
 exact ⟨ret_bool HI.out,HB1.out⟩
set_option maxRecDepth 100000 in
set_option maxHeartbeats 2000000 in
theorem within_go (l : List Int) (v : Value) (lo hi : Int) (W : World) (h : SlOf W v 1 intC1 l) (hlen : l.length ≤ 1000000) :
  Calls Tryz.prog 113 #[v,.int .i64 lo,.int .i64 hi] W (Gives (.bool (As.within l lo hi)) W) := by
 obtain ⟨W2,hW2⟩ := exq ((W.alloc (.cells #[.int .i64 lo] 3)).alloc (.cells #[.int .i64 hi] 3))
 have hb2 : Below W.heap.size W W2 := by rw [hW2]; exact ((Below.refl _ W).alloc (Nat.le_refl _) _).alloc (by simp) _
 have ha : Blk W2 W.heap.size 3 [.int .i64 lo] := by
  rw [hW2]; exact (Blk.new W _ _).below ((Below.refl _ _).alloc (Nat.le_refl _) _)
 have hb : Blk W2 (W.heap.size + 1) 3 [.int .i64 hi] := by
  rw [hW2]
  have := Blk.new (W.alloc (.cells #[.int .i64 lo] 3)) 3 [.int .i64 hi]
  rwa [World.size_alloc] at this
 have HC := hid (contains_out l v lo hi _ _ W2 (h.below hb2) ha hb hlen)
 have HB2 := hid hb2
 have HE := hid (As.within_any l lo hi)
 obtain ⟨ad,cap,rfl,h1,h2,h3⟩ := h
 obtain ⟨ou,hou⟩ := exq (l.any (As.outside lo hi))
 rw [← hou] at HC HE
 clear h3 ha hb hb2 hou
 go_enter Tryz.func113,Tryz.ntmps113
 go_wp2_with fail
 rw [← hW2]
 clear hW2
 refine (HC.out).mono ?_
 rintro e w1 ⟨rfl,hb1⟩
 have HB1 := hid (Below.step HB2.out hb1)
 clear hb1
 go_wp2_with fail
 go_ret
 exact ⟨ret_bool HE.out.symm,HB1.out⟩
def rowC (p : List Int × Value) : List Value := [p.2]
def RowsAt (W : World) (v : Value) (ps : List (List Int × Value)) : Prop := SlOf W v 1 rowC ps ∧ ∀ p ∈ ps,SlOf W p.2 1 intC1 p.1 ∧ p.1.length ≤ 1000000
theorem RowsAt.below {W W' : World} {v : Value} {ps : List (List Int × Value)} (h : RowsAt W v ps) (hb : Below W.heap.size W W') : RowsAt W' v ps := ⟨h.1.below hb,fun p hp => ⟨(h.2 p hp).1.below hb,(h.2 p hp).2⟩⟩
def rowOk (m : Nat) (row : List Int) : Bool := decide (row.length = m) && As.within row 0 100000
def okHead (c : List (List Int)) (d e : List Int) : Bool := decide (c.length = d.length) && decide (d.length ≤ 6) && decide (e.length ≤ 6) && As.within d 0 10000 && As.within e 0 10000
set_option maxRecDepth 100000 in
set_option maxHeartbeats 4000000 in
theorem valid16_any (ps : List (List Int × Value)) (d e : List Int) (vc vd ve : Value) (W : World) (hc : RowsAt W vc ps) (hd : SlOf W vd 1 intC1 d) (he : SlOf W ve 1 intC1 e) (h1 : ps.length ≤ 1000000) (h2 : d.length ≤ 1000000) (h3 : e.length ≤ 1000000) :
  Calls Tryz.prog 76 #[vc,vd,ve] W (Gives (.bool (As.valid (ps.map Prod.fst) d e)) W) := by
 have HC := hid hc
 have HWD : Hid (∀ X,Below W.heap.size W X → Calls Tryz.prog 113 #[vd,.int .i64 0,.int .i64 10000] X (Gives (.bool (As.within d 0 10000)) X)) := fun X hX => within_go d vd 0 10000 X (hd.below hX) h2
 have HWE : Hid (∀ X,Below W.heap.size W X → Calls Tryz.prog 113 #[ve,.int .i64 0,.int .i64 10000] X (Gives (.bool (As.within e 0 10000)) X)) := fun X hX => within_go e ve 0 10000 X (he.below hX) h3
 obtain ⟨⟨ac,cc,rfl,-⟩,-⟩ := hc
 obtain ⟨ad,cd,rfl,-⟩ := hd
 obtain ⟨ae,ce,rfl,-⟩ := he
 obtain ⟨n,hn⟩ := exq (ps.length)
 have HN := hid hn
 rw [← hn] at h1 ⊢
 obtain ⟨ok,hok⟩ := exq (okHead (ps.map Prod.fst) d e)
 have HOK := hid (show ok = (decide (n = d.length) && decide (d.length ≤ 6) && decide (e.length ≤ 6) && As.within d 0 10000 && As.within e 0 10000) by rw [hok,hn]; unfold okHead; rw [List.length_map])
 have HV := hid (show As.valid (ps.map Prod.fst) d e = (ok && (ps.map Prod.fst).all (rowOk e.length)) by rw [hok]; rfl)
 have hb1 := nat_beq n d.length
 clear hok hn
 go_enter Tryz.func76,Tryz.ntmps76
 go_upto_region 1 with (fail)
 go_cut [7,10,11,12,13,14,15,16,17,18,19,20,21,22,23,24,25,26,27,28,29,30,31,32] from 33 (fun v7 v10 v11 v12 v13 v14 v15 v16 v17 v18 v19 v20 v21 v22 v23 v24 v25 v26 v27 v28 v29 v30 v31 v32 wx => v7 = .bool ok ∧ Hid (Below W.heap.size W wx))
 case first =>
  by_cases g1 : n = d.length
  rotate_left
  ·rw [decide_eq_false g1] at hb1
   have HO := hid (show ok = false by rw [HOK.out,decide_eq_false g1]; rfl)
   clear g1
   go_wp2_with fail
   go_meet
   case rel => exact ⟨congrArg Value.bool HO.out.symm,Below.refl _ _⟩
  rw [decide_eq_true g1] at hb1
  have HG1 := hid (decide_eq_true g1)
  clear g1
  by_cases g2 : d.length ≤ 6
  rotate_left
  ·have k2 : decide ((d.length : Int) ≤ 6) = false := decide_eq_false (by omega)
   have HO := hid (show ok = false by rw [HOK.out,decide_eq_false g2,Bool.and_false]; rfl)
   clear g2
   go_wp2_with fail
   go_meet
   case rel => exact ⟨congrArg Value.bool HO.out.symm,Below.refl _ _⟩
  have k2 : decide ((d.length : Int) ≤ 6) = true := decide_eq_true (by omega)
  have HG2 := hid (decide_eq_true g2)
  clear g2
  by_cases g3 : e.length ≤ 6
  rotate_left
  ·have k3 : decide ((e.length : Int) ≤ 6) = false := decide_eq_false (by omega)
   have HO := hid (show ok = false by rw [HOK.out,decide_eq_false g3,Bool.and_false]; rfl)
   clear g3
   go_wp2_with fail
   go_meet
   case rel => exact ⟨congrArg Value.bool HO.out.symm,Below.refl _ _⟩
  have k3 : decide ((e.length : Int) ≤ 6) = true := decide_eq_true (by omega)
  have HO := hid (show ok = (As.within d 0 10000 && As.within e 0 10000) by rw [HOK.out,HG1.out,HG2.out,decide_eq_true g3]; rfl)
  clear g3
  obtain ⟨wd,hwd⟩ := exq (As.within d 0 10000)
  obtain ⟨we,hwe⟩ := exq (As.within e 0 10000)
  rw [← hwd] at HWD HO
  rw [← hwe] at HWE HO
  clear hwd hwe
  have HC1 := hid (HWD.out W (Below.refl _ _))
  go_wp2_with fail
  refine (HC1.out).mono ?_
  rintro e1 w1 ⟨rfl,hb1⟩
  have HB1 := hid hb1
  have HC2 := hid (HWE.out w1 hb1)
  clear hb1
  cases wd with
  | false =>
   go_wp2_with fail
   go_meet
   case rel => exact ⟨congrArg Value.bool HO.out.symm,HB1⟩
  | true =>
   go_wp2_with fail
   refine (HC2.out).mono ?_
   rintro e2 w2 ⟨rfl,hb2⟩
   have HB2 := hid (Below.step HB1.out hb2)
   clear hb2
   go_wp2_with fail
   go_meet
   case rel => exact ⟨congrArg Value.bool HO.out.symm,HB2⟩
 case rest =>
 obtain ⟨rfl,HB⟩ := hcut
 rename World => wb
 clear hb1
 go_wp2_with fail
 go_loopw [7,35] (fun ov iv wr => ∃ (k : Nat) (b : Bool),k ≤ n ∧ ov = .bool b ∧ iv = .int .i64 k ∧ Hid (b = (ok && ((ps.map Prod.fst).take k).all (rowOk e.length))) ∧ Hid (Below W.heap.size W wr)) (fun _ iv _ => n - (RowKit.intOf iv).toNat)
 case atStart => exact ⟨0,ok,Nat.zero_le _,rfl,rfl,hid (by simp),HB⟩
 case round =>
  clear HB
  obtain ⟨k,b,hk,rfl,rfl,HBB,HR⟩ := hrel
  by_cases hlt : k < n
  ·obtain ⟨p,hp⟩ : ∃ p,ps[k]? = some p := ⟨_,List.getElem?_eq_getElem (by rw [← HN.out]; exact hlt)⟩
   obtain ⟨g,o,rfl,hr⟩ : ∃ g o,ac = some ⟨g,o,none⟩ ∧ RowOf wr g o 1 rowC ps := by
    obtain ⟨a',c',e',-,-,hr⟩ := (HC.out.below HR.out).1
    cases e'
    exact hr (by rw [← HN.out]; omega)
   have c0 := hr.2 k p hp 0 _ rfl
   rw [Nat.add_zero,Nat.mul_one] at c0
   have hg := hr.1
   obtain ⟨hps,hpl⟩ := (HC.out.below HR.out).2 p (List.mem_of_getElem? hp)
   have HWR := hid (within_go p.1 p.2 0 100000 wr hps hpl)
   obtain ⟨row,v⟩ := p
   obtain ⟨ar,cr,hv,-⟩ := hps
   simp only at hv hpl HWR c0
   subst hv
   have k0 : (0 : Int) ≤ (k : Int) := by omega
   have k1 : (k : Int) < (n : Int) := by omega
   have HST := hid (show ((ps.map Prod.fst).take (k + 1)).all (rowOk e.length) = (((ps.map Prod.fst).take k).all (rowOk e.length) && rowOk e.length row) by
    rw [List.take_add_one,List.getElem?_map,hp,List.all_append]
    simp)
   have hb2 := nat_beq row.length e.length
   clear hr hp
   cases b with
   | false =>
    have HNB := hid (show false = (ok && ((ps.map Prod.fst).take (k + 1)).all (rowOk e.length)) by rw [HST.out,← Bool.and_assoc,← HBB.out]; rfl)
    go_wp2_with fail
    go_roundw
    case rel => exact ⟨k + 1,false,by omega,rfl,by go_num,HNB,HR⟩
    case measure => simp [RowKit.intOf]; omega
   | true =>
    by_cases g1 : row.length = e.length
    rotate_left
    ·rw [decide_eq_false g1] at hb2
     have HNB := hid (show false = (ok && ((ps.map Prod.fst).take (k + 1)).all (rowOk e.length)) by rw [HST.out,← Bool.and_assoc,← HBB.out]; unfold rowOk; rw [decide_eq_false g1]; rfl)
     clear g1
     go_wp2_with fail
     go_roundw
     case rel => exact ⟨k + 1,false,by omega,rfl,by go_num,HNB,HR⟩
     case measure => simp [RowKit.intOf]; omega
    rw [decide_eq_true g1] at hb2
    obtain ⟨wr',hwr'⟩ : ∃ z,z = As.within row 0 100000 := ⟨_,rfl⟩
    have HNB := hid (show wr' = (ok && ((ps.map Prod.fst).take (k + 1)).all (rowOk e.length)) by rw [HST.out,← Bool.and_assoc,← HBB.out]; unfold rowOk; rw [decide_eq_true g1,← hwr']; rfl)
    rw [← hwr'] at HWR
    clear g1 hwr'
    go_wp2_with fail
    refine (HWR.out).mono ?_
    rintro e3 w3 ⟨rfl,hb3⟩
    have HB3 := hid (Below.step HR.out hb3)
    clear hb3
    go_wp2_with fail
    go_roundw
    case rel => exact ⟨k + 1,wr',by omega,rfl,by go_num,HNB,HB3⟩
    case measure => simp [RowKit.intOf]; omega
  ·have hke : k = n := by omega
   have HE := hid (show b = As.valid (ps.map Prod.fst) d e by
    rw [HV.out,HBB.out,hke,HN.out,List.take_of_length_le (by rw [List.length_map]; exact Nat.le_refl _)])
   clear hke
   go_wp2_with fail
   go_ret
   exact ⟨ret_bool HE.out,HR.out⟩
theorem Tryz.infoCosts : (Tryz.prog.info? 161).map (fun i => (i.zero,i.size,i.bytes)) = some (some (.agg (Array.replicate 64 (.int .i64 0))),64,512) := by kernel_rfl
def TabM (X : World) (g N : Nat) (f : Nat → Nat → Int) : Prop := ∃ vs,Blk X g 161 vs ∧ vs.length = N * 64 ∧ ∀ i s,i < N → s < 64 → vs[i * 64 + s]? = some (.int .i64 (f i s))
def upd (f : Nat → Nat → Int) (i s : Nat) (v : Int) : Nat → Nat → Int := fun i' s' => if i' = i ∧ s' = s then v else f i' s'
section
variable {X X' : World} {g N : Nat} {f : Nat → Nat → Int}
theorem TabM.lt (h : TabM X g N f) : g < X.heap.size := by obtain ⟨_,h,_⟩ := h; exact h.lt
theorem TabM.cell (h : TabM X g N f) {i s : Nat} (hi : i < N) (hs : s < 64) : X.cell? ⟨g,i * 64 + s,none⟩ = some (.int .i64 (f i s)) := by
 obtain ⟨vs,hb,_,hv⟩ := h
 exact hb.cell (hv i s hi hs)
theorem TabM.frozen (h : TabM X g N f) (j : Nat) : X.frozen? ⟨g,j,none⟩ = false := by
 obtain ⟨vs,hb,_⟩ := h
 exact hb.frozen j
theorem TabM.below (h : TabM X g N f) (hb : Below X.heap.size X X') : TabM X' g N f := by
 obtain ⟨vs,h1,h2⟩ := h
 exact ⟨vs,h1.below hb,h2⟩
theorem TabM.set (h : TabM X g N f) {i s : Nat} (_hi : i < N) (hs : s < 64) (v : Int) : TabM (X.setCell ⟨g,i * 64 + s,none⟩ (.int .i64 v)) g N (upd f i s v) := by
 obtain ⟨vs,h1,h2,h3⟩ := h
 refine ⟨_,h1.set (i * 64 + s) _,by rw [List.length_set]; exact h2,fun i' s' hi' hs' => ?_⟩
 unfold upd
 by_cases he : i' = i ∧ s' = s
 ·obtain ⟨rfl,rfl⟩ := he
  rw [if_pos ⟨rfl,rfl⟩,List.getElem?_set_self (by rw [h2]; omega)]
 ·rw [if_neg he,List.getElem?_set_ne (by omega)]
  exact h3 i' s' hi' hs'
theorem TabM.congr {f' : Nat → Nat → Int} (h : TabM X g N f) (he : ∀ i s,i < N → s < 64 → f' i s = f i s) : TabM X g N f' := by
 obtain ⟨vs,h1,h2,h3⟩ := h
 exact ⟨vs,h1,h2,fun i s hi hs => by rw [he i s hi hs]; exact h3 i s hi hs⟩
end
theorem bit_all : ∀ s : Fin 64,∀ j : Fin 6,(bits BinOp.and IntKind.i64 ((s.val : Int) / 2 ^ j.val) 1 == 0) = !s.val.testBit j.val := by decide +kernel
theorem bit_test {s j : Nat} (hs : s < 64) (hj : j < 6) : (bits BinOp.and IntKind.i64 ((s : Int) / 2 ^ j) 1 == 0) = !s.testBit j := bit_all ⟨s,hs⟩ ⟨j,hj⟩
theorem bit_or_all : ∀ s : Fin 64,∀ j : Fin 6,bits BinOp.or IntKind.i64 (s.val : Int) (IntKind.i64.wrap (2 ^ j.val)) = ((s.val ||| 2 ^ j.val : Nat) : Int) := by decide +kernel
theorem bit_or {s j : Nat} (hs : s < 64) (hj : j < 6) : bits BinOp.or IntKind.i64 (s : Int) (IntKind.i64.wrap (2 ^ j)) = ((s ||| 2 ^ j : Nat) : Int) := bit_or_all ⟨s,hs⟩ ⟨j,hj⟩
theorem make_costs (n : Nat) (hn : n ≤ 100) (w : World) :
  ∃ W,(Instr.makeSlice 158 (.int .i64 (n : Int)) (.int .i64 (n : Int))).run Tryz.prog w = .ok (.slice (some ⟨w.heap.size,0,none⟩) n n) W ∧ TabM W w.heap.size n (fun _ _ => 0) ∧ Below w.heap.size w W := by
 obtain ⟨i,hi,hz,hs,hb⟩ := info_parts Tryz.infoCosts
 have hr := run_make (P := Tryz.prog) w 158 161 i (.agg (Array.replicate 64 (.int .i64 0))) Tryz.underlying158 hi hz .i64 .i64 n n (by omega) (Int.le_refl _) (by rw [hb]; omega) (by omega)
 simp only [Int.toNat_natCast] at hr
 refine ⟨_,hr,?_,(Below.refl _ w).alloc (Nat.le_refl _) _⟩
 rw [hs]
 have hc : (Value.agg (Array.replicate 64 (Value.int IntKind.i64 0))).cells = Array.replicate 64 (Value.int IntKind.i64 0) := rfl
 rw [hc]
 refine ⟨(madeCells (Array.replicate 64 (Value.int IntKind.i64 0)) (n * 64)).toList,?_,by simp [madeCells],fun i s hi hs => ?_⟩
 ·unfold Blk
  rw [Array.toArray_toList]
  exact heap_alloc_new w _
 ·have hk : i * 64 + s < n * 64 := by omega
  have hm : (i * 64 + s) % 64 < 64 := Nat.mod_lt _ (by omega)
  unfold madeCells
  rw [Array.getElem?_toList,Array.getElem?_map,Array.getElem?_range]
  simp only [hk,if_true,Option.map_some]
  rw [getElem!_pos _ _ (by simp only [Array.size_replicate]; omega)]
  simp
def TabP (ps : List (List Int × Value)) (d e : List Int) (W : World) (en : Ending) (W' : World) : Prop :=
 ∃ f,en = .returned (.slice (some ⟨W.heap.size,0,none⟩) (ps.length + 1) (ps.length + 1)) ∧ TabM W' W.heap.size (ps.length + 1) f ∧ (∀ i s,i ≤ ps.length → s < 2 ^ e.length → f i s = As.tAt (ps.map Prod.fst) d e i s) ∧ Below W.heap.size W W'
set_option maxRecDepth 100000 in
set_option maxHeartbeats 8000000 in
theorem table_any (ps : List (List Int × Value)) (d e : List Int) (vc vd ve : Value) (W : World) (hc : RowsAt W vc ps) (hd : SlOf W vd 1 intC1 d) (he : SlOf W ve 1 intC1 e) (hn : ps.length ≤ 7) (h0 : 0 < ps.length) (hdl : ps.length = d.length) (hel : e.length ≤ 6)
  (hrow : ∀ p ∈ ps,p.1.length = e.length) (hwe : As.within e 0 10000 = true) (hwd : As.within d 0 10000 = true) (hbn : ∀ i s,0 ≤ As.tAt (ps.map Prod.fst) d e i s ∧ As.tAt (ps.map Prod.fst) d e i s ≤ 1000000) (hwc : ∀ p ∈ ps,As.within p.1 0 100000 = true) :
  Calls Tryz.prog 78 #[vc,vd,ve] W (TabP ps d e W) := by
 have HC := hid hc
 have HD := hid hd
 have HE := hid he
 have HRW := hid hrow
 have HWE := hid hwe
 have HWD := hid hwd
 have HBN := hid hbn
 have HWC := hid hwc
 obtain ⟨⟨ac,cc,rfl,-⟩,-⟩ := hc
 obtain ⟨ad,cd,rfl,-⟩ := hd
 obtain ⟨ae,ce,rfl,-⟩ := he
 clear hrow hwe hwd hbn hwc
 obtain ⟨n,hnn⟩ := exq (ps.length)
 obtain ⟨m,hmm⟩ := exq (e.length)
 have HNM := hid (And.intro hnn (And.intro hmm hdl))
 rw [← hnn] at hn h0 ⊢
 rw [← hmm] at hel ⊢
 have hdl' : d.length = n := by rw [hnn,hdl]
 rw [hdl']
 obtain ⟨W1,hmk,hT1,hB1⟩ := make_costs (n + 1) (by omega) W
 have HT1 := hid hT1
 have HB1 := hid hB1
 have hw1 : IntKind.i64.wrap ((n : Int) + 1) = (n : Int) + 1 := IntWalk.i64_in _ (by omega)
 rw [show ((n + 1 : Nat) : Int) = (n : Int) + 1 by omega] at hmk
 obtain ⟨M,hM⟩ : ∃ M : Nat,M = 2 ^ m := ⟨_,rfl⟩
 have hM64 : M ≤ 64 := by
  rw [hM]
  exact Nat.pow_le_pow_right (by omega) hel
 have hp2 : IntKind.i64.wrap (2 ^ m) = (M : Int) := by
  have e1 : ((2 : Int) ^ m) = (M : Int) := by rw [hM]; simp
  rw [e1]
  exact IntWalk.i64_in _ (by omega)
 have HM := hid hM
 clear hT1 hB1 hnn hmm hdl hdl' hM
 go_enter Tryz.func78,Tryz.ntmps78
 go_wp2_with fail
 go_loopw [23] (fun sv wr => ∃ (set : Nat) (f : Nat → Nat → Int),set ≤ M ∧ sv = .int .i64 set ∧ Hid (TabM wr W.heap.size (n + 1) f) ∧ Hid (∀ s,s < 64 → f n s = if s < set then As.lastTo e s m else 0) ∧ Hid (Below W.heap.size W wr)) (fun sv _ => M - (RowKit.intOf sv).toNat)
 case atStart => exact ⟨0,_,Nat.zero_le _,rfl,HT1,hid (fun s _ => by simp),HB1⟩
 case round =>
  obtain ⟨set,f,hset,rfl,HT,HF,HR⟩ := hrel
  by_cases hsl : set < M
  ·have h64 : set < 64 := by omega
   go_wp2_with fail
   go_loopw [28] (fun jv wx => ∃ (j : Nat) (f2 : Nat → Nat → Int),j ≤ m ∧ jv = .int .i64 j ∧ Hid (TabM wx W.heap.size (n + 1) f2) ∧ Hid (∀ s,s < 64 → f2 n s = if s = set then As.lastTo e s j else f n s) ∧ Hid (Below W.heap.size W wx)) (fun jv _ => m - (RowKit.intOf jv).toNat)
   case atStart => exact ⟨0,f,Nat.zero_le _,rfl,HT,hid (fun s hs => by
    by_cases h : s = set
    ·rw [if_pos h,HF.out s hs,if_neg (by omega)]; rfl
    ·rw [if_neg h]),HR⟩
   case round =>
    clear HT HR
    obtain ⟨j,f2,hj,rfl,HT2,HF2,HR2⟩ := hrel
    by_cases hjm : j < m
    ·obtain ⟨g,o,rfl,hr⟩ : ∃ g o,ae = some ⟨g,o,none⟩ ∧ RowOf wr g o 1 intC1 e := by
      obtain ⟨a',c',e',-,-,hr⟩ := HE.out.below HR2.out
      cases e'
      exact hr (by rw [← HNM.out.2.1]; omega)
     obtain ⟨y,hy⟩ : ∃ y,e[j]? = some y := ⟨_,List.getElem?_eq_getElem (by rw [← HNM.out.2.1]; exact hjm)⟩
     have c0 := hr.2 j y hy 0 _ rfl
     rw [Nat.add_zero,Nat.mul_one] at c0
     have hg := hr.1
     have j0 : (0 : Int) ≤ (j : Int) := by omega
     have j1 : (j : Int) < (m : Int) := by omega
     have hbt := bit_test h64 (show j < 6 by omega)
     obtain ⟨bt,hbt2⟩ := exq (set.testBit j)
     rw [← hbt2] at hbt
     have HBT := hid hbt2
     have HY := hid hy
     clear hr hy hbt2
     cases bt with
     | true =>
      have hbt' : (bits BinOp.and IntKind.i64 ((set : Int) / 2 ^ j) 1 == 0) = false := hbt
      have HNF := hid (show ∀ s,s < 64 → f2 n s = if s = set then As.lastTo e s (j + 1) else f n s from fun s hs => by
       rw [HF2.out s hs]
       by_cases h : s = set
       ·rw [if_pos h,if_pos h,h]
        show _ = if set.testBit j then _ else _
        rw [← HBT.out]; rfl
       ·rw [if_neg h,if_neg h])
      clear hbt
      go_wp2_with fail
      go_roundw
      case rel => exact ⟨j + 1,f2,by omega,by go_num,HT2,HNF,HR2⟩
      case measure => simp [RowKit.intOf]; omega
     | false =>
      have hbt' : (bits BinOp.and IntKind.i64 ((set : Int) / 2 ^ j) 1 == 0) = true := hbt
      clear hbt
      obtain ⟨lt,hlt2⟩ := exq (As.lastTo e set j)
      have ht0 := HT2.out.cell (i := n) (s := set) (by omega) h64
      rw [HF2.out set h64,if_pos rfl,← hlt2] at ht0
      have hfz := HT2.out.frozen (n * 64 + set)
      have hzt := HT2.out.lt
      have hlb := As.lastTo_bounds (set := set) HWE.out j
      rw [← hlt2] at hlb
      have hyb := As.within_mem HWE.out (List.mem_of_getElem? HY.out)
      have hwr : IntKind.i64.wrap (lt + y) = lt + y := IntWalk.i64_in _ (by omega)
      have HLT := hid hlt2
      have n0 : (0 : Int) ≤ (n : Int) := by omega
      have n1 : (n : Int) < (n : Int) + 1 := by omega
      have s0 : (0 : Int) ≤ (set : Int) := by omega
      have s1 : (set : Int) < 64 := by omega
      clear hlt2 hlb hyb
      have HT3 := hid ((HT2.out.below (Below.refl _ wr).drew).set (i := n) (s := set) (by omega) h64 (lt + y))
      have HNF := hid (show ∀ s,s < 64 → upd f2 n set (lt + y) n s = if s = set then As.lastTo e s (j + 1) else f n s from fun s hs => by
       unfold upd
       by_cases h : s = set
       ·rw [if_pos ⟨rfl,h⟩,if_pos h,h]
        show _ = if set.testBit j then _ else _
        rw [← HBT.out,if_neg (by decide),← HLT.out]
        unfold As.at_
        rw [HY.out]; rfl
       ·rw [if_neg (fun hh => h hh.2),if_neg h,HF2.out s hs,if_neg h])
      have HR3 := hid ((HR2.out.drew).setCell (p := ⟨W.heap.size,n * 64 + set,none⟩) (Nat.le_refl _) (.int .i64 (lt + y)))
      go_upto_region 9 with (fail)
      go_region
      go_wp2_with fail
      go_roundw
      case rel => exact ⟨j + 1,_,by omega,by go_num,HT3,HNF,HR3⟩
      case measure => simp [RowKit.intOf]; omega
    ·have hje : j = m := by omega
     have HNF := hid (show ∀ s,s < 64 → f2 n s = if s < set + 1 then As.lastTo e s m else 0 from fun s hs => by
      rw [HF2.out s hs,hje]
      by_cases h : s = set
      ·rw [if_pos h,if_pos (by omega)]
      ·rw [if_neg h,HF.out s hs]
       by_cases h2 : s < set
       ·rw [if_pos h2,if_pos (by omega)]
       ·rw [if_neg h2,if_neg (by omega)])
     clear hje
     go_wp2_with fail
     go_roundw
     case rel => exact ⟨set + 1,f2,by omega,by go_num,HT2,HNF,HR2⟩
     case measure => simp [RowKit.intOf]; omega
  ·have hsM : set = M := by omega
   have HF0 := hid (show ∀ s,s < M → f n s = As.lastTo e s m from fun s hs => by rw [HF.out s (by omega),if_pos (by omega)])
   have hlast := As.tAt_last (d := d) (e := e) (c := ps.map Prod.fst) (by rw [List.length_map]; exact HNM.out.2.2)
   have HFN := hid (show ∀ i s,n ≤ i → i ≤ n → s < M → f i s = As.tAt (ps.map Prod.fst) d e i s from fun i s h1 h2 hs => by
    obtain rfl : i = n := by omega
    rw [HF0.out s hs]
    have := hlast s
    rw [List.length_map,← HNM.out.1,← HNM.out.2.1] at this
    exact this.symm)
   clear hsM HF hlast HF0
   have hwn : IntKind.i64.wrap ((n : Int) - 1) = (n : Int) - 1 := IntWalk.i64_in _ (by omega)
   go_wp2_with fail
   go_loopw [11] (fun iv wr => ∃ (k : Nat) (f : Nat → Nat → Int),k ≤ n ∧ iv = .int .i64 ((k : Int) - 1) ∧ Hid (TabM wr W.heap.size (n + 1) f) ∧ Hid (∀ i s,k ≤ i → i ≤ n → s < M → f i s = As.tAt (ps.map Prod.fst) d e i s) ∧ Hid (Below W.heap.size W wr)) (fun iv _ => (RowKit.intOf iv + 1).toNat)
   case atStart => exact ⟨n,f,Nat.le_refl _,rfl,HT,HFN,HR⟩
   case round =>
    clear HT HFN HR
    obtain ⟨k,f,hk,rfl,HT,HF,HR⟩ := hrel
    by_cases hk0 : 0 < k
    ·have g0 : decide (0 ≤ (k : Int) - 1) = true := decide_eq_true (by omega)
     obtain ⟨i,hi⟩ : ∃ i,k = i + 1 := ⟨k - 1,by omega⟩
     subst hi
     have hki : ((i + 1 : Nat) : Int) - 1 = (i : Int) := by omega
     rw [hki] at g0
     rw [hki]
     have hin : i < n := by omega
     obtain ⟨p,hp⟩ : ∃ p,ps[i]? = some p := ⟨_,List.getElem?_eq_getElem (by rw [← HNM.out.1]; exact hin)⟩
     obtain ⟨x,hx⟩ : ∃ x,d[i]? = some x := ⟨_,List.getElem?_eq_getElem (by rw [← HNM.out.2.2,← HNM.out.1]; exact hin)⟩
     have HPX := hid (And.intro hp hx)
     have i0' : (0 : Int) ≤ (i : Int) := by omega
     have i1' : (i : Int) < (n : Int) := by omega
     have i2' : (0 : Int) ≤ (i : Int) + 1 := by omega
     have i3' : (i : Int) + 1 < (n : Int) + 1 := by omega
     have hwi : IntKind.i64.wrap ((i : Int) + 1) = (i : Int) + 1 := IntWalk.i64_in _ (by omega)
     have hni : ((i : Int) + 1).toNat = i + 1 := by omega
     obtain ⟨row,rv⟩ := p
     have hrl : row.length = m := by
      rw [HNM.out.2.1]
      exact HRW.out _ (List.mem_of_getElem? hp)
     have HST := hid (fun s => As.tAt_step (c := ps.map Prod.fst) (d := d) (e := e) (i := i) (row := row) (x := x) (by rw [List.getElem?_map,hp]; rfl) hx s)
     have hxb := As.within_mem HWD.out (List.mem_of_getElem? hx)
     clear hp hx
     go_wp2_with fail
     go_loopw [61] (fun sv wr => ∃ (set : Nat) (f2 : Nat → Nat → Int),set ≤ M ∧ sv = .int .i64 set ∧ Hid (TabM wr W.heap.size (n + 1) f2) ∧ Hid (∀ s,s < M → (∀ i',i + 1 ≤ i' → i' ≤ n → f2 i' s = As.tAt (ps.map Prod.fst) d e i' s) ∧ (s < set → f2 i s = As.tAt (ps.map Prod.fst) d e i s)) ∧ Hid (Below W.heap.size W wr)) (fun sv _ => M - (RowKit.intOf sv).toNat)
     case atStart => exact ⟨0,f,Nat.zero_le _,rfl,HT,hid (fun s hs => ⟨fun i' h1 h2 => HF.out i' s h1 h2 hs,fun h => absurd h (Nat.not_lt_zero _)⟩),HR⟩
     case round =>
      clear HT HR HF
      obtain ⟨set,f2,hset,rfl,HT,HF,HR⟩ := hrel
      by_cases hsl : set < M
      ·have h64 : set < 64 := by omega
       obtain ⟨gd,od,rfl,hrd⟩ : ∃ g o,ad = some ⟨g,o,none⟩ ∧ RowOf wr g o 1 intC1 d := by
        obtain ⟨a',c',e',-,-,hr⟩ := HD.out.below HR.out
        cases e'
        exact hr (by rw [← HNM.out.2.2,← HNM.out.1]; omega)
       have cd0 := hrd.2 i x HPX.out.2 0 _ rfl
       rw [Nat.add_zero,Nat.mul_one] at cd0
       have hgd := hrd.1
       obtain ⟨tn,htn⟩ := exq (As.tAt (ps.map Prod.fst) d e (i + 1) set)
       have ht0 := HT.out.cell (i := i + 1) (s := set) (by omega) h64
       rw [(HF.out set hsl).1 (i + 1) (Nat.le_refl _) (by omega),← htn] at ht0
       have htb := HBN.out (i + 1) set
       rw [← htn] at htb
       have hwr : IntKind.i64.wrap (x + tn) = x + tn := IntWalk.i64_in _ (by omega)
       have hzt := HT.out.lt
       have s0 : (0 : Int) ≤ (set : Int) := by omega
       have s1 : (set : Int) < 64 := by omega
       have HTN := hid htn
       clear hrd htn
       go_upto_region 18 with (fail)
       go_region
       obtain ⟨gc,oc,rfl,hrc⟩ : ∃ g o,ac = some ⟨g,o,none⟩ ∧ RowOf wr g o 1 rowC ps := by
        obtain ⟨a',c',e',-,-,hr⟩ := (HC.out.below HR.out).1
        cases e'
        exact hr (by rw [← HNM.out.1]; omega)
       have cc0 := hrc.2 i (row,rv) HPX.out.1 0 _ rfl
       rw [Nat.add_zero,Nat.mul_one] at cc0
       have hgc := hrc.1
       have HRV := hid (HC.out.2 _ (List.mem_of_getElem? HPX.out.1)).1
       obtain ⟨av,cv,hrv,-⟩ := HRV.out
       simp only at hrv
       rw [hrv] at cc0 HRV
       rw [hrl] at cc0
       have cc1 := (show Below wr.heap.size wr wr.drew from (Below.refl _ wr).drew).cell (p := ⟨gc,oc + i,none⟩) hgc |>.trans cc0
       have HWR := hid (HWC.out _ (List.mem_of_getElem? HPX.out.1))
       have HXT := hid (show x + tn = As.bestTo row (As.tAt (ps.map Prod.fst) d e (i + 1)) x set 0 by rw [HTN.out]; rfl)
       clear hrc hrv cc0 cd0 ht0
       go_wp2_with fail
       go_loopw [13,81] (fun bv jv wx => ∃ j : Nat,j ≤ m ∧ jv = .int .i64 j ∧ bv = .int .i64 (As.bestTo row (As.tAt (ps.map Prod.fst) d e (i + 1)) x set j) ∧ Hid (Below wr.heap.size wr wx)) (fun _ jv _ => m - (RowKit.intOf jv).toNat)
       case atStart => exact ⟨0,Nat.zero_le _,rfl,congrArg (Value.int .i64) HXT.out,hid (Below.refl _ wr).drew⟩
       case round =>
        obtain ⟨j,hj,rfl,rfl,HX⟩ := hrel
        have HTX := hid (HT.out.below HX.out)
        by_cases hjm : j < m
        ·obtain ⟨gv,ov,rfl,hrv⟩ : ∃ g o,av = some ⟨g,o,none⟩ ∧ RowOf wr g o 1 intC1 row := by
          obtain ⟨a',c',e',-,-,hr⟩ := HRV.out.below (Below.step HR.out HX.out)
          cases e'
          exact hr (by rw [hrl]; omega)
         obtain ⟨r,hr⟩ : ∃ r,row[j]? = some r := ⟨_,List.getElem?_eq_getElem (by rw [hrl]; exact hjm)⟩
         have c0 := hrv.2 j r hr 0 _ rfl
         rw [Nat.add_zero,Nat.mul_one] at c0
         have hg := hrv.1
         have hrb := As.within_mem HWR.out (List.mem_of_getElem? hr)
         have hat : As.at_ row j = r := by unfold As.at_; rw [hr]; rfl
         have HAT := hid hat
         have j0 : (0 : Int) ≤ (j : Int) := by omega
         have j1 : (j : Int) < (m : Int) := by omega
         have hbt := bit_test h64 (show j < 6 by omega)
         obtain ⟨bt,hbt2⟩ := exq (set.testBit j)
         rw [← hbt2] at hbt
         have HBT := hid hbt2
         obtain ⟨bj,hbj⟩ := exq (As.bestTo row (As.tAt (ps.map Prod.fst) d e (i + 1)) x set j)
         rw [← hbj]
         have HBJ := hid hbj
         clear hrv hr hbt2 hat hbj
         cases bt with
         | true =>
          have hbt' : (bits BinOp.and IntKind.i64 ((set : Int) / 2 ^ j) 1 == 0) = false := hbt
          have HNB := hid (show bj = As.bestTo row (As.tAt (ps.map Prod.fst) d e (i + 1)) x set (j + 1) by
           rw [HBJ.out]
           show _ = if set.testBit j then _ else _
           rw [← HBT.out]; rfl)
          clear hbt
          go_wp2_with fail
          go_roundw
          case rel => exact ⟨j + 1,by omega,by go_num,congrArg (Value.int .i64) HNB.out,HX⟩
          case measure => simp [RowKit.intOf]; omega
         | false =>
          have hbt' : (bits BinOp.and IntKind.i64 ((set : Int) / 2 ^ j) 1 == 0) = true := hbt
          obtain ⟨q,hq⟩ := exq (set ||| 2 ^ j)
          have hor := bit_or h64 (show j < 6 by omega)
          rw [← hq] at hor
          have hqM : q < M := by
           rw [hq,HM.out]
           exact Nat.or_lt_two_pow (by rw [← HM.out]; exact hsl) (Nat.pow_lt_pow_right (by omega) hjm)
          obtain ⟨t2,ht2⟩ := exq (As.tAt (ps.map Prod.fst) d e (i + 1) q)
          have hc2 := HTX.out.cell (i := i + 1) (s := q) (by omega) (by omega)
          rw [(HF.out q hqM).1 (i + 1) (Nat.le_refl _) (by omega),← ht2] at hc2
          have htb2 := HBN.out (i + 1) q
          rw [← ht2] at htb2
          have hwr2 : IntKind.i64.wrap (r + t2) = r + t2 := IntWalk.i64_in _ (by omega)
          have hzx := HTX.out.lt
          have z0 : (0 : Int) ≤ (q : Int) := by omega
          have z1 : (q : Int) < 64 := by omega
          have HNB := hid (show min bj (r + t2) = As.bestTo row (As.tAt (ps.map Prod.fst) d e (i + 1)) x set (j + 1) by
           rw [HBJ.out,ht2,hq]
           show _ = if set.testBit j then _ else _
           rw [← HBT.out,if_neg (by decide),HAT.out])
          have HX2 := hid HX.out.drew
          clear hbt hq ht2
          go_upto_region 23 with (fail)
          go_region
          go_wp2_with fail
          go_roundw
          case rel => exact ⟨j + 1,by omega,by go_num,congrArg (Value.int .i64) HNB.out,HX2⟩
          case measure => simp [RowKit.intOf]; omega
        ·have hje : j = m := by omega
         have HB5 := hid (show As.bestTo row (As.tAt (ps.map Prod.fst) d e (i + 1)) x set j = As.tAt (ps.map Prod.fst) d e i set by rw [HST.out,hrl,hje])
         obtain ⟨bj,hbj⟩ := exq (As.bestTo row (As.tAt (ps.map Prod.fst) d e (i + 1)) x set j)
         rw [← hbj]
         rw [← hbj] at HB5
         have hc3 := HTX.out.cell (i := i) (s := set) (by omega) h64
         have hf3 := HTX.out.frozen (i * 64 + set)
         have hz3 := HTX.out.lt
         have i4' : (i : Int) < (n : Int) + 1 := by omega
         have HT3 := hid (HTX.out.set (i := i) (s := set) (by omega) h64 bj)
         have HF3 := hid (show ∀ s,s < M → (∀ i',i + 1 ≤ i' → i' ≤ n → upd f2 i set bj i' s = As.tAt (ps.map Prod.fst) d e i' s) ∧ (s < set + 1 → upd f2 i set bj i s = As.tAt (ps.map Prod.fst) d e i s) from fun s hs => by
          refine ⟨fun i' h1 h2 => ?_,fun h => ?_⟩
          ·unfold upd
           rw [if_neg (by omega)]
           exact (HF.out s hs).1 i' h1 h2
          ·unfold upd
           by_cases h2 : s = set
           ·rw [if_pos ⟨rfl,h2⟩,HB5.out,h2]
           ·rw [if_neg (fun hh => h2 hh.2)]
            exact (HF.out s hs).2 (by omega))
         have HR3 := hid ((Below.step HR.out HX.out).setCell (p := ⟨W.heap.size,i * 64 + set,none⟩) (Nat.le_refl _) (.int .i64 bj))
         clear hje hbj
         go_wp2_with fail
         go_roundw
         case rel => exact ⟨set + 1,_,by omega,by go_num,HT3,HF3,HR3⟩
         case measure => simp [RowKit.intOf]; omega
      ·have hsM : set = M := by omega
       have HFN := hid (show ∀ i' s,i ≤ i' → i' ≤ n → s < M → f2 i' s = As.tAt (ps.map Prod.fst) d e i' s from fun i' s h1 h2 hs => by
        by_cases h : i' = i
        ·rw [h]; exact (HF.out s hs).2 (by omega)
        ·exact (HF.out s hs).1 i' (by omega) h2)
       have hwd : IntKind.i64.wrap ((i : Int) - 1) = (i : Int) - 1 := IntWalk.i64_in _ (by omega)
       clear hsM
       go_wp2_with fail
       go_roundw
       case rel => exact ⟨i,f2,by omega,rfl,HT,HFN,HR⟩
       case measure => simp [RowKit.intOf]
    ·have hk00 : k = 0 := by omega
     subst hk00
     go_wp2_with fail
     go_ret
     unfold TabP
     rw [← HNM.out.1,← HNM.out.2.1]
     exact ⟨f,rfl,HT.out,fun i s hi hs => HF.out i s (Nat.zero_le _) hi (by rw [HM.out]; exact hs),HR.out⟩
end Go.Proofs.YtdghfenbfbdijaaGreatDoor
namespace Go.Proofs.YtdghfenbfbdijaaGreatDoor
open Go.RowKit Go.Lib Go.Maps
structure GridM (X : World) (pg G N M k : Nat) (R : Nat → Nat) (f : Nat → Nat → Int) : Prop where
 box : Blk X pg 96 [.slice (some ⟨G,0,none⟩) N N]
 rows : ∃ vs,Blk X G 90 vs ∧ vs.length = N ∧ ∀ i,k ≤ i → i < N → vs[i]? = some (.slice (some ⟨R i,0,none⟩) M M)
 row : ∀ i,k ≤ i → i < N → ∃ us,Blk X (R i) 3 us ∧ us.length = M ∧ ∀ j,j < M → us[j]? = some (.int .i64 (f i j))
theorem GridM.below {X X' : World} {pg G N M k : Nat} {R : Nat → Nat} {f : Nat → Nat → Int} (h : GridM X pg G N M k R f) (hb : Below X.heap.size X X') : GridM X' pg G N M k R f := by
 obtain ⟨h1,⟨vs,h2,h3⟩,h4⟩ := h
 refine ⟨h1.below hb,⟨vs,h2.below hb,h3⟩,fun i hi hn => ?_⟩
 obtain ⟨us,h5,h6⟩ := h4 i hi hn
 exact ⟨us,h5.below hb,h6⟩
def better (b c : Int) : Int := if b < 0 ∨ c < b then c else b
set_option maxRecDepth 100000 in
set_option maxHeartbeats 2000000 in
theorem visit_any (x y : Nat) (c b : Int) (pg pb G N M k : Nat) (R : Nat → Nat) (f : Nat → Nat → Int) (W : World) (h : GridM W pg G N M k R f) (hb : Blk W pb 3 [.int .i64 b]) (hx : k ≤ x) (hxn : x < N) (hy : y < M) (_hN : N ≤ 100) (_hM : M ≤ 100)
  (hc : 0 ≤ c ∧ c ≤ 1000000) (hf : 0 ≤ f x y ∧ f x y ≤ 1000000) :
  Calls Tryz.prog 115 #[.int .i64 x,.int .i64 y,.int .i64 c,.pointer (some ⟨pg,0,none⟩),.pointer (some ⟨pb,0,none⟩)] W
   (fun e W' => e = .returned (.tuple #[]) ∧ W' = if b < 0 ∨ c + f x y < b then W.setCell ⟨pb,0,none⟩ (.int .i64 (c + f x y)) else W) := by
 have c0 := h.box.cell (j := 0) rfl
 obtain ⟨vs,h2,h3,h4⟩ := h.rows
 obtain ⟨us,h5,h6,h7⟩ := h.row x hx hxn
 have c1 := h2.cell (h4 x hx hxn)
 have c2 := h5.cell (h7 y hy)
 have c3 := hb.cell (j := 0) rfl
 have f3 := hb.frozen 0
 have z0 := h.box.lt
 have z1 := h2.lt
 have z2 := h5.lt
 have z3 := hb.lt
 have x0 : (0 : Int) ≤ (x : Int) := by omega
 have x1 : (x : Int) < (N : Int) := by omega
 have y0 : (0 : Int) ≤ (y : Int) := by omega
 have y1 : (y : Int) < (M : Int) := by omega
 have hwr : IntKind.i64.wrap (c + f x y) = c + f x y := IntWalk.i64_in _ (by omega)
 clear h2 h3 h4 h5 h6 h7
 by_cases g1 : b < 0
 ·have k1 : decide (b < 0) = true := decide_eq_true g1
  rw [if_pos (.inl g1)]
  go_enter Tryz.func115,Tryz.ntmps115
  go_wp2_with fail
  go_end0
  exact ⟨rfl,rfl⟩
 ·have k1 : decide (b < 0) = false := decide_eq_false g1
  by_cases g2 : c + f x y < b
  ·have k2 : decide (c + f x y < b) = true := decide_eq_true g2
   rw [if_pos (.inr g2)]
   go_enter Tryz.func115,Tryz.ntmps115
   go_wp2_with fail
   go_end0
   exact ⟨rfl,rfl⟩
  ·have k2 : decide (c + f x y < b) = false := decide_eq_false g2
   rw [if_neg (by omega)]
   go_enter Tryz.func115,Tryz.ntmps115
   go_wp2_with fail
   go_end0
   exact ⟨rfl,rfl⟩
theorem visit_box (x y : Nat) (xi yi : Int) (hxi : xi = x) (hyi : yi = y) (c b : Int) (pg pb G N M k : Nat) (R : Nat → Nat) (f : Nat → Nat → Int) (X W : World) (h : GridM X pg G N M k R f) (hX : Below X.heap.size X W) (hb : Blk W pb 3 [.int .i64 b]) (hpb : X.heap.size ≤ pb) (hx : k ≤ x) (hxn : x < N) (hy : y < M) (hN : N ≤ 100) (hM : M ≤ 100)
  (hc : 0 ≤ c ∧ c ≤ 1000000) (hf : 0 ≤ f x y ∧ f x y ≤ 1000000) :
  Calls Tryz.prog 115 #[.int .i64 xi,.int .i64 yi,.int .i64 c,.pointer (some ⟨pg,0,none⟩),.pointer (some ⟨pb,0,none⟩)] W
   (fun e W' => e = .returned (.tuple #[]) ∧ Below X.heap.size X W' ∧ Blk W' pb 3 [.int .i64 (better b (c + f x y))]) := by
 subst hxi hyi
 refine (visit_any x y c b pg pb G N M k R f W (h.below hX) hb hx hxn hy hN hM hc hf).mono ?_
 rintro e w1 ⟨rfl,rfl⟩
 refine ⟨rfl,?_⟩
 unfold better
 split
 ·exact ⟨hX.setCell (p := ⟨pb,0,none⟩) hpb _,hb.set 0 _⟩
 ·exact ⟨hX,hb⟩
theorem better_first {c : Int} : better (-1) c = c := by unfold better; rw [if_pos (by omega)]
theorem better_min {b c : Int} (hb : 0 ≤ b) : better b c = min b c := by unfold better; split <;> omega
def NbP (pb : Nat) (r : Int) (X : World) (en : Ending) (W' : World) : Prop :=
 en = .returned (.tuple #[]) ∧ Below X.heap.size X W' ∧ ∃ b,Blk W' pb 3 [.int .i64 b] ∧ max b 0 = r
set_option maxRecDepth 100000 in
set_option maxHeartbeats 4000000 in
theorem neigh_any (ps : List (List Int × Value)) (d e : List Int) (vc vd ve : Value) (i j pg pb G k : Nat) (R : Nat → Nat) (f : Nat → Nat → Int) (X W : World) (hc : RowsAt X vc ps) (hd : SlOf X vd 1 intC1 d) (he : SlOf X ve 1 intC1 e)
  (h : GridM X pg G (d.length + 1) (e.length + 1) k R f) (hX : Below X.heap.size X W) (hb : Blk W pb 3 [.int .i64 (-1)]) (hpb : X.heap.size ≤ pb) (hi : k ≤ i) (hin : i ≤ d.length) (hj : j ≤ e.length) (hok : As.Ok (ps.map Prod.fst) d e)
  (hf : ∀ x y,0 ≤ f x y ∧ f x y ≤ 1000000) (hv1 : i < d.length → f (i + 1) j = As.gAt (ps.map Prod.fst) d e (i + 1) j) (hv2 : j < e.length → f i (j + 1) = As.gAt (ps.map Prod.fst) d e i (j + 1))
  (hv3 : i < d.length → j < e.length → f (i + 1) (j + 1) = As.gAt (ps.map Prod.fst) d e (i + 1) (j + 1)) :
  Calls Tryz.prog 114 #[vc,vd,ve,.int .i64 i,.int .i64 j,.func (.func 115) #[] #[.pointer (some ⟨pg,0,none⟩),.pointer (some ⟨pb,0,none⟩)]] W (NbP pb (As.gAt (ps.map Prod.fst) d e i j) X) := by
 have hlen : ps.length = d.length := by have := hok.rows; rwa [List.length_map] at this
 have hd6 := hok.few
 have he6 := hok.cols
 obtain ⟨n,hn⟩ := exq (d.length)
 obtain ⟨m,hm⟩ := exq (e.length)
 rw [← hn] at hin hd6 h hv1 hv3 hlen
 rw [← hm] at hj he6 h hv2 hv3
 have HVIS : Hid (∀ (x y : Nat) (xi yi : Int) (c b : Int) (V : World),xi = x → yi = y → Below X.heap.size X V → Blk V pb 3 [.int .i64 b] → k ≤ x → x ≤ n → y ≤ m → (0 ≤ c ∧ c ≤ 1000000) →
   Calls Tryz.prog 115 #[.int .i64 xi,.int .i64 yi,.int .i64 c,.pointer (some ⟨pg,0,none⟩),.pointer (some ⟨pb,0,none⟩)] V
    (fun e W' => e = .returned (.tuple #[]) ∧ Below X.heap.size X W' ∧ Blk W' pb 3 [.int .i64 (better b (c + f x y))])) :=
  hid fun x y xi yi c b V h1 h2 h3 h4 h5 h6 h7 h8 => visit_box x y xi yi h1 h2 c b pg pb G (n + 1) (m + 1) k R f X V h h3 h4 hpb h5 (by omega) (by omega) (by omega) (by omega) h8 (hf x y)
 have HX := hid hX
 have HB := hid hb
 have HC := hid hc
 have HD := hid hd
 have HE := hid he
 have HOK := hid hok
 have HNM := hid (And.intro hn (And.intro hm hlen))
 have HF := hid hf
 obtain ⟨⟨ac,cc,rfl,-⟩,-⟩ := hc
 obtain ⟨ad,cd,rfl,-⟩ := hd
 obtain ⟨ae,ce,rfl,-⟩ := he
 rw [← hm,← hn,hlen]
 clear hX hb h hf hok hlen hm hn
 have wi : IntKind.i64.wrap ((i : Int) + 1) = (i : Int) + 1 := IntWalk.i64_in _ (by omega)
 have wj : IntKind.i64.wrap ((j : Int) + 1) = (j : Int) + 1 := IntWalk.i64_in _ (by omega)
 have i0 : (0 : Int) ≤ (i : Int) := by omega
 have j0 : (0 : Int) ≤ (j : Int) := by omega
 by_cases g1 : i < n
 ·have i1 : (i : Int) < (n : Int) := by omega
  have HV1 := hid (hv1 g1)
  obtain ⟨p,hp⟩ : ∃ p,ps[i]? = some p := ⟨_,List.getElem?_eq_getElem (by rw [HNM.out.2.2]; exact g1)⟩
  obtain ⟨x,hx⟩ : ∃ x,d[i]? = some x := ⟨_,List.getElem?_eq_getElem (by rw [← HNM.out.1]; exact g1)⟩
  obtain ⟨gd,od,rfl,hrd⟩ : ∃ g o,ad = some ⟨g,o,none⟩ ∧ RowOf W g o 1 intC1 d := by
   obtain ⟨a',c',e',-,-,hr⟩ := HD.out.below HX.out
   cases e'
   exact hr (by rw [← HNM.out.1]; omega)
  have cd0 := hrd.2 i x hx 0 _ rfl
  rw [Nat.add_zero,Nat.mul_one] at cd0
  have hgd := hrd.1
  have hxb := As.within_mem HOK.out.wd (List.mem_of_getElem? hx)
  have HCX := hid (show 0 ≤ x ∧ x ≤ 1000000 by omega)
  have HPX := hid (And.intro hp hx)
  clear hrd hp hx hxb
  by_cases g2 : j < m
  ·have j1 : (j : Int) < (m : Int) := by omega
   have HV2 := hid (hv2 g2)
   have HV3 := hid (hv3 g1 g2)
   clear hv1 hv2 hv3
   obtain ⟨y,hy⟩ : ∃ y,e[j]? = some y := ⟨_,List.getElem?_eq_getElem (by rw [← HNM.out.2.1]; exact g2)⟩
   have hyb := As.within_mem HOK.out.we (List.mem_of_getElem? hy)
   obtain ⟨row,rv⟩ := p
   have hrl : row.length = m := by rw [HNM.out.2.1]; exact HOK.out.len row (List.mem_map.2 ⟨_,List.mem_of_getElem? HPX.out.1,rfl⟩)
   have hrw := HOK.out.wc row (List.mem_map.2 ⟨_,List.mem_of_getElem? HPX.out.1,rfl⟩)
   obtain ⟨r,hr⟩ : ∃ r,row[j]? = some r := ⟨_,List.getElem?_eq_getElem (by rw [hrl]; exact g2)⟩
   have hrb := As.within_mem hrw (List.mem_of_getElem? hr)
   have HYR := hid (And.intro hy hr)
   have HCY := hid (show 0 ≤ y ∧ y ≤ 1000000 by omega)
   have HCR := hid (show 0 ≤ r ∧ r ≤ 1000000 by omega)
   have HRV := hid (HC.out.2 _ (List.mem_of_getElem? HPX.out.1)).1
   obtain ⟨av,cv,hrv,-⟩ := HRV.out
   simp only at hrv
   subst hrv
   have HST := hid (As.gAt_step (c := ps.map Prod.fst) (d := d) (e := e) (i := i) (j := j) (row := row) (x := x) (y := y) (r := r) (by rw [List.getElem?_map,HPX.out.1]; rfl) HPX.out.2 hy hr)
   rw [hrl] at HRV
   clear hy hr hyb hrb hrw hrl
   have HC1 := hid (HVIS.out (i + 1) j ((i : Int) + 1) j x (-1) W (by omega) rfl HX.out HB.out (by omega) (by omega) (by omega) HCX.out)
   go_enter Tryz.func114,Tryz.ntmps114
   go_wp2_with fail
   refine (HC1.out).mono ?_
   rintro e1 w1 ⟨rfl,hb1,hk1⟩
   have HC2 := hid (HVIS.out i (j + 1) i ((j : Int) + 1) y _ w1 rfl (by omega) hb1 hk1 (by omega) (by omega) (by omega) HCY.out)
   obtain ⟨ge,oe,rfl,hre⟩ : ∃ g o,ae = some ⟨g,o,none⟩ ∧ RowOf w1 g o 1 intC1 e := by
    obtain ⟨a',c',e',-,-,hr⟩ := HE.out.below hb1
    cases e'
    exact hr (by rw [← HNM.out.2.1]; omega)
   have ce0 := hre.2 j y HYR.out.1 0 _ rfl
   rw [Nat.add_zero,Nat.mul_one] at ce0
   have hge := hre.1
   clear hre hb1 hk1
   go_wp2_with fail
   refine (HC2.out).mono ?_
   rintro e2 w2 ⟨rfl,hb2,hk2⟩
   have HC3 := hid (HVIS.out (i + 1) (j + 1) ((i : Int) + 1) ((j : Int) + 1) r _ w2 (by omega) (by omega) hb2 hk2 (by omega) (by omega) (by omega) HCR.out)
   obtain ⟨gc,oc,rfl,hrc⟩ : ∃ g o,ac = some ⟨g,o,none⟩ ∧ RowOf w2 g o 1 rowC ps := by
    obtain ⟨a',c',e',-,-,hr⟩ := (HC.out.below hb2).1
    cases e'
    exact hr (by rw [HNM.out.2.2]; omega)
   have cc0 := hrc.2 i _ HPX.out.1 0 _ rfl
   rw [Nat.add_zero,Nat.mul_one] at cc0
   have hgc := hrc.1
   obtain ⟨gv,ov,rfl,hrv⟩ : ∃ g o,av = some ⟨g,o,none⟩ ∧ RowOf w2 g o 1 intC1 row := by
    obtain ⟨a',c',e',-,-,hr⟩ := HRV.out.below hb2
    cases e'
    exact hr (by have := (List.getElem?_eq_some_iff.1 HYR.out.2).1; omega)
   have cv0 := hrv.2 j r HYR.out.2 0 _ rfl
   rw [Nat.add_zero,Nat.mul_one] at cv0
   have hgv := hrv.1
   have hrl2 : row.length = m := by
    rw [HNM.out.2.1]; exact HOK.out.len row (List.mem_map.2 ⟨_,List.mem_of_getElem? HPX.out.1,rfl⟩)
   rw [hrl2] at cc0
   clear hrc hrv hb2 hk2 hrl2
   go_wp2_with fail
   refine (HC3.out).mono ?_
   rintro e3 w3 ⟨rfl,hb3,hk3⟩
   have HB3 := hid (And.intro hb3 hk3)
   clear hb3 hk3
   go_wp2_with fail
   go_end0
   refine ⟨rfl,HB3.out.1,_,HB3.out.2,?_⟩
   have f1 := HF.out (i + 1) j
   have f2 := HF.out i (j + 1)
   have f3 := HF.out (i + 1) (j + 1)
   have c1 := HCX.out
   have c2 := HCY.out
   have c3 := HCR.out
   have e1 : better (x + f (i + 1) j) (y + f i (j + 1)) = min (x + f (i + 1) j) (y + f i (j + 1)) := better_min (by omega)
   rw [better_first,e1,better_min (by omega),HST.out,← HV1.out,← HV2.out,← HV3.out]
   omega
  ·have hjm : j = e.length := by rw [← HNM.out.2.1]; omega
   have j1 : ¬ (j : Int) < (m : Int) := by omega
   have HST := hid (show As.gAt (ps.map Prod.fst) d e i j = x + As.gAt (ps.map Prod.fst) d e (i + 1) j by
    rw [hjm]
    exact As.gAt_end (row := p.1) (by rw [List.getElem?_map,HPX.out.1]; rfl) HPX.out.2 (HOK.out.len p.1 (List.mem_map.2 ⟨_,List.mem_of_getElem? HPX.out.1,rfl⟩)))
   clear hjm hv1 hv2 hv3 g2
   have HC1 := hid (HVIS.out (i + 1) j ((i : Int) + 1) j x (-1) W (by omega) rfl HX.out HB.out (by omega) (by omega) (by omega) HCX.out)
   go_enter Tryz.func114,Tryz.ntmps114
   go_wp2_with fail
   refine (HC1.out).mono ?_
   rintro e1 w1 ⟨rfl,hb1,hk1⟩
   have HB3 := hid (And.intro hb1 hk1)
   clear hb1 hk1
   go_wp2_with fail
   go_end0
   refine ⟨rfl,HB3.out.1,_,HB3.out.2,?_⟩
   have f1 := HF.out (i + 1) j
   have c1 := HCX.out
   rw [better_first,HST.out,← HV1.out]
   omega
 ·have hin' : i = d.length := by rw [← HNM.out.1]; omega
  have i1 : ¬ (i : Int) < (n : Int) := by omega
  have HLA := hid (show As.gAt (ps.map Prod.fst) d e i j = As.endR (e.drop j) by
   rw [hin',← HNM.out.1,← HNM.out.2.2]
   have := As.gAt_last (c := ps.map Prod.fst) (d := d) (e := e) HOK.out.rows j
   rwa [List.length_map] at this)
  by_cases g2 : j < m
  ·have j1 : (j : Int) < (m : Int) := by omega
   have HV2 := hid (hv2 g2)
   obtain ⟨y,hy⟩ : ∃ y,e[j]? = some y := ⟨_,List.getElem?_eq_getElem (by rw [← HNM.out.2.1]; exact g2)⟩
   have hyb := As.within_mem HOK.out.we (List.mem_of_getElem? hy)
   have HCY := hid (show 0 ≤ y ∧ y ≤ 1000000 by omega)
   have HST := hid (show As.gAt (ps.map Prod.fst) d e i j = y + f i (j + 1) by
    rw [HLA.out,As.endR_step hy,HV2.out,hin',← HNM.out.1,← HNM.out.2.2]
    have := As.gAt_last (c := ps.map Prod.fst) (d := d) (e := e) HOK.out.rows (j + 1)
    rw [List.length_map] at this
    rw [this])
   obtain ⟨ge,oe,rfl,hre⟩ : ∃ g o,ae = some ⟨g,o,none⟩ ∧ RowOf W g o 1 intC1 e := by
    obtain ⟨a',c',e',-,-,hr⟩ := HE.out.below HX.out
    cases e'
    exact hr (by rw [← HNM.out.2.1]; omega)
   have ce0 := hre.2 j y hy 0 _ rfl
   rw [Nat.add_zero,Nat.mul_one] at ce0
   have hge := hre.1
   clear hre hy hyb hv1 hv2 hv3 hin' g1
   have HC2 := hid (HVIS.out i (j + 1) i ((j : Int) + 1) y (-1) W rfl (by omega) HX.out HB.out (by omega) (by omega) (by omega) HCY.out)
   go_enter Tryz.func114,Tryz.ntmps114
   go_wp2_with fail
   refine (HC2.out).mono ?_
   rintro e1 w1 ⟨rfl,hb1,hk1⟩
   have HB3 := hid (And.intro hb1 hk1)
   clear hb1 hk1
   go_wp2_with fail
   go_end0
   refine ⟨rfl,HB3.out.1,_,HB3.out.2,?_⟩
   have f1 := HF.out i (j + 1)
   have c1 := HCY.out
   rw [better_first,HST.out]
   omega
  ·have hjm : j = e.length := by rw [← HNM.out.2.1]; omega
   have j1 : ¬ (j : Int) < (m : Int) := by omega
   have HST := hid (show As.gAt (ps.map Prod.fst) d e i j = 0 by rw [HLA.out,hjm,As.endR_end])
   clear hjm hin' hv1 hv2 hv3 g1 g2
   go_enter Tryz.func114,Tryz.ntmps114
   go_wp2_with fail
   go_end0
   refine ⟨rfl,HX.out,_,HB.out,?_⟩
   rw [HST.out]
   omega
theorem Tryz.infoIntG : (Tryz.prog.info? 3).map (fun i => (i.zero,i.size,i.bytes)) = some (some (.int .i64 0),1,8) := by kernel_rfl
theorem Tryz.infoIntsG : (Tryz.prog.info? 90).map (fun i => (i.zero,i.size,i.bytes)) = some (some (.slice none 0 0),1,24) := by kernel_rfl
theorem make_ints (n : Nat) (hn : n ≤ 1000) (X : World) : (Instr.makeSlice 90 (.int .i64 (n : Int)) (.int .i64 (n : Int))).run Tryz.prog X = .ok (.slice (some ⟨X.heap.size,0,none⟩) n n) (X.alloc (.cells (Array.replicate n (.int .i64 0)) 3)) := by
 obtain ⟨i,hi,hz,hs,hb⟩ := info_parts Tryz.infoIntG
 exact make_one 90 3 i _ Tryz.underlying90 hi hz hs rfl n (by rw [hb]; omega) (by unfold maxLen; omega) X
theorem make_intsS (n : Nat) (hn : n ≤ 1000) (X : World) : (Instr.makeSlice 96 (.int .i64 (n : Int)) (.int .i64 (n : Int))).run Tryz.prog X = .ok (.slice (some ⟨X.heap.size,0,none⟩) n n) (X.alloc (.cells (Array.replicate n (.slice none 0 0)) 90)) := by
 obtain ⟨i,hi,hz,hs,hb⟩ := info_parts Tryz.infoIntsG
 exact make_one 96 90 i _ Tryz.underlying96 hi hz hs rfl n (by rw [hb]; omega) (by unfold maxLen; omega) X
section
variable {X : World} {pg G N M k i j : Nat} {R : Nat → Nat} {f f' : Nat → Nat → Int}
theorem GridM.congr (h : GridM X pg G N M k R f) (hf : ∀ i j,k ≤ i → i < N → j < M → f' i j = f i j) : GridM X pg G N M k R f' := by
 obtain ⟨h1,h2,h3⟩ := h
 refine ⟨h1,h2,fun i hi hn => ?_⟩
 obtain ⟨us,h4,h5,h6⟩ := h3 i hi hn
 exact ⟨us,h4,h5,fun j hj => by rw [hf i j hi hn hj]; exact h6 j hj⟩
theorem GridM.set (h : GridM X pg G N M k R f) (hi : k ≤ i) (hiN : i < N) (hj : j < M) (hinj : ∀ i',k ≤ i' → i' < N → i' ≠ i → R i' ≠ R i) (v : Int) :
  GridM (X.setCell ⟨R i,j,none⟩ (.int .i64 v)) pg G N M k R (upd f i j v) := by
 obtain ⟨h1,⟨vs,h2,h3,h4⟩,h5⟩ := h
 obtain ⟨us,h6,h7,h8⟩ := h5 i hi hiN
 refine ⟨h1.other (fun e => ?_) _,⟨vs,h2.other (fun e => ?_) _,h3,h4⟩,fun i' hi' hn' => ?_⟩
 ·rw [e] at h1
  have h9 := h1.symm.trans h6
  simp at h9
 ·rw [e] at h2
  have h9 := h2.symm.trans h6
  simp at h9
 ·by_cases he : i' = i
  ·subst he
   refine ⟨_,h6.set j _,by rw [List.length_set]; exact h7,fun j' hj' => ?_⟩
   unfold upd
   by_cases hjj : j' = j
   ·subst hjj
    rw [if_pos ⟨rfl,rfl⟩,List.getElem?_set_self (by rw [h7]; exact hj)]
   ·rw [if_neg (fun hh => hjj hh.2),List.getElem?_set_ne (fun e => hjj e.symm)]
    exact h8 j' hj'
  ·obtain ⟨us',g6,g7,g8⟩ := h5 i' hi' hn'
   refine ⟨us',g6.other (hinj i' hi' hn' he) _,g7,fun j' hj' => ?_⟩
   unfold upd
   rw [if_neg (fun hh => he hh.1)]
   exact g8 j' hj'
def begun (f : Nat → Nat → Int) (i : Nat) : Nat → Nat → Int := fun i' j => if i' = i then 0 else f i' j
def updR (R : Nat → Nat) (i r : Nat) : Nat → Nat := fun i' => if i' = i then r else R i'
theorem GridM.row_new (h : GridM X pg G N M (i + 1) R f) (hi : i < N) :
  GridM ((X.setCell ⟨G,i,none⟩ (.slice (some ⟨X.heap.size,0,none⟩) M M)).alloc (.cells (Array.replicate M (.int .i64 0)) 3)) pg G N M i (updR R i X.heap.size) (begun f i) := by
 have hr := Blk.rep (X.setCell ⟨G,i,none⟩ (.slice (some ⟨X.heap.size,0,none⟩) M M)) 3 M (.int .i64 0)
 have hsz : (X.setCell ⟨G,i,none⟩ (.slice (some ⟨X.heap.size,0,none⟩) M M)).heap.size = X.heap.size := by simp [World.setCell]
 rw [hsz] at hr
 have hb : Below (X.setCell ⟨G,i,none⟩ (.slice (some ⟨X.heap.size,0,none⟩) M M)).heap.size (X.setCell ⟨G,i,none⟩ (.slice (some ⟨X.heap.size,0,none⟩) M M)) ((X.setCell ⟨G,i,none⟩ (.slice (some ⟨X.heap.size,0,none⟩) M M)).alloc (.cells (Array.replicate M (.int .i64 0)) 3)) := (Below.refl _ _).alloc (Nat.le_refl _) _
 obtain ⟨h1,⟨vs,h2,h3,h4⟩,h5⟩ := h
 refine ⟨(h1.other (fun e => ?_) _).below hb,⟨_,(h2.set i _).below hb,by rw [List.length_set]; exact h3,fun i' hi' hn' => ?_⟩,fun i' hi' hn' => ?_⟩
 ·rw [e] at h1
  have h9 := h1.symm.trans h2
  simp at h9
 ·unfold updR
  by_cases he : i' = i
  ·subst he
   rw [if_pos rfl,List.getElem?_set_self (by rw [h3]; exact hn')]
  ·rw [if_neg he,List.getElem?_set_ne (fun e => he e.symm)]
   exact h4 i' (by omega) hn'
 ·unfold updR begun
  by_cases he : i' = i
  ·subst he
   rw [if_pos rfl]
   exact ⟨_,hr,by rw [List.length_replicate],fun j hj => by rw [if_pos rfl,List.getElem?_replicate,if_pos hj]⟩
  ·rw [if_neg he]
   obtain ⟨us',g6,g7,g8⟩ := h5 i' (by omega) hn'
   refine ⟨us',(g6.other (fun e => ?_) _).below hb,g7,fun j hj => ?_⟩
   ·rw [e] at g6
    have h9 := g6.symm.trans h2
    simp at h9
   ·rw [if_neg he]
    exact g8 j hj
end
def fG (c : List (List Int)) (d e : List Int) (k q : Nat) : Nat → Nat → Int := fun i j => if k < i ∨ (i = k ∧ q ≤ j) then As.gAt c d e i j else 0
def Inj (N k : Nat) (R : Nat → Nat) : Prop := ∀ i i',k ≤ i → i < i' → i' < N → R i' < R i
theorem Inj.ne {N k : Nat} {R : Nat → Nat} (h : Inj N k R) {i i' : Nat} (hi : k ≤ i) (hi' : k ≤ i') (hn : i < N) (hn' : i' < N) (he : i' ≠ i) : R i' ≠ R i := by
 rcases Nat.lt_or_gt_of_ne he with h1 | h1
 ·have := h i' i hi' h1 hn; omega
 ·have := h i i' hi h1 hn'; omega
def GridP (ps : List (List Int × Value)) (d e : List Int) (W : World) (en : Ending) (W' : World) : Prop :=
 ∃ R f,en = .returned (.slice (some ⟨W.heap.size,0,none⟩) (d.length + 1) (d.length + 1)) ∧ GridM W' (W.heap.size + 1) W.heap.size (d.length + 1) (e.length + 1) 0 R f ∧ (∀ i j,i ≤ d.length → j ≤ e.length → f i j = As.gAt (ps.map Prod.fst) d e i j) ∧ Below W.heap.size W W'
set_option maxRecDepth 100000 in
set_option maxHeartbeats 8000000 in
theorem grid_any (ps : List (List Int × Value)) (d e : List Int) (vc vd ve : Value) (W : World) (hc : RowsAt W vc ps) (hd : SlOf W vd 1 intC1 d) (he : SlOf W ve 1 intC1 e) (hok : As.Ok (ps.map Prod.fst) d e) :
  Calls Tryz.prog 77 #[vc,vd,ve] W (GridP ps d e W) := by
 have HC := hid hc
 have HD := hid hd
 have HE := hid he
 have HOK := hid hok
 have hn6 := hok.few
 have hm6 := hok.cols
 obtain ⟨⟨ac,cc,rfl,-⟩,-⟩ := hc
 obtain ⟨ad,cd,rfl,-⟩ := hd
 obtain ⟨ae,ce,rfl,-⟩ := he
 unfold GridP
 obtain ⟨n,hnn⟩ := exq (d.length)
 obtain ⟨m,hmm⟩ := exq (e.length)
 have HNM := hid (And.intro hnn hmm)
 have HFB := hid (fun k q i j => show 0 ≤ fG (ps.map Prod.fst) d e k q i j ∧ fG (ps.map Prod.fst) d e k q i j ≤ 1000000 by
  have := As.gAt_bounds hok i j
  unfold fG
  split <;> omega)
 rw [← hnn] at hn6 ⊢
 rw [← hmm] at hm6 ⊢
 have hmk := make_intsS (n + 1) (by omega) W
 rw [show ((n + 1 : Nat) : Int) = (n : Int) + 1 by omega] at hmk
 have hwn : IntKind.i64.wrap ((n : Int) + 1) = (n : Int) + 1 := IntWalk.i64_in _ (by omega)
 have hwm : IntKind.i64.wrap ((m : Int) + 1) = (m : Int) + 1 := IntWalk.i64_in _ (by omega)
 obtain ⟨W2,hW2⟩ := exq ((W.alloc (.cells (Array.replicate (n + 1) (.slice none 0 0)) 90)).alloc (.cells #[.slice (some ⟨W.heap.size,0,none⟩) (n + 1) (n + 1)] 96))
 have HB2 := hid (show Below W.heap.size W W2 by rw [hW2]; exact ((Below.refl _ W).alloc (Nat.le_refl _) _).alloc (by simp) _)
 have HG2 := hid (show GridM W2 (W.heap.size + 1) W.heap.size (n + 1) (m + 1) (n + 1) (fun _ => 0) (fG (ps.map Prod.fst) d e (n + 1) 0) by
  have h1 := Blk.rep W 90 (n + 1) (.slice none 0 0)
  have h2 := Blk.new (W.alloc (.cells (Array.replicate (n + 1) (.slice none 0 0)) 90)) 96 [.slice (some ⟨W.heap.size,0,none⟩) (n + 1) (n + 1)]
  rw [World.size_alloc] at h2
  rw [hW2]
  exact ⟨h2,⟨_,h1.below ((Below.refl _ _).alloc (Nat.le_refl _) _),by rw [List.length_replicate],fun i h3 h4 => by omega⟩,fun i h3 h4 => by omega⟩)
 clear hok hnn hmm
 go_enter Tryz.func77,Tryz.ntmps77
 go_upto_region 2 with (fail)
 rw [← hW2]
 clear hW2 hmk
 go_wp2_with fail
 go_loopw [8] (fun iv wr => ∃ (k : Nat) (R : Nat → Nat),k ≤ n + 1 ∧ iv = .int .i64 ((k : Int) - 1) ∧ Hid (GridM wr (W.heap.size + 1) W.heap.size (n + 1) (m + 1) k R (fG (ps.map Prod.fst) d e k 0)) ∧ Hid (Inj (n + 1) k R) ∧ Hid (Below W.heap.size W wr)) (fun iv _ => (RowKit.intOf iv + 1).toNat)
 case atStart => exact ⟨n + 1,_,Nat.le_refl _,by rw [show ((n + 1 : Nat) : Int) - 1 = (n : Int) by omega],HG2,hid (fun i i' h1 h2 h3 => by omega),HB2⟩
 case round =>
  clear HG2 HB2
  obtain ⟨k,R,hk,rfl,HG,HI,HR⟩ := hrel
  by_cases hk0 : 0 < k
  ·have g0 : decide (0 ≤ (k : Int) - 1) = true := decide_eq_true (by omega)
   obtain ⟨i,hi⟩ : ∃ i,k = i + 1 := ⟨k - 1,by omega⟩
   subst hi
   have hki : ((i + 1 : Nat) : Int) - 1 = (i : Int) := by omega
   rw [hki] at g0
   rw [hki]
   have hin : i ≤ n := by omega
   have i0 : (0 : Int) ≤ (i : Int) := by omega
   have i1 : (i : Int) < (n : Int) + 1 := by omega
   have b0 := HG.out.box.cell (j := 0) rfl
   have bz := HG.out.box.lt
   obtain ⟨vs,hvs,hvl,-⟩ := HG.out.rows
   obtain ⟨u0,hu0⟩ : ∃ u0,vs[i]? = some u0 := ⟨_,List.getElem?_eq_getElem (by rw [hvl]; omega)⟩
   have gc := hvs.cell hu0
   have gf := hvs.frozen i
   have gz := hvs.lt
   have hmk2 := make_ints (m + 1) (by omega) wr.drew
   rw [show ((m + 1 : Nat) : Int) = (m : Int) + 1 by omega] at hmk2
   obtain ⟨X1,hX1⟩ := exq (((wr.setCell ⟨W.heap.size,i,none⟩ (.slice (some ⟨wr.heap.size,0,none⟩) (m + 1) (m + 1))).alloc (.cells (Array.replicate (m + 1) (.int .i64 0)) 3)).drew)
   have HX1 := hid (show GridM X1 (W.heap.size + 1) W.heap.size (n + 1) (m + 1) i (updR R i wr.heap.size) (fG (ps.map Prod.fst) d e i (m + 1)) by
    rw [hX1]
    refine ((HG.out.row_new (i := i) (by omega)).below (Below.refl _ _).drew).congr fun i' j' h1 h2 h3 => ?_
    unfold begun fG
    by_cases he : i' = i
    ·rw [if_neg (by omega),if_pos he]
    ·rw [if_pos (by omega),if_neg he,if_pos (by omega)])
   have HI1 := hid (show Inj (n + 1) i (updR R i wr.heap.size) from fun a b h1 h2 h3 => by
    unfold updR
    rw [if_neg (show ¬ b = i by omega)]
    split
    ·obtain ⟨us,h4,_⟩ := HG.out.row b (by omega) (by omega)
     exact h4.lt
    ·exact HI.out a b (by omega) h2 h3)
   have HBX1 := hid (show Below W.heap.size W X1 by
    rw [hX1]
    have hz := HR.out.size
    exact (((HR.out).setCell (p := ⟨W.heap.size,i,none⟩) (Nat.le_refl _) _).alloc (by simpa [World.setCell] using hz) _).drew)
   clear hvs hvl hu0 HG
   go_upto_region 5 with (fail)
   go_region
   rw [← hX1]
   obtain ⟨r,hr⟩ := exq (wr.heap.size)
   rw [← hr] at HX1 HI1 ⊢
   have HRZ := hid (show W.heap.size ≤ r by rw [hr]; exact HR.out.size)
   clear hX1 hmk2 b0 bz gc gf gz hr HI HR
   go_wp2_with fail
   go_loopw [9] (fun jv wx => ∃ q : Nat,q ≤ m + 1 ∧ jv = .int .i64 ((q : Int) - 1) ∧ Hid (GridM wx (W.heap.size + 1) W.heap.size (n + 1) (m + 1) i (updR R i r) (fG (ps.map Prod.fst) d e i q)) ∧ Hid (Below W.heap.size W wx)) (fun jv _ => (RowKit.intOf jv + 1).toNat)
   case atStart => exact ⟨m + 1,Nat.le_refl _,by rw [show ((m + 1 : Nat) : Int) - 1 = (m : Int) by omega],HX1,HBX1⟩
   case round =>
    clear HX1 HBX1
    obtain ⟨q,hq,rfl,HG,HR⟩ := hrel
    rename World => wx
    by_cases hq0 : 0 < q
    ·have q0 : decide (0 ≤ (q : Int) - 1) = true := decide_eq_true (by omega)
     obtain ⟨j,hj⟩ : ∃ j,q = j + 1 := ⟨q - 1,by omega⟩
     subst hj
     have hqj : ((j + 1 : Nat) : Int) - 1 = (j : Int) := by omega
     rw [hqj] at q0
     rw [hqj]
     have hjm : j ≤ m := by omega
     have j0 : (0 : Int) ≤ (j : Int) := by omega
     have j1 : (j : Int) < (m : Int) + 1 := by omega
     obtain ⟨X2,hX2⟩ := exq (wx.alloc (.cells #[.int .i64 (-1)] 3))
     have hb2 := bnew hX2
     have hk2 : Blk X2 wx.heap.size 3 [.int .i64 (-1)] := by rw [hX2]; exact Blk.new wx _ _
     have HNB := hid (neigh_any ps d e _ _ _ i j (W.heap.size + 1) wx.heap.size W.heap.size i (updR R i r) (fG (ps.map Prod.fst) d e i (j + 1)) wx X2 (HC.out.below HR.out) (HD.out.below HR.out) (HE.out.below HR.out)
      (by rw [← HNM.out.1,← HNM.out.2]; exact HG.out) hb2 hk2 (Nat.le_refl _) (Nat.le_refl _) (by rw [← HNM.out.1]; exact hin) (by rw [← HNM.out.2]; exact hjm) HOK.out (fun x y => HFB.out i (j + 1) x y)
      (fun h => by unfold fG; rw [if_pos (by omega)]) (fun h => by unfold fG; rw [if_pos (by omega)]) (fun h h' => by unfold fG; rw [if_pos (by omega)]))
     rw [← HNM.out.1,← HNM.out.2] at HNB
     clear hb2 hk2
     go_upto_region 10 with (fail)
     rw [← hX2]
     clear hX2
     go_wp2_with fail
     refine (HNB.out).mono ?_
     rintro e1 w1 ⟨rfl,hb1,bv,hkb,hmax⟩
     have hG1 := HG.out.below hb1
     have HG1 := hid hG1
     have HB1 := hid (Below.step HR.out hb1)
     have HMX := hid hmax
     have b0 := hG1.box.cell (j := 0) rfl
     have bz := hG1.box.lt
     obtain ⟨vs,hvs,hvl,hvr⟩ := hG1.rows
     have gc := hvs.cell (hvr i (Nat.le_refl _) (by omega))
     rw [show updR R i r i = r by unfold updR; rw [if_pos rfl]] at gc
     have gz := hvs.lt
     obtain ⟨us,hus,hul,hur⟩ := hG1.row i (Nat.le_refl _) (by omega)
     have rc := hus.cell (hur j (by omega))
     have rf := hus.frozen j
     have rz := hus.lt
     rw [show updR R i r i = r by unfold updR; rw [if_pos rfl]] at rc rf rz
     have kc := hkb.cell (j := 0) rfl
     have kz := hkb.lt
     clear hG1 hb1 hkb hmax hvs hvl hvr hus hul hur
     go_upto_region 11 with (fail)
     go_region
     have HG3 := hid (show GridM (w1.setCell ⟨r,j,none⟩ (.int .i64 (max bv 0))).drew (W.heap.size + 1) W.heap.size (n + 1) (m + 1) i (updR R i r) (fG (ps.map Prod.fst) d e i j) by
      have h := HG1.out.set (i := i) (j := j) (Nat.le_refl _) (by omega) (by omega) (fun i' h1 h2 h3 => HI1.out.ne (Nat.le_refl _) h1 (by omega) h2 h3) (max bv 0)
      rw [show updR R i r i = r by unfold updR; rw [if_pos rfl]] at h
      refine (h.below (Below.refl _ _).drew).congr fun i' j' h1 h2 h3 => ?_
      unfold upd fG
      by_cases he : i' = i ∧ j' = j
      ·rw [if_pos he,if_pos (by omega),HMX.out,he.1,he.2]
      ·rw [if_neg he]
       by_cases hc : i < i' ∨ (i' = i ∧ j ≤ j')
       ·rw [if_pos hc,if_pos (by omega)]
       ·rw [if_neg hc,if_neg (by omega)])
     have HR3 := hid (show Below W.heap.size W (w1.setCell ⟨r,j,none⟩ (.int .i64 (max bv 0))).drew from (HB1.out.setCell (p := ⟨r,j,none⟩) HRZ.out _).drew)
     have hwd : IntKind.i64.wrap ((j : Int) - 1) = (j : Int) - 1 := IntWalk.i64_in _ (by omega)
     clear b0 bz gc gz rc rf rz kc kz
     go_wp2_with fail
     go_roundw
     case rel => exact ⟨j,by omega,rfl,HG3,HR3⟩
     case measure => simp [RowKit.intOf]
    ·have hq00 : q = 0 := by omega
     subst hq00
     have hwd : IntKind.i64.wrap ((i : Int) - 1) = (i : Int) - 1 := IntWalk.i64_in _ (by omega)
     go_wp2_with fail
     go_roundw
     case rel => exact ⟨i,updR R i r,by omega,rfl,HG,HI1,HR⟩
     case measure => simp [RowKit.intOf]
  ·have hk00 : k = 0 := by omega
   subst hk00
   have b0 := HG.out.box.cell (j := 0) rfl
   have bz := HG.out.box.lt
   go_wp2_with fail
   go_ret
   exact ⟨R,_,rfl,HG.out,fun i j h1 h2 => by unfold fG; rw [if_pos (by omega)],HR.out⟩
end Go.Proofs.YtdghfenbfbdijaaGreatDoor
namespace Go.Proofs.YtdghfenbfbdijaaGreatDoor
open Go.RowKit Go.Lib Go.Maps
def OrdP (c : List (List Int)) (d e : List Int) (W : World) (en : Ending) (W' : World) : Prop :=
 Below W.heap.size W W' ∧ ∃ (v : Value) (out : List Int),en = .returned (.tuple #[v,.int .i64 (As.ordered c d e),.int .i64 (if As.valid c d e then 0 else 1)]) ∧ SlOf W' v 1 intC1 out ∧ Few6 out
set_option maxRecDepth 100000 in
set_option maxHeartbeats 8000000 in
theorem ordered_any (ps : List (List Int × Value)) (d e : List Int) (vc vd ve : Value) (W : World) (hc : RowsAt W vc ps) (hd : SlOf W vd 1 intC1 d) (he : SlOf W ve 1 intC1 e) (h1 : ps.length ≤ 1000000) (h2 : d.length ≤ 1000000) (h3 : e.length ≤ 1000000) :
  Calls Tryz.prog 46 #[vc,vd,ve] W (OrdP (ps.map Prod.fst) d e W) := by
 have HV := hid (valid16_any ps d e vc vd ve W hc hd he h1 h2 h3)
 have HC := hid hc
 have HD := hid hd
 have HE := hid he
 cases hv : As.valid (ps.map Prod.fst) d e with
 | false =>
  have HO := hid (show As.ordered (ps.map Prod.fst) d e = 0 by unfold As.ordered; rw [hv]; rfl)
  have HVF := hid hv
  rw [hv] at HV
  obtain ⟨⟨ac,cc,rfl,-⟩,-⟩ := hc
  obtain ⟨ad,cd,rfl,-⟩ := hd
  obtain ⟨ae,ce,rfl,-⟩ := he
  clear hv
  go_enter Tryz.func46,Tryz.ntmps46
  go_wp2_with fail
  go_step3
  go_wp2_with fail
  refine (HV.out).mono ?_
  rintro e1 w1 ⟨rfl,hb1⟩
  have HB1 := hid hb1
  clear hb1
  go_wp2_with fail
  rw [Exit.noGoto_ret]
  go_ret3
  exact ⟨HB1.out,_,[],by rw [HO.out,HVF.out]; rfl,SlOf.nil _ _ _,Few6.nil⟩
 | true =>
  have hok := As.valid_iff.1 hv
  have HOK := hid hok
  have HO := hid (As.gAt_ordered hv)
  have HVT := hid hv
  rw [hv] at HV
  have hlen := hok.rows
  rw [List.length_map] at hlen
  have hn6 := hok.few
  have hm6 := hok.cols
  obtain ⟨⟨ac,cc,rfl,-⟩,-⟩ := hc
  obtain ⟨ad,cd,rfl,-⟩ := hd
  obtain ⟨ae,ce,rfl,-⟩ := he
  obtain ⟨n,hnn⟩ := exq (d.length)
  obtain ⟨m,hmm⟩ := exq (e.length)
  have HNM := hid (And.intro hnn (And.intro hmm hlen))
  have HG : Hid (∀ X,Below W.heap.size W X → Calls Tryz.prog 77 #[.slice ac n cc,.slice ad n cd,.slice ae m ce] X (GridP ps d e X)) := hid fun X hX => by
   have := grid_any ps d e _ _ _ X (HC.out.below hX) (HD.out.below hX) (HE.out.below hX) HOK.out
   rwa [HNM.out.2.2,← HNM.out.1,← HNM.out.2.1] at this
  rw [hlen,← hnn] at HV ⊢
  rw [← hnn] at hn6
  rw [← hmm] at hm6 HV ⊢
  clear hv hok hlen hnn hmm h1 h2 h3
  go_enter Tryz.func46,Tryz.ntmps46
  go_wp2_with fail
  go_step3
  go_wp2_with fail
  refine (HV.out).mono ?_
  rintro e1 w1 ⟨rfl,hb1⟩
  have HB1 := hid hb1
  have HG1 := hid (HG.out w1 hb1)
  clear hb1
  go_wp2_with fail
  refine (HG1.out).mono ?_
  intro e2 w2 hg2
  unfold GridP at hg2
  rw [← HNM.out.1,← HNM.out.2.1] at hg2
  obtain ⟨R,f,rfl,hg,hf,hb2⟩ := hg2
  have HB2 := hid (Below.step HB1.out hb2)
  have HGM := hid hg
  have HF := hid hf
  clear hg hf hb2
  obtain ⟨i0,hi,hz0,hz1,hz2⟩ := info_parts Tryz.infoIntG
  have HFB := hid (As.gAt_bounds HOK.out)
  go_wp2_with fail
  go_step3
  go_wp2_with fail
  go_loopw [10,11,27] (fun pv fv kv wr => ∃ (k j : Nat) (out : List Int),k ≤ n ∧ j ≤ m ∧ kv = .int .i64 k ∧ fv = .int .i64 j ∧ (∃ a l c,pv = .slice a l c) ∧ Hid (Cols k out) ∧ Hid (wr.ownsRow w2.heap.size 3 1 pv out.length (out.flatMap intC1)) ∧ Hid (Below w2.heap.size w2 wr)) (fun _ _ kv _ => n - (RowKit.intOf kv).toNat)
  case atStart => exact ⟨0,0,[],Nat.zero_le _,Nat.zero_le _,rfl,rfl,⟨_,_,_,rfl⟩,hid ⟨rfl,fun x hx => by cases hx⟩,World.ownsRow_nil _ _ _ _,Below.refl _ _⟩
  case round =>
   obtain ⟨k,j,out,hk,hj,rfl,rfl,⟨pa,pl,pc,rfl⟩,HOL,HRO,HR⟩ := hrel
   rename World => wr
   have hGr := HGM.out.below HR.out
   have HGR := hid hGr
   by_cases hlt : k < n
   ·obtain ⟨p,hp⟩ : ∃ p,ps[k]? = some p := ⟨_,List.getElem?_eq_getElem (by rw [HNM.out.2.2,← HNM.out.1]; exact hlt)⟩
    have hbw := Below.step HB2.out HR.out
    obtain ⟨gc,oc,rfl,hrc⟩ : ∃ g o,ac = some ⟨g,o,none⟩ ∧ RowOf wr g o 1 rowC ps := by
     obtain ⟨a',c',e',-,-,hr⟩ := (HC.out.below hbw).1
     cases e'
     exact hr (by rw [HNM.out.2.2,← HNM.out.1]; omega)
    have c0 := hrc.2 k p hp 0 _ rfl
    rw [Nat.add_zero,Nat.mul_one] at c0
    have hgc := hrc.1
    have HPS := hid ((HC.out.below hbw).2 p (List.mem_of_getElem? hp)).1
    obtain ⟨row,rv⟩ := p
    have hrl : row.length = m := by rw [HNM.out.2.1]; exact HOK.out.len row (List.mem_map.2 ⟨_,List.mem_of_getElem? hp,rfl⟩)
    have HWR := hid (HOK.out.wc row (List.mem_map.2 ⟨_,List.mem_of_getElem? hp,rfl⟩))
    obtain ⟨av,cv,hrv,-⟩ := HPS.out
    simp only at hrv
    subst hrv
    have HRL := hid hrl
    rw [hrl] at c0
    have k0 : (0 : Int) ≤ (k : Int) := by omega
    have k1 : (k : Int) < (n : Int) := by omega
    clear hrc hp hbw hGr hrl
    go_wp2_with fail
    go_loopw [10,11,14,15] (fun pv fv qv jv wx => ∃ (j2 : Nat) (q : Int),j ≤ j2 ∧ j2 ≤ m ∧ pv = .slice pa pl pc ∧ fv = .int .i64 j ∧ jv = .int .i64 j2 ∧ qv = .int .i64 q ∧ Hid (0 ≤ q ∧ q ≤ 10000 * j2) ∧ Hid (Below wr.heap.size wr wx)) (fun _ _ _ jv _ => m - (RowKit.intOf jv).toNat)
    case atStart => exact ⟨j,0,Nat.le_refl _,hj,rfl,rfl,rfl,rfl,hid (by omega),Below.refl _ _⟩
    case round =>
     obtain ⟨j2,q,hj1,hj2,rfl,rfl,rfl,rfl,HQ,HX⟩ := hrel
     rename World => wx
     by_cases hjm : j2 < m
     ·have HGX := hid (HGR.out.below HX.out)
      have hbx := Below.step HB2.out (Below.step HR.out HX.out)
      have g0 := HGX.out.box.cell (j := 0) rfl
      obtain ⟨vs,hvs,-,hvr⟩ := HGX.out.rows
      have s1 := hvs.cell (hvr (k + 1) (Nat.zero_le _) (by omega))
      have s0 := hvs.cell (hvr k (Nat.zero_le _) (by omega))
      have sz := hvs.lt
      obtain ⟨us,hus,-,hur⟩ := HGX.out.row (k + 1) (Nat.zero_le _) (by omega)
      have t1 := hus.cell (hur (j2 + 1) (by omega))
      have tz := hus.lt
      obtain ⟨us',hus',-,hur'⟩ := HGX.out.row k (Nat.zero_le _) (by omega)
      have t0 := hus'.cell (hur' j (by omega))
      have tz0 := hus'.lt
      obtain ⟨gv,ov,rfl,hrv⟩ : ∃ g o,av = some ⟨g,o,none⟩ ∧ RowOf wx g o 1 intC1 row := by
       obtain ⟨a',c',e',-,-,hr⟩ := HPS.out.below HX.out
       cases e'
       exact hr (by rw [HRL.out]; omega)
      obtain ⟨r,hr⟩ : ∃ r,row[j2]? = some r := ⟨_,List.getElem?_eq_getElem (by rw [HRL.out]; exact hjm)⟩
      have r0 := hrv.2 j2 r hr 0 _ rfl
      rw [Nat.add_zero,Nat.mul_one] at r0
      have rz := hrv.1
      have hrb := As.within_mem HWR.out (List.mem_of_getElem? hr)
      have hqb := HQ.out
      have hfb := HFB.out (k + 1) (j2 + 1)
      rw [← HF.out (k + 1) (j2 + 1) (by omega) (by omega)] at hfb
      have w1' : IntKind.i64.wrap (q + r) = q + r := IntWalk.i64_in _ (by omega)
      have w2' : IntKind.i64.wrap (q + r + f (k + 1) (j2 + 1)) = q + r + f (k + 1) (j2 + 1) := IntWalk.i64_in _ (by omega)
      have w3' : IntKind.i64.wrap ((k : Int) + 1) = (k : Int) + 1 := IntWalk.i64_in _ (by omega)
      have w4' : IntKind.i64.wrap ((j2 : Int) + 1) = (j2 : Int) + 1 := IntWalk.i64_in _ (by omega)
      have k3 : (0 : Int) ≤ (k : Int) + 1 := by omega
      have k4 : (k : Int) + 1 < (n : Int) + 1 := by omega
      have k5 : (k : Int) < (n : Int) + 1 := by omega
      have j3 : (0 : Int) ≤ (j2 : Int) := by omega
      have j4 : (j2 : Int) < (m : Int) := by omega
      have j5 : (0 : Int) ≤ (j2 : Int) + 1 := by omega
      have j6 : (j2 : Int) + 1 < (m : Int) + 1 := by omega
      have j7 : (0 : Int) ≤ (j : Int) := by omega
      have j8 : (j : Int) < (m : Int) + 1 := by omega
      have HX2 := hid HX.out.drew
      obtain ⟨fa,hfa⟩ := exq (f (k + 1) (j2 + 1))
      obtain ⟨fb,hfb2⟩ := exq (f k j)
      rw [← hfa] at t1 w2'
      rw [← hfb2] at t0
      clear hvs hvr hus hur hus' hur' hrv hr hbx hfa hfb2 hfb
      go_upto_region 13 with (fail)
      go_region
      by_cases hq : q + r + fa = fb
      ·have hb1 : (q + r + fa == fb) = true := by rw [hq]; simp
       have HROX := hid ((ownsRow_below HRO.out HX2.out).alloc (.cells #[.int .i64 j2] 3))
       have hol : out.length ≤ 6 := by rw [HOL.out.1]; omega
       have HOB := hid (show w2.heap.size ≤ wx.heap.size from Nat.le_trans HR.out.size HX.out.size)
       have HBX := hid ((Below.step HR.out HX2.out).alloc (by have := HOB.out; simpa using this) (.cells #[.int .i64 j2] 3))
       clear c0 hgc g0 s1 s0 sz t1 tz t0 tz0 r0 rz hq
       go_wp2_with (at_builtin; refine wpList_append_own _ rfl _ _ 90 rfl w2.heap.size 3 i0 (.int .i64 0) 1 8 Tryz.underlying90 hi hz0 hz1 hz2 rfl (by decide) _ _ _ rfl HROX.out ⟨wx.heap.size,0,none⟩ 1 1 [.int .i64 j2] rfl rfl (cells_new rfl) (by simp [Value.oneCell']) (by unfold maxLen; omega) (by omega) (by have := HOB.out; simp; omega) ?_; intro v' w9 ho9 hg9 _; have HB9 := hid (Below.appended HBX.out hg9 (by have := HOB.out; simp; omega) HROX.out); have HO9 := hid ho9; obtain ⟨ya,yc,hy⟩ := ownsRow_slice ho9; clear ho9 hg9; subst hy)
       go_roundw
       case rel => exact ⟨k + 1,j2 + 1,out ++ [(j2 : Int)],by omega,by omega,by go_num,by go_num,⟨_,_,_,rfl⟩,hid (HOL.out.snoc (by omega)),by rw [List.flatMap_append,List.length_append]; exact HO9.out,HB9⟩
       case measure => simp [RowKit.intOf]; omega
      ·have hb1 : (q + r + fa == fb) = false := by simpa using hq
       obtain ⟨y,hy⟩ : ∃ y,e[j2]? = some y := ⟨_,List.getElem?_eq_getElem (by rw [← HNM.out.2.1]; exact hjm)⟩
       have hyb := As.within_mem HOK.out.we (List.mem_of_getElem? hy)
       obtain ⟨ge,oe,rfl,hre⟩ : ∃ g o,ae = some ⟨g,o,none⟩ ∧ RowOf wx.drew g o 1 intC1 e := by
        obtain ⟨a',c',e',-,-,hr⟩ := HE.out.below (Below.step HB2.out (Below.step HR.out HX2.out))
        cases e'
        exact hr (by rw [← HNM.out.2.1]; omega)
       have e0 := hre.2 j2 y hy 0 _ rfl
       rw [Nat.add_zero,Nat.mul_one] at e0
       have ez := hre.1
       have hwy : IntKind.i64.wrap (q + y) = q + y := IntWalk.i64_in _ (by omega)
       clear c0 hgc g0 s1 s0 sz t1 tz t0 tz0 r0 rz hq hre hy
       go_wp2_with fail
       go_roundw
       case rel => exact ⟨j2 + 1,q + y,by omega,by omega,rfl,rfl,by go_num,rfl,hid (by omega),HX2⟩
       case measure => simp [RowKit.intOf]; omega
     ·have HROX := hid ((ownsRow_below HRO.out HX.out).alloc (.cells #[.int .i64 m] 3))
      have hol : out.length ≤ 6 := by rw [HOL.out.1]; omega
      have HOB := hid (show w2.heap.size ≤ wx.heap.size from Nat.le_trans HR.out.size HX.out.size)
      have HBX := hid ((Below.step HR.out HX.out).alloc (by have := HOB.out; simpa using this) (.cells #[.int .i64 m] 3))
      have hj9 : ¬ (j2 : Int) < (m : Int) := by omega
      clear c0 hgc
      go_wp2_with (at_builtin; refine wpList_append_own _ rfl _ _ 90 rfl w2.heap.size 3 i0 (.int .i64 0) 1 8 Tryz.underlying90 hi hz0 hz1 hz2 rfl (by decide) _ _ _ rfl HROX.out ⟨wx.heap.size,0,none⟩ 1 1 [.int .i64 m] rfl rfl (cells_new rfl) (by simp [Value.oneCell']) (by unfold maxLen; omega) (by omega) (by have := HOB.out; simp; omega) ?_; intro v' w9 ho9 hg9 _; have HB9 := hid (Below.appended HBX.out hg9 (by have := HOB.out; simp; omega) HROX.out); have HO9 := hid ho9; obtain ⟨ya,yc,hy⟩ := ownsRow_slice ho9; clear ho9 hg9; subst hy)
      go_roundw
      case rel => exact ⟨k + 1,j,out ++ [(m : Int)],by omega,hj,by go_num,rfl,⟨_,_,_,rfl⟩,hid (HOL.out.snoc (by omega)),by rw [List.flatMap_append,List.length_append]; exact HO9.out,HB9⟩
      case measure => simp [RowKit.intOf]; omega
   ·have hke : ¬ (k : Int) < (n : Int) := by omega
    have g0 := HGR.out.box.cell (j := 0) rfl
    obtain ⟨vs,hvs,-,hvr⟩ := HGR.out.rows
    have s0 := hvs.cell (hvr 0 (Nat.zero_le _) (by omega))
    have sz := hvs.lt
    obtain ⟨us,hus,-,hur⟩ := HGR.out.row 0 (Nat.zero_le _) (by omega)
    have t0 := hus.cell (hur 0 (by omega))
    have tz := hus.lt
    have HE0 := hid (show f 0 0 = As.ordered (ps.map Prod.fst) d e by rw [HO.out,HF.out 0 0 (Nat.zero_le _) (Nat.zero_le _)])
    obtain ⟨f0,hf0⟩ := exq (f 0 0)
    rw [← hf0] at t0 HE0
    have n0 : (0 : Int) < (n : Int) + 1 := by omega
    have m0 : (0 : Int) < (m : Int) + 1 := by omega
    have HSL := hid (SlOf.own HRO.out (fun _ _ => rfl))
    clear hvs hvr hus hur hf0 hGr
    go_upto_region 19 with (fail)
    go_region
    go_wp2_with fail
    go_ret3
    refine ⟨(Below.step HB2.out HR.out).drew,_,out,?_,HSL.out.below (Below.refl _ _).drew,HOL.out.few (by omega)⟩
    rw [HE0.out,HVT.out]
    rfl
end Go.Proofs.YtdghfenbfbdijaaGreatDoor
