/-
 Several texts in one: ZIy1, ZIy2, ZIy3. Conditions: as each law says.
-/
import Derived.Test.YtdghfenbfbdijaaGreatDoorZMIxD
import Derived.Test.YtdghfenbfbdijaaGreatDoorZMIxA
import Derived.Test.YtdghfenbfbdijaaGreatDoorZMIxE
namespace Go.Proofs.YtdghfenbfbdijaaGreatDoor
open Go.RowKit Go.Lib Go.Maps
theorem hit_eq {x y : Idx.Hit} (h1 : (bs x.id).toList = (bs y.id).toList) (h2 : (x.alias_ : Int) = (y.alias_ : Int)) (h3 : x.cost = y.cost) : x = y := by
 obtain ⟨a,b,c⟩ := x
 obtain ⟨d,e,f⟩ := y
 rw [ByteArray.toList_eq,ByteArray.toList_eq] at h1
 have h1' : a = d := h1
 simp only at h2 h3
 rw [h1',h3,show b = e by omega]
set_option maxRecDepth 100000 in
set_option maxHeartbeats 2000000 in
theorem hitsE_any (A B : List Idx.Hit) (va vb : Value) (W : World) (ha : SlOf W va 3 hitC A) (hb : SlOf W vb 3 hitC B) : Calls Tryz.prog 20 #[va,vb] W (Gives (.bool (decide (A = B))) W) := by
 have HA := hid ha
 have HB := hid hb
 obtain ⟨aa,ca,rfl,a1,a2,-⟩ := ha
 obtain ⟨ab,cb,rfl,b1,b2,-⟩ := hb
 have hl1 : A.length ≤ 9223372036854775807 := by unfold maxLen at a2; omega
 have hl2 : B.length ≤ 9223372036854775807 := by unfold maxLen at b2; omega
 clear a1 a2 b1 b2
 by_cases hlen : A.length = B.length
 rotate_left
 ·have hne : ((A.length : Int) != (B.length : Int)) = true := by simp; omega
  have HO := hid (show false = decide (A = B) by
   symm
   rw [decide_eq_false_iff_not]
   intro e
   rw [e] at hlen
   exact hlen rfl)
  clear hlen
  go_enter Tryz.func20,Tryz.ntmps20
  go_wp2_with fail
  go_ret
  exact ⟨ret_bool HO.out,Below.refl _ _⟩
 have hne : ((A.length : Int) != (B.length : Int)) = false := by simp; omega
 have HLN := hid hlen
 clear hlen
 go_enter Tryz.func20,Tryz.ntmps20
 go_wp2_with fail
 go_loopw [5] (fun kv wr => ∃ k : Nat,k ≤ A.length ∧ kv = .int .i64 k ∧ Hid (A.take k = B.take k) ∧ Hid (Below W.heap.size W wr)) (fun kv _ => A.length - (RowKit.intOf kv).toNat)
 case atStart => exact ⟨0,Nat.zero_le _,rfl,rfl,Below.refl _ _⟩
 case round =>
  obtain ⟨k,hk,rfl,HT,HBW⟩ := hrel
  rename World => wr
  by_cases hlt : k < A.length
  ·obtain ⟨x,hx⟩ : ∃ x,A[k]? = some x := ⟨_,List.getElem?_eq_getElem hlt⟩
   obtain ⟨y,hy⟩ : ∃ y,B[k]? = some y := ⟨_,List.getElem?_eq_getElem (by rw [← HLN.out]; exact hlt)⟩
   obtain ⟨g,o,rfl,hr⟩ : ∃ g o,aa = some ⟨g,o,none⟩ ∧ RowOf wr g o 3 hitC A := by
    obtain ⟨a',c',e',-,-,hr⟩ := HA.out.below HBW.out
    simp only [Value.slice.injEq] at e'
    obtain ⟨rfl,-,rfl⟩ := e'
    exact hr (by omega)
   obtain ⟨g2,o2,rfl,hr2⟩ : ∃ g o,ab = some ⟨g,o,none⟩ ∧ RowOf wr g o 3 hitC B := by
    obtain ⟨a',c',e',-,-,hr⟩ := HB.out.below HBW.out
    simp only [Value.slice.injEq] at e'
    obtain ⟨rfl,-,rfl⟩ := e'
    exact hr (by rw [← HLN.out]; omega)
   have s0 := hr.2 k x hx 0 _ rfl
   have s1 := hr.2 k x hx 1 _ rfl
   have s2 := hr.2 k x hx 2 _ rfl
   have u0 := hr2.2 k y hy 0 _ rfl
   have u1 := hr2.2 k y hy 1 _ rfl
   have u2 := hr2.2 k y hy 2 _ rfl
   rw [Nat.add_zero] at s0 u0
   have hg := hr.1
   have hg2 := hr2.1
   have k0 : (0 : Int) ≤ (k : Int) := by omega
   have k1 : (k : Int) < (A.length : Int) := by omega
   have k2 : (k : Int) < (B.length : Int) := by rw [← HLN.out]; omega
   have HX := hid hx
   have HY := hid hy
   clear hr hr2 hx hy
   have hdiff := hid (show x ≠ y → false = decide (A = B) by
    intro hne
    symm
    rw [decide_eq_false_iff_not]
    intro e
    rw [e,HY.out] at HX
    exact hne (Option.some.inj HX.out).symm)
   by_cases e1 : (bs x.id).toList = (bs y.id).toList
   ·by_cases e2 : (x.alias_ : Int) = (y.alias_ : Int)
    ·by_cases e3 : x.cost = y.cost
     ·have HE := hid (hit_eq e1 e2 e3)
      go_wp2_with fail
      go_region
      go_wp2_with fail
      go_roundw
      case rel => exact ⟨k + 1,by omega,by go_num,hid (by rw [List.take_add_one,List.take_add_one,HT.out,HX.out,HY.out,HE.out]),HBW.out.drew⟩
      case measure => simp [RowKit.intOf]; omega
     ·have HE := hid e3
      go_wp2_with fail
      go_region
      go_wp2_with fail
      go_ret
      exact ⟨ret_bool (hdiff.out (fun e => HE.out (by rw [e]))),HBW.out.drew⟩
    ·have HE := hid e2
     go_wp2_with fail
     go_region
     go_wp2_with fail
     go_ret
     exact ⟨ret_bool (hdiff.out (fun e => HE.out (by rw [e]))),HBW.out.drew⟩
   ·have HE := hid e1
    go_wp2_with fail
    go_region
    go_wp2_with fail
    go_ret
    exact ⟨ret_bool (hdiff.out (fun e => HE.out (by rw [e]))),HBW.out.drew⟩
  ·have hke : k = A.length := by omega
   have hle : ¬ (k : Int) < (A.length : Int) := by omega
   have HE := hid (show true = decide (A = B) by
    have h := HT.out
    rw [hke,List.take_length,List.take_of_length_le (by rw [HLN.out]; exact Nat.le_refl _)] at h
    rw [decide_eq_true h])
   clear hke
   go_wp2_with fail
   go_ret
   exact ⟨ret_bool HE.out,HBW.out⟩
end Go.Proofs.YtdghfenbfbdijaaGreatDoor
namespace Idx
open Go.RowKit
def longZ : List (List UInt8) → Int
 | [] => 0
 | w :: l => (if 40 < w.length then 1000 else 0) + longZ l
def nameZ (n : Li.Nm) : Int := (n.words.length : Int) + longZ n.words
def wordsZ : List Li.Nm → Int
 | [] => 0
 | n :: l => nameZ n + wordsZ l
def sumZ : List Li.En → Int
 | [] => 0
 | e :: l => wordsZ e.names + sumZ l
theorem longZ_snoc (l : List (List UInt8)) (w : List UInt8) : longZ (l ++ [w]) = longZ l + if 40 < w.length then 1000 else 0 := by
 induction l with
 | nil => simp [longZ]
 | cons x l ih => simp only [List.cons_append,longZ,ih]; omega
theorem wordsZ_snoc (l : List Li.Nm) (n : Li.Nm) : wordsZ (l ++ [n]) = wordsZ l + nameZ n := by
 induction l with
 | nil => simp [wordsZ]
 | cons x l ih => simp only [List.cons_append,wordsZ,ih]; omega
theorem sumZ_snoc (l : List Li.En) (e : Li.En) : sumZ (l ++ [e]) = sumZ l + wordsZ e.names := by
 induction l with
 | nil => simp [sumZ]
 | cons x l ih => simp only [List.cons_append,sumZ,ih]; omega
theorem take_one {α : Type} {l : List α} {k : Nat} {x : α} (h : l[k]? = some x) : l.take (k + 1) = l.take k ++ [x] := by rw [List.take_add_one,h]; rfl
theorem wrap_more {N S x : Int} (h : N = wrap64 S) : wrap64 (N + x) = wrap64 (S + x) := by rw [h]; unfold wrap64; omega
theorem wrap_more2 {N S M x : Int} (h : N = wrap64 S) (h2 : M = wrap64 x) : wrap64 (N + M) = wrap64 (S + x) := by rw [h,h2]; unfold wrap64; omega
def okSz (e : Li.En) : Bool := decide (e.names.length ≤ 12) && decide (e.id.length ≤ 60)
def fewZ (l : List Li.En) (most : Int) : Bool := l.all okSz && decide (l.length ≤ 12) && decide (wrap64 (sumZ l) ≤ most)
end Idx
namespace Go.Proofs.YtdghfenbfbdijaaGreatDoor
open Go.RowKit Go.Lib Go.Maps
set_option maxRecDepth 100000 in
set_option maxHeartbeats 2000000 in
theorem words16_any (ns : List Li.Nm) (v : Value) (W : World) (h : NmSl W v ns) : Calls Tryz.prog 31 #[v] W (Gives (.int .i64 (wrap64 (Idx.wordsZ ns))) W) := by
 obtain ⟨ps,hps,hsl,hat⟩ := h
 have HSL := hid hsl
 have HAT := hid hat
 have HPS := hid hps
 obtain ⟨va,vc,rfl,h1,h2,-⟩ := hsl
 have hl1 : ps.length ≤ 9223372036854775807 := by unfold maxLen at h2; omega
 clear h1 h2 hps hat
 go_enter Tryz.func31,Tryz.ntmps31
 go_wp2_with fail
 go_loopw [3,4] (fun nv kv wr => ∃ (N : Int) (i : Nat),i ≤ ps.length ∧ kv = .int .i64 i ∧ nv = .int .i64 N ∧ Hid (N = wrap64 (Idx.wordsZ (ns.take i))) ∧ Hid (Below W.heap.size W wr)) (fun _ kv _ => ps.length - (RowKit.intOf kv).toNat)
 case atStart => exact ⟨0,0,Nat.zero_le _,rfl,rfl,hid (by simp [Idx.wordsZ,wrap64]),Below.refl _ _⟩
 case round =>
  obtain ⟨N,i,hi,rfl,rfl,HN,HW⟩ := hrel
  rename World => wr
  by_cases hlt : i < ps.length
  ·obtain ⟨⟨m,mv⟩,hq⟩ : ∃ q,ps[i]? = some q := ⟨_,List.getElem?_eq_getElem hlt⟩
   obtain ⟨g,o,rfl,hr⟩ : ∃ g o,va = some ⟨g,o,none⟩ ∧ RowOf wr g o 2 nmC ps := by
    obtain ⟨a',c',e',-,-,hr⟩ := HSL.out.below HW.out
    simp only [Value.slice.injEq] at e'
    obtain ⟨rfl,-,rfl⟩ := e'
    exact hr (by omega)
   have hms := HAT.out _ (List.mem_of_getElem? hq)
   have HMS := hid hms
   obtain ⟨ma,mc,hmv,k1,k2,-⟩ := hms
   dsimp only at hmv k1 k2
   subst hmv
   have hl2 : m.words.length ≤ 9223372036854775807 := by unfold maxLen at k2; omega
   have s1 := hr.2 i _ hq 1 _ rfl
   have hg := hr.1
   have i0 : (0 : Int) ≤ (i : Int) := by omega
   have i1 : (i : Int) < (ps.length : Int) := by omega
   have HRW := hid (show ∀ X,Below W.heap.size W X → X.cell? ⟨g,o + i * 2 + 1,none⟩ = some (.slice ma m.words.length mc) ∧ g < X.heap.size from fun X hX => by
    obtain ⟨a',c',e',-,-,hr⟩ := HSL.out.below hX
    simp only [Value.slice.injEq] at e'
    obtain ⟨e1,-,e2⟩ := e'
    obtain ⟨g',o',e3,hr⟩ := hr (by omega)
    rw [← e1] at e3
    cases e3
    exact ⟨hr.2 i _ hq 1 _ rfl,hr.1⟩)
   have HNS := hid (show ns[i]? = some m by rw [← HPS.out,List.getElem?_map,hq]; rfl)
   obtain ⟨L,hL⟩ := exq (m.words.length)
   have HL := hid hL
   rw [← hL] at hl2
   clear hr hq k1 k2 hL
   rw [← HL.out] at s1 HRW
   go_wp2_with fail
   go_loopw [3,5] (fun nv kv wx => ∃ (M : Int) (k : Nat),k ≤ L ∧ kv = .int .i64 k ∧ nv = .int .i64 M ∧ Hid (M = wrap64 (Idx.wordsZ (ns.take i) + L + Idx.longZ (m.words.take k))) ∧ Hid (Below W.heap.size W wx)) (fun _ kv _ => L - (RowKit.intOf kv).toNat)
   case atStart => exact ⟨_,0,Nat.zero_le _,rfl,rfl,hid (by rw [Idx.wrap_more HN.out]; simp [Idx.longZ]),HW.out⟩
   case round =>
    clear s1 hg
    obtain ⟨M,k,hk,rfl,rfl,HM,HX⟩ := hrel
    rename World => wx
    obtain ⟨s1,hg⟩ := HRW.out wx HX.out
    by_cases hkl : k < L
    ·obtain ⟨s,hs⟩ : ∃ s,m.words[k]? = some s := ⟨_,List.getElem?_eq_getElem (by rw [← HL.out]; exact hkl)⟩
     obtain ⟨g2,o2,rfl,hr⟩ : ∃ g o,ma = some ⟨g,o,none⟩ ∧ RowOf wx g o 1 strC m.words := by
      obtain ⟨a',c',e',-,-,hr⟩ := SlOf.below HMS.out HX.out
      simp only [Value.slice.injEq] at e'
      obtain ⟨rfl,-,rfl⟩ := e'
      exact hr (by show 0 < m.words.length; rw [← HL.out]; omega)
     have u0 := hr.2 k s hs 0 _ rfl
     rw [Nat.add_zero,Nat.mul_one] at u0
     have hg2 := hr.1
     have k0 : (0 : Int) ≤ (k : Int) := by omega
     have k1 : (k : Int) < (L : Int) := by omega
     have HTK := hid (Idx.take_one hs)
     have hsz := bs_len s
     clear hr hs
     by_cases h40 : 40 < s.length
     ·have g40 : decide ((40 : Int) < ((bs s).size : Int)) = true := decide_eq_true (by omega)
      have H40 := hid h40
      clear hsz h40
      go_wp2_with fail
      go_roundw
      case rel => exact ⟨_,k + 1,by omega,by go_num,rfl,hid (by rw [Idx.wrap_more HM.out,HTK.out,Idx.longZ_snoc,if_pos H40.out,Int.add_assoc]),HX.out⟩
      case measure => simp [RowKit.intOf]; omega
     ·have g40 : decide ((40 : Int) < ((bs s).size : Int)) = false := decide_eq_false (by omega)
      have H40 := hid h40
      clear hsz h40
      go_wp2_with fail
      go_roundw
      case rel => exact ⟨M,k + 1,by omega,by go_num,rfl,hid (by rw [HM.out,HTK.out,Idx.longZ_snoc,if_neg H40.out,Int.add_zero]),HX.out⟩
      case measure => simp [RowKit.intOf]; omega
    ·have hke : k = L := by omega
     have hkl' : ¬ (k : Int) < (L : Int) := by omega
     have HKE := hid hke
     clear hke
     go_wp2_with fail
     go_roundw
     case rel =>
      refine ⟨M,i + 1,by omega,by go_num,rfl,hid ?_,HX.out⟩
      rw [HM.out,Idx.take_one HNS.out,Idx.wordsZ_snoc,HKE.out,HL.out,List.take_length,Int.add_assoc]
      rfl
     case measure => simp [RowKit.intOf]; omega
  ·have hie : i = ps.length := by omega
   have hil : ¬ (i : Int) < (ps.length : Int) := by omega
   have HIE := hid hie
   clear hie
   go_wp2_with fail
   go_ret
   refine ⟨?_,HW.out⟩
   have h1 := HN.out
   rw [List.take_of_length_le (by rw [← HPS.out,List.length_map,HIE.out]; exact Nat.le_refl _)] at h1
   rw [← h1]
   rfl
structure EnsRaw (w : World) (v : Value) (ps : List (Li.En × Value)) : Prop where
 sl : SlOf w v 2 enC ps
 nm : ∀ p ∈ ps,NmSl w p.2 p.1.names
theorem EnsRaw.below {w w' : World} {v : Value} {ps : List (Li.En × Value)} (h : EnsRaw w v ps) (hb : Below w.heap.size w w') : EnsRaw w' v ps := ⟨h.sl.below hb,fun p hp => (h.nm p hp).below hb⟩
set_option maxRecDepth 100000 in
set_option maxHeartbeats 2000000 in
theorem few16_any (ps : List (Li.En × Value)) (v : Value) (most : Int) (W : World) (h : EnsRaw W v ps) : Calls Tryz.prog 30 #[v,.int .i64 most] W (Gives (.bool (Idx.fewZ (ps.map Prod.fst) most)) W) := by
 have HE := hid h
 obtain ⟨va,vc,rfl,h1,h2,-⟩ := h.sl
 have hl1 : ps.length ≤ 9223372036854775807 := by unfold maxLen at h2; omega
 clear h1 h2 h
 go_enter Tryz.func30,Tryz.ntmps30
 go_wp2_with fail
 go_loopw [5,6] (fun nv kv wr => ∃ (N : Int) (i : Nat),i ≤ ps.length ∧ kv = .int .i64 i ∧ nv = .int .i64 N ∧ Hid (N = wrap64 (Idx.sumZ ((ps.map Prod.fst).take i))) ∧ Hid (((ps.map Prod.fst).take i).all Idx.okSz = true) ∧ Hid (Below W.heap.size W wr)) (fun _ kv _ => ps.length - (RowKit.intOf kv).toNat)
 case atStart => exact ⟨0,0,Nat.zero_le _,rfl,rfl,hid (by simp [Idx.sumZ,wrap64]),rfl,Below.refl _ _⟩
 case round =>
  obtain ⟨N,i,hi,rfl,rfl,HN,HA,HB⟩ := hrel
  rename World => wr
  by_cases hlt : i < ps.length
  ·obtain ⟨⟨en,ev⟩,hq⟩ : ∃ q,ps[i]? = some q := ⟨_,List.getElem?_eq_getElem hlt⟩
   obtain ⟨g,o,rfl,hr⟩ : ∃ g o,va = some ⟨g,o,none⟩ ∧ RowOf wr g o 2 enC ps := by
    obtain ⟨a',c',e',-,-,hr⟩ := HE.out.sl.below HB.out
    simp only [Value.slice.injEq] at e'
    obtain ⟨rfl,-,rfl⟩ := e'
    exact hr (by omega)
   have hnm := (HE.out.nm _ (List.mem_of_getElem? hq)).below HB.out
   have HWD := hid (words16_any en.names ev wr hnm)
   obtain ⟨ls,hl1',⟨ea,ec,hev,k1,k2,-⟩,-⟩ := hnm
   dsimp only at hev
   subst hev
   have hl2 : ls.length ≤ 9223372036854775807 := by unfold maxLen at k2; omega
   have hll : ls.length = en.names.length := by rw [← hl1',List.length_map]
   rw [hll] at hl2 HWD
   have s0 := hr.2 i _ hq 0 _ rfl
   have s1 := hr.2 i _ hq 1 _ rfl
   rw [Nat.add_zero] at s0
   dsimp only at s0 s1
   rw [hll] at s1
   have hg := hr.1
   have i0 : (0 : Int) ≤ (i : Int) := by omega
   have i1 : (i : Int) < (ps.length : Int) := by omega
   have HTK := hid (show (ps.map Prod.fst).take (i + 1) = (ps.map Prod.fst).take i ++ [en] from Idx.take_one (by rw [List.getElem?_map,hq]; rfl))
   have HMM := hid (show en ∈ ps.map Prod.fst from List.mem_map.2 ⟨_,List.mem_of_getElem? hq,rfl⟩)
   have hsz := bs_len en.id
   obtain ⟨L,hL⟩ := exq (en.names.length)
   have HL := hid hL
   rw [← hL] at hl2 HWD s1
   have hno := hid (show Idx.okSz en = false → false = Idx.fewZ (ps.map Prod.fst) most by
    intro h
    unfold Idx.fewZ
    rw [show (ps.map Prod.fst).all Idx.okSz = false by
     rw [Bool.eq_false_iff]
     intro h'
     have := List.all_eq_true.1 h' en HMM.out
     rw [h] at this
     cases this]
    rfl)
   clear hr hq k1 k2 hL hl1' hll
   by_cases h12 : L ≤ 12
   ·by_cases h60 : en.id.length ≤ 60
    ·have g12 : decide ((12 : Int) < (L : Int)) = false := decide_eq_false (by omega)
     have g60 : decide ((60 : Int) < ((bs en.id).size : Int)) = false := decide_eq_false (by omega)
     have HOK := hid (show Idx.okSz en = true by unfold Idx.okSz; rw [decide_eq_true h60,← HL.out,decide_eq_true h12]; rfl)
     clear hsz h12 h60
     go_wp2_with fail
     refine (HWD.out).mono ?_
     rintro e w3 ⟨rfl,hb3⟩
     clear s0 s1 hg
     go_wp2_with fail
     go_roundw
     case rel =>
      refine ⟨_,i + 1,by omega,by go_num,rfl,hid ?_,hid ?_,Below.step HB.out hb3⟩
      ·rw [Idx.wrap_more2 HN.out rfl,HTK.out,Idx.sumZ_snoc]
      ·rw [HTK.out,List.all_append,HA.out]
       simp [HOK.out]
     case measure => simp [RowKit.intOf]; omega
    ·have g12 : decide ((12 : Int) < (L : Int)) = false := decide_eq_false (by omega)
     have g60 : decide ((60 : Int) < ((bs en.id).size : Int)) = true := decide_eq_true (by omega)
     have HOK := hid (hno.out (by unfold Idx.okSz; rw [decide_eq_false h60,Bool.and_false]))
     clear hsz h12 h60
     go_wp2_with fail
     go_ret
     exact ⟨ret_bool HOK.out,HB.out⟩
   ·have g12 : decide ((12 : Int) < (L : Int)) = true := decide_eq_true (by omega)
    have HOK := hid (hno.out (by unfold Idx.okSz; rw [← HL.out,decide_eq_false h12,Bool.false_and]))
    clear hsz h12
    go_wp2_with fail
    go_ret
    exact ⟨ret_bool HOK.out,HB.out⟩
  ·have hie : i = ps.length := by omega
   have hil : ¬ (i : Int) < (ps.length : Int) := by omega
   have HFW := hid (show Idx.fewZ (ps.map Prod.fst) most = (decide (ps.length ≤ 12) && decide (N ≤ most)) by
    have h1 := HN.out
    have h2 := HA.out
    rw [List.take_of_length_le (by rw [List.length_map,hie]; exact Nat.le_refl _)] at h1 h2
    unfold Idx.fewZ
    rw [h2,h1,List.length_map,Bool.true_and])
   clear hie
   by_cases h12 : ps.length ≤ 12
   ·have g12 : decide ((ps.length : Int) ≤ 12) = true := decide_eq_true (by omega)
    have HF := hid (show decide (N ≤ most) = Idx.fewZ (ps.map Prod.fst) most by rw [HFW.out,decide_eq_true h12,Bool.true_and])
    clear h12
    go_wp2_with fail
    go_ret
    exact ⟨ret_bool HF.out,HB.out⟩
   ·have g12 : decide ((ps.length : Int) ≤ 12) = false := decide_eq_false (by omega)
    have HF := hid (show false = Idx.fewZ (ps.map Prod.fst) most by rw [HFW.out,decide_eq_false h12,Bool.false_and])
    clear h12
    go_wp2_with fail
    go_ret
    exact ⟨ret_bool HF.out,HB.out⟩
attribute [local go_sem] Oper.semAt_some
def smallZ (t : Rw.Table) (l : List Li.En) (il : Nat) (ns : List Li.Nm) : Bool := Rw.fewB t && Idx.fewZ l 24 && decide (il ≤ 12) && decide (ns.length ≤ 6) && decide (wrap64 (Idx.wordsZ ns) ≤ 6)
set_option maxRecDepth 100000 in
set_option maxHeartbeats 2000000 in
theorem small_any (t : Rw.Table) (tv : Value) (ps : List (Li.En × Value)) (vl : Value) (ia : Option Addr) (il ic : Nat) (ns : List Li.Nm) (vn : Value) (W : World) (ht : TableRaw W t tv) (hl : EnsRaw W vl ps) (hn : NmSl W vn ns) (hil : il ≤ 9223372036854775807) :
  Calls Tryz.prog 11 #[tv,vl,.slice ia il ic,vn] W (Gives (.bool (smallZ t (ps.map Prod.fst) il ns)) W) := by
 have HT := hid ht
 have HL := hid hl
 have HN := hid hn
 obtain ⟨⟨vr,vd,ve,rfl,⟨ar,cr,rfl,-⟩,⟨ad,cd,rfl,-⟩,⟨ae,ce,rfl,-⟩⟩,-,-,-⟩ := ht
 obtain ⟨la,lc,hlv,-⟩ := hl.sl
 subst hlv
 obtain ⟨ls,hl1,⟨na,nc,hnv,k1,k2,-⟩,-⟩ := hn
 subst hnv
 have hll : ls.length = ns.length := by rw [← hl1,List.length_map]
 have hnl : ns.length ≤ 9223372036854775807 := by unfold maxLen at k2; omega
 rw [hll] at HN ⊢
 clear hl k1 k2 hl1 hll
 obtain ⟨W1,hW1⟩ := exq (W.alloc (.cells #[.slice ar t.rules.length cr,.slice ad t.drops.length cd,.slice ae t.ends.length ce,.int .i64 t.drop,.int .i64 t.order,.int .i64 t.initial] 25))
 have hb1 := bnew hW1
 have T1 : Blk W1 W.heap.size 25 [.slice ar t.rules.length cr,.slice ad t.drops.length cd,.slice ae t.ends.length ce,.int .i64 t.drop,.int .i64 t.order,.int .i64 t.initial] := by rw [hW1]; exact Blk.new W _ _
 have HB1 := hid hb1
 have HF := hid (few10_any t _ W1 (HT.out.below hb1))
 obtain ⟨t0,t1,t2,t3,t4,t5,tl⟩ := T1.cl6
 clear hb1 T1
 go_enter Tryz.func11,Tryz.ntmps11
 go_upto_region 1 with (fail)
 rw [← hW1]
 clear hW1
 go_wp2_with fail
 refine (HF.out).mono ?_
 rintro e W2 ⟨rfl,hb2⟩
 have HB2 := hid (Below.step HB1.out hb2)
 clear t0 t1 t2 t3 t4 t5 tl hb2
 cases h1 : Rw.fewB t with
 | false =>
  have HE := hid (show false = smallZ t (ps.map Prod.fst) il ns by unfold smallZ; rw [h1]; rfl)
  clear h1
  go_wp2_with fail
  go_ret
  exact ⟨ret_bool HE.out,HB2.out⟩
 | true =>
 have H1 := hid h1
 clear h1
 have HF2 := hid (few16_any ps _ 24 W2 (HL.out.below HB2.out))
 go_wp2_with fail
 refine (HF2.out).mono ?_
 rintro e W3 ⟨rfl,hb3⟩
 have HB3 := hid (Below.step HB2.out hb3)
 clear hb3
 cases h2 : Idx.fewZ (ps.map Prod.fst) 24 with
 | false =>
  have HE := hid (show false = smallZ t (ps.map Prod.fst) il ns by unfold smallZ; rw [h2,Bool.and_false]; rfl)
  clear h2
  go_wp2_with fail
  go_ret
  exact ⟨ret_bool HE.out,HB3.out⟩
 | true =>
 have H2 := hid h2
 clear h2
 by_cases h3 : il ≤ 12
 rotate_left
 ·have g3 : decide ((il : Int) ≤ 12) = false := decide_eq_false (by omega)
  have HE := hid (show false = smallZ t (ps.map Prod.fst) il ns by unfold smallZ; rw [decide_eq_false h3,Bool.and_false]; rfl)
  clear h3
  go_wp2_with fail
  go_ret
  exact ⟨ret_bool HE.out,HB3.out⟩
 have g3 : decide ((il : Int) ≤ 12) = true := decide_eq_true (by omega)
 have H3 := hid h3
 clear h3
 by_cases h4 : ns.length ≤ 6
 rotate_left
 ·have g4 : decide ((ns.length : Int) ≤ 6) = false := decide_eq_false (by omega)
  have HE := hid (show false = smallZ t (ps.map Prod.fst) il ns by unfold smallZ; rw [decide_eq_false h4,Bool.and_false]; rfl)
  clear h4
  go_wp2_with fail
  go_ret
  exact ⟨ret_bool HE.out,HB3.out⟩
 have g4 : decide ((ns.length : Int) ≤ 6) = true := decide_eq_true (by omega)
 have H4 := hid h4
 clear h4
 have HWD := hid (words16_any ns _ W3 (HN.out.below HB3.out))
 go_wp2_with fail
 refine (HWD.out).mono ?_
 rintro e W4 ⟨rfl,hb4⟩
 have HB4 := hid (Below.step HB3.out hb4)
 clear hb4
 obtain ⟨z,hz⟩ := exq (wrap64 (Idx.wordsZ ns))
 rw [← hz]
 have HE := hid (show decide (z ≤ 6) = smallZ t (ps.map Prod.fst) il ns by unfold smallZ; rw [H1.out,H2.out,decide_eq_true H3.out,decide_eq_true H4.out,← hz]; rfl)
 clear hz
 go_wp2_with fail
 go_ret
 exact ⟨ret_bool HE.out,HB4.out⟩
set_option maxRecDepth 100000 in
theorem plain16_any (a : Option Addr) (n c : Nat) (W : World) : Calls Tryz.prog 26 #[.slice a n c] W (Gives (.agg #[.int .i64 1,.slice a n c]) W) := by
 go_enter Tryz.func26,Tryz.ntmps26
 go_wp2_with fail
 refine bodyPost_ret (results_cell_row rfl _ _ W.heap.size 46 _ (0,0) _ rfl (alloc_new W _) Tryz.underlying46 rfl (by kernel_rfl)) rfl ?_
 exact ⟨rfl,(Below.refl _ W).alloc (Nat.le_refl _) _⟩
end Go.Proofs.YtdghfenbfbdijaaGreatDoor
