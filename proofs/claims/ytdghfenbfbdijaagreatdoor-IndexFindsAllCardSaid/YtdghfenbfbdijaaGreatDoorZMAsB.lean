/-
 Several texts in one: ZConc, ZAs8a, ZAs8. Conditions: as each law says.
-/
import Derived.Test.YtdghfenbfbdijaaGreatDoorZMBaseB
import Derived.Test.YtdghfenbfbdijaaGreatDoorZMAsA
import Derived.Lib.LazyBuf
import Derived.Test.YtdghfenbfbdijaaGreatDoorZMBase
import Derived.Test.YtdghfenbfbdijaaGreatDoorZMFm
import Derived.BigQuiet
import Derived.Test.YtdghfenbfbdijaaGreatDoorZMIxp
namespace Go.Proofs.YtdghfenbfbdijaaGreatDoor
open Go.RowKit Go.Lib Go.Maps
theorem wpList_zeros {P : Program} {w : World} {ops : Array Oper} {rest : List Oper} {o : Oper} {a : Act} {Q : Exit → Act → World → Prop} (hgd : o.guard = none) (s x : Operand) (t u e : TypeId) (k : IntKind) (i : TypeInfo) (z : Value)
  (ho : o.op = .call { callee := .builtin .append,args := #[s,x],argTypes := #[t,u] }) (ht : P.underlying t = some (.slice e)) (hu : P.underlying u = some (.int k)) (hi : P.info? e = some i) (hz : i.zero = some z)
  (size : Nat) (hsz : i.size = size) (hzs : z.cells.size = size) (hs : 0 < size) (n : Nat) (h0 : 0 < n) (hn : n ≤ 1000000) (hb : i.bytes ≤ 1000)
  (hes : a.eval s = .slice none 0 0) (hex : a.eval x = .int .i64 (n : Int))
  (h : ∀ cap w',w'.ownsRow w.heap.size e size (.slice (some ⟨w.heap.size,0,none⟩) 0 cap) 0 [] → n ≤ cap → Below w.heap.size w w' → wpList P ops Q rest (a.put o.dst (.slice (some ⟨w.heap.size,0,none⟩) n cap)) w') : wpList P ops Q (o :: rest) a w := by
 refine wpList_plain hgd fun K' hK => ?_
 obtain ⟨cap,w',hr,h1,h2,h3⟩ := grown_zeros (P := P) (w := w) t u o.type e k i z ht hu hi hz size hsz hzs hs n h0 hn hb
 unfold Oper.wp
 simp [execOp,ho,resolve,invoke,builtin,hes,hex,hr,Result.andThen]
 exact hK _ _ (h cap w' h1 h2 h3)
theorem int_one (l : List Int) : ∀ u ∈ l.flatMap intC1,u.oneCell' = true := by
 intro u hu
 obtain ⟨p,_,hp⟩ := List.mem_flatMap.1 hu
 simp [intC1] at hp
 subst hp
 rfl
def rowSl (p : List Int × Value) : Prop := ∃ a n c,p.2 = .slice a n c
theorem rows_one (l : List (List Int × Value)) (h : ∀ p ∈ l,rowSl p) : ∀ u ∈ l.flatMap rowC,u.oneCell' = true := by
 intro u hu
 obtain ⟨p,hp,hx⟩ := List.mem_flatMap.1 hu
 simp [rowC] at hx
 obtain ⟨a,n,c,e⟩ := h p hp
 rw [hx,e]
 rfl
theorem ownsRow_to {w : World} {base base' : Nat} {e : TypeId} {size : Nat} {v : Value} {n : Nat} {xs : List Value} (h : w.ownsRow base e size v n xs) (hb : base' ≤ base) : w.ownsRow base' e size v n xs := by
 refine ⟨h.1,?_⟩
 rcases h.2 with hn | ⟨g,cap,cur,h1,h2,h3⟩
 ·exact .inl hn
 ·exact .inr ⟨g,cap,cur,h1,Nat.le_trans hb h2,h3⟩
def partC {α : Type} (p : List α × Value) : List Value := [p.2]
def ConcP {α : Type} (e : TypeId) (cells : α → List Value) (l : List α) (W : World) (en : Ending) (W' : World) : Prop :=
 ∃ v,en = .returned v ∧ W'.ownsRow W.heap.size e 1 v l.length (l.flatMap cells) ∧ Below W.heap.size W W'
theorem partLen {α : Type} {ps : List (List α × Value)} {k : Nat} {p : List α × Value} (h : ps[k]? = some p) : ((ps.take (k + 1)).map Prod.fst).flatten = ((ps.take k).map Prod.fst).flatten ++ p.1 := by
 rw [List.take_add_one,h]
 simp
theorem partLe {α : Type} {ps : List (List α × Value)} (k : Nat) : ((ps.take k).map Prod.fst).flatten.length ≤ (ps.map Prod.fst).flatten.length := by
 have : (ps.map Prod.fst).flatten = ((ps.take k).map Prod.fst).flatten ++ ((ps.drop k).map Prod.fst).flatten := by
  rw [← List.flatten_append,← List.map_append,List.take_append_drop]
 rw [this,List.length_append]
 omega
set_option maxRecDepth 100000 in
set_option maxHeartbeats 4000000 in
theorem growI_any (n : Nat) (hn : n ≤ 1000000) (W : World) : Calls Tryz.prog 117 #[.slice none 0 0,.int .i64 (n : Int)] W (fun en W' => ∃ a cap,en = .returned (.slice a 0 cap) ∧ W'.ownsRow W.heap.size 3 1 (.slice a 0 cap) 0 [] ∧ Below W.heap.size W W') := by
 obtain ⟨i0,hi,hz0,hz1,hz2⟩ := info_parts Tryz.infoIntG
 have n0 : ¬ ((n : Int) < 0) := by omega
 have hw : IntKind.i64.wrap (n : Int) = (n : Int) := IntWalk.i64_in _ (by omega)
 by_cases h0 : 0 < n
 ·have n1 : (0 : Int) < (n : Int) := by omega
  go_enter Tryz.func117,Tryz.ntmps117
  go_wp2_with (at_builtin; refine wpList_zeros rfl _ _ 90 3 3 .i64 i0 _ rfl Tryz.underlying90 Tryz.underlying3 hi hz0 1 hz1 rfl (by decide) n h0 hn (by rw [hz2]; decide) rfl rfl ?_; intro cap w1 ho1 hc1 hb1)
  go_ret
  exact ⟨_,_,rfl,ho1,hb1⟩
 ·have hn0 : n = 0 := by omega
  subst hn0
  go_enter Tryz.func117,Tryz.ntmps117
  go_wp2_with fail
  go_ret
  exact ⟨_,_,rfl,World.ownsRow_nil _ _ _ _,Below.refl _ _⟩
set_option maxRecDepth 100000 in
set_option maxHeartbeats 8000000 in
theorem concatI_any (ps : List (List Int × Value)) (v : Value) (W : World) (h : SlOf W v 1 partC ps) (hp : ∀ p ∈ ps,SlOf W p.2 1 intC1 p.1) (h1 : ∀ u ∈ (ps.map Prod.fst).flatten.flatMap intC1,u.oneCell' = true) (hl : ps.length ≤ 1000) (ht : (ps.map Prod.fst).flatten.length ≤ 1000) :
  Calls Tryz.prog 81 #[v] W (ConcP 3 intC1 (ps.map Prod.fst).flatten W) := by
 obtain ⟨i0,hi,hz0,hz1,hz2⟩ := info_parts Tryz.infoIntG
 have HS := hid h
 have HP := hid hp
 have HO := hid h1
 have HT := hid ht
 have HG := hid (fun (n : Nat) (hn : n ≤ 1000000) (X : World) => growI_any n hn X)
 have HLE := hid (partLe (ps := ps))
 obtain ⟨ad,cap,rfl,-⟩ := h
 clear hp h1 ht
 go_enter Tryz.func81,Tryz.ntmps81
 go_wp2_with fail
 go_loopw [3,11] (fun sv kv wr => ∃ k : Nat,k ≤ ps.length ∧ kv = .int .i64 k ∧ sv = .int .i64 (((ps.take k).map Prod.fst).flatten.length : Nat) ∧ Hid (Below W.heap.size W wr)) (fun _ kv _ => ps.length - (RowKit.intOf kv).toNat)
 case atStart => exact ⟨0,Nat.zero_le _,rfl,rfl,Below.refl _ _⟩
 case round =>
  obtain ⟨k,hk,rfl,rfl,HR⟩ := hrel
  by_cases hlt : k < ps.length
  ·obtain ⟨g,o,rfl,hr⟩ : ∃ g o,ad = some ⟨g,o,none⟩ ∧ RowOf wr g o 1 partC ps := by
    obtain ⟨a',c',e',-,-,hr⟩ := HS.out.below HR.out
    cases e'
    exact hr (by omega)
   obtain ⟨p,hp⟩ : ∃ p,ps[k]? = some p := ⟨_,List.getElem?_eq_getElem hlt⟩
   have c0 := hr.2 k p hp 0 _ rfl
   rw [Nat.add_zero,Nat.mul_one] at c0
   have hg := hr.1
   obtain ⟨pa,pc,hpe,-⟩ := HP.out p (List.mem_of_getElem? hp)
   rw [hpe] at c0
   have k0 : (0 : Int) ≤ (k : Int) := by omega
   have k1 : (k : Int) < (ps.length : Int) := by omega
   obtain ⟨s,hs⟩ := exq (((ps.take k).map Prod.fst).flatten.length)
   have hs2 : ((ps.take (k + 1)).map Prod.fst).flatten.length = s + p.1.length := by rw [partLen hp,List.length_append,hs]
   have hsl : s + p.1.length ≤ 1000 := by rw [← hs2]; exact Nat.le_trans (HLE.out _) HT.out
   have hw : IntKind.i64.wrap ((s : Int) + (p.1.length : Int)) = (s : Int) + (p.1.length : Int) := IntWalk.i64_in _ (by omega)
   have hn0 : ¬ ((s : Int) + (p.1.length : Int) < 0) := by omega
   rw [← hs]
   have HS2 := hid hs2
   clear hr hp hpe hs hs2
   go_wp2_with fail
   go_roundw
   case rel => exact ⟨k + 1,by omega,by go_num,by rw [HS2.out]; simp,HR⟩
   case measure => simp [RowKit.intOf]; omega
  ·have hke : k = ps.length := by omega
   have HK := hid (show ((ps.take k).map Prod.fst).flatten.length = (ps.map Prod.fst).flatten.length by rw [hke,List.take_length])
   rw [HK.out]
   obtain ⟨T,hT⟩ := exq ((ps.map Prod.fst).flatten.length)
   have HC := hid (HG.out T (by rw [hT]; exact Nat.le_trans HT.out (by decide)) wr)
   rw [← hT]
   clear hke hT
   go_wp2_with fail
   refine (HC.out).mono ?_
   rintro e w1 ⟨a1,c1,rfl,ho1,hb1⟩
   have HB1 := hid (Below.step HR.out hb1)
   have HO1 := hid (ownsRow_to ho1 HR.out.size)
   clear ho1 hb1
   go_wp2_with fail
   go_loopw [6,27] (fun rv kv wx => ∃ k : Nat,k ≤ ps.length ∧ kv = .int .i64 k ∧ (∃ a n c,rv = .slice a n c) ∧ Hid (wx.ownsRow W.heap.size 3 1 rv ((ps.take k).map Prod.fst).flatten.length (((ps.take k).map Prod.fst).flatten.flatMap intC1)) ∧ Hid (Below W.heap.size W wx)) (fun _ kv _ => ps.length - (RowKit.intOf kv).toNat)
   case atStart => exact ⟨0,Nat.zero_le _,rfl,⟨_,_,_,rfl⟩,HO1,HB1⟩
   case round =>
    clear HR HB1 HO1
    obtain ⟨k,hk,rfl,⟨ra,rn,rc,rfl⟩,HRO,HR⟩ := hrel
    rename World => wx
    by_cases hlt : k < ps.length
    ·obtain ⟨g,o,rfl,hr⟩ : ∃ g o,ad = some ⟨g,o,none⟩ ∧ RowOf wx g o 1 partC ps := by
      obtain ⟨a',c',e',-,-,hr⟩ := HS.out.below HR.out
      cases e'
      exact hr (by omega)
     obtain ⟨p,hp⟩ : ∃ p,ps[k]? = some p := ⟨_,List.getElem?_eq_getElem hlt⟩
     have c0 := hr.2 k p hp 0 _ rfl
     rw [Nat.add_zero,Nat.mul_one] at c0
     have hg := hr.1
     have HPS := hid ((HP.out p (List.mem_of_getElem? hp)).below HR.out)
     have hpe := HPS.out
     obtain ⟨pa,pc,hpe,-⟩ := hpe
     rw [hpe] at c0 HPS
     have k0 : (0 : Int) ≤ (k : Int) := by omega
     have k1 : (k : Int) < (ps.length : Int) := by omega
     have hlen : ((ps.take k).map Prod.fst).flatten.length + p.1.length ≤ 1000 := by
      have := HLE.out (k + 1)
      rw [partLen hp,List.length_append] at this
      exact Nat.le_trans this HT.out
     have HL := hid hlen
     have HPL := hid (partLen hp)
     have H1 := hid (show ∀ u ∈ p.1.flatMap intC1,u.oneCell' = true from fun u hu => by
      obtain ⟨x,hx,hxu⟩ := List.mem_flatMap.1 hu
      exact HO.out u (List.mem_flatMap.2 ⟨x,List.mem_flatten.2 ⟨p.1,List.mem_map.2 ⟨p,List.mem_of_getElem? hp,rfl⟩,hx⟩,hxu⟩))
     clear hr hp hpe hlen
     go_wp2_with (at_builtin; refine wpList_plain rfl fun _ hK => ?_; refine wp_append_list _ _ 90 rfl W.heap.size 3 i0 _ _ Tryz.underlying90 hi hz0 hz1 rfl rfl (by decide) _ _ _ rfl HRO.out _ rfl HPS.out (fun _ => rfl) H1.out (by have := HL.out; unfold maxLen; omega) (by have := HL.out; rw [hz2]; omega) HR.out.size ?_; intro v' w' ho' hg' _; refine hK _ _ ?_; have HBX := hid (Below.appended HR.out hg' HR.out.size HRO.out); have HRX := hid ho'; obtain ⟨ya,yn,yc,hy⟩ : ∃ a n c,v' = .slice a n c := (by rcases ho'.2 with ⟨hv,_⟩ | ⟨_,_,_,hv,_⟩ <;> exact ⟨_,_,_,hv⟩); clear ho' hg'; subst hy)
     go_roundw
     case rel =>
      refine ⟨k + 1,by omega,by go_num,⟨_,_,_,rfl⟩,?_,HBX⟩
      rw [HPL.out,List.length_append,List.flatMap_append]
      exact HRX
     case measure => simp [RowKit.intOf]; omega
    ·have hke : k = ps.length := by omega
     have HK := hid (show ((ps.take k).map Prod.fst).flatten = (ps.map Prod.fst).flatten by rw [hke,List.take_length])
     clear hke
     go_wp2_with fail
     go_ret
     refine ⟨_,rfl,?_,HR.out⟩
     rw [← HK.out]
     exact HRO.out
set_option maxRecDepth 100000 in
set_option maxHeartbeats 4000000 in
theorem growS_any (n : Nat) (hn : n ≤ 1000000) (W : World) : Calls Tryz.prog 116 #[.slice none 0 0,.int .i64 (n : Int)] W (fun en W' => ∃ a cap,en = .returned (.slice a 0 cap) ∧ W'.ownsRow W.heap.size 90 1 (.slice a 0 cap) 0 [] ∧ Below W.heap.size W W') := by
 obtain ⟨i0,hi,hz0,hz1,hz2⟩ := info_parts Tryz.infoIntsG
 have n0 : ¬ ((n : Int) < 0) := by omega
 have hw : IntKind.i64.wrap (n : Int) = (n : Int) := IntWalk.i64_in _ (by omega)
 by_cases h0 : 0 < n
 ·have n1 : (0 : Int) < (n : Int) := by omega
  go_enter Tryz.func116,Tryz.ntmps116
  go_wp2_with (at_builtin; refine wpList_zeros rfl _ _ 96 3 90 .i64 i0 _ rfl Tryz.underlying96 Tryz.underlying3 hi hz0 1 hz1 rfl (by decide) n h0 hn (by rw [hz2]; decide) rfl rfl ?_; intro cap w1 ho1 hc1 hb1)
  go_ret
  exact ⟨_,_,rfl,ho1,hb1⟩
 ·have hn0 : n = 0 := by omega
  subst hn0
  go_enter Tryz.func116,Tryz.ntmps116
  go_wp2_with fail
  go_ret
  exact ⟨_,_,rfl,World.ownsRow_nil _ _ _ _,Below.refl _ _⟩
set_option maxRecDepth 100000 in
set_option maxHeartbeats 8000000 in
theorem concatS_any (ps : List (List (List Int × Value) × Value)) (v : Value) (W : World) (h : SlOf W v 1 partC ps) (hp : ∀ p ∈ ps,SlOf W p.2 1 rowC p.1) (h1 : ∀ u ∈ (ps.map Prod.fst).flatten.flatMap rowC,u.oneCell' = true) (hl : ps.length ≤ 1000) (ht : (ps.map Prod.fst).flatten.length ≤ 1000) :
  Calls Tryz.prog 80 #[v] W (ConcP 90 rowC (ps.map Prod.fst).flatten W) := by
 obtain ⟨i0,hi,hz0,hz1,hz2⟩ := info_parts Tryz.infoIntsG
 have HS := hid h
 have HP := hid hp
 have HO := hid h1
 have HT := hid ht
 have HG := hid (fun (n : Nat) (hn : n ≤ 1000000) (X : World) => growS_any n hn X)
 have HLE := hid (partLe (ps := ps))
 obtain ⟨ad,cap,rfl,-⟩ := h
 clear hp h1 ht
 go_enter Tryz.func80,Tryz.ntmps80
 go_wp2_with fail
 go_loopw [3,11] (fun sv kv wr => ∃ k : Nat,k ≤ ps.length ∧ kv = .int .i64 k ∧ sv = .int .i64 (((ps.take k).map Prod.fst).flatten.length : Nat) ∧ Hid (Below W.heap.size W wr)) (fun _ kv _ => ps.length - (RowKit.intOf kv).toNat)
 case atStart => exact ⟨0,Nat.zero_le _,rfl,rfl,Below.refl _ _⟩
 case round =>
  obtain ⟨k,hk,rfl,rfl,HR⟩ := hrel
  by_cases hlt : k < ps.length
  ·obtain ⟨g,o,rfl,hr⟩ : ∃ g o,ad = some ⟨g,o,none⟩ ∧ RowOf wr g o 1 partC ps := by
    obtain ⟨a',c',e',-,-,hr⟩ := HS.out.below HR.out
    cases e'
    exact hr (by omega)
   obtain ⟨p,hp⟩ : ∃ p,ps[k]? = some p := ⟨_,List.getElem?_eq_getElem hlt⟩
   have c0 := hr.2 k p hp 0 _ rfl
   rw [Nat.add_zero,Nat.mul_one] at c0
   have hg := hr.1
   obtain ⟨pa,pc,hpe,-⟩ := HP.out p (List.mem_of_getElem? hp)
   rw [hpe] at c0
   have k0 : (0 : Int) ≤ (k : Int) := by omega
   have k1 : (k : Int) < (ps.length : Int) := by omega
   obtain ⟨s,hs⟩ := exq (((ps.take k).map Prod.fst).flatten.length)
   have hs2 : ((ps.take (k + 1)).map Prod.fst).flatten.length = s + p.1.length := by rw [partLen hp,List.length_append,hs]
   have hsl : s + p.1.length ≤ 1000 := by rw [← hs2]; exact Nat.le_trans (HLE.out _) HT.out
   have hw : IntKind.i64.wrap ((s : Int) + (p.1.length : Int)) = (s : Int) + (p.1.length : Int) := IntWalk.i64_in _ (by omega)
   have hn0 : ¬ ((s : Int) + (p.1.length : Int) < 0) := by omega
   rw [← hs]
   have HS2 := hid hs2
   clear hr hp hpe hs hs2
   go_wp2_with fail
   go_roundw
   case rel => exact ⟨k + 1,by omega,by go_num,by rw [HS2.out]; simp,HR⟩
   case measure => simp [RowKit.intOf]; omega
  ·have hke : k = ps.length := by omega
   have HK := hid (show ((ps.take k).map Prod.fst).flatten.length = (ps.map Prod.fst).flatten.length by rw [hke,List.take_length])
   rw [HK.out]
   obtain ⟨T,hT⟩ := exq ((ps.map Prod.fst).flatten.length)
   have HC := hid (HG.out T (by rw [hT]; exact Nat.le_trans HT.out (by decide)) wr)
   rw [← hT]
   clear hke hT
   go_wp2_with fail
   refine (HC.out).mono ?_
   rintro e w1 ⟨a1,c1,rfl,ho1,hb1⟩
   have HB1 := hid (Below.step HR.out hb1)
   have HO1 := hid (ownsRow_to ho1 HR.out.size)
   clear ho1 hb1
   go_wp2_with fail
   go_loopw [6,27] (fun rv kv wx => ∃ k : Nat,k ≤ ps.length ∧ kv = .int .i64 k ∧ (∃ a n c,rv = .slice a n c) ∧ Hid (wx.ownsRow W.heap.size 90 1 rv ((ps.take k).map Prod.fst).flatten.length (((ps.take k).map Prod.fst).flatten.flatMap rowC)) ∧ Hid (Below W.heap.size W wx)) (fun _ kv _ => ps.length - (RowKit.intOf kv).toNat)
   case atStart => exact ⟨0,Nat.zero_le _,rfl,⟨_,_,_,rfl⟩,HO1,HB1⟩
   case round =>
    clear HR HB1 HO1
    obtain ⟨k,hk,rfl,⟨ra,rn,rc,rfl⟩,HRO,HR⟩ := hrel
    rename World => wx
    by_cases hlt : k < ps.length
    ·obtain ⟨g,o,rfl,hr⟩ : ∃ g o,ad = some ⟨g,o,none⟩ ∧ RowOf wx g o 1 partC ps := by
      obtain ⟨a',c',e',-,-,hr⟩ := HS.out.below HR.out
      cases e'
      exact hr (by omega)
     obtain ⟨p,hp⟩ : ∃ p,ps[k]? = some p := ⟨_,List.getElem?_eq_getElem hlt⟩
     have c0 := hr.2 k p hp 0 _ rfl
     rw [Nat.add_zero,Nat.mul_one] at c0
     have hg := hr.1
     have HPS := hid ((HP.out p (List.mem_of_getElem? hp)).below HR.out)
     have hpe := HPS.out
     obtain ⟨pa,pc,hpe,-⟩ := hpe
     rw [hpe] at c0 HPS
     have k0 : (0 : Int) ≤ (k : Int) := by omega
     have k1 : (k : Int) < (ps.length : Int) := by omega
     have hlen : ((ps.take k).map Prod.fst).flatten.length + p.1.length ≤ 1000 := by
      have := HLE.out (k + 1)
      rw [partLen hp,List.length_append] at this
      exact Nat.le_trans this HT.out
     have HL := hid hlen
     have HPL := hid (partLen hp)
     have H1 := hid (show ∀ u ∈ p.1.flatMap rowC,u.oneCell' = true from fun u hu => by
      obtain ⟨x,hx,hxu⟩ := List.mem_flatMap.1 hu
      exact HO.out u (List.mem_flatMap.2 ⟨x,List.mem_flatten.2 ⟨p.1,List.mem_map.2 ⟨p,List.mem_of_getElem? hp,rfl⟩,hx⟩,hxu⟩))
     clear hr hp hpe hlen
     go_wp2_with (at_builtin; refine wpList_plain rfl fun _ hK => ?_; refine wp_append_list _ _ 96 rfl W.heap.size 90 i0 _ _ Tryz.underlying96 hi hz0 hz1 rfl rfl (by decide) _ _ _ rfl HRO.out _ rfl HPS.out (fun _ => rfl) H1.out (by have := HL.out; unfold maxLen; omega) (by have := HL.out; rw [hz2]; omega) HR.out.size ?_; intro v' w' ho' hg' _; refine hK _ _ ?_; have HBX := hid (Below.appended HR.out hg' HR.out.size HRO.out); have HRX := hid ho'; obtain ⟨ya,yn,yc,hy⟩ : ∃ a n c,v' = .slice a n c := (by rcases ho'.2 with ⟨hv,_⟩ | ⟨_,_,_,hv,_⟩ <;> exact ⟨_,_,_,hv⟩); clear ho' hg'; subst hy)
     go_roundw
     case rel =>
      refine ⟨k + 1,by omega,by go_num,⟨_,_,_,rfl⟩,?_,HBX⟩
      rw [HPL.out,List.length_append,List.flatMap_append]
      exact HRX
     case measure => simp [RowKit.intOf]; omega
    ·have hke : k = ps.length := by omega
     have HK := hid (show ((ps.take k).map Prod.fst).flatten = (ps.map Prod.fst).flatten by rw [hke,List.take_length])
     clear hke
     go_wp2_with fail
     go_ret
     refine ⟨_,rfl,?_,HR.out⟩
     rw [← HK.out]
     exact HRO.out
set_option maxRecDepth 100000 in
set_option maxHeartbeats 1000000 in
theorem cloneI_any (l : List Int) (v : Value) (w : World) (h : SlOf w v 1 intC1 l) (hl : l.length ≤ 1000000) : Calls Tryz.prog 79 #[v] w (ConcP 3 intC1 l w) := by
 obtain ⟨i0,hi,hz0,hz1,hz2⟩ := info_parts Tryz.infoIntG
 obtain ⟨a,cap,rfl,k1,k2,h3⟩ := h
 have hnl := _root_.Go.run_eql_slice_nil (P := Tryz.prog) w 90 3 a l.length cap Tryz.underlying90
 have HO := hid (int_one l)
 cases a with
 | some ad =>
  have HC := hid (show ∀ j u,(l.flatMap intC1)[j]? = some u → (w.alloc (.cells #[] 3)).cell? (ad.add j) = some u by
   by_cases h0 : 0 < l.length
   ·obtain ⟨g,o,e,hr⟩ := h3 h0
    cases e
    exact flatCells (cells := intC1) (sz := 1) (fun x => rfl) (hr.below ((Below.refl _ w).alloc (Nat.le_refl _) (.cells #[] 3)))
   ·have : l = [] := List.length_eq_zero_iff.1 (by omega)
    subst this
    intro j u hu
    simp at hu)
  have hown : (w.alloc (.cells #[] 3)).ownsRow w.heap.size 3 1 (.slice (some ⟨w.heap.size,0,none⟩) 0 0) 0 [] := World.ownsRow_made w #[] 0 (Nat.le_refl _) (by unfold maxLen; omega) rfl
  have hb : Below w.heap.size w (w.alloc (.cells #[] 3)) := (Below.refl _ w).alloc (Nat.le_refl _) _
  have HL := hid (flatLen (cells := intC1) (sz := 1) l (fun x => rfl))
  rw [show (some ad).isNone = false from rfl] at hnl
  clear h3
  go_enter Tryz.func79,Tryz.ntmps79
  go_wp2_with (at_builtin; refine wpList_append_own _ rfl _ _ 90 rfl w.heap.size 3 i0 (.int .i64 0) 1 8 Tryz.underlying90 hi hz0 hz1 hz2 rfl (by decide) _ _ _ rfl hown _ _ _ (l.flatMap intC1) rfl HL.out HC.out HO.out (by unfold maxLen; omega) (by omega) (by simp) ?_; intro v' w' ho hg hnn)
  go_ret
  rw [Nat.zero_add,List.nil_append] at ho
  exact ⟨v',rfl,ho,Below.appended hb hg (by simp) hown⟩
 | none =>
  rw [show (none : Option Addr).isNone = true from rfl] at hnl
  have HN := hid (show l = [] by
   by_cases h0 : 0 < l.length
   ·obtain ⟨g,o,e,hr⟩ := h3 h0
    cases e
   ·exact List.length_eq_zero_iff.1 (by omega))
  clear h3
  go_enter Tryz.func79,Tryz.ntmps79
  go_wp2
  go_ret
  refine ⟨_,rfl,?_,Below.refl _ _⟩
  rw [HN.out]
  exact World.ownsRow_nil _ _ _ _
theorem concatS_two (ps : List (List Int × Value)) (row : List Int) (vc rv : Value) (gr g : Nat) (X : World) (hR : RowsAt X vc ps) (hP : SlOf X rv 1 intC1 row) (hrl : row.length ≤ 1000) (hps : ps.length ≤ 100) (k1 : Blk X gr 90 [rv]) (k2 : Blk X g 96 [vc,.slice (some ⟨gr,0,none⟩) 1 1]) :
  Calls Tryz.prog 80 #[.slice (some ⟨g,0,none⟩) 2 2] X (fun en X' => ∃ a c,en = .returned (.slice a (ps.length + 1) c) ∧ Below X.heap.size X X' ∧ RowsAt X' (.slice a (ps.length + 1) c) (ps ++ [(row,rv)])) := by
 have hl : (([(ps,vc),([(row,rv)],.slice (some ⟨gr,0,none⟩) 1 1)] : List (List (List Int × Value) × Value)).map Prod.fst).flatten = ps ++ [(row,rv)] := by simp
 have h2 : SlOf X (.slice (some ⟨g,0,none⟩) 2 2) 1 partC ([(ps,vc),([(row,rv)],.slice (some ⟨gr,0,none⟩) 1 1)] : List (List (List Int × Value) × Value)) := SlOf.block k2 rfl (fun _ _ => rfl) rfl (by unfold maxLen; omega)
 have hone : ∀ u ∈ (ps ++ [(row,rv)]).flatMap rowC,u.oneCell' = true := rows_one _ fun p hp => by
  rcases List.mem_append.1 hp with hp | hp
  ·obtain ⟨a,c,e,-⟩ := (hR.2 p hp).1
   exact ⟨a,_,c,e⟩
  ·rw [List.mem_singleton] at hp
   subst hp
   obtain ⟨a,c,e,-⟩ := hP
   exact ⟨a,_,c,e⟩
 have hlen : (ps ++ [(row,rv)]).length = ps.length + 1 := by rw [List.length_append]; rfl
 have hC := concatS_any _ _ X h2 (fun p hp => by
  rcases List.mem_cons.1 hp with rfl | hp
  ·exact hR.1
  ·rw [List.mem_singleton] at hp
   subst hp
   exact SlOf.block k1 rfl (fun _ _ => rfl) rfl (by unfold maxLen; omega)) (by rw [hl]; exact hone) (by show 2 ≤ 1000; omega) (by rw [hl,hlen]; omega)
 rw [hl] at hC
 refine hC.mono ?_
 rintro en X' ⟨v,rfl,ho,hb⟩
 have hs := SlOf.own ho (fun _ _ => rfl)
 obtain ⟨a,c,e,-⟩ := id hs
 rw [hlen] at e
 subst e
 refine ⟨a,c,rfl,hb,hs,fun p hp => ?_⟩
 rcases List.mem_append.1 hp with hp | hp
 ·exact (hR.below hb).2 p hp
 ·rw [List.mem_singleton] at hp
  subst hp
  exact ⟨hP.below hb,by show row.length ≤ 1000000; omega⟩
theorem concatI_two (d : List Int) (x : Int) (vd xv : Value) (g : Nat) (X : World) (hD : SlOf X vd 1 intC1 d) (hx : SlOf X xv 1 intC1 [x]) (hd : d.length ≤ 100) (k1 : Blk X g 90 [vd,xv]) :
  Calls Tryz.prog 81 #[.slice (some ⟨g,0,none⟩) 2 2] X (fun en X' => ∃ a c,en = .returned (.slice a (d.length + 1) c) ∧ Below X.heap.size X X' ∧ SlOf X' (.slice a (d.length + 1) c) 1 intC1 (d ++ [x])) := by
 have hl : (([(d,vd),([x],xv)] : List (List Int × Value)).map Prod.fst).flatten = d ++ [x] := by simp
 have h2 : SlOf X (.slice (some ⟨g,0,none⟩) 2 2) 1 partC ([(d,vd),([x],xv)] : List (List Int × Value)) := SlOf.block k1 rfl (fun _ _ => rfl) rfl (by unfold maxLen; omega)
 have hlen : (d ++ [x]).length = d.length + 1 := by rw [List.length_append]; rfl
 have hC := concatI_any _ _ X h2 (fun p hp => by
  rcases List.mem_cons.1 hp with rfl | hp
  ·exact hD
  ·rw [List.mem_singleton] at hp
   subst hp
   exact hx) (int_one _) (by show 2 ≤ 1000; omega) (by rw [hl,hlen]; omega)
 rw [hl] at hC
 refine hC.mono ?_
 rintro en X' ⟨v,rfl,ho,hb⟩
 have hs := SlOf.own ho (fun _ _ => rfl)
 obtain ⟨a,c,e,-⟩ := id hs
 rw [hlen] at e
 subst e
 exact ⟨a,c,rfl,hb,hs⟩
theorem table_two (ps : List (List Int × Value)) (row : List Int) (rv : Value) (d e : List Int) (x : Int) (va vd ve : Value) (X : World) (hok : As.Ok (ps.map Prod.fst) d e) (hp : (row,rv) ∈ ps) (hx : x ∈ d) (hr : RowsAt X va (ps ++ [(row,rv)])) (hd : SlOf X vd 1 intC1 (d ++ [x])) (he : SlOf X ve 1 intC1 e) :
  Calls Tryz.prog 78 #[va,vd,ve] X (fun en X' => ∃ g f,en = .returned (.slice (some ⟨g,0,none⟩) (ps.length + 2) (ps.length + 2)) ∧ TabM X' g (ps.length + 2) f ∧ (0 ≤ f 0 0 ∧ f 0 0 ≤ 1000000) ∧ Below X.heap.size X X') := by
 have hlen := hok.rows
 rw [List.length_map] at hlen
 have hwx : As.within (d ++ [x]) 0 10000 = true := by
  have := hok.wd
  unfold As.within at this ⊢
  rw [List.all_append,this]
  have h2 := As.within_mem hok.wd hx
  simp [h2.1,h2.2]
 have hall : ∀ q ∈ ps ++ [(row,rv)],q.1 ∈ ps.map Prod.fst := fun q hq => by
  rcases List.mem_append.1 hq with hq | hq
  ·exact List.mem_map.2 ⟨q,hq,rfl⟩
  ·rw [List.mem_singleton] at hq
   subst hq
   exact List.mem_map.2 ⟨_,hp,rfl⟩
 have hbn : ∀ i s,0 ≤ As.tAt ((ps ++ [(row,rv)]).map Prod.fst) (d ++ [x]) e i s ∧ As.tAt ((ps ++ [(row,rv)]).map Prod.fst) (d ++ [x]) e i s ≤ 1000000 := fun i s => by
  have := As.T_bounds hok.we (((ps ++ [(row,rv)]).map Prod.fst).drop i) ((d ++ [x]).drop i) s (fun r hr => by
   obtain ⟨q,hq,rfl⟩ := List.mem_map.1 (List.mem_of_mem_drop hr)
   exact hok.wc _ (hall q hq)) (As.within_drop hwx i)
  have hl : ((d ++ [x]).drop i).length ≤ 7 := by
   have h6 := hok.few
   rw [List.length_drop,List.length_append,List.length_singleton]
   omega
  have h6 := hok.cols
  unfold As.tAt
  omega
 have hlp : (ps ++ [(row,rv)]).length = ps.length + 1 := by rw [List.length_append]; rfl
 have h6 := hok.few
 have hT := table_any (ps ++ [(row,rv)]) (d ++ [x]) e va vd ve X hr hd he (by omega) (by omega) (by rw [hlp,hlen,List.length_append]; rfl) hok.cols (fun q hq => hok.len _ (hall q hq)) hok.we hwx hbn (fun q hq => hok.wc _ (hall q hq))
 refine hT.mono ?_
 rintro en X' ⟨f,rfl,h1',h2',h3'⟩
 rw [hlp] at h1' ⊢
 exact ⟨_,f,rfl,h1',by rw [h2' 0 0 (Nat.zero_le _) (Nat.pow_pos (by omega))]; exact hbn 0 0,h3'⟩
theorem SlOf.part_one {X : World} {g o n c k : Nat} {d : List Int} {x : Int} (h : SlOf X (.slice (some ⟨g,o,none⟩) n c) 1 intC1 d) (hk : d[k]? = some x) (_hn : n = d.length) (hc : n ≤ c) : SlOf X (.slice (some ⟨g,o + k,none⟩) 1 (c - k)) 1 intC1 [x] := by
 have hkl := (List.getElem?_eq_some_iff.1 hk).1
 obtain ⟨a',c',e',h1,h2,h3⟩ := h
 simp only [Value.slice.injEq] at e'
 obtain ⟨rfl,e1,rfl⟩ := e'
 obtain ⟨g',o',e2,hr⟩ := h3 (by omega)
 simp only [Option.some.injEq,Addr.mk.injEq,and_true] at e2
 obtain ⟨rfl,rfl⟩ := e2
 refine ⟨_,_,rfl,by show 1 ≤ c - k; omega,by omega,fun _ => ⟨g,o + k,rfl,hr.1,fun i y hy j v hv => ?_⟩⟩
 have hi : i = 0 := by
  have := (List.getElem?_eq_some_iff.1 hy).1
  simpa using this
 subst hi
 have hy' : x = y := by simpa using hy
 subst hy'
 have := hr.2 k x hk j v hv
 rw [show o + k + 0 * 1 + j = o + k * 1 + j by omega]
 exact this
def Sep (v u : Value) : Prop := v.ownBlock = none ∨ v.ownBlock ≠ u.ownBlock
theorem Sep.symm {v u : Value} (h : Sep v u) : Sep u v := by
 unfold Sep at h ⊢
 cases hu : u.ownBlock with
 | none => exact .inl rfl
 | some k =>
  refine .inr fun e => ?_
  rcases h with h | h
  ·rw [h] at e; cases e
  ·exact h (by rw [hu]; exact e.symm)
structure AsgM (X : World) (b : Nat) (cost : Int) (pv uv vv : Value) (P U V : List Int) : Prop where
 box : Blk X b 111 [.int .i64 cost,pv,uv,vv]
 pr : X.ownsRow (b + 1) 3 1 pv P.length (P.flatMap intC1)
 ur : X.ownsRow (b + 1) 3 1 uv U.length (U.flatMap intC1)
 vr : X.ownsRow (b + 1) 3 1 vv V.length (V.flatMap intC1)
 pu : Sep pv uv
 pv_ : Sep pv vv
 uv_ : Sep uv vv
section
variable {X X' w' : World} {b : Nat} {cost : Int} {pv uv vv : Value} {P U V : List Int}
theorem AsgM.below (h : AsgM X b cost pv uv vv P U V) (hb : Below X.heap.size X X') : AsgM X' b cost pv uv vv P U V :=
 ⟨h.box.below hb,ownsRow_below h.pr hb,ownsRow_below h.ur hb,ownsRow_below h.vr hb,h.pu,h.pv_,h.uv_⟩
theorem sep_new {v u : Value} {n m base base' size size' : Nat} {e e' : TypeId} {xs ys : List Value} {v' : Value} (_hv : X.ownsRow base e size v n xs) (hu : X.ownsRow base' e' size' u m ys) (h : Sep v u) (hn : v'.ownBlock = v.ownBlock ∨ v'.ownBlock = some X.heap.size) : Sep v' u := by
 unfold Sep at h ⊢
 rcases hn with h1 | h1
 ·rw [h1]; exact h
 ·right
  rw [h1]
  intro e
  have := (hu.lt _ e.symm).2
  omega
theorem kept_sep {v u : Value} {m base size : Nat} {e : TypeId} {ys : List Value} (hu : X.ownsRow base e size u m ys) (h : Sep v u) (hg : X.grownBy w' v.ownBlock) : w'.ownsRow base e size u m ys := by
 refine hu.kept hg ?_
 exact (Sep.symm h)
theorem sep_fresh {v u : Value} {n base size : Nat} {e : TypeId} {xs : List Value} (hv : X.ownsRow base e size v n xs) (hu : ∀ k,u.ownBlock = some k → X.heap.size ≤ k) : Sep v u := by
 unfold Sep
 cases hk : v.ownBlock with
 | none => exact .inl rfl
 | some k =>
  refine .inr fun e => ?_
  have h1 := (hv.lt k hk).2
  have h2 := hu k e.symm
  omega
theorem AsgM.appP (h : AsgM X b cost pv uv vv P U V) {pv' : Value} {x : Int} (hg : X.grownBy w' pv.ownBlock) (ho : w'.ownsRow (b + 1) 3 1 pv' (P.length + 1) (P.flatMap intC1 ++ [.int .i64 x])) (hn : pv'.ownBlock = pv.ownBlock ∨ pv'.ownBlock = some X.heap.size) :
  AsgM (w'.setCell ⟨b,1,none⟩ pv') b cost pv' uv vv (P ++ [x]) U V := by
 have hbk := h.box.kept hg (fun e => by have := (h.pr.lt b e).1; omega)
 refine ⟨hbk.set 1 _,ownsRow_setCell_below ?_ (a := ⟨b,1,none⟩) (by show b < b + 1; omega) _,ownsRow_setCell_below (kept_sep h.ur h.pu hg) (a := ⟨b,1,none⟩) (by show b < b + 1; omega) _,ownsRow_setCell_below (kept_sep h.vr h.pv_ hg) (a := ⟨b,1,none⟩) (by show b < b + 1; omega) _,sep_new h.pr h.ur h.pu hn,sep_new h.pr h.vr h.pv_ hn,h.uv_⟩
 rw [List.flatMap_append,List.length_append]
 exact ho
theorem AsgM.appU (h : AsgM X b cost pv uv vv P U V) {uv' : Value} {x : Int} (hg : X.grownBy w' uv.ownBlock) (ho : w'.ownsRow (b + 1) 3 1 uv' (U.length + 1) (U.flatMap intC1 ++ [.int .i64 x])) (hn : uv'.ownBlock = uv.ownBlock ∨ uv'.ownBlock = some X.heap.size) :
  AsgM (w'.setCell ⟨b,2,none⟩ uv') b cost pv uv' vv P (U ++ [x]) V := by
 have hbk := h.box.kept hg (fun e => by have := (h.ur.lt b e).1; omega)
 refine ⟨hbk.set 2 _,ownsRow_setCell_below (kept_sep h.pr h.pu.symm hg) (a := ⟨b,2,none⟩) (by show b < b + 1; omega) _,ownsRow_setCell_below ?_ (a := ⟨b,2,none⟩) (by show b < b + 1; omega) _,ownsRow_setCell_below (kept_sep h.vr h.uv_ hg) (a := ⟨b,2,none⟩) (by show b < b + 1; omega) _,(sep_new h.ur h.pr h.pu.symm hn).symm,h.pv_,sep_new h.ur h.vr h.uv_ hn⟩
 rw [List.flatMap_append,List.length_append]
 exact ho
theorem AsgM.setV (h : AsgM X b cost pv uv (.slice none 0 0) P U []) {vv' : Value} {V' : List Int} (hb : Below X.heap.size X X') (ho : X'.ownsRow X.heap.size 3 1 vv' V'.length (V'.flatMap intC1)) :
  AsgM (X'.setCell ⟨b,3,none⟩ vv') b cost pv uv vv' P U V' := by
 have hlt := h.box.lt
 have hne : ∀ k,vv'.ownBlock = some k → X.heap.size ≤ k := fun k hk => (ho.lt k hk).1
 refine ⟨(h.box.below hb).set 3 _,ownsRow_setCell_below (ownsRow_below h.pr hb) (a := ⟨b,3,none⟩) (by show b < b + 1; omega) _,ownsRow_setCell_below (ownsRow_below h.ur hb) (a := ⟨b,3,none⟩) (by show b < b + 1; omega) _,ownsRow_setCell_below (ownsRow_to ho (by omega)) (a := ⟨b,3,none⟩) (by show b < b + 1; omega) _,h.pu,sep_fresh h.pr hne,sep_fresh h.ur hne⟩
theorem own_put {w : World} {base g l cap : Nat} {e : TypeId} {V : List Int} (h : w.ownsRow base e 1 (.slice (some ⟨g,0,none⟩) l cap) V.length (V.flatMap intC1)) (i : Nat) (x : Int) : (w.setCell ⟨g,i,none⟩ (.int .i64 x)).ownsRow base e 1 (.slice (some ⟨g,0,none⟩) l cap) (V.set i x).length ((V.set i x).flatMap intC1) := by
 have hl : l = V.length := by
  rcases h.2 with ⟨h1,_⟩ | ⟨_,_,_,h1,_⟩
  ·cases h1
  ·simp only [Value.slice.injEq] at h1
   exact h1.2.1
 subst hl
 have hs := (h.stored i (.int .i64 x)).1
 rw [List.length_set]
 have hf : (V.flatMap intC1).set i (.int .i64 x) = (V.set i x).flatMap intC1 := by
  have hm : ∀ l : List Int,l.flatMap intC1 = l.map (fun n => Value.int .i64 n) := fun l => by
   induction l with
   | nil => rfl
   | cons a l ih => rw [List.flatMap_cons,ih]; rfl
  rw [hm,hm,List.map_set]
 rw [hf] at hs
 exact hs
theorem AsgM.setAt {gv l c : Nat} (h : AsgM X b cost pv uv (.slice (some ⟨gv,0,none⟩) l c) P U V) (j : Nat) (x : Int) : AsgM (X.setCell ⟨gv,j,none⟩ (.int .i64 x)) b cost pv uv (.slice (some ⟨gv,0,none⟩) l c) P U (V.set j x) := by
 have hgv := (h.vr.lt gv rfl).1
 exact ⟨h.box.other (by omega) _,h.pr.kept (grown_set X gv j _) h.pv_,h.ur.kept (grown_set X gv j _) h.uv_,own_put h.vr j x,h.pu,h.pv_,h.uv_⟩
end
def AsgP (c : List (List Int)) (d e : List Int) (W : World) (en : Ending) (W' : World) : Prop :=
 Below W.heap.size W W' ∧ ∃ (pv uv vv : Value) (P U V : List Int),en = .returned (.tuple #[.agg #[.int .i64 (As.best c d e),pv,uv,vv],.int .i64 (if As.valid c d e then 0 else 1)]) ∧ SlOf W' pv 1 intC1 P ∧ SlOf W' uv 1 intC1 U ∧ SlOf W' vv 1 intC1 V ∧ Few6 P
set_option maxRecDepth 100000 in
set_option maxHeartbeats 16000000 in
theorem asgBest_any (ps : List (List Int × Value)) (d e : List Int) (vc vd ve : Value) (W : World) (hc : RowsAt W vc ps) (hd : SlOf W vd 1 intC1 d) (he : SlOf W ve 1 intC1 e) (h0 : 0 < ps.length) (h1 : ps.length ≤ 1000000) (h2 : d.length ≤ 1000000) (h3 : e.length ≤ 1000000) :
  Calls Tryz.prog 47 #[vc,vd,ve] W (AsgP (ps.map Prod.fst) d e W) := by
 obtain ⟨W0,hW0⟩ := exq (W.alloc (.cells #[.int .i64 0,.slice none 0 0,.slice none 0 0,.slice none 0 0] 111))
 have hb0 := bnew hW0
 have hk0 : Blk W0 W.heap.size 111 [.int .i64 0,.slice none 0 0,.slice none 0 0,.slice none 0 0] := by rw [hW0]; exact Blk.new W _ _
 have HB0 := hid hb0
 have HK0 := hid hk0
 have HV := hid (valid16_any ps d e vc vd ve W0 (hc.below hb0) (hd.below hb0) (he.below hb0) h1 h2 h3)
 have HC := hid hc
 have HD := hid hd
 have HE := hid he
 clear hb0 hk0
 cases hv : As.valid (ps.map Prod.fst) d e with
 | false =>
  have HO := hid (show As.best (ps.map Prod.fst) d e = 0 by unfold As.best; rw [hv]; rfl)
  have HVF := hid hv
  rw [hv] at HV
  obtain ⟨⟨ac,cc,rfl,-⟩,-⟩ := hc
  obtain ⟨ad,cd,rfl,-⟩ := hd
  obtain ⟨ae,ce,rfl,-⟩ := he
  clear hv
  go_enter Tryz.func47,Tryz.ntmps47
  go_wp2_with fail
  rw [← hW0]
  clear hW0
  go_step3
  go_wp2_with fail
  refine (HV.out).mono ?_
  rintro e1 w1 ⟨rfl,hb1⟩
  have HB1 := hid (Below.step HB0.out hb1)
  have HK1 := hid (HK0.out.below hb1)
  obtain ⟨y0,y1,y2,y3,f0,f1,f2,f3,yz⟩ := HK1.out.cf4
  clear hb1
  go_wp2_with fail
  rw [Exit.noGoto_ret]
  obtain ⟨W9,hW9⟩ := exq (((((w1.setCell ⟨W.heap.size,0,none⟩ (.int .i64 0)).setCell ⟨W.heap.size,1,none⟩ (.slice none 0 0)).setCell ⟨W.heap.size,2,none⟩ (.slice none 0 0)).setCell ⟨W.heap.size,3,none⟩ (.slice none 0 0)))
  rw [← hW9]
  have h9 : Blk W9 W.heap.size 111 [.int .i64 0,.slice none 0 0,.slice none 0 0,.slice none 0 0] := by rw [hW9]; exact (((HK1.out.set 0 _).set 1 _).set 2 _).set 3 _
  have hb9 : Below W.heap.size W W9 := by
   rw [hW9]
   exact (((HB1.out.setCell (p := ⟨W.heap.size,0,none⟩) (Nat.le_refl _) _).setCell (p := ⟨W.heap.size,1,none⟩) (Nat.le_refl _) _).setCell (p := ⟨W.heap.size,2,none⟩) (Nat.le_refl _) _).setCell (p := ⟨W.heap.size,3,none⟩) (Nat.le_refl _) _
  refine post_cell_tmp rfl rfl (run_loadVar_row W9 W.heap.size _ 111 _ _ _ h9 Tryz.underlying111 rfl (by kernel_rfl)) rfl rfl ?_
  exact ⟨hb9,_,_,_,[],[],[],by rw [HO.out,HVF.out]; rfl,SlOf.nil _ _ _,SlOf.nil _ _ _,SlOf.nil _ _ _,Few6.nil⟩
 | true =>
  have hok := As.valid_iff.1 hv
  have HOK := hid hok
  have HO := hid (As.tAt_best hv)
  have HVT := hid hv
  rw [hv] at HV
  have hlen := hok.rows
  rw [List.length_map] at hlen
  have hn6 := hok.few
  have hm6 := hok.cols
  have HTB := hid (As.tAt_bounds hok)
  obtain ⟨⟨ac,cc,rfl,-⟩,-⟩ := hc
  obtain ⟨ad,cd,rfl,-⟩ := hd
  obtain ⟨ae,ce,rfl,-⟩ := he
  obtain ⟨n,hnn⟩ := exq (d.length)
  obtain ⟨m,hmm⟩ := exq (e.length)
  have HNM := hid (And.intro hnn (And.intro hmm hlen))
  have HT : Hid (∀ X,Below W.heap.size W X → Calls Tryz.prog 78 #[.slice ac n cc,.slice ad n cd,.slice ae m ce] X (TabP ps d e X)) := hid fun X hX => by
   have := table_any ps d e _ _ _ X (HC.out.below hX) (HD.out.below hX) (HE.out.below hX) (by omega) h0 hlen hm6 (fun p hp => HOK.out.len p.1 (List.mem_map.2 ⟨p,hp,rfl⟩)) HOK.out.we HOK.out.wd (fun i s => by have := HTB.out i s; omega) (fun p hp => HOK.out.wc p.1 (List.mem_map.2 ⟨p,hp,rfl⟩))
   rwa [HNM.out.2.2,← HNM.out.1,← HNM.out.2.1] at this
  rw [hlen] at h0
  rw [hlen,← hnn] at HV ⊢
  rw [← hnn] at hn6 h0
  rw [← hmm] at hm6 HV ⊢
  clear hv hok hlen hnn hmm h1 h2 h3
  obtain ⟨i0,hi,hz0,hz1,hz2⟩ := info_parts Tryz.infoIntG
  go_enter Tryz.func47,Tryz.ntmps47
  go_wp2_with fail
  rw [← hW0]
  clear hW0
  go_step3
  go_wp2_with fail
  refine (HV.out).mono ?_
  rintro e1 w1 ⟨rfl,hb1⟩
  have HB1 := hid (Below.step HB0.out hb1)
  have HK1 := hid (HK0.out.below hb1)
  have HT1 := hid (HT.out w1 HB1.out)
  clear hb1
  go_wp2_with fail
  refine (HT1.out).mono ?_
  intro e2 w2 ht2
  unfold TabP at ht2
  rw [HNM.out.2.2,← HNM.out.1,← HNM.out.2.1] at ht2
  obtain ⟨f,rfl,htm,hf,hb2⟩ := ht2
  have HB2 := hid (Below.step HB1.out hb2)
  have HK2 := hid (HK1.out.below hb2)
  have HTM := hid htm
  have HF := hid hf
  have t00 := htm.cell (i := 0) (s := 0) (by omega) (by omega)
  rw [hf 0 0 (Nat.zero_le _) (Nat.pow_pos (by omega)),← HO.out] at t00
  have tz := htm.lt
  have n0 : (0 : Int) < (n : Int) + 1 := by omega
  obtain ⟨cost,hcost⟩ := exq (As.best (ps.map Prod.fst) d e)
  rw [← hcost] at t00
  have HCO := hid hcost
  obtain ⟨W3,hW3⟩ := exq (w2.alloc (.cells #[.int .i64 cost,.slice none 0 0,.slice none 0 0,.slice none 0 0] 111))
  have HA3 := hid (show AsgM W3 w2.heap.size cost (.slice none 0 0) (.slice none 0 0) (.slice none 0 0) [] [] [] by
   rw [hW3]
   exact ⟨Blk.new w2 _ _,World.ownsRow_nil _ _ _ _,World.ownsRow_nil _ _ _ _,World.ownsRow_nil _ _ _ _,.inl rfl,.inl rfl,.inl rfl⟩)
  have HB3 := hid (show Below w2.heap.size w2 W3 by rw [hW3]; exact (Below.refl _ w2).alloc (Nat.le_refl _) _)
  obtain ⟨T,hT⟩ := exq (w1.heap.size)
  rw [Nat.zero_mul,Nat.add_zero] at t00
  rw [← hT] at HTM t00 tz ⊢
  obtain ⟨M,hM⟩ : ∃ M : Nat,M = 2 ^ m := ⟨_,rfl⟩
  have hM64 : M ≤ 64 := by
   rw [hM]
   exact Nat.pow_le_pow_right (by omega) hm6
  have HM := hid hM
  have hM0 : 0 < M := by rw [hM]; exact Nat.pow_pos (by omega)
  clear htm hf hb2 hT hcost hM
  go_upto_region 5 with (fail)
  rw [← hW3]
  obtain ⟨b1,hb1⟩ := exq (w2.heap.size)
  rw [← hb1] at HA3 ⊢
  have HBQ := hid hb1
  clear hW3 t00 tz hb1
  go_wp2_with fail
  go_step3
  go_wp2_with fail
  go_loopw [10,38] (fun sv kv wr => ∃ (k set : Nat) (pv : Value) (P : List Int),k ≤ n ∧ set < M ∧ kv = .int .i64 k ∧ sv = .int .i64 set ∧ Hid (AsgM wr b1 cost pv (.slice none 0 0) (.slice none 0 0) P [] []) ∧ Hid (Cols k P) ∧ Hid (Below w2.heap.size w2 wr)) (fun _ kv _ => n - (RowKit.intOf kv).toNat)
  case atStart => exact ⟨0,0,_,[],Nat.zero_le _,hM0,rfl,rfl,HA3,hid ⟨rfl,fun x hx => by cases hx⟩,HB3⟩
  case round =>
   clear HA3 HB3
   obtain ⟨k,set,pv,P,hk,hset,rfl,rfl,HA,HPL,HR⟩ := hrel
   rename World => wr
   by_cases hlt : k < n
   ·obtain ⟨p,hp⟩ : ∃ p,ps[k]? = some p := ⟨_,List.getElem?_eq_getElem (by rw [HNM.out.2.2,← HNM.out.1]; exact hlt)⟩
    have hbw := Below.step HB2.out HR.out
    obtain ⟨gc,oc,rfl,hrc⟩ : ∃ g o,ac = some ⟨g,o,none⟩ ∧ RowOf wr g o 1 rowC ps := by
     obtain ⟨a',c',e',-,-,hr⟩ := (HC.out.below hbw).1
     cases e'
     exact hr (by rw [HNM.out.2.2,← HNM.out.1]; omega)
    have c0 := hrc.2 k p hp 0 _ rfl
    rw [Nat.add_zero,Nat.mul_one] at c0
    have hgc := hrc.1
    have HPS := hid ((HC.out.below hbw).2 p (List.mem_of_getElem? hp)).1
    obtain ⟨row,rv⟩ := p
    have hrl : row.length = m := by rw [HNM.out.2.1]; exact HOK.out.len row (List.mem_map.2 ⟨_,List.mem_of_getElem? hp,rfl⟩)
    have HWR := hid (HOK.out.wc row (List.mem_map.2 ⟨_,List.mem_of_getElem? hp,rfl⟩))
    obtain ⟨av,cv,hrv,-⟩ := HPS.out
    simp only at hrv
    subst hrv
    have HRL := hid hrl
    rw [hrl] at c0
    have k0 : (0 : Int) ≤ (k : Int) := by omega
    have k1 : (k : Int) < (n : Int) := by omega
    have HTR := hid (HTM.out.below HR.out)
    clear hrc hp hbw hrl
    go_wp2_with fail
    go_loopw [10,45] (fun sv jv wx => ∃ j : Nat,j ≤ m ∧ sv = .int .i64 set ∧ jv = .int .i64 j ∧ Hid (Below wr.heap.size wr wx)) (fun _ jv _ => m - (RowKit.intOf jv).toNat)
    case atStart => exact ⟨0,Nat.zero_le _,rfl,rfl,Below.refl _ _⟩
    case round =>
     obtain ⟨j,hj,rfl,rfl,HX⟩ := hrel
     rename World => wx
     have HAX := hid (HA.out.below HX.out)
     have HTX := hid (HTR.out.below HX.out)
     by_cases hjm : j < m
     ·obtain ⟨gv,ov,rfl,hrv⟩ : ∃ g o,av = some ⟨g,o,none⟩ ∧ RowOf wx g o 1 intC1 row := by
       obtain ⟨a',c',e',-,-,hr⟩ := HPS.out.below HX.out
       cases e'
       exact hr (by rw [HRL.out]; omega)
      obtain ⟨r,hr⟩ : ∃ r,row[j]? = some r := ⟨_,List.getElem?_eq_getElem (by rw [HRL.out]; exact hjm)⟩
      have r0 := hrv.2 j r hr 0 _ rfl
      rw [Nat.add_zero,Nat.mul_one] at r0
      have rz := hrv.1
      have hrb := As.within_mem HWR.out (List.mem_of_getElem? hr)
      have h64 : set < 64 := by omega
      have hbt := bit_test h64 (show j < 6 by omega)
      obtain ⟨bt,hbt2⟩ := exq (set.testBit j)
      rw [← hbt2] at hbt
      have j0 : (0 : Int) ≤ (j : Int) := by omega
      have j1 : (j : Int) < (m : Int) := by omega
      clear hrv hr hbt2
      cases bt with
      | true =>
       have hbt' : (bits BinOp.and IntKind.i64 ((set : Int) / 2 ^ j) 1 == 0) = false := hbt
       clear hbt
       have HX2 := hid HX.out.drew
       go_upto_region 12 with (fail)
       go_quiet (fail)
       go_wp2_with fail
       go_roundw
       case rel => exact ⟨j + 1,by omega,rfl,by go_num,Below.step HX.out (Below.drewQ _ _)⟩
       case measure => simp [RowKit.intOf]; omega
      | false =>
       have hbt' : (bits BinOp.and IntKind.i64 ((set : Int) / 2 ^ j) 1 == 0) = true := hbt
       obtain ⟨q,hq⟩ := exq (set ||| 2 ^ j)
       have hor := bit_or h64 (show j < 6 by omega)
       rw [← hq] at hor
       have hqM : q < M := by
        rw [hq,HM.out]
        exact Nat.or_lt_two_pow (by rw [← HM.out]; exact hset) (Nat.pow_lt_pow_right (by omega) hjm)
       have q1 := HTX.out.cell (i := k + 1) (s := q) (by omega) (by omega)
       have q0 := HTX.out.cell (i := k) (s := set) (by omega) h64
       have qz := HTX.out.lt
       have hfb := HTB.out (k + 1) q
       rw [← HF.out (k + 1) q (by omega) (by rw [← HM.out]; exact hqM)] at hfb
       obtain ⟨fa,hfa⟩ := exq (f (k + 1) q)
       obtain ⟨fb,hfb2⟩ := exq (f k set)
       rw [← hfa] at q1 hfb
       rw [← hfb2] at q0
       have w1' : IntKind.i64.wrap (r + fa) = r + fa := IntWalk.i64_in _ (by omega)
       have w3' : IntKind.i64.wrap ((k : Int) + 1) = (k : Int) + 1 := IntWalk.i64_in _ (by omega)
       have k3 : (0 : Int) ≤ (k : Int) + 1 := by omega
       have k4 : (k : Int) + 1 < (n : Int) + 1 := by omega
       have k5 : (k : Int) < (n : Int) + 1 := by omega
       have z0 : (0 : Int) ≤ (q : Int) := by omega
       have z1 : (q : Int) < 64 := by omega
       have z2 : (0 : Int) ≤ (set : Int) := by omega
       have z3 : (set : Int) < 64 := by omega
       have HQM := hid hqM
       have HOR := hid hor
       clear hbt hq hfa hfb2
       go_upto_region 12 with (fail)
       go_quiet (fail)
       obtain ⟨X,hX⟩ := exq (wx.drewN nq)
       rw [← hX]
       have HXX := hid (show Below wr.heap.size wr X by rw [hX]; exact Below.step HX.out (Below.drewQ _ _))
       clear hX q1 q0 qz r0 rz c0 hgc
       by_cases hqe : r + fa = fb
       ·have hb1 : (r + fa == fb) = true := by rw [hqe]; simp
        have HAY := hid (HA.out.below HXX.out)
        have HX1 := hid (HAY.out.below ((Below.refl _ X).alloc (Nat.le_refl _) (.cells #[.int .i64 j] 3)))
        have HXZ := hid (show b1 < X.heap.size from HAY.out.box.lt)
        have HXB := hid ((Below.step HR.out HXX.out).alloc (by have := HXZ.out; have := HBQ.out; omega) (.cells #[.int .i64 j] 3))
        have y1 := HAY.out.box.cell (j := 1) rfl
        have yz := HAY.out.box.lt
        have hpl : P.length ≤ 6 := by rw [HPL.out.1]; omega
        obtain ⟨pa,pc,hpv⟩ := ownsRow_slice HAY.out.pr
        rw [hpv] at y1 HX1
        clear hqe
        go_wp2_with (at_builtin; refine wpList_plain rfl fun _ hK => ?_; refine wp_append_at _ _ 90 rfl (b1 + 1) 3 i0 (.int .i64 0) 1 8 Tryz.underlying90 hi hz0 hz1 hz2 rfl (by decide) _ _ _ rfl HX1.out.pr ⟨X.heap.size,0,none⟩ 1 1 [.int .i64 j] rfl rfl (cells_new rfl) (by simp [Value.oneCell']) (by unfold maxLen; omega) (by omega) (by have := HXZ.out; simp; omega) ?_; intro v9 w9 ho9 hg9 hn9; refine hK _ _ ?_; obtain ⟨na,nc,hne⟩ := ownsRow_slice ho9; subst hne; have hbk := HX1.out.box.kept hg9 (fun e => by have := (HX1.out.pr.lt b1 e).1; omega); have y9 := hbk.cell (j := 1) rfl; have f9 := hbk.frozen 1; have z9 := hbk.lt; have HA9 := hid (HX1.out.appP hg9 ho9 hn9); have HB9 := hid ((Below.appended HXB.out hg9 (by have := HXZ.out; have := HBQ.out; simp; omega) (ownsRow_to HX1.out.pr (by have := HBQ.out; omega))).setCell (p := ⟨b1,1,none⟩) (by have := HBQ.out; show _ ≤ b1; omega) (.slice na (P.length + 1) nc)); clear hbk ho9 hg9 hn9)
        go_roundw
        case rel => exact ⟨k + 1,q,_,P ++ [(j : Int)],by omega,HQM.out,by go_num,by rw [← IntWalk.i64_left]; exact congrArg (Value.int .i64) HOR.out,HA9,hid (HPL.out.snoc (by omega)),HB9⟩
        case measure => simp [RowKit.intOf]; omega
       ·have hb1 : (r + fa == fb) = false := by simpa using hqe
        go_wp2_with fail
        go_roundw
        case rel => exact ⟨j + 1,by omega,rfl,by go_num,HXX⟩
        case measure => simp [RowKit.intOf]; omega
     ·have hj9 : ¬ (j : Int) < (m : Int) := by omega
      obtain ⟨X,hX⟩ := exq (wx)
      rw [← hX] at HAX HX ⊢
      have HX1 := hid (HAX.out.below ((Below.refl _ X).alloc (Nat.le_refl _) (.cells #[.int .i64 m] 3)))
      have HXZ := hid (show b1 < X.heap.size from HAX.out.box.lt)
      have HXB := hid ((Below.step HR.out HX.out).alloc (by have := HXZ.out; have := HBQ.out; omega) (.cells #[.int .i64 m] 3))
      have y1 := HAX.out.box.cell (j := 1) rfl
      have yz := HAX.out.box.lt
      have hpl : P.length ≤ 6 := by rw [HPL.out.1]; omega
      obtain ⟨pa,pc,hpv⟩ := ownsRow_slice HAX.out.pr
      rw [hpv] at y1 HX1
      clear c0 hgc hX HTX
      go_wp2_with (at_builtin; refine wpList_plain rfl fun _ hK => ?_; refine wp_append_at _ _ 90 rfl (b1 + 1) 3 i0 (.int .i64 0) 1 8 Tryz.underlying90 hi hz0 hz1 hz2 rfl (by decide) _ _ _ rfl HX1.out.pr ⟨X.heap.size,0,none⟩ 1 1 [.int .i64 m] rfl rfl (cells_new rfl) (by simp [Value.oneCell']) (by unfold maxLen; omega) (by omega) (by have := HXZ.out; simp; omega) ?_; intro v9 w9 ho9 hg9 hn9; refine hK _ _ ?_; obtain ⟨na,nc,hne⟩ := ownsRow_slice ho9; subst hne; have hbk := HX1.out.box.kept hg9 (fun e => by have := (HX1.out.pr.lt b1 e).1; omega); have y9 := hbk.cell (j := 1) rfl; have f9 := hbk.frozen 1; have z9 := hbk.lt; have HA9 := hid (HX1.out.appP hg9 ho9 hn9); have HB9 := hid ((Below.appended HXB.out hg9 (by have := HXZ.out; have := HBQ.out; simp; omega) (ownsRow_to HX1.out.pr (by have := HBQ.out; omega))).setCell (p := ⟨b1,1,none⟩) (by have := HBQ.out; show _ ≤ b1; omega) (.slice na (P.length + 1) nc)); clear hbk ho9 hg9 hn9)
      go_roundw
      case rel => exact ⟨k + 1,set,_,P ++ [(m : Int)],by omega,hset,by go_num,rfl,HA9,hid (HPL.out.snoc (by omega)),HB9⟩
      case measure => simp [RowKit.intOf]; omega
   ·have hke : ¬ (k : Int) < (n : Int) := by omega
    have HAR := HA
    have HCL := hid (cloneI_any e (.slice ae m ce) wr (by have := HE.out.below (Below.step HB2.out HR.out); rwa [← HNM.out.2.1] at this) (by rw [← HNM.out.2.1]; omega))
    have y3 := HA.out.box.cell (j := 3) rfl
    have yz := HA.out.box.lt
    go_wp2_with fail
    refine (HCL.out).mono ?_
    rintro e4 w4 ⟨v4,rfl,ho4,hb4⟩
    have HA4 := hid (HA.out.setV hb4 ho4)
    have hbk := HA.out.box.below hb4
    have y4 := hbk.cell (j := 3) rfl
    have f4 := hbk.frozen 3
    have z4 := hbk.lt
    have HB4 := hid ((Below.step HR.out hb4).setCell (p := ⟨b1,3,none⟩) (by have := HBQ.out; show _ ≤ b1; omega) v4)
    obtain ⟨va,vc,hve⟩ := ownsRow_slice ho4
    subst hve
    clear hbk ho4 hb4 y3 yz HCL hke
    go_wp2_with fail
    obtain ⟨W5,hW5⟩ := exq (w4.setCell ⟨b1,3,none⟩ (.slice va e.length vc))
    rw [← hW5] at HA4 HB4
    rw [← hW5]
    clear hW5 y4 f4 z4
    go_loopw [100] (fun kv wr => ∃ (k : Nat) (uv : Value) (U V : List Int),k ≤ n ∧ kv = .int .i64 k ∧ V.length = m ∧ Hid (AsgM wr b1 cost pv uv (.slice va e.length vc) P U V) ∧ Hid (U.length = k) ∧ Hid (Below w2.heap.size w2 wr)) (fun kv _ => n - (RowKit.intOf kv).toNat)
    case atStart => exact ⟨0,_,[],e,Nat.zero_le _,rfl,HNM.out.2.1.symm,HA4,hid rfl,HB4⟩
    case round =>
     clear HA4 HB4 HA HAR HR
     obtain ⟨k,uv,U,V,hk,rfl,hVm,HA,HUL,HR⟩ := hrel
     have HVM := hid hVm
     clear hVm
     rename World => Y
     by_cases hlt : k < n
     ·obtain ⟨p,hp⟩ : ∃ p,ps[k]? = some p := ⟨_,List.getElem?_eq_getElem (by rw [HNM.out.2.2,← HNM.out.1]; exact hlt)⟩
      obtain ⟨x,hx⟩ : ∃ x,d[k]? = some x := ⟨_,List.getElem?_eq_getElem (by rw [← HNM.out.1]; exact hlt)⟩
      have hbw := Below.step HB2.out HR.out
      obtain ⟨gc,oc,rfl,hrc⟩ : ∃ g o,ac = some ⟨g,o,none⟩ ∧ RowOf Y g o 1 rowC ps := by
       obtain ⟨a',c',e',-,-,hr⟩ := (HC.out.below hbw).1
       cases e'
       exact hr (by rw [HNM.out.2.2,← HNM.out.1]; omega)
      have hdc := (HD.out.below hbw)
      obtain ⟨a',c',e',hcap,-,hrd⟩ := hdc
      cases e'
      obtain ⟨gd,od,rfl,hrd⟩ := hrd (by rw [← HNM.out.1]; omega)
      have c0 := hrc.2 k p hp 0 _ rfl
      rw [Nat.add_zero,Nat.mul_one] at c0
      have hgc := hrc.1
      obtain ⟨row,rv⟩ := p
      have hrl : row.length = m := by rw [HNM.out.2.1]; exact HOK.out.len row (List.mem_map.2 ⟨_,List.mem_of_getElem? hp,rfl⟩)
      have HPS := hid ((HC.out.below hbw).2 _ (List.mem_of_getElem? hp)).1
      have HWR := hid (HOK.out.wc row (List.mem_map.2 ⟨_,List.mem_of_getElem? hp,rfl⟩))
      obtain ⟨av,cv,hrv,-⟩ := HPS.out
      simp only at hrv
      subst hrv
      have HRL := hid hrl
      rw [hrl] at c0
      have HCAP := hid (show n ≤ cd by rw [HNM.out.1]; exact hcap)
      have hpl : ps.length = n := by rw [HNM.out.2.2,← HNM.out.1]
      have hdl : d.length = n := HNM.out.1.symm
      have hel : e.length = m := HNM.out.2.1.symm
      have HCS : Hid (∀ (X : World) (gr g : Nat),Below Y.heap.size Y X → Blk X gr 90 [.slice av m cv] → Blk X g 96 [.slice (some ⟨gc,oc,none⟩) n cc,.slice (some ⟨gr,0,none⟩) 1 1] →
        Calls Tryz.prog 80 #[.slice (some ⟨g,0,none⟩) 2 2] X (fun en X' => ∃ a c,en = .returned (.slice a (n + 1) c) ∧ Below X.heap.size X X' ∧ RowsAt X' (.slice a (n + 1) c) (ps ++ [(row,.slice av m cv)]))) := hid fun X gr g hX k1 k2 => by
       have hR := HC.out.below (Below.step hbw hX)
       rw [hpl] at hR
       have hP := HPS.out.below hX
       rw [hrl] at hP
       have := concatS_two ps row _ _ gr g X hR hP (by omega) (by omega) k1 k2
       rwa [hpl] at this
      have HCI : Hid (∀ (X : World) (g : Nat),Below Y.heap.size Y X → Blk X g 90 [.slice (some ⟨gd,od,none⟩) n cd,.slice (some ⟨gd,od + k,none⟩) 1 (cd - k)] →
        Calls Tryz.prog 81 #[.slice (some ⟨g,0,none⟩) 2 2] X (fun en X' => ∃ a c,en = .returned (.slice a (n + 1) c) ∧ Below X.heap.size X X' ∧ SlOf X' (.slice a (n + 1) c) 1 intC1 (d ++ [x]))) := hid fun X g hX k1 => by
       have hD := HD.out.below (Below.step hbw hX)
       rw [hdl] at hD
       have := concatI_two d x _ _ g X hD (hD.part_one hx hdl.symm HCAP.out) (by omega) k1
       rwa [hdl] at this
      have HTX : Hid (∀ (X : World) (va' vd' : Value),Below Y.heap.size Y X → RowsAt X va' (ps ++ [(row,.slice av m cv)]) → SlOf X vd' 1 intC1 (d ++ [x]) →
        Calls Tryz.prog 78 #[va',vd',.slice ae m ce] X (fun en X' => ∃ g f,en = .returned (.slice (some ⟨g,0,none⟩) (n + 2) (n + 2)) ∧ TabM X' g (n + 2) f ∧ (0 ≤ f 0 0 ∧ f 0 0 ≤ 1000000) ∧ Below X.heap.size X X')) := hid fun X va' vd' hX hr' hd' => by
       have hE := HE.out.below (Below.step hbw hX)
       rw [hel] at hE
       have := table_two ps row (.slice av m cv) d e x va' vd' _ X HOK.out (by have := List.mem_of_getElem? hp; rwa [hrl] at this) (List.mem_of_getElem? hx) hr' hd' hE
       rwa [hpl] at this
      have k0 : (0 : Int) ≤ (k : Int) := by omega
      have k1 : (k : Int) < (n : Int) := by omega
      have hwk : IntKind.i64.wrap ((k : Int) + 1) = (k : Int) + 1 := IntWalk.i64_in _ (by omega)
      have s1 : (k : Int) ≤ (k : Int) + 1 := by omega
      have s2 : (0 : Int) ≤ (k : Int) + 1 ∧ (k : Int) + 1 ≤ (cd : Int) := by have := HCAP.out; omega
      have s3 : ¬ (cd : Int) = (k : Int) := by have := HCAP.out; omega
      have s4 : ((k : Int) + 1).toNat - k = 1 := by omega
      have s5 : ¬ cd = k := by have := HCAP.out; omega
      have HPM := hid (List.mem_of_getElem? hp)
      clear hrc hp hbw hrl hx hcap hrd hpl hdl hel
      go_wp2_with fail
      go_upto_region 22 with (fail)
      clear c0 hgc
      go_cut [17] from 105 to 119 (fun v17 wx => ∃ g f2,v17 = .slice (some ⟨g,0,none⟩) (n + 2) (n + 2) ∧ Hid (TabM wx g (n + 2) f2) ∧ Hid (0 ≤ f2 0 0 ∧ f2 0 0 ≤ 1000000) ∧ Hid (Below Y.heap.size Y wx))
      case first =>
       refine wp_heldS (S := StillAt Y) (by kernel_rfl) ?_
       simp only [List.size_toArray,List.length_cons,List.length_nil,Nat.reduceAdd]
       intro hc
       have S0 : StillAt Y (Array.replicate 16 false) Y.drew := (Below.refl _ _).drew
       obtain ⟨Y0,hY0⟩ := exq (Y.drew)
       rw [← hY0] at S0 ⊢
       have BY : Below Y.heap.size Y Y0 := by rw [hY0]; exact (Below.refl _ _).drew
       clear hY0
       refine tkI (i := 0) (v := .slice (some ⟨gc,oc,none⟩) n cc) rfl hc (fun wx hx => ?_) S0 (fun hc S0 => ?_)
       ·go_simp
       try simp only [tk1,tk3,Act.put,tk4,tk5,tk6]
       refine tkI (i := 1) (v := .slice av m cv) rfl hc (fun wx hx => ?_) S0 (fun hc S0 => ?_)
       ·go_simp
       try simp only [tk1,tk2,tk3,Act.put,tk4,tk5,tk6]
       refine tkI (i := 5) (v := .slice (some ⟨gd,od,none⟩) n cd) rfl hc (fun wx hx => ?_) S0 (fun hc S0 => ?_)
       ·go_simp
       try simp only [tk1,tk2,tk3,Act.put,tk4,tk5,tk6]
       refine tkI (i := 6) (v := .slice (some ⟨gd,od,none⟩) n cd) rfl hc (fun wx hx => ?_) S0 (fun hc S0 => ?_)
       ·go_simp
       try simp only [tk1,tk2,tk3,Act.put,tk4,tk5,tk6]
       refine tkI (i := 7) (v := .int .i64 k) rfl hc (fun wx hx => ?_) S0 (fun hc S0 => ?_)
       ·go_simp
       try simp only [tk1,tk2,tk3,Act.put,tk4,tk5,tk6]
       refine tkI (i := 8) (v := .int .i64 k) rfl hc (fun wx hx => ?_) S0 (fun hc S0 => ?_)
       ·go_simp
       try simp only [tk1,tk2,tk3,Act.put,tk4,tk5,tk6]
       refine tkI (i := 9) (v := .int .i64 ((k : Int) + 1)) rfl hc (fun wx hx => ?_) S0 (fun hc S0 => ?_)
       ·go_simp
       try simp only [tk1,tk2,tk3,Act.put,tk4,tk5,tk6]
       refine tkI (i := 10) (v := .slice (some ⟨gd,od + k,none⟩) 1 (cd - k)) rfl hc (fun wx hx => ?_) S0 (fun hc S0 => ?_)
       ·go_simp
       try simp only [tk1,tk2,tk3,Act.put,tk4,tk5,tk6]
       refine tkI (i := 13) (v := .slice ae m ce) rfl hc (fun wx hx => ?_) S0 (fun hc S0 => ?_)
       ·go_simp
       try simp only [tk1,tk2,tk3,Act.put,tk4,tk5,tk6]
       refine wpAnyS_two (i := 2) (k := 11) rfl rfl (by kernel_rfl) (by rfl) (by rfl) hc (fun K' hK => ?A1) (fun K' hK => ?B1)
       case' A1 =>
        go_simp
        obtain ⟨X1,hX1⟩ := exq (Y0.alloc (.cells #[.slice av m cv] 90))
        rw [← hX1]
        have bX1 := bnew hX1
        have kX1 : Blk X1 Y0.heap.size 90 [.slice av m cv] := by rw [hX1]; exact Blk.new _ _ _
        have BX1 := Below.step BY bX1
        clear hX1
        refine hK.out _ _ BX1 (fun hc => ?_)
        clear hK K'
        have S0 : StillAt Y #[] X1 := BX1
        try simp only [tk1,tk2,tk3,Act.put,tk4,tk5,tk6]
        refine wpAnyS_two (i := 3) (k := 11) rfl rfl (by kernel_rfl) (by rfl) (by rfl) hc (fun K' hK => ?A2) (fun K' hK => ?B2)
        case' A2 =>
         go_simp
         obtain ⟨X2,hX2⟩ := exq (X1.alloc (.cells #[.slice (some ⟨gc,oc,none⟩) n cc,.slice (some ⟨Y0.heap.size,0,none⟩) 1 1] 96))
         rw [← hX2]
         have bX2 := bnew hX2
         have kX2 : Blk X2 X1.heap.size 96 [.slice (some ⟨gc,oc,none⟩) n cc,.slice (some ⟨Y0.heap.size,0,none⟩) 1 1] := by rw [hX2]; exact Blk.new _ _ _
         have BX2 := Below.step BX1 bX2
         clear hX2
         refine hK.out _ _ BX2 (fun hc => ?_)
         clear hK K'
         have S0 : StillAt Y #[] X2 := BX2
         try simp only [tk1,tk2,tk3,Act.put,tk4,tk5,tk6]
         refine wpAnyS_two (i := 4) (k := 11) rfl rfl (by kernel_rfl) (by rfl) (by rfl) hc (fun K' hK => ?A3) (fun K' hK => ?B3)
         case' A3 =>
          go_simp
          refine (HCS.out X2 _ _ BX2 (kX1.below bX2) (kX2)).mono ?_
          rintro e5 X5 ⟨a5,c5,rfl,b5,hr5⟩
          have B5 := Below.step BX2 b5
          refine hK.out _ _ B5 (fun hc => ?_)
          clear hK K'
          have S0 : StillAt Y #[] X5 := B5
          try simp only [tk1,tk2,tk3,Act.put,tk4,tk5,tk6]
          refine onI (i := 11) rfl hc (fun K' hK => ?_)
          go_simp
          obtain ⟨X8,hX8⟩ := exq (X5.alloc (.cells #[.slice (some ⟨gd,od,none⟩) n cd,.slice (some ⟨gd,od + k,none⟩) 1 (cd - k)] 90))
          rw [← hX8]
          have bX8 := bnew hX8
          have kX8 : Blk X8 X5.heap.size 90 [.slice (some ⟨gd,od,none⟩) n cd,.slice (some ⟨gd,od + k,none⟩) 1 (cd - k)] := by rw [hX8]; exact Blk.new _ _ _
          have BX8 := Below.step B5 bX8
          clear hX8
          refine hK.out _ _ BX8 (fun hc => ?_)
          clear hK K'
          have S0 : StillAt Y #[] X8 := BX8
          try simp only [tk1,tk2,tk3,Act.put,tk4,tk5,tk6]
          refine onI (i := 12) rfl hc (fun K' hK => ?_)
          go_simp
          refine (HCI.out X8 _ BX8 (kX8)).mono ?_
          rintro e6 X6 ⟨a6,c6,rfl,b6,hr6⟩
          have B6 := Below.step BX8 b6
          refine hK.out _ _ B6 (fun hc => ?_)
          clear hK K'
          have S0 : StillAt Y #[] X6 := B6
          try simp only [tk1,tk2,tk3,Act.put,tk4,tk5,tk6]
          refine onI (i := 14) rfl hc (fun K' hK => ?_)
          go_simp
          refine (HTX.out X6 _ _ B6 ((hr5.below bX8).below b6) hr6).mono ?_
          rintro e7 X7 ⟨g7,f7,rfl,h7,hf7,b7⟩
          have B7 := Below.step B6 b7
          refine hK.out _ _ B7 (fun hc => ?_)
          clear hK K'
          have S0 : StillAt Y #[] X7 := B7
          try simp only [tk1,tk2,tk3,Act.put,tk4,tk5,tk6]
          refine tkI (i := 15) (v := .slice (some ⟨g7,0,none⟩) (n + 2) (n + 2)) rfl hc (fun wx hx => ?_) S0 (fun hc S0 => ?_)
          ·go_simp
          try simp only [tk1,tk2,tk3,Act.put,tk4,tk5,tk6]
          refine wpAnyS_done (by kernel_rfl) ?_ _
          clear hc S0
          go_wp2_with fail
          go_meet
          case rel => exact ⟨g7,f7,rfl,h7,hf7,B7⟩
         case' B3 =>
          go_simp
          obtain ⟨X8,hX8⟩ := exq (X2.alloc (.cells #[.slice (some ⟨gd,od,none⟩) n cd,.slice (some ⟨gd,od + k,none⟩) 1 (cd - k)] 90))
          rw [← hX8]
          have bX8 := bnew hX8
          have kX8 : Blk X8 X2.heap.size 90 [.slice (some ⟨gd,od,none⟩) n cd,.slice (some ⟨gd,od + k,none⟩) 1 (cd - k)] := by rw [hX8]; exact Blk.new _ _ _
          have BX8 := Below.step BX2 bX8
          clear hX8
          refine hK.out _ _ BX8 (fun hc => ?_)
          clear hK K'
          have S0 : StillAt Y #[] X8 := BX8
          try simp only [tk1,tk2,tk3,Act.put,tk4,tk5,tk6]
          refine onI (i := 4) rfl hc (fun K' hK => ?_)
          go_simp
          refine (HCS.out X8 _ _ BX8 ((kX1.below bX2).below bX8) (kX2.below bX8)).mono ?_
          rintro e5 X5 ⟨a5,c5,rfl,b5,hr5⟩
          have B5 := Below.step BX8 b5
          refine hK.out _ _ B5 (fun hc => ?_)
          clear hK K'
          have S0 : StillAt Y #[] X5 := B5
          try simp only [tk1,tk2,tk3,Act.put,tk4,tk5,tk6]
          refine onI (i := 12) rfl hc (fun K' hK => ?_)
          go_simp
          refine (HCI.out X5 _ B5 (kX8.below b5)).mono ?_
          rintro e6 X6 ⟨a6,c6,rfl,b6,hr6⟩
          have B6 := Below.step B5 b6
          refine hK.out _ _ B6 (fun hc => ?_)
          clear hK K'
          have S0 : StillAt Y #[] X6 := B6
          try simp only [tk1,tk2,tk3,Act.put,tk4,tk5,tk6]
          refine onI (i := 14) rfl hc (fun K' hK => ?_)
          go_simp
          refine (HTX.out X6 _ _ B6 (hr5.below b6) hr6).mono ?_
          rintro e7 X7 ⟨g7,f7,rfl,h7,hf7,b7⟩
          have B7 := Below.step B6 b7
          refine hK.out _ _ B7 (fun hc => ?_)
          clear hK K'
          have S0 : StillAt Y #[] X7 := B7
          try simp only [tk1,tk2,tk3,Act.put,tk4,tk5,tk6]
          refine tkI (i := 15) (v := .slice (some ⟨g7,0,none⟩) (n + 2) (n + 2)) rfl hc (fun wx hx => ?_) S0 (fun hc S0 => ?_)
          ·go_simp
          try simp only [tk1,tk2,tk3,Act.put,tk4,tk5,tk6]
          refine wpAnyS_done (by kernel_rfl) ?_ _
          clear hc S0
          go_wp2_with fail
          go_meet
          case rel => exact ⟨g7,f7,rfl,h7,hf7,B7⟩
        case' B2 =>
         go_simp
         obtain ⟨X8,hX8⟩ := exq (X1.alloc (.cells #[.slice (some ⟨gd,od,none⟩) n cd,.slice (some ⟨gd,od + k,none⟩) 1 (cd - k)] 90))
         rw [← hX8]
         have bX8 := bnew hX8
         have kX8 : Blk X8 X1.heap.size 90 [.slice (some ⟨gd,od,none⟩) n cd,.slice (some ⟨gd,od + k,none⟩) 1 (cd - k)] := by rw [hX8]; exact Blk.new _ _ _
         have BX8 := Below.step BX1 bX8
         clear hX8
         refine hK.out _ _ BX8 (fun hc => ?_)
         clear hK K'
         have S0 : StillAt Y #[] X8 := BX8
         try simp only [tk1,tk2,tk3,Act.put,tk4,tk5,tk6]
         refine onI (i := 3) rfl hc (fun K' hK => ?_)
         go_simp
         obtain ⟨X2,hX2⟩ := exq (X8.alloc (.cells #[.slice (some ⟨gc,oc,none⟩) n cc,.slice (some ⟨Y0.heap.size,0,none⟩) 1 1] 96))
         rw [← hX2]
         have bX2 := bnew hX2
         have kX2 : Blk X2 X8.heap.size 96 [.slice (some ⟨gc,oc,none⟩) n cc,.slice (some ⟨Y0.heap.size,0,none⟩) 1 1] := by rw [hX2]; exact Blk.new _ _ _
         have BX2 := Below.step BX8 bX2
         clear hX2
         refine hK.out _ _ BX2 (fun hc => ?_)
         clear hK K'
         have S0 : StillAt Y #[] X2 := BX2
         try simp only [tk1,tk2,tk3,Act.put,tk4,tk5,tk6]
         refine onI (i := 4) rfl hc (fun K' hK => ?_)
         go_simp
         refine (HCS.out X2 _ _ BX2 ((kX1.below bX8).below bX2) (kX2)).mono ?_
         rintro e5 X5 ⟨a5,c5,rfl,b5,hr5⟩
         have B5 := Below.step BX2 b5
         refine hK.out _ _ B5 (fun hc => ?_)
         clear hK K'
         have S0 : StillAt Y #[] X5 := B5
         try simp only [tk1,tk2,tk3,Act.put,tk4,tk5,tk6]
         refine onI (i := 12) rfl hc (fun K' hK => ?_)
         go_simp
         refine (HCI.out X5 _ B5 ((kX8.below bX2).below b5)).mono ?_
         rintro e6 X6 ⟨a6,c6,rfl,b6,hr6⟩
         have B6 := Below.step B5 b6
         refine hK.out _ _ B6 (fun hc => ?_)
         clear hK K'
         have S0 : StillAt Y #[] X6 := B6
         try simp only [tk1,tk2,tk3,Act.put,tk4,tk5,tk6]
         refine onI (i := 14) rfl hc (fun K' hK => ?_)
         go_simp
         refine (HTX.out X6 _ _ B6 (hr5.below b6) hr6).mono ?_
         rintro e7 X7 ⟨g7,f7,rfl,h7,hf7,b7⟩
         have B7 := Below.step B6 b7
         refine hK.out _ _ B7 (fun hc => ?_)
         clear hK K'
         have S0 : StillAt Y #[] X7 := B7
         try simp only [tk1,tk2,tk3,Act.put,tk4,tk5,tk6]
         refine tkI (i := 15) (v := .slice (some ⟨g7,0,none⟩) (n + 2) (n + 2)) rfl hc (fun wx hx => ?_) S0 (fun hc S0 => ?_)
         ·go_simp
         try simp only [tk1,tk2,tk3,Act.put,tk4,tk5,tk6]
         refine wpAnyS_done (by kernel_rfl) ?_ _
         clear hc S0
         go_wp2_with fail
         go_meet
         case rel => exact ⟨g7,f7,rfl,h7,hf7,B7⟩
       case' B1 =>
        go_simp
        obtain ⟨X8,hX8⟩ := exq (Y0.alloc (.cells #[.slice (some ⟨gd,od,none⟩) n cd,.slice (some ⟨gd,od + k,none⟩) 1 (cd - k)] 90))
        rw [← hX8]
        have bX8 := bnew hX8
        have kX8 : Blk X8 Y0.heap.size 90 [.slice (some ⟨gd,od,none⟩) n cd,.slice (some ⟨gd,od + k,none⟩) 1 (cd - k)] := by rw [hX8]; exact Blk.new _ _ _
        have BX8 := Below.step BY bX8
        clear hX8
        refine hK.out _ _ BX8 (fun hc => ?_)
        clear hK K'
        have S0 : StillAt Y #[] X8 := BX8
        try simp only [tk1,tk2,tk3,Act.put,tk4,tk5,tk6]
        refine onI (i := 2) rfl hc (fun K' hK => ?_)
        go_simp
        obtain ⟨X1,hX1⟩ := exq (X8.alloc (.cells #[.slice av m cv] 90))
        rw [← hX1]
        have bX1 := bnew hX1
        have kX1 : Blk X1 X8.heap.size 90 [.slice av m cv] := by rw [hX1]; exact Blk.new _ _ _
        have BX1 := Below.step BX8 bX1
        clear hX1
        refine hK.out _ _ BX1 (fun hc => ?_)
        clear hK K'
        have S0 : StillAt Y #[] X1 := BX1
        try simp only [tk1,tk2,tk3,Act.put,tk4,tk5,tk6]
        refine onI (i := 3) rfl hc (fun K' hK => ?_)
        go_simp
        obtain ⟨X2,hX2⟩ := exq (X1.alloc (.cells #[.slice (some ⟨gc,oc,none⟩) n cc,.slice (some ⟨X8.heap.size,0,none⟩) 1 1] 96))
        rw [← hX2]
        have bX2 := bnew hX2
        have kX2 : Blk X2 X1.heap.size 96 [.slice (some ⟨gc,oc,none⟩) n cc,.slice (some ⟨X8.heap.size,0,none⟩) 1 1] := by rw [hX2]; exact Blk.new _ _ _
        have BX2 := Below.step BX1 bX2
        clear hX2
        refine hK.out _ _ BX2 (fun hc => ?_)
        clear hK K'
        have S0 : StillAt Y #[] X2 := BX2
        try simp only [tk1,tk2,tk3,Act.put,tk4,tk5,tk6]
        refine onI (i := 4) rfl hc (fun K' hK => ?_)
        go_simp
        refine (HCS.out X2 _ _ BX2 (kX1.below bX2) (kX2)).mono ?_
        rintro e5 X5 ⟨a5,c5,rfl,b5,hr5⟩
        have B5 := Below.step BX2 b5
        refine hK.out _ _ B5 (fun hc => ?_)
        clear hK K'
        have S0 : StillAt Y #[] X5 := B5
        try simp only [tk1,tk2,tk3,Act.put,tk4,tk5,tk6]
        refine onI (i := 12) rfl hc (fun K' hK => ?_)
        go_simp
        refine (HCI.out X5 _ B5 (((kX8.below bX1).below bX2).below b5)).mono ?_
        rintro e6 X6 ⟨a6,c6,rfl,b6,hr6⟩
        have B6 := Below.step B5 b6
        refine hK.out _ _ B6 (fun hc => ?_)
        clear hK K'
        have S0 : StillAt Y #[] X6 := B6
        try simp only [tk1,tk2,tk3,Act.put,tk4,tk5,tk6]
        refine onI (i := 14) rfl hc (fun K' hK => ?_)
        go_simp
        refine (HTX.out X6 _ _ B6 (hr5.below b6) hr6).mono ?_
        rintro e7 X7 ⟨g7,f7,rfl,h7,hf7,b7⟩
        have B7 := Below.step B6 b7
        refine hK.out _ _ B7 (fun hc => ?_)
        clear hK K'
        have S0 : StillAt Y #[] X7 := B7
        try simp only [tk1,tk2,tk3,Act.put,tk4,tk5,tk6]
        refine tkI (i := 15) (v := .slice (some ⟨g7,0,none⟩) (n + 2) (n + 2)) rfl hc (fun wx hx => ?_) S0 (fun hc S0 => ?_)
        ·go_simp
        try simp only [tk1,tk2,tk3,Act.put,tk4,tk5,tk6]
        refine wpAnyS_done (by kernel_rfl) ?_ _
        clear hc S0
        go_wp2_with fail
        go_meet
        case rel => exact ⟨g7,f7,rfl,h7,hf7,B7⟩
      case rest =>
      obtain ⟨g7,f7,rfl,H7,HF7,HY⟩ := hcut
      rename World => Z
      have HAZ := hid (HA.out.below HY.out)
      have HRZ := hid (Below.step HR.out HY.out)
      have t7 := H7.out.cell (i := 0) (s := 0) (by omega) (by omega)
      rw [Nat.zero_mul,Nat.add_zero] at t7
      have tz7 := H7.out.lt
      have y0 := HAZ.out.box.cell (j := 0) rfl
      have yz := HAZ.out.box.lt
      have n7 : (0 : Int) < (n : Int) + 2 := by omega
      obtain ⟨ff,hff⟩ := exq (f7 0 0)
      have hfb7 := HF7.out
      have hcb := HTB.out 0 0
      rw [← HO.out,← HCO.out] at hcb
      rw [← hff] at t7 hfb7
      have wu : IntKind.i64.wrap (ff - cost) = ff - cost := IntWalk.i64_in _ (by omega)
      have HUB := hid (show -1000000 ≤ ff - cost ∧ ff - cost ≤ 1000000 by omega)
      clear hff
      go_upto_region 23 with (fail)
      go_region
      obtain ⟨u,hu⟩ := exq (ff - cost)
      rw [← hu]
      rw [← hu] at HUB
      clear t7 tz7 y0 yz wu hfb7 hcb hu
      obtain ⟨X,hX⟩ := exq (Z.drew)
      rw [← hX]
      have HAX := hid (show AsgM X b1 cost pv uv (.slice va e.length vc) P U V by rw [hX]; exact HAZ.out.below (Below.refl _ _).drew)
      have HX1 := hid (HAX.out.below ((Below.refl _ X).alloc (Nat.le_refl _) (.cells #[.int .i64 u] 3)))
      have HXZ := hid (show b1 < X.heap.size from HAX.out.box.lt)
      have HXB := hid ((show Below w2.heap.size w2 X by rw [hX]; exact HRZ.out.drew).alloc (by have := HXZ.out; have := HBQ.out; omega) (.cells #[.int .i64 u] 3))
      have y2 := HAX.out.box.cell (j := 2) rfl
      have yz := HAX.out.box.lt
      have hul : U.length ≤ 6 := by rw [HUL.out]; omega
      obtain ⟨ua,uc,huv⟩ := ownsRow_slice HAX.out.ur
      rw [huv] at y2 HX1
      clear hX HAX HAZ HRZ H7 HF7 HY
      go_wp2_with (at_builtin; refine wpList_plain rfl fun _ hK => ?_; refine wp_append_at _ _ 90 rfl (b1 + 1) 3 i0 (.int .i64 0) 1 8 Tryz.underlying90 hi hz0 hz1 hz2 rfl (by decide) _ _ _ rfl HX1.out.ur ⟨X.heap.size,0,none⟩ 1 1 [.int .i64 u] rfl rfl (cells_new rfl) (by simp [Value.oneCell']) (by unfold maxLen; omega) (by omega) (by have := HXZ.out; simp; omega) ?_; intro v9 w9 ho9 hg9 hn9; refine hK _ _ ?_; obtain ⟨na,nc,hne⟩ := ownsRow_slice ho9; subst hne; have hbk := HX1.out.box.kept hg9 (fun e => by have := (HX1.out.ur.lt b1 e).1; omega); have y9 := hbk.cell (j := 2) rfl; have f9 := hbk.frozen 2; have z9 := hbk.lt; have HA9 := hid (HX1.out.appU hg9 ho9 hn9); have HB9 := hid ((Below.appended HXB.out hg9 (by have := HXZ.out; have := HBQ.out; simp; omega) (ownsRow_to HX1.out.ur (by have := HBQ.out; omega))).setCell (p := ⟨b1,2,none⟩) (by have := HBQ.out; show _ ≤ b1; omega) (.slice na (U.length + 1) nc)); clear hbk ho9 hg9 hn9)
      obtain ⟨W9,hW9⟩ := exq (w9.setCell ⟨b1,2,none⟩ (.slice na (U.length + 1) nc))
      rw [← hW9] at HA9 HB9
      rw [← hW9]
      clear hW9 y9 f9 z9 y2 yz hul huv HX1 HXB HXZ HA
      go_loopw [135] (fun jv wx => ∃ (j : Nat) (V' : List Int),j ≤ m ∧ jv = .int .i64 j ∧ V'.length = m ∧ Hid (AsgM wx b1 cost pv (.slice na (U.length + 1) nc) (.slice va e.length vc) P (U ++ [u]) V') ∧ Hid (Below w2.heap.size w2 wx)) (fun jv _ => m - (RowKit.intOf jv).toNat)
      case atStart => exact ⟨0,V,Nat.zero_le _,rfl,HVM.out,HA9,HB9⟩
      case round =>
       clear HA9 HB9
       obtain ⟨j,V',hj,rfl,hVm,HA,HX⟩ := hrel
       have HVM2 := hid hVm
       clear hVm
       rename World => wx
       by_cases hjm : j < m
       ·obtain ⟨gv,ov,rfl,hrv⟩ : ∃ g o,av = some ⟨g,o,none⟩ ∧ RowOf wx g o 1 intC1 row := by
         obtain ⟨a',c',e',-,-,hr⟩ := ((HC.out.below (Below.step HB2.out HX.out)).2 _ HPM.out).1
         cases e'
         exact hr (by rw [HRL.out]; omega)
        obtain ⟨r,hr⟩ : ∃ r,row[j]? = some r := ⟨_,List.getElem?_eq_getElem (by rw [HRL.out]; exact hjm)⟩
        have r0 := hrv.2 j r hr 0 _ rfl
        rw [Nat.add_zero,Nat.mul_one] at r0
        have rz := hrv.1
        have hrb := As.within_mem HWR.out (List.mem_of_getElem? hr)
        have hub := HUB.out
        have wr' : IntKind.i64.wrap (r - u) = r - u := IntWalk.i64_in _ (by omega)
        obtain ⟨ve,hve⟩ : ∃ ve,V'[j]? = some ve := ⟨_,List.getElem?_eq_getElem (by rw [HVM2.out]; exact hjm)⟩
        obtain ⟨gw,rfl⟩ : ∃ gw,va = some ⟨gw,0,none⟩ := by
         rcases HA.out.vr.2 with ⟨h1,h2⟩ | ⟨g',cap',cur',h1,-⟩
         ·rw [HVM2.out] at h2; omega
         ·simp only [Value.slice.injEq] at h1
          exact ⟨_,h1.1⟩
        have hvc := (SlOf.own HA.out.vr (fun _ _ => rfl))
        obtain ⟨a',c',e',-,-,hrw⟩ := hvc
        simp only [Value.slice.injEq] at e'
        obtain ⟨e1,-,-⟩ := e'
        obtain ⟨g',o',e2,hrw⟩ := hrw (by rw [HVM2.out]; omega)
        rw [← e1] at e2
        simp only [Option.some.injEq,Addr.mk.injEq,and_true] at e2
        obtain ⟨rfl,rfl⟩ := e2
        have v0 := hrw.2 j ve hve 0 _ rfl
        rw [Nat.add_zero,Nat.mul_one,Nat.zero_add] at v0
        have vz := hrw.1
        have vf : wx.frozen? ⟨gw,j,none⟩ = false := by
         have hvr := HA.out.vr
         rw [HVM2.out,HNM.out.2.1] at hvr
         exact hvr.frozenAt _
        have y3 := HA.out.box.cell (j := 3) rfl
        have yz := HA.out.box.lt
        have j0 : (0 : Int) ≤ (j : Int) := by omega
        have j1 : (j : Int) < (m : Int) := by omega
        have j2 : (j : Int) < (e.length : Int) := by rw [← HNM.out.2.1]; exact j1
        clear hrv hr hve hrw e1
        go_upto_region 28 with (fail)
        go_region
        go_wp2_with fail
        go_roundw
        case rel => exact ⟨j + 1,_,by omega,by go_num,by rw [List.length_set]; exact HVM2.out,(HA.out.setAt j _).below (Below.refl _ _).drew,(HX.out.setCell (p := ⟨gw,j,none⟩) (by have := (HA.out.vr.lt gw rfl).1; have := HBQ.out; show _ ≤ gw; omega) _).drew⟩
        case measure => simp [RowKit.intOf]; omega
       ·have hj9 : ¬ (j : Int) < (m : Int) := by omega
        go_wp2_with fail
        go_roundw
        case rel => exact ⟨k + 1,_,U ++ [u],V',by omega,by go_num,HVM2.out,HA,hid (by simp [HUL.out]),HX⟩
        case measure => simp [RowKit.intOf]; omega
     ·have hke2 : ¬ (k : Int) < (n : Int) := by omega
      obtain ⟨y0,y1,y2,y3,yz⟩ := HA.out.box.cl4
      have hk9 := (HK2.out.below HR.out)
      obtain ⟨q0,q1,q2,q3,qf0,qf1,qf2,qf3,qz⟩ := hk9.cf4
      clear n0
      obtain ⟨ua,uc,huv⟩ := ownsRow_slice HA.out.ur
      obtain ⟨pa,pc,hpv⟩ := ownsRow_slice HA.out.pr
      rw [huv,hpv] at HA
      rw [hpv] at y1
      rw [huv] at y2
      have HPR := hid HA.out.pr
      have HUR := hid HA.out.ur
      have HVR := hid HA.out.vr
      have HLT := hid (show W.heap.size < b1 + 1 by have := HBQ.out; have := HK2.out.lt; omega)
      have HBE := hid (Below.step HB2.out HR.out)
      go_wp2_with fail
      obtain ⟨W9,hW9⟩ := exq (((((Y.setCell ⟨W.heap.size,0,none⟩ (.int .i64 cost)).setCell ⟨W.heap.size,1,none⟩ (.slice pa P.length pc)).setCell ⟨W.heap.size,2,none⟩ (.slice ua U.length uc)).setCell ⟨W.heap.size,3,none⟩ (.slice va e.length vc)))
      rw [← hW9]
      have h9 : Blk W9 W.heap.size 111 [.int .i64 cost,.slice pa P.length pc,.slice ua U.length uc,.slice va e.length vc] := by rw [hW9]; exact ((((HK2.out.below HR.out).set 0 _).set 1 _).set 2 _).set 3 _
      have hb9 : Below W.heap.size W W9 := by
       rw [hW9]
       exact (((HBE.out.setCell (p := ⟨W.heap.size,0,none⟩) (Nat.le_refl _) _).setCell (p := ⟨W.heap.size,1,none⟩) (Nat.le_refl _) _).setCell (p := ⟨W.heap.size,2,none⟩) (Nat.le_refl _) _).setCell (p := ⟨W.heap.size,3,none⟩) (Nat.le_refl _) _
      have hown : ∀ {v : Value} {l : List Int},Y.ownsRow (b1 + 1) 3 1 v l.length (l.flatMap intC1) → SlOf W9 v 1 intC1 l := fun h => by
       rw [hW9]
       exact SlOf.own (ownsRow_setCell_below (ownsRow_setCell_below (ownsRow_setCell_below (ownsRow_setCell_below h (a := ⟨W.heap.size,0,none⟩) HLT.out _) (a := ⟨W.heap.size,1,none⟩) HLT.out _) (a := ⟨W.heap.size,2,none⟩) HLT.out _) (a := ⟨W.heap.size,3,none⟩) HLT.out _) (fun _ _ => rfl)
      refine post_cell_tmp rfl rfl (run_loadVar_row W9 W.heap.size _ 111 _ _ _ h9 Tryz.underlying111 rfl (by kernel_rfl)) rfl rfl ?_
      exact ⟨hb9,_,_,_,P,U,V,by rw [HCO.out,HVT.out]; rfl,hown HPR.out,hown HUR.out,hown HVR.out,HPL.out.few (by omega)⟩
end Go.Proofs.YtdghfenbfbdijaaGreatDoor
