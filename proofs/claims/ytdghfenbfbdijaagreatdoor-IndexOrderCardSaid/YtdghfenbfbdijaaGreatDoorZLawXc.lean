/-
 IndexOrder: the order in which entries are put makes no difference. Conditions: the arguments lie in memory and are of sizes that a machine holds; the library's tables.
-/
import Derived.Test.YtdghfenbfbdijaaGreatDoorZIy7
namespace Go.Proofs.YtdghfenbfbdijaaGreatDoor
open Go.RowKit Go.Lib Go.Maps

theorem drop_rev {α : Type} {l : List α} {j : Nat} {x : α} (h : l[j]? = some x) : (l.drop j).reverse = (l.drop (j + 1)).reverse ++ [x] := by
 obtain ⟨h1, h2⟩ := List.getElem?_eq_some_iff.1 h
 rw [List.drop_eq_getElem_cons h1, h2, List.reverse_cons]

set_option maxRecDepth 100000 in
set_option maxHeartbeats 16000000 in
theorem order_law (t : Rw.Table) (tv : Value) (bd : Int) (ps : List (Li.En × Value)) (vl : Value) (n : Li.Nm) (nv : Value) (W : World) (ht : TableRaw W t tv) (hl : EnsRaw W vl ps) (hn : SlOf W nv 1 strC n.words)
  (hz : ∀ e ∈ ps.map Prod.fst, ∀ m ∈ e.names, m.words.length ≤ 8796093022208) (hzn : n.words.length ≤ 8796093022208) (hT : Tabs W) :
  Calls Tryz.prog 4 #[tv, .int .i64 bd, vl, .agg #[.int .i64 n.script, nv]] W (Gives (.bool true) W) := by
 have HT := hid ht
 have HTT := hid hT
 have HL := hid hl
 have HN := hid hn
 have HZ := hid (And.intro hz hzn)
 obtain ⟨i0, hi0, hz0, hz1, hz2⟩ := info_parts Tryz.infoEntry
 obtain ⟨⟨vr, vd, ve, rfl, ⟨ar, cr, rfl, -⟩, ⟨ad, cd, rfl, -⟩, ⟨ae, ce, rfl, -⟩⟩, -, -, -⟩ := ht
 obtain ⟨la, lc, rfl, -⟩ := hl.sl
 obtain ⟨na, nc, rfl, -⟩ := hn
 clear hT hl hz hzn
 obtain ⟨Wa, hWa⟩ : ∃ X, X = W.alloc (.cells #[.slice ar t.rules.length cr, .slice ad t.drops.length cd, .slice ae t.ends.length ce, .int .i64 t.drop, .int .i64 t.order, .int .i64 t.initial] 25) := ⟨_, rfl⟩
 obtain ⟨W1, hW1⟩ : ∃ X, X = Wa.alloc (.cells #[.int .i64 n.script, .slice na n.words.length nc] 46) := ⟨_, rfl⟩
 have sa : Wa.heap.size = W.heap.size + 1 := by rw [hWa, World.size_alloc]
 have ba : Below W.heap.size W Wa := by rw [hWa]; exact (Below.refl _ _).alloc (Nat.le_refl _) _
 have bb : Below Wa.heap.size Wa W1 := by rw [hW1]; exact (Below.refl _ _).alloc (Nat.le_refl _) _
 have T1 := hid (show Blk W1 W.heap.size 25 [.slice ar t.rules.length cr, .slice ad t.drops.length cd, .slice ae t.ends.length ce, .int .i64 t.drop, .int .i64 t.order, .int .i64 t.initial] by
  have : Blk Wa W.heap.size 25 [.slice ar t.rules.length cr, .slice ad t.drops.length cd, .slice ae t.ends.length ce, .int .i64 t.drop, .int .i64 t.order, .int .i64 t.initial] := by rw [hWa]; exact Blk.new W _ _
  exact this.below bb)
 have N1 := hid (show Blk W1 (W.heap.size + 1) 46 [.int .i64 n.script, .slice na n.words.length nc] by rw [hW1, ← sa]; exact Blk.new Wa _ _)
 have B1 := hid (Below.step ba bb)
 rw [hWa] at hW1
 have HH := hid (head_true W1 (HTT.out.below B1.out))
 clear ba bb sa hWa
 go_enter Tryz.func4, Tryz.ntmps4
 go_upto_region 1 with (fail)
 try simp only [World.size_alloc]
 rw [← hW1]
 clear hW1
 go_wp2_with fail
 refine (HH.out).mono ?_
 rintro e W2 ⟨rfl, hb2⟩
 have B2 := hid (Below.step B1.out hb2)
 have T2 := hid (T1.out.below hb2)
 have N2 := hid (N1.out.below hb2)
 clear hb2 HH
 obtain ⟨X3, hX3⟩ : ∃ X, X = W2.alloc (.cells #[.int .i64 n.script, .slice na n.words.length nc] 46) := ⟨_, rfl⟩
 have b3 : Below W2.heap.size W2 X3 := by rw [hX3]; exact (Below.refl _ _).alloc (Nat.le_refl _) _
 have k3 : Blk X3 W2.heap.size 46 [.int .i64 n.script, .slice na n.words.length nc] := by rw [hX3]; exact Blk.new _ _ _
 have B3 := hid (Below.step B2.out b3)
 have T3 := hid (T2.out.below b3)
 have N3 := hid (N2.out.below b3)
 have HS := hid (small_any t _ ps (.slice la ps.length lc) none 0 0 [n] (.slice (some ⟨W2.heap.size, 0, none⟩) 1 1) X3 (HT.out.below B3.out) (HL.out.below B3.out)
  ⟨[(n, .slice na n.words.length nc)], rfl, SlOf.block k3 rfl (fun _ _ => rfl) rfl (by decide), fun p hp => by rw [List.mem_singleton.1 hp]; exact HN.out.below B3.out⟩ (by decide))
 have t0 := T2.out.cell (j := 0) rfl
 have t1 := T2.out.cell (j := 1) rfl
 have t2 := T2.out.cell (j := 2) rfl
 have t3 := T2.out.cell (j := 3) rfl
 have t4 := T2.out.cell (j := 4) rfl
 have t5 := T2.out.cell (j := 5) rfl
 have tl := T2.out.lt
 have n0 := N2.out.cell (j := 0) rfl
 have n1 := N2.out.cell (j := 1) rfl
 have nl := N2.out.lt
 clear b3 k3
 go_wp2_with fail
 rw [← hX3]
 clear hX3 t0 t1 t2 t3 t4 t5 tl n0 n1 nl
 refine (HS.out).mono ?_
 rintro e W3 ⟨rfl, hb3⟩
 have B4 := hid (Below.step B3.out hb3)
 have T4 := hid (T3.out.below hb3)
 have N4 := hid (N3.out.below hb3)
 clear hb3 HS
 cases hs : smallZ t (ps.map Prod.fst) 0 [n] with
 | false =>
  clear hs
  go_wp2_with fail
  go_ret
  exact ⟨rfl, B4.out⟩
 | true =>
 unfold smallZ at hs
 simp only [Bool.and_eq_true, decide_eq_true_eq] at hs
 have TA := hid (HT.out.few10 hs.1.1.1.1)
 have HSM := hid (Idx.few_small hs.1.1.1.2 HZ.out.1)
 have HNS := hid (Idx.names_small hs.1.2 hs.2 (fun m hm => by rw [List.mem_singleton.1 hm]; exact HZ.out.2) n List.mem_cons_self)
 clear hs
 have hl12 : ps.length ≤ 12 := by have := HSM.out.1; rwa [List.length_map] at this
 go_wp2_with fail
 go_loopw [10] (fun iv wr => ∃ i : Nat, i ≤ ps.length ∧ iv = .int .i64 i ∧ Hid ((((ps.map Prod.fst).take i).map Li.En.id).Nodup) ∧ Hid (Below W3.heap.size W3 wr)) (fun iv _ => ps.length - (RowKit.intOf iv).toNat)
 case atStart => exact ⟨0, Nat.zero_le _, rfl, List.nodup_nil, Below.refl _ _⟩
 case round =>
 obtain ⟨i, hi, rfl, HND, HR⟩ := hrel
 rename World => wr
 by_cases hlt : i < ps.length
 ·obtain ⟨⟨en, ev⟩, hx⟩ : ∃ x, ps[i]? = some x := ⟨_, List.getElem?_eq_getElem hlt⟩
  have HX := hid hx
  clear hx
  go_wp2_with fail
  go_loopw [11] (fun kv wx => ∃ k : Nat, k ≤ i ∧ kv = .int .i64 k ∧ Hid (∀ e ∈ (ps.map Prod.fst).take k, e.id ≠ en.id) ∧ Hid (Below wr.heap.size wr wx)) (fun kv _ => i - (RowKit.intOf kv).toNat)
  case atStart => exact ⟨0, Nat.zero_le _, rfl, hid (fun e he => by cases he), Below.refl _ _⟩
  case round =>
   obtain ⟨k, hk, rfl, HNE, HRX⟩ := hrel
   rename World => wx
   have HBX := hid (Below.step B4.out (Below.step HR.out HRX.out))
   by_cases hki : k < i
   ·obtain ⟨⟨fn, fv⟩, hy⟩ : ∃ x, ps[k]? = some x := ⟨_, List.getElem?_eq_getElem (by omega)⟩
    obtain ⟨g, o, rfl, hr⟩ : ∃ g o, la = some ⟨g, o, none⟩ ∧ RowOf wx g o 2 enC ps := by
     obtain ⟨a', c', e', -, -, hr⟩ := HL.out.sl.below HBX.out
     simp only [Value.slice.injEq] at e'
     obtain ⟨rfl, -, rfl⟩ := e'
     exact hr (by omega)
    have s0 := hr.2 i _ HX.out 0 _ rfl
    have u0 := hr.2 k _ hy 0 _ rfl
    rw [Nat.add_zero] at s0 u0
    dsimp only at s0 u0
    have hg := hr.1
    have i0 : (0 : Int) ≤ (i : Int) := by omega
    have i1 : (i : Int) < (ps.length : Int) := by omega
    have k0 : (0 : Int) ≤ (k : Int) := by omega
    have k1 : (k : Int) < (ps.length : Int) := by omega
    have HTK := hid (show (ps.map Prod.fst).take (k + 1) = (ps.map Prod.fst).take k ++ [fn] from Idx.take_one (by rw [List.getElem?_map, hy]; rfl))
    clear hr hy
    by_cases e1 : en.id = fn.id
    ·have c4 : ((bs en.id).toList == (bs fn.id).toList) = true := by rw [e1]; exact beq_self_eq_true _
     clear e1
     go_wp2_with fail
     go_region
     go_wp2_with fail
     go_ret
     exact ⟨rfl, HBX.out.drew⟩
    ·have c3 : ¬ (bs en.id).toList = (bs fn.id).toList := fun e => e1 (by rw [ByteArray.toList_eq, ByteArray.toList_eq] at e; exact e)
     have c4 : ((bs en.id).toList == (bs fn.id).toList) = false := beq_eq_false_iff_ne.2 c3
     have HE1 := hid e1
     clear e1
     go_wp2_with fail
     go_region
     go_wp2_with fail
     go_roundw
     case rel =>
      refine ⟨k + 1, by omega, by go_num, hid (fun e he => ?_), HRX.out.drew⟩
      rw [HTK.out] at he
      rcases List.mem_append.1 he with he | he
      ·exact HNE.out e he
      ·rw [List.mem_singleton.1 he]
       exact fun h => HE1.out h.symm
     case measure => simp [RowKit.intOf]; omega
   ·have hke : k = i := by omega
    have hkl : ¬ (k : Int) < (i : Int) := by omega
    have HKE := hid hke
    clear hke
    go_wp2_with fail
    go_roundw
    case rel =>
     refine ⟨i + 1, by omega, by go_num, hid ?_, Below.step HR.out HRX.out⟩
     rw [Idx.take_one (show (ps.map Prod.fst)[i]? = some en by rw [List.getElem?_map, HX.out]; rfl), List.map_append, List.nodup_append]
     refine ⟨HND.out, by simp, fun a ha b hb => ?_⟩
     obtain ⟨e, he, rfl⟩ := List.mem_map.1 ha
     simp only [List.map_cons, List.map_nil, List.mem_singleton] at hb
     rw [hb]
     exact HNE.out e (by rw [HKE.out]; exact he)
    case measure => simp [RowKit.intOf]; omega
 have hie : i = ps.length := by omega
 have hil : ¬ (i : Int) < (ps.length : Int) := by omega
 have HNU := hid (show ((ps.map Prod.fst).map Li.En.id).Nodup by
  have := HND.out
  rwa [List.take_of_length_le (by rw [List.length_map]; omega)] at this)
 have B5 := hid (Below.step B4.out HR.out)
 have T5 := hid (T4.out.below HR.out)
 have N5 := hid (N4.out.below HR.out)
 clear hie hi hlt
 go_wp2_with fail
 go_loopw [12, 13] (fun bv iv wx => ∃ j : Nat, j ≤ ps.length ∧ iv = .int .i64 ((j : Int) - 1) ∧ (∃ a l c, bv = .slice a l c) ∧ Hid (wx.ownsRow wr.heap.size 40 2 bv ((ps.drop j).reverse).length ((ps.drop j).reverse.flatMap enC)) ∧ Hid (Below wr.heap.size wr wx)) (fun _ iv _ => (RowKit.intOf iv + 1).toNat)
 case atStart => exact ⟨ps.length, Nat.le_refl _, by go_num, ⟨_, _, _, rfl⟩, hid (by rw [List.drop_length]; exact World.ownsRow_nil _ _ _ _), Below.refl _ _⟩
 case round =>
 obtain ⟨j, hj, rfl, ⟨ba, bl, bc, rfl⟩, HRO, HRX⟩ := hrel
 rename World => wx
 have HBX := hid (Below.step B5.out HRX.out)
 by_cases hj0 : 0 < j
 ·obtain ⟨q, hq⟩ : ∃ q, j = q + 1 := ⟨j - 1, by omega⟩
  subst hq
  obtain ⟨⟨en, ev⟩, hx⟩ : ∃ x, ps[q]? = some x := ⟨_, List.getElem?_eq_getElem (by omega)⟩
  obtain ⟨g, o, rfl, hr⟩ : ∃ g o, la = some ⟨g, o, none⟩ ∧ RowOf wx g o 2 enC ps := by
   obtain ⟨a', c', e', -, -, hr⟩ := HL.out.sl.below HBX.out
   simp only [Value.slice.injEq] at e'
   obtain ⟨rfl, -, rfl⟩ := e'
   exact hr (by omega)
  have s0 := hr.2 q _ hx 0 _ rfl
  have s1 := hr.2 q _ hx 1 _ rfl
  rw [Nat.add_zero] at s0
  dsimp only at s0 s1
  obtain ⟨xa, xn, xc, hxv⟩ : ∃ a n c, ev = .slice a n c := by obtain ⟨l, -, ⟨a, c, e, -⟩, -⟩ := HL.out.nm _ (List.mem_of_getElem? hx); exact ⟨a, _, c, e⟩
  subst hxv
  have hg := hr.1
  have q0 : (((q + 1 : Nat) : Int) - 1) = (q : Int) := by omega
  have k0 : (0 : Int) ≤ (q : Int) := by omega
  have k1 : (q : Int) < (ps.length : Int) := by omega
  have HDR := hid (drop_rev hx)
  have hlr : ((ps.drop (q + 1)).reverse).length ≤ 12 := by rw [List.length_reverse, List.length_drop]; omega
  have HROX := hid (HRO.out.alloc (.cells #[.string (bs en.id), .slice xa xn xc] 40))
  have HOB := hid HRX.out.size
  have HBA := hid (HRX.out.alloc HRX.out.size (.cells #[.string (bs en.id), .slice xa xn xc] 40))
  rw [q0]
  clear hr hx q0
  go_wp2_with (at_builtin; refine wpList_append_own _ rfl _ _ 26 rfl wr.heap.size 40 i0 (.agg #[.string ⟨#[]⟩, .slice none 0 0]) 2 40 Tryz.underlying26 hi0 hz0 hz1 hz2 rfl (by decide) _ _ _ rfl HROX.out ⟨wx.heap.size, 0, none⟩ 1 1 [.string (bs en.id), .slice xa xn xc] rfl rfl (cells_new rfl) (by simp [Value.oneCell']) (by unfold maxLen; omega) (by omega) (by have := HOB.out; simp; omega) ?_; intro v' w9 ho9 hg9 _; have HB9 := hid (Below.appended HBA.out hg9 (by have := HOB.out; simp; omega) HROX.out); have HO9 := hid ho9; obtain ⟨va, vc, hv9⟩ := ownsRow_slice ho9; clear ho9 hg9; subst hv9)
  go_roundw
  case rel =>
   refine ⟨q, by omega, by go_num, ⟨_, _, _, rfl⟩, hid ?_, HB9⟩
   rw [HDR.out, List.flatMap_append, List.length_append]
   have h := HO9.out
   simp only [List.length_reverse, List.length_drop] at h ⊢
   exact h
  case measure => simp [RowKit.intOf]
 have hje : j = 0 := by omega
 subst hje
 have HRE := HRO.out
 rw [List.drop_zero] at HRE
 have HBK := hid (show EnsRaw wx (.slice ba bl bc) ps.reverse from ⟨SlOf.own HRE (fun _ _ => rfl), fun p hp => (HL.out.nm p (List.mem_reverse.1 hp)).below HBX.out⟩)
 have HSR := hid (show Idx.Small (ps.reverse.map Prod.fst) by
  refine ⟨by rw [List.length_map, List.length_reverse]; exact hl12, fun e he => HSM.out.2 e ?_⟩
  obtain ⟨p, hp, rfl⟩ := List.mem_map.1 he
  exact List.mem_map_of_mem (List.mem_reverse.1 hp))
 have B6 := hid HBX.out
 have T6 := hid (T5.out.below HRX.out)
 have N6 := hid (N5.out.below HRX.out)
 have HFA := hid (filled_any t _ _ _ bd (fun _ => True) ps _ wx (TA.out.below B6.out) (HTT.out.below B6.out) (HL.out.below B6.out) HSM.out (fun _ _ => trivial))
 have t0 := T6.out.cell (j := 0) rfl
 have t1 := T6.out.cell (j := 1) rfl
 have t2 := T6.out.cell (j := 2) rfl
 have t3 := T6.out.cell (j := 3) rfl
 have t4 := T6.out.cell (j := 4) rfl
 have t5 := T6.out.cell (j := 5) rfl
 have tl := T6.out.lt
 have jm : ¬ (0 : Int) ≤ ((0 : Nat) : Int) - 1 := by omega
 clear hj hj0 HRE
 go_wp2_with fail
 refine (HFA.out).mono ?_
 rintro e W4 ⟨hb4, hx⟩
 have B7 := hid (Below.step B6.out hb4)
 have T7 := hid (T6.out.below hb4)
 have N7 := hid (N6.out.below hb4)
 have HFB := hid (filled_any t _ _ _ bd (fun _ => True) ps.reverse _ W4 (TA.out.below B7.out) (HTT.out.below B7.out) (HBK.out.below hb4) HSR.out (fun _ _ => trivial))
 clear t0 t1 t2 t3 t4 t5 tl hb4 HFA
 have t0 := T7.out.cell (j := 0) rfl
 have t1 := T7.out.cell (j := 1) rfl
 have t2 := T7.out.cell (j := 2) rfl
 have t3 := T7.out.cell (j := 3) rfl
 have t4 := T7.out.cell (j := 4) rfl
 have t5 := T7.out.cell (j := 5) rfl
 have tl := T7.out.lt
 rcases hx with ⟨hno, rfl⟩ | ⟨hok, px, eb, cb, P, rfl, he, hc, hP, hix⟩
 ·have HNO := hid hno
  clear hno
  go_wp2_with fail
  refine (HFB.out).mono ?_
  rintro e W5 ⟨hb5, hy⟩
  have B8 := hid (Below.step B7.out hb5)
  clear t0 t1 t2 t3 t4 t5 tl hb5 HFB
  rcases hy with ⟨-, rfl⟩ | ⟨hok, -⟩
  ·go_wp2_with fail
   go_ret
   exact ⟨rfl, B8.out⟩
  ·rw [HNO.out] at hok
   cases hok
 have HIX := hid hix
 have HEC := hid (show W.heap.size ≤ cb by have := B6.out.size; omega)
 have HP := hid hP
 have HOK := hid hok
 have HVT := hid (show Rw.valid t = true by unfold newOk at hok; simp only [Bool.and_eq_true] at hok; exact hok.1.1)
 clear he hc hP hix hok
 go_wp2_with fail
 refine (HFB.out).mono ?_
 rintro e W5 ⟨hb5, hy⟩
 have B8 := hid (Below.step B7.out hb5)
 have N8 := hid (N7.out.below hb5)
 have HI5 := hid (HIX.out.below hb5)
 clear t0 t1 t2 t3 t4 t5 tl HFB
 rcases hy with ⟨hno, -⟩ | ⟨-, py, eb2, cb2, P2, rfl, he2, hc2, hP2, hiy⟩
 ·rw [HOK.out] at hno
  cases hno
 have HJ5 := hid hiy
 have HAP := hid (show eb2 ≠ cb ∧ cb2 ≠ cb ∧ eb ≠ cb2 ∧ cb ≠ cb2 by
  obtain ⟨o, e1, -⟩ := HIX.out.map
  have h1 := (Array.getElem?_eq_some_iff.1 e1).1
  have h2 := HIX.out.ix.ents.lt
  omega)
 have HEC2 := hid (show W.heap.size ≤ cb2 by have := B7.out.size; omega)
 have HSO := hid (sort_same (P := P2) (P' := P) HJ5.out.ix.ok HIX.out.ix.ok (fun e => by
  rw [hP2, HP.out, List.map_reverse]
  exact (Idx.law_order HNU.out (by rw [List.length_map]; omega) e).symm))
 clear hb5 he2 hc2 hP2 hiy
 have n0 := N8.out.cell (j := 0) rfl
 have n1 := N8.out.cell (j := 1) rfl
 have nl := N8.out.lt
 have HW6 := hid (show ∀ s ∈ n.words, s.length ≤ 1000000 from fun s hs => by have := HNS.out.2 s hs; omega)
 have HFI := hid (find_all px eb cb t _ _ _ bd (fun _ => True) P 0 n _ W5 HI5.out (HN.out.below B8.out) HW6.out (by omega) (Rw.valid_order HVT.out))
 obtain ⟨A, hA⟩ : ∃ A, A = Idx.findZ t bd n ((Idx.sortE P).map Prod.fst) := ⟨_, rfl⟩
 rw [← hA] at HFI
 have HA := hid hA
 clear hA
 go_wp2_with fail
 refine (HFI.out).mono ?_
 rintro e W6 ⟨hb6, aa, ca, nc1, rfl, hs1, -, hx6⟩
 obtain ⟨om, hom, hoc⟩ := HI5.out.map
 have HI6 := hid hx6
 have HJ6 := hid (HJ5.out.apart hb6 hom hoc HAP.out.1 HAP.out.2.1)
 have N9 := hid (blk_but N8.out hb6 hom hoc)
 have B9 := hid (B8.out.trans (hb6.below B8.out.size HEC.out))
 have HAS := hid hs1
 have HFJ := hid (find_all py eb2 cb2 t _ _ _ bd (fun _ => True) P2 0 n _ W6 HJ6.out (HN.out.below B9.out) HW6.out (by omega) (Rw.valid_order HVT.out))
 rw [HSO.out, ← HA.out] at HFJ
 clear n0 n1 nl hb6 hs1 hom hoc hx6 HFI
 have n0 := N9.out.cell (j := 0) rfl
 have n1 := N9.out.cell (j := 1) rfl
 have nl := N9.out.lt
 go_wp2_with fail
 refine (HFJ.out).mono ?_
 rintro e W7 ⟨hb7, ab, cbp, nc2, rfl, hs2, -, hx7⟩
 obtain ⟨om, hom, hoc⟩ := HJ6.out.map
 have HAS7 := hid (HAS.out.but hb7 hom hoc)
 have HBS7 := hid hs2
 have HJ7 := hid hx7
 have HI7 := hid (HI6.out.apart hb7 hom hoc HAP.out.2.2.1 HAP.out.2.2.2)
 have B10 := hid (B9.out.trans (hb7.below B9.out.size HEC2.out))
 have HHE := hid (show Calls Tryz.prog 20 #[.slice aa A.1.length ca, .slice ab A.1.length cbp] W7 (Gives (.bool true) W7) from by
  have := hitsE_any A.1 A.1 _ _ W7 HAS7.out HBS7.out
  rw [decide_eq_true rfl] at this
  exact this)
 obtain ⟨er, her⟩ : ∃ er, er = A.2 := ⟨_, rfl⟩
 rw [← her]
 clear n0 n1 nl hb7 hs2 hom hoc hx7 her HFJ
 go_wp2_with fail
 refine (HHE.out).mono ?_
 rintro e W8 ⟨rfl, hb8⟩
 have B11 := hid (Below.step B10.out hb8)
 have HEN := hid (entries_raw px eb cb t _ _ _ bd (fun _ => True) P nc1 W8 (HI7.out.below hb8))
 have HJ8 := hid (HJ7.out.below hb8)
 clear hb8 HHE
 go_wp2_with fail
 refine (HEN.out).mono ?_
 rintro e W9 ⟨hb9, a9, c9, ps9, rfl, h91, h92⟩
 have B12 := hid (Below.step B11.out hb9)
 have HE9 := hid (And.intro h91 h92)
 have HEM := hid (entries_raw py eb2 cb2 t _ _ _ bd (fun _ => True) P2 nc2 W9 (HJ8.out.below hb9))
 clear hb9 h91 h92 HEN
 go_wp2_with fail
 refine (HEM.out).mono ?_
 rintro e W10 ⟨hb10, a10, c10, ps10, rfl, h91, h92⟩
 have B13 := hid (Below.step B12.out hb10)
 have HSA := hid (show Calls Tryz.prog 21 #[.slice a9 ps9.length c9, .slice a10 ps10.length c10] W10 (Gives (.bool true) W10) from by
  have := sameAll_any ps9 ps10 _ _ W10 (HE9.out.2.below hb10) h92
  rw [decide_eq_true (by rw [HE9.out.1, h91, HSO.out])] at this
  exact this)
 clear hb10 h91 h92 HEM
 go_wp2_with fail
 refine (HSA.out).mono ?_
 rintro e W11 ⟨rfl, hb11⟩
 have B14 := hid (Below.step B13.out hb11)
 clear hb11 HSA
 go_wp2_with fail
 go_ret
 exact ⟨rfl, B14.out⟩

end Go.Proofs.YtdghfenbfbdijaaGreatDoor
