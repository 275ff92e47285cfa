/-
 IndexBounds: with the lesser bound those hits are found that cost at most this bound. Conditions: the arguments lie in memory and are of sizes that a machine holds; the library's tables.
-/
import Derived.Test.YtdghfenbfbdijaaGreatDoorZIy4
import Derived.Test.YtdghfenbfbdijaaGreatDoorZIy6
namespace Rw
theorem valid_order {t : Table} (h : valid t = true) : 0 ≤ t.order ∧ t.order ≤ 1000000 := by
 unfold valid at h
 simp only [Bool.and_eq_true] at h
 have := h.1.1.1.1.2
 unfold isCost at this
 simp only [Bool.and_eq_true, decide_eq_true_eq] at this
 omega
end Rw
namespace Go.Proofs.YtdghfenbfbdijaaGreatDoor
open Go.RowKit Go.Lib Go.Maps

/-- another index's map has changed -/
theorem IxT.apart {W W' : World} {px eb cb : Nat} {t : Rw.Table} {vr vd ve : Value} {b : Int} {Q : Nat → Prop} {P : List (Li.En × Value)} {nc l : Nat} {o : Obj} (h : IxT W px eb cb t vr vd ve b Q P nc) (hb : But W.heap.size l W W') (hl : W.heap[l]? = some o) (ho : o.isCells = false) (h1 : eb ≠ l) (h2 : cb ≠ l) : IxT W' px eb cb t vr vd ve b Q P nc := by
 obtain ⟨F, f1, f2⟩ := h.ix.costs
 refine ⟨⟨blk_but h.ix.box hb hl ho, ?_, fun p hp => (h.ix.names p hp).but hb hl ho, ⟨F, ?_, f2⟩, h.ix.ne, h.ix.ok⟩, tableAt_but h.tb hb hl ho, tabs_but h.tabs hb hl ho⟩
 ·have hlt := h.ix.ents.lt
  obtain ⟨D, ⟨es, clock, hbk, hr⟩, hD⟩ := h.ix.ents
  exact ⟨D, ⟨es, clock, (hb.block eb hlt h1).trans hbk, hr⟩, hD⟩
 ·have hlt := f1.lt
  obtain ⟨D, ⟨es, clock, hbk, hr⟩, hD⟩ := f1
  exact ⟨D, ⟨es, clock, (hb.block cb hlt h2).trans hbk, hr⟩, hD⟩

/-- entries that are put alike are found in the same order -/
theorem sort_same {P P' : List (Li.En × Value)} (h : Idx.Ok (P.map Prod.fst)) (h' : Idx.Ok (P'.map Prod.fst)) (he : ∀ e, e ∈ P.map Prod.fst ↔ e ∈ P'.map Prod.fst) : (Idx.sortE P).map Prod.fst = (Idx.sortE P').map Prod.fst := by
 have h1 : (P.map fun p => p.1.id).Nodup := by have := h.once; rwa [List.map_map] at this
 have h2 : (P'.map fun p => p.1.id).Nodup := by have := h'.once; rwa [List.map_map] at this
 exact Idx.Srt.uniq (Idx.sortE_srt h1) (Idx.sortE_srt h2) he

theorem filter_take {B : List Idx.Hit} {bd : Int} {k : Nat} {x : Idx.Hit} (h : B[k]? = some x) : (B.take (k + 1)).filter (fun y => decide (y.cost ≤ bd)) = (B.take k).filter (fun y => decide (y.cost ≤ bd)) ++ if x.cost ≤ bd then [x] else [] := by
 rw [Idx.take_one h, List.filter_append]
 congr 1
 by_cases hx : x.cost ≤ bd
 ·simp [hx]
 ·simp [hx]

set_option maxRecDepth 100000 in
set_option maxHeartbeats 16000000 in
theorem bounds_law (t : Rw.Table) (tv : Value) (bd more : Int) (ps : List (Li.En × Value)) (vl : Value) (n : Li.Nm) (nv : Value) (W : World) (ht : TableRaw W t tv) (hl : EnsRaw W vl ps) (hn : SlOf W nv 1 strC n.words)
  (hz : ∀ e ∈ ps.map Prod.fst, ∀ m ∈ e.names, m.words.length ≤ 8796093022208) (hzn : n.words.length ≤ 8796093022208) (hbd : -9223372036854775808 ≤ bd) (hmore : 0 ≤ more ∧ more ≤ 255) (hT : Tabs W) :
  Calls Tryz.prog 6 #[tv, .int .i64 bd, .int .u8 more, vl, .agg #[.int .i64 n.script, nv]] W (Gives (.bool true) W) := by
 have HT := hid ht
 have HTT := hid hT
 have HL := hid hl
 have HN := hid hn
 have HZ := hid (And.intro hz hzn)
 have HBD := hid (And.intro hbd hmore)
 obtain ⟨i0, hi0, hz0, hz1, hz2⟩ := info_parts Tryz.infoHit
 obtain ⟨⟨vr, vd, ve, rfl, ⟨ar, cr, rfl, -⟩, ⟨ad, cd, rfl, -⟩, ⟨ae, ce, rfl, -⟩⟩, -, -, -⟩ := ht
 obtain ⟨la, lc, rfl, -⟩ := hl.sl
 obtain ⟨na, nc, rfl, -⟩ := hn
 clear hT hl hz hzn hbd hmore
 obtain ⟨Wa, hWa⟩ : ∃ X, X = W.alloc (.cells #[.slice ar t.rules.length cr, .slice ad t.drops.length cd, .slice ae t.ends.length ce, .int .i64 t.drop, .int .i64 t.order, .int .i64 t.initial] 25) := ⟨_, rfl⟩
 obtain ⟨W1, hW1⟩ : ∃ X, X = Wa.alloc (.cells #[.int .i64 n.script, .slice na n.words.length nc] 46) := ⟨_, rfl⟩
 have sa : Wa.heap.size = W.heap.size + 1 := by rw [hWa, World.size_alloc]
 have ba : Below W.heap.size W Wa := by rw [hWa]; exact (Below.refl _ _).alloc (Nat.le_refl _) _
 have bb : Below Wa.heap.size Wa W1 := by rw [hW1]; exact (Below.refl _ _).alloc (Nat.le_refl _) _
 have T1 := hid (show Blk W1 W.heap.size 25 [.slice ar t.rules.length cr, .slice ad t.drops.length cd, .slice ae t.ends.length ce, .int .i64 t.drop, .int .i64 t.order, .int .i64 t.initial] by
  have : Blk Wa W.heap.size 25 [.slice ar t.rules.length cr, .slice ad t.drops.length cd, .slice ae t.ends.length ce, .int .i64 t.drop, .int .i64 t.order, .int .i64 t.initial] := by rw [hWa]; exact Blk.new W _ _
  exact this.below bb)
 have N1 := hid (show Blk W1 (W.heap.size + 1) 46 [.int .i64 n.script, .slice na n.words.length nc] by rw [hW1, ← sa]; exact Blk.new Wa _ _)
 have B1 := hid (Below.step ba bb)
 rw [hWa] at hW1
 have HH := hid (head_true W1 (HTT.out.below B1.out))
 clear ba bb sa hWa
 go_enter Tryz.func6, Tryz.ntmps6
 go_upto_region 1 with (fail)
 try simp only [World.size_alloc]
 rw [← hW1]
 clear hW1
 go_wp2_with fail
 refine (HH.out).mono ?_
 rintro e W2 ⟨rfl, hb2⟩
 have B2 := hid (Below.step B1.out hb2)
 have T2 := hid (T1.out.below hb2)
 have N2 := hid (N1.out.below hb2)
 clear hb2 HH
 obtain ⟨X3, hX3⟩ : ∃ X, X = W2.alloc (.cells #[.int .i64 n.script, .slice na n.words.length nc] 46) := ⟨_, rfl⟩
 have b3 : Below W2.heap.size W2 X3 := by rw [hX3]; exact (Below.refl _ _).alloc (Nat.le_refl _) _
 have k3 : Blk X3 W2.heap.size 46 [.int .i64 n.script, .slice na n.words.length nc] := by rw [hX3]; exact Blk.new _ _ _
 have B3 := hid (Below.step B2.out b3)
 have T3 := hid (T2.out.below b3)
 have N3 := hid (N2.out.below b3)
 have HS := hid (small_any t _ ps (.slice la ps.length lc) none 0 0 [n] (.slice (some ⟨W2.heap.size, 0, none⟩) 1 1) X3 (HT.out.below B3.out) (HL.out.below B3.out)
  ⟨[(n, .slice na n.words.length nc)], rfl, SlOf.block k3 rfl (fun _ _ => rfl) rfl (by decide), fun p hp => by rw [List.mem_singleton.1 hp]; exact HN.out.below B3.out⟩ (by decide))
 have t0 := T2.out.cell (j := 0) rfl
 have t1 := T2.out.cell (j := 1) rfl
 have t2 := T2.out.cell (j := 2) rfl
 have t3 := T2.out.cell (j := 3) rfl
 have t4 := T2.out.cell (j := 4) rfl
 have t5 := T2.out.cell (j := 5) rfl
 have tl := T2.out.lt
 have n0 := N2.out.cell (j := 0) rfl
 have n1 := N2.out.cell (j := 1) rfl
 have nl := N2.out.lt
 clear b3 k3
 go_wp2_with fail
 rw [← hX3]
 clear hX3 t0 t1 t2 t3 t4 t5 tl n0 n1 nl
 refine (HS.out).mono ?_
 rintro e W3 ⟨rfl, hb3⟩
 have B4 := hid (Below.step B3.out hb3)
 have T4 := hid (T3.out.below hb3)
 have N4 := hid (N3.out.below hb3)
 clear hb3 HS
 cases hs : smallZ t (ps.map Prod.fst) 0 [n] with
 | false =>
  clear hs
  go_wp2_with fail
  go_ret
  exact ⟨rfl, B4.out⟩
 | true =>
 unfold smallZ at hs
 simp only [Bool.and_eq_true, decide_eq_true_eq] at hs
 have TA := hid (HT.out.few10 hs.1.1.1.1)
 have HSM := hid (Idx.few_small hs.1.1.1.2 HZ.out.1)
 have HNS := hid (Idx.names_small hs.1.2 hs.2 (fun m hm => by rw [List.mem_singleton.1 hm]; exact HZ.out.2) n List.mem_cons_self)
 clear hs
 by_cases hb5 : (100000 : Int) < bd
 ·go_wp2_with fail
  go_ret
  exact ⟨rfl, B4.out⟩
 have HB5 := hid hb5
 have HFA := hid (filled_any t _ _ _ bd (fun _ => True) ps _ W3 (TA.out.below B4.out) (HTT.out.below B4.out) (HL.out.below B4.out) HSM.out (fun _ _ => trivial))
 have t0 := T4.out.cell (j := 0) rfl
 have t1 := T4.out.cell (j := 1) rfl
 have t2 := T4.out.cell (j := 2) rfl
 have t3 := T4.out.cell (j := 3) rfl
 have t4 := T4.out.cell (j := 4) rfl
 have t5 := T4.out.cell (j := 5) rfl
 have tl := T4.out.lt
 go_wp2_with fail
 refine (HFA.out).mono ?_
 rintro e W4 ⟨hb4, hx⟩
 have B5 := hid (Below.step B4.out hb4)
 have T5 := hid (T4.out.below hb4)
 have N5 := hid (N4.out.below hb4)
 have hwr : IntKind.i64.wrap (bd + more) = bd + more := IntWalk.i64_in _ (by have := HBD.out; omega)
 have hcv : IntKind.i64.wrap more = more := IntWalk.i64_in _ (by have := HBD.out; omega)
 have HFB := hid (filled_any t _ _ _ (bd + more) (fun _ => True) ps _ W4 (TA.out.below B5.out) (HTT.out.below B5.out) (HL.out.below B5.out) HSM.out (fun _ _ => trivial))
 clear t0 t1 t2 t3 t4 t5 tl hb4 HFA hb5
 have t0 := T5.out.cell (j := 0) rfl
 have t1 := T5.out.cell (j := 1) rfl
 have t2 := T5.out.cell (j := 2) rfl
 have t3 := T5.out.cell (j := 3) rfl
 have t4 := T5.out.cell (j := 4) rfl
 have t5 := T5.out.cell (j := 5) rfl
 have tl := T5.out.lt
 rcases hx with ⟨-, rfl⟩ | ⟨hok, px, eb, cb, P, rfl, he, hc, hP, hix⟩
 ·go_wp2_with fail
  refine (HFB.out).mono ?_
  rintro e W5 ⟨hb5, hy⟩
  have B6 := hid (Below.step B5.out hb5)
  clear t0 t1 t2 t3 t4 t5 tl hb5 HFB
  rcases hy with ⟨-, rfl⟩ | ⟨-, py, eb2, cb2, P2, rfl, -⟩
  all_goals (go_wp2_with fail)
  all_goals go_ret
  all_goals exact ⟨rfl, B6.out⟩
 have HIX := hid hix
 have HEC := hid (And.intro he hc)
 have HP := hid hP
 have HVT := hid (show Rw.valid t = true by unfold newOk at hok; simp only [Bool.and_eq_true] at hok; exact hok.1.1)
 clear he hc hP hix hok
 go_wp2_with fail
 refine (HFB.out).mono ?_
 rintro e W5 ⟨hb5, hy⟩
 have B6 := hid (Below.step B5.out hb5)
 have N6 := hid (N5.out.below hb5)
 have HI5 := hid (HIX.out.below hb5)
 clear t0 t1 t2 t3 t4 t5 tl HFB
 rcases hy with ⟨-, rfl⟩ | ⟨-, py, eb2, cb2, P2, rfl, he2, hc2, hP2, hiy⟩
 ·clear hb5
  go_wp2_with fail
  go_ret
  exact ⟨rfl, B6.out⟩
 have HJ5 := hid hiy
 have HAP := hid (show eb2 ≠ cb ∧ cb2 ≠ cb by
  obtain ⟨o, e1, -⟩ := HIX.out.map
  have := (Array.getElem?_eq_some_iff.1 e1).1
  omega)
 have HEC2 := hid (show W.heap.size ≤ cb2 by have := B5.out.size; omega)
 have HSO := hid (sort_same (P := P2) (P' := P) HJ5.out.ix.ok HIX.out.ix.ok (fun e => by rw [hP2, HP.out]))
 clear hb5 he2 hc2 hP2 hiy hwr hcv
 have n0 := N6.out.cell (j := 0) rfl
 have n1 := N6.out.cell (j := 1) rfl
 have nl := N6.out.lt
 have hw6 : ∀ s ∈ n.words, s.length ≤ 1000000 := fun s hs => by have := HNS.out.2 s hs; omega
 cases hok : Li.nmOk n with
 | false =>
  have HFI := hid (ixFind_bad px eb cb t _ _ _ bd (fun _ => True) P 0 n _ W5 HI5.out (HN.out.below B6.out) hok hw6)
  have HOK := hid hok
  clear hok hw6
  go_wp2_with fail
  refine (HFI.out).mono ?_
  rintro e W6 ⟨rfl, hb6⟩
  have B7 := hid (Below.step B6.out hb6)
  have N7 := hid (N6.out.below hb6)
  have HFJ := hid (ixFind_bad py eb2 cb2 t _ _ _ (bd + more) (fun _ => True) P2 0 n _ W6 (HJ5.out.below hb6) (HN.out.below B7.out) HOK.out (fun s hs => by have := HNS.out.2 s hs; omega))
  clear n0 n1 nl hb6 HFI
  have n0 := N7.out.cell (j := 0) rfl
  have n1 := N7.out.cell (j := 1) rfl
  have nl := N7.out.lt
  go_wp2_with fail
  refine (HFJ.out).mono ?_
  rintro e W7 ⟨rfl, hb7⟩
  have B8 := hid (Below.step B7.out hb7)
  clear n0 n1 nl hb7 HFJ
  go_wp2_with fail
  go_loopw [20, 21] (fun cv kv wr => cv = .slice none 0 0 ∧ kv = .int .i64 0 ∧ Hid (Below W.heap.size W wr)) (fun _ _ _ => 0)
  case atStart => exact ⟨rfl, rfl, B8.out⟩
  case round =>
   obtain ⟨rfl, rfl, HB⟩ := hrel
   rename World => wr
   have HHE := hid (show Calls Tryz.prog 20 #[.slice none 0 0, .slice none 0 0] wr (Gives (.bool true) wr) from by
    have := hitsE_any [] [] _ _ wr (SlOf.nil wr 3 hitC) (SlOf.nil wr 3 hitC)
    rw [decide_eq_true rfl] at this
    exact this)
   go_wp2_with fail
   refine (HHE.out).mono ?_
   rintro e W8 ⟨rfl, hb8⟩
   have B9 := hid (Below.step HB.out hb8)
   clear hb8 HHE
   go_wp2_with fail
   go_ret
   exact ⟨rfl, B9.out⟩
 | true =>
  have HFI := hid (find_any px eb cb t _ _ _ bd (fun _ => True) P 0 n _ W5 HI5.out (HN.out.below B6.out) hok (by omega) (Rw.valid_order HVT.out))
  have HOK := hid hok
  clear hok hw6
  go_wp2_with fail
  refine (HFI.out).mono ?_
  rintro e W6 ⟨hb6, va, rfl, ho, nc1, -, -⟩
  obtain ⟨om, hom, hoc⟩ := HI5.out.map
  have HJ6 := hid (HJ5.out.apart hb6 hom hoc HAP.out.1 HAP.out.2)
  have N7 := hid (blk_but N6.out hb6 hom hoc)
  have B7 := hid (B6.out.trans (hb6.below B6.out.size (Nat.le_trans B4.out.size HEC.out.2)))
  obtain ⟨A, hA⟩ : ∃ A, A = Idx.hits (Mt.dist t n) bd ((Idx.sortE P).map Prod.fst) := ⟨_, rfl⟩
  rw [← hA] at ho
  have HA := hid hA
  have HAS := hid (SlOf.own (sz := 3) (cells := hitC) ho (fun _ _ => rfl))
  obtain ⟨aa, ca, hva, -⟩ := HAS.out
  subst hva
  have HFJ := hid (find_any py eb2 cb2 t _ _ _ (bd + more) (fun _ => True) P2 0 n _ W6 HJ6.out (HN.out.below B7.out) HOK.out (by omega) (Rw.valid_order HVT.out))
  clear n0 n1 nl hb6 ho hom hoc hA HFI
  have n0 := N7.out.cell (j := 0) rfl
  have n1 := N7.out.cell (j := 1) rfl
  have nl := N7.out.lt
  go_wp2_with fail
  refine (HFJ.out).mono ?_
  rintro e W7 ⟨hb7, vb, rfl, ho, nc2, -, -⟩
  obtain ⟨om, hom, hoc⟩ := HJ6.out.map
  have HAS7 := hid (HAS.out.but hb7 hom hoc)
  have B8 := hid (B7.out.trans (hb7.below B7.out.size HEC2.out))
  rw [HSO.out] at ho
  obtain ⟨B, hB⟩ : ∃ B, B = Idx.hits (Mt.dist t n) (bd + more) ((Idx.sortE P).map Prod.fst) := ⟨_, rfl⟩
  rw [← hB] at ho
  have HBL := hid (show B.filter (fun y => decide (y.cost ≤ bd)) = A by rw [hB, HA.out]; exact Idx.law_bounds (by have := HBD.out; omega) _)
  have hlen : B.length ≤ 3200 := by
   have h1 := Idx.hits_len (Mt.dist t n) (bd + more) (m := 8) ((Idx.sortE P).map Prod.fst) (fun e he => by
    obtain ⟨p, hp, rfl⟩ := List.mem_map.1 he
    exact (Li.proper_few (HIX.out.ix.ok.prop p.1 (List.mem_map_of_mem (Idx.sortE_mem.1 hp)))).1)
   have h2 := HIX.out.ix.ok.few
   rw [List.length_map] at h2
   rw [← hB, List.length_map, Idx.sortE_len] at h1
   omega
  have HBS := hid (SlOf.own (sz := 3) (cells := hitC) ho (fun _ _ => rfl))
  obtain ⟨ab, cbp, hvb, -⟩ := HBS.out
  subst hvb
  clear n0 n1 nl hb7 ho hom hoc hB HFJ
  go_wp2_with fail
  go_loopw [20, 21] (fun cv kv wr => ∃ k : Nat, k ≤ B.length ∧ kv = .int .i64 k ∧ (∃ a l c, cv = .slice a l c) ∧ Hid (wr.ownsRow W7.heap.size 56 3 cv ((B.take k).filter (fun y => decide (y.cost ≤ bd))).length (((B.take k).filter (fun y => decide (y.cost ≤ bd))).flatMap hitC)) ∧ Hid (Below W7.heap.size W7 wr)) (fun _ kv _ => B.length - (RowKit.intOf kv).toNat)
  case atStart => exact ⟨0, Nat.zero_le _, rfl, ⟨_, _, _, rfl⟩, World.ownsRow_nil _ _ _ _, Below.refl _ _⟩
  case round =>
   obtain ⟨k, hk, rfl, ⟨oa, ol, oc, rfl⟩, HRO, HR⟩ := hrel
   rename World => wr
   by_cases hlt : k < B.length
   ·obtain ⟨x, hx⟩ : ∃ x, B[k]? = some x := ⟨_, List.getElem?_eq_getElem hlt⟩
    obtain ⟨g, o, rfl, hr⟩ : ∃ g o, ab = some ⟨g, o, none⟩ ∧ RowOf wr g o 3 hitC B := by
     obtain ⟨a', c', e', -, -, hr⟩ := HBS.out.below HR.out
     simp only [Value.slice.injEq] at e'
     obtain ⟨rfl, -, rfl⟩ := e'
     exact hr (by omega)
    have s0 := hr.2 k x hx 0 _ rfl
    have s1 := hr.2 k x hx 1 _ rfl
    have s2 := hr.2 k x hx 2 _ rfl
    rw [Nat.add_zero] at s0
    have hg := hr.1
    have k0 : (0 : Int) ≤ (k : Int) := by omega
    have k1 : (k : Int) < (B.length : Int) := by omega
    have HTK := hid (filter_take (bd := bd) hx)
    have hFL : ((B.take k).filter (fun y => decide (y.cost ≤ bd))).length ≤ 3200 := by
     have h1 := List.length_filter_le (fun y : Idx.Hit => decide (y.cost ≤ bd)) (B.take k)
     rw [List.length_take] at h1
     omega
    clear hr hx
    by_cases hle : x.cost ≤ bd
    ·have HLE := hid hle
     obtain ⟨H, hH⟩ : ∃ H, H = (B.take k).filter (fun y => decide (y.cost ≤ bd)) := ⟨_, rfl⟩
     have HH := hid hH
     rw [← hH] at hFL HRO
     have HROX := hid (HRO.out.alloc (.cells #[.string (bs x.id), .int .i64 x.alias_, .int .i64 x.cost] 56))
     have HOB := hid HR.out.size
     have HBX := hid (HR.out.alloc HR.out.size (.cells #[.string (bs x.id), .int .i64 x.alias_, .int .i64 x.cost] 56))
     clear hH
     go_wp2_with (at_builtin; refine wpList_append_own _ rfl _ _ 42 rfl W7.heap.size 56 i0 (.agg #[.string ⟨#[]⟩, .int .i64 0, .int .i64 0]) 3 32 Tryz.underlying42 hi0 hz0 hz1 hz2 rfl (by decide) _ _ _ rfl HROX.out ⟨wr.heap.size, 0, none⟩ 1 1 [.string (bs x.id), .int .i64 x.alias_, .int .i64 x.cost] rfl rfl (cells_new rfl) (by simp [Value.oneCell']) (by unfold maxLen; omega) (by omega) (by have := HOB.out; simp; omega) ?_; intro v' w9 ho9 hg9 _; have HB9 := hid (Below.appended HBX.out hg9 (by have := HOB.out; simp; omega) HROX.out); have HO9 := hid ho9; obtain ⟨va, vc, hv9⟩ := ownsRow_slice ho9; clear ho9 hg9; subst hv9)
     go_roundw
     case rel =>
      refine ⟨k + 1, by omega, by go_num, ⟨_, _, _, rfl⟩, hid ?_, HB9⟩
      rw [HTK.out, if_pos HLE.out, ← HH.out, List.flatMap_append, List.length_append]
      exact HO9.out
     case measure => simp [RowKit.intOf]; omega
    ·have HLE := hid hle
     go_wp2_with fail
     go_roundw
     case rel =>
      refine ⟨k + 1, by omega, by go_num, ⟨_, _, _, rfl⟩, hid ?_, HR.out⟩
      rw [HTK.out, if_neg (by have := HLE.out; omega), List.append_nil]
      exact HRO.out
     case measure => simp [RowKit.intOf]; omega
   ·have hke : k = B.length := by omega
    have hkl : ¬ (k : Int) < (B.length : Int) := by omega
    have HRE := HRO.out
    rw [hke, List.take_length, HBL.out] at HRE
    have HCS := hid (SlOf.own (sz := 3) (cells := hitC) HRE (fun _ _ => rfl))
    have HHE := hid (show Calls Tryz.prog 20 #[.slice aa A.length ca, .slice oa ol oc] wr (Gives (.bool true) wr) from by
     have := hitsE_any A A _ _ wr (HAS7.out.below HR.out) HCS.out
     rw [decide_eq_true rfl] at this
     exact this)
    have BR := hid (Below.step B8.out HR.out)
    clear hke HRE
    go_wp2_with fail
    refine (HHE.out).mono ?_
    rintro e W8 ⟨rfl, hb8⟩
    have B9 := hid (Below.step BR.out hb8)
    clear hb8 HHE
    go_wp2_with fail
    go_ret
    exact ⟨rfl, B9.out⟩

end Go.Proofs.YtdghfenbfbdijaaGreatDoor
