/-
 IndexDrops: an entry that is put and then removed leaves the index as it was. Conditions: the arguments lie in memory and are of sizes that a machine holds; the library's tables.
-/
import Derived.Test.YtdghfenbfbdijaaGreatDoorZIy7
namespace Go.Proofs.YtdghfenbfbdijaaGreatDoor
open Go.RowKit Go.Lib Go.Maps

theorem NmSl.but {W W' : World} {m : Nat} {om : Obj} {v : Value} {ns : List Li.Nm} (h : NmSl W v ns) (hb : But W.heap.size m W W') (hm : W.heap[m]? = some om) (hmc : om.isCells = false) : NmSl W' v ns := by
 obtain ⟨l, h1, h2, h3⟩ := h
 exact ⟨l, h1, h2.but hb hm hmc, fun p hp => SlOf.but (h3 p hp) hb hm hmc⟩
theorem EnsRaw.but {W W' : World} {m : Nat} {om : Obj} {v : Value} {ps : List (Li.En × Value)} (h : EnsRaw W v ps) (hb : But W.heap.size m W W') (hm : W.heap[m]? = some om) (hmc : om.isCells = false) : EnsRaw W' v ps :=
 ⟨h.sl.but hb hm hmc, fun p hp => (h.nm p hp).but hb hm hmc⟩
theorem ens_one {W : World} {v : Value} {ps : List (Li.En × Value)} (h : EnsRaw W v ps) : ∀ u ∈ ps.flatMap enC, u.oneCell' = true := by
 intro u hu
 obtain ⟨p, hp, hx⟩ := List.mem_flatMap.1 hu
 obtain ⟨l, -, ⟨a, c, e, -⟩, -⟩ := h.nm p hp
 simp [enC] at hx
 rcases hx with rfl | rfl
 ·rfl
 ·rw [e]; rfl
/-- the entries have changed -/
theorem IxT.ents {W W' : World} {px eb cb : Nat} {t : Rw.Table} {vr vd ve : Value} {b : Int} {Q : Nat → Prop} {P P' : List (Li.En × Value)} {nc : Nat} (h : IxT W px eb cb t vr vd ve b Q P nc) (hb : But W.heap.size eb W W') (hi : IxAt W' px eb cb t [vr, vd, ve, .int .i64 t.drop, .int .i64 t.order, .int .i64 t.initial] b Q P' nc) : IxT W' px eb cb t vr vd ve b Q P' nc := by
 obtain ⟨o, e1, e2⟩ := h.ix.ents.no_cells
 exact ⟨hi, tableAt_but h.tb hb e1 e2, tabs_but h.tabs hb e1 e2⟩

theorem put_no {S : List Li.En} {e : Li.En} (h : ¬ (Idx.put S e).2 = 0) : (Idx.put S e).1 = S := by
 unfold Idx.put at h ⊢
 split
 ·rfl
 ·split
  ·rfl
  ·split
   ·rfl
   ·rename_i h1 h2 h3
    rw [if_neg h1, if_neg h2, if_neg h3] at h
    exact absurd rfl h

set_option maxRecDepth 100000 in
set_option maxHeartbeats 16000000 in
theorem drops_law (t : Rw.Table) (tv : Value) (bd : Int) (ps : List (Li.En × Value)) (vl : Value) (fid : List UInt8) (fns : List Li.Nm) (fv : Value) (n : Li.Nm) (nv : Value) (W : World) (ht : TableRaw W t tv) (hl : EnsRaw W vl ps) (hf : NmSl W fv fns) (hn : SlOf W nv 1 strC n.words)
  (hz : ∀ e ∈ ps.map Prod.fst, ∀ m ∈ e.names, m.words.length ≤ 8796093022208) (hzl : ps.length * 40 ≤ 140737488351232) (hzf : ∀ m ∈ fns, m.words.length ≤ 8796093022208) (hzn : n.words.length ≤ 8796093022208) (hT : Tabs W) :
  Calls Tryz.prog 5 #[tv, .int .i64 bd, vl, .agg #[.string (bs fid), fv], .agg #[.int .i64 n.script, nv]] W (Gives (.bool true) W) := by
 have HT := hid ht
 have HTT := hid hT
 have HL := hid hl
 have HF := hid hf
 have HN := hid hn
 have HZ := hid (And.intro hz (And.intro hzf hzn))
 have HZL := hid hzl
 obtain ⟨i0, hi0, hz0, hz1, hz2⟩ := info_parts Tryz.infoEntry
 obtain ⟨⟨vr, vd, ve, rfl, ⟨ar, cr, rfl, -⟩, ⟨ad, cd, rfl, -⟩, ⟨ae, ce, rfl, -⟩⟩, -, -, -⟩ := ht
 obtain ⟨la, lc, rfl, k1, k2, -⟩ := hl.sl
 obtain ⟨fl, hfl, ⟨fa, fc, rfl, -⟩, -⟩ := hf
 have hfe : fl.length = fns.length := by rw [← hfl, List.length_map]
 rw [hfe] at HF ⊢
 obtain ⟨na, nc, rfl, -⟩ := hn
 have hpl : ps.length ≤ 3518437208780 := by omega
 clear hT hl hz hzf hzn hzl hfl hfe k1 k2
 obtain ⟨Wa, hWa⟩ : ∃ X, X = W.alloc (.cells #[.slice ar t.rules.length cr, .slice ad t.drops.length cd, .slice ae t.ends.length ce, .int .i64 t.drop, .int .i64 t.order, .int .i64 t.initial] 25) := ⟨_, rfl⟩
 obtain ⟨Wb, hWb⟩ : ∃ X, X = Wa.alloc (.cells #[.string (bs fid), .slice fa fns.length fc] 40) := ⟨_, rfl⟩
 obtain ⟨W1, hW1⟩ : ∃ X, X = Wb.alloc (.cells #[.int .i64 n.script, .slice na n.words.length nc] 46) := ⟨_, rfl⟩
 have sa : Wa.heap.size = W.heap.size + 1 := by rw [hWa, World.size_alloc]
 have sb : Wb.heap.size = W.heap.size + 2 := by rw [hWb, World.size_alloc, sa]
 have ba : Below W.heap.size W Wa := by rw [hWa]; exact (Below.refl _ _).alloc (Nat.le_refl _) _
 have bb : Below Wa.heap.size Wa Wb := by rw [hWb]; exact (Below.refl _ _).alloc (Nat.le_refl _) _
 have bc : Below Wb.heap.size Wb W1 := by rw [hW1]; exact (Below.refl _ _).alloc (Nat.le_refl _) _
 have T1 := hid (show Blk W1 W.heap.size 25 [.slice ar t.rules.length cr, .slice ad t.drops.length cd, .slice ae t.ends.length ce, .int .i64 t.drop, .int .i64 t.order, .int .i64 t.initial] by
  have : Blk Wa W.heap.size 25 [.slice ar t.rules.length cr, .slice ad t.drops.length cd, .slice ae t.ends.length ce, .int .i64 t.drop, .int .i64 t.order, .int .i64 t.initial] := by rw [hWa]; exact Blk.new W _ _
  exact (this.below bb).below bc)
 have F1 := hid (show Blk W1 (W.heap.size + 1) 40 [.string (bs fid), .slice fa fns.length fc] by
  have : Blk Wb (W.heap.size + 1) 40 [.string (bs fid), .slice fa fns.length fc] := by rw [hWb, ← sa]; exact Blk.new Wa _ _
  exact this.below bc)
 have N1 := hid (show Blk W1 (W.heap.size + 2) 46 [.int .i64 n.script, .slice na n.words.length nc] by rw [hW1, ← sb]; exact Blk.new Wb _ _)
 have B1 := hid (Below.step (Below.step ba bb) bc)
 rw [hWb, hWa] at hW1
 have HH := hid (head_true W1 (HTT.out.below B1.out))
 clear ba bb bc sa sb hWa hWb
 go_enter Tryz.func5, Tryz.ntmps5
 go_upto_region 1 with (fail)
 try simp only [Nat.add_assoc, Nat.reduceAdd]
 rw [← hW1]
 clear hW1
 go_wp2_with fail
 refine (HH.out).mono ?_
 rintro e W2 ⟨rfl, hb2⟩
 have B2 := hid (Below.step B1.out hb2)
 have T2 := hid (T1.out.below hb2)
 have F2 := hid (F1.out.below hb2)
 have N2 := hid (N1.out.below hb2)
 clear hb2 HH
 have t0 := T2.out.cell (j := 0) rfl
 have t1 := T2.out.cell (j := 1) rfl
 have t2 := T2.out.cell (j := 2) rfl
 have t3 := T2.out.cell (j := 3) rfl
 have t4 := T2.out.cell (j := 4) rfl
 have t5 := T2.out.cell (j := 5) rfl
 have tl := T2.out.lt
 have f0 := F2.out.cell (j := 0) rfl
 have f1 := F2.out.cell (j := 1) rfl
 have fl' := F2.out.lt
 have n0 := N2.out.cell (j := 0) rfl
 have n1 := N2.out.cell (j := 1) rfl
 have nl := N2.out.lt
 have HSM : Hid (∀ (X : World) (v : Value) (g : Nat), Below W2.heap.size W2 X → X.ownsRow W2.heap.size 40 2 v (1 + ps.length) ([.string (bs fid), .slice fa fns.length fc] ++ ps.flatMap enC) → Blk X g 46 [.int .i64 n.script, .slice na n.words.length nc] →
   Calls Tryz.prog 11 #[.agg #[.slice ar t.rules.length cr, .slice ad t.drops.length cd, .slice ae t.ends.length ce, .int .i64 t.drop, .int .i64 t.order, .int .i64 t.initial], v, .slice none 0 0, .slice (some ⟨g, 0, none⟩) 1 1] X (Gives (.bool (smallZ t (⟨fid, fns⟩ :: ps.map Prod.fst) 0 [n])) X)) := hid fun X v g hX ho k => by
  have hbw := Below.step B2.out hX
  have hs : SlOf X v 2 enC ((⟨fid, fns⟩, .slice fa fns.length fc) :: ps) := SlOf.own (e := 40) (B := W2.heap.size) (by
   rw [show ((⟨fid, fns⟩, .slice fa fns.length fc) :: ps).length = 1 + ps.length by rw [List.length_cons]; omega]
   exact ho) (fun _ _ => rfl)
  exact small_any t _ ((⟨fid, fns⟩, .slice fa fns.length fc) :: ps) v none 0 0 [n] _ X (HT.out.below hbw) ⟨hs, fun p hp => by
   rcases List.mem_cons.1 hp with rfl | hp
   ·exact HF.out.below hbw
   ·exact (HL.out.nm p hp).below hbw⟩ ⟨[(n, .slice na n.words.length nc)], rfl, SlOf.block k rfl (fun _ _ => rfl) rfl (by decide), fun p hp => by rw [List.mem_singleton.1 hp]; exact HN.out.below hbw⟩ (by decide)
 obtain ⟨sm, hsm⟩ : ∃ sm, sm = smallZ t (⟨fid, fns⟩ :: ps.map Prod.fst) 0 [n] := ⟨_, rfl⟩
 rw [← hsm] at HSM
 have HSZ := hid hsm
 clear hsm
 go_upto_region 2 with (fail)
 go_cut [33] from 25 (fun v33 wx => v33 = .bool (!sm) ∧ Below W2.heap.size W2 wx)
 case first =>
  refine wp_heldS (S := StillAt W2) (by kernel_rfl) ?_
  simp only [List.size_toArray, List.length_cons, List.length_nil, Nat.reduceAdd]
  intro hc
  have S0 : StillAt W2 (Array.replicate 9 false) W2.drew := (Below.refl _ _).drew
  obtain ⟨D2, hD2⟩ : ∃ D2, D2 = W2.drew := ⟨_, rfl⟩
  rw [← hD2] at S0 ⊢
  have BD : Below W2.heap.size W2 D2 := by rw [hD2]; exact (Below.refl _ _).drew
  clear hD2
  refine wpAnyS_take (i := 0) (v := .agg #[.slice ar t.rules.length cr, .slice ad t.drops.length cd, .slice ae t.ends.length ce, .int .i64 t.drop, .int .i64 t.order, .int .i64 t.initial]) rfl (by kernel_rfl) (by kernel_rfl) (by kernel_rfl) (fun _ _ _ h => h) (fun _ _ => Iff.rfl) hc (by first | rfl | simp [Region.wanted]) (fun wx hx => ?_) S0 (fun hc S0 => ?_)
  ·have g0 := (hx.still.cell (p := ⟨W.heap.size, 0, none⟩) tl).trans t0; have g1 := (hx.still.cell (p := ⟨W.heap.size, 1, none⟩) tl).trans t1; have g2 := (hx.still.cell (p := ⟨W.heap.size, 2, none⟩) tl).trans t2; have g3 := (hx.still.cell (p := ⟨W.heap.size, 3, none⟩) tl).trans t3; have g4 := (hx.still.cell (p := ⟨W.heap.size, 4, none⟩) tl).trans t4; have g5 := (hx.still.cell (p := ⟨W.heap.size, 5, none⟩) tl).trans t5
   go_simp
  try simp only [tk1, tk3, Act.put, tk4, tk5, tk6]
  refine wpAnyS_take (i := 1) (v := .agg #[.string (bs fid), .slice fa fns.length fc]) rfl (by kernel_rfl) (by kernel_rfl) (by kernel_rfl) (fun _ _ _ h => h) (fun _ _ => Iff.rfl) hc (by first | rfl | simp [Region.wanted]) (fun wx hx => ?_) S0 (fun hc S0 => ?_)
  ·have g0 := (hx.still.cell (p := ⟨W.heap.size + 1, 0, none⟩) fl').trans f0; have g1 := (hx.still.cell (p := ⟨W.heap.size + 1, 1, none⟩) fl').trans f1
   go_simp
  try simp only [tk1, tk2, tk3, Act.put, tk4, tk5, tk6]
  refine wpAnyS_take (i := 3) (v := .slice la ps.length lc) rfl (by kernel_rfl) (by kernel_rfl) (by kernel_rfl) (fun _ _ _ h => h) (fun _ _ => Iff.rfl) hc (by first | rfl | simp [Region.wanted]) (fun wx hx => ?_) S0 (fun hc S0 => ?_)
  ·go_simp
  try simp only [tk1, tk2, tk3, Act.put, tk4, tk5, tk6]
  refine wpAnyS_take (i := 5) (v := .agg #[.int .i64 n.script, .slice na n.words.length nc]) rfl (by kernel_rfl) (by kernel_rfl) (by kernel_rfl) (fun _ _ _ h => h) (fun _ _ => Iff.rfl) hc (by first | rfl | simp [Region.wanted]) (fun wx hx => ?_) S0 (fun hc S0 => ?_)
  ·have g0 := (hx.still.cell (p := ⟨W.heap.size + 2, 0, none⟩) nl).trans n0; have g1 := (hx.still.cell (p := ⟨W.heap.size + 2, 1, none⟩) nl).trans n1
   go_simp
  try simp only [tk1, tk2, tk3, Act.put, tk4, tk5, tk6]
  clear t0 t1 t2 t3 t4 t5 tl f0 f1 fl' n0 n1 nl
  refine wpAnyS_two (i := 2) (k := 6) rfl rfl (by kernel_rfl) (by rfl) (by rfl) hc (fun K' hK => ?A1) (fun K' hK => ?B1)

  case' A1 =>
   go_simp
   obtain ⟨X1, hX1⟩ : ∃ X, X = D2.alloc (.cells #[.string (bs fid), .slice fa fns.length fc] 40) := ⟨_, rfl⟩
   have oX1 : X1.ownsRow W2.heap.size 40 2 (.slice (some ⟨D2.heap.size, 0, none⟩) 1 1) 1 [.string (bs fid), .slice fa fns.length fc] := by rw [hX1]; exact ⟨rfl, .inr ⟨D2.heap.size, 1, #[.string (bs fid), .slice fa fns.length fc], rfl, (BD).size, heap_alloc_new D2 _, Nat.le_refl _, (by unfold maxLen; omega), rfl, rfl⟩⟩
   rw [← hX1]
   have bX1 : Below D2.heap.size D2 X1 := by rw [hX1]; exact (Below.refl _ _).alloc (Nat.le_refl _) _
   have BX1 := Below.step BD bX1
   clear hX1
   refine hK.out _ _ BX1 (fun hc => ?_)
   clear hK K'
   have S0 : StillAt W2 #[] X1 := BX1
   try simp only [tk1, tk2, tk3, Act.put, tk4, tk5, tk6]
   refine wpAnyS_two (i := 4) (k := 6) rfl rfl (by kernel_rfl) (by rfl) (by rfl) hc (fun K' hK => ?A2) (fun K' hK => ?B2)
   case' A2 =>
    refine wp_append_list _ _ 26 rfl W2.heap.size 40 i0 _ _ Tryz.underlying26 hi0 hz0 hz1 rfl rfl (by decide) _ _ _ rfl oX1 _ rfl (HL.out.sl.below (Below.step B2.out BX1)) (fun _ => rfl) (ens_one HL.out) (by unfold maxLen; omega) (by rw [hz2]; omega) (BX1).size ?_
    intro v9 w9 ho9 hg9 _
    have B9 : Below W2.heap.size W2 w9 := Below.appended BX1 hg9 (BX1).size oX1
    refine hK.out _ _ B9 (fun hc => ?_)
    clear hK K'
    have S0 : StillAt W2 #[] w9 := B9
    try simp only [tk1, tk2, tk3, Act.put, tk4, tk5, tk6]
    refine wpAnyS_one (i := 6) rfl (by kernel_rfl) (by rfl) hc (fun K' hK => ?_)
    go_simp
    obtain ⟨X2, hX2⟩ : ∃ X, X = w9.alloc (.cells #[.int .i64 n.script, .slice na n.words.length nc] 46) := ⟨_, rfl⟩
    rw [← hX2]
    have bX2 : Below w9.heap.size w9 X2 := by rw [hX2]; exact (Below.refl _ _).alloc (Nat.le_refl _) _
    have kX2 : Blk X2 w9.heap.size 46 [.int .i64 n.script, .slice na n.words.length nc] := by rw [hX2]; exact Blk.new _ _ _
    have BX2 := Below.step B9 bX2
    clear hX2
    refine hK.out _ _ BX2 (fun hc => ?_)
    clear hK K'
    have S0 : StillAt W2 #[] X2 := BX2
    try simp only [tk1, tk2, tk3, Act.put, tk4, tk5, tk6]
    refine wpAnyS_one (i := 7) rfl (by kernel_rfl) (by rfl) hc (fun K' hK => ?_)
    go_simp
    refine (HSM.out X2 _ _ BX2 (ownsRow_below ho9 bX2) kX2).mono ?_
    rintro e8 w8 ⟨rfl, hb8⟩
    have B8 := Below.step BX2 hb8
    refine hK.out _ _ B8 (fun hc => ?_)
    clear hK K'
    have S0 : StillAt W2 #[] w8 := B8
    try simp only [tk1, tk2, tk3, Act.put, tk4, tk5, tk6]
    refine wpAnyS_take (i := 8) (v := .bool (!sm)) rfl (by kernel_rfl) (by kernel_rfl) (by kernel_rfl) (fun _ _ _ h => h) (fun _ _ => Iff.rfl) hc (by first | rfl | simp [Region.wanted]) (fun wx hx => ?_) S0 (fun hc S0 => ?_)
    ·go_simp
    try simp only [tk1, tk2, tk3, Act.put, tk4, tk5, tk6]
    refine wpAnyS_done (by kernel_rfl) ?_ _
    clear hc S0
    go_wp2_with fail
    go_meet
    case rel => exact ⟨rfl, B8⟩
   case' B2 =>
    go_simp
    obtain ⟨X2, hX2⟩ : ∃ X, X = X1.alloc (.cells #[.int .i64 n.script, .slice na n.words.length nc] 46) := ⟨_, rfl⟩
    rw [← hX2]
    have bX2 : Below X1.heap.size X1 X2 := by rw [hX2]; exact (Below.refl _ _).alloc (Nat.le_refl _) _
    have kX2 : Blk X2 X1.heap.size 46 [.int .i64 n.script, .slice na n.words.length nc] := by rw [hX2]; exact Blk.new _ _ _
    have BX2 := Below.step BX1 bX2
    clear hX2
    refine hK.out _ _ BX2 (fun hc => ?_)
    clear hK K'
    have S0 : StillAt W2 #[] X2 := BX2
    try simp only [tk1, tk2, tk3, Act.put, tk4, tk5, tk6]
    refine wpAnyS_one (i := 4) rfl (by kernel_rfl) (by rfl) hc (fun K' hK => ?_)
    refine wp_append_list _ _ 26 rfl W2.heap.size 40 i0 _ _ Tryz.underlying26 hi0 hz0 hz1 rfl rfl (by decide) _ _ _ rfl (ownsRow_below oX1 bX2) _ rfl (HL.out.sl.below (Below.step B2.out BX2)) (fun _ => rfl) (ens_one HL.out) (by unfold maxLen; omega) (by rw [hz2]; omega) (BX2).size ?_
    intro v9 w9 ho9 hg9 _
    have B9 : Below W2.heap.size W2 w9 := Below.appended BX2 hg9 (BX2).size (ownsRow_below oX1 bX2)
    refine hK.out _ _ B9 (fun hc => ?_)
    clear hK K'
    have S0 : StillAt W2 #[] w9 := B9
    try simp only [tk1, tk2, tk3, Act.put, tk4, tk5, tk6]
    refine wpAnyS_one (i := 7) rfl (by kernel_rfl) (by rfl) hc (fun K' hK => ?_)
    go_simp
    refine (HSM.out w9 _ _ B9 ho9 (blk_other kX2 (ownsRow_below oX1 bX2) hg9 (by decide))).mono ?_
    rintro e8 w8 ⟨rfl, hb8⟩
    have B8 := Below.step B9 hb8
    refine hK.out _ _ B8 (fun hc => ?_)
    clear hK K'
    have S0 : StillAt W2 #[] w8 := B8
    try simp only [tk1, tk2, tk3, Act.put, tk4, tk5, tk6]
    refine wpAnyS_take (i := 8) (v := .bool (!sm)) rfl (by kernel_rfl) (by kernel_rfl) (by kernel_rfl) (fun _ _ _ h => h) (fun _ _ => Iff.rfl) hc (by first | rfl | simp [Region.wanted]) (fun wx hx => ?_) S0 (fun hc S0 => ?_)
    ·go_simp
    try simp only [tk1, tk2, tk3, Act.put, tk4, tk5, tk6]
    refine wpAnyS_done (by kernel_rfl) ?_ _
    clear hc S0
    go_wp2_with fail
    go_meet
    case rel => exact ⟨rfl, B8⟩
  case' B1 =>
   go_simp
   obtain ⟨X1, hX1⟩ : ∃ X, X = D2.alloc (.cells #[.int .i64 n.script, .slice na n.words.length nc] 46) := ⟨_, rfl⟩
   rw [← hX1]
   have bX1 : Below D2.heap.size D2 X1 := by rw [hX1]; exact (Below.refl _ _).alloc (Nat.le_refl _) _
   have kX1 : Blk X1 D2.heap.size 46 [.int .i64 n.script, .slice na n.words.length nc] := by rw [hX1]; exact Blk.new _ _ _
   have BX1 := Below.step BD bX1
   clear hX1
   refine hK.out _ _ BX1 (fun hc => ?_)
   clear hK K'
   have S0 : StillAt W2 #[] X1 := BX1
   try simp only [tk1, tk2, tk3, Act.put, tk4, tk5, tk6]
   refine wpAnyS_one (i := 2) rfl (by kernel_rfl) (by rfl) hc (fun K' hK => ?_)
   go_simp
   obtain ⟨X2, hX2⟩ : ∃ X, X = X1.alloc (.cells #[.string (bs fid), .slice fa fns.length fc] 40) := ⟨_, rfl⟩
   have oX2 : X2.ownsRow W2.heap.size 40 2 (.slice (some ⟨X1.heap.size, 0, none⟩) 1 1) 1 [.string (bs fid), .slice fa fns.length fc] := by rw [hX2]; exact ⟨rfl, .inr ⟨X1.heap.size, 1, #[.string (bs fid), .slice fa fns.length fc], rfl, (BX1).size, heap_alloc_new X1 _, Nat.le_refl _, (by unfold maxLen; omega), rfl, rfl⟩⟩
   rw [← hX2]
   have bX2 : Below X1.heap.size X1 X2 := by rw [hX2]; exact (Below.refl _ _).alloc (Nat.le_refl _) _
   have BX2 := Below.step BX1 bX2
   clear hX2
   refine hK.out _ _ BX2 (fun hc => ?_)
   clear hK K'
   have S0 : StillAt W2 #[] X2 := BX2
   try simp only [tk1, tk2, tk3, Act.put, tk4, tk5, tk6]
   refine wpAnyS_one (i := 4) rfl (by kernel_rfl) (by rfl) hc (fun K' hK => ?_)
   refine wp_append_list _ _ 26 rfl W2.heap.size 40 i0 _ _ Tryz.underlying26 hi0 hz0 hz1 rfl rfl (by decide) _ _ _ rfl oX2 _ rfl (HL.out.sl.below (Below.step B2.out BX2)) (fun _ => rfl) (ens_one HL.out) (by unfold maxLen; omega) (by rw [hz2]; omega) (BX2).size ?_
   intro v9 w9 ho9 hg9 _
   have B9 : Below W2.heap.size W2 w9 := Below.appended BX2 hg9 (BX2).size oX2
   refine hK.out _ _ B9 (fun hc => ?_)
   clear hK K'
   have S0 : StillAt W2 #[] w9 := B9
   try simp only [tk1, tk2, tk3, Act.put, tk4, tk5, tk6]
   refine wpAnyS_one (i := 7) rfl (by kernel_rfl) (by rfl) hc (fun K' hK => ?_)
   go_simp
   refine (HSM.out w9 _ _ B9 ho9 (blk_other (kX1.below bX2) oX2 hg9 (by decide))).mono ?_
   rintro e8 w8 ⟨rfl, hb8⟩
   have B8 := Below.step B9 hb8
   refine hK.out _ _ B8 (fun hc => ?_)
   clear hK K'
   have S0 : StillAt W2 #[] w8 := B8
   try simp only [tk1, tk2, tk3, Act.put, tk4, tk5, tk6]
   refine wpAnyS_take (i := 8) (v := .bool (!sm)) rfl (by kernel_rfl) (by kernel_rfl) (by kernel_rfl) (fun _ _ _ h => h) (fun _ _ => Iff.rfl) hc (by first | rfl | simp [Region.wanted]) (fun wx hx => ?_) S0 (fun hc S0 => ?_)
   ·go_simp
   try simp only [tk1, tk2, tk3, Act.put, tk4, tk5, tk6]
   refine wpAnyS_done (by kernel_rfl) ?_ _
   clear hc S0
   go_wp2_with fail
   go_meet
   case rel => exact ⟨rfl, B8⟩

 case rest =>
 obtain ⟨rfl, hb3⟩ := hcut
 rename World => W3
 have B4 := hid (Below.step B2.out hb3)
 have T4 := hid (T2.out.below hb3)
 have F4 := hid (F2.out.below hb3)
 have N4 := hid (N2.out.below hb3)
 clear hb3 t0 t1 t2 t3 t4 t5 tl f0 f1 fl' n0 n1 nl HSM
 cases sm with
 | false =>
  go_wp2_with fail
  go_ret
  exact ⟨rfl, B4.out⟩
 | true =>
 have hs := HSZ.out.symm
 unfold smallZ at hs
 simp only [Bool.and_eq_true, decide_eq_true_eq] at hs
 have TA := hid (HT.out.few10 hs.1.1.1.1)
 have HSM := hid (Idx.few_small hs.1.1.1.2 (fun e he => by
  rcases List.mem_cons.1 he with rfl | he
  ·exact HZ.out.2.1
  ·exact HZ.out.1 e he))
 have HNS := hid (Idx.names_small hs.1.2 hs.2 (fun m hm => by rw [List.mem_singleton.1 hm]; exact HZ.out.2.2) n List.mem_cons_self)
 clear hs
 have HS1 := hid (show Idx.Small (ps.map Prod.fst) from ⟨by have := HSM.out.1; rw [List.length_cons] at this; omega, fun e he => HSM.out.2 e (List.mem_cons_of_mem _ he)⟩)
 have HFE := hid (HSM.out.2 ⟨fid, fns⟩ List.mem_cons_self)
 have HFA := hid (filled_any t _ _ _ bd (fun _ => True) ps _ W3 (TA.out.below B4.out) (HTT.out.below B4.out) (HL.out.below B4.out) HS1.out (fun _ _ => trivial))
 have t0 := T4.out.cell (j := 0) rfl
 have t1 := T4.out.cell (j := 1) rfl
 have t2 := T4.out.cell (j := 2) rfl
 have t3 := T4.out.cell (j := 3) rfl
 have t4 := T4.out.cell (j := 4) rfl
 have t5 := T4.out.cell (j := 5) rfl
 have tl := T4.out.lt
 go_wp2_with fail
 refine (HFA.out).mono ?_
 rintro e Y0 ⟨hb, hx⟩
 have HB_Y0 := hid (Below.step B4.out hb)
 have HF_Y0 := hid (F4.out.below hb)
 have HN_Y0 := hid (N4.out.below hb)
 clear t0 t1 t2 t3 t4 t5 tl hb HFA
 rcases hx with ⟨-, rfl⟩ | ⟨hok, px, eb, cb, P, rfl, he, hc, hP, hix⟩
 ·go_wp2_with fail
  go_ret
  exact ⟨rfl, HB_Y0.out⟩
 have HI_Y0 := hid hix
 have HEC := hid (show W.heap.size ≤ eb ∧ W.heap.size ≤ cb by have := B4.out.size; omega)
 have HVT := hid (Rw.valid_order (show Rw.valid t = true by unfold newOk at hok; simp only [Bool.and_eq_true] at hok; exact hok.1.1))
 have HW6 := hid (show ∀ s ∈ n.words, s.length ≤ 1000000 from fun s hs => by have := HNS.out.2 s hs; omega)
 have HFSH := hid (show ∀ m ∈ fns, shortN m from fun m hm s hs => by have := (HFE.out.2.2 m hm).2 s hs; omega)
 clear he hc hP hix hok

 have HNC_0 := hid (show (0 : Nat) ≤ 0 from Nat.le_refl _)
 obtain ⟨S, hS⟩ : ∃ S, S = P.map Prod.fst := ⟨_, rfl⟩
 have HS0 := hid hS
 obtain ⟨L0, hL0⟩ : ∃ L, L = (Idx.sortE P).map Prod.fst := ⟨_, rfl⟩
 have HL0 := hid hL0
 obtain ⟨A, hA⟩ : ∃ A, A = Idx.findZ t bd n L0 := ⟨_, rfl⟩
 have HA := hid hA
 clear hS hL0 hA
 have n0 := HN_Y0.out.cell (j := 0) rfl
 have n1 := HN_Y0.out.cell (j := 1) rfl
 have nl := HN_Y0.out.lt
 have HFI := hid (find_all px eb cb t _ _ _ bd (fun _ => True) P 0 n _ Y0 HI_Y0.out (HN.out.below HB_Y0.out) HW6.out (by have := HNC_0.out; omega) HVT.out)
 rw [← HL0.out, ← HA.out] at HFI
 go_wp2_with fail
 refine (HFI.out).mono ?_
 rintro e Y1 ⟨hb, a2, c3, m4, rfl, hs, hnc, hi⟩
 clear n0 n1 nl HFI
 have HI_Y1 := hid hi
 have HNC_m4 := hid (show m4 ≤ 115200 by have := HNC_0.out; omega)
 obtain ⟨om, hom, hoc⟩ := HI_Y0.out.map
 have HB_Y1 := hid (HB_Y0.out.trans (hb.below HB_Y0.out.size HEC.out.2))
 have HF_Y1 := hid (blk_but HF_Y0.out hb hom hoc)
 have HN_Y1 := hid (blk_but HN_Y0.out hb hom hoc)
 clear hom hoc
 have HA1_Y1 := hid hs
 clear hb hs hnc hi
 obtain ⟨er, her⟩ : ∃ er, er = A.2 := ⟨_, rfl⟩
 rw [← her]
 have HER := hid her
 clear her
 have HEN := hid (entries_raw px eb cb t _ _ _ bd (fun _ => True) P m4 Y1 HI_Y1.out)
 go_wp2_with fail
 refine (HEN.out).mono ?_
 rintro e Y5 ⟨hb, a6, c7, q8, rfl, hl1, hl2⟩
 have HI_Y5 := hid (HI_Y1.out.below hb)
 have HB_Y5 := hid (Below.step HB_Y1.out hb)
 have HF_Y5 := hid (HF_Y1.out.below hb)
 have HN_Y5 := hid (HN_Y1.out.below hb)
 have HA1_Y5 := hid (HA1_Y1.out.below hb)
 have HE1_Y5 := hid hl2
 have HE1L := hid hl1
 clear hb hl1 hl2 HEN
 have f0 := HF_Y5.out.cell (j := 0) rfl
 have f1 := HF_Y5.out.cell (j := 1) rfl
 have fl' := HF_Y5.out.lt
 have HPU := hid (put_any px eb cb t _ _ _ bd (fun _ => True) P m4 fid fns _ Y5 HI_Y5.out.ix (fun _ _ => trivial) (HF.out.below HB_Y5.out) (by have := HFE.out.2.1; omega) (by have := HFE.out.1; omega) (fun m hm => by have := (HFE.out.2.2 m hm).1; omega) HFSH.out HI_Y5.out.tabs)
 go_wp2_with fail
 refine (HPU.out).mono ?_
 rintro e Y9 ⟨hb, rfl, R10, hp, hi⟩
 clear f0 f1 fl' HPU
 have HI_Y9 := hid (HI_Y5.out.ents hb hi)
 have HQ_R10 := hid hp
 obtain ⟨om, hom, hoc⟩ := HI_Y5.out.ix.ents.no_cells
 have HB_Y9 := hid (HB_Y5.out.trans (hb.below HB_Y5.out.size HEC.out.1))
 have HF_Y9 := hid (blk_but HF_Y5.out hb hom hoc)
 have HN_Y9 := hid (blk_but HN_Y5.out hb hom hoc)
 have HA1_Y9 := hid (HA1_Y5.out.but hb hom hoc)
 have HE1_Y9 := hid (HE1_Y5.out.but hb hom hoc)
 clear hom hoc
 clear hb hp hi
 rw [← HS0.out] at HQ_R10 ⊢
 obtain ⟨code, hcode⟩ : ∃ code, code = (Idx.put S ⟨fid, fns⟩).2 := ⟨_, rfl⟩
 rw [← hcode]
 by_cases h0 : code = 0
 rotate_left
 ·have g0 : (code != 0) = true := by simpa using h0
  have HPE := hid (show (Idx.put S ⟨fid, fns⟩).1 = S by rw [hcode] at h0; exact put_no h0)
  clear hcode h0
  have HEN := hid (entries_raw px eb cb t _ _ _ bd (fun _ => True) R10 m4 Y9 HI_Y9.out)
  go_wp2_with fail
  refine (HEN.out).mono ?_
  rintro e Y11 ⟨hb, a12, c13, q14, rfl, hl1, hl2⟩
  have HI_Y11 := hid (HI_Y9.out.below hb)
  have HB_Y11 := hid (Below.step HB_Y9.out hb)
  have HF_Y11 := hid (HF_Y9.out.below hb)
  have HN_Y11 := hid (HN_Y9.out.below hb)
  have HA1_Y11 := hid (HA1_Y9.out.below hb)
  have HE1_Y11 := hid (HE1_Y9.out.below hb)
  have HE2_Y11 := hid hl2
  have HE2L := hid hl1
  clear hb hl1 hl2 HEN
  have HHE := hid (show Calls Tryz.prog 21 #[.slice a12 q14.length c13, .slice a6 q8.length c7] Y11 (Gives (.bool true) Y11) from by
   have := sameAll_any q14 q8 _ _ Y11 HE2_Y11.out HE1_Y11.out
   rw [decide_eq_true (by rw [HE2L.out, HE1L.out]; exact sort_same HI_Y11.out.ix.ok HI_Y0.out.ix.ok (fun e => by rw [HQ_R10.out, HPE.out, HS0.out]))] at this
   exact this)
  go_wp2_with fail
  refine (HHE.out).mono ?_
  rintro e Y15 ⟨rfl, hb⟩
  have HI_Y15 := hid (HI_Y11.out.below hb)
  have HB_Y15 := hid (Below.step HB_Y11.out hb)
  have HF_Y15 := hid (HF_Y11.out.below hb)
  have HN_Y15 := hid (HN_Y11.out.below hb)
  have HA1_Y15 := hid (HA1_Y11.out.below hb)
  have HE1_Y15 := hid (HE1_Y11.out.below hb)
  have HE2_Y15 := hid (HE2_Y11.out.below hb)
  clear hb HHE
  go_wp2_with fail
  go_ret
  exact ⟨rfl, HB_Y15.out⟩
 have g0 : (code != 0) = false := by simpa using h0
 have HLD := hid (Idx.law_drop (S := S) (e := ⟨fid, fns⟩) (by rw [← hcode]; exact h0))
 have HP1 := hid (show R10.map Prod.fst = S ++ [⟨fid, fns⟩] by rw [HQ_R10.out, HLD.out.1])
 subst h0
 clear hcode g0
 obtain ⟨L1, hL1⟩ : ∃ L, L = (Idx.sortE R10).map Prod.fst := ⟨_, rfl⟩
 have HL1 := hid hL1
 obtain ⟨C, hC⟩ : ∃ C, C = Idx.findZ t bd n L1 := ⟨_, rfl⟩
 have HC := hid hC
 clear hL1 hC
 have n0 := HN_Y9.out.cell (j := 0) rfl
 have n1 := HN_Y9.out.cell (j := 1) rfl
 have nl := HN_Y9.out.lt
 have HFI := hid (find_all px eb cb t _ _ _ bd (fun _ => True) R10 m4 n _ Y9 HI_Y9.out (HN.out.below HB_Y9.out) HW6.out (by have := HNC_m4.out; omega) HVT.out)
 rw [← HL1.out, ← HC.out] at HFI
 go_wp2_with fail
 refine (HFI.out).mono ?_
 rintro e Y16 ⟨hb, a17, c18, m19, rfl, hs, hnc, hi⟩
 clear n0 n1 nl HFI
 have HI_Y16 := hid hi
 have HNC_m19 := hid (show m19 ≤ 230400 by have := HNC_m4.out; omega)
 obtain ⟨om, hom, hoc⟩ := HI_Y9.out.map
 have HB_Y16 := hid (HB_Y9.out.trans (hb.below HB_Y9.out.size HEC.out.2))
 have HF_Y16 := hid (blk_but HF_Y9.out hb hom hoc)
 have HN_Y16 := hid (blk_but HN_Y9.out hb hom hoc)
 have HA1_Y16 := hid (HA1_Y9.out.but hb hom hoc)
 have HE1_Y16 := hid (HE1_Y9.out.but hb hom hoc)
 clear hom hoc
 have HC1_Y16 := hid hs
 clear hb hs hnc hi
 obtain ⟨er2, her⟩ : ∃ er, er = C.2 := ⟨_, rfl⟩
 rw [← her]
 clear her
 have f0 := HF_Y16.out.cell (j := 0) rfl
 have fl' := HF_Y16.out.lt
 have HDR := hid (drop_any px eb cb t _ _ _ bd (fun _ => True) R10 m19 fid Y16 HI_Y16.out.ix (by have := HFE.out.2.1; omega))
 go_wp2_with fail
 refine (HDR.out).mono ?_
 rintro e Y20 ⟨hb, hor⟩
 clear f0 fl' HDR
 have hhas : Idx.has (R10.map Prod.fst) fid = true := by rw [HP1.out]; exact Idx.has_iff.2 ⟨⟨fid, fns⟩, List.mem_append.2 (.inr List.mem_cons_self), rfl⟩
 obtain ⟨rfl, hi⟩ : e = .returned (.int .i64 0) ∧ IxAt Y20 px eb cb t [.slice ar t.rules.length cr, .slice ad t.drops.length cd, .slice ae t.ends.length ce, .int .i64 t.drop, .int .i64 t.order, .int .i64 t.initial] bd (fun _ => True) (Idx.strike R10 fid) m19 := by
  rcases hor with ⟨-, h2, h3⟩ | ⟨h1, -, -⟩
  ·exact ⟨h2, h3⟩
  ·rw [hhas] at h1; cases h1
 have HI_Y20 := hid (HI_Y16.out.ents hb hi)
 obtain ⟨om, hom, hoc⟩ := HI_Y16.out.ix.ents.no_cells
 have HB_Y20 := hid (HB_Y16.out.trans (hb.below HB_Y16.out.size HEC.out.1))
 have HF_Y20 := hid (blk_but HF_Y16.out hb hom hoc)
 have HN_Y20 := hid (blk_but HN_Y16.out hb hom hoc)
 have HA1_Y20 := hid (HA1_Y16.out.but hb hom hoc)
 have HE1_Y20 := hid (HE1_Y16.out.but hb hom hoc)
 have HC1_Y20 := hid (HC1_Y16.out.but hb hom hoc)
 clear hom hoc
 have HP2 := hid (show (Idx.strike R10 fid).map Prod.fst = S by
  rw [Idx.strike_map, HP1.out]
  have h := HLD.out.2
  unfold Idx.drop at h
  rw [← HP1.out, if_pos hhas] at h
  have h2 := (Prod.mk.inj h).1
  rw [HP1.out] at h2
  exact h2)
 clear hb hi hor hhas
 have HSO := hid (show (Idx.sortE (Idx.strike R10 fid)).map Prod.fst = L0 by rw [HL0.out]; exact sort_same HI_Y20.out.ix.ok HI_Y0.out.ix.ok (fun e => by rw [HP2.out, HS0.out]))
 have n0 := HN_Y20.out.cell (j := 0) rfl
 have n1 := HN_Y20.out.cell (j := 1) rfl
 have nl := HN_Y20.out.lt
 have HFI := hid (find_all px eb cb t _ _ _ bd (fun _ => True) (Idx.strike R10 fid) m19 n _ Y20 HI_Y20.out (HN.out.below HB_Y20.out) HW6.out (by have := HNC_m19.out; omega) HVT.out)
 rw [HSO.out, ← HA.out] at HFI
 go_wp2_with fail
 refine (HFI.out).mono ?_
 rintro e Y21 ⟨hb, a22, c23, m24, rfl, hs, hnc, hi⟩
 clear n0 n1 nl HFI
 have HI_Y21 := hid hi
 have HNC_m24 := hid (show m24 ≤ 345600 by have := HNC_m19.out; omega)
 obtain ⟨om, hom, hoc⟩ := HI_Y20.out.map
 have HB_Y21 := hid (HB_Y20.out.trans (hb.below HB_Y20.out.size HEC.out.2))
 have HF_Y21 := hid (blk_but HF_Y20.out hb hom hoc)
 have HN_Y21 := hid (blk_but HN_Y20.out hb hom hoc)
 have HA1_Y21 := hid (HA1_Y20.out.but hb hom hoc)
 have HE1_Y21 := hid (HE1_Y20.out.but hb hom hoc)
 have HC1_Y21 := hid (HC1_Y20.out.but hb hom hoc)
 clear hom hoc
 have HB1_Y21 := hid hs
 clear hb hs hnc hi
 rw [← HER.out]
 have HEN := hid (entries_raw px eb cb t _ _ _ bd (fun _ => True) (Idx.strike R10 fid) m24 Y21 HI_Y21.out)
 go_wp2_with fail
 refine (HEN.out).mono ?_
 rintro e Y25 ⟨hb, a26, c27, q28, rfl, hl1, hl2⟩
 have HI_Y25 := hid (HI_Y21.out.below hb)
 have HB_Y25 := hid (Below.step HB_Y21.out hb)
 have HF_Y25 := hid (HF_Y21.out.below hb)
 have HN_Y25 := hid (HN_Y21.out.below hb)
 have HA1_Y25 := hid (HA1_Y21.out.below hb)
 have HE1_Y25 := hid (HE1_Y21.out.below hb)
 have HC1_Y25 := hid (HC1_Y21.out.below hb)
 have HB1_Y25 := hid (HB1_Y21.out.below hb)
 have HE3_Y25 := hid hl2
 have HE3L := hid hl1
 clear hb hl1 hl2 HEN
 have HHE := hid (show Calls Tryz.prog 20 #[.slice a2 A.1.length c3, .slice a22 A.1.length c23] Y25 (Gives (.bool true) Y25) from by
  have := hitsE_any A.1 A.1 _ _ Y25 HA1_Y25.out HB1_Y25.out
  rw [decide_eq_true rfl] at this
  exact this)
 go_wp2_with fail
 refine (HHE.out).mono ?_
 rintro e Y29 ⟨rfl, hb⟩
 have HI_Y29 := hid (HI_Y25.out.below hb)
 have HB_Y29 := hid (Below.step HB_Y25.out hb)
 have HF_Y29 := hid (HF_Y25.out.below hb)
 have HN_Y29 := hid (HN_Y25.out.below hb)
 have HA1_Y29 := hid (HA1_Y25.out.below hb)
 have HE1_Y29 := hid (HE1_Y25.out.below hb)
 have HC1_Y29 := hid (HC1_Y25.out.below hb)
 have HB1_Y29 := hid (HB1_Y25.out.below hb)
 have HE3_Y29 := hid (HE3_Y25.out.below hb)
 clear hb HHE
 have HHE := hid (show Calls Tryz.prog 21 #[.slice a6 q8.length c7, .slice a26 q28.length c27] Y29 (Gives (.bool true) Y29) from by
  have := sameAll_any q8 q28 _ _ Y29 HE1_Y29.out HE3_Y29.out
  rw [decide_eq_true (by rw [HE1L.out, HE3L.out, HSO.out, HL0.out])] at this
  exact this)
 go_wp2_with fail
 refine (HHE.out).mono ?_
 rintro e Y30 ⟨rfl, hb⟩
 have HI_Y30 := hid (HI_Y29.out.below hb)
 have HB_Y30 := hid (Below.step HB_Y29.out hb)
 have HF_Y30 := hid (HF_Y29.out.below hb)
 have HN_Y30 := hid (HN_Y29.out.below hb)
 have HA1_Y30 := hid (HA1_Y29.out.below hb)
 have HE1_Y30 := hid (HE1_Y29.out.below hb)
 have HC1_Y30 := hid (HC1_Y29.out.below hb)
 have HB1_Y30 := hid (HB1_Y29.out.below hb)
 have HE3_Y30 := hid (HE3_Y29.out.below hb)
 clear hb HHE
 have f0 := HF_Y30.out.cell (j := 0) rfl
 have f1 := HF_Y30.out.cell (j := 1) rfl
 have fl' := HF_Y30.out.lt
 have HPU := hid (put_any px eb cb t _ _ _ bd (fun _ => True) (Idx.strike R10 fid) m24 fid fns _ Y30 HI_Y30.out.ix (fun _ _ => trivial) (HF.out.below HB_Y30.out) (by have := HFE.out.2.1; omega) (by have := HFE.out.1; omega) (fun m hm => by have := (HFE.out.2.2 m hm).1; omega) HFSH.out HI_Y30.out.tabs)
 go_wp2_with fail
 refine (HPU.out).mono ?_
 rintro e Y31 ⟨hb, rfl, R32, hp, hi⟩
 clear f0 f1 fl' HPU
 have HI_Y31 := hid (HI_Y30.out.ents hb hi)
 have HQ_R32 := hid hp
 obtain ⟨om, hom, hoc⟩ := HI_Y30.out.ix.ents.no_cells
 have HB_Y31 := hid (HB_Y30.out.trans (hb.below HB_Y30.out.size HEC.out.1))
 have HF_Y31 := hid (blk_but HF_Y30.out hb hom hoc)
 have HN_Y31 := hid (blk_but HN_Y30.out hb hom hoc)
 have HA1_Y31 := hid (HA1_Y30.out.but hb hom hoc)
 have HE1_Y31 := hid (HE1_Y30.out.but hb hom hoc)
 have HC1_Y31 := hid (HC1_Y30.out.but hb hom hoc)
 have HB1_Y31 := hid (HB1_Y30.out.but hb hom hoc)
 have HE3_Y31 := hid (HE3_Y30.out.but hb hom hoc)
 clear hom hoc
 clear hb hp hi
 rw [HP2.out, HLD.out.1] at HQ_R32 ⊢
 have HSP := hid (show (Idx.sortE R32).map Prod.fst = L1 by rw [HL1.out]; exact sort_same HI_Y31.out.ix.ok HI_Y16.out.ix.ok (fun e => by rw [HQ_R32.out, HP1.out]))
 have n0 := HN_Y31.out.cell (j := 0) rfl
 have n1 := HN_Y31.out.cell (j := 1) rfl
 have nl := HN_Y31.out.lt
 have HFI := hid (find_all px eb cb t _ _ _ bd (fun _ => True) R32 m24 n _ Y31 HI_Y31.out (HN.out.below HB_Y31.out) HW6.out (by have := HNC_m24.out; omega) HVT.out)
 rw [HSP.out, ← HC.out] at HFI
 go_wp2_with fail
 refine (HFI.out).mono ?_
 rintro e Y33 ⟨hb, a34, c35, m36, rfl, hs, hnc, hi⟩
 clear n0 n1 nl HFI
 have HI_Y33 := hid hi
 have HNC_m36 := hid (show m36 ≤ 460800 by have := HNC_m24.out; omega)
 obtain ⟨om, hom, hoc⟩ := HI_Y31.out.map
 have HB_Y33 := hid (HB_Y31.out.trans (hb.below HB_Y31.out.size HEC.out.2))
 have HF_Y33 := hid (blk_but HF_Y31.out hb hom hoc)
 have HN_Y33 := hid (blk_but HN_Y31.out hb hom hoc)
 have HA1_Y33 := hid (HA1_Y31.out.but hb hom hoc)
 have HE1_Y33 := hid (HE1_Y31.out.but hb hom hoc)
 have HC1_Y33 := hid (HC1_Y31.out.but hb hom hoc)
 have HB1_Y33 := hid (HB1_Y31.out.but hb hom hoc)
 have HE3_Y33 := hid (HE3_Y31.out.but hb hom hoc)
 clear hom hoc
 have HD1_Y33 := hid hs
 clear hb hs hnc hi
 obtain ⟨er3, her⟩ : ∃ er, er = C.2 := ⟨_, rfl⟩
 rw [← her]
 clear her
 have HHE := hid (show Calls Tryz.prog 20 #[.slice a17 C.1.length c18, .slice a34 C.1.length c35] Y33 (Gives (.bool true) Y33) from by
  have := hitsE_any C.1 C.1 _ _ Y33 HC1_Y33.out HD1_Y33.out
  rw [decide_eq_true rfl] at this
  exact this)
 go_wp2_with fail
 refine (HHE.out).mono ?_
 rintro e Y37 ⟨rfl, hb⟩
 have HI_Y37 := hid (HI_Y33.out.below hb)
 have HB_Y37 := hid (Below.step HB_Y33.out hb)
 have HF_Y37 := hid (HF_Y33.out.below hb)
 have HN_Y37 := hid (HN_Y33.out.below hb)
 have HA1_Y37 := hid (HA1_Y33.out.below hb)
 have HE1_Y37 := hid (HE1_Y33.out.below hb)
 have HC1_Y37 := hid (HC1_Y33.out.below hb)
 have HB1_Y37 := hid (HB1_Y33.out.below hb)
 have HE3_Y37 := hid (HE3_Y33.out.below hb)
 have HD1_Y37 := hid (HD1_Y33.out.below hb)
 clear hb HHE
 have hge : ((A.1.length : Int)) ≤ (C.1.length : Int) := by
  rw [HA.out, HC.out]
  unfold Idx.findZ
  split
  ·have h := Idx.law_more (f := Mt.dist t n) (b := bd) (S := S) (S' := S ++ [⟨fid, fns⟩]) (L := L0) (L' := L1) (by rw [HS0.out, HL0.out]; exact Idx.sortE_srt (by have := HI_Y0.out.ix.ok.once; rwa [List.map_map] at this)) (by rw [← HP1.out, HL1.out]; exact Idx.sortE_srt (by have := HI_Y16.out.ix.ok.once; rwa [List.map_map] at this)) (fun e he => List.mem_append.2 (.inl he))
   exact Int.ofNat_le.2 h
  ·exact Int.le_refl _
 go_wp2_with fail
 go_ret
 exact ⟨rfl, HB_Y37.out⟩

end Go.Proofs.YtdghfenbfbdijaaGreatDoor
