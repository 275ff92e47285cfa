import Derived.Test.YtdghfenbfbdijaaGreatDoorZMIxB
import Derived.Test.YtdghfenbfbdijaaGreatDoorZMIxC
namespace Go.Proofs.YtdghfenbfbdijaaGreatDoor
open Go.RowKit Go.Lib Go.Maps
set_option maxRecDepth 100000 in
set_option maxHeartbeats 8000000 in
theorem copy_any (id : List UInt8) (ns : List Li.Nm) (v : Value) (W : World) (h : NmSl W v ns) (hn : ns.length ≤ 1000) (hw : ∀ n ∈ ns, n.words.length ≤ 1000) : Calls Tryz.prog 25 #[.agg #[.string (bs id), v]] W (CpyP id ns W) := by
 obtain ⟨i0, hi0, hz0, hz1, hz2⟩ := info_parts Tryz.infoNameC
 obtain ⟨i1, hi1, hy0, hy1, hy2⟩ := info_parts Tryz.infoStC
 obtain ⟨ps, hps, hsl, hat⟩ := h
 obtain ⟨W1, hW1⟩ : ∃ W1, W1 = (W.alloc (.cells #[.string (bs id), v] 40)).alloc (.cells #[.string ⟨#[]⟩, .slice none 0 0] 40) := ⟨_, rfl⟩
 have hb1 : Below W.heap.size W W1 := by rw [hW1]; exact ((Below.refl _ W).alloc (Nat.le_refl _) _).alloc (by simp) _
 have hk1 : Blk W1 W.heap.size 40 [.string (bs id), v] := by rw [hW1]; exact (Blk.new W _ _).below ((Below.refl _ _).alloc (Nat.le_refl _) _)
 have hk2 : Blk W1 (W.heap.size + 1) 40 [.string ⟨#[]⟩, .slice none 0 0] := by
  rw [hW1]
  have := Blk.new (W.alloc (.cells #[.string (bs id), v] 40)) 40 [.string ⟨#[]⟩, .slice none 0 0]
  rwa [World.size_alloc] at this
 obtain ⟨W2, hW2⟩ : ∃ W2, W2 = W1.alloc (.cells #[.string (bs id), .slice none 0 0] 40) := ⟨_, rfl⟩
 have hb2 : Below W1.heap.size W1 W2 := by rw [hW2]; exact (Below.refl _ W1).alloc (Nat.le_refl _) _
 have hk3 : Blk W2 W1.heap.size 40 [.string (bs id), .slice none 0 0] := by rw [hW2]; exact Blk.new W1 40 [.string (bs id), .slice none 0 0]
 have hpl : ps.length = ns.length := by rw [← hps, List.length_map]
 have HB2 := hid (Below.step hb1 hb2)
 have HK1 := hid (hk1.below hb2)
 have HK2 := hid (hk2.below hb2)
 have HK3 := hid hk3
 have HSL := hid hsl
 have HPS := hid hps
 have HAT := hid (show ∀ p ∈ ps, SlOf W p.2 1 strC p.1.words from hat)
 have HWL := hid (show ∀ p ∈ ps, p.1.words.length ≤ 1000 from fun p hp => hw p.1 (by rw [← hps]; exact List.mem_map_of_mem hp))
 have HLT := hid (show W.heap.size + 1 < W1.heap.size from hk2.lt)
 have hp9 : ps.length ≤ 1000 := by rw [hpl]; exact hn
 have HPL := hid hpl
 obtain ⟨av, cv, rfl, -⟩ := hsl
 have y0 := hk1.cell (j := 0) rfl
 have y1 := hk1.cell (j := 1) rfl
 have yz := hk1.lt
 clear hb1 hk1 hk2 hk3 hps hat hw hpl
 go_enter Tryz.func25, Tryz.ntmps25
 go_upto_region 1 with (fail)
 rw [← hW1]
 clear hW1
 go_upto_region 2 with (fail)
 rw [← hW2]
 clear hW2 y0 y1 yz hb2
 go_wp2_with fail
 go_loopw [4] (fun kv wr => ∃ (k : Nat) (qs : List (Li.Nm × Value)) (oa : Option Addr) (oc : Nat), k ≤ ps.length ∧ kv = .int .i64 k ∧ Hid (qs.map Prod.fst = ns.take k ∧ qs.length = k ∧ CpN (W1.heap.size + 1) (.slice oa k oc) qs wr) ∧ Hid (Blk wr W.heap.size 40 [.string (bs id), .slice av ps.length cv] ∧ Blk wr (W.heap.size + 1) 40 [.string ⟨#[]⟩, .slice none 0 0] ∧ Blk wr W1.heap.size 40 [.string (bs id), .slice oa k oc] ∧ Below W.heap.size W wr)) (fun kv _ => ps.length - (RowKit.intOf kv).toNat)
 case atStart => exact ⟨0, [], none, 0, Nat.zero_le _, rfl, hid ⟨rfl, rfl, ⟨World.ownsRow_nil _ _ _ _, fun q hq => by cases hq⟩⟩, hid ⟨HK1.out, HK2.out, HK3.out, HB2.out⟩⟩
 case round =>
  obtain ⟨k, qs, oa, oc, hk, rfl, HQ, HB⟩ := hrel
  rename World => wr
  by_cases hlt : k < ps.length
  ·obtain ⟨p, hp⟩ : ∃ p, ps[k]? = some p := ⟨_, List.getElem?_eq_getElem hlt⟩
   have hwl := HWL.out p (List.mem_of_getElem? hp)
   have hsp := HAT.out p (List.mem_of_getElem? hp)
   obtain ⟨pa, pc, hpv, -⟩ := hsp
   obtain ⟨g, o, rfl, hr⟩ : ∃ g o, av = some ⟨g, o, none⟩ ∧ RowOf W g o 2 nmC ps := by
    obtain ⟨a', c', e, -, -, hr⟩ := HSL.out
    cases e
    obtain ⟨g, o, e, hr⟩ := hr (by omega)
    exact ⟨g, o, e, hr⟩
   have hgW := hr.1
   have e0 := hr.2 k p hp 0 _ rfl
   have e1 := hr.2 k p hp 1 _ rfl
   rw [hpv] at e1
   have e0 := (HB.out.2.2.2.cell (p := ⟨g, o + k * 2, none⟩) hgW).trans e0
   have e1 := (HB.out.2.2.2.cell (p := ⟨g, o + k * 2 + 1, none⟩) hgW).trans e1
   have hk0 : (0 : Int) ≤ (k : Int) := by omega
   have hk1 : (k : Int) < (ps.length : Int) := by omega
   have z1 := HB.out.1.cell (j := 1) rfl
   have zz := HB.out.1.lt
   have x1 := HB.out.2.2.1.cell (j := 1) rfl
   have xz := HB.out.2.2.1.lt
   have hO : ∀ b, b < W1.heap.size → ¬ ((Value.slice oa k oc).ownBlock = some b ∨ b = W1.heap.size) := by
    rintro b hb (e | e)
    ·have := (HQ.out.2.2.own.lt b e).1
     omega
    ·omega
   have hgn := hO g (by have := HLT.out; omega)
   have hne := hO W.heap.size (by have := HLT.out; omega)
   have hgr : g < wr.heap.size := Nat.lt_of_lt_of_le hgW HB.out.2.2.2.size
   have HSP := hid (show SlOf W (.slice pa p.1.words.length pc) 1 strC p.1.words by rw [← hpv]; exact HAT.out p (List.mem_of_getElem? hp))
   have HP := hid hp
   clear hp hr hpv
   go_upto_region 5 with (fail)
   refine wp_heldS (S := HeldC 20 (fun X => X.cell? ⟨W1.heap.size, 1, none⟩ = some (.slice oa k oc)) (fun b => (Value.slice oa k oc).ownBlock = some b ∨ b = W1.heap.size) wr) (by kernel_rfl) ?_
   simp only [List.size_toArray, List.length_cons, List.length_nil, Nat.reduceAdd]
   intro hc
   have S0 : HeldC 20 (fun X => X.cell? ⟨W1.heap.size, 1, none⟩ = some (.slice oa k oc)) (fun b => (Value.slice oa k oc).ownBlock = some b ∨ b = W1.heap.size) wr (Array.replicate 21 false) wr.drew := ⟨.inr x1, (Tch.refl _ wr).step (Below.refl _ _).drew⟩
   refine wpAnyS_take (i := 0) (v := .pointer (some ⟨W1.heap.size, 1, none⟩)) rfl (by kernel_rfl) (by kernel_rfl) (by kernel_rfl) (fun _ _ _ h => h) (fun _ _ => HeldC.set_ (by decide) _ _) hc (by first | rfl | simp [Region.wanted]) (fun wx hx => ?_) S0 (fun hc S0 => ?_)
   ·go_simp
   try simp only [tk1, tk3, Act.put, tk4, tk5, tk6]
   refine wpAnyS_take (i := 1) (v := .slice oa k oc) rfl (by kernel_rfl) (by kernel_rfl) (by kernel_rfl) (fun _ _ _ h => h) (fun _ _ => HeldC.set_ (by decide) _ _) hc (by first | rfl | simp [Region.wanted]) (fun wx hx => ?_) S0 (fun hc S0 => ?_)
   ·have y := hx.cee (n := 24) (by kernel_rfl)
    go_simp
   try simp only [tk1, tk2, tk3, Act.put, tk4, tk5, tk6]
   refine wpAnyS_take (i := 2) (v := .pointer (some ⟨W.heap.size, 1, none⟩)) rfl (by kernel_rfl) (by kernel_rfl) (by kernel_rfl) (fun _ _ _ h => h) (fun _ _ => HeldC.set_ (by decide) _ _) hc (by first | rfl | simp [Region.wanted]) (fun wx hx => ?_) S0 (fun hc S0 => ?_)
   ·go_simp
   try simp only [tk1, tk2, tk3, Act.put, tk4, tk5, tk6]
   refine wpAnyS_take (i := 3) (v := .slice (some ⟨g, o, none⟩) ps.length cv) rfl (by kernel_rfl) (by kernel_rfl) (by kernel_rfl) (fun _ _ _ h => h) (fun _ _ => HeldC.set_ (by decide) _ _) hc (by first | rfl | simp [Region.wanted]) (fun wx hx => ?_) S0 (fun hc S0 => ?_)
   ·have y := (World.cell?_of_block (a := ⟨W.heap.size, 1, none⟩) (hx.tee.block _ zz hne)).trans z1
    go_simp
   try simp only [tk1, tk2, tk3, Act.put, tk4, tk5, tk6]
   refine wpAnyS_take (i := 4) (v := .int .i64 k) rfl (by kernel_rfl) (by kernel_rfl) (by kernel_rfl) (fun _ _ _ h => h) (fun _ _ => HeldC.set_ (by decide) _ _) hc (by first | rfl | simp [Region.wanted]) (fun wx hx => ?_) S0 (fun hc S0 => ?_)
   ·go_simp
   try simp only [tk1, tk2, tk3, Act.put, tk4, tk5, tk6]
   refine wpAnyS_take (i := 5) (v := .pointer (some ⟨g, o + k * 2, none⟩)) rfl (by kernel_rfl) (by kernel_rfl) (by kernel_rfl) (fun _ _ _ h => h) (fun _ _ => HeldC.set_ (by decide) _ _) hc (by first | rfl | simp [Region.wanted]) (fun wx hx => ?_) S0 (fun hc S0 => ?_)
   ·go_simp
   try simp only [tk1, tk2, tk3, Act.put, tk4, tk5, tk6]
   refine wpAnyS_take (i := 6) (v := .pointer (some ⟨g, o + k * 2, none⟩)) rfl (by kernel_rfl) (by kernel_rfl) (by kernel_rfl) (fun _ _ _ h => h) (fun _ _ => HeldC.set_ (by decide) _ _) hc (by first | rfl | simp [Region.wanted]) (fun wx hx => ?_) S0 (fun hc S0 => ?_)
   ·go_simp
   try simp only [tk1, tk2, tk3, Act.put, tk4, tk5, tk6]
   refine wpAnyS_take (i := 7) (v := .int .i64 p.1.script) rfl (by kernel_rfl) (by kernel_rfl) (by kernel_rfl) (fun _ _ _ h => h) (fun _ _ => HeldC.set_ (by decide) _ _) hc (by first | rfl | simp [Region.wanted]) (fun wx hx => ?_) S0 (fun hc S0 => ?_)
   ·have y := (World.cell?_of_block (a := ⟨g, o + k * 2, none⟩) (hx.tee.block _ hgr hgn)).trans e0
    go_simp
   try simp only [tk1, tk2, tk3, Act.put, tk4, tk5, tk6]
   refine wpAnyS_take (i := 9) (v := .pointer (some ⟨W.heap.size, 1, none⟩)) rfl (by kernel_rfl) (by kernel_rfl) (by kernel_rfl) (fun _ _ _ h => h) (fun _ _ => HeldC.set_ (by decide) _ _) hc (by first | rfl | simp [Region.wanted]) (fun wx hx => ?_) S0 (fun hc S0 => ?_)
   ·go_simp
   try simp only [tk1, tk2, tk3, Act.put, tk4, tk5, tk6]
   refine wpAnyS_take (i := 10) (v := .slice (some ⟨g, o, none⟩) ps.length cv) rfl (by kernel_rfl) (by kernel_rfl) (by kernel_rfl) (fun _ _ _ h => h) (fun _ _ => HeldC.set_ (by decide) _ _) hc (by first | rfl | simp [Region.wanted]) (fun wx hx => ?_) S0 (fun hc S0 => ?_)
   ·have y := (World.cell?_of_block (a := ⟨W.heap.size, 1, none⟩) (hx.tee.block _ zz hne)).trans z1
    go_simp
   try simp only [tk1, tk2, tk3, Act.put, tk4, tk5, tk6]
   refine wpAnyS_take (i := 11) (v := .int .i64 k) rfl (by kernel_rfl) (by kernel_rfl) (by kernel_rfl) (fun _ _ _ h => h) (fun _ _ => HeldC.set_ (by decide) _ _) hc (by first | rfl | simp [Region.wanted]) (fun wx hx => ?_) S0 (fun hc S0 => ?_)
   ·go_simp
   try simp only [tk1, tk2, tk3, Act.put, tk4, tk5, tk6]
   refine wpAnyS_take (i := 12) (v := .pointer (some ⟨g, o + k * 2, none⟩)) rfl (by kernel_rfl) (by kernel_rfl) (by kernel_rfl) (fun _ _ _ h => h) (fun _ _ => HeldC.set_ (by decide) _ _) hc (by first | rfl | simp [Region.wanted]) (fun wx hx => ?_) S0 (fun hc S0 => ?_)
   ·go_simp
   try simp only [tk1, tk2, tk3, Act.put, tk4, tk5, tk6]
   refine wpAnyS_take (i := 13) (v := .pointer (some ⟨g, o + k * 2 + 1, none⟩)) rfl (by kernel_rfl) (by kernel_rfl) (by kernel_rfl) (fun _ _ _ h => h) (fun _ _ => HeldC.set_ (by decide) _ _) hc (by first | rfl | simp [Region.wanted]) (fun wx hx => ?_) S0 (fun hc S0 => ?_)
   ·go_simp
   try simp only [tk1, tk2, tk3, Act.put, tk4, tk5, tk6]
   refine wpAnyS_take (i := 14) (v := .slice pa p.1.words.length pc) rfl (by kernel_rfl) (by kernel_rfl) (by kernel_rfl) (fun _ _ _ h => h) (fun _ _ => HeldC.set_ (by decide) _ _) hc (by first | rfl | simp [Region.wanted]) (fun wx hx => ?_) S0 (fun hc S0 => ?_)
   ·have y := (World.cell?_of_block (a := ⟨g, o + k * 2 + 1, none⟩) (hx.tee.block _ hgr hgn)).trans e1
    go_simp
   try simp only [tk1, tk2, tk3, Act.put, tk4, tk5, tk6]
   obtain ⟨B, hB⟩ : ∃ B, B = wr.drew := ⟨_, rfl⟩
   have hbB : Below wr.heap.size wr B := by rw [hB]; exact (Below.refl _ wr).drew
   rw [← hB]
   clear S0 hB e0 e1 z1 zz
   refine wpAnyS_one (i := 8) rfl (by kernel_rfl) (by rfl) hc (fun K' hK => ?_)
   go_simp
   obtain ⟨B1, hB1⟩ : ∃ Bz, Bz = B.alloc (.cells #[] 9) := ⟨_, rfl⟩
   rw [← hB1]
   have hb1 : Below B.heap.size B B1 := by rw [hB1]; exact (Below.refl _ B).alloc (Nat.le_refl _) _
   have hB1z := hb1.size
   have hBz := hbB.size
   have hown1 : B1.ownsRow (W1.heap.size + 1) 9 1 (.slice (some ⟨B.heap.size, 0, none⟩) 0 0) 0 [] := by rw [hB1]; exact World.ownsRow_made B #[] 0 (by omega) (by unfold maxLen; omega) rfl
   have hb2 := Below.step hbB hb1
   clear hB1
   refine hK.out _ _ ⟨.inr ((hb2.cell (p := ⟨W1.heap.size, 1, none⟩) xz).trans x1), Tch.of_below hb2 _⟩ (fun hc => ?_)
   clear hK K'
   try simp only [tk1, tk2, tk3, Act.put, tk4, tk5, tk6]
   refine wpAnyS_one (i := 15) rfl (by kernel_rfl) (by rfl) hc (fun K' hK => ?_)
   refine wp_append_list _ _ 27 rfl (W1.heap.size + 1) 9 i1 (.string ⟨#[]⟩) 16 Tryz.underlying27 hi1 hy0 hy1 hy2 rfl (by decide) _ 0 [] rfl hown1 _ rfl (HSP.out.below (HB.out.2.2.2.trans (hb2.mono HB.out.2.2.2.size))) (fun _ => rfl) (str_one _) (by unfold maxLen; omega) (by omega) (by omega) ?_
   intro v2 B2 ho2 hg2 hor2
   rw [Nat.zero_add, List.nil_append] at ho2
   have hb3 : Below wr.heap.size wr B2 := by
    refine hb2.grown hg2 (by have := hb2.size; omega) (fun r e => ?_)
    cases e
    exact hBz
   obtain ⟨a2, c2, rfl⟩ := ownsRow_slice ho2
   clear hb1 hb2 hor2 hg2 hown1
   refine hK.out _ _ ⟨.inr ((hb3.cell (p := ⟨W1.heap.size, 1, none⟩) xz).trans x1), Tch.of_below hb3 _⟩ (fun hc => ?_)
   clear hK K'
   try simp only [tk1, tk2, tk3, Act.put, tk4, tk5, tk6]
   refine wpAnyS_one (i := 16) rfl (by kernel_rfl) (by rfl) hc (fun K' hK => ?_)
   go_simp
   refine hK.out _ _ ⟨.inr ((hb3.cell (p := ⟨W1.heap.size, 1, none⟩) xz).trans x1), Tch.of_below hb3 _⟩ (fun hc => ?_)
   clear hK K'
   try simp only [tk1, tk2, tk3, Act.put, tk4, tk5, tk6]
   refine wpAnyS_one (i := 17) rfl (by kernel_rfl) (by rfl) hc (fun K' hK => ?_)
   go_simp
   obtain ⟨B3, hB3⟩ : ∃ Bz, Bz = B2.alloc (.cells #[.int .i64 p.1.script, .slice a2 p.1.words.length c2] 46) := ⟨_, rfl⟩
   rw [← hB3]
   have hb4 : Below B2.heap.size B2 B3 := by rw [hB3]; exact (Below.refl _ B2).alloc (Nat.le_refl _) _
   have hN3 : ∀ (j : Nat) (u : Value), [Value.int .i64 p.1.script, .slice a2 p.1.words.length c2][j]? = some u → B3.cell? ((⟨B2.heap.size, 0, none⟩ : Addr).add j) = some u := by rw [hB3]; exact cells_new rfl
   have ho3 := ownsRow_below ho2 hb4
   have hb5 := Below.step hb3 hb4
   clear hB3
   refine hK.out _ _ ⟨.inr ((hb5.cell (p := ⟨W1.heap.size, 1, none⟩) xz).trans x1), Tch.of_below hb5 _⟩ (fun hc => ?_)
   clear hK K'
   try simp only [tk1, tk2, tk3, Act.put, tk4, tk5, tk6]
   have hCP := HQ.out.2.2.below hb5
   have hoN := hCP.own
   rw [HQ.out.2.1] at hoN
   refine wpAnyS_one (i := 18) rfl (by kernel_rfl) (by rfl) hc (fun K' hK => ?_)
   refine wp_append_own _ _ _ 28 rfl (W1.heap.size + 1) 46 i0 (.agg #[.int .i64 0, .slice none 0 0]) 2 32 Tryz.underlying28 hi0 hz0 hz1 hz2 rfl (by decide) _ _ _ rfl hoN ⟨B2.heap.size, 0, none⟩ 1 1 [.int .i64 p.1.script, .slice a2 p.1.words.length c2] rfl rfl hN3 (by simp [Value.oneCell']) (by unfold maxLen; omega) (by omega) (by have := hb5.size; omega) ?_
   intro v4 B4 ho4 hg4 _
   have hC4 : Blk B4 W1.heap.size 40 [.string (bs id), .slice oa k oc] := (hg4.block _ (by have := hb5.size; omega) (fun e => by have := (hoN.lt _ e.symm).1; omega)).trans (HB.out.2.2.1.below hb5)
   have f4 := hC4.frozen 1
   have d4 := hC4.cell (j := 1) rfl
   have l4 := hC4.lt
   obtain ⟨a4, c4, rfl⟩ := ownsRow_slice ho4
   refine hK.out _ _ ⟨.inr d4, (Tch.of_below hb5 _).grown hg4 fun r e => .inl (.inl e)⟩ (fun hc => ?_)
   clear hK K'
   try simp only [tk1, tk2, tk3, Act.put, tk4, tk5, tk6]
   refine wpAnyS_one (i := 19) rfl (by kernel_rfl) (by rfl) hc (fun K' hK => ?_)
   go_simp
   refine hK.out _ _ ⟨.inr d4, (Tch.of_below hb5 _).grown hg4 fun r e => .inl (.inl e)⟩ (fun hc => ?_)
   clear hK K'
   try simp only [tk1, tk2, tk3, Act.put, tk4, tk5, tk6]
   refine wpAnyS_one (i := 20) rfl (by kernel_rfl) (by rfl) hc (fun K' hK => ?_)
   go_simp
   refine hK.out _ _ ⟨.inl rfl, ((Tch.of_below hb5 _).grown hg4 fun r e => .inl (.inl e)).setCell (a := ⟨W1.heap.size, 1, none⟩) (.inl (.inr rfl)) _⟩ (fun hc => ?_)
   clear hK K'
   try simp only [tk1, tk2, tk3, Act.put, tk4, tk5, tk6]
   refine wpAnyS_done (by kernel_rfl) ?_ _
   have HF := hid (And.intro hb5 (And.intro ho3 (And.intro hCP (And.intro hoN (And.intro ho4 (And.intro hg4 hC4))))))
   have HNE := hid hne
   clear hc f4 d4 l4 hb5 ho3 hCP hoN ho4 hg4 hC4 hN3 hb3 hb4 ho2 hbB x1 xz hgn hO hne hk0 hk1 hgW hgr hB1z hBz
   go_wp2_with fail
   go_roundw
   case rel =>
    obtain ⟨hb5, ho3, hCP, hoN, ho4, hg4, hC4⟩ := HF.out
    have hg5 := set_grown_at B4 W1.heap.size 1 (.slice a4 (k + 1) c4)
    refine ⟨k + 1, qs ++ [(p.1, .slice a2 p.1.words.length c2)], a4, c4, by omega, by go_num, hid ⟨?_, ?_, ⟨?_, ?_⟩⟩, hid ⟨?_, ?_, hC4.set 1 _, ?_⟩⟩
    ·rw [List.map_append, HQ.out.1, ← HPS.out, List.take_add_one]
     simp [HP.out]
    ·rw [List.length_append, HQ.out.2.1]; rfl
    ·rw [List.length_append, HQ.out.2.1, List.flatMap_append]
     exact kept_at (by simpa [nmC] using ho4) hg5 (by omega)
    ·intro q hq
     rcases List.mem_append.1 hq with hq | hq
     ·exact kept_at (owns_other (hCP.ws q hq) hoN hg4 (by decide)) hg5 (by omega)
     ·cases List.mem_singleton.1 hq
      exact kept_at (owns_other ho3 hoN hg4 (by decide)) hg5 (by omega)
    ·exact (show Blk B4 W.heap.size 40 _ from (hg4.block _ (by have := HB.out.1.lt; have := hb5.size; omega) (fun e => HNE.out (.inl e.symm))).trans (HB.out.1.below hb5)).other (by have := HLT.out; omega) _
    ·exact (show Blk B4 (W.heap.size + 1) 40 _ from (hg4.block _ (by have := HB.out.2.1.lt; have := hb5.size; omega) (fun e => by have := (hoN.lt _ e.symm).1; have := HLT.out; omega)).trans (HB.out.2.1.below hb5)).other (by have := HLT.out; omega) _
    ·exact ((HB.out.2.2.2.trans (hb5.mono HB.out.2.2.2.size)).grown hg4 (by have := hb5.size; have := HB.out.2.2.2.size; omega) (fun r e => by have := (hoN.lt _ e).1; have := HLT.out; omega)).setCell (p := ⟨W1.heap.size, 1, none⟩) (by have := HLT.out; show W.heap.size ≤ W1.heap.size; omega) _
   case measure => simp [RowKit.intOf]; omega
  ·have hke : k = ps.length := by omega
   have x0 := HB.out.2.2.1.cell (j := 0) rfl
   have x1 := HB.out.2.2.1.cell (j := 1) rfl
   have xz := HB.out.2.2.1.lt
   have z1 := HB.out.1.cell (j := 1) rfl
   have q0 := HB.out.2.1.cell (j := 0) rfl
   have q1 := HB.out.2.1.cell (j := 1) rfl
   have qf0 := HB.out.2.1.frozen 0
   have qf1 := HB.out.2.1.frozen 1
   have qz := HB.out.2.1.lt
   have zz := HB.out.1.lt
   have HKE := hid hke
   clear hke hlt
   have hk1 : ¬ (k : Int) < (ps.length : Int) := by have := HKE.out; omega
   go_wp2_with fail
   obtain ⟨W9, hW9⟩ : ∃ W9, W9 = (wr.setCell ⟨W.heap.size + 1, 0, none⟩ (.string (bs id))).setCell ⟨W.heap.size + 1, 1, none⟩ (.slice oa k oc) := ⟨_, rfl⟩
   rw [← hW9]
   have h9 : Blk W9 (W.heap.size + 1) 40 [.string (bs id), .slice oa k oc] := by rw [hW9]; exact (HB.out.2.1.set 0 _).set 1 _
   have hb9 : Below W.heap.size W W9 := by rw [hW9]; exact (HB.out.2.2.2.setCell (p := ⟨W.heap.size + 1, 0, none⟩) (by simp) _).setCell (p := ⟨W.heap.size + 1, 1, none⟩) (by simp) _
   have g9 : ∀ {e z v m xs}, wr.ownsRow (W1.heap.size + 1) e z v m xs → W9.ownsRow W.heap.size e z v m xs := fun h => by
    have h1 := HLT.out
    rw [hW9]
    exact ownsRow_base (kept_at (kept_at h (set_grown_at wr (W.heap.size + 1) 0 _) (by omega)) (set_grown_at _ (W.heap.size + 1) 1 _) (by omega)) (by omega)
   refine bodyPost_ret (results_cell_row rfl _ _ (W.heap.size + 1) 40 _ (0, 0) _ rfl h9 Tryz.underlying40 rfl (by kernel_rfl)) rfl ?_
   have hC := HQ.out.2.2
   exact ⟨_, qs, rfl, by rw [HQ.out.1, HKE.out, HPL.out, List.take_length], ⟨by have := HQ.out.2.1; subst this; exact g9 hC.own, fun q hq => g9 (hC.ws q hq)⟩, hb9⟩
end Go.Proofs.YtdghfenbfbdijaaGreatDoor
