/-
 The reference's Name, Same, SameAll: are two names, entries, lists of entries equal. Conditions: none.
-/
import Derived.Test.YtdghfenbfbdijaaGreatDoorZMIy
import Derived.Deep.CutRange
namespace Go.Proofs.YtdghfenbfbdijaaGreatDoor
open Go.RowKit Go.Lib Go.Maps

theorem bs_injX {a b : List UInt8} (h : bs a = bs b) : a = b := by simpa [bs] using h

set_option maxRecDepth 100000 in
set_option maxHeartbeats 2000000 in
theorem nameE_any (n m : Li.Nm) (vn vm : Value) (W : World) (hn : SlOf W vn 1 strC n.words) (hm : SlOf W vm 1 strC m.words) :
  Calls Tryz.prog 42 #[.agg #[.int .i64 n.script, vn], .agg #[.int .i64 m.script, vm]] W (Gives (.bool (decide (n = m))) W) := by
 have HN := hid hn
 have HM := hid hm
 obtain ⟨na, nc, rfl, j1, k1, -⟩ := hn
 obtain ⟨ma, mc, rfl, j2, k2, -⟩ := hm
 have hl1 : n.words.length ≤ 9223372036854775807 := by unfold maxLen at k1; omega
 have hl2 : m.words.length ≤ 9223372036854775807 := by unfold maxLen at k2; omega
 obtain ⟨N, hN⟩ : ∃ N, N = n.words.length := ⟨_, rfl⟩
 obtain ⟨M, hM⟩ : ∃ M, M = m.words.length := ⟨_, rfl⟩
 have HL := hid (And.intro hN hM)
 rw [← hN] at hl1 HN ⊢
 rw [← hM] at hl2 HM ⊢
 obtain ⟨Wa, hWa⟩ : ∃ X, X = W.alloc (.cells #[.int .i64 n.script, .slice na N nc] 46) := ⟨_, rfl⟩
 obtain ⟨W1, hW1⟩ : ∃ X, X = Wa.alloc (.cells #[.int .i64 m.script, .slice ma M mc] 46) := ⟨_, rfl⟩
 have sa : Wa.heap.size = W.heap.size + 1 := by rw [hWa, World.size_alloc]
 have ba : Below W.heap.size W Wa := by rw [hWa]; exact (Below.refl _ _).alloc (Nat.le_refl _) _
 have bb : Below Wa.heap.size Wa W1 := by rw [hW1]; exact (Below.refl _ _).alloc (Nat.le_refl _) _
 have HK1 := hid (show Blk W1 W.heap.size 46 [.int .i64 n.script, .slice na N nc] by
  have : Blk Wa W.heap.size 46 [.int .i64 n.script, .slice na N nc] := by rw [hWa]; exact Blk.new W _ _
  exact this.below bb)
 have HK2 := hid (show Blk W1 (W.heap.size + 1) 46 [.int .i64 m.script, .slice ma M mc] by rw [hW1, ← sa]; exact Blk.new Wa _ _)
 have HB1 := hid (Below.step ba bb)
 have HNM := hid (And.intro (HN.out.below HB1.out) (HM.out.below HB1.out))
 rw [hWa] at hW1
 have hno := hid (show n ≠ m → false = decide (n = m) from fun h => (decide_eq_false h).symm)
 have a0 := HK1.out.cell (j := 0) rfl
 have a1 := HK1.out.cell (j := 1) rfl
 have az := HK1.out.lt
 have b0 := HK2.out.cell (j := 0) rfl
 have b1 := HK2.out.cell (j := 1) rfl
 have bz := HK2.out.lt
 clear j1 j2 k1 k2 hN hM ba bb sa hWa
 by_cases h1 : n.script = m.script
 rotate_left
 ·have g1 : (n.script != m.script) = true := by simpa using h1
  have HO := hid (hno.out (fun e => h1 (by rw [e])))
  clear h1
  go_enter Tryz.func42, Tryz.ntmps42
  go_upto_region 1 with (fail)
  try simp only [World.size_alloc]
  rw [← hW1]
  clear hW1
  go_wp2_with fail
  go_ret
  exact ⟨ret_bool HO.out, HB1.out⟩
 have g1 : (n.script != m.script) = false := by simpa using h1
 have H1 := hid h1
 clear h1
 by_cases h2 : N = M
 rotate_left
 ·have g2 : ((N : Int) != (M : Int)) = true := by simp; omega
  have HO := hid (hno.out (fun e => h2 (by rw [HL.out.1, HL.out.2, e])))
  clear h2
  go_enter Tryz.func42, Tryz.ntmps42
  go_upto_region 1 with (fail)
  try simp only [World.size_alloc]
  rw [← hW1]
  clear hW1
  go_wp2_with fail
  go_ret
  exact ⟨ret_bool HO.out, HB1.out⟩
 have g2 : ((N : Int) != (M : Int)) = false := by simp; omega
 have H2 := hid h2
 clear h2
 go_enter Tryz.func42, Tryz.ntmps42
 go_upto_region 1 with (fail)
 try simp only [World.size_alloc]
 rw [← hW1]
 clear hW1
 go_wp2_with fail
 go_loopw [5] (fun kv wr => ∃ k : Nat, k ≤ N ∧ kv = .int .i64 k ∧ Hid (n.words.take k = m.words.take k) ∧ Hid (Below W1.heap.size W1 wr)) (fun kv _ => N - (RowKit.intOf kv).toNat)
 case atStart => exact ⟨0, Nat.zero_le _, rfl, rfl, Below.refl _ _⟩
 case round =>
  clear a0 a1 az b0 b1 bz
  obtain ⟨k, hk, rfl, HT, HB⟩ := hrel
  rename World => wr
  have a1 := (HK1.out.below HB.out).cell (j := 1) rfl
  have az := (HK1.out.below HB.out).lt
  have b1 := (HK2.out.below HB.out).cell (j := 1) rfl
  have bz := (HK2.out.below HB.out).lt
  by_cases hlt : k < N
  ·obtain ⟨x, hx⟩ : ∃ x, n.words[k]? = some x := ⟨_, List.getElem?_eq_getElem (by rw [← HL.out.1]; exact hlt)⟩
   obtain ⟨y, hy⟩ : ∃ y, m.words[k]? = some y := ⟨_, List.getElem?_eq_getElem (by rw [← HL.out.2, ← H2.out]; exact hlt)⟩
   obtain ⟨g, o, rfl, hr⟩ : ∃ g o, na = some ⟨g, o, none⟩ ∧ RowOf wr g o 1 strC n.words := by
    obtain ⟨a', c', e', -, -, hr⟩ := HNM.out.1.below HB.out
    simp only [Value.slice.injEq] at e'
    obtain ⟨rfl, -, rfl⟩ := e'
    exact hr (by rw [← HL.out.1]; omega)
   obtain ⟨g2', o2, rfl, hr2⟩ : ∃ g o, ma = some ⟨g, o, none⟩ ∧ RowOf wr g o 1 strC m.words := by
    obtain ⟨a', c', e', -, -, hr⟩ := HNM.out.2.below HB.out
    simp only [Value.slice.injEq] at e'
    obtain ⟨rfl, -, rfl⟩ := e'
    exact hr (by rw [← HL.out.2, ← H2.out]; omega)
   have s0 := hr.2 k x hx 0 _ rfl
   have u0 := hr2.2 k y hy 0 _ rfl
   rw [Nat.add_zero, Nat.mul_one] at s0 u0
   have hg := hr.1
   have hg2 := hr2.1
   have k0 : (0 : Int) ≤ (k : Int) := by omega
   have k1 : (k : Int) < (N : Int) := by omega
   have k2 : (k : Int) < (M : Int) := by rw [← H2.out]; omega
   have HXY := hid (And.intro hx hy)
   clear hr hr2 hx hy
   by_cases e1 : x = y
   ·have HE := hid e1
    subst e1
    go_wp2_with fail
    go_region
    go_wp2_with fail
    go_roundw
    case rel => exact ⟨k + 1, by omega, by go_num, hid (by rw [Idx.take_one HXY.out.1, Idx.take_one HXY.out.2, HT.out]), HB.out.drew⟩
    case measure => simp [RowKit.intOf]; omega
   ·have c2 : ¬ bs x = bs y := fun e => e1 (bs_injX e)
    have c3 : ¬ (bs x).toList = (bs y).toList := fun e => e1 (by rw [ByteArray.toList_eq, ByteArray.toList_eq] at e; exact e)
    have c4 : ((bs x).toList == (bs y).toList) = false := beq_eq_false_iff_ne.2 c3
    have HO := hid (hno.out (fun e => e1 (by
     have h := HXY.out.1
     rw [e, HXY.out.2] at h
     exact (Option.some.inj h).symm)))
    clear e1
    go_wp2_with fail
    go_region
    go_wp2_with fail
    go_ret
    exact ⟨ret_bool HO.out, (Below.step HB1.out HB.out).drew⟩
  ·have hke : k = N := by omega
   have hle : ¬ (k : Int) < (N : Int) := by omega
   have HO := hid (show true = decide (n = m) by
    have h := HT.out
    rw [List.take_of_length_le (by rw [← HL.out.1]; omega), List.take_of_length_le (by rw [← HL.out.2, ← H2.out]; omega)] at h
    symm
    rw [decide_eq_true_eq]
    obtain ⟨a, b⟩ := n
    obtain ⟨c, d⟩ := m
    simp only at h
    have h3 := H1.out
    simp only at h3
    rw [h, h3])
   clear hke
   go_wp2_with fail
   go_ret
   exact ⟨ret_bool HO.out, Below.step HB1.out HB.out⟩

set_option maxRecDepth 100000 in
set_option maxHeartbeats 2000000 in
theorem sameE_any (e f : Li.En) (ve vf : Value) (W : World) (he : NmSl W ve e.names) (hf : NmSl W vf f.names) :
  Calls Tryz.prog 27 #[.agg #[.string (bs e.id), ve], .agg #[.string (bs f.id), vf]] W (Gives (.bool (decide (e = f))) W) := by
 obtain ⟨ls, hl1, hsl, hat⟩ := he
 obtain ⟨ms, hm1, hsm, hbt⟩ := hf
 have HL := hid (And.intro hl1 hm1)
 have HS := hid (And.intro hsl hsm)
 have HA := hid (And.intro hat hbt)
 have hln : ls.length = e.names.length := by rw [← hl1, List.length_map]
 have hlm : ms.length = f.names.length := by rw [← hm1, List.length_map]
 have HLN := hid (And.intro hln hlm)
 obtain ⟨na, nc, rfl, j1, k1, -⟩ := hsl
 obtain ⟨ma, mc, rfl, j2, k2, -⟩ := hsm
 have hl1' : ls.length ≤ 9223372036854775807 := by unfold maxLen at k1; omega
 have hl2' : ms.length ≤ 9223372036854775807 := by unfold maxLen at k2; omega
 obtain ⟨Wa, hWa⟩ : ∃ X, X = W.alloc (.cells #[.string (bs e.id), .slice na ls.length nc] 40) := ⟨_, rfl⟩
 obtain ⟨W1, hW1⟩ : ∃ X, X = Wa.alloc (.cells #[.string (bs f.id), .slice ma ms.length mc] 40) := ⟨_, rfl⟩
 have sa : Wa.heap.size = W.heap.size + 1 := by rw [hWa, World.size_alloc]
 have ba : Below W.heap.size W Wa := by rw [hWa]; exact (Below.refl _ _).alloc (Nat.le_refl _) _
 have bb : Below Wa.heap.size Wa W1 := by rw [hW1]; exact (Below.refl _ _).alloc (Nat.le_refl _) _
 have HK1 := hid (show Blk W1 W.heap.size 40 [.string (bs e.id), .slice na ls.length nc] by
  have : Blk Wa W.heap.size 40 [.string (bs e.id), .slice na ls.length nc] := by rw [hWa]; exact Blk.new W _ _
  exact this.below bb)
 have HK2 := hid (show Blk W1 (W.heap.size + 1) 40 [.string (bs f.id), .slice ma ms.length mc] by rw [hW1, ← sa]; exact Blk.new Wa _ _)
 have HB1 := hid (Below.step ba bb)
 rw [hWa] at hW1
 have hno := hid (show e ≠ f → false = decide (e = f) from fun h => (decide_eq_false h).symm)
 have a0 := HK1.out.cell (j := 0) rfl
 have a1 := HK1.out.cell (j := 1) rfl
 have az := HK1.out.lt
 have b0 := HK2.out.cell (j := 0) rfl
 have b1 := HK2.out.cell (j := 1) rfl
 have bz := HK2.out.lt
 clear j1 j2 k1 k2 hl1 hm1 hat hbt hln hlm ba bb sa hWa
 by_cases h1 : e.id = f.id
 rotate_left
 ·have g0 : ¬ (bs e.id).toList = (bs f.id).toList := fun h => h1 (by rw [ByteArray.toList_eq, ByteArray.toList_eq] at h; exact h)
  have g1 : ((bs e.id).toList == (bs f.id).toList) = false := beq_eq_false_iff_ne.2 g0
  have HO := hid (hno.out (fun h => h1 (by rw [h])))
  clear h1
  go_enter Tryz.func27, Tryz.ntmps27
  go_upto_region 1 with (fail)
  try simp only [World.size_alloc]
  rw [← hW1]
  clear hW1
  go_wp2_with fail
  go_ret
  exact ⟨ret_bool HO.out, HB1.out⟩
 have g1 : ((bs e.id).toList == (bs f.id).toList) = true := by rw [h1]; exact beq_self_eq_true _
 have H1 := hid h1
 clear h1
 by_cases h2 : ls.length = ms.length
 rotate_left
 ·have g2 : ((ls.length : Int) != (ms.length : Int)) = true := by simp; omega
  have HO := hid (hno.out (fun h => h2 (by rw [HLN.out.1, HLN.out.2, h])))
  clear h2
  go_enter Tryz.func27, Tryz.ntmps27
  go_upto_region 1 with (fail)
  try simp only [World.size_alloc]
  rw [← hW1]
  clear hW1
  go_wp2_with fail
  go_ret
  exact ⟨ret_bool HO.out, HB1.out⟩
 have g2 : ((ls.length : Int) != (ms.length : Int)) = false := by simp; omega
 have H2 := hid h2
 clear h2
 go_enter Tryz.func27, Tryz.ntmps27
 go_upto_region 1 with (fail)
 try simp only [World.size_alloc]
 rw [← hW1]
 clear hW1
 go_wp2_with fail
 go_loopw [5] (fun kv wr => ∃ k : Nat, k ≤ ls.length ∧ kv = .int .i64 k ∧ Hid (e.names.take k = f.names.take k) ∧ Hid (Below W1.heap.size W1 wr)) (fun kv _ => ls.length - (RowKit.intOf kv).toNat)
 case atStart => exact ⟨0, Nat.zero_le _, rfl, rfl, Below.refl _ _⟩
 case round =>
  clear a0 a1 az b0 b1 bz
  obtain ⟨k, hk, rfl, HT, HB⟩ := hrel
  rename World => wr
  have a1 := (HK1.out.below HB.out).cell (j := 1) rfl
  have az := (HK1.out.below HB.out).lt
  have b1 := (HK2.out.below HB.out).cell (j := 1) rfl
  have bz := (HK2.out.below HB.out).lt
  have HBW := hid (Below.step HB1.out HB.out)
  by_cases hlt : k < ls.length
  ·obtain ⟨⟨x, xv⟩, hx⟩ : ∃ x, ls[k]? = some x := ⟨_, List.getElem?_eq_getElem hlt⟩
   obtain ⟨⟨y, yv⟩, hy⟩ : ∃ y, ms[k]? = some y := ⟨_, List.getElem?_eq_getElem (by rw [← H2.out]; exact hlt)⟩
   obtain ⟨g, o, rfl, hr⟩ : ∃ g o, na = some ⟨g, o, none⟩ ∧ RowOf wr g o 2 nmC ls := by
    obtain ⟨a', c', e', -, -, hr⟩ := HS.out.1.below HBW.out
    simp only [Value.slice.injEq] at e'
    obtain ⟨rfl, -, rfl⟩ := e'
    exact hr (by omega)
   obtain ⟨g2', o2, rfl, hr2⟩ : ∃ g o, ma = some ⟨g, o, none⟩ ∧ RowOf wr g o 2 nmC ms := by
    obtain ⟨a', c', e', -, -, hr⟩ := HS.out.2.below HBW.out
    simp only [Value.slice.injEq] at e'
    obtain ⟨rfl, -, rfl⟩ := e'
    exact hr (by rw [← H2.out]; omega)
   have s0 := hr.2 k _ hx 0 _ rfl
   have s1 := hr.2 k _ hx 1 _ rfl
   have u0 := hr2.2 k _ hy 0 _ rfl
   have u1 := hr2.2 k _ hy 1 _ rfl
   rw [Nat.add_zero] at s0 u0
   dsimp only at s0 s1 u0 u1
   have hg := hr.1
   have hg2 := hr2.1
   have k0 : (0 : Int) ≤ (k : Int) := by omega
   have k1 : (k : Int) < (ls.length : Int) := by omega
   have k2 : (k : Int) < (ms.length : Int) := by rw [← H2.out]; omega
   have hxs := HA.out.1 _ (List.mem_of_getElem? hx)
   have hys := HA.out.2 _ (List.mem_of_getElem? hy)
   have HNE := hid (nameE_any x y xv yv wr.drew ((SlOf.below hxs HBW.out).below (Below.refl _ wr).drew) ((SlOf.below hys HBW.out).below (Below.refl _ wr).drew))
   obtain ⟨xa, xc, hxv, -⟩ := hxs
   obtain ⟨ya, yc, hyv, -⟩ := hys
   dsimp only at hxv hyv
   subst hxv hyv
   have HXY := hid (show e.names[k]? = some x ∧ f.names[k]? = some y by rw [← HL.out.1, ← HL.out.2, List.getElem?_map, List.getElem?_map, hx, hy]; exact ⟨rfl, rfl⟩)
   clear hr hr2 hx hy
   by_cases e1 : x = y
   ·rw [decide_eq_true e1] at HNE
    have HE := hid e1
    clear e1
    go_wp2_with fail
    go_cut [5, 38] from 20 to 38 (fun v5 v38 wx => v5 = .int .i64 k ∧ v38 = .bool false ∧ Below wr.heap.size wr wx)
    case first =>
     go_region_with (refine (HNE.out).mono ?_; rintro e3 w3 ⟨rfl, hb3⟩)
     all_goals (go_wp2_with fail)
     all_goals go_meet
     all_goals exact ⟨rfl, rfl, Below.step (Below.refl _ _).drew hb3⟩
    case rest =>
    obtain ⟨rfl, rfl, hb⟩ := hcut
    rename World => wx
    have HBX := hid (Below.step HB.out hb)
    clear s0 s1 u0 u1 hg hg2 a1 az b1 bz hb
    go_wp2_with fail
    go_roundw
    case rel => exact ⟨k + 1, by omega, by go_num, hid (by rw [Idx.take_one HXY.out.1, Idx.take_one HXY.out.2, HT.out, HE.out]), HBX.out⟩
    case measure => simp [RowKit.intOf]; omega
   ·rw [decide_eq_false e1] at HNE
    have HO := hid (hno.out (fun h => e1 (by
     have h' := HXY.out.1
     rw [h, HXY.out.2] at h'
     exact (Option.some.inj h').symm)))
    clear e1
    go_wp2_with fail
    go_cut [5, 38] from 20 to 38 (fun v5 v38 wx => v5 = .int .i64 k ∧ v38 = .bool true ∧ Below wr.heap.size wr wx)
    case first =>
     go_region_with (refine (HNE.out).mono ?_; rintro e3 w3 ⟨rfl, hb3⟩)
     all_goals (go_wp2_with fail)
     all_goals go_meet
     all_goals exact ⟨rfl, rfl, Below.step (Below.refl _ _).drew hb3⟩
    case rest =>
    obtain ⟨rfl, rfl, hb⟩ := hcut
    rename World => wx
    have HBX := hid (Below.step HB.out hb)
    clear s0 s1 u0 u1 hg hg2 a1 az b1 bz hb
    go_wp2_with fail
    go_ret
    exact ⟨ret_bool HO.out, Below.step HB1.out HBX.out⟩
  ·have hke : k = ls.length := by omega
   have hle : ¬ (k : Int) < (ls.length : Int) := by omega
   have HO := hid (show true = decide (e = f) by
    have h := HT.out
    rw [List.take_of_length_le (by rw [← HLN.out.1]; omega), List.take_of_length_le (by rw [← HLN.out.2, ← H2.out]; omega)] at h
    symm
    rw [decide_eq_true_eq]
    obtain ⟨a, b⟩ := e
    obtain ⟨c, d⟩ := f
    simp only at h
    have h3 := H1.out
    simp only at h3
    rw [h, h3])
   clear hke
   go_wp2_with fail
   go_ret
   exact ⟨ret_bool HO.out, HBW.out⟩

set_option maxRecDepth 100000 in
set_option maxHeartbeats 2000000 in
theorem sameAll_any (ls ms : List (Li.En × Value)) (ve vf : Value) (W : World) (he : EnsRaw W ve ls) (hf : EnsRaw W vf ms) :
  Calls Tryz.prog 21 #[ve, vf] W (Gives (.bool (decide (ls.map Prod.fst = ms.map Prod.fst))) W) := by
 have HE := hid he
 have HF := hid hf
 obtain ⟨na, nc, rfl, j1, k1, -⟩ := he.sl
 obtain ⟨ma, mc, rfl, j2, k2, -⟩ := hf.sl
 have hl1' : ls.length ≤ 9223372036854775807 := by unfold maxLen at k1; omega
 have hl2' : ms.length ≤ 9223372036854775807 := by unfold maxLen at k2; omega
 have hno := hid (show ls.map Prod.fst ≠ ms.map Prod.fst → false = decide (ls.map Prod.fst = ms.map Prod.fst) from fun h => (decide_eq_false h).symm)
 clear j1 j2 k1 k2 he hf
 by_cases h2 : ls.length = ms.length
 rotate_left
 ·have g2 : ((ls.length : Int) != (ms.length : Int)) = true := by simp; omega
  have HO := hid (hno.out (fun h => h2 (by have := congrArg List.length h; rwa [List.length_map, List.length_map] at this)))
  clear h2
  go_enter Tryz.func21, Tryz.ntmps21
  go_wp2_with fail
  go_ret
  exact ⟨ret_bool HO.out, Below.refl _ _⟩
 have g2 : ((ls.length : Int) != (ms.length : Int)) = false := by simp; omega
 have H2 := hid h2
 clear h2
 go_enter Tryz.func21, Tryz.ntmps21
 go_wp2_with fail
 go_loopw [5] (fun kv wr => ∃ k : Nat, k ≤ ls.length ∧ kv = .int .i64 k ∧ Hid ((ls.map Prod.fst).take k = (ms.map Prod.fst).take k) ∧ Hid (Below W.heap.size W wr)) (fun kv _ => ls.length - (RowKit.intOf kv).toNat)
 case atStart => exact ⟨0, Nat.zero_le _, rfl, rfl, Below.refl _ _⟩
 case round =>
  obtain ⟨k, hk, rfl, HT, HB⟩ := hrel
  rename World => wr
  by_cases hlt : k < ls.length
  ·obtain ⟨⟨x, xv⟩, hx⟩ : ∃ x, ls[k]? = some x := ⟨_, List.getElem?_eq_getElem hlt⟩
   obtain ⟨⟨y, yv⟩, hy⟩ : ∃ y, ms[k]? = some y := ⟨_, List.getElem?_eq_getElem (by rw [← H2.out]; exact hlt)⟩
   obtain ⟨g, o, rfl, hr⟩ : ∃ g o, na = some ⟨g, o, none⟩ ∧ RowOf wr g o 2 enC ls := by
    obtain ⟨a', c', e', -, -, hr⟩ := HE.out.sl.below HB.out
    simp only [Value.slice.injEq] at e'
    obtain ⟨rfl, -, rfl⟩ := e'
    exact hr (by omega)
   obtain ⟨g2', o2, rfl, hr2⟩ : ∃ g o, ma = some ⟨g, o, none⟩ ∧ RowOf wr g o 2 enC ms := by
    obtain ⟨a', c', e', -, -, hr⟩ := HF.out.sl.below HB.out
    simp only [Value.slice.injEq] at e'
    obtain ⟨rfl, -, rfl⟩ := e'
    exact hr (by rw [← H2.out]; omega)
   have s0 := hr.2 k _ hx 0 _ rfl
   have s1 := hr.2 k _ hx 1 _ rfl
   have u0 := hr2.2 k _ hy 0 _ rfl
   have u1 := hr2.2 k _ hy 1 _ rfl
   rw [Nat.add_zero] at s0 u0
   dsimp only at s0 s1 u0 u1
   have hg := hr.1
   have hg2 := hr2.1
   have k0 : (0 : Int) ≤ (k : Int) := by omega
   have k1 : (k : Int) < (ls.length : Int) := by omega
   have k2 : (k : Int) < (ms.length : Int) := by rw [← H2.out]; omega
   have hxs := HE.out.nm _ (List.mem_of_getElem? hx)
   have hys := HF.out.nm _ (List.mem_of_getElem? hy)
   have HNE := hid (sameE_any x y xv yv wr.drew ((hxs.below HB.out).below (Below.refl _ wr).drew) ((hys.below HB.out).below (Below.refl _ wr).drew))
   obtain ⟨xa, xn, xc, hxv⟩ : ∃ a n c, xv = .slice a n c := by obtain ⟨l, -, ⟨a, c, e, -⟩, -⟩ := hxs; exact ⟨a, _, c, e⟩
   obtain ⟨ya, yn, yc, hyv⟩ : ∃ a n c, yv = .slice a n c := by obtain ⟨l, -, ⟨a, c, e, -⟩, -⟩ := hys; exact ⟨a, _, c, e⟩
   subst hxv hyv
   have HXY := hid (show (ls.map Prod.fst)[k]? = some x ∧ (ms.map Prod.fst)[k]? = some y by rw [List.getElem?_map, List.getElem?_map, hx, hy]; exact ⟨rfl, rfl⟩)
   clear hr hr2 hx hy hxs hys
   by_cases e1 : x = y
   ·rw [decide_eq_true e1] at HNE
    have HEQ := hid e1
    clear e1
    go_wp2_with fail
    go_cut [5, 26] from 11 to 26 (fun v5 v26 wx => v5 = .int .i64 k ∧ v26 = .bool false ∧ Below wr.heap.size wr wx)
    case first =>
     go_region_with (refine (HNE.out).mono ?_; rintro e3 w3 ⟨rfl, hb3⟩)
     all_goals (go_wp2_with fail)
     all_goals go_meet
     all_goals exact ⟨rfl, rfl, Below.step (Below.refl _ _).drew hb3⟩
    case rest =>
    obtain ⟨rfl, rfl, hb⟩ := hcut
    rename World => wx
    have HBX := hid (Below.step HB.out hb)
    clear s0 s1 u0 u1 hg hg2 hb
    go_wp2_with fail
    go_roundw
    case rel => exact ⟨k + 1, by omega, by go_num, hid (by rw [Idx.take_one HXY.out.1, Idx.take_one HXY.out.2, HT.out, HEQ.out]), HBX.out⟩
    case measure => simp [RowKit.intOf]; omega
   ·rw [decide_eq_false e1] at HNE
    have HO := hid (hno.out (fun h => e1 (by
     have h' := HXY.out.1
     rw [h, HXY.out.2] at h'
     exact (Option.some.inj h').symm)))
    clear e1
    go_wp2_with fail
    go_cut [5, 26] from 11 to 26 (fun v5 v26 wx => v5 = .int .i64 k ∧ v26 = .bool true ∧ Below wr.heap.size wr wx)
    case first =>
     go_region_with (refine (HNE.out).mono ?_; rintro e3 w3 ⟨rfl, hb3⟩)
     all_goals (go_wp2_with fail)
     all_goals go_meet
     all_goals exact ⟨rfl, rfl, Below.step (Below.refl _ _).drew hb3⟩
    case rest =>
    obtain ⟨rfl, rfl, hb⟩ := hcut
    rename World => wx
    have HBX := hid (Below.step HB.out hb)
    clear s0 s1 u0 u1 hg hg2 hb
    go_wp2_with fail
    go_ret
    exact ⟨ret_bool HO.out, HBX.out⟩
  ·have hke : k = ls.length := by omega
   have hle : ¬ (k : Int) < (ls.length : Int) := by omega
   have HO := hid (show true = decide (ls.map Prod.fst = ms.map Prod.fst) by
    have h := HT.out
    rw [List.take_of_length_le (by rw [List.length_map]; omega), List.take_of_length_le (by rw [List.length_map, ← H2.out]; omega)] at h
    rw [decide_eq_true h])
   clear hke
   go_wp2_with fail
   go_ret
   exact ⟨ret_bool HO.out, HB.out⟩

end Go.Proofs.YtdghfenbfbdijaaGreatDoor
