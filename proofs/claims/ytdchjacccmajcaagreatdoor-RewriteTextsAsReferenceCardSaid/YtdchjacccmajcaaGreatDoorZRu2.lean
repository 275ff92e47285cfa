/-
 The reference's Text of layer 10: the walk. Conditions: lengths.
-/
import Derived.Test.YtdchjacccmajcaaGreatDoorZMRu
namespace Go.Proofs.YtdchjacccmajcaaGreatDoor
open Go.RowKit Go.Lib Go.Maps

set_option maxRecDepth 100000 in
set_option maxHeartbeats 20000000 in
theorem rtext_any10 (t : Rw.Table) (tv : Value) (W : World) (ht : TableAt W t tv) : Calls Tryz.prog 31 #[tv] W (Gives (.tuple #[.string (bs (Rw.text t)), .int .i64 (if Rw.valid t then 0 else 1)]) W) := by
 have HTA := hid ht
 obtain ⟨⟨vr, vd, ve, rfl, ⟨ar, cr, rfl, -, -, s1⟩, ⟨ad, cd, rfl, -, -, s2⟩, ⟨ae, ce, rfl, -, -, s3⟩⟩, f1, f2, f3, hl1, hl2, hl3⟩ := ht
 have hS1 := hid s1
 have hS2 := hid s2
 have hS3 := hid s3
 have hF1 := hid f1
 have hF2 := hid f2
 have hF3 := hid f3
 clear s1 s2 s3 f1 f2 f3
 obtain ⟨W1, hW1⟩ : ∃ W1, W1 = W.alloc (.cells #[.slice ar t.rules.length cr, .slice ad t.drops.length cd, .slice ae t.ends.length ce, .int .i64 t.drop, .int .i64 t.order, .int .i64 t.initial] 25) := ⟨_, rfl⟩
 have HT1 := hid (show Blk W1 W.heap.size 25 [.slice ar t.rules.length cr, .slice ad t.drops.length cd, .slice ae t.ends.length ce, .int .i64 t.drop, .int .i64 t.order, .int .i64 t.initial] by rw [hW1]; exact Blk.new W _ _)
 have HB1 := hid (show Below W.heap.size W W1 by rw [hW1]; exact (Below.refl _ W).alloc (Nat.le_refl _) _)
 have HV := hid (rvalid10_any t _ W1 (HTA.out.below HB1.out))
 have hz2 := HT1.out.lt
 have y0 := HT1.out.cell (j := 0) rfl
 have y1 := HT1.out.cell (j := 1) rfl
 have y2 := HT1.out.cell (j := 2) rfl
 have y3 := HT1.out.cell (j := 3) rfl
 have y4 := HT1.out.cell (j := 4) rfl
 have y5 := HT1.out.cell (j := 5) rfl
 obtain ⟨er, her⟩ : ∃ er : Int, er = (if Rw.valid t then 0 else 1) := ⟨_, rfl⟩
 rw [← her]
 have HER := hid her
 clear her
 go_enter Tryz.func31, Tryz.ntmps31
 go_upto_region 1 with (fail)
 rw [← hW1]
 clear hW1
 go_wp2_with fail
 refine (HV.out).mono ?_
 rintro e w2 ⟨rfl, hb2⟩
 have HB2 := hid (Below.step HB1.out hb2)
 have HT2 := hid (HT1.out.below hb2)
 clear hb2 y0 y1 y2 y3 y4 y5 hz2 HT1
 cases hv : Rw.valid t with
 | false =>
  have HE := hid (show Rw.text t = [] by unfold Rw.text; rw [hv]; rfl)
  have HVF := hid hv
  clear hv
  go_wp2_with fail
  go_ret2
  rw [HE.out, HER.out, HVF.out]
  exact ⟨rfl, HB2.out⟩
 | true =>
  have HVT := hid hv
  have HE := hid (show Rw.text t = t.rules.flatMap Rw.ruleT ++ (t.drops.flatMap (Rw.dropT Rw.tDrop) ++ (t.ends.flatMap (Rw.dropT Rw.tEnd) ++ Rw.lineOf (Rw.costWs t))) by unfold Rw.text; rw [if_pos hv]; simp only [List.append_assoc])
  have HVA := hid (Rw.valid_all hv)
  have HVD := hid (Rw.valid_drops hv)
  have HVE := hid (Rw.valid_ends hv)
  have HVC := hid (Rw.valid_costs hv)
  have hr80 := Rw.valid_80 hv
  have hd40 := HVD.out.1
  have he40 := HVE.out.1
  have HLR := hid (show ∀ j, ((t.rules.take j).flatMap Rw.ruleT).length ≤ 168000 from fun j => by
   have := Rw.flatMap_le Rw.ruleT 2100 (t.rules.take j) fun r hr => by
    have hm := List.mem_of_mem_take hr
    obtain ⟨_, _, _, _, _, h5, h6⟩ := Fo.letters_rule (HVA.out r hm)
    exact Rw.ruleT_len (hF1.out r hm).2.1 (hF1.out r hm).2.2 h5 h6
   rw [List.length_take] at this
   have h2 : min j t.rules.length * 2100 ≤ 80 * 2100 := Nat.mul_le_mul_right _ (by omega)
   omega)
  have HLD := hid (show ∀ j, ((t.drops.take j).flatMap (Rw.dropT Rw.tDrop)).length ≤ 44000 from fun j => by
   have := Rw.flatMap_le (Rw.dropT Rw.tDrop) 1100 (t.drops.take j) fun r hr => by
    have hm := List.mem_of_mem_take hr
    obtain ⟨_, _, _, _, _, _, h5, h6⟩ := Fo.letters_drop (HVD.out.2 r hm)
    exact Rw.dropT_len (by decide) (hF2.out r hm).2 h5 h6
   rw [List.length_take] at this
   have h2 : min j t.drops.length * 1100 ≤ 40 * 1100 := Nat.mul_le_mul_right _ (by omega)
   omega)
  have HLE := hid (show ∀ j, ((t.ends.take j).flatMap (Rw.dropT Rw.tEnd)).length ≤ 44000 from fun j => by
   have := Rw.flatMap_le (Rw.dropT Rw.tEnd) 1100 (t.ends.take j) fun r hr => by
    have hm := List.mem_of_mem_take hr
    obtain ⟨_, _, _, _, _, _, h5, h6⟩ := Fo.letters_drop (HVE.out.2 r hm)
    exact Rw.dropT_len (by decide) (hF3.out r hm).2 h5 h6
   rw [List.length_take] at this
   have h2 : min j t.ends.length * 1100 ≤ 40 * 1100 := Nat.mul_le_mul_right _ (by omega)
   omega)
  have HLR2 := hid (show (t.rules.flatMap Rw.ruleT).length ≤ 168000 by have := HLR.out t.rules.length; rwa [List.take_length] at this)
  have HLD2 := hid (show (t.drops.flatMap (Rw.dropT Rw.tDrop)).length ≤ 44000 by have := HLD.out t.drops.length; rwa [List.take_length] at this)
  have HLE2 := hid (show (t.ends.flatMap (Rw.dropT Rw.tEnd)).length ≤ 44000 by have := HLE.out t.ends.length; rwa [List.take_length] at this)
  clear hv
  go_wp2_with fail
  go_loopw [4, 5] (fun sv iv wr => ∃ j : Nat, j ≤ t.rules.length ∧ iv = .int .i64 j ∧ sv = .string (bs ((t.rules.take j).flatMap Rw.ruleT)) ∧ Hid (Below w2.heap.size w2 wr)) (fun _ iv _ => t.rules.length - (RowKit.intOf iv).toNat)
  case atStart => exact ⟨0, Nat.zero_le _, rfl, rfl, Below.refl _ _⟩
  case round =>
   obtain ⟨j, hj, rfl, rfl, HR⟩ := hrel
   have HT4 := hid (HT2.out.below HR.out)
   have y0 := HT4.out.cell (j := 0) rfl
   have hz4 := HT4.out.lt
   by_cases hjt : j < t.rules.length
   ·obtain ⟨g, o, rfl, hr⟩ := hS1.out (by omega)
    obtain ⟨d, hd⟩ : ∃ d, t.rules[j]? = some d := ⟨_, List.getElem?_eq_getElem hjt⟩
    have hm := List.mem_of_getElem? hd
    have hbW := Below.step HB2.out HR.out
    have hc := (hr.below hbW).2 j d hd
    have e0 := hc 0 _ rfl
    have e1 := hc 1 _ rfl
    have e2 := hc 2 _ rfl
    have e3 := hc 3 _ rfl
    rw [Nat.add_zero] at e0
    have hg := (hr.below hbW).1
    have j0 : (0 : Int) ≤ (j : Int) := by omega
    have j1 : (j : Int) < (t.rules.length : Int) := by omega
    obtain ⟨f, hlf, -, -, -, hc0, hc1⟩ := Fo.letters_rule (HVA.out d hm)
    obtain ⟨hk1, hk4⟩ := Rw.lets_script hlf
    obtain ⟨kn, hkn⟩ : ∃ kn : Nat, d.script = (kn : Int) := ⟨d.script.toNat, by omega⟩
    have hn1 : 1 ≤ kn := by omega
    have hn4 : kn ≤ 4 := by omega
    rw [hkn] at e0
    have hk0 : (0 : Int) ≤ (kn : Int) := by omega
    have hk5 : (kn : Int) < 5 := by omega
    obtain ⟨acc, hacc⟩ : ∃ acc, acc = (t.rules.take j).flatMap Rw.ruleT := ⟨_, rfl⟩
    have HST := hid (show (t.rules.take (j + 1)).flatMap Rw.ruleT = acc ++ Rw.ruleT d by rw [take_next hd, List.flatMap_append, hacc]; simp)
    have ha : (bs acc).size ≤ 168000 := by rw [bs_len, hacc]; exact HLR.out j
    have hs1 : (bs (Rw.scrT kn)).size ≤ 6 := by rw [bs_len]; exact Rw.scrT_len _
    have hs2 : (bs d.from_).size ≤ 1000 := by rw [bs_len]; exact (hF1.out d hm).2.1
    have hs3 : (bs d.to_).size ≤ 1000 := by rw [bs_len]; exact (hF1.out d hm).2.2
    have hs4 : (bs (Lx.dec d.cost.toNat)).size ≤ 4 := by rw [bs_len]; exact Rw.dec_cost hc0 hc1
    have HEQ := hid (show bs acc ++ (⟨#[114, 117, 108, 101, 32]⟩ ++ bs (Rw.scrT kn) ++ ⟨#[32, 34]⟩ ++ bs d.from_ ++ ⟨#[34, 32, 116, 111, 32, 34]⟩ ++ bs d.to_ ++ ⟨#[34, 32, 99, 111, 115, 116, 32]⟩ ++ bs (Lx.dec d.cost.toNat) ++ ⟨#[59, 10]⟩) = bs (acc ++ Rw.ruleT d) by
     refine bs_ext ?_
     rw [← rule_line, hkn]
     simp [ByteArray.data_append, bs])
    obtain ⟨A1, hA1⟩ : ∃ A1, A1 = wr.alloc (.cells #[.int .i64 kn, .string (bs d.from_), .string (bs d.to_), .int .i64 d.cost] 34) := ⟨_, rfl⟩
    have hbA : Below wr.heap.size wr A1 := by rw [hA1]; exact (Below.refl _ wr).alloc (Nat.le_refl _) _
    have HX1 := hid (show Blk A1 wr.heap.size 34 [.int .i64 kn, .string (bs d.from_), .string (bs d.to_), .int .i64 d.cost] by rw [hA1]; exact Blk.new wr _ _)
    have HBA := hid (Below.step HR.out hbA)
    have z0 := HX1.out.cell (j := 0) rfl
    have z1 := HX1.out.cell (j := 1) rfl
    have z2 := HX1.out.cell (j := 2) rfl
    have z3 := HX1.out.cell (j := 3) rfl
    have zl := HX1.out.lt
    rw [← hacc]
    clear hc hr hd hbW hbA hm hlf hkn hacc hk1 hk4
    go_upto_region 7 with (fail)
    go_upto_region 8 with (fail)
    rw [← hA1]
    clear hA1 e0 e1 e2 e3
    obtain ⟨nb, hnb⟩ : ∃ nb, nb = A1.drew.heap.size := ⟨_, rfl⟩
    have HNA := hid (show Calls Tryz.prog 58 #[] A1.drew (fun e w' => e = .returned (.slice (some ⟨nb, 0, none⟩) 5 5) ∧ Below A1.drew.heap.size A1.drew w' ∧ w'.heap[nb]? = some (.cells fiveT 9 (0, 0))) by
     rw [hnb]
     refine (rnames_any A1.drew).mono ?_
     rintro e w' ⟨rfl, rfl⟩
     exact ⟨rfl, (Below.refl _ _).alloc (Nat.le_refl _) _, alloc_new _ _⟩)
    clear hnb
    have x2 : 5 + (bs (Rw.scrT kn)).size ≤ 9223372036854775807 := by omega
    have x3 : 5 + (bs (Rw.scrT kn)).size + 2 ≤ 9223372036854775807 := by omega
    have x4 : 5 + (bs (Rw.scrT kn)).size + 2 + (bs d.from_).size ≤ 9223372036854775807 := by omega
    have x5 : 5 + (bs (Rw.scrT kn)).size + 2 + (bs d.from_).size + 6 ≤ 9223372036854775807 := by omega
    have x6 : 5 + (bs (Rw.scrT kn)).size + 2 + (bs d.from_).size + 6 + (bs d.to_).size ≤ 9223372036854775807 := by omega
    have x7 : 5 + (bs (Rw.scrT kn)).size + 2 + (bs d.from_).size + 6 + (bs d.to_).size + 7 ≤ 9223372036854775807 := by omega
    have x8 : 5 + (bs (Rw.scrT kn)).size + 2 + (bs d.from_).size + 6 + (bs d.to_).size + 7 + (bs (Lx.dec d.cost.toNat)).size ≤ 9223372036854775807 := by omega
    have x9 : 5 + (bs (Rw.scrT kn)).size + 2 + (bs d.from_).size + 6 + (bs d.to_).size + 7 + (bs (Lx.dec d.cost.toNat)).size + 2 ≤ 9223372036854775807 := by omega
    have xa : (bs acc).size + (5 + (bs (Rw.scrT kn)).size + 2 + (bs d.from_).size + 6 + (bs d.to_).size + 7 + (bs (Lx.dec d.cost.toNat)).size + 2) ≤ 9223372036854775807 := by omega
    refine wp_heldS (S := StillAt A1) (by kernel_rfl) ?_
    simp only [List.size_toArray, List.length_cons, List.length_nil, Nat.reduceAdd]
    intro hc
    have S0 : StillAt A1 (Array.replicate 23 false) A1.drew := (Below.refl _ _).drew
    refine wpAnyS_take (i := 0) (v := .string (bs acc)) rfl (by kernel_rfl) (by kernel_rfl) (by kernel_rfl) (fun _ _ _ h => h) (fun _ _ => Iff.rfl) hc (by first | rfl | simp [Region.wanted]) (fun wx hx => ?_) S0 (fun hc S0 => ?_)
    ·go_simp
    try simp only [tk1, tk3, Act.put, tk4, tk5, tk6]
    refine wpAnyS_take (i := 2) (v := .pointer (some ⟨wr.heap.size, 0, none⟩)) rfl (by kernel_rfl) (by kernel_rfl) (by kernel_rfl) (fun _ _ _ h => h) (fun _ _ => Iff.rfl) hc (by first | rfl | simp [Region.wanted]) (fun wx hx => ?_) S0 (fun hc S0 => ?_)
    ·go_simp
    try simp only [tk1, tk2, tk3, Act.put, tk4, tk5, tk6]
    refine wpAnyS_take (i := 3) (v := .int .i64 kn) rfl (by kernel_rfl) (by kernel_rfl) (by kernel_rfl) (fun _ _ _ h => h) (fun _ _ => Iff.rfl) hc (by first | rfl | simp [Region.wanted]) (fun wx hx => ?_) S0 (fun hc S0 => ?_)
    ·have q := (hx.still.cell (p := ⟨wr.heap.size, 0, none⟩) zl).trans z0
     go_simp
    try simp only [tk1, tk2, tk3, Act.put, tk4, tk5, tk6]
    refine wpAnyS_take (i := 8) (v := .pointer (some ⟨wr.heap.size, 1, none⟩)) rfl (by kernel_rfl) (by kernel_rfl) (by kernel_rfl) (fun _ _ _ h => h) (fun _ _ => Iff.rfl) hc (by first | rfl | simp [Region.wanted]) (fun wx hx => ?_) S0 (fun hc S0 => ?_)
    ·go_simp
    try simp only [tk1, tk2, tk3, Act.put, tk4, tk5, tk6]
    refine wpAnyS_take (i := 9) (v := .string (bs d.from_)) rfl (by kernel_rfl) (by kernel_rfl) (by kernel_rfl) (fun _ _ _ h => h) (fun _ _ => Iff.rfl) hc (by first | rfl | simp [Region.wanted]) (fun wx hx => ?_) S0 (fun hc S0 => ?_)
    ·have q := (hx.still.cell (p := ⟨wr.heap.size, 1, none⟩) zl).trans z1
     go_simp
    try simp only [tk1, tk2, tk3, Act.put, tk4, tk5, tk6]
    refine wpAnyS_take (i := 12) (v := .pointer (some ⟨wr.heap.size, 2, none⟩)) rfl (by kernel_rfl) (by kernel_rfl) (by kernel_rfl) (fun _ _ _ h => h) (fun _ _ => Iff.rfl) hc (by first | rfl | simp [Region.wanted]) (fun wx hx => ?_) S0 (fun hc S0 => ?_)
    ·go_simp
    try simp only [tk1, tk2, tk3, Act.put, tk4, tk5, tk6]
    refine wpAnyS_take (i := 13) (v := .string (bs d.to_)) rfl (by kernel_rfl) (by kernel_rfl) (by kernel_rfl) (fun _ _ _ h => h) (fun _ _ => Iff.rfl) hc (by first | rfl | simp [Region.wanted]) (fun wx hx => ?_) S0 (fun hc S0 => ?_)
    ·have q := (hx.still.cell (p := ⟨wr.heap.size, 2, none⟩) zl).trans z2
     go_simp
    try simp only [tk1, tk2, tk3, Act.put, tk4, tk5, tk6]
    refine wpAnyS_take (i := 16) (v := .pointer (some ⟨wr.heap.size, 3, none⟩)) rfl (by kernel_rfl) (by kernel_rfl) (by kernel_rfl) (fun _ _ _ h => h) (fun _ _ => Iff.rfl) hc (by first | rfl | simp [Region.wanted]) (fun wx hx => ?_) S0 (fun hc S0 => ?_)
    ·go_simp
    try simp only [tk1, tk2, tk3, Act.put, tk4, tk5, tk6]
    refine wpAnyS_take (i := 17) (v := .int .i64 d.cost) rfl (by kernel_rfl) (by kernel_rfl) (by kernel_rfl) (fun _ _ _ h => h) (fun _ _ => Iff.rfl) hc (by first | rfl | simp [Region.wanted]) (fun wx hx => ?_) S0 (fun hc S0 => ?_)
    ·have q := (hx.still.cell (p := ⟨wr.heap.size, 3, none⟩) zl).trans z3
     go_simp
    try simp only [tk1, tk2, tk3, Act.put, tk4, tk5, tk6]
    refine wpAnyS_one (i := 1) rfl (by kernel_rfl) (by rfl) hc (fun K' hK => ?_)
    go_simp
    refine (HNA.out).mono ?_
    rintro e X1 ⟨rfl, hb, hfive⟩
    have DX1 := hid (Below.step (Below.refl _ A1).drew hb)
    obtain ⟨nl, nc⟩ := five_cell hfive hn1 hn4
    clear hb hfive
    refine hK.out _ _ DX1.out (fun hc => ?_)
    clear hK K'
    have S0 : StillAt A1 #[] X1 := DX1.out
    try simp only [tk1, tk2, tk3, Act.put, tk4, tk5, tk6]
    refine wpAnyS_more (S2 := StillAt X1) (fun _ _ h => Below.step DX1.out h) _ _ _ _ ?_
    have S0 : StillAt X1 #[] X1 := Below.refl _ _
    refine wpAnyS_take (i := 4) (v := .pointer (some ⟨nb, kn, none⟩)) rfl (by kernel_rfl) (by kernel_rfl) (by kernel_rfl) (fun _ _ _ h => h) (fun _ _ => Iff.rfl) hc (by first | rfl | simp [Region.wanted]) (fun wx hx => ?_) S0 (fun hc S0 => ?_)
    ·go_simp
    try simp only [tk1, tk2, tk3, Act.put, tk4, tk5, tk6]
    refine wpAnyS_take (i := 5) (v := .string (bs (Rw.scrT kn))) rfl (by kernel_rfl) (by kernel_rfl) (by kernel_rfl) (fun _ _ _ h => h) (fun _ _ => Iff.rfl) hc (by first | rfl | simp [Region.wanted]) (fun wx hx => ?_) S0 (fun hc S0 => ?_)
    ·have q := (hx.still.cell (p := ⟨nb, kn, none⟩) nl).trans nc
     go_simp
    try simp only [tk1, tk2, tk3, Act.put, tk4, tk5, tk6]
    refine wpAnyS_take (i := 6) (v := .string (⟨#[114, 117, 108, 101, 32]⟩ ++ bs (Rw.scrT kn))) rfl (by kernel_rfl) (by kernel_rfl) (by kernel_rfl) (fun _ _ _ h => h) (fun _ _ => Iff.rfl) hc (by first | rfl | simp [Region.wanted]) (fun wx hx => ?_) S0 (fun hc S0 => ?_)
    ·go_simp
    try simp only [tk1, tk2, tk3, Act.put, tk4, tk5, tk6]
    refine wpAnyS_take (i := 7) (v := .string (⟨#[114, 117, 108, 101, 32]⟩ ++ bs (Rw.scrT kn) ++ ⟨#[32, 34]⟩)) rfl (by kernel_rfl) (by kernel_rfl) (by kernel_rfl) (fun _ _ _ h => h) (fun _ _ => Iff.rfl) hc (by first | rfl | simp [Region.wanted]) (fun wx hx => ?_) S0 (fun hc S0 => ?_)
    ·go_simp
    try simp only [tk1, tk2, tk3, Act.put, tk4, tk5, tk6]
    refine wpAnyS_take (i := 10) (v := .string (⟨#[114, 117, 108, 101, 32]⟩ ++ bs (Rw.scrT kn) ++ ⟨#[32, 34]⟩ ++ bs d.from_)) rfl (by kernel_rfl) (by kernel_rfl) (by kernel_rfl) (fun _ _ _ h => h) (fun _ _ => Iff.rfl) hc (by first | rfl | simp [Region.wanted]) (fun wx hx => ?_) S0 (fun hc S0 => ?_)
    ·go_simp
    try simp only [tk1, tk2, tk3, Act.put, tk4, tk5, tk6]
    refine wpAnyS_take (i := 11) (v := .string (⟨#[114, 117, 108, 101, 32]⟩ ++ bs (Rw.scrT kn) ++ ⟨#[32, 34]⟩ ++ bs d.from_ ++ ⟨#[34, 32, 116, 111, 32, 34]⟩)) rfl (by kernel_rfl) (by kernel_rfl) (by kernel_rfl) (fun _ _ _ h => h) (fun _ _ => Iff.rfl) hc (by first | rfl | simp [Region.wanted]) (fun wx hx => ?_) S0 (fun hc S0 => ?_)
    ·go_simp
    try simp only [tk1, tk2, tk3, Act.put, tk4, tk5, tk6]
    refine wpAnyS_take (i := 14) (v := .string (⟨#[114, 117, 108, 101, 32]⟩ ++ bs (Rw.scrT kn) ++ ⟨#[32, 34]⟩ ++ bs d.from_ ++ ⟨#[34, 32, 116, 111, 32, 34]⟩ ++ bs d.to_)) rfl (by kernel_rfl) (by kernel_rfl) (by kernel_rfl) (fun _ _ _ h => h) (fun _ _ => Iff.rfl) hc (by first | rfl | simp [Region.wanted]) (fun wx hx => ?_) S0 (fun hc S0 => ?_)
    ·go_simp
    try simp only [tk1, tk2, tk3, Act.put, tk4, tk5, tk6]
    refine wpAnyS_take (i := 15) (v := .string (⟨#[114, 117, 108, 101, 32]⟩ ++ bs (Rw.scrT kn) ++ ⟨#[32, 34]⟩ ++ bs d.from_ ++ ⟨#[34, 32, 116, 111, 32, 34]⟩ ++ bs d.to_ ++ ⟨#[34, 32, 99, 111, 115, 116, 32]⟩)) rfl (by kernel_rfl) (by kernel_rfl) (by kernel_rfl) (fun _ _ _ h => h) (fun _ _ => Iff.rfl) hc (by first | rfl | simp [Region.wanted]) (fun wx hx => ?_) S0 (fun hc S0 => ?_)
    ·go_simp
    try simp only [tk1, tk2, tk3, Act.put, tk4, tk5, tk6]
    have HD2 := hid (decimal1_any d.cost hc0 (by omega) X1)
    refine wpAnyS_one (i := 18) rfl (by kernel_rfl) (by rfl) hc (fun K' hK => ?_)
    go_simp
    refine (HD2.out).mono ?_
    rintro e X2 ⟨rfl, hb2⟩
    have DX2 := hid (show Below X1.heap.size X1 X2 by rw [hb2]; exact Below.refl _ _)
    clear hb2
    refine hK.out _ _ DX2.out (fun hc => ?_)
    clear hK K'
    have S0 : StillAt X1 #[] X2 := DX2.out
    try simp only [tk1, tk2, tk3, Act.put, tk4, tk5, tk6]
    refine wpAnyS_more (S2 := StillAt X2) (fun _ _ h => Below.step DX2.out h) _ _ _ _ ?_
    have S0 : StillAt X2 #[] X2 := Below.refl _ _
    refine wpAnyS_take (i := 19) (v := .string (⟨#[114, 117, 108, 101, 32]⟩ ++ bs (Rw.scrT kn) ++ ⟨#[32, 34]⟩ ++ bs d.from_ ++ ⟨#[34, 32, 116, 111, 32, 34]⟩ ++ bs d.to_ ++ ⟨#[34, 32, 99, 111, 115, 116, 32]⟩ ++ bs (Lx.dec d.cost.toNat))) rfl (by kernel_rfl) (by kernel_rfl) (by kernel_rfl) (fun _ _ _ h => h) (fun _ _ => Iff.rfl) hc (by first | rfl | simp [Region.wanted]) (fun wx hx => ?_) S0 (fun hc S0 => ?_)
    ·go_simp
    try simp only [tk1, tk2, tk3, Act.put, tk4, tk5, tk6]
    refine wpAnyS_take (i := 20) (v := .string (⟨#[114, 117, 108, 101, 32]⟩ ++ bs (Rw.scrT kn) ++ ⟨#[32, 34]⟩ ++ bs d.from_ ++ ⟨#[34, 32, 116, 111, 32, 34]⟩ ++ bs d.to_ ++ ⟨#[34, 32, 99, 111, 115, 116, 32]⟩ ++ bs (Lx.dec d.cost.toNat) ++ ⟨#[59, 10]⟩)) rfl (by kernel_rfl) (by kernel_rfl) (by kernel_rfl) (fun _ _ _ h => h) (fun _ _ => Iff.rfl) hc (by first | rfl | simp [Region.wanted]) (fun wx hx => ?_) S0 (fun hc S0 => ?_)
    ·go_simp
    try simp only [tk1, tk2, tk3, Act.put, tk4, tk5, tk6]
    refine wpAnyS_take (i := 21) (v := .string (bs acc ++ (⟨#[114, 117, 108, 101, 32]⟩ ++ bs (Rw.scrT kn) ++ ⟨#[32, 34]⟩ ++ bs d.from_ ++ ⟨#[34, 32, 116, 111, 32, 34]⟩ ++ bs d.to_ ++ ⟨#[34, 32, 99, 111, 115, 116, 32]⟩ ++ bs (Lx.dec d.cost.toNat) ++ ⟨#[59, 10]⟩))) rfl (by kernel_rfl) (by kernel_rfl) (by kernel_rfl) (fun _ _ _ h => h) (fun _ _ => Iff.rfl) hc (by first | rfl | simp [Region.wanted]) (fun wx hx => ?_) S0 (fun hc S0 => ?_)
    ·go_simp
    try simp only [tk1, tk2, tk3, Act.put, tk4, tk5, tk6]
    refine wpAnyS_one (i := 22) rfl (by kernel_rfl) (by rfl) hc (fun K' hK => ?_)
    go_simp
    refine hK.out _ _ (Below.refl _ X2) (fun hc => ?_)
    clear hK K'
    have S0 : StillAt X2 #[] X2 := (Below.refl _ X2)
    try simp only [tk1, tk2, tk3, Act.put, tk4, tk5, tk6]
    refine wpAnyS_done (by kernel_rfl) ?_ _
    clear hc S0
    have HBX := hid (Below.step HBA.out (Below.step DX1.out DX2.out))
    rw [HEQ.out]
    go_wp2_with fail
    go_roundw
    case rel => exact ⟨j + 1, by omega, by go_num, by rw [HST.out], HBX⟩
    case measure => simp [RowKit.intOf]; omega
   ·have j1 : ¬ (j : Int) < (t.rules.length : Int) := by omega
    have y1 := HT4.out.cell (j := 1) rfl
    rw [show t.rules.take j = t.rules from List.take_of_length_le (by omega)]
    go_wp2_with fail
    have HR0 := hid HR.out
    go_loopw [4, 7] (fun sv iv wx => ∃ j : Nat, j ≤ t.drops.length ∧ iv = .int .i64 j ∧ sv = .string (bs (t.rules.flatMap Rw.ruleT ++ (t.drops.take j).flatMap (Rw.dropT Rw.tDrop))) ∧ Hid (Below w2.heap.size w2 wx)) (fun _ iv _ => t.drops.length - (RowKit.intOf iv).toNat)
    case atStart => exact ⟨0, Nat.zero_le _, rfl, by rw [List.take_zero, List.flatMap_nil, List.append_nil], HR0⟩
    case round =>
     clear HR0 HR HT4 y0 y1 hz4 hj hjt j1
     rename World => wr
     obtain ⟨j, hj, rfl, rfl, HR⟩ := hrel
     have HT4 := hid (HT2.out.below HR.out)
     have y0 := HT4.out.cell (j := 1) rfl
     have hz4 := HT4.out.lt
     by_cases hjt : j < t.drops.length
     ·obtain ⟨g, o, rfl, hr⟩ := hS2.out (by omega)
      obtain ⟨d, hd⟩ : ∃ d, t.drops[j]? = some d := ⟨_, List.getElem?_eq_getElem hjt⟩
      have hm := List.mem_of_getElem? hd
      have hbW := Below.step HB2.out HR.out
      have hc := (hr.below hbW).2 j d hd
      have e0 := hc 0 _ rfl
      have e1 := hc 1 _ rfl
      have e2 := hc 2 _ rfl
      rw [Nat.add_zero] at e0
      have hg := (hr.below hbW).1
      have j0 : (0 : Int) ≤ (j : Int) := by omega
      have j1 : (j : Int) < (t.drops.length : Int) := by omega
      obtain ⟨f, hlf, -, -, -, -, hc0, hc1⟩ := Fo.letters_drop (HVD.out.2 d hm)
      obtain ⟨hk1, hk4⟩ := Rw.lets_script hlf
      obtain ⟨kn, hkn⟩ : ∃ kn : Nat, d.script = (kn : Int) := ⟨d.script.toNat, by omega⟩
      have hn1 : 1 ≤ kn := by omega
      have hn4 : kn ≤ 4 := by omega
      rw [hkn] at e0
      have hk0 : (0 : Int) ≤ (kn : Int) := by omega
      have hk5 : (kn : Int) < 5 := by omega
      obtain ⟨acc, hacc⟩ : ∃ acc, acc = t.rules.flatMap Rw.ruleT ++ (t.drops.take j).flatMap (Rw.dropT Rw.tDrop) := ⟨_, rfl⟩
      have HST := hid (show t.rules.flatMap Rw.ruleT ++ (t.drops.take (j + 1)).flatMap (Rw.dropT Rw.tDrop) = acc ++ Rw.dropT Rw.tDrop d by rw [take_next hd, List.flatMap_append, hacc]; simp)
      have ha : (bs acc).size ≤ 300000 := by
       rw [bs_len, hacc]
       simp only [List.length_append]
       have := HLD.out j
       have := HLR2.out
       have := HLD2.out
       omega
      have hs1 : (bs (Rw.scrT kn)).size ≤ 6 := by rw [bs_len]; exact Rw.scrT_len _
      have hs2 : (bs d.word).size ≤ 1000 := by rw [bs_len]; exact (hF2.out d hm).2
      have hs4 : (bs (Lx.dec d.cost.toNat)).size ≤ 4 := by rw [bs_len]; exact Rw.dec_cost hc0 hc1
      have HEQ := hid (show bs acc ++ (⟨#[100, 114, 111, 112, 32]⟩ ++ bs (Rw.scrT kn) ++ ⟨#[32, 34]⟩ ++ bs d.word ++ ⟨#[34, 32]⟩ ++ bs (Lx.dec d.cost.toNat) ++ ⟨#[59, 10]⟩) = bs (acc ++ Rw.dropT Rw.tDrop d) by
       refine bs_ext ?_
       rw [← drop_line, hkn]
       simp [ByteArray.data_append, bs])
      rw [← hacc]
      clear hc hr hd hbW hm hlf hkn hacc hk1 hk4
      go_upto_region 12 with (fail)
      obtain ⟨nb, hnb⟩ : ∃ nb, nb = wr.drew.heap.size := ⟨_, rfl⟩
      have HNA := hid (show Calls Tryz.prog 58 #[] wr.drew (fun e w' => e = .returned (.slice (some ⟨nb, 0, none⟩) 5 5) ∧ Below wr.drew.heap.size wr.drew w' ∧ w'.heap[nb]? = some (.cells fiveT 9 (0, 0))) by
       rw [hnb]
       refine (rnames_any wr.drew).mono ?_
       rintro e w' ⟨rfl, rfl⟩
       exact ⟨rfl, (Below.refl _ _).alloc (Nat.le_refl _) _, alloc_new _ _⟩)
      clear hnb
      have x2 : 5 + (bs (Rw.scrT kn)).size ≤ 9223372036854775807 := by omega
      have x3 : 5 + (bs (Rw.scrT kn)).size + 2 ≤ 9223372036854775807 := by omega
      have x4 : 5 + (bs (Rw.scrT kn)).size + 2 + (bs d.word).size ≤ 9223372036854775807 := by omega
      have x5 : 5 + (bs (Rw.scrT kn)).size + 2 + (bs d.word).size + 2 ≤ 9223372036854775807 := by omega
      have x6 : 5 + (bs (Rw.scrT kn)).size + 2 + (bs d.word).size + 2 + (bs (Lx.dec d.cost.toNat)).size ≤ 9223372036854775807 := by omega
      have x7 : 5 + (bs (Rw.scrT kn)).size + 2 + (bs d.word).size + 2 + (bs (Lx.dec d.cost.toNat)).size + 2 ≤ 9223372036854775807 := by omega
      have xa : (bs acc).size + (5 + (bs (Rw.scrT kn)).size + 2 + (bs d.word).size + 2 + (bs (Lx.dec d.cost.toNat)).size + 2) ≤ 9223372036854775807 := by omega
      refine wp_heldS (S := StillAt wr) (by kernel_rfl) ?_
      simp only [List.size_toArray, List.length_cons, List.length_nil, Nat.reduceAdd]
      intro hc
      have S0 : StillAt wr (Array.replicate 31 false) wr.drew := (Below.refl _ _).drew
      refine wpAnyS_take (i := 0) (v := .string (bs acc)) rfl (by kernel_rfl) (by kernel_rfl) (by kernel_rfl) (fun _ _ _ h => h) (fun _ _ => Iff.rfl) hc (by first | rfl | simp [Region.wanted]) (fun wx hx => ?_) S0 (fun hc S0 => ?_)
      ·go_simp
      try simp only [tk1, tk3, Act.put, tk4, tk5, tk6]
      refine wpAnyS_take (i := 2) (v := .pointer (some ⟨W.heap.size, 1, none⟩)) rfl (by kernel_rfl) (by kernel_rfl) (by kernel_rfl) (fun _ _ _ h => h) (fun _ _ => Iff.rfl) hc (by first | rfl | simp [Region.wanted]) (fun wx hx => ?_) S0 (fun hc S0 => ?_)
      ·go_simp
      try simp only [tk1, tk2, tk3, Act.put, tk4, tk5, tk6]
      refine wpAnyS_take (i := 3) (v := .slice (some ⟨g, o, none⟩) t.drops.length cd) rfl (by kernel_rfl) (by kernel_rfl) (by kernel_rfl) (fun _ _ _ h => h) (fun _ _ => Iff.rfl) hc (by first | rfl | simp [Region.wanted]) (fun wx hx => ?_) S0 (fun hc S0 => ?_)
      ·have q := (hx.still.cell (p := ⟨W.heap.size, 1, none⟩) hz4).trans y0
       go_simp
      try simp only [tk1, tk2, tk3, Act.put, tk4, tk5, tk6]
      refine wpAnyS_take (i := 4) (v := .int .i64 j) rfl (by kernel_rfl) (by kernel_rfl) (by kernel_rfl) (fun _ _ _ h => h) (fun _ _ => Iff.rfl) hc (by first | rfl | simp [Region.wanted]) (fun wx hx => ?_) S0 (fun hc S0 => ?_)
      ·go_simp
      try simp only [tk1, tk2, tk3, Act.put, tk4, tk5, tk6]
      refine wpAnyS_take (i := 5) (v := .pointer (some ⟨g, o + j * 3, none⟩)) rfl (by kernel_rfl) (by kernel_rfl) (by kernel_rfl) (fun _ _ _ h => h) (fun _ _ => Iff.rfl) hc (by first | rfl | simp [Region.wanted]) (fun wx hx => ?_) S0 (fun hc S0 => ?_)
      ·go_simp
      try simp only [tk1, tk2, tk3, Act.put, tk4, tk5, tk6]
      refine wpAnyS_take (i := 6) (v := .pointer (some ⟨g, o + j * 3, none⟩)) rfl (by kernel_rfl) (by kernel_rfl) (by kernel_rfl) (fun _ _ _ h => h) (fun _ _ => Iff.rfl) hc (by first | rfl | simp [Region.wanted]) (fun wx hx => ?_) S0 (fun hc S0 => ?_)
      ·go_simp
      try simp only [tk1, tk2, tk3, Act.put, tk4, tk5, tk6]
      refine wpAnyS_take (i := 7) (v := .int .i64 kn) rfl (by kernel_rfl) (by kernel_rfl) (by kernel_rfl) (fun _ _ _ h => h) (fun _ _ => Iff.rfl) hc (by first | rfl | simp [Region.wanted]) (fun wx hx => ?_) S0 (fun hc S0 => ?_)
      ·have q := (hx.still.cell (p := ⟨g, o + j * 3, none⟩) hg).trans e0
       go_simp
      try simp only [tk1, tk2, tk3, Act.put, tk4, tk5, tk6]
      refine wpAnyS_take (i := 12) (v := .pointer (some ⟨W.heap.size, 1, none⟩)) rfl (by kernel_rfl) (by kernel_rfl) (by kernel_rfl) (fun _ _ _ h => h) (fun _ _ => Iff.rfl) hc (by first | rfl | simp [Region.wanted]) (fun wx hx => ?_) S0 (fun hc S0 => ?_)
      ·go_simp
      try simp only [tk1, tk2, tk3, Act.put, tk4, tk5, tk6]
      refine wpAnyS_take (i := 13) (v := .slice (some ⟨g, o, none⟩) t.drops.length cd) rfl (by kernel_rfl) (by kernel_rfl) (by kernel_rfl) (fun _ _ _ h => h) (fun _ _ => Iff.rfl) hc (by first | rfl | simp [Region.wanted]) (fun wx hx => ?_) S0 (fun hc S0 => ?_)
      ·have q := (hx.still.cell (p := ⟨W.heap.size, 1, none⟩) hz4).trans y0
       go_simp
      try simp only [tk1, tk2, tk3, Act.put, tk4, tk5, tk6]
      refine wpAnyS_take (i := 14) (v := .int .i64 j) rfl (by kernel_rfl) (by kernel_rfl) (by kernel_rfl) (fun _ _ _ h => h) (fun _ _ => Iff.rfl) hc (by first | rfl | simp [Region.wanted]) (fun wx hx => ?_) S0 (fun hc S0 => ?_)
      ·go_simp
      try simp only [tk1, tk2, tk3, Act.put, tk4, tk5, tk6]
      refine wpAnyS_take (i := 15) (v := .pointer (some ⟨g, o + j * 3, none⟩)) rfl (by kernel_rfl) (by kernel_rfl) (by kernel_rfl) (fun _ _ _ h => h) (fun _ _ => Iff.rfl) hc (by first | rfl | simp [Region.wanted]) (fun wx hx => ?_) S0 (fun hc S0 => ?_)
      ·go_simp
      try simp only [tk1, tk2, tk3, Act.put, tk4, tk5, tk6]
      refine wpAnyS_take (i := 16) (v := .pointer (some ⟨g, o + j * 3 + 1, none⟩)) rfl (by kernel_rfl) (by kernel_rfl) (by kernel_rfl) (fun _ _ _ h => h) (fun _ _ => Iff.rfl) hc (by first | rfl | simp [Region.wanted]) (fun wx hx => ?_) S0 (fun hc S0 => ?_)
      ·go_simp
      try simp only [tk1, tk2, tk3, Act.put, tk4, tk5, tk6]
      refine wpAnyS_take (i := 17) (v := .string (bs d.word)) rfl (by kernel_rfl) (by kernel_rfl) (by kernel_rfl) (fun _ _ _ h => h) (fun _ _ => Iff.rfl) hc (by first | rfl | simp [Region.wanted]) (fun wx hx => ?_) S0 (fun hc S0 => ?_)
      ·have q := (hx.still.cell (p := ⟨g, o + j * 3 + 1, none⟩) hg).trans e1
       go_simp
      try simp only [tk1, tk2, tk3, Act.put, tk4, tk5, tk6]
      refine wpAnyS_take (i := 20) (v := .pointer (some ⟨W.heap.size, 1, none⟩)) rfl (by kernel_rfl) (by kernel_rfl) (by kernel_rfl) (fun _ _ _ h => h) (fun _ _ => Iff.rfl) hc (by first | rfl | simp [Region.wanted]) (fun wx hx => ?_) S0 (fun hc S0 => ?_)
      ·go_simp
      try simp only [tk1, tk2, tk3, Act.put, tk4, tk5, tk6]
      refine wpAnyS_take (i := 21) (v := .slice (some ⟨g, o, none⟩) t.drops.length cd) rfl (by kernel_rfl) (by kernel_rfl) (by kernel_rfl) (fun _ _ _ h => h) (fun _ _ => Iff.rfl) hc (by first | rfl | simp [Region.wanted]) (fun wx hx => ?_) S0 (fun hc S0 => ?_)
      ·have q := (hx.still.cell (p := ⟨W.heap.size, 1, none⟩) hz4).trans y0
       go_simp
      try simp only [tk1, tk2, tk3, Act.put, tk4, tk5, tk6]
      refine wpAnyS_take (i := 22) (v := .int .i64 j) rfl (by kernel_rfl) (by kernel_rfl) (by kernel_rfl) (fun _ _ _ h => h) (fun _ _ => Iff.rfl) hc (by first | rfl | simp [Region.wanted]) (fun wx hx => ?_) S0 (fun hc S0 => ?_)
      ·go_simp
      try simp only [tk1, tk2, tk3, Act.put, tk4, tk5, tk6]
      refine wpAnyS_take (i := 23) (v := .pointer (some ⟨g, o + j * 3, none⟩)) rfl (by kernel_rfl) (by kernel_rfl) (by kernel_rfl) (fun _ _ _ h => h) (fun _ _ => Iff.rfl) hc (by first | rfl | simp [Region.wanted]) (fun wx hx => ?_) S0 (fun hc S0 => ?_)
      ·go_simp
      try simp only [tk1, tk2, tk3, Act.put, tk4, tk5, tk6]
      refine wpAnyS_take (i := 24) (v := .pointer (some ⟨g, o + j * 3 + 2, none⟩)) rfl (by kernel_rfl) (by kernel_rfl) (by kernel_rfl) (fun _ _ _ h => h) (fun _ _ => Iff.rfl) hc (by first | rfl | simp [Region.wanted]) (fun wx hx => ?_) S0 (fun hc S0 => ?_)
      ·go_simp
      try simp only [tk1, tk2, tk3, Act.put, tk4, tk5, tk6]
      refine wpAnyS_take (i := 25) (v := .int .i64 d.cost) rfl (by kernel_rfl) (by kernel_rfl) (by kernel_rfl) (fun _ _ _ h => h) (fun _ _ => Iff.rfl) hc (by first | rfl | simp [Region.wanted]) (fun wx hx => ?_) S0 (fun hc S0 => ?_)
      ·have q := (hx.still.cell (p := ⟨g, o + j * 3 + 2, none⟩) hg).trans e2
       go_simp
      try simp only [tk1, tk2, tk3, Act.put, tk4, tk5, tk6]
      refine wpAnyS_one (i := 1) rfl (by kernel_rfl) (by rfl) hc (fun K' hK => ?_)
      go_simp
      refine (HNA.out).mono ?_
      rintro e X1 ⟨rfl, hb, hfive⟩
      have DX1 := hid (Below.step (Below.refl _ wr).drew hb)
      obtain ⟨nl, nc⟩ := five_cell hfive hn1 hn4
      clear hb hfive
      refine hK.out _ _ DX1.out (fun hc => ?_)
      clear hK K'
      have S0 : StillAt wr #[] X1 := DX1.out
      try simp only [tk1, tk2, tk3, Act.put, tk4, tk5, tk6]
      refine wpAnyS_more (S2 := StillAt X1) (fun _ _ h => Below.step DX1.out h) _ _ _ _ ?_
      have S0 : StillAt X1 #[] X1 := Below.refl _ _
      refine wpAnyS_take (i := 8) (v := .pointer (some ⟨nb, kn, none⟩)) rfl (by kernel_rfl) (by kernel_rfl) (by kernel_rfl) (fun _ _ _ h => h) (fun _ _ => Iff.rfl) hc (by first | rfl | simp [Region.wanted]) (fun wx hx => ?_) S0 (fun hc S0 => ?_)
      ·go_simp
      try simp only [tk1, tk2, tk3, Act.put, tk4, tk5, tk6]
      refine wpAnyS_take (i := 9) (v := .string (bs (Rw.scrT kn))) rfl (by kernel_rfl) (by kernel_rfl) (by kernel_rfl) (fun _ _ _ h => h) (fun _ _ => Iff.rfl) hc (by first | rfl | simp [Region.wanted]) (fun wx hx => ?_) S0 (fun hc S0 => ?_)
      ·have q := (hx.still.cell (p := ⟨nb, kn, none⟩) nl).trans nc
       go_simp
      try simp only [tk1, tk2, tk3, Act.put, tk4, tk5, tk6]
      refine wpAnyS_take (i := 10) (v := .string (⟨#[100, 114, 111, 112, 32]⟩ ++ bs (Rw.scrT kn))) rfl (by kernel_rfl) (by kernel_rfl) (by kernel_rfl) (fun _ _ _ h => h) (fun _ _ => Iff.rfl) hc (by first | rfl | simp [Region.wanted]) (fun wx hx => ?_) S0 (fun hc S0 => ?_)
      ·go_simp
      try simp only [tk1, tk2, tk3, Act.put, tk4, tk5, tk6]
      refine wpAnyS_take (i := 11) (v := .string (⟨#[100, 114, 111, 112, 32]⟩ ++ bs (Rw.scrT kn) ++ ⟨#[32, 34]⟩)) rfl (by kernel_rfl) (by kernel_rfl) (by kernel_rfl) (fun _ _ _ h => h) (fun _ _ => Iff.rfl) hc (by first | rfl | simp [Region.wanted]) (fun wx hx => ?_) S0 (fun hc S0 => ?_)
      ·go_simp
      try simp only [tk1, tk2, tk3, Act.put, tk4, tk5, tk6]
      refine wpAnyS_take (i := 18) (v := .string (⟨#[100, 114, 111, 112, 32]⟩ ++ bs (Rw.scrT kn) ++ ⟨#[32, 34]⟩ ++ bs d.word)) rfl (by kernel_rfl) (by kernel_rfl) (by kernel_rfl) (fun _ _ _ h => h) (fun _ _ => Iff.rfl) hc (by first | rfl | simp [Region.wanted]) (fun wx hx => ?_) S0 (fun hc S0 => ?_)
      ·go_simp
      try simp only [tk1, tk2, tk3, Act.put, tk4, tk5, tk6]
      refine wpAnyS_take (i := 19) (v := .string (⟨#[100, 114, 111, 112, 32]⟩ ++ bs (Rw.scrT kn) ++ ⟨#[32, 34]⟩ ++ bs d.word ++ ⟨#[34, 32]⟩)) rfl (by kernel_rfl) (by kernel_rfl) (by kernel_rfl) (fun _ _ _ h => h) (fun _ _ => Iff.rfl) hc (by first | rfl | simp [Region.wanted]) (fun wx hx => ?_) S0 (fun hc S0 => ?_)
      ·go_simp
      try simp only [tk1, tk2, tk3, Act.put, tk4, tk5, tk6]
      have HD2 := hid (decimal1_any d.cost hc0 (by omega) X1)
      refine wpAnyS_one (i := 26) rfl (by kernel_rfl) (by rfl) hc (fun K' hK => ?_)
      go_simp
      refine (HD2.out).mono ?_
      rintro e X2 ⟨rfl, hb2⟩
      have DX2 := hid (show Below X1.heap.size X1 X2 by rw [hb2]; exact Below.refl _ _)
      clear hb2
      refine hK.out _ _ DX2.out (fun hc => ?_)
      clear hK K'
      have S0 : StillAt X1 #[] X2 := DX2.out
      try simp only [tk1, tk2, tk3, Act.put, tk4, tk5, tk6]
      refine wpAnyS_more (S2 := StillAt X2) (fun _ _ h => Below.step DX2.out h) _ _ _ _ ?_
      have S0 : StillAt X2 #[] X2 := Below.refl _ _
      refine wpAnyS_take (i := 27) (v := .string (⟨#[100, 114, 111, 112, 32]⟩ ++ bs (Rw.scrT kn) ++ ⟨#[32, 34]⟩ ++ bs d.word ++ ⟨#[34, 32]⟩ ++ bs (Lx.dec d.cost.toNat))) rfl (by kernel_rfl) (by kernel_rfl) (by kernel_rfl) (fun _ _ _ h => h) (fun _ _ => Iff.rfl) hc (by first | rfl | simp [Region.wanted]) (fun wx hx => ?_) S0 (fun hc S0 => ?_)
      ·go_simp
      try simp only [tk1, tk2, tk3, Act.put, tk4, tk5, tk6]
      refine wpAnyS_take (i := 28) (v := .string (⟨#[100, 114, 111, 112, 32]⟩ ++ bs (Rw.scrT kn) ++ ⟨#[32, 34]⟩ ++ bs d.word ++ ⟨#[34, 32]⟩ ++ bs (Lx.dec d.cost.toNat) ++ ⟨#[59, 10]⟩)) rfl (by kernel_rfl) (by kernel_rfl) (by kernel_rfl) (fun _ _ _ h => h) (fun _ _ => Iff.rfl) hc (by first | rfl | simp [Region.wanted]) (fun wx hx => ?_) S0 (fun hc S0 => ?_)
      ·go_simp
      try simp only [tk1, tk2, tk3, Act.put, tk4, tk5, tk6]
      refine wpAnyS_take (i := 29) (v := .string (bs acc ++ (⟨#[100, 114, 111, 112, 32]⟩ ++ bs (Rw.scrT kn) ++ ⟨#[32, 34]⟩ ++ bs d.word ++ ⟨#[34, 32]⟩ ++ bs (Lx.dec d.cost.toNat) ++ ⟨#[59, 10]⟩))) rfl (by kernel_rfl) (by kernel_rfl) (by kernel_rfl) (fun _ _ _ h => h) (fun _ _ => Iff.rfl) hc (by first | rfl | simp [Region.wanted]) (fun wx hx => ?_) S0 (fun hc S0 => ?_)
      ·go_simp
      try simp only [tk1, tk2, tk3, Act.put, tk4, tk5, tk6]
      refine wpAnyS_one (i := 30) rfl (by kernel_rfl) (by rfl) hc (fun K' hK => ?_)
      go_simp
      refine hK.out _ _ (Below.refl _ X2) (fun hc => ?_)
      clear hK K'
      have S0 : StillAt X2 #[] X2 := (Below.refl _ X2)
      try simp only [tk1, tk2, tk3, Act.put, tk4, tk5, tk6]
      refine wpAnyS_done (by kernel_rfl) ?_ _
      clear hc S0
      have HBX := hid (Below.step HR.out (Below.step DX1.out DX2.out))
      rw [HEQ.out]
      go_wp2_with fail
      go_roundw
      case rel => exact ⟨j + 1, by omega, by go_num, by rw [HST.out], HBX⟩
      case measure => simp [RowKit.intOf]; omega
     ·have j1 : ¬ (j : Int) < (t.drops.length : Int) := by omega
      have y1 := HT4.out.cell (j := 2) rfl
      rw [show t.drops.take j = t.drops from List.take_of_length_le (by omega)]
      go_wp2_with fail
      have HR0 := hid HR.out
      go_loopw [4, 8] (fun sv iv wx => ∃ j : Nat, j ≤ t.ends.length ∧ iv = .int .i64 j ∧ sv = .string (bs ((t.rules.flatMap Rw.ruleT ++ t.drops.flatMap (Rw.dropT Rw.tDrop)) ++ (t.ends.take j).flatMap (Rw.dropT Rw.tEnd))) ∧ Hid (Below w2.heap.size w2 wx)) (fun _ iv _ => t.ends.length - (RowKit.intOf iv).toNat)
      case atStart => exact ⟨0, Nat.zero_le _, rfl, by rw [List.take_zero, List.flatMap_nil, List.append_nil], HR0⟩
      case round =>
       clear HR0 HR HT4 y0 y1 hz4 hj hjt j1
       rename World => wr
       obtain ⟨j, hj, rfl, rfl, HR⟩ := hrel
       have HT4 := hid (HT2.out.below HR.out)
       have y0 := HT4.out.cell (j := 2) rfl
       have hz4 := HT4.out.lt
       by_cases hjt : j < t.ends.length
       ·obtain ⟨g, o, rfl, hr⟩ := hS3.out (by omega)
        obtain ⟨d, hd⟩ : ∃ d, t.ends[j]? = some d := ⟨_, List.getElem?_eq_getElem hjt⟩
        have hm := List.mem_of_getElem? hd
        have hbW := Below.step HB2.out HR.out
        have hc := (hr.below hbW).2 j d hd
        have e0 := hc 0 _ rfl
        have e1 := hc 1 _ rfl
        have e2 := hc 2 _ rfl
        rw [Nat.add_zero] at e0
        have hg := (hr.below hbW).1
        have j0 : (0 : Int) ≤ (j : Int) := by omega
        have j1 : (j : Int) < (t.ends.length : Int) := by omega
        obtain ⟨f, hlf, -, -, -, -, hc0, hc1⟩ := Fo.letters_drop (HVE.out.2 d hm)
        obtain ⟨hk1, hk4⟩ := Rw.lets_script hlf
        obtain ⟨kn, hkn⟩ : ∃ kn : Nat, d.script = (kn : Int) := ⟨d.script.toNat, by omega⟩
        have hn1 : 1 ≤ kn := by omega
        have hn4 : kn ≤ 4 := by omega
        rw [hkn] at e0
        have hk0 : (0 : Int) ≤ (kn : Int) := by omega
        have hk5 : (kn : Int) < 5 := by omega
        obtain ⟨acc, hacc⟩ : ∃ acc, acc = (t.rules.flatMap Rw.ruleT ++ t.drops.flatMap (Rw.dropT Rw.tDrop)) ++ (t.ends.take j).flatMap (Rw.dropT Rw.tEnd) := ⟨_, rfl⟩
        have HST := hid (show (t.rules.flatMap Rw.ruleT ++ t.drops.flatMap (Rw.dropT Rw.tDrop)) ++ (t.ends.take (j + 1)).flatMap (Rw.dropT Rw.tEnd) = acc ++ Rw.dropT Rw.tEnd d by rw [take_next hd, List.flatMap_append, hacc]; simp)
        have ha : (bs acc).size ≤ 300000 := by
         rw [bs_len, hacc]
         simp only [List.length_append]
         have := HLE.out j
         have := HLR2.out
         have := HLD2.out
         omega
        have hs1 : (bs (Rw.scrT kn)).size ≤ 6 := by rw [bs_len]; exact Rw.scrT_len _
        have hs2 : (bs d.word).size ≤ 1000 := by rw [bs_len]; exact (hF3.out d hm).2
        have hs4 : (bs (Lx.dec d.cost.toNat)).size ≤ 4 := by rw [bs_len]; exact Rw.dec_cost hc0 hc1
        have HEQ := hid (show bs acc ++ (⟨#[101, 110, 100, 32]⟩ ++ bs (Rw.scrT kn) ++ ⟨#[32, 34]⟩ ++ bs d.word ++ ⟨#[34, 32]⟩ ++ bs (Lx.dec d.cost.toNat) ++ ⟨#[59, 10]⟩) = bs (acc ++ Rw.dropT Rw.tEnd d) by
         refine bs_ext ?_
         rw [← end_line, hkn]
         simp [ByteArray.data_append, bs])
        rw [← hacc]
        clear hc hr hd hbW hm hlf hkn hacc hk1 hk4
        go_upto_region 16 with (fail)
        obtain ⟨nb, hnb⟩ : ∃ nb, nb = wr.drew.heap.size := ⟨_, rfl⟩
        have HNA := hid (show Calls Tryz.prog 58 #[] wr.drew (fun e w' => e = .returned (.slice (some ⟨nb, 0, none⟩) 5 5) ∧ Below wr.drew.heap.size wr.drew w' ∧ w'.heap[nb]? = some (.cells fiveT 9 (0, 0))) by
         rw [hnb]
         refine (rnames_any wr.drew).mono ?_
         rintro e w' ⟨rfl, rfl⟩
         exact ⟨rfl, (Below.refl _ _).alloc (Nat.le_refl _) _, alloc_new _ _⟩)
        clear hnb
        have x2 : 4 + (bs (Rw.scrT kn)).size ≤ 9223372036854775807 := by omega
        have x3 : 4 + (bs (Rw.scrT kn)).size + 2 ≤ 9223372036854775807 := by omega
        have x4 : 4 + (bs (Rw.scrT kn)).size + 2 + (bs d.word).size ≤ 9223372036854775807 := by omega
        have x5 : 4 + (bs (Rw.scrT kn)).size + 2 + (bs d.word).size + 2 ≤ 9223372036854775807 := by omega
        have x6 : 4 + (bs (Rw.scrT kn)).size + 2 + (bs d.word).size + 2 + (bs (Lx.dec d.cost.toNat)).size ≤ 9223372036854775807 := by omega
        have x7 : 4 + (bs (Rw.scrT kn)).size + 2 + (bs d.word).size + 2 + (bs (Lx.dec d.cost.toNat)).size + 2 ≤ 9223372036854775807 := by omega
        have xa : (bs acc).size + (4 + (bs (Rw.scrT kn)).size + 2 + (bs d.word).size + 2 + (bs (Lx.dec d.cost.toNat)).size + 2) ≤ 9223372036854775807 := by omega
        refine wp_heldS (S := StillAt wr) (by kernel_rfl) ?_
        simp only [List.size_toArray, List.length_cons, List.length_nil, Nat.reduceAdd]
        intro hc
        have S0 : StillAt wr (Array.replicate 31 false) wr.drew := (Below.refl _ _).drew
        refine wpAnyS_take (i := 0) (v := .string (bs acc)) rfl (by kernel_rfl) (by kernel_rfl) (by kernel_rfl) (fun _ _ _ h => h) (fun _ _ => Iff.rfl) hc (by first | rfl | simp [Region.wanted]) (fun wx hx => ?_) S0 (fun hc S0 => ?_)
        ·go_simp
        try simp only [tk1, tk3, Act.put, tk4, tk5, tk6]
        refine wpAnyS_take (i := 2) (v := .pointer (some ⟨W.heap.size, 2, none⟩)) rfl (by kernel_rfl) (by kernel_rfl) (by kernel_rfl) (fun _ _ _ h => h) (fun _ _ => Iff.rfl) hc (by first | rfl | simp [Region.wanted]) (fun wx hx => ?_) S0 (fun hc S0 => ?_)
        ·go_simp
        try simp only [tk1, tk2, tk3, Act.put, tk4, tk5, tk6]
        refine wpAnyS_take (i := 3) (v := .slice (some ⟨g, o, none⟩) t.ends.length ce) rfl (by kernel_rfl) (by kernel_rfl) (by kernel_rfl) (fun _ _ _ h => h) (fun _ _ => Iff.rfl) hc (by first | rfl | simp [Region.wanted]) (fun wx hx => ?_) S0 (fun hc S0 => ?_)
        ·have q := (hx.still.cell (p := ⟨W.heap.size, 2, none⟩) hz4).trans y0
         go_simp
        try simp only [tk1, tk2, tk3, Act.put, tk4, tk5, tk6]
        refine wpAnyS_take (i := 4) (v := .int .i64 j) rfl (by kernel_rfl) (by kernel_rfl) (by kernel_rfl) (fun _ _ _ h => h) (fun _ _ => Iff.rfl) hc (by first | rfl | simp [Region.wanted]) (fun wx hx => ?_) S0 (fun hc S0 => ?_)
        ·go_simp
        try simp only [tk1, tk2, tk3, Act.put, tk4, tk5, tk6]
        refine wpAnyS_take (i := 5) (v := .pointer (some ⟨g, o + j * 3, none⟩)) rfl (by kernel_rfl) (by kernel_rfl) (by kernel_rfl) (fun _ _ _ h => h) (fun _ _ => Iff.rfl) hc (by first | rfl | simp [Region.wanted]) (fun wx hx => ?_) S0 (fun hc S0 => ?_)
        ·go_simp
        try simp only [tk1, tk2, tk3, Act.put, tk4, tk5, tk6]
        refine wpAnyS_take (i := 6) (v := .pointer (some ⟨g, o + j * 3, none⟩)) rfl (by kernel_rfl) (by kernel_rfl) (by kernel_rfl) (fun _ _ _ h => h) (fun _ _ => Iff.rfl) hc (by first | rfl | simp [Region.wanted]) (fun wx hx => ?_) S0 (fun hc S0 => ?_)
        ·go_simp
        try simp only [tk1, tk2, tk3, Act.put, tk4, tk5, tk6]
        refine wpAnyS_take (i := 7) (v := .int .i64 kn) rfl (by kernel_rfl) (by kernel_rfl) (by kernel_rfl) (fun _ _ _ h => h) (fun _ _ => Iff.rfl) hc (by first | rfl | simp [Region.wanted]) (fun wx hx => ?_) S0 (fun hc S0 => ?_)
        ·have q := (hx.still.cell (p := ⟨g, o + j * 3, none⟩) hg).trans e0
         go_simp
        try simp only [tk1, tk2, tk3, Act.put, tk4, tk5, tk6]
        refine wpAnyS_take (i := 12) (v := .pointer (some ⟨W.heap.size, 2, none⟩)) rfl (by kernel_rfl) (by kernel_rfl) (by kernel_rfl) (fun _ _ _ h => h) (fun _ _ => Iff.rfl) hc (by first | rfl | simp [Region.wanted]) (fun wx hx => ?_) S0 (fun hc S0 => ?_)
        ·go_simp
        try simp only [tk1, tk2, tk3, Act.put, tk4, tk5, tk6]
        refine wpAnyS_take (i := 13) (v := .slice (some ⟨g, o, none⟩) t.ends.length ce) rfl (by kernel_rfl) (by kernel_rfl) (by kernel_rfl) (fun _ _ _ h => h) (fun _ _ => Iff.rfl) hc (by first | rfl | simp [Region.wanted]) (fun wx hx => ?_) S0 (fun hc S0 => ?_)
        ·have q := (hx.still.cell (p := ⟨W.heap.size, 2, none⟩) hz4).trans y0
         go_simp
        try simp only [tk1, tk2, tk3, Act.put, tk4, tk5, tk6]
        refine wpAnyS_take (i := 14) (v := .int .i64 j) rfl (by kernel_rfl) (by kernel_rfl) (by kernel_rfl) (fun _ _ _ h => h) (fun _ _ => Iff.rfl) hc (by first | rfl | simp [Region.wanted]) (fun wx hx => ?_) S0 (fun hc S0 => ?_)
        ·go_simp
        try simp only [tk1, tk2, tk3, Act.put, tk4, tk5, tk6]
        refine wpAnyS_take (i := 15) (v := .pointer (some ⟨g, o + j * 3, none⟩)) rfl (by kernel_rfl) (by kernel_rfl) (by kernel_rfl) (fun _ _ _ h => h) (fun _ _ => Iff.rfl) hc (by first | rfl | simp [Region.wanted]) (fun wx hx => ?_) S0 (fun hc S0 => ?_)
        ·go_simp
        try simp only [tk1, tk2, tk3, Act.put, tk4, tk5, tk6]
        refine wpAnyS_take (i := 16) (v := .pointer (some ⟨g, o + j * 3 + 1, none⟩)) rfl (by kernel_rfl) (by kernel_rfl) (by kernel_rfl) (fun _ _ _ h => h) (fun _ _ => Iff.rfl) hc (by first | rfl | simp [Region.wanted]) (fun wx hx => ?_) S0 (fun hc S0 => ?_)
        ·go_simp
        try simp only [tk1, tk2, tk3, Act.put, tk4, tk5, tk6]
        refine wpAnyS_take (i := 17) (v := .string (bs d.word)) rfl (by kernel_rfl) (by kernel_rfl) (by kernel_rfl) (fun _ _ _ h => h) (fun _ _ => Iff.rfl) hc (by first | rfl | simp [Region.wanted]) (fun wx hx => ?_) S0 (fun hc S0 => ?_)
        ·have q := (hx.still.cell (p := ⟨g, o + j * 3 + 1, none⟩) hg).trans e1
         go_simp
        try simp only [tk1, tk2, tk3, Act.put, tk4, tk5, tk6]
        refine wpAnyS_take (i := 20) (v := .pointer (some ⟨W.heap.size, 2, none⟩)) rfl (by kernel_rfl) (by kernel_rfl) (by kernel_rfl) (fun _ _ _ h => h) (fun _ _ => Iff.rfl) hc (by first | rfl | simp [Region.wanted]) (fun wx hx => ?_) S0 (fun hc S0 => ?_)
        ·go_simp
        try simp only [tk1, tk2, tk3, Act.put, tk4, tk5, tk6]
        refine wpAnyS_take (i := 21) (v := .slice (some ⟨g, o, none⟩) t.ends.length ce) rfl (by kernel_rfl) (by kernel_rfl) (by kernel_rfl) (fun _ _ _ h => h) (fun _ _ => Iff.rfl) hc (by first | rfl | simp [Region.wanted]) (fun wx hx => ?_) S0 (fun hc S0 => ?_)
        ·have q := (hx.still.cell (p := ⟨W.heap.size, 2, none⟩) hz4).trans y0
         go_simp
        try simp only [tk1, tk2, tk3, Act.put, tk4, tk5, tk6]
        refine wpAnyS_take (i := 22) (v := .int .i64 j) rfl (by kernel_rfl) (by kernel_rfl) (by kernel_rfl) (fun _ _ _ h => h) (fun _ _ => Iff.rfl) hc (by first | rfl | simp [Region.wanted]) (fun wx hx => ?_) S0 (fun hc S0 => ?_)
        ·go_simp
        try simp only [tk1, tk2, tk3, Act.put, tk4, tk5, tk6]
        refine wpAnyS_take (i := 23) (v := .pointer (some ⟨g, o + j * 3, none⟩)) rfl (by kernel_rfl) (by kernel_rfl) (by kernel_rfl) (fun _ _ _ h => h) (fun _ _ => Iff.rfl) hc (by first | rfl | simp [Region.wanted]) (fun wx hx => ?_) S0 (fun hc S0 => ?_)
        ·go_simp
        try simp only [tk1, tk2, tk3, Act.put, tk4, tk5, tk6]
        refine wpAnyS_take (i := 24) (v := .pointer (some ⟨g, o + j * 3 + 2, none⟩)) rfl (by kernel_rfl) (by kernel_rfl) (by kernel_rfl) (fun _ _ _ h => h) (fun _ _ => Iff.rfl) hc (by first | rfl | simp [Region.wanted]) (fun wx hx => ?_) S0 (fun hc S0 => ?_)
        ·go_simp
        try simp only [tk1, tk2, tk3, Act.put, tk4, tk5, tk6]
        refine wpAnyS_take (i := 25) (v := .int .i64 d.cost) rfl (by kernel_rfl) (by kernel_rfl) (by kernel_rfl) (fun _ _ _ h => h) (fun _ _ => Iff.rfl) hc (by first | rfl | simp [Region.wanted]) (fun wx hx => ?_) S0 (fun hc S0 => ?_)
        ·have q := (hx.still.cell (p := ⟨g, o + j * 3 + 2, none⟩) hg).trans e2
         go_simp
        try simp only [tk1, tk2, tk3, Act.put, tk4, tk5, tk6]
        refine wpAnyS_one (i := 1) rfl (by kernel_rfl) (by rfl) hc (fun K' hK => ?_)
        go_simp
        refine (HNA.out).mono ?_
        rintro e X1 ⟨rfl, hb, hfive⟩
        have DX1 := hid (Below.step (Below.refl _ wr).drew hb)
        obtain ⟨nl, nc⟩ := five_cell hfive hn1 hn4
        clear hb hfive
        refine hK.out _ _ DX1.out (fun hc => ?_)
        clear hK K'
        have S0 : StillAt wr #[] X1 := DX1.out
        try simp only [tk1, tk2, tk3, Act.put, tk4, tk5, tk6]
        refine wpAnyS_more (S2 := StillAt X1) (fun _ _ h => Below.step DX1.out h) _ _ _ _ ?_
        have S0 : StillAt X1 #[] X1 := Below.refl _ _
        refine wpAnyS_take (i := 8) (v := .pointer (some ⟨nb, kn, none⟩)) rfl (by kernel_rfl) (by kernel_rfl) (by kernel_rfl) (fun _ _ _ h => h) (fun _ _ => Iff.rfl) hc (by first | rfl | simp [Region.wanted]) (fun wx hx => ?_) S0 (fun hc S0 => ?_)
        ·go_simp
        try simp only [tk1, tk2, tk3, Act.put, tk4, tk5, tk6]
        refine wpAnyS_take (i := 9) (v := .string (bs (Rw.scrT kn))) rfl (by kernel_rfl) (by kernel_rfl) (by kernel_rfl) (fun _ _ _ h => h) (fun _ _ => Iff.rfl) hc (by first | rfl | simp [Region.wanted]) (fun wx hx => ?_) S0 (fun hc S0 => ?_)
        ·have q := (hx.still.cell (p := ⟨nb, kn, none⟩) nl).trans nc
         go_simp
        try simp only [tk1, tk2, tk3, Act.put, tk4, tk5, tk6]
        refine wpAnyS_take (i := 10) (v := .string (⟨#[101, 110, 100, 32]⟩ ++ bs (Rw.scrT kn))) rfl (by kernel_rfl) (by kernel_rfl) (by kernel_rfl) (fun _ _ _ h => h) (fun _ _ => Iff.rfl) hc (by first | rfl | simp [Region.wanted]) (fun wx hx => ?_) S0 (fun hc S0 => ?_)
        ·go_simp
        try simp only [tk1, tk2, tk3, Act.put, tk4, tk5, tk6]
        refine wpAnyS_take (i := 11) (v := .string (⟨#[101, 110, 100, 32]⟩ ++ bs (Rw.scrT kn) ++ ⟨#[32, 34]⟩)) rfl (by kernel_rfl) (by kernel_rfl) (by kernel_rfl) (fun _ _ _ h => h) (fun _ _ => Iff.rfl) hc (by first | rfl | simp [Region.wanted]) (fun wx hx => ?_) S0 (fun hc S0 => ?_)
        ·go_simp
        try simp only [tk1, tk2, tk3, Act.put, tk4, tk5, tk6]
        refine wpAnyS_take (i := 18) (v := .string (⟨#[101, 110, 100, 32]⟩ ++ bs (Rw.scrT kn) ++ ⟨#[32, 34]⟩ ++ bs d.word)) rfl (by kernel_rfl) (by kernel_rfl) (by kernel_rfl) (fun _ _ _ h => h) (fun _ _ => Iff.rfl) hc (by first | rfl | simp [Region.wanted]) (fun wx hx => ?_) S0 (fun hc S0 => ?_)
        ·go_simp
        try simp only [tk1, tk2, tk3, Act.put, tk4, tk5, tk6]
        refine wpAnyS_take (i := 19) (v := .string (⟨#[101, 110, 100, 32]⟩ ++ bs (Rw.scrT kn) ++ ⟨#[32, 34]⟩ ++ bs d.word ++ ⟨#[34, 32]⟩)) rfl (by kernel_rfl) (by kernel_rfl) (by kernel_rfl) (fun _ _ _ h => h) (fun _ _ => Iff.rfl) hc (by first | rfl | simp [Region.wanted]) (fun wx hx => ?_) S0 (fun hc S0 => ?_)
        ·go_simp
        try simp only [tk1, tk2, tk3, Act.put, tk4, tk5, tk6]
        have HD2 := hid (decimal1_any d.cost hc0 (by omega) X1)
        refine wpAnyS_one (i := 26) rfl (by kernel_rfl) (by rfl) hc (fun K' hK => ?_)
        go_simp
        refine (HD2.out).mono ?_
        rintro e X2 ⟨rfl, hb2⟩
        have DX2 := hid (show Below X1.heap.size X1 X2 by rw [hb2]; exact Below.refl _ _)
        clear hb2
        refine hK.out _ _ DX2.out (fun hc => ?_)
        clear hK K'
        have S0 : StillAt X1 #[] X2 := DX2.out
        try simp only [tk1, tk2, tk3, Act.put, tk4, tk5, tk6]
        refine wpAnyS_more (S2 := StillAt X2) (fun _ _ h => Below.step DX2.out h) _ _ _ _ ?_
        have S0 : StillAt X2 #[] X2 := Below.refl _ _
        refine wpAnyS_take (i := 27) (v := .string (⟨#[101, 110, 100, 32]⟩ ++ bs (Rw.scrT kn) ++ ⟨#[32, 34]⟩ ++ bs d.word ++ ⟨#[34, 32]⟩ ++ bs (Lx.dec d.cost.toNat))) rfl (by kernel_rfl) (by kernel_rfl) (by kernel_rfl) (fun _ _ _ h => h) (fun _ _ => Iff.rfl) hc (by first | rfl | simp [Region.wanted]) (fun wx hx => ?_) S0 (fun hc S0 => ?_)
        ·go_simp
        try simp only [tk1, tk2, tk3, Act.put, tk4, tk5, tk6]
        refine wpAnyS_take (i := 28) (v := .string (⟨#[101, 110, 100, 32]⟩ ++ bs (Rw.scrT kn) ++ ⟨#[32, 34]⟩ ++ bs d.word ++ ⟨#[34, 32]⟩ ++ bs (Lx.dec d.cost.toNat) ++ ⟨#[59, 10]⟩)) rfl (by kernel_rfl) (by kernel_rfl) (by kernel_rfl) (fun _ _ _ h => h) (fun _ _ => Iff.rfl) hc (by first | rfl | simp [Region.wanted]) (fun wx hx => ?_) S0 (fun hc S0 => ?_)
        ·go_simp
        try simp only [tk1, tk2, tk3, Act.put, tk4, tk5, tk6]
        refine wpAnyS_take (i := 29) (v := .string (bs acc ++ (⟨#[101, 110, 100, 32]⟩ ++ bs (Rw.scrT kn) ++ ⟨#[32, 34]⟩ ++ bs d.word ++ ⟨#[34, 32]⟩ ++ bs (Lx.dec d.cost.toNat) ++ ⟨#[59, 10]⟩))) rfl (by kernel_rfl) (by kernel_rfl) (by kernel_rfl) (fun _ _ _ h => h) (fun _ _ => Iff.rfl) hc (by first | rfl | simp [Region.wanted]) (fun wx hx => ?_) S0 (fun hc S0 => ?_)
        ·go_simp
        try simp only [tk1, tk2, tk3, Act.put, tk4, tk5, tk6]
        refine wpAnyS_one (i := 30) rfl (by kernel_rfl) (by rfl) hc (fun K' hK => ?_)
        go_simp
        refine hK.out _ _ (Below.refl _ X2) (fun hc => ?_)
        clear hK K'
        have S0 : StillAt X2 #[] X2 := (Below.refl _ X2)
        try simp only [tk1, tk2, tk3, Act.put, tk4, tk5, tk6]
        refine wpAnyS_done (by kernel_rfl) ?_ _
        clear hc S0
        have HBX := hid (Below.step HR.out (Below.step DX1.out DX2.out))
        rw [HEQ.out]
        go_wp2_with fail
        go_roundw
        case rel => exact ⟨j + 1, by omega, by go_num, by rw [HST.out], HBX⟩
        case measure => simp [RowKit.intOf]; omega
       ·have j1 : ¬ (j : Int) < (t.ends.length : Int) := by omega
        have y3 := HT4.out.cell (j := 3) rfl
        have y4 := HT4.out.cell (j := 4) rfl
        have y5 := HT4.out.cell (j := 5) rfl
        rw [show t.ends.take j = t.ends from List.take_of_length_le (by omega)]
        obtain ⟨acc, hacc⟩ : ∃ acc, acc = (t.rules.flatMap Rw.ruleT ++ t.drops.flatMap (Rw.dropT Rw.tDrop)) ++ t.ends.flatMap (Rw.dropT Rw.tEnd) := ⟨_, rfl⟩
        rw [← hacc]
        have hvc := HVC.out
        unfold Rw.isCost at hvc
        simp only [Bool.and_eq_true, decide_eq_true_eq] at hvc
        obtain ⟨⟨a1, b1⟩, ⟨a2, b2⟩, a3, b3⟩ := hvc
        have ha : (bs acc).size ≤ 300000 := by
         rw [bs_len, hacc]
         simp only [List.length_append]
         have := HLR2.out
         have := HLD2.out
         have := HLE2.out
         omega
        have hs1 : (bs (Lx.dec t.drop.toNat)).size ≤ 4 := by rw [bs_len]; exact Rw.dec_cost a1 b1
        have hs2 : (bs (Lx.dec t.order.toNat)).size ≤ 4 := by rw [bs_len]; exact Rw.dec_cost a2 b2
        have hs3 : (bs (Lx.dec t.initial.toNat)).size ≤ 4 := by rw [bs_len]; exact Rw.dec_cost a3 b3
        have HEQ := hid (show bs acc ++ ⟨#[99, 111, 115, 116, 115, 32]⟩ ++ bs (Lx.dec t.drop.toNat) ++ ⟨#[32]⟩ ++ bs (Lx.dec t.order.toNat) ++ ⟨#[32]⟩ ++ bs (Lx.dec t.initial.toNat) ++ ⟨#[59, 10]⟩ = bs (Rw.text t) by
         refine bs_ext ?_
         rw [HE.out, ← cost_line, ← List.append_assoc, ← List.append_assoc, ← hacc]
         simp [ByteArray.data_append, bs])
        clear hacc
        go_upto_region 17 with (fail)
        have x2 : (bs acc).size + 6 ≤ 9223372036854775807 := by omega
        have x3 : (bs acc).size + 6 + (bs (Lx.dec t.drop.toNat)).size ≤ 9223372036854775807 := by omega
        have x4 : (bs acc).size + 6 + (bs (Lx.dec t.drop.toNat)).size + 1 ≤ 9223372036854775807 := by omega
        have x5 : (bs acc).size + 6 + (bs (Lx.dec t.drop.toNat)).size + 1 + (bs (Lx.dec t.order.toNat)).size ≤ 9223372036854775807 := by omega
        have x6 : (bs acc).size + 6 + (bs (Lx.dec t.drop.toNat)).size + 1 + (bs (Lx.dec t.order.toNat)).size + 1 ≤ 9223372036854775807 := by omega
        have x7 : (bs acc).size + 6 + (bs (Lx.dec t.drop.toNat)).size + 1 + (bs (Lx.dec t.order.toNat)).size + 1 + (bs (Lx.dec t.initial.toNat)).size ≤ 9223372036854775807 := by omega
        have x8 : (bs acc).size + 6 + (bs (Lx.dec t.drop.toNat)).size + 1 + (bs (Lx.dec t.order.toNat)).size + 1 + (bs (Lx.dec t.initial.toNat)).size + 2 ≤ 9223372036854775807 := by omega
        refine wp_heldS (S := StillAt wr) (by kernel_rfl) ?_
        simp only [List.size_toArray, List.length_cons, List.length_nil, Nat.reduceAdd]
        intro hc
        have S0 : StillAt wr (Array.replicate 19 false) wr.drew := (Below.refl _ _).drew
        refine wpAnyS_take (i := 0) (v := .string (bs acc)) rfl (by kernel_rfl) (by kernel_rfl) (by kernel_rfl) (fun _ _ _ h => h) (fun _ _ => Iff.rfl) hc (by first | rfl | simp [Region.wanted]) (fun wx hx => ?_) S0 (fun hc S0 => ?_)
        ·go_simp
        try simp only [tk1, tk3, Act.put, tk4, tk5, tk6]
        refine wpAnyS_take (i := 1) (v := .string (bs acc ++ ⟨#[99, 111, 115, 116, 115, 32]⟩)) rfl (by kernel_rfl) (by kernel_rfl) (by kernel_rfl) (fun _ _ _ h => h) (fun _ _ => Iff.rfl) hc (by first | rfl | simp [Region.wanted]) (fun wx hx => ?_) S0 (fun hc S0 => ?_)
        ·go_simp
        try simp only [tk1, tk2, tk3, Act.put, tk4, tk5, tk6]
        refine wpAnyS_take (i := 2) (v := .pointer (some ⟨W.heap.size, 3, none⟩)) rfl (by kernel_rfl) (by kernel_rfl) (by kernel_rfl) (fun _ _ _ h => h) (fun _ _ => Iff.rfl) hc (by first | rfl | simp [Region.wanted]) (fun wx hx => ?_) S0 (fun hc S0 => ?_)
        ·go_simp
        try simp only [tk1, tk2, tk3, Act.put, tk4, tk5, tk6]
        refine wpAnyS_take (i := 3) (v := .int .i64 t.drop) rfl (by kernel_rfl) (by kernel_rfl) (by kernel_rfl) (fun _ _ _ h => h) (fun _ _ => Iff.rfl) hc (by first | rfl | simp [Region.wanted]) (fun wx hx => ?_) S0 (fun hc S0 => ?_)
        ·have q := (hx.still.cell (p := ⟨W.heap.size, 3, none⟩) hz4).trans y3
         go_simp
        try simp only [tk1, tk2, tk3, Act.put, tk4, tk5, tk6]
        refine wpAnyS_take (i := 7) (v := .pointer (some ⟨W.heap.size, 4, none⟩)) rfl (by kernel_rfl) (by kernel_rfl) (by kernel_rfl) (fun _ _ _ h => h) (fun _ _ => Iff.rfl) hc (by first | rfl | simp [Region.wanted]) (fun wx hx => ?_) S0 (fun hc S0 => ?_)
        ·go_simp
        try simp only [tk1, tk2, tk3, Act.put, tk4, tk5, tk6]
        refine wpAnyS_take (i := 8) (v := .int .i64 t.order) rfl (by kernel_rfl) (by kernel_rfl) (by kernel_rfl) (fun _ _ _ h => h) (fun _ _ => Iff.rfl) hc (by first | rfl | simp [Region.wanted]) (fun wx hx => ?_) S0 (fun hc S0 => ?_)
        ·have q := (hx.still.cell (p := ⟨W.heap.size, 4, none⟩) hz4).trans y4
         go_simp
        try simp only [tk1, tk2, tk3, Act.put, tk4, tk5, tk6]
        refine wpAnyS_take (i := 12) (v := .pointer (some ⟨W.heap.size, 5, none⟩)) rfl (by kernel_rfl) (by kernel_rfl) (by kernel_rfl) (fun _ _ _ h => h) (fun _ _ => Iff.rfl) hc (by first | rfl | simp [Region.wanted]) (fun wx hx => ?_) S0 (fun hc S0 => ?_)
        ·go_simp
        try simp only [tk1, tk2, tk3, Act.put, tk4, tk5, tk6]
        refine wpAnyS_take (i := 13) (v := .int .i64 t.initial) rfl (by kernel_rfl) (by kernel_rfl) (by kernel_rfl) (fun _ _ _ h => h) (fun _ _ => Iff.rfl) hc (by first | rfl | simp [Region.wanted]) (fun wx hx => ?_) S0 (fun hc S0 => ?_)
        ·have q := (hx.still.cell (p := ⟨W.heap.size, 5, none⟩) hz4).trans y5
         go_simp
        try simp only [tk1, tk2, tk3, Act.put, tk4, tk5, tk6]
        have HD1 := hid (decimal1_any t.drop a1 (by omega) wr.drew)
        refine wpAnyS_one (i := 4) rfl (by kernel_rfl) (by rfl) hc (fun K' hK => ?_)
        go_simp
        refine (HD1.out).mono ?_
        rintro e X1 ⟨rfl, hb1⟩
        have DX1 := hid (show Below wr.heap.size wr X1 by rw [hb1]; exact (Below.refl _ _).drew)
        clear hb1
        refine hK.out _ _ DX1.out (fun hc => ?_)
        clear hK K'
        have S0 : StillAt wr #[] X1 := DX1.out
        try simp only [tk1, tk2, tk3, Act.put, tk4, tk5, tk6]
        refine wpAnyS_more (S2 := StillAt X1) (fun _ _ h => Below.step DX1.out h) _ _ _ _ ?_
        have S0 : StillAt X1 #[] X1 := Below.refl _ _
        refine wpAnyS_take (i := 5) (v := .string (bs acc ++ ⟨#[99, 111, 115, 116, 115, 32]⟩ ++ bs (Lx.dec t.drop.toNat))) rfl (by kernel_rfl) (by kernel_rfl) (by kernel_rfl) (fun _ _ _ h => h) (fun _ _ => Iff.rfl) hc (by first | rfl | simp [Region.wanted]) (fun wx hx => ?_) S0 (fun hc S0 => ?_)
        ·go_simp
        try simp only [tk1, tk2, tk3, Act.put, tk4, tk5, tk6]
        refine wpAnyS_take (i := 6) (v := .string (bs acc ++ ⟨#[99, 111, 115, 116, 115, 32]⟩ ++ bs (Lx.dec t.drop.toNat) ++ ⟨#[32]⟩)) rfl (by kernel_rfl) (by kernel_rfl) (by kernel_rfl) (fun _ _ _ h => h) (fun _ _ => Iff.rfl) hc (by first | rfl | simp [Region.wanted]) (fun wx hx => ?_) S0 (fun hc S0 => ?_)
        ·go_simp
        try simp only [tk1, tk2, tk3, Act.put, tk4, tk5, tk6]
        have HD2 := hid (decimal1_any t.order a2 (by omega) X1)
        refine wpAnyS_one (i := 9) rfl (by kernel_rfl) (by rfl) hc (fun K' hK => ?_)
        go_simp
        refine (HD2.out).mono ?_
        rintro e X2 ⟨rfl, hb2⟩
        have DX2 := hid (show Below X1.heap.size X1 X2 by rw [hb2]; exact Below.refl _ _)
        clear hb2
        refine hK.out _ _ DX2.out (fun hc => ?_)
        clear hK K'
        have S0 : StillAt X1 #[] X2 := DX2.out
        try simp only [tk1, tk2, tk3, Act.put, tk4, tk5, tk6]
        refine wpAnyS_more (S2 := StillAt X2) (fun _ _ h => Below.step DX2.out h) _ _ _ _ ?_
        have S0 : StillAt X2 #[] X2 := Below.refl _ _
        refine wpAnyS_take (i := 10) (v := .string (bs acc ++ ⟨#[99, 111, 115, 116, 115, 32]⟩ ++ bs (Lx.dec t.drop.toNat) ++ ⟨#[32]⟩ ++ bs (Lx.dec t.order.toNat))) rfl (by kernel_rfl) (by kernel_rfl) (by kernel_rfl) (fun _ _ _ h => h) (fun _ _ => Iff.rfl) hc (by first | rfl | simp [Region.wanted]) (fun wx hx => ?_) S0 (fun hc S0 => ?_)
        ·go_simp
        try simp only [tk1, tk2, tk3, Act.put, tk4, tk5, tk6]
        refine wpAnyS_take (i := 11) (v := .string (bs acc ++ ⟨#[99, 111, 115, 116, 115, 32]⟩ ++ bs (Lx.dec t.drop.toNat) ++ ⟨#[32]⟩ ++ bs (Lx.dec t.order.toNat) ++ ⟨#[32]⟩)) rfl (by kernel_rfl) (by kernel_rfl) (by kernel_rfl) (fun _ _ _ h => h) (fun _ _ => Iff.rfl) hc (by first | rfl | simp [Region.wanted]) (fun wx hx => ?_) S0 (fun hc S0 => ?_)
        ·go_simp
        try simp only [tk1, tk2, tk3, Act.put, tk4, tk5, tk6]
        have HD3 := hid (decimal1_any t.initial a3 (by omega) X2)
        refine wpAnyS_one (i := 14) rfl (by kernel_rfl) (by rfl) hc (fun K' hK => ?_)
        go_simp
        refine (HD3.out).mono ?_
        rintro e X3 ⟨rfl, hb3⟩
        have DX3 := hid (show Below X2.heap.size X2 X3 by rw [hb3]; exact Below.refl _ _)
        clear hb3
        refine hK.out _ _ DX3.out (fun hc => ?_)
        clear hK K'
        have S0 : StillAt X2 #[] X3 := DX3.out
        try simp only [tk1, tk2, tk3, Act.put, tk4, tk5, tk6]
        refine wpAnyS_more (S2 := StillAt X3) (fun _ _ h => Below.step DX3.out h) _ _ _ _ ?_
        have S0 : StillAt X3 #[] X3 := Below.refl _ _
        refine wpAnyS_take (i := 15) (v := .string (bs acc ++ ⟨#[99, 111, 115, 116, 115, 32]⟩ ++ bs (Lx.dec t.drop.toNat) ++ ⟨#[32]⟩ ++ bs (Lx.dec t.order.toNat) ++ ⟨#[32]⟩ ++ bs (Lx.dec t.initial.toNat))) rfl (by kernel_rfl) (by kernel_rfl) (by kernel_rfl) (fun _ _ _ h => h) (fun _ _ => Iff.rfl) hc (by first | rfl | simp [Region.wanted]) (fun wx hx => ?_) S0 (fun hc S0 => ?_)
        ·go_simp
        try simp only [tk1, tk2, tk3, Act.put, tk4, tk5, tk6]
        refine wpAnyS_take (i := 16) (v := .string (bs acc ++ ⟨#[99, 111, 115, 116, 115, 32]⟩ ++ bs (Lx.dec t.drop.toNat) ++ ⟨#[32]⟩ ++ bs (Lx.dec t.order.toNat) ++ ⟨#[32]⟩ ++ bs (Lx.dec t.initial.toNat) ++ ⟨#[59, 10]⟩)) rfl (by kernel_rfl) (by kernel_rfl) (by kernel_rfl) (fun _ _ _ h => h) (fun _ _ => Iff.rfl) hc (by first | rfl | simp [Region.wanted]) (fun wx hx => ?_) S0 (fun hc S0 => ?_)
        ·go_simp
        try simp only [tk1, tk2, tk3, Act.put, tk4, tk5, tk6]
        refine wpAnyS_one (i := 17) rfl (by kernel_rfl) (by rfl) hc (fun K' hK => ?_)
        go_simp
        refine hK.out _ _ (Below.refl _ X3) (fun hc => ?_)
        clear hK K'
        have S0 : StillAt X3 #[] X3 := (Below.refl _ X3)
        try simp only [tk1, tk2, tk3, Act.put, tk4, tk5, tk6]
        refine wpAnyS_one (i := 18) rfl (by kernel_rfl) (by rfl) hc (fun K' hK => ?_)
        go_simp
        refine hK.out _ _ (Below.refl _ X3) (fun hc => ?_)
        clear hK K'
        have S0 : StillAt X3 #[] X3 := (Below.refl _ X3)
        try simp only [tk1, tk2, tk3, Act.put, tk4, tk5, tk6]
        refine wpAnyS_done (by kernel_rfl) ?_ _
        clear hc S0
        have HBZ := hid (Below.step HB2.out (Below.step HR.out (Below.step DX1.out (Below.step DX2.out DX3.out))))
        go_wp2_with fail
        go_ret2
        rw [HEQ.out, HER.out, HVT.out]
        exact ⟨rfl, HBZ.out⟩

end Go.Proofs.YtdchjacccmajcaaGreatDoor
