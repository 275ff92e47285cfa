/-
  The reference's Variants of layer 10. Conditions: lengths.
-/
import Derived.Test.YtdchjacccmajcaaGreatDoorZMRr
namespace Go.Proofs.YtdchjacccmajcaaGreatDoor
open Go.RowKit Go.Lib Go.Maps

set_option maxRecDepth 100000 in
set_option maxHeartbeats 20000000 in
theorem rvariants_any (t : Rw.Table) (tv : Value) (k : Int) (word : List UInt8) (W : World) (ht : TableAt W t tv) (hw : word.length ≤ 1000000) : Calls Tryz.prog 27 #[tv, .int .i64 k, .string (bs word)] W (VarP t k word W) := by
  have HTA := hid ht
  obtain ⟨⟨vr, vd, ve, rfl, ⟨ar, cr, rfl, -⟩, ⟨ad, cd, rfl, -⟩, ⟨ae, ce, rfl, -, -, h3⟩⟩, -, -, fe, hl1, hl2, hl3⟩ := ht
  have hE := hid h3
  have hF := hid fe
  clear h3 fe
  obtain ⟨W1, hW1⟩ : ∃ W1, W1 = W.alloc (.cells #[.slice ar t.rules.length cr, .slice ad t.drops.length cd, .slice ae t.ends.length ce, .int .i64 t.drop, .int .i64 t.order, .int .i64 t.initial] 25) := ⟨_, rfl⟩
  have HT1 := hid (show Blk W1 W.heap.size 25 [.slice ar t.rules.length cr, .slice ad t.drops.length cd, .slice ae t.ends.length ce, .int .i64 t.drop, .int .i64 t.order, .int .i64 t.initial] by rw [hW1]; exact Blk.new W _ _)
  have HB1 := hid (show Below W.heap.size W W1 by rw [hW1]; exact (Below.refl _ W).alloc (Nat.le_refl _) _)
  have HLW := hid (rletters10_w k word W1 hw)
  obtain ⟨L, hL⟩ : ∃ L, L = Fo.letters k word := ⟨_, rfl⟩
  have hL12 := Fo.letters_len k word
  rw [← hL] at hL12
  unfold LetWP at HLW
  rw [← hL] at HLW
  have HV0 := hid (show Rw.variants t k word = if L = [] ∨ Rw.valid t = false then ([], 1) else (⟨L.flatten, -1, 0⟩ :: Rw.endsFrom k L 0 t.ends, 0) by unfold Rw.variants; rw [hL])
  have HLF := hid (show L ≠ [] → L.flatten.length ≤ 1000000 from fun h => by
    rw [hL] at h ⊢
    rw [Fo.letters_flat h]
    unfold Sc.fold
    rw [List.length_map]
    exact hw)
  clear hL
  go_enter Tryz.func27, Tryz.ntmps27
  go_upto_region 1 with (fail)
  rw [← hW1]
  clear hW1
  go_wp2_with fail
  refine (HLW.out).mono ?_
  rintro e W2 ⟨lv, rfl, hown, hb2⟩
  obtain ⟨la, lc, rfl⟩ := ownsRow_slice hown
  have HB2 := hid (Below.step HB1.out hb2)
  have HT2 := hid (HT1.out.below hb2)
  have HLS := hid (show SlOf W2 (.slice la L.length lc) 1 strC L from SlOf.own hown (fun _ _ => rfl))
  have hz2 := HT2.out.lt
  have y0 := HT2.out.cell (j := 0) rfl
  have y1 := HT2.out.cell (j := 1) rfl
  have y2 := HT2.out.cell (j := 2) rfl
  have y3 := HT2.out.cell (j := 3) rfl
  have y4 := HT2.out.cell (j := 4) rfl
  have y5 := HT2.out.cell (j := 5) rfl
  obtain ⟨n, hn⟩ : ∃ n, n = L.length := ⟨_, rfl⟩
  have HN := hid hn
  rw [← hn] at hL12 HLS ⊢
  clear hown hb2 HLW hn
  have HV := hid (rvalid10_any t _ W2 (HTA.out.below HB2.out))
  go_wp2_with fail
  refine (HV.out).mono ?_
  rintro e W3 ⟨rfl, hb3⟩
  have HB3 := hid (Below.step HB2.out hb3)
  have HT3 := hid (HT2.out.below hb3)
  have HL3 := hid (HLS.out.below hb3)
  clear hb3 y0 y1 y2 y3 y4 y5 hz2 HV HLS HT2 HT1
  cases hv : Rw.valid t with
  | false =>
    have HE := hid (show Rw.variants t k word = ([], 1) by rw [HV0.out, if_pos (.inr hv)])
    clear hv
    go_wp2_with fail
    go_ret2
    unfold VarP
    rw [HE.out]
    exact ⟨_, rfl, World.ownsRow_nil _ _ _ _, HB3.out⟩
  | true =>
    by_cases h0 : n = 0
    · have g0 : ((n : Int) == 0) = true := by rw [h0]; rfl
      have HE := hid (show Rw.variants t k word = ([], 1) by rw [HV0.out, if_pos (.inl (List.length_eq_zero_iff.1 (by have := HN.out; omega)))])
      clear h0 hv
      go_wp2_with fail
      go_ret2
      unfold VarP
      rw [HE.out]
      exact ⟨_, rfl, World.ownsRow_nil _ _ _ _, HB3.out⟩
    · have g0 : ((n : Int) == 0) = false := by rw [beq_eq_false_iff_ne]; omega
      have HNE := hid (show L ≠ [] from fun e => h0 (by rw [HN.out, e]; rfl))
      have HVR := hid (Rw.valid_ends hv)
      have hr40 := HVR.out.1
      have HE := hid (show Rw.variants t k word = (⟨L.flatten, -1, 0⟩ :: Rw.endsFrom k L 0 t.ends, 0) by rw [HV0.out, if_neg (by rw [hv]; simp [HNE.out])])
      clear hv
      have hflat := HLF.out HNE.out
      obtain ⟨i0, hi, hz0, hz1, hz2⟩ := info_parts Tryz.infoVar
      obtain ⟨g3, o3, rfl, hr3⟩ : ∃ g o, la = some ⟨g, o, none⟩ ∧ RowOf W3 g o 1 strC L := by
        obtain ⟨a', c', e, -, -, hr⟩ := HL3.out
        cases e
        exact hr (by rw [← HN.out]; omega)
      have hlc : n ≤ lc := by
        obtain ⟨a', c', e, h1, -, -⟩ := HL3.out
        cases e
        rw [← HN.out] at h1
        exact h1
      have hlm : lc ≤ maxLen := by
        obtain ⟨a', c', e, -, h1, -⟩ := HL3.out
        cases e
        exact h1
      have HR3 := hid hr3
      have HJ := hid (fun X (hX : Below W3.heap.size W3 X) (m : Nat) (hm : m ≤ n) => rjoined_any (L.take m) (.slice (some ⟨g3, o3, none⟩) m lc) X (sl_first (hr3.below hX) (by rw [← HN.out]; exact hm) (Nat.le_trans hm hlc) hlm) (Nat.le_trans (Rw.flat_part L m) hflat) (by rw [List.length_take]; omega))
      have HJ0 := hid (show Calls Tryz.prog 49 #[.slice (some ⟨g3, o3, none⟩) n lc] W3 (Gives (.string (bs L.flatten)) W3) by
        have := HJ.out W3 (Below.refl _ _) n (Nat.le_refl _)
        rwa [List.take_of_length_le (by rw [← HN.out]; exact Nat.le_refl _)] at this)
      clear hr3 hflat
      go_wp2_with fail
      refine (HJ0.out).mono ?_
      rintro e W4 ⟨rfl, hb4⟩
      obtain ⟨W5, hW5⟩ : ∃ W5, W5 = W4.alloc (.cells #[.string (bs L.flatten), .int .i64 (-1), .int .i64 0] 54) := ⟨_, rfl⟩
      have hb45 : Below W4.heap.size W4 W5 := by rw [hW5]; exact (Below.refl _ W4).alloc (Nat.le_refl _) _
      have HB35 := hid (Below.step hb4 hb45)
      have HO5 := hid (show W5.ownsRow (W3.heap.size) 54 3 (.slice (some ⟨W4.heap.size, 0, none⟩) 1 1) 1 ([(⟨L.flatten, -1, 0⟩ : Rw.Vr)].flatMap vrC) from
        ⟨rfl, .inr ⟨W4.heap.size, 1, _, rfl, hb4.size, by rw [hW5]; exact alloc_new W4 _, Nat.le_refl _, by unfold maxLen; omega, rfl, rfl⟩⟩)
      clear hb4 hb45 HJ0
      go_upto_region 5 with (fail)
      rw [← hW5]
      clear hW5
      go_wp2_with fail
      have he2 : t.ends.length ≤ 40 := hr40
      go_loopw [9, 10] (fun ov iv wr => ∃ (j : Nat) (mv : Value) (vs : List Rw.Vr), j ≤ t.ends.length ∧ iv = .int .i64 j ∧ mv = ov ∧ Hid (wr.ownsRow W3.heap.size 54 3 mv vs.length (vs.flatMap vrC) ∧ vs = ⟨L.flatten, -1, 0⟩ :: Rw.endsFrom k L 0 (t.ends.take j)) ∧ Hid (Below W3.heap.size W3 wr)) (fun _ iv _ => t.ends.length - (RowKit.intOf iv).toNat)
      case atStart => exact ⟨0, _, _, Nat.zero_le _, rfl, rfl, hid ⟨HO5.out, by rw [List.take_zero]; rfl⟩, HB35⟩
      case round =>
        clear HO5 HB35
        obtain ⟨j, ov, vs, hj, rfl, rfl, HO, HR⟩ := hrel
        obtain ⟨va, vc, rfl⟩ := ownsRow_slice HO.out.1
        have HT4 := hid (HT3.out.below HR.out)
        have y2 := HT4.out.cell (j := 2) rfl
        have hz4 := HT4.out.lt
        by_cases hjt : j < t.ends.length
        · obtain ⟨g, o, rfl, hr⟩ := hE.out (by omega)
          obtain ⟨d, hd⟩ : ∃ d, t.ends[j]? = some d := ⟨_, List.getElem?_eq_getElem hjt⟩
          have hbW := Below.step HB3.out HR.out
          have hc := (hr.below hbW).2 j d hd
          have e0 := hc 0 _ rfl
          have e1 := hc 1 _ rfl
          have e2 := hc 2 _ rfl
          rw [Nat.add_zero] at e0
          have hg := (hr.below hbW).1
          have HG0 := hid hr.1
          have j0 : (0 : Int) ≤ (j : Int) := by omega
          have j1 : (j : Int) < (t.ends.length : Int) := by omega
          have HST := hid (Rw.endsFrom_step k L hd)
          have HOK := hid (HVR.out.2 d (List.mem_of_getElem? hd))
          have HFD := hid (hF.out d (List.mem_of_getElem? hd))
          have hvs : vs.length ≤ 41 := by
            rw [HO.out.2, List.length_cons]
            have := Rw.endsFrom_len k L (t.ends.take j) 0
            rw [List.length_take] at this
            omega
          have HLE := hid (rletters10_w d.script d.word wr.drew (by have := HFD.out.2; omega))
          obtain ⟨f, hlf, hfl, hfne, hf12, -, hc0, hc1⟩ := Fo.letters_drop HOK.out
          unfold LetWP at HLE
          rw [hfl] at HLE
          have HFF := hid (And.intro hfl hfne)
          have hfp : 0 < f.length := List.length_pos_iff.2 hfne
          clear hlf hfl hfne hc hr hd hbW
          go_upto_region 8 with (fail)
          refine wp_heldS (S := StillAt wr) (by kernel_rfl) ?_
          simp only [List.size_toArray, List.length_cons, List.length_nil, Nat.reduceAdd]
          intro hc
          have S0 : StillAt wr (Array.replicate 14 false) wr.drew := (Below.refl _ _).drew
          refine wpAnyS_take (i := 0) (v := .pointer (some ⟨W.heap.size, 2, none⟩)) rfl (by kernel_rfl) (by kernel_rfl) (by kernel_rfl) (fun _ _ _ h => h) (fun _ _ => Iff.rfl) hc (by first | rfl | simp [Region.wanted]) (fun wx hx => ?_) S0 (fun hc S0 => ?_)
          · go_simp
          try simp only [List.getElem_toArray, List.getElem_cons_zero, Act.put, List.setIfInBounds_toArray, List.set_cons_zero, List.set_cons_succ]
          refine wpAnyS_take (i := 1) (v := .slice (some ⟨g, o, none⟩) t.ends.length ce) rfl (by kernel_rfl) (by kernel_rfl) (by kernel_rfl) (fun _ _ _ h => h) (fun _ _ => Iff.rfl) hc (by first | rfl | simp [Region.wanted]) (fun wx hx => ?_) S0 (fun hc S0 => ?_)
          · have q := (hx.still.cell (p := ⟨W.heap.size, 2, none⟩) hz4).trans y2
            go_simp
          try simp only [List.getElem_toArray, List.getElem_cons_succ, List.getElem_cons_zero, Act.put, List.setIfInBounds_toArray, List.set_cons_zero, List.set_cons_succ]
          refine wpAnyS_take (i := 2) (v := .int .i64 j) rfl (by kernel_rfl) (by kernel_rfl) (by kernel_rfl) (fun _ _ _ h => h) (fun _ _ => Iff.rfl) hc (by first | rfl | simp [Region.wanted]) (fun wx hx => ?_) S0 (fun hc S0 => ?_)
          · go_simp
          try simp only [List.getElem_toArray, List.getElem_cons_succ, List.getElem_cons_zero, Act.put, List.setIfInBounds_toArray, List.set_cons_zero, List.set_cons_succ]
          refine wpAnyS_take (i := 3) (v := .pointer (some ⟨g, o + j * 3, none⟩)) rfl (by kernel_rfl) (by kernel_rfl) (by kernel_rfl) (fun _ _ _ h => h) (fun _ _ => Iff.rfl) hc (by first | rfl | simp [Region.wanted]) (fun wx hx => ?_) S0 (fun hc S0 => ?_)
          · go_simp
          try simp only [List.getElem_toArray, List.getElem_cons_succ, List.getElem_cons_zero, Act.put, List.setIfInBounds_toArray, List.set_cons_zero, List.set_cons_succ]
          refine wpAnyS_take (i := 4) (v := .pointer (some ⟨g, o + j * 3, none⟩)) rfl (by kernel_rfl) (by kernel_rfl) (by kernel_rfl) (fun _ _ _ h => h) (fun _ _ => Iff.rfl) hc (by first | rfl | simp [Region.wanted]) (fun wx hx => ?_) S0 (fun hc S0 => ?_)
          · go_simp
          try simp only [List.getElem_toArray, List.getElem_cons_succ, List.getElem_cons_zero, Act.put, List.setIfInBounds_toArray, List.set_cons_zero, List.set_cons_succ]
          refine wpAnyS_take (i := 5) (v := .int .i64 d.script) rfl (by kernel_rfl) (by kernel_rfl) (by kernel_rfl) (fun _ _ _ h => h) (fun _ _ => Iff.rfl) hc (by first | rfl | simp [Region.wanted]) (fun wx hx => ?_) S0 (fun hc S0 => ?_)
          · have q := (hx.still.cell (p := ⟨g, o + j * 3, none⟩) hg).trans e0
            go_simp
          try simp only [List.getElem_toArray, List.getElem_cons_succ, List.getElem_cons_zero, Act.put, List.setIfInBounds_toArray, List.set_cons_zero, List.set_cons_succ]
          refine wpAnyS_take (i := 6) (v := .pointer (some ⟨W.heap.size, 2, none⟩)) rfl (by kernel_rfl) (by kernel_rfl) (by kernel_rfl) (fun _ _ _ h => h) (fun _ _ => Iff.rfl) hc (by first | rfl | simp [Region.wanted]) (fun wx hx => ?_) S0 (fun hc S0 => ?_)
          · go_simp
          try simp only [List.getElem_toArray, List.getElem_cons_succ, List.getElem_cons_zero, Act.put, List.setIfInBounds_toArray, List.set_cons_zero, List.set_cons_succ]
          refine wpAnyS_take (i := 7) (v := .slice (some ⟨g, o, none⟩) t.ends.length ce) rfl (by kernel_rfl) (by kernel_rfl) (by kernel_rfl) (fun _ _ _ h => h) (fun _ _ => Iff.rfl) hc (by first | rfl | simp [Region.wanted]) (fun wx hx => ?_) S0 (fun hc S0 => ?_)
          · have q := (hx.still.cell (p := ⟨W.heap.size, 2, none⟩) hz4).trans y2
            go_simp
          try simp only [List.getElem_toArray, List.getElem_cons_succ, List.getElem_cons_zero, Act.put, List.setIfInBounds_toArray, List.set_cons_zero, List.set_cons_succ]
          refine wpAnyS_take (i := 8) (v := .int .i64 j) rfl (by kernel_rfl) (by kernel_rfl) (by kernel_rfl) (fun _ _ _ h => h) (fun _ _ => Iff.rfl) hc (by first | rfl | simp [Region.wanted]) (fun wx hx => ?_) S0 (fun hc S0 => ?_)
          · go_simp
          try simp only [List.getElem_toArray, List.getElem_cons_succ, List.getElem_cons_zero, Act.put, List.setIfInBounds_toArray, List.set_cons_zero, List.set_cons_succ]
          refine wpAnyS_take (i := 9) (v := .pointer (some ⟨g, o + j * 3, none⟩)) rfl (by kernel_rfl) (by kernel_rfl) (by kernel_rfl) (fun _ _ _ h => h) (fun _ _ => Iff.rfl) hc (by first | rfl | simp [Region.wanted]) (fun wx hx => ?_) S0 (fun hc S0 => ?_)
          · go_simp
          try simp only [List.getElem_toArray, List.getElem_cons_succ, List.getElem_cons_zero, Act.put, List.setIfInBounds_toArray, List.set_cons_zero, List.set_cons_succ]
          refine wpAnyS_take (i := 10) (v := .pointer (some ⟨g, o + j * 3 + 1, none⟩)) rfl (by kernel_rfl) (by kernel_rfl) (by kernel_rfl) (fun _ _ _ h => h) (fun _ _ => Iff.rfl) hc (by first | rfl | simp [Region.wanted]) (fun wx hx => ?_) S0 (fun hc S0 => ?_)
          · go_simp
          try simp only [List.getElem_toArray, List.getElem_cons_succ, List.getElem_cons_zero, Act.put, List.setIfInBounds_toArray, List.set_cons_zero, List.set_cons_succ]
          refine wpAnyS_take (i := 11) (v := .string (bs d.word)) rfl (by kernel_rfl) (by kernel_rfl) (by kernel_rfl) (fun _ _ _ h => h) (fun _ _ => Iff.rfl) hc (by first | rfl | simp [Region.wanted]) (fun wx hx => ?_) S0 (fun hc S0 => ?_)
          · have q := (hx.still.cell (p := ⟨g, o + j * 3 + 1, none⟩) hg).trans e1
            go_simp
          try simp only [List.getElem_toArray, List.getElem_cons_succ, List.getElem_cons_zero, Act.put, List.setIfInBounds_toArray, List.set_cons_zero, List.set_cons_succ]
          refine wpAnyS_one (i := 12) rfl (by kernel_rfl) (by rfl) hc (fun K' hK => ?_)
          go_simp
          refine (HLE.out).mono ?_
          rintro e A2 ⟨fv, rfl, hof, hb2⟩
          have hbJ : Below wr.heap.size wr A2 := Below.step (Below.refl _ wr).drew hb2
          refine hK.out _ _ hbJ (fun hc => ?_)
          clear hK K'
          have S0 : StillAt wr #[] A2 := hbJ
          try simp only [List.getElem_toArray, List.getElem_cons_succ, List.getElem_cons_zero, Act.put, List.setIfInBounds_toArray, List.set_cons_zero, List.set_cons_succ]
          refine wpAnyS_one (i := 13) rfl (by kernel_rfl) (by rfl) hc (fun K' hK => ?_)
          go_simp
          refine hK.out _ _ hbJ (fun hc => ?_)
          clear hK K'
          have S0 : StillAt wr #[] A2 := hbJ
          try simp only [List.getElem_toArray, List.getElem_cons_succ, List.getElem_cons_zero, Act.put, List.setIfInBounds_toArray, List.set_cons_zero, List.set_cons_succ]
          refine wpAnyS_done (by kernel_rfl) ?_ _
          clear hc S0
          obtain ⟨af, cf, rfl⟩ := ownsRow_slice hof
          have HT5 := hid (HT4.out.below hbJ)
          have y2 := HT5.out.cell (j := 2) rfl
          have hz5 := HT5.out.lt
          have e0 := (hbJ.cell (p := ⟨g, o + j * 3, none⟩) hg).trans e0
          have e2 := (hbJ.cell (p := ⟨g, o + j * 3 + 2, none⟩) hg).trans e2
          have hg := Nat.lt_of_lt_of_le hg hbJ.size
          have HOA2 := hid (ownsRow_below HO.out.1 hbJ)
          have HRA2 := hid (Below.step HR.out hbJ)
          have HF2 := hid (show SlOf A2 (.slice af f.length cf) 1 strC f from SlOf.own hof (fun _ _ => rfl))
          clear hof hb2 hbJ HLE e1
          by_cases hsc : d.script = k
          rotate_left
          · have hne : ((d.script : Int) == k) = false := by rw [beq_eq_false_iff_ne]; exact hsc
            have HEE := hid (show Rw.endOf k L j d = none by unfold Rw.endOf; rw [if_neg]; rintro ⟨h, -⟩; exact hsc h)
            clear hsc
            go_wp2_with fail
            go_roundw
            case rel => exact ⟨j + 1, _, vs, by omega, by go_num, rfl, hid ⟨HOA2.out, by rw [HST.out, HEE.out]; simp only [Option.toList_none, List.append_nil]; exact HO.out.2⟩, HRA2⟩
            case measure => simp [RowKit.intOf]; omega
          subst hsc
          have hne : ((d.script : Int) == d.script) = true := by simp
          by_cases hlt : f.length < n
          rotate_left
          · have gl2 : decide (f.length < n) = false := decide_eq_false hlt
            have HEE := hid (show Rw.endOf d.script L j d = none by unfold Rw.endOf; rw [HFF.out.1, if_neg]; rintro ⟨-, h, -⟩; rw [← HN.out] at h; exact hlt h)
            clear hlt
            go_wp2_with fail
            go_roundw
            case rel => exact ⟨j + 1, _, vs, by omega, by go_num, rfl, hid ⟨HOA2.out, by rw [HST.out, HEE.out]; simp only [Option.toList_none, List.append_nil]; exact HO.out.2⟩, HRA2⟩
            case measure => simp [RowKit.intOf]; omega
          obtain ⟨m, hm⟩ : ∃ m, m = n - f.length := ⟨_, rfl⟩
          have hwr : IntKind.i64.wrap ((n : Int) - (f.length : Int)) = (m : Int) := by rw [IntWalk.i64_in _ (by omega)]; omega
          have gl2 : decide (f.length < n) = true := decide_eq_true hlt
          have HAT := hid (rat10_any L f (.slice (some ⟨g3, o3, none⟩) n lc) (.slice af f.length cf) m A2 (HL3.out.below HRA2.out) HF2.out (by rw [← HN.out]; omega) (by omega) (by omega))
          obtain ⟨fb, hfb⟩ : ∃ fb, fb = Rw.atL L m f := ⟨_, rfl⟩
          rw [← hfb] at HAT
          have HFB := hid hfb
          have HMN := hid (And.intro hlt hm)
          clear hfb hm
          go_wp2_with fail
          refine (HAT.out).mono ?_
          rintro e A3 ⟨rfl, hb3⟩
          have HRA3 := hid (Below.step HRA2.out hb3)
          have HOA3 := hid (ownsRow_below HOA2.out hb3)
          have HT6 := hid (HT5.out.below hb3)
          have y2 := HT6.out.cell (j := 2) rfl
          have hz6 := HT6.out.lt
          have e2 := (hb3.cell (p := ⟨g, o + j * 3 + 2, none⟩) hg).trans e2
          have hg := Nat.lt_of_lt_of_le hg hb3.size
          have HEF := hid (show L.length - f.length = m ∧ ((L.drop m).take f.length = L.drop m) from ⟨by rw [← HN.out]; exact HMN.out.2.symm, List.take_of_length_le (by rw [List.length_drop, ← HN.out]; have := HMN.out; omega)⟩)
          have HAL := hid (show Rw.atL L m f = decide ((L.drop m).take f.length = f) by unfold Rw.atL; rw [decide_eq_true (show m + f.length ≤ L.length by rw [← HN.out]; have := HMN.out; omega), Bool.true_and])
          clear hb3 HAT gl2 e0 hz5 hlt
          cases fb with
          | false =>
            have HEE := hid (show Rw.endOf d.script L j d = none by
              unfold Rw.endOf
              rw [HFF.out.1, if_neg]
              rintro ⟨-, -, h⟩
              rw [HEF.out.1] at h
              have := of_decide_eq_false (HAL.out.symm.trans HFB.out.symm)
              rw [HEF.out.2] at this
              exact this h)
            go_wp2_with fail
            go_roundw
            case rel => exact ⟨j + 1, _, vs, by omega, by go_num, rfl, hid ⟨HOA3.out, by rw [HST.out, HEE.out]; simp only [Option.toList_none, List.append_nil]; exact HO.out.2⟩, HRA3⟩
            case measure => simp [RowKit.intOf]; omega
          | true =>
            have HEE := hid (show Rw.endOf d.script L j d = some ⟨(L.take m).flatten, j, d.cost⟩ by
              unfold Rw.endOf
              rw [HFF.out.1, HEF.out.1, if_pos]
              refine ⟨rfl, by rw [← HN.out]; exact HMN.out.1, ?_⟩
              have := of_decide_eq_true (HAL.out.symm.trans HFB.out.symm)
              rw [HEF.out.2] at this
              exact this)
            have hmn : m ≤ n := by have := HMN.out.2; omega
            have s0 : (0 : Int) ≤ (m : Int) ∧ (m : Int) ≤ (lc : Int) := by omega
            have s7 : m ≤ lc := by omega
            have s5 : (0 : Int) ≤ (m : Int) := by omega
            have hJ := HJ.out A3.drew (HRA3.out.drew) m hmn
            have hown5 := HOA3.out
            have hlo : ∀ q, (Value.slice va vs.length vc).ownBlock = some q → W3.heap.size ≤ q := fun q e => (HO.out.1.lt q e).1
            have HZ3 := hid (And.intro (Nat.lt_of_lt_of_le HG0.out HB3.out.size) HT3.out.lt)
            go_upto_region 10 with (fail)
            refine wp_heldS (S := StillT (fun b => (Value.slice va vs.length vc).ownBlock = some b) A3) (by kernel_rfl) ?_
            simp only [List.size_toArray, List.length_cons, List.length_nil, Nat.reduceAdd]
            intro hc
            have S0 : StillT (fun b => (Value.slice va vs.length vc).ownBlock = some b) A3 (Array.replicate 20 false) A3.drew := (Tch.refl (fun b => (Value.slice va vs.length vc).ownBlock = some b) A3).step (Below.refl _ _).drew
            refine wpAnyS_take (i := 0) (v := .slice va vs.length vc) rfl (by kernel_rfl) (by kernel_rfl) (by kernel_rfl) (fun _ _ _ h => h) (fun _ _ => Iff.rfl) hc (by first | rfl | simp [Region.wanted]) (fun wx hx => ?_) S0 (fun hc S0 => ?_)
            · go_simp
            try simp only [List.getElem_toArray, List.getElem_cons_zero, Act.put, List.setIfInBounds_toArray, List.set_cons_zero, List.set_cons_succ]
            refine wpAnyS_take (i := 1) (v := .slice (some ⟨g3, o3, none⟩) n lc) rfl (by kernel_rfl) (by kernel_rfl) (by kernel_rfl) (fun _ _ _ h => h) (fun _ _ => Iff.rfl) hc (by first | rfl | simp [Region.wanted]) (fun wx hx => ?_) S0 (fun hc S0 => ?_)
            · go_simp
            try simp only [List.getElem_toArray, List.getElem_cons_succ, List.getElem_cons_zero, Act.put, List.setIfInBounds_toArray, List.set_cons_zero, List.set_cons_succ]
            refine wpAnyS_take (i := 2) (v := .slice (some ⟨g3, o3, none⟩) n lc) rfl (by kernel_rfl) (by kernel_rfl) (by kernel_rfl) (fun _ _ _ h => h) (fun _ _ => Iff.rfl) hc (by first | rfl | simp [Region.wanted]) (fun wx hx => ?_) S0 (fun hc S0 => ?_)
            · go_simp
            try simp only [List.getElem_toArray, List.getElem_cons_succ, List.getElem_cons_zero, Act.put, List.setIfInBounds_toArray, List.set_cons_zero, List.set_cons_succ]
            refine wpAnyS_take (i := 3) (v := .int .i64 n) rfl (by kernel_rfl) (by kernel_rfl) (by kernel_rfl) (fun _ _ _ h => h) (fun _ _ => Iff.rfl) hc (by first | rfl | simp [Region.wanted]) (fun wx hx => ?_) S0 (fun hc S0 => ?_)
            · go_simp
            try simp only [List.getElem_toArray, List.getElem_cons_succ, List.getElem_cons_zero, Act.put, List.setIfInBounds_toArray, List.set_cons_zero, List.set_cons_succ]
            refine wpAnyS_take (i := 4) (v := .slice af f.length cf) rfl (by kernel_rfl) (by kernel_rfl) (by kernel_rfl) (fun _ _ _ h => h) (fun _ _ => Iff.rfl) hc (by first | rfl | simp [Region.wanted]) (fun wx hx => ?_) S0 (fun hc S0 => ?_)
            · go_simp
            try simp only [List.getElem_toArray, List.getElem_cons_succ, List.getElem_cons_zero, Act.put, List.setIfInBounds_toArray, List.set_cons_zero, List.set_cons_succ]
            refine wpAnyS_take (i := 5) (v := .int .i64 f.length) rfl (by kernel_rfl) (by kernel_rfl) (by kernel_rfl) (fun _ _ _ h => h) (fun _ _ => Iff.rfl) hc (by first | rfl | simp [Region.wanted]) (fun wx hx => ?_) S0 (fun hc S0 => ?_)
            · go_simp
            try simp only [List.getElem_toArray, List.getElem_cons_succ, List.getElem_cons_zero, Act.put, List.setIfInBounds_toArray, List.set_cons_zero, List.set_cons_succ]
            refine wpAnyS_take (i := 6) (v := .int .i64 m) rfl (by kernel_rfl) (by kernel_rfl) (by kernel_rfl) (fun _ _ _ h => h) (fun _ _ => Iff.rfl) hc (by first | rfl | simp [Region.wanted]) (fun wx hx => ?_) S0 (fun hc S0 => ?_)
            · go_simp
            try simp only [List.getElem_toArray, List.getElem_cons_succ, List.getElem_cons_zero, Act.put, List.setIfInBounds_toArray, List.set_cons_zero, List.set_cons_succ]
            refine wpAnyS_take (i := 7) (v := .slice (some ⟨g3, o3, none⟩) m lc) rfl (by kernel_rfl) (by kernel_rfl) (by kernel_rfl) (fun _ _ _ h => h) (fun _ _ => Iff.rfl) hc (by first | rfl | simp [Region.wanted]) (fun wx hx => ?_) S0 (fun hc S0 => ?_)
            · go_simp
            try simp only [List.getElem_toArray, List.getElem_cons_succ, List.getElem_cons_zero, Act.put, List.setIfInBounds_toArray, List.set_cons_zero, List.set_cons_succ]
            refine wpAnyS_take (i := 9) (v := .int .i64 j) rfl (by kernel_rfl) (by kernel_rfl) (by kernel_rfl) (fun _ _ _ h => h) (fun _ _ => Iff.rfl) hc (by first | rfl | simp [Region.wanted]) (fun wx hx => ?_) S0 (fun hc S0 => ?_)
            · go_simp
            try simp only [List.getElem_toArray, List.getElem_cons_succ, List.getElem_cons_zero, Act.put, List.setIfInBounds_toArray, List.set_cons_zero, List.set_cons_succ]
            refine wpAnyS_take (i := 10) (v := .pointer (some ⟨W.heap.size, 2, none⟩)) rfl (by kernel_rfl) (by kernel_rfl) (by kernel_rfl) (fun _ _ _ h => h) (fun _ _ => Iff.rfl) hc (by first | rfl | simp [Region.wanted]) (fun wx hx => ?_) S0 (fun hc S0 => ?_)
            · go_simp
            try simp only [List.getElem_toArray, List.getElem_cons_succ, List.getElem_cons_zero, Act.put, List.setIfInBounds_toArray, List.set_cons_zero, List.set_cons_succ]
            refine wpAnyS_take (i := 11) (v := .slice (some ⟨g, o, none⟩) t.ends.length ce) rfl (by kernel_rfl) (by kernel_rfl) (by kernel_rfl) (fun _ _ _ h => h) (fun _ _ => Iff.rfl) hc (by first | rfl | simp [Region.wanted]) (fun wx hx => ?_) S0 (fun hc S0 => ?_)
            · have y := (World.cell?_of_block (a := ⟨W.heap.size, 2, none⟩) (hx.stillT.block _ hz6 (fun e => absurd (hlo _ e) (Nat.not_le.2 HZ3.out.2)))).trans y2
              go_simp
            try simp only [List.getElem_toArray, List.getElem_cons_succ, List.getElem_cons_zero, Act.put, List.setIfInBounds_toArray, List.set_cons_zero, List.set_cons_succ]
            refine wpAnyS_take (i := 12) (v := .int .i64 j) rfl (by kernel_rfl) (by kernel_rfl) (by kernel_rfl) (fun _ _ _ h => h) (fun _ _ => Iff.rfl) hc (by first | rfl | simp [Region.wanted]) (fun wx hx => ?_) S0 (fun hc S0 => ?_)
            · go_simp
            try simp only [List.getElem_toArray, List.getElem_cons_succ, List.getElem_cons_zero, Act.put, List.setIfInBounds_toArray, List.set_cons_zero, List.set_cons_succ]
            refine wpAnyS_take (i := 13) (v := .pointer (some ⟨g, o + j * 3, none⟩)) rfl (by kernel_rfl) (by kernel_rfl) (by kernel_rfl) (fun _ _ _ h => h) (fun _ _ => Iff.rfl) hc (by first | rfl | simp [Region.wanted]) (fun wx hx => ?_) S0 (fun hc S0 => ?_)
            · go_simp
            try simp only [List.getElem_toArray, List.getElem_cons_succ, List.getElem_cons_zero, Act.put, List.setIfInBounds_toArray, List.set_cons_zero, List.set_cons_succ]
            refine wpAnyS_take (i := 14) (v := .pointer (some ⟨g, o + j * 3 + 2, none⟩)) rfl (by kernel_rfl) (by kernel_rfl) (by kernel_rfl) (fun _ _ _ h => h) (fun _ _ => Iff.rfl) hc (by first | rfl | simp [Region.wanted]) (fun wx hx => ?_) S0 (fun hc S0 => ?_)
            · go_simp
            try simp only [List.getElem_toArray, List.getElem_cons_succ, List.getElem_cons_zero, Act.put, List.setIfInBounds_toArray, List.set_cons_zero, List.set_cons_succ]
            refine wpAnyS_take (i := 15) (v := .int .i64 d.cost) rfl (by kernel_rfl) (by kernel_rfl) (by kernel_rfl) (fun _ _ _ h => h) (fun _ _ => Iff.rfl) hc (by first | rfl | simp [Region.wanted]) (fun wx hx => ?_) S0 (fun hc S0 => ?_)
            · have y := (World.cell?_of_block (a := ⟨g, o + j * 3 + 2, none⟩) (hx.stillT.block _ hg (fun e => absurd (hlo _ e) (Nat.not_le.2 HZ3.out.1)))).trans e2
              go_simp
            try simp only [List.getElem_toArray, List.getElem_cons_succ, List.getElem_cons_zero, Act.put, List.setIfInBounds_toArray, List.set_cons_zero, List.set_cons_succ]
            refine wpAnyS_one (i := 8) rfl (by kernel_rfl) (by rfl) hc (fun K' hK => ?_)
            go_simp
            refine hJ.mono ?_
            rintro e w6 ⟨rfl, hb6⟩
            have hb56 : Below A3.heap.size A3 w6 := Below.step (Below.refl _ _).drew hb6
            refine hK.out _ _ (Tch.of_below hb56 _) (fun hc => ?_)
            clear hK K'
            try simp only [List.getElem_toArray, List.getElem_cons_succ, List.getElem_cons_zero, Act.put, List.setIfInBounds_toArray, List.set_cons_zero, List.set_cons_succ]
            refine wpAnyS_one (i := 16) rfl (by kernel_rfl) (by rfl) hc (fun K' hK => ?_)
            go_simp
            refine hK.out _ _ (Tch.of_below hb56 _) (fun hc => ?_)
            clear hK K'
            try simp only [List.getElem_toArray, List.getElem_cons_succ, List.getElem_cons_zero, Act.put, List.setIfInBounds_toArray, List.set_cons_zero, List.set_cons_succ]
            refine wpAnyS_one (i := 17) rfl (by kernel_rfl) (by rfl) hc (fun K' hK => ?_)
            go_simp
            have hb7 : Below A3.heap.size A3 (w6.alloc (.cells #[.string (bs (L.take m).flatten), .int .i64 j, .int .i64 d.cost] 54)) := Below.step hb56 ((Below.refl _ w6).alloc (Nat.le_refl _) _)
            refine hK.out _ _ (Tch.of_below hb7 _) (fun hc => ?_)
            clear hK K'
            try simp only [List.getElem_toArray, List.getElem_cons_succ, List.getElem_cons_zero, Act.put, List.setIfInBounds_toArray, List.set_cons_zero, List.set_cons_succ]
            have hown7 := (ownsRow_below hown5 hb56).alloc (.cells #[.string (bs (L.take m).flatten), .int .i64 j, .int .i64 d.cost] 54)
            have hz56 := hb56.size
            have hz3a := HRA3.out.size
            refine wpAnyS_one (i := 18) rfl (by kernel_rfl) (by rfl) hc (fun K' hK => ?_)
            refine wp_append_own _ _ _ 47 rfl W3.heap.size 54 i0 (.agg #[.string ⟨#[]⟩, .int .i64 0, .int .i64 0]) 3 32 Tryz.underlying47 hi hz0 hz1 hz2 rfl (by decide) _ _ _ rfl hown7 ⟨w6.heap.size, 0, none⟩ 1 1 [.string (bs (L.take m).flatten), .int .i64 j, .int .i64 d.cost] rfl rfl (cells_new rfl) (by simp [Value.oneCell']) (by unfold maxLen; omega) (by omega) (by simp; omega) ?_
            intro v' w8 ho8 hg8 _
            refine hK.out _ _ ((Tch.of_below hb7 _).grown hg8 fun r e => .inl e) (fun hc => ?_)
            clear hK K'
            try simp only [List.getElem_toArray, List.getElem_cons_succ, List.getElem_cons_zero, Act.put, List.setIfInBounds_toArray, List.set_cons_zero, List.set_cons_succ]
            refine wpAnyS_one (i := 19) rfl (by kernel_rfl) (by rfl) hc (fun K' hK => ?_)
            go_simp
            refine hK.out _ _ ((Tch.of_below hb7 _).grown hg8 fun r e => .inl e) (fun hc => ?_)
            clear hK K'
            try simp only [List.getElem_toArray, List.getElem_cons_succ, List.getElem_cons_zero, Act.put, List.setIfInBounds_toArray, List.set_cons_zero, List.set_cons_succ]
            refine wpAnyS_done (by kernel_rfl) ?_ _
            have HO8 := hid (show w8.ownsRow W3.heap.size 54 3 v' (vs ++ [(⟨(L.take m).flatten, j, d.cost⟩ : Rw.Vr)]).length ((vs ++ [(⟨(L.take m).flatten, j, d.cost⟩ : Rw.Vr)]).flatMap vrC) ∧ vs ++ [(⟨(L.take m).flatten, j, d.cost⟩ : Rw.Vr)] = ⟨L.flatten, -1, 0⟩ :: Rw.endsFrom d.script L 0 (t.ends.take (j + 1)) from ⟨by
              rw [List.flatMap_append, List.length_append]
              exact ho8, by rw [HST.out, HEE.out, HO.out.2]; rfl⟩)
            have HR8 := hid (Below.appended (HRA3.out.trans (hb7.mono HRA3.out.size)) hg8 (by simp; omega) hown7)
            clear hc S0 ho8 hg8 hown7 hb7 hb6 hb56 hown5 hlo hJ s0 s5 s7
            go_wp2_with fail
            go_roundw
            case rel => exact ⟨j + 1, _, _, by omega, by go_num, rfl, HO8, HR8⟩
            case measure => simp [RowKit.intOf]; omega
        · have hje : j = t.ends.length := by omega
          have j1 : ¬ (j : Int) < (t.ends.length : Int) := by omega
          have HEE := hid (show (Rw.variants t k word) = (vs, 0) by rw [HE.out, HO.out.2, hje, List.take_length])
          clear hje
          go_wp2_with fail
          go_ret2
          unfold VarP
          rw [HEE.out]
          exact ⟨_, rfl, ownsRow_base HO.out.1 HB3.out.size, HB3.out.trans (HR.out.mono HB3.out.size)⟩

end Go.Proofs.YtdchjacccmajcaaGreatDoor
