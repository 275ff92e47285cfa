/-
  ListNames: the law holds. Conditions: the library's tables.
-/
import Derived.Test.YtidkmhokolknbaaGreatDoorZLawIx
import Derived.Test.YtidkmhokolknbaaGreatDoorZMLiB
namespace Go.Proofs.YtidkmhokolknbaaGreatDoor
open Go.RowKit Go.Lib Go.Maps

/-- a change's block with two cells set -/
theorem ch_two {w W : World} {D : Nat} {a0 a1 a2 a3 a4 : Value} (b0 b4 : Value) (h : W.heap[D]? = some (.cells #[a0, a1, a2, a3, a4] 27 (0, 0))) (hb : Below w.heap.size w W) (hD : w.heap.size ≤ D) :
    ((W.setCell ⟨D, 0, none⟩ b0).setCell ⟨D, 4, none⟩ b4).heap[D]? = some (.cells #[b0, a1, a2, a3, b4] 27 (0, 0)) ∧ Below w.heap.size w ((W.setCell ⟨D, 0, none⟩ b0).setCell ⟨D, 4, none⟩ b4) :=
  ⟨by simp [World.setCell, Array.getElem?_modify, h], (hb.setCell (p := ⟨D, 0, none⟩) hD _).setCell (p := ⟨D, 4, none⟩) hD _⟩

set_option maxRecDepth 100000 in
set_option maxHeartbeats 8000000 in
theorem names_law (ps : List (Li.Ls × Value)) (v : Value) (c0 : Li.Ch) (u : Value) (t : Int) (w : World) (hl : LssRaw w v ps) (hn : NmsRin w u c0.en.names) (hA : Tabs w) (hT : Tab10 w) :
    Calls Tryz.prog 7 #[v, .agg #[.int .i64 c0.kind, .string (bs c0.id), .string (bs c0.en.id), u, .int .i64 c0.at_], .int .i64 t] w (Gives (.bool true) w) := by
  have HAA := hid hA
  have HTT := hid hT
  have HL := hid hl
  have HN := hid hn
  obtain ⟨na, nc, rfl⟩ := hn.slice
  obtain ⟨W1, hW1⟩ : ∃ W1, W1 = w.alloc (.cells #[.int .i64 c0.kind, .string (bs c0.id), .string (bs c0.en.id), .slice na c0.en.names.length nc, .int .i64 c0.at_] 27) := ⟨_, rfl⟩
  have HB1 := hid (ChBox.new hW1).below
  have HD1 := hid (show W1.heap[w.heap.size]? = some (.cells #[.int .i64 c0.kind, .string (bs c0.id), .string (bs c0.en.id), .slice na c0.en.names.length nc, .int .i64 c0.at_] 27 (0, 0)) by rw [hW1]; exact alloc_new w _)
  have HH := hid (head_true W1 (hA.below HB1.out) (hT.below HB1.out))
  obtain ⟨⟨va, cap, rfl, -, -, -⟩, -⟩ := hl
  clear hA hT hn
  go_enter Tryz.func7, Tryz.ntmps7
  go_upto_region 1 with (fail)
  rw [← hW1]
  clear hW1
  go_wp2_with fail
  refine (HH.out).mono ?_
  rintro e w2 ⟨rfl, hb2⟩
  have HB2 := hid (Below.step HB1.out hb2)
  have HD2 := hid ((hb2.block _ (Array.getElem?_eq_some_iff.1 HD1.out).1).trans HD1.out)
  obtain ⟨⟨d0, d1, d2, d3, d4⟩, ⟨g0, g1, g2, g3, g4⟩, zp⟩ := ch_cells HD2.out
  clear hb2
  go_upto_region 3 with (fail)
  obtain ⟨c, hc⟩ : ∃ c : Li.Ch, c = ⟨3, c0.id, c0.en, 0⟩ := ⟨_, rfl⟩
  obtain ⟨W3, hW3⟩ : ∃ W3, W3 = (w2.setCell ⟨w.heap.size, 0, none⟩ (.int .i64 3)).setCell ⟨w.heap.size, 4, none⟩ (.int .i64 0) := ⟨_, rfl⟩
  rw [← hW3]
  have hw3 := ch_two (.int .i64 3) (.int .i64 0) HD2.out HB2.out (Nat.le_refl _)
  rw [← hW3] at hw3
  have HB3 := hid hw3.2
  have HX3 : Hid (ChBox w W3 c.kind c.id c.en.id (.slice na c.en.names.length nc) c.at_) := by
    obtain ⟨⟨d0, d1, d2, d3, d4⟩, ⟨g0, g1, g2, g3, g4⟩, zp⟩ := ch_cells hw3.1
    rw [hc]
    exact ⟨d0, d1, d2, d3, d4, zp, hw3.2⟩
  have HN' : Hid (NmsRin w (.slice na c.en.names.length nc) c.en.names) := by rw [hc]; exact HN.out
  have HCK := hid (show c.kind = 3 by rw [hc])
  rw [show c0.en.names.length = c.en.names.length by rw [hc], show c0.id = c.id by rw [hc], show c0.en.id = c.en.id by rw [hc]]
  clear hc hW3 hw3 d0 d1 d2 d3 d4 g0 g1 g2 g3 g4 zp HN HD1 HD2
  have HF := hid (lawFew_any ps _ c.kind c.id c.en.id c.en.names _ c.at_ W3 (HL.out.below HB3.out) (HN'.out.below HB3.out))
  obtain ⟨d0, d1, d2, d3, d4, z1, -⟩ := HX3.out
  obtain ⟨fb, hfb⟩ : ∃ fb, fb = (Li.fewLs (ps.map Prod.fst) && Li.fewCh c) := ⟨_, rfl⟩
  rw [← hfb] at HF
  have HFB := hid hfb
  clear hfb
  go_wp2_with fail
  refine (HF.out).mono ?_
  rintro e w4 ⟨rfl, hb4⟩
  have HB4 := hid (Below.step HB3.out hb4)
  have HX4 := hid (HX3.out.step hb4)
  clear hb4 d0 d1 d2 d3 d4 z1
  cases fb with
  | false =>
    go_wp2_with fail
    go_ret
    exact ⟨rfl, HB4.out⟩
  | true =>
    obtain ⟨hls, hlen, hnm, hi1, hi2⟩ := few_facts (c := c) (HL.out.below HB4.out) (HN'.out.below HB4.out) HFB.out.symm
    have HLS := hid hls
    have HNM := hid hnm
    have HAP := hid (apply_law c _ ps _ w4 hls (by omega) hnm hi1 hi2 (HAA.out.below HB4.out) (HTT.out.below HB4.out))
    obtain ⟨d0, d1, d2, d3, d4, z1, -⟩ := HX4.out
    clear hls hnm
    go_wp2_with fail
    refine (HAP.out).mono ?_
    rintro e w5 ⟨a1, j1, ps1, rfl, hm1, hl1, hb5⟩
    obtain ⟨n1, hn1⟩ : ∃ n1, n1 = (Li.apply (ps.map Prod.fst) c).2 := ⟨_, rfl⟩
    rw [← hn1]
    have HB5 := hid (Below.step HB4.out hb5)
    have HX5 := hid (HX4.out.step hb5)
    have HLS5 := hid (HLS.out.below hb5)
    have HNM5 := hid (HNM.out.below hb5)
    have H1 := hid (And.intro hm1 hn1)
    have HL1 := hid hl1
    clear hb5 hm1 hn1 hl1 d0 d1 d2 d3 d4 z1
    by_cases h10 : n1 = 0
    · have hnb : (n1 != 0) = false := by rw [h10]; rfl
      have HO1 := hid (show (Li.apply (ps.map Prod.fst) c).2 = 0 by rw [← H1.out.2]; exact h10)
      have HLT := hid (Li.law_names HO1.out HCK.out t)
      have HA1 := hid (at_law ps _ t w5 HLS5.out (by omega) (HAA.out.below HB5.out) (HTT.out.below HB5.out))
      clear h10
      go_wp2_with fail
      refine (HA1.out).mono ?_
      rintro e w6 ⟨a5, k5, es5, rfl, he5, hE5, hle5, hb6⟩
      have HB6 := hid (Below.step HB5.out hb6)
      have HX6 := hid (HX5.out.step hb6)
      have HNM6 := hid (HNM5.out.below hb6)
      have HE5 := hid (And.intro he5 hE5)
      have HA2 := hid (at_law ps1 _ t w6 (HL1.out.below hb6) (apply_short H1.out.1 HO1.out) (HAA.out.below HB6.out) (HTT.out.below HB6.out))
      clear he5 hE5 hb6
      go_wp2_with fail
      refine (HA2.out).mono ?_
      rintro e w7 ⟨a6, k6, es6, rfl, he6, hE6, hle6, hb7⟩
      have HB7 := hid (Below.step HB6.out hb7)
      have HX7 := hid (HX6.out.step hb7)
      have HNM7 := hid (HNM6.out.below hb7)
      have HES5 := hid (HE5.out.2.below hb7)
      have HES6 := hid hE6
      have hmap : es6.map Prod.fst = (es5.map Prod.fst).map fun e => if e.id = c.id then c.en else e := by rw [he6, HE5.out.1, H1.out.1]; exact HLT.out
      have HMAP := hid hmap
      have hll : es5.length = es6.length := by
        have := congrArg List.length hmap
        rw [List.length_map, List.length_map, List.length_map] at this
        exact this.symm
      have HLL := hid hll
      have hne : ((es5.length : Int) != (es6.length : Int)) = false := by rw [hll]; simp
      clear he6 hE6 hb7 hmap hll
      go_wp2_with fail
      go_loopw [12] (fun iv wr => ∃ k : Nat, k ≤ es6.length ∧ iv = .int .i64 k ∧ Hid (Below w7.heap.size w7 wr)) (fun iv _ => es6.length - (RowKit.intOf iv).toNat)
      case atStart => exact ⟨0, Nat.zero_le _, rfl, Below.refl _ _⟩
      case round =>
        obtain ⟨k, hk, rfl, HR⟩ := hrel
        by_cases hlt : k < es6.length
        · obtain ⟨x, hx⟩ : ∃ x, es5[k]? = some x := ⟨_, List.getElem?_eq_getElem (by have := HLL.out; omega)⟩
          obtain ⟨y, hy⟩ : ∃ y, es6[k]? = some y := ⟨_, List.getElem?_eq_getElem hlt⟩
          have HBR := hid (Below.step HB7.out HR.out)
          have HXR := hid (HX7.out.step HR.out)
          obtain ⟨g5, o5, rfl, hr5⟩ : ∃ g o, a5 = some ⟨g, o, none⟩ ∧ RowOf wr g o 2 enC es5 := by
            obtain ⟨a', cap', ev, -, -, hr⟩ := (HES5.out.below HR.out).sl
            cases ev
            exact hr (by have := HLL.out; omega)
          obtain ⟨g6, o6, rfl, hr6⟩ : ∃ g o, a6 = some ⟨g, o, none⟩ ∧ RowOf wr g o 2 enC es6 := by
            obtain ⟨a', cap', ev, -, -, hr⟩ := (HES6.out.below HR.out).sl
            cases ev
            exact hr (by omega)
          have HQ5 := hid ((HES5.out.below HR.out).nm x (List.mem_of_getElem? hx))
          have HQ6 := hid ((HES6.out.below HR.out).nm y (List.mem_of_getElem? hy))
          have hxy : y.1 = if x.1.id = c.id then c.en else x.1 := by
            have h1 : (es6.map Prod.fst)[k]? = some y.1 := by rw [List.getElem?_map, hy]; rfl
            rw [HMAP.out, List.getElem?_map, List.getElem?_map, hx] at h1
            exact (Option.some.inj h1).symm
          have HXY := hid hxy
          have hc5 := hr5.2 k _ hx
          have hc6 := hr6.2 k _ hy
          have e50 := hc5 0 _ rfl
          have e51 := hc5 1 _ rfl
          have e60 := hc6 0 _ rfl
          have e61 := hc6 1 _ rfl
          have hz5 := hr5.1
          have hz6 := hr6.1
          clear hc5 hc6 hr5 hr6 hx hy hxy
          obtain ⟨⟨i5, n5⟩, u5⟩ := x
          obtain ⟨⟨i6, n6⟩, u6⟩ := y
          obtain ⟨ya, yc, hu5⟩ := HQ5.out.slice
          obtain ⟨xa, xc, hu6⟩ := HQ6.out.slice
          simp only at hu5 hu6 e50 e51 e60 e61
          subst hu5
          subst hu6
          rw [Nat.add_zero] at e50 e60
          have hk0 : (0 : Int) ≤ (k : Int) := by omega
          have hk1 : (k : Int) < (es6.length : Int) := by omega
          have hk2 : (k : Int) < (es5.length : Int) := by have := HLL.out; omega
          obtain ⟨Wa, hWa⟩ : ∃ Wa, Wa = wr.alloc (.cells #[.string (bs i5), .slice ya n5.length yc] 25) := ⟨_, rfl⟩
          have HBA := hid (show Below wr.heap.size wr Wa by rw [hWa]; exact (Below.refl _ wr).alloc (Nat.le_refl _) _)
          have hda : Wa.heap[wr.heap.size]? = some (.cells #[.string (bs i5), .slice ya n5.length yc] 25 (0, 0)) := by rw [hWa]; exact alloc_new wr _
          have HDA := hid hda
          go_upto_region 15 with (fail)
          rw [← hWa]
          clear hWa
          have q0 : Wa.cell? ⟨wr.heap.size, 0, none⟩ = some (.string (bs i5)) := by simp [World.cell?, hda]
          have q1 : Wa.cell? ⟨wr.heap.size, 1, none⟩ = some (.slice ya n5.length yc) := by simp [World.cell?, hda]
          have zq := (Array.getElem?_eq_some_iff.1 hda).1
          have f0 : Wa.frozen? ⟨wr.heap.size, 0, none⟩ = false := by simp [World.frozen?, hda]
          have f1 : Wa.frozen? ⟨wr.heap.size, 1, none⟩ = false := by simp [World.frozen?, hda]
          have HXA := hid (HXR.out.step HBA.out)
          obtain ⟨d0, d1, d2, d3, d4, z1, -⟩ := HXA.out
          have hnb := name_beq i5 c.id
          clear hda
          by_cases hid_ : i5 = c.id
          · rw [decide_eq_true hid_] at hnb
            have HEQ := hid (show (⟨i6, n6⟩ : Li.En) = ⟨c.en.id, c.en.names⟩ from HXY.out.trans (if_pos hid_))
            clear hid_
            go_upto_region 17 with (fail)
            obtain ⟨wt, hwt⟩ : ∃ wt, wt = (Wa.setCell ⟨wr.heap.size, 0, none⟩ (.string (bs c.en.id))).setCell ⟨wr.heap.size, 1, none⟩ (.slice na c.en.names.length nc) := ⟨_, rfl⟩
            rw [← hwt]
            have hdt : wt.heap[wr.heap.size]? = some (.cells #[.string (bs c.en.id), .slice na c.en.names.length nc] 25 (0, 0)) := by
              rw [hwt]
              have := HDA.out
              simp [World.setCell, Array.getElem?_modify, this]
            have HBRT := hid (show Below wr.heap.size wr wt by rw [hwt]; exact (HBA.out.setCell (p := ⟨wr.heap.size, 0, none⟩) (Nat.le_refl _) _).setCell (p := ⟨wr.heap.size, 1, none⟩) (Nat.le_refl _) _)
            have HBT := hid (Below.step HR.out HBRT.out)
            clear hwt q0 q1 f0 f1 zq d0 d1 d2 d3 d4 z1 hnb
            have q0 : wt.cell? ⟨wr.heap.size, 0, none⟩ = some (.string (bs c.en.id)) := by simp [World.cell?, hdt]
            have q1 : wt.cell? ⟨wr.heap.size, 1, none⟩ = some (.slice na c.en.names.length nc) := by simp [World.cell?, hdt]
            have zq := (Array.getElem?_eq_some_iff.1 hdt).1
            clear hdt e50 e51 hz5
            have HSE := hid (show Calls Tryz.prog 29 #[.agg #[.string (bs i6), .slice xa n6.length xc], .agg #[.string (bs c.en.id), (.slice na c.en.names.length nc)]] wt.drew (Gives (.bool true) wt.drew) by
              have h := sameE_any i6 c.en.id n6 c.en.names (.slice xa n6.length xc) (.slice na c.en.names.length nc) wt.drew (HQ6.out.below (HBRT.out.drew)) ((HNM7.out.below HBT.out).rin.below (Below.refl wt.heap.size wt).drew)
              rw [decide_eq_true (HEQ.out)] at h
              exact h)
            have hz6' := Nat.lt_of_lt_of_le hz6 HBRT.out.size
            have e60' := (HBRT.out.cell (p := ⟨g6, o6 + k * 2, none⟩) hz6).trans e60
            have e61' := (HBRT.out.cell (p := ⟨g6, o6 + k * 2 + 1, none⟩) hz6).trans e61
            clear e60 e61 hz6
            have hk0 : (0 : Int) ≤ (k : Int) := by omega
            refine wp_heldS (S := StillAt wt) (by kernel_rfl) ?_
            simp only [List.size_toArray, List.length_cons, List.length_nil, Nat.reduceAdd]
            intro hc
            have S0 : StillAt wt (Array.replicate 7 false) wt.drew := (Below.refl _ _).drew
            refine wpAnyS_take (i := 0) (v := .slice (some ⟨g6, o6, none⟩) es6.length k6) rfl (by kernel_rfl) (by kernel_rfl) (by kernel_rfl) (fun _ _ _ h => h) (fun _ _ => Iff.rfl) hc (by first | rfl | simp [Region.wanted]) (fun wx hx => ?_) S0 (fun hc S0 => ?_)
            · go_simp
            try simp only [List.getElem_toArray, List.getElem_cons_zero, Act.put, List.setIfInBounds_toArray, List.set_cons_zero, List.set_cons_succ]
            refine wpAnyS_take (i := 1) (v := .int .i64 k) rfl (by kernel_rfl) (by kernel_rfl) (by kernel_rfl) (fun _ _ _ h => h) (fun _ _ => Iff.rfl) hc (by first | rfl | simp [Region.wanted]) (fun wx hx => ?_) S0 (fun hc S0 => ?_)
            · go_simp
            try simp only [List.getElem_toArray, List.getElem_cons_succ, List.getElem_cons_zero, Act.put, List.setIfInBounds_toArray, List.set_cons_zero, List.set_cons_succ]
            refine wpAnyS_take (i := 2) (v := .pointer (some ⟨g6, o6 + k * 2, none⟩)) rfl (by kernel_rfl) (by kernel_rfl) (by kernel_rfl) (fun _ _ _ h => h) (fun _ _ => Iff.rfl) hc (by first | rfl | simp [Region.wanted]) (fun wx hx => ?_) S0 (fun hc S0 => ?_)
            · go_simp
            try simp only [List.getElem_toArray, List.getElem_cons_succ, List.getElem_cons_zero, Act.put, List.setIfInBounds_toArray, List.set_cons_zero, List.set_cons_succ]
            refine wpAnyS_take (i := 3) (v := .agg #[.string (bs i6), .slice xa n6.length xc]) rfl (by kernel_rfl) (by kernel_rfl) (by kernel_rfl) (fun _ _ _ h => h) (fun _ _ => Iff.rfl) hc (by first | rfl | simp [Region.wanted]) (fun wx hx => ?_) S0 (fun hc S0 => ?_)
            · have g := (hx.still.cell (p := ⟨g6, o6 + k * 2, none⟩) hz6').trans e60'; have g' := (hx.still.cell (p := ⟨g6, o6 + k * 2 + 1, none⟩) hz6').trans e61'
              go_simp
            try simp only [List.getElem_toArray, List.getElem_cons_succ, List.getElem_cons_zero, Act.put, List.setIfInBounds_toArray, List.set_cons_zero, List.set_cons_succ]
            refine wpAnyS_take (i := 4) (v := .agg #[.string (bs c.en.id), (.slice na c.en.names.length nc)]) rfl (by kernel_rfl) (by kernel_rfl) (by kernel_rfl) (fun _ _ _ h => h) (fun _ _ => Iff.rfl) hc (by first | rfl | simp [Region.wanted]) (fun wx hx => ?_) S0 (fun hc S0 => ?_)
            · have g := (hx.still.cell (p := ⟨wr.heap.size, 0, none⟩) zq).trans q0; have g' := (hx.still.cell (p := ⟨wr.heap.size, 1, none⟩) zq).trans q1
              go_simp
            try simp only [List.getElem_toArray, List.getElem_cons_succ, List.getElem_cons_zero, Act.put, List.setIfInBounds_toArray, List.set_cons_zero, List.set_cons_succ]
            refine wpAnyS_one (i := 5) rfl (by kernel_rfl) (by rfl) hc (fun K' hK => ?_)
            go_simp
            refine (HSE.out).mono ?_
            rintro e w9 ⟨rfl, hb9'⟩
            have hb9 : Below wt.heap.size wt w9 := Below.step (Below.refl wt.heap.size wt).drew hb9'
            refine hK.out _ _ hb9 (fun hc => ?_)
            clear hK K'
            have S0 : StillAt wt #[] w9 := hb9
            try simp only [List.getElem_toArray, List.getElem_cons_succ, List.getElem_cons_zero, Act.put, List.setIfInBounds_toArray, List.set_cons_zero, List.set_cons_succ]
            refine wpAnyS_one (i := 6) rfl (by kernel_rfl) (by rfl) hc (fun K' hK => ?_)
            go_simp
            refine hK.out _ _ hb9 (fun hc => ?_)
            clear hK K'
            have S0 : StillAt wt #[] w9 := hb9
            try simp only [List.getElem_toArray, List.getElem_cons_succ, List.getElem_cons_zero, Act.put, List.setIfInBounds_toArray, List.set_cons_zero, List.set_cons_succ]
            refine wpAnyS_done (by kernel_rfl) ?_ _
            clear hc S0
            have HB9 := hid (Below.step HBT.out hb9)
            clear hb9 hb9'
            go_wp2_with fail
            go_roundw
            case rel => exact ⟨k + 1, by omega, by go_num, HB9.out⟩
            case measure => simp [RowKit.intOf]; omega
          · rw [decide_eq_false hid_] at hnb
            have HEQ := hid (show (⟨i6, n6⟩ : Li.En) = ⟨i5, n5⟩ from HXY.out.trans (if_neg hid_))
            clear hid_
            go_upto_region 17 with (fail)
            obtain ⟨wt, hwt⟩ : ∃ wt, wt = Wa := ⟨_, rfl⟩
            rw [← hwt]
            rw [← hwt] at q0 q1 zq
            have HBRT := hid (show Below wr.heap.size wr wt by rw [hwt]; exact HBA.out)
            have HBT := hid (Below.step HR.out HBRT.out)
            clear hwt f0 f1 d0 d1 d2 d3 d4 z1 hnb e50 e51 hz5
            have HSE := hid (show Calls Tryz.prog 29 #[.agg #[.string (bs i6), .slice xa n6.length xc], .agg #[.string (bs i5), (.slice ya n5.length yc)]] wt.drew (Gives (.bool true) wt.drew) by
              have h := sameE_any i6 i5 n6 n5 (.slice xa n6.length xc) (.slice ya n5.length yc) wt.drew (HQ6.out.below (HBRT.out.drew)) (HQ5.out.below HBRT.out.drew)
              rw [decide_eq_true (HEQ.out)] at h
              exact h)
            have hz6' := Nat.lt_of_lt_of_le hz6 HBRT.out.size
            have e60' := (HBRT.out.cell (p := ⟨g6, o6 + k * 2, none⟩) hz6).trans e60
            have e61' := (HBRT.out.cell (p := ⟨g6, o6 + k * 2 + 1, none⟩) hz6).trans e61
            clear e60 e61 hz6
            have hk0 : (0 : Int) ≤ (k : Int) := by omega
            refine wp_heldS (S := StillAt wt) (by kernel_rfl) ?_
            simp only [List.size_toArray, List.length_cons, List.length_nil, Nat.reduceAdd]
            intro hc
            have S0 : StillAt wt (Array.replicate 7 false) wt.drew := (Below.refl _ _).drew
            refine wpAnyS_take (i := 0) (v := .slice (some ⟨g6, o6, none⟩) es6.length k6) rfl (by kernel_rfl) (by kernel_rfl) (by kernel_rfl) (fun _ _ _ h => h) (fun _ _ => Iff.rfl) hc (by first | rfl | simp [Region.wanted]) (fun wx hx => ?_) S0 (fun hc S0 => ?_)
            · go_simp
            try simp only [List.getElem_toArray, List.getElem_cons_zero, Act.put, List.setIfInBounds_toArray, List.set_cons_zero, List.set_cons_succ]
            refine wpAnyS_take (i := 1) (v := .int .i64 k) rfl (by kernel_rfl) (by kernel_rfl) (by kernel_rfl) (fun _ _ _ h => h) (fun _ _ => Iff.rfl) hc (by first | rfl | simp [Region.wanted]) (fun wx hx => ?_) S0 (fun hc S0 => ?_)
            · go_simp
            try simp only [List.getElem_toArray, List.getElem_cons_succ, List.getElem_cons_zero, Act.put, List.setIfInBounds_toArray, List.set_cons_zero, List.set_cons_succ]
            refine wpAnyS_take (i := 2) (v := .pointer (some ⟨g6, o6 + k * 2, none⟩)) rfl (by kernel_rfl) (by kernel_rfl) (by kernel_rfl) (fun _ _ _ h => h) (fun _ _ => Iff.rfl) hc (by first | rfl | simp [Region.wanted]) (fun wx hx => ?_) S0 (fun hc S0 => ?_)
            · go_simp
            try simp only [List.getElem_toArray, List.getElem_cons_succ, List.getElem_cons_zero, Act.put, List.setIfInBounds_toArray, List.set_cons_zero, List.set_cons_succ]
            refine wpAnyS_take (i := 3) (v := .agg #[.string (bs i6), .slice xa n6.length xc]) rfl (by kernel_rfl) (by kernel_rfl) (by kernel_rfl) (fun _ _ _ h => h) (fun _ _ => Iff.rfl) hc (by first | rfl | simp [Region.wanted]) (fun wx hx => ?_) S0 (fun hc S0 => ?_)
            · have g := (hx.still.cell (p := ⟨g6, o6 + k * 2, none⟩) hz6').trans e60'; have g' := (hx.still.cell (p := ⟨g6, o6 + k * 2 + 1, none⟩) hz6').trans e61'
              go_simp
            try simp only [List.getElem_toArray, List.getElem_cons_succ, List.getElem_cons_zero, Act.put, List.setIfInBounds_toArray, List.set_cons_zero, List.set_cons_succ]
            refine wpAnyS_take (i := 4) (v := .agg #[.string (bs i5), (.slice ya n5.length yc)]) rfl (by kernel_rfl) (by kernel_rfl) (by kernel_rfl) (fun _ _ _ h => h) (fun _ _ => Iff.rfl) hc (by first | rfl | simp [Region.wanted]) (fun wx hx => ?_) S0 (fun hc S0 => ?_)
            · have g := (hx.still.cell (p := ⟨wr.heap.size, 0, none⟩) zq).trans q0; have g' := (hx.still.cell (p := ⟨wr.heap.size, 1, none⟩) zq).trans q1
              go_simp
            try simp only [List.getElem_toArray, List.getElem_cons_succ, List.getElem_cons_zero, Act.put, List.setIfInBounds_toArray, List.set_cons_zero, List.set_cons_succ]
            refine wpAnyS_one (i := 5) rfl (by kernel_rfl) (by rfl) hc (fun K' hK => ?_)
            go_simp
            refine (HSE.out).mono ?_
            rintro e w9 ⟨rfl, hb9'⟩
            have hb9 : Below wt.heap.size wt w9 := Below.step (Below.refl wt.heap.size wt).drew hb9'
            refine hK.out _ _ hb9 (fun hc => ?_)
            clear hK K'
            have S0 : StillAt wt #[] w9 := hb9
            try simp only [List.getElem_toArray, List.getElem_cons_succ, List.getElem_cons_zero, Act.put, List.setIfInBounds_toArray, List.set_cons_zero, List.set_cons_succ]
            refine wpAnyS_one (i := 6) rfl (by kernel_rfl) (by rfl) hc (fun K' hK => ?_)
            go_simp
            refine hK.out _ _ hb9 (fun hc => ?_)
            clear hK K'
            have S0 : StillAt wt #[] w9 := hb9
            try simp only [List.getElem_toArray, List.getElem_cons_succ, List.getElem_cons_zero, Act.put, List.setIfInBounds_toArray, List.set_cons_zero, List.set_cons_succ]
            refine wpAnyS_done (by kernel_rfl) ?_ _
            clear hc S0
            have HB9 := hid (Below.step HBT.out hb9)
            clear hb9 hb9'
            go_wp2_with fail
            go_roundw
            case rel => exact ⟨k + 1, by omega, by go_num, HB9.out⟩
            case measure => simp [RowKit.intOf]; omega
        · have hk1 : ¬ (k : Int) < (es6.length : Int) := by omega
          go_wp2_with fail
          go_ret
          exact ⟨rfl, Below.step HB7.out HR.out⟩
    · have hnb : (n1 != 0) = true := by rw [bne_iff_ne]; exact h10
      clear h10
      go_wp2_with fail
      go_ret
      exact ⟨rfl, HB5.out⟩

end Go.Proofs.YtidkmhokolknbaaGreatDoor
