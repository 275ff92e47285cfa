/-
  ListTime: the law holds. Conditions: the library's tables.
-/
import Derived.Test.YtidkmhokolknbaaGreatDoorZLawIx
import Derived.Test.YtidkmhokolknbaaGreatDoorZMLiB
namespace Go.Proofs.YtidkmhokolknbaaGreatDoor
open Go.RowKit Go.Lib Go.Maps

set_option maxRecDepth 100000 in
set_option maxHeartbeats 8000000 in
theorem time_law (ps : List (Li.Ls × Value)) (v : Value) (c : Li.Ch) (u : Value) (t : Int) (w : World) (hl : LssRaw w v ps) (hn : NmsRin w u c.en.names) (hA : Tabs w) (hT : Tab10 w) :
    Calls Tryz.prog 6 #[v, .agg #[.int .i64 c.kind, .string (bs c.id), .string (bs c.en.id), u, .int .i64 c.at_], .int .i64 t] w (Gives (.bool true) w) := by
  have HAA := hid hA
  have HTT := hid hT
  have HL := hid hl
  have HN := hid hn
  obtain ⟨na, nc, rfl⟩ := hn.slice
  obtain ⟨W1, hW1⟩ : ∃ W1, W1 = w.alloc (.cells #[.int .i64 c.kind, .string (bs c.id), .string (bs c.en.id), .slice na c.en.names.length nc, .int .i64 c.at_] 27) := ⟨_, rfl⟩
  have HX := hid (ChBox.new hW1)
  have HB1 := hid HX.out.below
  have HH := hid (head_true W1 (hA.below HB1.out) (hT.below HB1.out))
  obtain ⟨⟨va, cap, rfl, -, -, -⟩, -⟩ := hl
  clear hA hT hn
  go_enter Tryz.func6, Tryz.ntmps6
  go_upto_region 1 with (fail)
  rw [← hW1]
  clear hW1
  go_wp2_with fail
  refine (HH.out).mono ?_
  rintro e w2 ⟨rfl, hb2⟩
  have HB2 := hid (Below.step HB1.out hb2)
  have HX2 := hid (HX.out.step hb2)
  have HF := hid (lawFew_any ps _ c.kind c.id c.en.id c.en.names _ c.at_ w2 (HL.out.below HB2.out) (HN.out.below HB2.out))
  obtain ⟨c0, c1, c2, c3, c4, z1, -⟩ := HX2.out
  clear hb2
  obtain ⟨fb, hfb⟩ : ∃ fb, fb = (Li.fewLs (ps.map Prod.fst) && Li.fewCh c) := ⟨_, rfl⟩
  rw [← hfb] at HF
  have HFB := hid hfb
  clear hfb
  go_wp2_with fail
  refine (HF.out).mono ?_
  rintro e w3 ⟨rfl, hb3⟩
  have HB3 := hid (Below.step HB2.out hb3)
  have HX3 := hid (HX2.out.step hb3)
  clear hb3 c0 c1 c2 c3 c4 z1
  cases fb with
  | false =>
    go_wp2_with fail
    go_ret
    exact ⟨rfl, HB3.out⟩
  | true =>
    obtain ⟨hls, hlen, hnm, hi1, hi2⟩ := few_facts (c := c) (HL.out.below HB3.out) (HN.out.below HB3.out) HFB.out.symm
    have HLS := hid hls
    have HNM := hid hnm
    have HAP := hid (apply_law c _ ps _ w3 hls (by omega) hnm hi1 hi2 (HAA.out.below HB3.out) (HTT.out.below HB3.out))
    obtain ⟨c0, c1, c2, c3, c4, z1, -⟩ := HX3.out
    clear hls hnm
    by_cases ht : 0 ≤ t ∧ t ≤ 144001439
    · have HI := hid (show Li.inst t = true by unfold Li.inst; rw [decide_eq_true ht.1, decide_eq_true ht.2]; rfl)
      have t1 : decide (t < 0) = false := decide_eq_false (by omega)
      have t2 : decide (144001439 < t) = false := decide_eq_false (by omega)
      clear ht
      by_cases hk1 : c.kind = 1
      · have HK := hid (show c.kind = 1 ∨ c.kind = 2 from .inl hk1)
        have HKB := hid (decide_eq_true hk1)
        have g1 : (c.kind != 1) = false := by rw [hk1]; rfl
        have g2 : (c.kind == 1) = true := by rw [hk1]; rfl
        clear hk1
        go_wp2_with fail
        refine (HAP.out).mono ?_
        rintro e w4 ⟨a1, j1, ps1, rfl, hm1, hl1, hb4⟩
        obtain ⟨n1, hn1⟩ : ∃ n1, n1 = (Li.apply (ps.map Prod.fst) c).2 := ⟨_, rfl⟩
        rw [← hn1]
        have HB4 := hid (Below.step HB3.out hb4)
        have HX4 := hid (HX3.out.step hb4)
        have HLS4 := hid (HLS.out.below hb4)
        have H1 := hid (And.intro hm1 hn1)
        have HL1 := hid hl1
        clear hb4 hm1 hn1 hl1 c0 c1 c2 c3 c4 z1
        by_cases h10 : n1 = 0
        · have hnb : (n1 != 0) = false := by rw [h10]; rfl
          have HO1 := hid (show (Li.apply (ps.map Prod.fst) c).2 = 0 by rw [← H1.out.2]; exact h10)
          have HLT := hid (Li.law_time HO1.out HK.out HI.out)
          have HA1 := hid (at_law ps _ t w4 HLS4.out (by omega) (HAA.out.below HB4.out) (HTT.out.below HB4.out))
          clear h10
          go_wp2_with fail
          refine (HA1.out).mono ?_
          rintro e w5 ⟨a5, k5, es5, rfl, he5, hE5, hle5, hb5⟩
          have HB5 := hid (Below.step HB4.out hb5)
          have HX5 := hid (HX4.out.step hb5)
          have HE5 := hid (And.intro he5 hE5)
          have HA2 := hid (at_law ps1 _ t w5 (HL1.out.below hb5) (apply_short H1.out.1 HO1.out) (HAA.out.below HB5.out) (HTT.out.below HB5.out))
          clear he5 hE5 hb5
          go_wp2_with fail
          refine (HA2.out).mono ?_
          rintro e w6 ⟨a6, k6, es6, rfl, he6, hE6, hle6, hb6⟩
          have HB6 := hid (Below.step HB5.out hb6)
          have HX6 := hid (HX5.out.step hb6)
          have HE56 := hid (HE5.out.2.below hb6)
          have HE6 := hid (And.intro he6 hE6)
          obtain ⟨c0, c1, c2, c3, c4, z1, -⟩ := HX6.out
          clear he6 hE6 hb6
          by_cases hlt : t < c.at_
          · have g : decide (t < c.at_) = true := decide_eq_true hlt
            have HSA := hid (sameEs_law HE56.out HE6.out.2)
            rw [decide_eq_true (show es5.map Prod.fst = es6.map Prod.fst by rw [HE5.out.1, HE6.out.1, H1.out.1]; exact HLT.out.1 hlt)] at HSA
            clear hlt
            go_wp2_with fail
            refine (HSA.out).mono ?_
            rintro e w7 ⟨rfl, hb7⟩
            have HB7 := hid (Below.step HB6.out hb7)
            clear hb7
            go_wp2_with fail
            go_ret
            exact ⟨rfl, HB7.out⟩
          · have g : decide (t < c.at_) = false := decide_eq_false hlt
            have HHA := hid (has_any es6 _ c.id w6.drew (HE6.out.2.below (Below.refl _ _).drew) hle6)
            rw [HE6.out.1, H1.out.1, (HLT.out.2 (by omega)).1, HKB.out] at HHA
            have HWE := hid (HLT.out.2 (by omega)).2
            clear hlt
            go_wp2_with fail
            refine wp_heldS (S := StillAt w6) (by kernel_rfl) ?_
            simp only [List.size_toArray, List.length_cons, List.length_nil, Nat.reduceAdd]
            intro hc
            have S0 : StillAt w6 (Array.replicate 23 false) w6.drew := (Below.refl _ _).drew
            refine wpAnyS_take (i := 0) (v := .bool true) rfl (by kernel_rfl) (by kernel_rfl) (by kernel_rfl) (fun _ _ _ h => h) (fun _ _ => Iff.rfl) hc (by first | rfl | simp [Region.wanted]) (fun wx hx => ?_) S0 (fun hc S0 => ?_)
            · go_simp
            try simp only [List.getElem_toArray, List.getElem_cons_zero, Act.put, List.setIfInBounds_toArray, List.set_cons_zero, List.set_cons_succ]
            refine wpAnyS_take (i := 1) (v := .bool true) rfl (by kernel_rfl) (by kernel_rfl) (by kernel_rfl) (fun _ _ _ h => h) (fun _ _ => Iff.rfl) hc (by first | rfl | simp [Region.wanted]) (fun wx hx => ?_) S0 (fun hc S0 => ?_)
            · go_simp
            try simp only [List.getElem_toArray, List.getElem_cons_succ, List.getElem_cons_zero, Act.put, List.setIfInBounds_toArray, List.set_cons_zero, List.set_cons_succ]
            refine wpAnyS_take (i := 2) (v := .slice a6 es6.length k6) rfl (by kernel_rfl) (by kernel_rfl) (by kernel_rfl) (fun _ _ _ h => h) (fun _ _ => Iff.rfl) hc (by first | rfl | simp [Region.wanted]) (fun wx hx => ?_) S0 (fun hc S0 => ?_)
            · go_simp
            try simp only [List.getElem_toArray, List.getElem_cons_succ, List.getElem_cons_zero, Act.put, List.setIfInBounds_toArray, List.set_cons_zero, List.set_cons_succ]
            refine wpAnyS_take (i := 3) (v := .pointer (some ⟨w.heap.size, 1, none⟩)) rfl (by kernel_rfl) (by kernel_rfl) (by kernel_rfl) (fun _ _ _ h => h) (fun _ _ => Iff.rfl) hc (by first | rfl | simp [Region.wanted]) (fun wx hx => ?_) S0 (fun hc S0 => ?_)
            · go_simp
            try simp only [List.getElem_toArray, List.getElem_cons_succ, List.getElem_cons_zero, Act.put, List.setIfInBounds_toArray, List.set_cons_zero, List.set_cons_succ]
            refine wpAnyS_take (i := 4) (v := .string (bs c.id)) rfl (by kernel_rfl) (by kernel_rfl) (by kernel_rfl) (fun _ _ _ h => h) (fun _ _ => Iff.rfl) hc (by first | rfl | simp [Region.wanted]) (fun wx hx => ?_) S0 (fun hc S0 => ?_)
            · have g := (hx.still.cell (p := ⟨w.heap.size, 1, none⟩) z1).trans c1
              go_simp
            try simp only [List.getElem_toArray, List.getElem_cons_succ, List.getElem_cons_zero, Act.put, List.setIfInBounds_toArray, List.set_cons_zero, List.set_cons_succ]
            refine wpAnyS_take (i := 6) (v := .pointer (some ⟨w.heap.size, 0, none⟩)) rfl (by kernel_rfl) (by kernel_rfl) (by kernel_rfl) (fun _ _ _ h => h) (fun _ _ => Iff.rfl) hc (by first | rfl | simp [Region.wanted]) (fun wx hx => ?_) S0 (fun hc S0 => ?_)
            · go_simp
            try simp only [List.getElem_toArray, List.getElem_cons_succ, List.getElem_cons_zero, Act.put, List.setIfInBounds_toArray, List.set_cons_zero, List.set_cons_succ]
            refine wpAnyS_take (i := 7) (v := .int .i64 c.kind) rfl (by kernel_rfl) (by kernel_rfl) (by kernel_rfl) (fun _ _ _ h => h) (fun _ _ => Iff.rfl) hc (by first | rfl | simp [Region.wanted]) (fun wx hx => ?_) S0 (fun hc S0 => ?_)
            · have g := (hx.still.cell (p := ⟨w.heap.size, 0, none⟩) z1).trans c0
              go_simp
            try simp only [List.getElem_toArray, List.getElem_cons_succ, List.getElem_cons_zero, Act.put, List.setIfInBounds_toArray, List.set_cons_zero, List.set_cons_succ]
            refine wpAnyS_take (i := 8) (v := .bool true) rfl (by kernel_rfl) (by kernel_rfl) (by kernel_rfl) (fun _ _ _ h => h) (fun _ _ => Iff.rfl) hc (by first | rfl | simp [Region.wanted]) (fun wx hx => ?_) S0 (fun hc S0 => ?_)
            · go_simp
            try simp only [List.getElem_toArray, List.getElem_cons_succ, List.getElem_cons_zero, Act.put, List.setIfInBounds_toArray, List.set_cons_zero, List.set_cons_succ]
            refine wpAnyS_one (i := 5) rfl (by kernel_rfl) (by rfl) hc (fun K' hK => ?_)
            go_simp
            refine (HHA.out).mono ?_
            rintro e w7 ⟨rfl, hb7'⟩
            have hb7 : Below w6.heap.size w6 w7 := Below.step (Below.refl w6.heap.size w6).drew hb7'
            refine hK.out _ _ hb7 (fun hc => ?_)
            clear hK K'
            have S0 : StillAt w6 #[] w7 := hb7
            try simp only [List.getElem_toArray, List.getElem_cons_succ, List.getElem_cons_zero, Act.put, List.setIfInBounds_toArray, List.set_cons_zero, List.set_cons_succ]
            refine wpAnyS_take (i := 9) (v := .bool true) rfl (by kernel_rfl) (by kernel_rfl) (by kernel_rfl) (fun _ _ _ h => h) (fun _ _ => Iff.rfl) hc (by first | rfl | simp [Region.wanted]) (fun wx hx => ?_) S0 (fun hc S0 => ?_)
            · go_simp
            try simp only [List.getElem_toArray, List.getElem_cons_succ, List.getElem_cons_zero, Act.put, List.setIfInBounds_toArray, List.set_cons_zero, List.set_cons_succ]
            refine wpAnyS_take (i := 10) (v := .bool true) rfl (by kernel_rfl) (by kernel_rfl) (by kernel_rfl) (fun _ _ _ h => h) (fun _ _ => Iff.rfl) hc (by first | rfl | simp [Region.wanted]) (fun wx hx => ?_) S0 (fun hc S0 => ?_)
            · go_simp
            try simp only [List.getElem_toArray, List.getElem_cons_succ, List.getElem_cons_zero, Act.put, List.setIfInBounds_toArray, List.set_cons_zero, List.set_cons_succ]
            refine wpAnyS_take (i := 11) (v := .bool true) rfl (by kernel_rfl) (by kernel_rfl) (by kernel_rfl) (fun _ _ _ h => h) (fun _ _ => Iff.rfl) hc (by first | rfl | simp [Region.wanted]) (fun wx hx => ?_) S0 (fun hc S0 => ?_)
            · go_simp
            try simp only [List.getElem_toArray, List.getElem_cons_succ, List.getElem_cons_zero, Act.put, List.setIfInBounds_toArray, List.set_cons_zero, List.set_cons_succ]
            refine wpAnyS_take (i := 12) (v := .slice a5 es5.length k5) rfl (by kernel_rfl) (by kernel_rfl) (by kernel_rfl) (fun _ _ _ h => h) (fun _ _ => Iff.rfl) hc (by first | rfl | simp [Region.wanted]) (fun wx hx => ?_) S0 (fun hc S0 => ?_)
            · go_simp
            try simp only [List.getElem_toArray, List.getElem_cons_succ, List.getElem_cons_zero, Act.put, List.setIfInBounds_toArray, List.set_cons_zero, List.set_cons_succ]
            refine wpAnyS_take (i := 13) (v := .pointer (some ⟨w.heap.size, 1, none⟩)) rfl (by kernel_rfl) (by kernel_rfl) (by kernel_rfl) (fun _ _ _ h => h) (fun _ _ => Iff.rfl) hc (by first | rfl | simp [Region.wanted]) (fun wx hx => ?_) S0 (fun hc S0 => ?_)
            · go_simp
            try simp only [List.getElem_toArray, List.getElem_cons_succ, List.getElem_cons_zero, Act.put, List.setIfInBounds_toArray, List.set_cons_zero, List.set_cons_succ]
            refine wpAnyS_take (i := 14) (v := .string (bs c.id)) rfl (by kernel_rfl) (by kernel_rfl) (by kernel_rfl) (fun _ _ _ h => h) (fun _ _ => Iff.rfl) hc (by first | rfl | simp [Region.wanted]) (fun wx hx => ?_) S0 (fun hc S0 => ?_)
            · have g := (hx.still.cell (p := ⟨w.heap.size, 1, none⟩) z1).trans c1
              go_simp
            try simp only [List.getElem_toArray, List.getElem_cons_succ, List.getElem_cons_zero, Act.put, List.setIfInBounds_toArray, List.set_cons_zero, List.set_cons_succ]
            refine wpAnyS_take (i := 16) (v := .slice a6 es6.length k6) rfl (by kernel_rfl) (by kernel_rfl) (by kernel_rfl) (fun _ _ _ h => h) (fun _ _ => Iff.rfl) hc (by first | rfl | simp [Region.wanted]) (fun wx hx => ?_) S0 (fun hc S0 => ?_)
            · go_simp
            try simp only [List.getElem_toArray, List.getElem_cons_succ, List.getElem_cons_zero, Act.put, List.setIfInBounds_toArray, List.set_cons_zero, List.set_cons_succ]
            refine wpAnyS_take (i := 17) (v := .pointer (some ⟨w.heap.size, 1, none⟩)) rfl (by kernel_rfl) (by kernel_rfl) (by kernel_rfl) (fun _ _ _ h => h) (fun _ _ => Iff.rfl) hc (by first | rfl | simp [Region.wanted]) (fun wx hx => ?_) S0 (fun hc S0 => ?_)
            · go_simp
            try simp only [List.getElem_toArray, List.getElem_cons_succ, List.getElem_cons_zero, Act.put, List.setIfInBounds_toArray, List.set_cons_zero, List.set_cons_succ]
            refine wpAnyS_take (i := 18) (v := .string (bs c.id)) rfl (by kernel_rfl) (by kernel_rfl) (by kernel_rfl) (fun _ _ _ h => h) (fun _ _ => Iff.rfl) hc (by first | rfl | simp [Region.wanted]) (fun wx hx => ?_) S0 (fun hc S0 => ?_)
            · have g := (hx.still.cell (p := ⟨w.heap.size, 1, none⟩) z1).trans c1
              go_simp
            try simp only [List.getElem_toArray, List.getElem_cons_succ, List.getElem_cons_zero, Act.put, List.setIfInBounds_toArray, List.set_cons_zero, List.set_cons_succ]
            refine wpAnyS_one (i := 15) rfl (by kernel_rfl) (by rfl) hc (fun K' hK => ?_)
            go_simp
            refine (without_any es5 _ c.id w7 (HE56.out.below hb7) hle5).mono ?_
            rintro e w8 ⟨a8, k8, rfl, hE8, hb8⟩
            have hb68 := Below.step hb7 hb8
            refine hK.out _ _ hb68 (fun hc => ?_)
            clear hK K'
            have S0 : StillAt w6 #[] w8 := hb68
            try simp only [List.getElem_toArray, List.getElem_cons_succ, List.getElem_cons_zero, Act.put, List.setIfInBounds_toArray, List.set_cons_zero, List.set_cons_succ]
            refine wpAnyS_one (i := 19) rfl (by kernel_rfl) (by rfl) hc (fun K' hK => ?_)
            go_simp
            refine (without_any es6 _ c.id w8 (HE6.out.2.below hb68) hle6).mono ?_
            rintro e w9 ⟨a9, k9, rfl, hE9, hb9⟩
            have hb69 := Below.step hb68 hb9
            refine hK.out _ _ hb69 (fun hc => ?_)
            clear hK K'
            have S0 : StillAt w6 #[] w9 := hb69
            try simp only [List.getElem_toArray, List.getElem_cons_succ, List.getElem_cons_zero, Act.put, List.setIfInBounds_toArray, List.set_cons_zero, List.set_cons_succ]
            refine wpAnyS_one (i := 20) rfl (by kernel_rfl) (by rfl) hc (fun K' hK => ?_)
            go_simp
            have HSA := hid (sameEs_law (hE8.below hb9) hE9)
            rw [decide_eq_true (show (wo c.id es5).map Prod.fst = (wo c.id es6).map Prod.fst by rw [wo_fst, wo_fst, HE5.out.1, HE6.out.1, H1.out.1]; exact HWE.out)] at HSA
            refine (HSA.out).mono ?_
            rintro e w10 ⟨rfl, hb10⟩
            have hb610 := Below.step hb69 hb10
            refine hK.out _ _ hb610 (fun hc => ?_)
            clear hK K'
            have S0 : StillAt w6 #[] w10 := hb610
            try simp only [List.getElem_toArray, List.getElem_cons_succ, List.getElem_cons_zero, Act.put, List.setIfInBounds_toArray, List.set_cons_zero, List.set_cons_succ]
            refine wpAnyS_take (i := 21) (v := .bool true) rfl (by kernel_rfl) (by kernel_rfl) (by kernel_rfl) (fun _ _ _ h => h) (fun _ _ => Iff.rfl) hc (by first | rfl | simp [Region.wanted]) (fun wx hx => ?_) S0 (fun hc S0 => ?_)
            · go_simp
            try simp only [List.getElem_toArray, List.getElem_cons_succ, List.getElem_cons_zero, Act.put, List.setIfInBounds_toArray, List.set_cons_zero, List.set_cons_succ]
            refine wpAnyS_one (i := 22) rfl (by kernel_rfl) (by rfl) hc (fun K' hK => ?_)
            go_simp
            refine hK.out _ _ hb610 (fun hc => ?_)
            clear hK K'
            have S0 : StillAt w6 #[] w10 := hb610
            try simp only [List.getElem_toArray, List.getElem_cons_succ, List.getElem_cons_zero, Act.put, List.setIfInBounds_toArray, List.set_cons_zero, List.set_cons_succ]
            refine wpAnyS_done (by kernel_rfl) ?_ _
            clear hc S0
            go_wp2_with fail
            go_ret
            exact ⟨rfl, Below.step HB6.out hb610⟩
        · have hnb : (n1 != 0) = true := by rw [bne_iff_ne]; exact h10
          clear h10
          go_wp2_with fail
          go_ret
          exact ⟨rfl, HB4.out⟩
      · by_cases hk2 : c.kind = 2
        · have HK := hid (show c.kind = 1 ∨ c.kind = 2 from .inr hk2)
          have HKB := hid (decide_eq_false hk1)
          have g1 : (c.kind != 1) = true := by rw [hk2]; rfl
          have g3 : (c.kind != 2) = false := by rw [hk2]; rfl
          have g2 : (c.kind == 1) = false := by rw [hk2]; rfl
          clear hk1 hk2
          go_wp2_with fail
          refine (HAP.out).mono ?_
          rintro e w4 ⟨a1, j1, ps1, rfl, hm1, hl1, hb4⟩
          obtain ⟨n1, hn1⟩ : ∃ n1, n1 = (Li.apply (ps.map Prod.fst) c).2 := ⟨_, rfl⟩
          rw [← hn1]
          have HB4 := hid (Below.step HB3.out hb4)
          have HX4 := hid (HX3.out.step hb4)
          have HLS4 := hid (HLS.out.below hb4)
          have H1 := hid (And.intro hm1 hn1)
          have HL1 := hid hl1
          clear hb4 hm1 hn1 hl1 c0 c1 c2 c3 c4 z1
          by_cases h10 : n1 = 0
          · have hnb : (n1 != 0) = false := by rw [h10]; rfl
            have HO1 := hid (show (Li.apply (ps.map Prod.fst) c).2 = 0 by rw [← H1.out.2]; exact h10)
            have HLT := hid (Li.law_time HO1.out HK.out HI.out)
            have HA1 := hid (at_law ps _ t w4 HLS4.out (by omega) (HAA.out.below HB4.out) (HTT.out.below HB4.out))
            clear h10
            go_wp2_with fail
            refine (HA1.out).mono ?_
            rintro e w5 ⟨a5, k5, es5, rfl, he5, hE5, hle5, hb5⟩
            have HB5 := hid (Below.step HB4.out hb5)
            have HX5 := hid (HX4.out.step hb5)
            have HE5 := hid (And.intro he5 hE5)
            have HA2 := hid (at_law ps1 _ t w5 (HL1.out.below hb5) (apply_short H1.out.1 HO1.out) (HAA.out.below HB5.out) (HTT.out.below HB5.out))
            clear he5 hE5 hb5
            go_wp2_with fail
            refine (HA2.out).mono ?_
            rintro e w6 ⟨a6, k6, es6, rfl, he6, hE6, hle6, hb6⟩
            have HB6 := hid (Below.step HB5.out hb6)
            have HX6 := hid (HX5.out.step hb6)
            have HE56 := hid (HE5.out.2.below hb6)
            have HE6 := hid (And.intro he6 hE6)
            obtain ⟨c0, c1, c2, c3, c4, z1, -⟩ := HX6.out
            clear he6 hE6 hb6
            by_cases hlt : t < c.at_
            · have g : decide (t < c.at_) = true := decide_eq_true hlt
              have HSA := hid (sameEs_law HE56.out HE6.out.2)
              rw [decide_eq_true (show es5.map Prod.fst = es6.map Prod.fst by rw [HE5.out.1, HE6.out.1, H1.out.1]; exact HLT.out.1 hlt)] at HSA
              clear hlt
              go_wp2_with fail
              refine (HSA.out).mono ?_
              rintro e w7 ⟨rfl, hb7⟩
              have HB7 := hid (Below.step HB6.out hb7)
              clear hb7
              go_wp2_with fail
              go_ret
              exact ⟨rfl, HB7.out⟩
            · have g : decide (t < c.at_) = false := decide_eq_false hlt
              have HHA := hid (has_any es6 _ c.id w6.drew (HE6.out.2.below (Below.refl _ _).drew) hle6)
              rw [HE6.out.1, H1.out.1, (HLT.out.2 (by omega)).1, HKB.out] at HHA
              have HWE := hid (HLT.out.2 (by omega)).2
              clear hlt
              go_wp2_with fail
              refine wp_heldS (S := StillAt w6) (by kernel_rfl) ?_
              simp only [List.size_toArray, List.length_cons, List.length_nil, Nat.reduceAdd]
              intro hc
              have S0 : StillAt w6 (Array.replicate 23 false) w6.drew := (Below.refl _ _).drew
              refine wpAnyS_take (i := 0) (v := .bool true) rfl (by kernel_rfl) (by kernel_rfl) (by kernel_rfl) (fun _ _ _ h => h) (fun _ _ => Iff.rfl) hc (by first | rfl | simp [Region.wanted]) (fun wx hx => ?_) S0 (fun hc S0 => ?_)
              · go_simp
              try simp only [List.getElem_toArray, List.getElem_cons_zero, Act.put, List.setIfInBounds_toArray, List.set_cons_zero, List.set_cons_succ]
              refine wpAnyS_take (i := 1) (v := .bool true) rfl (by kernel_rfl) (by kernel_rfl) (by kernel_rfl) (fun _ _ _ h => h) (fun _ _ => Iff.rfl) hc (by first | rfl | simp [Region.wanted]) (fun wx hx => ?_) S0 (fun hc S0 => ?_)
              · go_simp
              try simp only [List.getElem_toArray, List.getElem_cons_succ, List.getElem_cons_zero, Act.put, List.setIfInBounds_toArray, List.set_cons_zero, List.set_cons_succ]
              refine wpAnyS_take (i := 2) (v := .slice a6 es6.length k6) rfl (by kernel_rfl) (by kernel_rfl) (by kernel_rfl) (fun _ _ _ h => h) (fun _ _ => Iff.rfl) hc (by first | rfl | simp [Region.wanted]) (fun wx hx => ?_) S0 (fun hc S0 => ?_)
              · go_simp
              try simp only [List.getElem_toArray, List.getElem_cons_succ, List.getElem_cons_zero, Act.put, List.setIfInBounds_toArray, List.set_cons_zero, List.set_cons_succ]
              refine wpAnyS_take (i := 3) (v := .pointer (some ⟨w.heap.size, 1, none⟩)) rfl (by kernel_rfl) (by kernel_rfl) (by kernel_rfl) (fun _ _ _ h => h) (fun _ _ => Iff.rfl) hc (by first | rfl | simp [Region.wanted]) (fun wx hx => ?_) S0 (fun hc S0 => ?_)
              · go_simp
              try simp only [List.getElem_toArray, List.getElem_cons_succ, List.getElem_cons_zero, Act.put, List.setIfInBounds_toArray, List.set_cons_zero, List.set_cons_succ]
              refine wpAnyS_take (i := 4) (v := .string (bs c.id)) rfl (by kernel_rfl) (by kernel_rfl) (by kernel_rfl) (fun _ _ _ h => h) (fun _ _ => Iff.rfl) hc (by first | rfl | simp [Region.wanted]) (fun wx hx => ?_) S0 (fun hc S0 => ?_)
              · have g := (hx.still.cell (p := ⟨w.heap.size, 1, none⟩) z1).trans c1
                go_simp
              try simp only [List.getElem_toArray, List.getElem_cons_succ, List.getElem_cons_zero, Act.put, List.setIfInBounds_toArray, List.set_cons_zero, List.set_cons_succ]
              refine wpAnyS_take (i := 6) (v := .pointer (some ⟨w.heap.size, 0, none⟩)) rfl (by kernel_rfl) (by kernel_rfl) (by kernel_rfl) (fun _ _ _ h => h) (fun _ _ => Iff.rfl) hc (by first | rfl | simp [Region.wanted]) (fun wx hx => ?_) S0 (fun hc S0 => ?_)
              · go_simp
              try simp only [List.getElem_toArray, List.getElem_cons_succ, List.getElem_cons_zero, Act.put, List.setIfInBounds_toArray, List.set_cons_zero, List.set_cons_succ]
              refine wpAnyS_take (i := 7) (v := .int .i64 c.kind) rfl (by kernel_rfl) (by kernel_rfl) (by kernel_rfl) (fun _ _ _ h => h) (fun _ _ => Iff.rfl) hc (by first | rfl | simp [Region.wanted]) (fun wx hx => ?_) S0 (fun hc S0 => ?_)
              · have g := (hx.still.cell (p := ⟨w.heap.size, 0, none⟩) z1).trans c0
                go_simp
              try simp only [List.getElem_toArray, List.getElem_cons_succ, List.getElem_cons_zero, Act.put, List.setIfInBounds_toArray, List.set_cons_zero, List.set_cons_succ]
              refine wpAnyS_take (i := 8) (v := .bool false) rfl (by kernel_rfl) (by kernel_rfl) (by kernel_rfl) (fun _ _ _ h => h) (fun _ _ => Iff.rfl) hc (by first | rfl | simp [Region.wanted]) (fun wx hx => ?_) S0 (fun hc S0 => ?_)
              · go_simp
              try simp only [List.getElem_toArray, List.getElem_cons_succ, List.getElem_cons_zero, Act.put, List.setIfInBounds_toArray, List.set_cons_zero, List.set_cons_succ]
              refine wpAnyS_one (i := 5) rfl (by kernel_rfl) (by rfl) hc (fun K' hK => ?_)
              go_simp
              refine (HHA.out).mono ?_
              rintro e w7 ⟨rfl, hb7'⟩
              have hb7 : Below w6.heap.size w6 w7 := Below.step (Below.refl w6.heap.size w6).drew hb7'
              refine hK.out _ _ hb7 (fun hc => ?_)
              clear hK K'
              have S0 : StillAt w6 #[] w7 := hb7
              try simp only [List.getElem_toArray, List.getElem_cons_succ, List.getElem_cons_zero, Act.put, List.setIfInBounds_toArray, List.set_cons_zero, List.set_cons_succ]
              refine wpAnyS_take (i := 9) (v := .bool true) rfl (by kernel_rfl) (by kernel_rfl) (by kernel_rfl) (fun _ _ _ h => h) (fun _ _ => Iff.rfl) hc (by first | rfl | simp [Region.wanted]) (fun wx hx => ?_) S0 (fun hc S0 => ?_)
              · go_simp
              try simp only [List.getElem_toArray, List.getElem_cons_succ, List.getElem_cons_zero, Act.put, List.setIfInBounds_toArray, List.set_cons_zero, List.set_cons_succ]
              refine wpAnyS_take (i := 10) (v := .bool true) rfl (by kernel_rfl) (by kernel_rfl) (by kernel_rfl) (fun _ _ _ h => h) (fun _ _ => Iff.rfl) hc (by first | rfl | simp [Region.wanted]) (fun wx hx => ?_) S0 (fun hc S0 => ?_)
              · go_simp
              try simp only [List.getElem_toArray, List.getElem_cons_succ, List.getElem_cons_zero, Act.put, List.setIfInBounds_toArray, List.set_cons_zero, List.set_cons_succ]
              refine wpAnyS_take (i := 11) (v := .bool true) rfl (by kernel_rfl) (by kernel_rfl) (by kernel_rfl) (fun _ _ _ h => h) (fun _ _ => Iff.rfl) hc (by first | rfl | simp [Region.wanted]) (fun wx hx => ?_) S0 (fun hc S0 => ?_)
              · go_simp
              try simp only [List.getElem_toArray, List.getElem_cons_succ, List.getElem_cons_zero, Act.put, List.setIfInBounds_toArray, List.set_cons_zero, List.set_cons_succ]
              refine wpAnyS_take (i := 12) (v := .slice a5 es5.length k5) rfl (by kernel_rfl) (by kernel_rfl) (by kernel_rfl) (fun _ _ _ h => h) (fun _ _ => Iff.rfl) hc (by first | rfl | simp [Region.wanted]) (fun wx hx => ?_) S0 (fun hc S0 => ?_)
              · go_simp
              try simp only [List.getElem_toArray, List.getElem_cons_succ, List.getElem_cons_zero, Act.put, List.setIfInBounds_toArray, List.set_cons_zero, List.set_cons_succ]
              refine wpAnyS_take (i := 13) (v := .pointer (some ⟨w.heap.size, 1, none⟩)) rfl (by kernel_rfl) (by kernel_rfl) (by kernel_rfl) (fun _ _ _ h => h) (fun _ _ => Iff.rfl) hc (by first | rfl | simp [Region.wanted]) (fun wx hx => ?_) S0 (fun hc S0 => ?_)
              · go_simp
              try simp only [List.getElem_toArray, List.getElem_cons_succ, List.getElem_cons_zero, Act.put, List.setIfInBounds_toArray, List.set_cons_zero, List.set_cons_succ]
              refine wpAnyS_take (i := 14) (v := .string (bs c.id)) rfl (by kernel_rfl) (by kernel_rfl) (by kernel_rfl) (fun _ _ _ h => h) (fun _ _ => Iff.rfl) hc (by first | rfl | simp [Region.wanted]) (fun wx hx => ?_) S0 (fun hc S0 => ?_)
              · have g := (hx.still.cell (p := ⟨w.heap.size, 1, none⟩) z1).trans c1
                go_simp
              try simp only [List.getElem_toArray, List.getElem_cons_succ, List.getElem_cons_zero, Act.put, List.setIfInBounds_toArray, List.set_cons_zero, List.set_cons_succ]
              refine wpAnyS_take (i := 16) (v := .slice a6 es6.length k6) rfl (by kernel_rfl) (by kernel_rfl) (by kernel_rfl) (fun _ _ _ h => h) (fun _ _ => Iff.rfl) hc (by first | rfl | simp [Region.wanted]) (fun wx hx => ?_) S0 (fun hc S0 => ?_)
              · go_simp
              try simp only [List.getElem_toArray, List.getElem_cons_succ, List.getElem_cons_zero, Act.put, List.setIfInBounds_toArray, List.set_cons_zero, List.set_cons_succ]
              refine wpAnyS_take (i := 17) (v := .pointer (some ⟨w.heap.size, 1, none⟩)) rfl (by kernel_rfl) (by kernel_rfl) (by kernel_rfl) (fun _ _ _ h => h) (fun _ _ => Iff.rfl) hc (by first | rfl | simp [Region.wanted]) (fun wx hx => ?_) S0 (fun hc S0 => ?_)
              · go_simp
              try simp only [List.getElem_toArray, List.getElem_cons_succ, List.getElem_cons_zero, Act.put, List.setIfInBounds_toArray, List.set_cons_zero, List.set_cons_succ]
              refine wpAnyS_take (i := 18) (v := .string (bs c.id)) rfl (by kernel_rfl) (by kernel_rfl) (by kernel_rfl) (fun _ _ _ h => h) (fun _ _ => Iff.rfl) hc (by first | rfl | simp [Region.wanted]) (fun wx hx => ?_) S0 (fun hc S0 => ?_)
              · have g := (hx.still.cell (p := ⟨w.heap.size, 1, none⟩) z1).trans c1
                go_simp
              try simp only [List.getElem_toArray, List.getElem_cons_succ, List.getElem_cons_zero, Act.put, List.setIfInBounds_toArray, List.set_cons_zero, List.set_cons_succ]
              refine wpAnyS_one (i := 15) rfl (by kernel_rfl) (by rfl) hc (fun K' hK => ?_)
              go_simp
              refine (without_any es5 _ c.id w7 (HE56.out.below hb7) hle5).mono ?_
              rintro e w8 ⟨a8, k8, rfl, hE8, hb8⟩
              have hb68 := Below.step hb7 hb8
              refine hK.out _ _ hb68 (fun hc => ?_)
              clear hK K'
              have S0 : StillAt w6 #[] w8 := hb68
              try simp only [List.getElem_toArray, List.getElem_cons_succ, List.getElem_cons_zero, Act.put, List.setIfInBounds_toArray, List.set_cons_zero, List.set_cons_succ]
              refine wpAnyS_one (i := 19) rfl (by kernel_rfl) (by rfl) hc (fun K' hK => ?_)
              go_simp
              refine (without_any es6 _ c.id w8 (HE6.out.2.below hb68) hle6).mono ?_
              rintro e w9 ⟨a9, k9, rfl, hE9, hb9⟩
              have hb69 := Below.step hb68 hb9
              refine hK.out _ _ hb69 (fun hc => ?_)
              clear hK K'
              have S0 : StillAt w6 #[] w9 := hb69
              try simp only [List.getElem_toArray, List.getElem_cons_succ, List.getElem_cons_zero, Act.put, List.setIfInBounds_toArray, List.set_cons_zero, List.set_cons_succ]
              refine wpAnyS_one (i := 20) rfl (by kernel_rfl) (by rfl) hc (fun K' hK => ?_)
              go_simp
              have HSA := hid (sameEs_law (hE8.below hb9) hE9)
              rw [decide_eq_true (show (wo c.id es5).map Prod.fst = (wo c.id es6).map Prod.fst by rw [wo_fst, wo_fst, HE5.out.1, HE6.out.1, H1.out.1]; exact HWE.out)] at HSA
              refine (HSA.out).mono ?_
              rintro e w10 ⟨rfl, hb10⟩
              have hb610 := Below.step hb69 hb10
              refine hK.out _ _ hb610 (fun hc => ?_)
              clear hK K'
              have S0 : StillAt w6 #[] w10 := hb610
              try simp only [List.getElem_toArray, List.getElem_cons_succ, List.getElem_cons_zero, Act.put, List.setIfInBounds_toArray, List.set_cons_zero, List.set_cons_succ]
              refine wpAnyS_take (i := 21) (v := .bool true) rfl (by kernel_rfl) (by kernel_rfl) (by kernel_rfl) (fun _ _ _ h => h) (fun _ _ => Iff.rfl) hc (by first | rfl | simp [Region.wanted]) (fun wx hx => ?_) S0 (fun hc S0 => ?_)
              · go_simp
              try simp only [List.getElem_toArray, List.getElem_cons_succ, List.getElem_cons_zero, Act.put, List.setIfInBounds_toArray, List.set_cons_zero, List.set_cons_succ]
              refine wpAnyS_one (i := 22) rfl (by kernel_rfl) (by rfl) hc (fun K' hK => ?_)
              go_simp
              refine hK.out _ _ hb610 (fun hc => ?_)
              clear hK K'
              have S0 : StillAt w6 #[] w10 := hb610
              try simp only [List.getElem_toArray, List.getElem_cons_succ, List.getElem_cons_zero, Act.put, List.setIfInBounds_toArray, List.set_cons_zero, List.set_cons_succ]
              refine wpAnyS_done (by kernel_rfl) ?_ _
              clear hc S0
              go_wp2_with fail
              go_ret
              exact ⟨rfl, Below.step HB6.out hb610⟩
          · have hnb : (n1 != 0) = true := by rw [bne_iff_ne]; exact h10
            clear h10
            go_wp2_with fail
            go_ret
            exact ⟨rfl, HB4.out⟩
        · have g1 : (c.kind != 1) = true := by rw [bne_iff_ne]; exact hk1
          have g3 : (c.kind != 2) = true := by rw [bne_iff_ne]; exact hk2
          clear hk1 hk2
          go_wp2_with fail
          go_ret
          exact ⟨rfl, HB3.out⟩
    · by_cases hk : c.kind = 1
      · have g1 : (c.kind != 1) = false := by rw [hk]; rfl
        clear hk
        by_cases h0 : t < 0
        · have t1 : decide (t < 0) = true := decide_eq_true h0
          clear h0 ht
          go_wp2_with fail
          go_ret
          exact ⟨rfl, HB3.out⟩
        · have t1 : decide (t < 0) = false := decide_eq_false h0
          have t2 : decide (144001439 < t) = true := decide_eq_true (by omega)
          clear h0 ht
          go_wp2_with fail
          go_ret
          exact ⟨rfl, HB3.out⟩
      · have g1 : (c.kind != 1) = true := by rw [bne_iff_ne]; exact hk
        clear hk
        obtain ⟨kb, hkb⟩ : ∃ kb, kb = (c.kind != 2) := ⟨_, rfl⟩
        have g3 := hkb.symm
        clear hkb
        cases kb with
        | true =>
          go_wp2_with fail
          go_ret
          exact ⟨rfl, HB3.out⟩
        | false =>
          by_cases h0 : t < 0
          · have t1 : decide (t < 0) = true := decide_eq_true h0
            clear h0 ht
            go_wp2_with fail
            go_ret
            exact ⟨rfl, HB3.out⟩
          · have t1 : decide (t < 0) = false := decide_eq_false h0
            have t2 : decide (144001439 < t) = true := decide_eq_true (by omega)
            clear h0 ht
            go_wp2_with fail
            go_ret
            exact ⟨rfl, HB3.out⟩

end Go.Proofs.YtidkmhokolknbaaGreatDoor
