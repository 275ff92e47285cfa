/-
  ListExchange: the law holds. Conditions: the library's tables.
-/
import Derived.Test.YtidkmhokolknbaaGreatDoorZLawIx
namespace Go.Proofs.YtidkmhokolknbaaGreatDoor
open Go.RowKit Go.Lib Go.Maps

set_option maxRecDepth 100000 in
set_option maxHeartbeats 8000000 in
theorem exch_law (ps : List (Li.Ls × Value)) (v : Value) (a b : Li.Ch) (ua ub : Value) (w : World) (hl : LssRaw w v ps) (ha : NmsRin w ua a.en.names) (hb : NmsRin w ub b.en.names) (hA : Tabs w) (hT : Tab10 w) :
    Calls Tryz.prog 10 #[v, .agg #[.int .i64 a.kind, .string (bs a.id), .string (bs a.en.id), ua, .int .i64 a.at_], .agg #[.int .i64 b.kind, .string (bs b.id), .string (bs b.en.id), ub, .int .i64 b.at_]] w (Gives (.bool true) w) := by
  have HAA := hid hA
  have HTT := hid hT
  have HL := hid hl
  have HNA := hid ha
  have HNB := hid hb
  obtain ⟨na, nc, rfl⟩ := ha.slice
  obtain ⟨ma, mc, rfl⟩ := hb.slice
  obtain ⟨W1, hW1⟩ : ∃ W1, W1 = w.alloc (.cells #[.int .i64 a.kind, .string (bs a.id), .string (bs a.en.id), .slice na a.en.names.length nc, .int .i64 a.at_] 27) := ⟨_, rfl⟩
  obtain ⟨W2, hW2⟩ : ∃ W2, W2 = W1.alloc (.cells #[.int .i64 b.kind, .string (bs b.id), .string (bs b.en.id), .slice ma b.en.names.length mc, .int .i64 b.at_] 27) := ⟨_, rfl⟩
  have HX1 := hid (ChBox.new hW1)
  have HY2 := hid (ChBox.new hW2)
  have HX2 := hid (HX1.out.step HY2.out.below)
  have HB2 := hid (Below.step HX1.out.below HY2.out.below)
  have HH := hid (head_true W2 (hA.below HB2.out) (hT.below HB2.out))
  obtain ⟨⟨va, cap, rfl, -, -, -⟩, -⟩ := hl
  have hz : W1.heap.size = w.heap.size + 1 := by rw [hW1, World.size_alloc]
  have HZ := hid hz
  clear hA hT ha hb hz
  go_enter Tryz.func10, Tryz.ntmps10
  go_upto_region 1 with (fail)
  rw [← hW1, ← hW2]
  try rw [← HZ.out]
  clear hW1 hW2
  go_wp2_with fail
  refine (HH.out).mono ?_
  rintro e w3 ⟨rfl, hb3⟩
  have HB3 := hid (Below.step HB2.out hb3)
  have HX3 := hid (HX2.out.step hb3)
  have HY3 := hid (HY2.out.step hb3)
  have HF := hid (lawFew_any ps _ a.kind a.id a.en.id a.en.names _ a.at_ w3 (HL.out.below HB3.out) (HNA.out.below HB3.out))
  obtain ⟨c0, c1, c2, c3, c4, z1, -⟩ := HX3.out
  obtain ⟨d0, d1, d2, d3, d4, z2, -⟩ := HY3.out
  clear hb3
  obtain ⟨fb, hfb⟩ : ∃ fb, fb = (Li.fewLs (ps.map Prod.fst) && Li.fewCh a) := ⟨_, rfl⟩
  rw [← hfb] at HF
  have HFB := hid hfb
  clear hfb
  go_wp2_with fail
  refine (HF.out).mono ?_
  rintro e w4 ⟨rfl, hb4⟩
  have HB4 := hid (Below.step HB3.out hb4)
  have HX4 := hid (HX3.out.step hb4)
  have HY4 := hid (HY3.out.step hb4)
  clear hb4 c0 c1 c2 c3 c4 z1 d0 d1 d2 d3 d4 z2
  cases fb with
  | false =>
    go_wp2_with fail
    go_ret
    exact ⟨rfl, HB4.out⟩
  | true =>
    have HF2 := hid (rFewC_any b.kind b.id b.en.id b.en.names _ b.at_ w4 (HNB.out.below HB4.out))
    obtain ⟨f2, hf2⟩ : ∃ f2, f2 = Li.fewCh b := ⟨_, rfl⟩
    have HFC := hid hf2
    rw [show Li.fewCh ⟨b.kind, b.id, ⟨b.en.id, b.en.names⟩, b.at_⟩ = f2 from hf2.symm] at HF2
    obtain ⟨d0, d1, d2, d3, d4, z2, -⟩ := HY4.out
    clear hf2
    go_wp2_with fail
    refine (HF2.out).mono ?_
    rintro e w5 ⟨rfl, hb5⟩
    have HB5 := hid (Below.step HB4.out hb5)
    have HX5 := hid (HX4.out.step hb5)
    have HY5 := hid (HY4.out.step hb5)
    clear hb5 d0 d1 d2 d3 d4 z2
    cases f2 with
    | false =>
      go_wp2_with fail
      go_ret
      exact ⟨rfl, HB5.out⟩
    | true =>
      obtain ⟨hls, hlen, hna, ha1, ha2⟩ := few_facts (c := a) (HL.out.below HB5.out) (HNA.out.below HB5.out) HFB.out.symm
      have hfb2 : Li.fewCh b = true := HFC.out.symm
      unfold Li.fewCh at hfb2
      rw [Bool.and_eq_true, decide_eq_true_eq] at hfb2
      have hb1 := hfb2.1
      have hb2 := few_id hfb2.2
      have HNB5 := hid ((HNB.out.below HB5.out).few hfb2.2)
      have HLS := hid hls
      have HNA5 := hid hna
      obtain ⟨c0, c1, c2, c3, c4, z1, -⟩ := HX5.out
      obtain ⟨d0, d1, d2, d3, d4, z2, -⟩ := HY5.out
      have hnb := name_beq a.id b.id
      clear hls hna hfb2
      by_cases hk1 : a.kind = 1
      · have k1 : (a.kind == 1) = true := by rw [hk1]; rfl
        clear hk1
        go_wp2_with fail
        go_ret
        exact ⟨rfl, HB5.out⟩
      have k1 : (a.kind == 1) = false := by rw [beq_eq_false_iff_ne]; exact hk1
      have HK1 := hid hk1
      clear hk1
      by_cases hk2 : b.kind = 1
      · have k2 : (b.kind == 1) = true := by rw [hk2]; rfl
        clear hk2
        go_wp2_with fail
        go_ret
        exact ⟨rfl, HB5.out⟩
      have k2 : (b.kind == 1) = false := by rw [beq_eq_false_iff_ne]; exact hk2
      have HK2 := hid hk2
      clear hk2
      by_cases hid_ : a.id = b.id
      · rw [decide_eq_true hid_] at hnb
        clear hid_
        go_wp2_with fail
        go_ret
        exact ⟨rfl, HB5.out⟩
      rw [decide_eq_false hid_] at hnb
      have HNE := hid hid_
      clear hid_
      have HAP := hid (apply_law a _ ps _ w5 HLS.out (by omega) HNA5.out (by omega) (by omega) (HAA.out.below HB5.out) (HTT.out.below HB5.out))
      go_wp2_with fail
      refine (HAP.out).mono ?_
      rintro e w6 ⟨a1, l1, ps1, rfl, hm1, hl1, hb6⟩
      obtain ⟨n1, hn1⟩ : ∃ n1, n1 = (Li.apply (ps.map Prod.fst) a).2 := ⟨_, rfl⟩
      rw [← hn1]
      have HB6 := hid (Below.step HB5.out hb6)
      have HX6 := hid (HX5.out.step hb6)
      have HY6 := hid (HY5.out.step hb6)
      have HLS6 := hid (HLS.out.below hb6)
      have HNA6 := hid (HNA5.out.below hb6)
      have HNB6 := hid (HNB5.out.below hb6)
      have H1 := hid (And.intro hm1 hn1)
      have HL1 := hid hl1
      clear hb6 hm1 hn1 hl1 c0 c1 c2 c3 c4 z1 d0 d1 d2 d3 d4 z2
      obtain ⟨d0, d1, d2, d3, d4, z2, -⟩ := HY6.out
      have HAP2 := hid (apply_law b _ ps _ w6 HLS6.out (by omega) HNB6.out (by omega) (by omega) (HAA.out.below HB6.out) (HTT.out.below HB6.out))
      go_wp2_with fail
      refine (HAP2.out).mono ?_
      rintro e w7 ⟨a2, l2, ps2, rfl, hm2, hl2, hb7⟩
      obtain ⟨n2, hn2⟩ : ∃ n2, n2 = (Li.apply (ps.map Prod.fst) b).2 := ⟨_, rfl⟩
      rw [← hn2]
      have HB7 := hid (Below.step HB6.out hb7)
      have HX7 := hid (HX6.out.step hb7)
      have HY7 := hid (HY6.out.step hb7)
      have HNA7 := hid (HNA6.out.below hb7)
      have HNB7 := hid (HNB6.out.below hb7)
      have H2 := hid (And.intro hm2 hn2)
      have HL17 := hid (HL1.out.below hb7)
      have HL2 := hid hl2
      clear hb7 hm2 hn2 hl2 d0 d1 d2 d3 d4 z2
      obtain ⟨c0, c1, c2, c3, c4, z1, -⟩ := HX7.out
      obtain ⟨d0, d1, d2, d3, d4, z2, -⟩ := HY7.out
      by_cases h10 : n1 = 0
      · have e1 : (n1 == 0) = true := by rw [h10]; rfl
        have HO1 := hid (show (Li.apply (ps.map Prod.fst) a).2 = 0 by rw [← H1.out.2]; exact h10)
        have HA3 := hid (apply_law b _ ps1 _ w7 HL17.out (apply_short H1.out.1 HO1.out) HNB7.out (by omega) (by omega) (HAA.out.below HB7.out) (HTT.out.below HB7.out))
        have HN1 := hid h10
        clear h10
        by_cases h20 : n2 = 0
        · have e2 : (n2 == 0) = true := by rw [h20]; rfl
          have HO2 := hid (show (Li.apply (ps.map Prod.fst) b).2 = 0 by rw [← H2.out.2]; exact h20)
          have HEX := hid (Li.law_exchange HK1.out HK2.out HNE.out HO1.out HO2.out)
          clear h20
          go_wp2_with fail
          refine (HA3.out).mono ?_
          rintro e w8 ⟨a3, l3, ps3, rfl, hm3, hl3, hb8⟩
          obtain ⟨n3, hn3⟩ : ∃ n3, n3 = (Li.apply (ps1.map Prod.fst) b).2 := ⟨_, rfl⟩
          rw [← hn3]
          have HB8 := hid (Below.step HB7.out hb8)
          have HX8 := hid (HX7.out.step hb8)
          have HL28 := hid (HL2.out.below hb8)
          have HNA8 := hid (HNA7.out.below hb8)
          have H3 := hid (And.intro hm3 hn3)
          have HL3 := hid hl3
          clear hb8 hm3 hn3 hl3 c0 c1 c2 c3 c4 z1 d0 d1 d2 d3 d4 z2
          obtain ⟨c0, c1, c2, c3, c4, z1, -⟩ := HX8.out
          have HA4 := hid (apply_law a _ ps2 _ w8 HL28.out (apply_short H2.out.1 HO2.out) HNA8.out (by omega) (by omega) (HAA.out.below HB8.out) (HTT.out.below HB8.out))
          go_wp2_with fail
          refine (HA4.out).mono ?_
          rintro e w9 ⟨a4, l4, ps4, rfl, hm4, hl4, hb9⟩
          obtain ⟨n4, hn4⟩ : ∃ n4, n4 = (Li.apply (ps2.map Prod.fst) a).2 := ⟨_, rfl⟩
          rw [← hn4]
          have HB9 := hid (Below.step HB8.out hb9)
          have z3 : (n3 == 0) = true := by rw [H3.out.2, H1.out.1, HEX.out.1]; rfl
          have z4 : (n4 == 0) = true := by rw [hn4, H2.out.1, HEX.out.2.1]; rfl
          have HSA := hid (sameLs_law (HL3.out.below hb9) hl4)
          rw [decide_eq_true (show ps3.map Prod.fst = ps4.map Prod.fst by rw [H3.out.1, hm4, H1.out.1, H2.out.1, HEX.out.2.2])] at HSA
          clear hb9 hm4 hn4 hl4 c0 c1 c2 c3 c4 z1
          go_wp2_with fail
          refine (HSA.out).mono ?_
          rintro e w10 ⟨rfl, hb10⟩
          have HB10 := hid (Below.step HB9.out hb10)
          clear hb10
          go_wp2_with fail
          go_ret
          exact ⟨rfl, HB10.out⟩
        · have e2 : (n2 == 0) = false := by rw [beq_eq_false_iff_ne]; exact h20
          have HEX := hid (Li.err_after HO1.out HK1.out HK2.out HNE.out)
          clear h20
          go_wp2_with fail
          refine (HA3.out).mono ?_
          rintro e w8 ⟨a3, l3, ps3, rfl, hm3, hl3, hb8⟩
          obtain ⟨n3, hn3⟩ : ∃ n3, n3 = (Li.apply (ps1.map Prod.fst) b).2 := ⟨_, rfl⟩
          rw [← hn3]
          have HB8 := hid (Below.step HB7.out hb8)
          have z3 : (n3 == n2) = true := by rw [hn3, H1.out.1, HEX.out, H2.out.2]; exact beq_self_eq_true _
          clear hb8 hm3 hn3 hl3 c0 c1 c2 c3 c4 z1 d0 d1 d2 d3 d4 z2
          go_wp2_with fail
          go_ret
          exact ⟨rfl, HB8.out⟩
      · have e1 : (n1 == 0) = false := by rw [beq_eq_false_iff_ne]; exact h10
        clear h10
        by_cases h20 : n2 = 0
        · have e2 : (n2 == 0) = true := by rw [h20]; rfl
          have HO2 := hid (show (Li.apply (ps.map Prod.fst) b).2 = 0 by rw [← H2.out.2]; exact h20)
          have HEX := hid (Li.err_after HO2.out HK2.out HK1.out (Ne.symm HNE.out))
          have HA3 := hid (apply_law a _ ps2 _ w7 HL2.out (apply_short H2.out.1 HO2.out) HNA7.out (by omega) (by omega) (HAA.out.below HB7.out) (HTT.out.below HB7.out))
          clear h20
          go_wp2_with fail
          refine (HA3.out).mono ?_
          rintro e w8 ⟨a3, l3, ps3, rfl, hm3, hl3, hb8⟩
          obtain ⟨n3, hn3⟩ : ∃ n3, n3 = (Li.apply (ps2.map Prod.fst) a).2 := ⟨_, rfl⟩
          rw [← hn3]
          have HB8 := hid (Below.step HB7.out hb8)
          have z3 : (n3 == n1) = true := by rw [hn3, H2.out.1, HEX.out, H1.out.2]; exact beq_self_eq_true _
          clear hb8 hm3 hn3 hl3 c0 c1 c2 c3 c4 z1 d0 d1 d2 d3 d4 z2
          go_wp2_with fail
          go_ret
          exact ⟨rfl, HB8.out⟩
        · have e2 : (n2 == 0) = false := by rw [beq_eq_false_iff_ne]; exact h20
          clear h20
          go_wp2_with fail
          go_ret
          exact ⟨rfl, HB7.out⟩

end Go.Proofs.YtidkmhokolknbaaGreatDoor
