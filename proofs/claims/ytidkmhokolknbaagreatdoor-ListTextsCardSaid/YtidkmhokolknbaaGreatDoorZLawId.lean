/-
  ListTexts: the law holds. Conditions: the library's tables.
-/
import Derived.Test.YtidkmhokolknbaaGreatDoorZLawIx
namespace Go.Proofs.YtidkmhokolknbaaGreatDoor
open Go.RowKit Go.Lib Go.Maps

/-- a text is short -/
theorem text_short (c : Li.Ch) : ((Li.text c).getD []).length ≤ 1400 := by
  unfold Li.text
  split
  · exact Li.body_len (by assumption)
  · simp

theorem formed_lens {c : Li.Ch} (h : Li.formed c = true) : c.id.length ≤ 24 ∧ c.en.id.length ≤ 24 := by
  obtain ⟨h1, -, -, h4, h5, -, -⟩ := Li.formed_parts h
  have hi : c.id.length ≤ 24 := by
    unfold Li.ident at h1
    simp only [Bool.and_eq_true, decide_eq_true_eq] at h1
    exact h1.1.2
  refine ⟨hi, ?_⟩
  cases hw : Li.withEntry c with
  | true => rw [(h4 hw).1]; exact hi
  | false => rw [(h5 hw).1]; simp

set_option maxRecDepth 100000 in
set_option maxHeartbeats 8000000 in
theorem texts_law (a b : Li.Ch) (ua ub : Value) (s : List UInt8) (w : World) (ha : NmsRin w ua a.en.names) (hb : NmsRin w ub b.en.names) (hA : Tabs w) (hT : Tab10 w) :
    Calls Tryz.prog 8 #[.agg #[.int .i64 a.kind, .string (bs a.id), .string (bs a.en.id), ua, .int .i64 a.at_], .agg #[.int .i64 b.kind, .string (bs b.id), .string (bs b.en.id), ub, .int .i64 b.at_], .string (bs s)] w (Gives (.bool true) w) := by
  have HAA := hid hA
  have HTT := hid hT
  have HNA := hid ha
  have HNB := hid hb
  obtain ⟨na, nc, rfl⟩ := ha.slice
  obtain ⟨ma, mc, rfl⟩ := hb.slice
  obtain ⟨W1, hW1⟩ : ∃ W1, W1 = w.alloc (.cells #[.int .i64 a.kind, .string (bs a.id), .string (bs a.en.id), .slice na a.en.names.length nc, .int .i64 a.at_] 27) := ⟨_, rfl⟩
  obtain ⟨W2, hW2⟩ : ∃ W2, W2 = W1.alloc (.cells #[.int .i64 b.kind, .string (bs b.id), .string (bs b.en.id), .slice ma b.en.names.length mc, .int .i64 b.at_] 27) := ⟨_, rfl⟩
  have HX1 := hid (ChBox.new hW1)
  have HY2 := hid (ChBox.new hW2)
  have HX2 := hid (HX1.out.step HY2.out.below)
  have HB2 := hid (Below.step HX1.out.below HY2.out.below)
  have HH := hid (head_true W2 (hA.below HB2.out) (hT.below HB2.out))
  have hz : W1.heap.size = w.heap.size + 1 := by rw [hW1, World.size_alloc]
  have HZ := hid hz
  have hsl := bs_len s
  clear hA hT ha hb hz
  go_enter Tryz.func8, Tryz.ntmps8
  go_upto_region 1 with (fail)
  rw [← hW1, ← hW2]
  try rw [← HZ.out]
  clear hW1 hW2
  go_wp2_with fail
  refine (HH.out).mono ?_
  rintro e w3 ⟨rfl, hb3⟩
  have HB3 := hid (Below.step HB2.out hb3)
  have HX3 := hid (HX2.out.step hb3)
  have HY3 := hid (HY2.out.step hb3)
  have HF := hid (rFewC_any a.kind a.id a.en.id a.en.names _ a.at_ w3 (HNA.out.below HB3.out))
  obtain ⟨fb, hfb⟩ : ∃ fb, fb = Li.fewCh a := ⟨_, rfl⟩
  rw [show Li.fewCh ⟨a.kind, a.id, ⟨a.en.id, a.en.names⟩, a.at_⟩ = fb from hfb.symm] at HF
  have HFB := hid hfb
  obtain ⟨c0, c1, c2, c3, c4, z1, -⟩ := HX3.out
  clear hb3 hfb
  go_wp2_with fail
  refine (HF.out).mono ?_
  rintro e w4 ⟨rfl, hb4⟩
  have HB4 := hid (Below.step HB3.out hb4)
  have HX4 := hid (HX3.out.step hb4)
  have HY4 := hid (HY3.out.step hb4)
  clear hb4 c0 c1 c2 c3 c4 z1
  cases fb with
  | false =>
    go_wp2_with fail
    go_ret
    exact ⟨rfl, HB4.out⟩
  | true =>
    have HF2 := hid (rFewC_any b.kind b.id b.en.id b.en.names _ b.at_ w4 (HNB.out.below HB4.out))
    obtain ⟨f2, hf2⟩ : ∃ f2, f2 = Li.fewCh b := ⟨_, rfl⟩
    have HFC := hid hf2
    rw [show Li.fewCh ⟨b.kind, b.id, ⟨b.en.id, b.en.names⟩, b.at_⟩ = f2 from hf2.symm] at HF2
    obtain ⟨d0, d1, d2, d3, d4, z2, -⟩ := HY4.out
    clear hf2
    go_wp2_with fail
    refine (HF2.out).mono ?_
    rintro e w5 ⟨rfl, hb5⟩
    have HB5 := hid (Below.step HB4.out hb5)
    have HX5 := hid (HX4.out.step hb5)
    have HY5 := hid (HY4.out.step hb5)
    clear hb5 d0 d1 d2 d3 d4 z2
    cases f2 with
    | false =>
      go_wp2_with fail
      go_ret
      exact ⟨rfl, HB5.out⟩
    | true =>
      by_cases hs : s.length ≤ 2000
      · have g1 : decide ((2000 : Int) < (s.length : Int)) = false := decide_eq_false (by omega)
        have hsl2 : s.length ≤ 2000 := hs
        have hfa2 : Li.fewCh a = true := HFB.out.symm
        have hfb2 : Li.fewCh b = true := HFC.out.symm
        unfold Li.fewCh at hfa2 hfb2
        rw [Bool.and_eq_true, decide_eq_true_eq] at hfa2 hfb2
        have ha1 := hfa2.1
        have ha2 := few_id hfa2.2
        have hb1 := hfb2.1
        have hb2 := few_id hfb2.2
        have HNA5 := hid ((HNA.out.below HB5.out).few hfa2.2)
        have HNB5 := hid ((HNB.out.below HB5.out).few hfb2.2)
        have HT1 := hid (text_law a _ w5 HNA5.out (by omega) (by omega) (HAA.out.below HB5.out) (HTT.out.below HB5.out))
        obtain ⟨c0, c1, c2, c3, c4, z1, -⟩ := HX5.out
        clear hfa2 hfb2 hs
        go_wp2_with fail
        refine (HT1.out).mono ?_
        rintro e w6 ⟨rfl, hb6⟩
        have HB6 := hid (Below.step HB5.out hb6)
        have HX6 := hid (HX5.out.step hb6)
        have HY6 := hid (HY5.out.step hb6)
        have HNA6 := hid (HNA5.out.below hb6)
        have HNB6 := hid (HNB5.out.below hb6)
        have HT2 := hid (text_law b _ w6 HNB6.out (by omega) (by omega) (HAA.out.below HB6.out) (HTT.out.below HB6.out))
        obtain ⟨d0, d1, d2, d3, d4, z2, -⟩ := HY6.out
        obtain ⟨ta, hta⟩ : ∃ ta, ta = (Li.text a).getD [] := ⟨_, rfl⟩
        obtain ⟨ea, hea⟩ : ∃ ea : Int, ea = (if Li.formed a = true then 0 else 1) := ⟨_, rfl⟩
        rw [← hta, ← hea]
        have HTA := hid (And.intro hta hea)
        clear hb6 hta hea c0 c1 c2 c3 c4 z1
        go_wp2_with fail
        refine (HT2.out).mono ?_
        rintro e w7 ⟨rfl, hb7⟩
        have HB7 := hid (Below.step HB6.out hb7)
        have HX7 := hid (HX6.out.step hb7)
        have HY7 := hid (HY6.out.step hb7)
        have HNA7 := hid (HNA6.out.below hb7)
        have HNB7 := hid (HNB6.out.below hb7)
        obtain ⟨tb, htb⟩ : ∃ tb, tb = (Li.text b).getD [] := ⟨_, rfl⟩
        obtain ⟨eb, heb⟩ : ∃ eb : Int, eb = (if Li.formed b = true then 0 else 1) := ⟨_, rfl⟩
        rw [← htb, ← heb]
        have HTB := hid (And.intro htb heb)
        have htl := text_short a
        rw [← HTA.out.1] at htl
        have HP1 := hid (parse_law ta w7 (by omega) (HAA.out.below HB7.out) (HTT.out.below HB7.out))
        clear hb7 htb heb d0 d1 d2 d3 d4 z2
        by_cases hfa : Li.formed a = true
        · have e1 : ea = 0 := by rw [HTA.out.2, if_pos hfa]
          have hp : Li.parse ta = some a := Li.law_texts (by rw [HTA.out.1]; unfold Li.text; rw [if_pos hfa]; rfl)
          subst e1
          have HFA := hid (And.intro hfa hp)
          clear hfa hp
          go_wp2_with fail
          refine (HP1.out).mono ?_
          rintro e w8 ⟨cc, pa, pk, n, rfl, hn8, hb8, h8⟩
          rw [HFA.out.2] at h8
          obtain ⟨rfl, rfl⟩ := h8
          have H8 := hid (And.intro hn8 hb8)
          clear hn8 hb8
          obtain ⟨W9, hW9⟩ : ∃ W9, W9 = w8.alloc (.cells #[.int .i64 cc.kind, .string (bs cc.id), .string (bs cc.en.id), .slice pa cc.en.names.length pk, .int .i64 cc.at_] 27) := ⟨_, rfl⟩
          have HQ9 := hid (ChBox.new hW9)
          have HB8 := hid (Below.step HB7.out H8.out.2)
          have HB9 := hid (Below.step HB8.out HQ9.out.below)
          have HX9 := hid ((HX7.out.step H8.out.2).step HQ9.out.below)
          have HY9 := hid ((HY7.out.step H8.out.2).step HQ9.out.below)
          have HNC9 := hid (H8.out.1.below HQ9.out.below)
          have HNA9 := hid ((HNA7.out.below H8.out.2).below HQ9.out.below)
          have HNB9 := hid ((HNB7.out.below H8.out.2).below HQ9.out.below)
          go_upto_region 8 with (fail)
          rw [← hW9]
          clear hW9
          have HS1 := hid (sameC_law cc cc _ _ W9 HNC9.out.rin HNA9.out.rin)
          rw [decide_eq_true rfl] at HS1
          obtain ⟨c0, c1, c2, c3, c4, z1, -⟩ := HX9.out
          obtain ⟨q0, q1, q2, q3, q4, z3, -⟩ := HQ9.out
          go_wp2_with fail
          refine (HS1.out).mono ?_
          rintro e w10 ⟨rfl, hb10⟩
          have HB10 := hid (Below.step HB9.out hb10)
          have HX10 := hid (HX9.out.step hb10)
          have HY10 := hid (HY9.out.step hb10)
          have HNA10 := hid (HNA9.out.below hb10)
          have HNB10 := hid (HNB9.out.below hb10)
          clear hb10 c0 c1 c2 c3 c4 z1 q0 q1 q2 q3 q4 z3
          obtain ⟨c0, c1, c2, c3, c4, z1, -⟩ := HX10.out
          obtain ⟨d0, d1, d2, d3, d4, z2, -⟩ := HY10.out
          by_cases hfb : Li.formed b = true
          · have e2 : eb = 0 := by rw [HTB.out.2, if_pos hfb]
            have HS2 := hid (sameC_law cc b _ _ w10 HNA10.out.rin HNB10.out.rin)
            have hij : ta = tb ↔ cc = b := Li.text_inj (by rw [HTA.out.1]; unfold Li.text; rw [if_pos HFA.out.1]; rfl) (by rw [HTB.out.1]; unfold Li.text; rw [if_pos hfb]; rfl)
            obtain ⟨q, hq⟩ : ∃ q, q = decide (cc = b) := ⟨_, rfl⟩
            have hnb := (name_beq ta tb).trans ((decide_eq_decide.2 hij).trans hq.symm)
            rw [← hq] at HS2
            subst e2
            clear hfb hq hij
            go_wp2_with fail
            refine (HS2.out).mono ?_
            rintro e w11 ⟨rfl, hb11⟩
            have HBT := hid (Below.step HB10.out hb11)
            clear hb11 c0 c1 c2 c3 c4 z1 d0 d1 d2 d3 d4 z2
            cases q with
            | true =>
              go_upto_region 12 with (fail)
              have HP2 := hid (parse_law s _ (by omega) (HAA.out.below HBT.out) (HTT.out.below HBT.out))
              go_wp2_with fail
              refine (HP2.out).mono ?_
              rintro e w12 ⟨c2, pb, pj, n2, rfl, hn12, hb12, h12⟩
              obtain ⟨W13, hW13⟩ : ∃ W13, W13 = w12.alloc (.cells #[.int .i64 c2.kind, .string (bs c2.id), .string (bs c2.en.id), .slice pb c2.en.names.length pj, .int .i64 c2.at_] 27) := ⟨_, rfl⟩
              have HX13 := hid (ChBox.new hW13)
              have HB13 := hid (Below.step (Below.step HBT.out hb12) HX13.out.below)
              have HN13 := hid (hn12.below HX13.out.below)
              clear hn12 hb12
              go_upto_region 13 with (fail)
              rw [← hW13]
              clear hW13
              obtain ⟨u0, u1, u2, u3, u4, z4, -⟩ := HX13.out
              cases hp2 : Li.parse s with
              | none =>
                rw [hp2] at h12
                obtain ⟨rfl, rfl⟩ := h12
                have HSZ := hid (sameC_law ⟨0, [], ⟨[], []⟩, 0⟩ ⟨0, [], ⟨[], []⟩, 0⟩ _ (.slice none 0 0) W13 HN13.out.rin (NmsIn.nil _).rin)
                rw [decide_eq_true rfl] at HSZ
                simp only [show bs [] = ⟨#[]⟩ from rfl] at HSZ u1 u2
                clear hp2
                go_wp2_with fail
                refine (HSZ.out).mono ?_
                rintro e w14 ⟨rfl, hb14⟩
                have HB14 := hid (Below.step HB13.out hb14)
                clear hb14
                go_wp2_with fail
                go_ret
                exact ⟨rfl, HB14.out⟩
              | some c3 =>
                rw [hp2] at h12
                obtain ⟨rfl, rfl⟩ := h12
                have ht := Li.parse_own hp2
                have hft := (Li.text_some ht).1
                have hln := formed_lens hft
                have HTX := hid (text_law c2 _ W13 HN13.out (by omega) (by omega) (HAA.out.below HB13.out) (HTT.out.below HB13.out))
                unfold TextP at HTX
                rw [ht, if_pos hft] at HTX
                rw [show (some s).getD [] = s from rfl] at HTX
                clear hp2 ht hft
                go_wp2_with fail
                refine (HTX.out).mono ?_
                rintro e w14 ⟨rfl, hb14⟩
                have HB14 := hid (Below.step HB13.out hb14)
                clear hb14
                go_wp2_with fail
                go_ret
                exact ⟨rfl, HB14.out⟩
            | false =>
              go_upto_region 12 with (fail)
              have HP2 := hid (parse_law s _ (by omega) (HAA.out.below HBT.out) (HTT.out.below HBT.out))
              go_wp2_with fail
              refine (HP2.out).mono ?_
              rintro e w12 ⟨c2, pb, pj, n2, rfl, hn12, hb12, h12⟩
              obtain ⟨W13, hW13⟩ : ∃ W13, W13 = w12.alloc (.cells #[.int .i64 c2.kind, .string (bs c2.id), .string (bs c2.en.id), .slice pb c2.en.names.length pj, .int .i64 c2.at_] 27) := ⟨_, rfl⟩
              have HX13 := hid (ChBox.new hW13)
              have HB13 := hid (Below.step (Below.step HBT.out hb12) HX13.out.below)
              have HN13 := hid (hn12.below HX13.out.below)
              clear hn12 hb12
              go_upto_region 13 with (fail)
              rw [← hW13]
              clear hW13
              obtain ⟨u0, u1, u2, u3, u4, z4, -⟩ := HX13.out
              cases hp2 : Li.parse s with
              | none =>
                rw [hp2] at h12
                obtain ⟨rfl, rfl⟩ := h12
                have HSZ := hid (sameC_law ⟨0, [], ⟨[], []⟩, 0⟩ ⟨0, [], ⟨[], []⟩, 0⟩ _ (.slice none 0 0) W13 HN13.out.rin (NmsIn.nil _).rin)
                rw [decide_eq_true rfl] at HSZ
                simp only [show bs [] = ⟨#[]⟩ from rfl] at HSZ u1 u2
                clear hp2
                go_wp2_with fail
                refine (HSZ.out).mono ?_
                rintro e w14 ⟨rfl, hb14⟩
                have HB14 := hid (Below.step HB13.out hb14)
                clear hb14
                go_wp2_with fail
                go_ret
                exact ⟨rfl, HB14.out⟩
              | some c3 =>
                rw [hp2] at h12
                obtain ⟨rfl, rfl⟩ := h12
                have ht := Li.parse_own hp2
                have hft := (Li.text_some ht).1
                have hln := formed_lens hft
                have HTX := hid (text_law c2 _ W13 HN13.out (by omega) (by omega) (HAA.out.below HB13.out) (HTT.out.below HB13.out))
                unfold TextP at HTX
                rw [ht, if_pos hft] at HTX
                rw [show (some s).getD [] = s from rfl] at HTX
                clear hp2 ht hft
                go_wp2_with fail
                refine (HTX.out).mono ?_
                rintro e w14 ⟨rfl, hb14⟩
                have HB14 := hid (Below.step HB13.out hb14)
                clear hb14
                go_wp2_with fail
                go_ret
                exact ⟨rfl, HB14.out⟩
          · have e2 : eb = 1 := by rw [HTB.out.2, if_neg hfb]
            have HBT := HB10
            subst e2
            clear hfb c0 c1 c2 c3 c4 z1 d0 d1 d2 d3 d4 z2
            go_upto_region 12 with (fail)
            have HP2 := hid (parse_law s _ (by omega) (HAA.out.below HBT.out) (HTT.out.below HBT.out))
            go_wp2_with fail
            refine (HP2.out).mono ?_
            rintro e w12 ⟨c2, pb, pj, n2, rfl, hn12, hb12, h12⟩
            obtain ⟨W13, hW13⟩ : ∃ W13, W13 = w12.alloc (.cells #[.int .i64 c2.kind, .string (bs c2.id), .string (bs c2.en.id), .slice pb c2.en.names.length pj, .int .i64 c2.at_] 27) := ⟨_, rfl⟩
            have HX13 := hid (ChBox.new hW13)
            have HB13 := hid (Below.step (Below.step HBT.out hb12) HX13.out.below)
            have HN13 := hid (hn12.below HX13.out.below)
            clear hn12 hb12
            go_upto_region 13 with (fail)
            rw [← hW13]
            clear hW13
            obtain ⟨u0, u1, u2, u3, u4, z4, -⟩ := HX13.out
            cases hp2 : Li.parse s with
            | none =>
              rw [hp2] at h12
              obtain ⟨rfl, rfl⟩ := h12
              have HSZ := hid (sameC_law ⟨0, [], ⟨[], []⟩, 0⟩ ⟨0, [], ⟨[], []⟩, 0⟩ _ (.slice none 0 0) W13 HN13.out.rin (NmsIn.nil _).rin)
              rw [decide_eq_true rfl] at HSZ
              simp only [show bs [] = ⟨#[]⟩ from rfl] at HSZ u1 u2
              clear hp2
              go_wp2_with fail
              refine (HSZ.out).mono ?_
              rintro e w14 ⟨rfl, hb14⟩
              have HB14 := hid (Below.step HB13.out hb14)
              clear hb14
              go_wp2_with fail
              go_ret
              exact ⟨rfl, HB14.out⟩
            | some c3 =>
              rw [hp2] at h12
              obtain ⟨rfl, rfl⟩ := h12
              have ht := Li.parse_own hp2
              have hft := (Li.text_some ht).1
              have hln := formed_lens hft
              have HTX := hid (text_law c2 _ W13 HN13.out (by omega) (by omega) (HAA.out.below HB13.out) (HTT.out.below HB13.out))
              unfold TextP at HTX
              rw [ht, if_pos hft] at HTX
              rw [show (some s).getD [] = s from rfl] at HTX
              clear hp2 ht hft
              go_wp2_with fail
              refine (HTX.out).mono ?_
              rintro e w14 ⟨rfl, hb14⟩
              have HB14 := hid (Below.step HB13.out hb14)
              clear hb14
              go_wp2_with fail
              go_ret
              exact ⟨rfl, HB14.out⟩
        · have e1 : ea = 1 := by rw [HTA.out.2, if_neg hfa]
          have e3 : ta = [] := by rw [HTA.out.1]; unfold Li.text; rw [if_neg hfa]; rfl
          have HBT := HB7
          subst e1 e3
          clear hfa
          rw [show bs [] = ⟨#[]⟩ from rfl]
          go_upto_region 12 with (fail)
          have HP2 := hid (parse_law s _ (by omega) (HAA.out.below HBT.out) (HTT.out.below HBT.out))
          go_wp2_with fail
          refine (HP2.out).mono ?_
          rintro e w12 ⟨c2, pb, pj, n2, rfl, hn12, hb12, h12⟩
          obtain ⟨W13, hW13⟩ : ∃ W13, W13 = w12.alloc (.cells #[.int .i64 c2.kind, .string (bs c2.id), .string (bs c2.en.id), .slice pb c2.en.names.length pj, .int .i64 c2.at_] 27) := ⟨_, rfl⟩
          have HX13 := hid (ChBox.new hW13)
          have HB13 := hid (Below.step (Below.step HBT.out hb12) HX13.out.below)
          have HN13 := hid (hn12.below HX13.out.below)
          clear hn12 hb12
          go_upto_region 13 with (fail)
          rw [← hW13]
          clear hW13
          obtain ⟨u0, u1, u2, u3, u4, z4, -⟩ := HX13.out
          cases hp2 : Li.parse s with
          | none =>
            rw [hp2] at h12
            obtain ⟨rfl, rfl⟩ := h12
            have HSZ := hid (sameC_law ⟨0, [], ⟨[], []⟩, 0⟩ ⟨0, [], ⟨[], []⟩, 0⟩ _ (.slice none 0 0) W13 HN13.out.rin (NmsIn.nil _).rin)
            rw [decide_eq_true rfl] at HSZ
            simp only [show bs [] = ⟨#[]⟩ from rfl] at HSZ u1 u2
            clear hp2
            go_wp2_with fail
            refine (HSZ.out).mono ?_
            rintro e w14 ⟨rfl, hb14⟩
            have HB14 := hid (Below.step HB13.out hb14)
            clear hb14
            go_wp2_with fail
            go_ret
            exact ⟨rfl, HB14.out⟩
          | some c3 =>
            rw [hp2] at h12
            obtain ⟨rfl, rfl⟩ := h12
            have ht := Li.parse_own hp2
            have hft := (Li.text_some ht).1
            have hln := formed_lens hft
            have HTX := hid (text_law c2 _ W13 HN13.out (by omega) (by omega) (HAA.out.below HB13.out) (HTT.out.below HB13.out))
            unfold TextP at HTX
            rw [ht, if_pos hft] at HTX
            rw [show (some s).getD [] = s from rfl] at HTX
            clear hp2 ht hft
            go_wp2_with fail
            refine (HTX.out).mono ?_
            rintro e w14 ⟨rfl, hb14⟩
            have HB14 := hid (Below.step HB13.out hb14)
            clear hb14
            go_wp2_with fail
            go_ret
            exact ⟨rfl, HB14.out⟩
      · have g1 : decide ((2000 : Int) < (s.length : Int)) = true := decide_eq_true (by omega)
        clear hs
        go_wp2_with fail
        go_ret
        exact ⟨rfl, HB5.out⟩

end Go.Proofs.YtidkmhokolknbaaGreatDoor
