/-
  ListMatchesReference: the law holds. Conditions: the library's tables.
-/
import Derived.Test.YtidkmhokolknbaaGreatDoorZLawIx
import Derived.Test.YtidkmhokolknbaaGreatDoorZMLiB
import Derived.Test.YtidkmhokolknbaaGreatDoorZMRfA
import Derived.Test.YtidkmhokolknbaaGreatDoorZMRfB
import Derived.Test.YtidkmhokolknbaaGreatDoorZMRfC
namespace Go.Proofs.YtidkmhokolknbaaGreatDoor
open Go.RowKit Go.Lib Go.Maps

theorem rapply_law (c : Li.Ch) (u : Value) (ps : List (Li.Ls × Value)) (v : Value) (w : World) (h : LssAt w v ps) (hd : ps.length ≤ 5000) (hn : NmsIn w u c.en.names) (hs : c.id.length ≤ 100) (hs2 : c.en.id.length ≤ 100) :
    Calls Tryz.prog 15 #[v, .agg #[.int .i64 c.kind, .string (bs c.id), .string (bs c.en.id), u, .int .i64 c.at_]] w (ApR ps c w) := by
  refine (rapply_any c u ps v w h hd hn (by omega) (by omega)).mono ?_
  rintro e w' ⟨v1, ps1, rfl, hm1, ho1, hN1, hb4⟩
  obtain ⟨a1, k1, rfl⟩ := ownsRow_slice ho1
  exact ⟨a1, k1, ps1, rfl, hm1, ApplyP.lss ho1 (fun N => hN1 N) hb4 h hn (show c.en.id.length ≤ 5000 by omega), hb4⟩
theorem rat_law (ps : List (Li.Ls × Value)) (v : Value) (t : Int) (w : World) (h : LssAt w v ps) (hd : ps.length ≤ 5000) : Calls Tryz.prog 27 #[v, .int .i64 t] w (AtR ps t w) := by
  refine (rat_any ps v t w h hd).mono ?_
  rintro e w' ⟨v5, es5, rfl, he5, hE5, hb5⟩
  obtain ⟨a5, k5, e5, -⟩ := hE5.sl
  subst e5
  have h1 := congrArg List.length he5
  have h2 := at_le (ps.map Prod.fst) t
  rw [List.length_map] at h1 h2
  exact ⟨a5, k5, es5, rfl, he5, hE5.raw, by omega, hb5⟩
theorem rparse_law (s : List UInt8) (w : World) (hs : s.length ≤ 5000) : Calls Tryz.prog 21 #[.string (bs s)] w (PaR s w) := by
  refine (rparse_any s w hs).mono ?_
  rintro e w' ⟨hb, h⟩
  unfold PaR
  cases hp : Li.parse s with
  | none =>
    rw [hp] at h
    exact ⟨⟨0, [], ⟨[], []⟩, 0⟩, none, 0, 5, h, NmsIn.nil w', hb, rfl, rfl⟩
  | some c =>
    rw [hp] at h
    obtain ⟨u, l, rfl, hl, ho⟩ := h
    have hn := ho.nms
    rw [hl] at hn
    obtain ⟨a, k, rfl⟩ := hn.rin.slice
    exact ⟨c, a, k, 0, rfl, hn, hb, rfl, rfl⟩
theorem pa_same {s : List UInt8} {c c2 : Li.Ch} {n n2 : Int} (h : match Li.parse s with | some c' => n = 0 ∧ c = c' | none => n = 5 ∧ c = ⟨0, [], ⟨[], []⟩, 0⟩) (h2 : match Li.parse s with | some c' => n2 = 0 ∧ c2 = c' | none => n2 = 5 ∧ c2 = ⟨0, [], ⟨[], []⟩, 0⟩) : c2 = c ∧ n2 = n := by
  cases hp : Li.parse s with
  | none => rw [hp] at h h2; exact ⟨h2.2.trans h.2.symm, h2.1.trans h.1.symm⟩
  | some d => rw [hp] at h h2; exact ⟨h2.2.trans h.2.symm, h2.1.trans h.1.symm⟩
theorem proper_law (id : List UInt8) (ns : List Li.Nm) (v : Value) (w : World) (h : NmsIn w v ns) (hs : id.length ≤ 5000) (hT : Tabs w) : Calls Tryz.prog 22 #[.agg #[.string (bs id), v]] w (Gives (.bool (Li.proper ⟨id, ns⟩)) w) := by
  obtain ⟨l, rfl, h1⟩ := h
  exact proper_any id l v w h1 hs hT
/-- changes of whatever size that turn out short -/
theorem chs_few {w : World} {v : Value} {cs : List (Li.Ch × Value)} (h : SlOf w v 5 chC cs) (hn : ∀ p ∈ cs, NmsRin w p.2 p.1.en.names) (hf : (cs.map Prod.fst).all Li.fewCh = true) : ChsAt w v cs := by
  have hh : ∀ p ∈ cs, Li.fewCh p.1 = true := fun p hp => List.all_eq_true.1 hf p.1 (List.mem_map_of_mem hp)
  refine ⟨h, fun p hp => ?_, fun p hp => ?_⟩
  · have := hh p hp
    unfold Li.fewCh at this
    rw [Bool.and_eq_true] at this
    exact (hn p hp).few this.2
  · have := hh p hp
    unfold Li.fewCh at this
    rw [Bool.and_eq_true, decide_eq_true_eq] at this
    have h2 := few_id this.2
    exact ⟨by omega, by omega⟩

set_option maxRecDepth 100000 in
set_option maxHeartbeats 16000000 in
theorem refs_law (ps : List (Li.Ls × Value)) (v : Value) (c : Li.Ch) (u : Value) (t : Int) (cs : List (Li.Ch × Value)) (vc : Value) (s : List UInt8) (w : World) (hl : LssRaw w v ps) (hn : NmsRin w u c.en.names) (hcs : SlOf w vc 5 chC cs) (hcn : ∀ p ∈ cs, NmsRin w p.2 p.1.en.names) (hA : Tabs w) (hT : Tab10 w) :
    Calls Tryz.prog 3 #[v, .agg #[.int .i64 c.kind, .string (bs c.id), .string (bs c.en.id), u, .int .i64 c.at_], .int .i64 t, vc, .string (bs s)] w (Gives (.bool true) w) := by
  have HAA := hid hA
  have HTT := hid hT
  have HL := hid hl
  have HN := hid hn
  have HCS := hid hcs
  have HCN := hid hcn
  obtain ⟨na, nc, rfl⟩ := hn.slice
  obtain ⟨W1, hW1⟩ : ∃ W1, W1 = w.alloc (.cells #[.int .i64 c.kind, .string (bs c.id), .string (bs c.en.id), .slice na c.en.names.length nc, .int .i64 c.at_] 27) := ⟨_, rfl⟩
  have HX := hid (ChBox.new hW1)
  have HB1 := hid HX.out.below
  have HH := hid (head_true W1 (hA.below HB1.out) (hT.below HB1.out))
  obtain ⟨⟨va, cap, rfl, -, -, -⟩, -⟩ := hl
  obtain ⟨ca, cc, rfl, kc1, kc2, -⟩ := hcs
  have hcl : cs.length ≤ 9223372036854775807 := by unfold maxLen at kc2; omega
  have hsl := bs_len s
  clear hA hT hn hcn kc1 kc2
  go_enter Tryz.func3, Tryz.ntmps3
  go_upto_region 1 with (fail)
  rw [← hW1]
  clear hW1
  go_wp2_with fail
  refine (HH.out).mono ?_
  rintro e w2 ⟨rfl, hb2⟩
  have HB2 := hid (Below.step HB1.out hb2)
  have HX2 := hid (HX.out.step hb2)
  have HF := hid (lawFew_any ps _ c.kind c.id c.en.id c.en.names _ c.at_ w2 (HL.out.below HB2.out) (HN.out.below HB2.out))
  obtain ⟨c0, c1, c2, c3, c4, z1, -⟩ := HX2.out
  clear hb2 HH
  obtain ⟨fb, hfb⟩ : ∃ fb, fb = (Li.fewLs (ps.map Prod.fst) && Li.fewCh c) := ⟨_, rfl⟩
  rw [← hfb] at HF
  have HFB := hid hfb
  clear hfb
  by_cases h30 : cs.length ≤ 30
  · by_cases h2k : s.length ≤ 2000
    · have g1 : decide ((30 : Int) < (cs.length : Int)) = false := decide_eq_false (by omega)
      have g2 : decide (30 < cs.length) = false := decide_eq_false (by omega)
      have g3 : decide ((2000 : Int) < (s.length : Int)) = false := decide_eq_false (by omega)
      have g4 : decide (2000 < s.length) = false := decide_eq_false (by omega)
      have H30 := hid h30
      have H2K := hid h2k
      clear h30 h2k
      go_wp2_with fail
      refine (HF.out).mono ?_
      rintro e w3 ⟨rfl, hb3⟩
      have HB := hid (Below.step HB2.out hb3)
      have HX := hid (HX2.out.step hb3)
      clear hb3 c0 c1 c2 c3 c4 z1 HF HB2 HX2
      cases fb with
      | false =>
        go_wp2_with fail
        go_ret
        exact ⟨rfl, HB.out⟩
      | true =>
        obtain ⟨hls, hlen, hnm, hi1, hi2⟩ := few_facts (c := c) (HL.out.below HB.out) (HN.out.below HB.out) HFB.out.symm
        have HLS := hid hls
        have HNM := hid hnm
        clear hls hnm HL HFB HN
        go_wp2_with fail
        go_loopw [12] (fun iv wr => ∃ k : Nat, k ≤ cs.length ∧ iv = .int .i64 k ∧ Hid (((cs.map Prod.fst).take k).all Li.fewCh = true) ∧ Hid (Below w3.heap.size w3 wr)) (fun iv _ => cs.length - (RowKit.intOf iv).toNat)
        case atStart => exact ⟨0, Nat.zero_le _, rfl, rfl, Below.refl _ _⟩
        case round =>
          obtain ⟨k, hk, rfl, HK, HR⟩ := hrel
          have HBR := hid (Below.step HB.out HR.out)
          by_cases hlt : k < cs.length
          · obtain ⟨q, hq⟩ : ∃ q, cs[k]? = some q := ⟨_, List.getElem?_eq_getElem hlt⟩
            have hqm := List.mem_of_getElem? hq
            have hLk : (cs.map Prod.fst)[k]? = some q.1 := by rw [List.getElem?_map, hq]; rfl
            have hnm := (HCN.out q hqm).below HBR.out
            obtain ⟨ma, mc, hv⟩ := hnm.slice
            obtain ⟨g, o, rfl, hr⟩ : ∃ g o, ca = some ⟨g, o, none⟩ ∧ RowOf wr g o 5 chC cs := by
              obtain ⟨a', cap', ev, -, -, hr⟩ := HCS.out.below HBR.out
              cases ev
              exact hr (by omega)
            have hc := hr.2 k q hq
            have e0 := hc 0 _ rfl
            have e1 := hc 1 _ rfl
            have e2 := hc 2 _ rfl
            have e3 := hc 3 _ rfl
            have e4 := hc 4 _ rfl
            have hg := hr.1
            have HLK := hid hLk
            clear hc hr hq hqm hLk
            obtain ⟨⟨kd, id, ⟨eid, ns⟩, at_⟩, u⟩ := q
            simp only at hnm hv e0 e1 e2 e3 e4
            subst hv
            rw [Nat.add_zero] at e0
            have hk0 : (0 : Int) ≤ (k : Int) := by omega
            have hk1 : (k : Int) < (cs.length : Int) := by omega
            have HFC := hid (rFewC_any kd id eid ns _ at_ wr hnm)
            obtain ⟨f2, hf2⟩ : ∃ f2, f2 = Li.fewCh ⟨kd, id, ⟨eid, ns⟩, at_⟩ := ⟨_, rfl⟩
            rw [← hf2] at HFC
            have HF2 := hid hf2
            clear hnm hf2
            go_wp2_with fail
            refine (HFC.out).mono ?_
            rintro e w4 ⟨rfl, hb4⟩
            have HB4 := hid (Below.step HBR.out hb4)
            have HR4 := hid (Below.step HR.out hb4)
            clear hb4 e0 e1 e2 e3 e4 hg HFC
            cases f2 with
            | false =>
              go_wp2_with fail
              go_ret
              exact ⟨rfl, HB4.out⟩
            | true =>
              have HE := hid (allTo_step (f := Li.fewCh) HLK.out HK.out HF2.out.symm)
              go_wp2_with fail
              go_roundw
              case rel => exact ⟨k + 1, by omega, by go_num, HE, HR4⟩
              case measure => simp [RowKit.intOf]; omega
          · have hke : k = cs.length := by omega
            have hk1 : ¬ (k : Int) < (cs.length : Int) := by omega
            have HCA := hid (chs_few (HCS.out.below HBR.out) (fun p hp => (HCN.out p hp).below HBR.out) (by
              have h := HK.out
              rwa [List.take_of_length_le (by rw [List.length_map]; omega)] at h))
            replace HX := hid (HX.out.step HR.out)
            replace HLS := hid (HLS.out.below HR.out)
            replace HNM := hid (HNM.out.below HR.out)
            replace HB := hid HBR.out
            have hcs5 : cs.length ≤ 5000 := by have := H30.out; omega
            clear HR HK HBR HCS HCN hke
            have HAP := hid (apply_law c _ ps _ wr HLS.out (by omega) HNM.out hi1 hi2 (HAA.out.below HB.out) (HTT.out.below HB.out))
            obtain ⟨c0, c1, c2, c3, c4, z1, -⟩ := HX.out
            go_wp2_with fail
            refine (HAP.out).mono ?_
            rintro e w4 ⟨a1, j1, ps1, rfl, hm1, hl1, hb4⟩
            obtain ⟨n1, hn1⟩ : ∃ n1, n1 = (Li.apply (ps.map Prod.fst) c).2 := ⟨_, rfl⟩
            rw [← hn1]
            have HM1 := hid hm1
            have HN1 := hid hn1
            have HA1 := hid hl1
            clear c0 c1 c2 c3 c4 z1 HAP hm1 hl1 hn1
            replace HB := hid (Below.step HB.out hb4)
            replace HX := hid (HX.out.step hb4)
            replace HLS := hid (HLS.out.below hb4)
            replace HNM := hid (HNM.out.below hb4)
            replace HCA := hid (HCA.out.below hb4)
            clear hb4
            have HAP := hid (rapply_law c _ ps _ w4 HLS.out (by omega) HNM.out hi1 hi2)
            rw [show ApR ps c w4 = ApR ps c w4 from rfl] at HAP
            obtain ⟨c0, c1, c2, c3, c4, z1, -⟩ := HX.out
            go_wp2_with fail
            refine (HAP.out).mono ?_
            rintro e w5 ⟨a2, j2, ps2, rfl, hm2, hl2, hb5⟩
            rw [← HN1.out]
            have HM2 := hid hm2
            have HA2 := hid hl2
            clear c0 c1 c2 c3 c4 z1 HAP hm2 hl2
            replace HB := hid (Below.step HB.out hb5)
            replace HX := hid (HX.out.step hb5)
            replace HLS := hid (HLS.out.below hb5)
            replace HNM := hid (HNM.out.below hb5)
            replace HCA := hid (HCA.out.below hb5)
            replace HA1 := hid (HA1.out.below hb5)
            clear hb5
            have HRU := hid (run_any cs _ w5 HCA.out hcs5 (HAA.out.below HB.out) (HTT.out.below HB.out))
            go_wp2_with fail
            refine (HRU.out).mono ?_
            rintro e w6 ⟨rv, ru, ps3, rfl, hm3, hl3, he3, hb6⟩
            obtain ⟨E, hE⟩ : ∃ E, E = (Li.run [] (cs.map Prod.fst)).2 := ⟨_, rfl⟩
            rw [← hE] at he3
            obtain ⟨a3, j3, e3, -⟩ := hl3.sl
            subst e3
            obtain ⟨a4, j4, e4, k41, k42, -⟩ := id he3
            subst e4
            have hel : E.length ≤ 9223372036854775807 := by unfold maxLen at k42; omega
            have HM3 := hid hm3
            have HA3 := hid hl3
            have HE3 := hid he3
            have HEE := hid hE
            clear HRU hm3 hl3 he3 k41 k42 hE
            replace HB := hid (Below.step HB.out hb6)
            replace HX := hid (HX.out.step hb6)
            replace HLS := hid (HLS.out.below hb6)
            replace HNM := hid (HNM.out.below hb6)
            replace HCA := hid (HCA.out.below hb6)
            replace HA1 := hid (HA1.out.below hb6)
            replace HA2 := hid (HA2.out.below hb6)
            clear hb6
            have HRU := hid (rrun_any cs _ w6 HCA.out hcs5)
            go_wp2_with fail
            refine (HRU.out).mono ?_
            rintro e w7 ⟨rv, ru, ps4, rfl, hm4, hl4, he4, hb7⟩
            rw [← HEE.out] at he4
            obtain ⟨a5, j5, e5, -⟩ := hl4.sl
            subst e5
            obtain ⟨a6, j6, e6, -, -, -⟩ := id he4
            subst e6
            have HM4 := hid hm4
            have HA4 := hid hl4
            have HE4 := hid he4
            clear HRU hm4 hl4 he4
            replace HB := hid (Below.step HB.out hb7)
            replace HX := hid (HX.out.step hb7)
            replace HLS := hid (HLS.out.below hb7)
            replace HNM := hid (HNM.out.below hb7)
            replace HCA := hid (HCA.out.below hb7)
            replace HA1 := hid (HA1.out.below hb7)
            replace HA2 := hid (HA2.out.below hb7)
            replace HA3 := hid (HA3.out.below hb7)
            replace HE3 := hid (HE3.out.below hb7)
            clear hb7
            have HTX := hid (text_law c _ w7 HNM.out (by omega) (by omega) (HAA.out.below HB.out) (HTT.out.below HB.out))
            obtain ⟨c0, c1, c2, c3, c4, z1, -⟩ := HX.out
            go_wp2_with fail
            refine (HTX.out).mono ?_
            rintro e w8 ⟨rfl, hb8⟩
            obtain ⟨tx, htx⟩ : ∃ tx, tx = (Li.text c).getD [] := ⟨_, rfl⟩
            obtain ⟨ea, hea⟩ : ∃ ea : Int, ea = (if Li.formed c = true then 0 else 1) := ⟨_, rfl⟩
            rw [← htx, ← hea]
            have HTE := hid (And.intro htx hea)
            clear c0 c1 c2 c3 c4 z1 HTX htx hea
            replace HB := hid (Below.step HB.out hb8)
            replace HX := hid (HX.out.step hb8)
            replace HLS := hid (HLS.out.below hb8)
            replace HNM := hid (HNM.out.below hb8)
            replace HCA := hid (HCA.out.below hb8)
            replace HA1 := hid (HA1.out.below hb8)
            replace HA2 := hid (HA2.out.below hb8)
            replace HA3 := hid (HA3.out.below hb8)
            replace HE3 := hid (HE3.out.below hb8)
            replace HA4 := hid (HA4.out.below hb8)
            replace HE4 := hid (HE4.out.below hb8)
            clear hb8
            have HTX := hid (rtextC_any c _ w8 HNM.out (by omega) (by omega))
            obtain ⟨c0, c1, c2, c3, c4, z1, -⟩ := HX.out
            go_wp2_with fail
            refine (HTX.out).mono ?_
            rintro e w9 ⟨rfl, hb9⟩
            rw [← HTE.out.1, ← HTE.out.2]
            clear c0 c1 c2 c3 c4 z1 HTX
            replace HB := hid (Below.step HB.out hb9)
            replace HX := hid (HX.out.step hb9)
            replace HLS := hid (HLS.out.below hb9)
            replace HNM := hid (HNM.out.below hb9)
            replace HCA := hid (HCA.out.below hb9)
            replace HA1 := hid (HA1.out.below hb9)
            replace HA2 := hid (HA2.out.below hb9)
            replace HA3 := hid (HA3.out.below hb9)
            replace HE3 := hid (HE3.out.below hb9)
            replace HA4 := hid (HA4.out.below hb9)
            replace HE4 := hid (HE4.out.below hb9)
            clear hb9
            have HPA := hid (parse_law s w9 (by have := H2K.out; omega) (HAA.out.below HB.out) (HTT.out.below HB.out))
            go_wp2_with fail
            refine (HPA.out).mono ?_
            rintro e w10 ⟨d, pa, pk, nn, rfl, hn10, hb10, h10⟩
            have H10 := hid h10
            have HD1 := hid hn10
            clear HPA hn10 h10
            replace HB := hid (Below.step HB.out hb10)
            replace HX := hid (HX.out.step hb10)
            replace HLS := hid (HLS.out.below hb10)
            replace HNM := hid (HNM.out.below hb10)
            replace HCA := hid (HCA.out.below hb10)
            replace HA1 := hid (HA1.out.below hb10)
            replace HA2 := hid (HA2.out.below hb10)
            replace HA3 := hid (HA3.out.below hb10)
            replace HE3 := hid (HE3.out.below hb10)
            replace HA4 := hid (HA4.out.below hb10)
            replace HE4 := hid (HE4.out.below hb10)
            clear hb10
            obtain ⟨W11, hW11⟩ : ∃ W11, W11 = w10.alloc (.cells #[.int .i64 d.kind, .string (bs d.id), .string (bs d.en.id), .slice pa d.en.names.length pk, .int .i64 d.at_] 27) := ⟨_, rfl⟩
            have HY := hid (ChBox.new hW11)
            have hb11 := HY.out.below
            replace HD1 := hid (HD1.out.below hb11)
            replace HB := hid (Below.step HB.out hb11)
            replace HX := hid (HX.out.step hb11)
            replace HLS := hid (HLS.out.below hb11)
            replace HNM := hid (HNM.out.below hb11)
            replace HCA := hid (HCA.out.below hb11)
            replace HA1 := hid (HA1.out.below hb11)
            replace HA2 := hid (HA2.out.below hb11)
            replace HA3 := hid (HA3.out.below hb11)
            replace HE3 := hid (HE3.out.below hb11)
            replace HA4 := hid (HA4.out.below hb11)
            replace HE4 := hid (HE4.out.below hb11)
            clear hb11
            go_upto_region 16 with (fail)
            rw [← hW11]
            clear hW11
            have HPA := hid (rparse_law s W11 (by have := H2K.out; omega))
            go_wp2_with fail
            refine (HPA.out).mono ?_
            rintro e w12 ⟨d2, pa2, pk2, nn2, rfl, hn12, hb12, h12⟩
            obtain ⟨rfl, rfl⟩ := pa_same H10.out h12
            have HD2 := hid hn12
            clear HPA hn12 h12 H10
            replace HB := hid (Below.step HB.out hb12)
            replace HX := hid (HX.out.step hb12)
            replace HLS := hid (HLS.out.below hb12)
            replace HNM := hid (HNM.out.below hb12)
            replace HCA := hid (HCA.out.below hb12)
            replace HA1 := hid (HA1.out.below hb12)
            replace HA2 := hid (HA2.out.below hb12)
            replace HA3 := hid (HA3.out.below hb12)
            replace HE3 := hid (HE3.out.below hb12)
            replace HA4 := hid (HA4.out.below hb12)
            replace HE4 := hid (HE4.out.below hb12)
            replace HD1 := hid (HD1.out.below hb12)
            replace HY := hid (HY.out.step hb12)
            clear hb12
            obtain ⟨W13, hW13⟩ : ∃ W13, W13 = w12.alloc (.cells #[.int .i64 d2.kind, .string (bs d2.id), .string (bs d2.en.id), .slice pa2 d2.en.names.length pk2, .int .i64 d2.at_] 27) := ⟨_, rfl⟩
            have HZ := hid (ChBox.new hW13)
            have hb13 := HZ.out.below
            replace HD2 := hid (HD2.out.below hb13)
            replace HB := hid (Below.step HB.out hb13)
            replace HX := hid (HX.out.step hb13)
            replace HLS := hid (HLS.out.below hb13)
            replace HNM := hid (HNM.out.below hb13)
            replace HCA := hid (HCA.out.below hb13)
            replace HA1 := hid (HA1.out.below hb13)
            replace HA2 := hid (HA2.out.below hb13)
            replace HA3 := hid (HA3.out.below hb13)
            replace HE3 := hid (HE3.out.below hb13)
            replace HA4 := hid (HA4.out.below hb13)
            replace HE4 := hid (HE4.out.below hb13)
            replace HD1 := hid (HD1.out.below hb13)
            replace HY := hid (HY.out.step hb13)
            clear hb13
            go_upto_region 17 with (fail)
            rw [← hW13]
            clear hW13
            go_wp2_with fail
            go_loopw [29] (fun iv wr => ∃ k : Nat, k ≤ E.length ∧ iv = .int .i64 k ∧ Hid (Below W13.heap.size W13 wr)) (fun iv _ => E.length - (RowKit.intOf iv).toNat)
            case atStart => exact ⟨0, Nat.zero_le _, rfl, Below.refl _ _⟩
            case round =>
              obtain ⟨k, hk, rfl, HR⟩ := hrel
              by_cases hlt : k < E.length
              · obtain ⟨x, hx⟩ : ∃ x, E[k]? = some x := ⟨_, List.getElem?_eq_getElem hlt⟩
                obtain ⟨g, o, rfl, hg, hc⟩ := int_row (HE3.out.below HR.out) (by omega)
                obtain ⟨g2, o2, rfl, hg2, hc2⟩ := int_row (HE4.out.below HR.out) (by omega)
                have y1 := hc k x hx
                have y2 := hc2 k x hx
                have hk0 : (0 : Int) ≤ (k : Int) := by omega
                have hk1 : (k : Int) < (E.length : Int) := by omega
                clear hc hc2 hx
                go_upto_region 22 with (fail)
                refine wp_heldS (S := StillAt wr) (by kernel_rfl) ?_
                simp only [List.size_toArray, List.length_cons, List.length_nil, Nat.reduceAdd]
                intro hc
                have S0 : StillAt wr (Array.replicate 9 false) wr.drew := (Below.refl _ _).drew
                refine wpAnyS_take (i := 0) (v := .slice (some ⟨g, o, none⟩) E.length j4) rfl (by kernel_rfl) (by kernel_rfl) (by kernel_rfl) (fun _ _ _ h => h) (fun _ _ => Iff.rfl) hc (by first | rfl | simp [Region.wanted]) (fun wx hx => ?_) S0 (fun hc S0 => ?_)
                · go_simp
                try simp only [List.getElem_toArray, List.getElem_cons_zero, Act.put, List.setIfInBounds_toArray, List.set_cons_zero, List.set_cons_succ]
                refine wpAnyS_take (i := 1) (v := .int .i64 k) rfl (by kernel_rfl) (by kernel_rfl) (by kernel_rfl) (fun _ _ _ h => h) (fun _ _ => Iff.rfl) hc (by first | rfl | simp [Region.wanted]) (fun wx hx => ?_) S0 (fun hc S0 => ?_)
                · go_simp
                try simp only [List.getElem_toArray, List.getElem_cons_succ, List.getElem_cons_zero, Act.put, List.setIfInBounds_toArray, List.set_cons_zero, List.set_cons_succ]
                refine wpAnyS_take (i := 2) (v := .pointer (some ⟨g, o + k, none⟩)) rfl (by kernel_rfl) (by kernel_rfl) (by kernel_rfl) (fun _ _ _ h => h) (fun _ _ => Iff.rfl) hc (by first | rfl | simp [Region.wanted]) (fun wx hx => ?_) S0 (fun hc S0 => ?_)
                · go_simp
                try simp only [List.getElem_toArray, List.getElem_cons_succ, List.getElem_cons_zero, Act.put, List.setIfInBounds_toArray, List.set_cons_zero, List.set_cons_succ]
                refine wpAnyS_take (i := 3) (v := .int .i64 x) rfl (by kernel_rfl) (by kernel_rfl) (by kernel_rfl) (fun _ _ _ h => h) (fun _ _ => Iff.rfl) hc (by first | rfl | simp [Region.wanted]) (fun wx hx => ?_) S0 (fun hc S0 => ?_)
                · have q := (hx.still.cell (p := ⟨g, o + k, none⟩) hg).trans y1
                  go_simp
                try simp only [List.getElem_toArray, List.getElem_cons_succ, List.getElem_cons_zero, Act.put, List.setIfInBounds_toArray, List.set_cons_zero, List.set_cons_succ]
                refine wpAnyS_take (i := 4) (v := .slice (some ⟨g2, o2, none⟩) E.length j6) rfl (by kernel_rfl) (by kernel_rfl) (by kernel_rfl) (fun _ _ _ h => h) (fun _ _ => Iff.rfl) hc (by first | rfl | simp [Region.wanted]) (fun wx hx => ?_) S0 (fun hc S0 => ?_)
                · go_simp
                try simp only [List.getElem_toArray, List.getElem_cons_succ, List.getElem_cons_zero, Act.put, List.setIfInBounds_toArray, List.set_cons_zero, List.set_cons_succ]
                refine wpAnyS_take (i := 5) (v := .int .i64 k) rfl (by kernel_rfl) (by kernel_rfl) (by kernel_rfl) (fun _ _ _ h => h) (fun _ _ => Iff.rfl) hc (by first | rfl | simp [Region.wanted]) (fun wx hx => ?_) S0 (fun hc S0 => ?_)
                · go_simp
                try simp only [List.getElem_toArray, List.getElem_cons_succ, List.getElem_cons_zero, Act.put, List.setIfInBounds_toArray, List.set_cons_zero, List.set_cons_succ]
                refine wpAnyS_take (i := 6) (v := .pointer (some ⟨g2, o2 + k, none⟩)) rfl (by kernel_rfl) (by kernel_rfl) (by kernel_rfl) (fun _ _ _ h => h) (fun _ _ => Iff.rfl) hc (by first | rfl | simp [Region.wanted]) (fun wx hx => ?_) S0 (fun hc S0 => ?_)
                · go_simp
                try simp only [List.getElem_toArray, List.getElem_cons_succ, List.getElem_cons_zero, Act.put, List.setIfInBounds_toArray, List.set_cons_zero, List.set_cons_succ]
                refine wpAnyS_take (i := 7) (v := .int .i64 x) rfl (by kernel_rfl) (by kernel_rfl) (by kernel_rfl) (fun _ _ _ h => h) (fun _ _ => Iff.rfl) hc (by first | rfl | simp [Region.wanted]) (fun wx hx => ?_) S0 (fun hc S0 => ?_)
                · have q := (hx.still.cell (p := ⟨g2, o2 + k, none⟩) hg2).trans y2
                  go_simp
                try simp only [List.getElem_toArray, List.getElem_cons_succ, List.getElem_cons_zero, Act.put, List.setIfInBounds_toArray, List.set_cons_zero, List.set_cons_succ]
                refine wpAnyS_one (i := 8) rfl (by kernel_rfl) (by rfl) hc (fun K' hK => ?_)
                go_simp
                refine hK.out _ _ (Below.refl _ _).drew (fun hc => ?_)
                clear hK K'
                have S0 : StillAt wr #[] wr.drew := (Below.refl _ _).drew
                try simp only [List.getElem_toArray, List.getElem_cons_succ, List.getElem_cons_zero, Act.put, List.setIfInBounds_toArray, List.set_cons_zero, List.set_cons_succ]
                refine wpAnyS_done (by kernel_rfl) ?_ _
                clear hc S0
                have HR2 := hid (HR.out.drew)
                go_wp2_with fail
                go_roundw
                case rel => exact ⟨k + 1, by omega, by go_num, HR2⟩
                case measure => simp [RowKit.intOf]; omega
              · have hk1 : ¬ (k : Int) < (E.length : Int) := by omega
                have hbr := HR.out
                replace HB := hid (Below.step HB.out hbr)
                replace HX := hid (HX.out.step hbr)
                replace HLS := hid (HLS.out.below hbr)
                replace HNM := hid (HNM.out.below hbr)
                replace HCA := hid (HCA.out.below hbr)
                replace HA1 := hid (HA1.out.below hbr)
                replace HA2 := hid (HA2.out.below hbr)
                replace HA3 := hid (HA3.out.below hbr)
                replace HE3 := hid (HE3.out.below hbr)
                replace HA4 := hid (HA4.out.below hbr)
                replace HE4 := hid (HE4.out.below hbr)
                replace HD1 := hid (HD1.out.below hbr)
                replace HY := hid (HY.out.step hbr)
                replace HD2 := hid (HD2.out.below hbr)
                replace HZ := hid (HZ.out.step hbr)
                clear hbr HR
                obtain ⟨c0, c1, c2, c3, c4, z1, -⟩ := HX.out
                go_upto_region 24 with (fail)
                refine wp_heldS (S := StillAt wr) (by kernel_rfl) ?_
                simp only [List.size_toArray, List.length_cons, List.length_nil, Nat.reduceAdd]
                intro hc
                have S0 : StillAt wr (Array.replicate 32 false) wr.drew := (Below.refl _ _).drew
                refine wpAnyS_take (i := 0) (v := .pointer (some ⟨w.heap.size, 2, none⟩)) rfl (by kernel_rfl) (by kernel_rfl) (by kernel_rfl) (fun _ _ _ h => h) (fun _ _ => Iff.rfl) hc (by first | rfl | simp [Region.wanted]) (fun wx hx => ?_) S0 (fun hc S0 => ?_)
                · go_simp
                try simp only [List.getElem_toArray, List.getElem_cons_zero, Act.put, List.setIfInBounds_toArray, List.set_cons_zero, List.set_cons_succ]
                refine wpAnyS_take (i := 1) (v := .agg #[.string (bs c.en.id), .slice na c.en.names.length nc]) rfl (by kernel_rfl) (by kernel_rfl) (by kernel_rfl) (fun _ _ _ h => h) (fun _ _ => Iff.rfl) hc (by first | rfl | simp [Region.wanted]) (fun wx hx => ?_) S0 (fun hc S0 => ?_)
                · have q2 := (hx.still.cell (p := ⟨w.heap.size, 2, none⟩) z1).trans c2; have q3 := (hx.still.cell (p := ⟨w.heap.size, 3, none⟩) z1).trans c3
                  go_simp
                try simp only [List.getElem_toArray, List.getElem_cons_succ, List.getElem_cons_zero, Act.put, List.setIfInBounds_toArray, List.set_cons_zero, List.set_cons_succ]
                refine wpAnyS_take (i := 3) (v := .pointer (some ⟨w.heap.size, 2, none⟩)) rfl (by kernel_rfl) (by kernel_rfl) (by kernel_rfl) (fun _ _ _ h => h) (fun _ _ => Iff.rfl) hc (by first | rfl | simp [Region.wanted]) (fun wx hx => ?_) S0 (fun hc S0 => ?_)
                · go_simp
                try simp only [List.getElem_toArray, List.getElem_cons_succ, List.getElem_cons_zero, Act.put, List.setIfInBounds_toArray, List.set_cons_zero, List.set_cons_succ]
                refine wpAnyS_take (i := 4) (v := .agg #[.string (bs c.en.id), .slice na c.en.names.length nc]) rfl (by kernel_rfl) (by kernel_rfl) (by kernel_rfl) (fun _ _ _ h => h) (fun _ _ => Iff.rfl) hc (by first | rfl | simp [Region.wanted]) (fun wx hx => ?_) S0 (fun hc S0 => ?_)
                · have q2 := (hx.still.cell (p := ⟨w.heap.size, 2, none⟩) z1).trans c2; have q3 := (hx.still.cell (p := ⟨w.heap.size, 3, none⟩) z1).trans c3
                  go_simp
                try simp only [List.getElem_toArray, List.getElem_cons_succ, List.getElem_cons_zero, Act.put, List.setIfInBounds_toArray, List.set_cons_zero, List.set_cons_succ]
                have hdr : Below wr.heap.size wr wr.drew := (Below.refl _ wr).drew
                refine wpAnyS_one (i := 2) rfl (by kernel_rfl) (by rfl) hc (fun K' hK => ?_)
                go_simp
                refine (proper_law c.en.id c.en.names _ wr.drew (HNM.out.below hdr) (by omega) (HAA.out.below (Below.step HB.out hdr))).mono ?_
                rintro e x1 ⟨rfl, hy1⟩
                have hx1 : Below wr.heap.size wr x1 := Below.step hdr hy1
                refine hK.out _ _ hx1 (fun hc => ?_)
                clear hK K'
                have S0 : StillAt wr #[] x1 := hx1
                try simp only [List.getElem_toArray, List.getElem_cons_succ, List.getElem_cons_zero, Act.put, List.setIfInBounds_toArray, List.set_cons_zero, List.set_cons_succ]
                refine wpAnyS_one (i := 5) rfl (by kernel_rfl) (by rfl) hc (fun K' hK => ?_)
                go_simp
                refine (rproper_any c.en.id c.en.names _ x1 (HNM.out.below hx1) (by omega)).mono ?_
                rintro e x2 ⟨rfl, hy2⟩
                have hx2 := Below.step hx1 hy2
                refine hK.out _ _ hx2 (fun hc => ?_)
                clear hK K'
                have S0 : StillAt wr #[] x2 := hx2
                try simp only [List.getElem_toArray, List.getElem_cons_succ, List.getElem_cons_zero, Act.put, List.setIfInBounds_toArray, List.set_cons_zero, List.set_cons_succ]
                refine wpAnyS_take (i := 6) (v := .bool true) rfl (by kernel_rfl) (by kernel_rfl) (by kernel_rfl) (fun _ _ _ h => h) (fun _ _ => Iff.rfl) hc (by first | rfl | simp [Region.wanted]) (fun wx hx => ?_) S0 (fun hc S0 => ?_)
                · go_simp
                try simp only [List.getElem_toArray, List.getElem_cons_succ, List.getElem_cons_zero, Act.put, List.setIfInBounds_toArray, List.set_cons_zero, List.set_cons_succ]
                refine wpAnyS_take (i := 7) (v := .bool true) rfl (by kernel_rfl) (by kernel_rfl) (by kernel_rfl) (fun _ _ _ h => h) (fun _ _ => Iff.rfl) hc (by first | rfl | simp [Region.wanted]) (fun wx hx => ?_) S0 (fun hc S0 => ?_)
                · go_simp
                try simp only [List.getElem_toArray, List.getElem_cons_succ, List.getElem_cons_zero, Act.put, List.setIfInBounds_toArray, List.set_cons_zero, List.set_cons_succ]
                refine wpAnyS_take (i := 8) (v := .int .i64 n1) rfl (by kernel_rfl) (by kernel_rfl) (by kernel_rfl) (fun _ _ _ h => h) (fun _ _ => Iff.rfl) hc (by first | rfl | simp [Region.wanted]) (fun wx hx => ?_) S0 (fun hc S0 => ?_)
                · go_simp
                try simp only [List.getElem_toArray, List.getElem_cons_succ, List.getElem_cons_zero, Act.put, List.setIfInBounds_toArray, List.set_cons_zero, List.set_cons_succ]
                refine wpAnyS_take (i := 9) (v := .int .i64 n1) rfl (by kernel_rfl) (by kernel_rfl) (by kernel_rfl) (fun _ _ _ h => h) (fun _ _ => Iff.rfl) hc (by first | rfl | simp [Region.wanted]) (fun wx hx => ?_) S0 (fun hc S0 => ?_)
                · go_simp
                try simp only [List.getElem_toArray, List.getElem_cons_succ, List.getElem_cons_zero, Act.put, List.setIfInBounds_toArray, List.set_cons_zero, List.set_cons_succ]
                refine wpAnyS_take (i := 10) (v := .bool true) rfl (by kernel_rfl) (by kernel_rfl) (by kernel_rfl) (fun _ _ _ h => h) (fun _ _ => Iff.rfl) hc (by first | rfl | simp [Region.wanted]) (fun wx hx => ?_) S0 (fun hc S0 => ?_)
                · go_simp
                try simp only [List.getElem_toArray, List.getElem_cons_succ, List.getElem_cons_zero, Act.put, List.setIfInBounds_toArray, List.set_cons_zero, List.set_cons_succ]
                refine wpAnyS_take (i := 11) (v := .bool true) rfl (by kernel_rfl) (by kernel_rfl) (by kernel_rfl) (fun _ _ _ h => h) (fun _ _ => Iff.rfl) hc (by first | rfl | simp [Region.wanted]) (fun wx hx => ?_) S0 (fun hc S0 => ?_)
                · go_simp
                try simp only [List.getElem_toArray, List.getElem_cons_succ, List.getElem_cons_zero, Act.put, List.setIfInBounds_toArray, List.set_cons_zero, List.set_cons_succ]
                refine wpAnyS_take (i := 12) (v := .bool true) rfl (by kernel_rfl) (by kernel_rfl) (by kernel_rfl) (fun _ _ _ h => h) (fun _ _ => Iff.rfl) hc (by first | rfl | simp [Region.wanted]) (fun wx hx => ?_) S0 (fun hc S0 => ?_)
                · go_simp
                try simp only [List.getElem_toArray, List.getElem_cons_succ, List.getElem_cons_zero, Act.put, List.setIfInBounds_toArray, List.set_cons_zero, List.set_cons_succ]
                refine wpAnyS_take (i := 13) (v := .slice a1 ps1.length j1) rfl (by kernel_rfl) (by kernel_rfl) (by kernel_rfl) (fun _ _ _ h => h) (fun _ _ => Iff.rfl) hc (by first | rfl | simp [Region.wanted]) (fun wx hx => ?_) S0 (fun hc S0 => ?_)
                · go_simp
                try simp only [List.getElem_toArray, List.getElem_cons_succ, List.getElem_cons_zero, Act.put, List.setIfInBounds_toArray, List.set_cons_zero, List.set_cons_succ]
                refine wpAnyS_take (i := 14) (v := .slice a2 ps2.length j2) rfl (by kernel_rfl) (by kernel_rfl) (by kernel_rfl) (fun _ _ _ h => h) (fun _ _ => Iff.rfl) hc (by first | rfl | simp [Region.wanted]) (fun wx hx => ?_) S0 (fun hc S0 => ?_)
                · go_simp
                try simp only [List.getElem_toArray, List.getElem_cons_succ, List.getElem_cons_zero, Act.put, List.setIfInBounds_toArray, List.set_cons_zero, List.set_cons_succ]
                have HSL := hid (sameLs_law (HA1.out.below hx2) (HA2.out.below hx2))
                rw [decide_eq_true (show ps1.map Prod.fst = ps2.map Prod.fst by rw [HM1.out, HM2.out])] at HSL
                refine wpAnyS_one (i := 15) rfl (by kernel_rfl) (by rfl) hc (fun K' hK => ?_)
                go_simp
                refine (HSL.out).mono ?_
                rintro e x3 ⟨rfl, hy3⟩
                have hx3 := Below.step hx2 hy3
                refine hK.out _ _ hx3 (fun hc => ?_)
                clear hK K'
                have S0 : StillAt wr #[] x3 := hx3
                try simp only [List.getElem_toArray, List.getElem_cons_succ, List.getElem_cons_zero, Act.put, List.setIfInBounds_toArray, List.set_cons_zero, List.set_cons_succ]
                refine wpAnyS_take (i := 16) (v := .bool true) rfl (by kernel_rfl) (by kernel_rfl) (by kernel_rfl) (fun _ _ _ h => h) (fun _ _ => Iff.rfl) hc (by first | rfl | simp [Region.wanted]) (fun wx hx => ?_) S0 (fun hc S0 => ?_)
                · go_simp
                try simp only [List.getElem_toArray, List.getElem_cons_succ, List.getElem_cons_zero, Act.put, List.setIfInBounds_toArray, List.set_cons_zero, List.set_cons_succ]
                refine wpAnyS_take (i := 17) (v := .bool true) rfl (by kernel_rfl) (by kernel_rfl) (by kernel_rfl) (fun _ _ _ h => h) (fun _ _ => Iff.rfl) hc (by first | rfl | simp [Region.wanted]) (fun wx hx => ?_) S0 (fun hc S0 => ?_)
                · go_simp
                try simp only [List.getElem_toArray, List.getElem_cons_succ, List.getElem_cons_zero, Act.put, List.setIfInBounds_toArray, List.set_cons_zero, List.set_cons_succ]
                refine wpAnyS_take (i := 18) (v := .slice a3 ps3.length j3) rfl (by kernel_rfl) (by kernel_rfl) (by kernel_rfl) (fun _ _ _ h => h) (fun _ _ => Iff.rfl) hc (by first | rfl | simp [Region.wanted]) (fun wx hx => ?_) S0 (fun hc S0 => ?_)
                · go_simp
                try simp only [List.getElem_toArray, List.getElem_cons_succ, List.getElem_cons_zero, Act.put, List.setIfInBounds_toArray, List.set_cons_zero, List.set_cons_succ]
                refine wpAnyS_take (i := 19) (v := .slice a5 ps4.length j5) rfl (by kernel_rfl) (by kernel_rfl) (by kernel_rfl) (fun _ _ _ h => h) (fun _ _ => Iff.rfl) hc (by first | rfl | simp [Region.wanted]) (fun wx hx => ?_) S0 (fun hc S0 => ?_)
                · go_simp
                try simp only [List.getElem_toArray, List.getElem_cons_succ, List.getElem_cons_zero, Act.put, List.setIfInBounds_toArray, List.set_cons_zero, List.set_cons_succ]
                have HSL2 := hid (sameLs_law (HA3.out.below hx3) (HA4.out.below hx3))
                rw [decide_eq_true (show ps3.map Prod.fst = ps4.map Prod.fst by rw [HM3.out, HM4.out])] at HSL2
                refine wpAnyS_one (i := 20) rfl (by kernel_rfl) (by rfl) hc (fun K' hK => ?_)
                go_simp
                refine (HSL2.out).mono ?_
                rintro e x4 ⟨rfl, hy4⟩
                have hx4 := Below.step hx3 hy4
                refine hK.out _ _ hx4 (fun hc => ?_)
                clear hK K'
                have S0 : StillAt wr #[] x4 := hx4
                try simp only [List.getElem_toArray, List.getElem_cons_succ, List.getElem_cons_zero, Act.put, List.setIfInBounds_toArray, List.set_cons_zero, List.set_cons_succ]
                refine wpAnyS_take (i := 21) (v := .bool true) rfl (by kernel_rfl) (by kernel_rfl) (by kernel_rfl) (fun _ _ _ h => h) (fun _ _ => Iff.rfl) hc (by first | rfl | simp [Region.wanted]) (fun wx hx => ?_) S0 (fun hc S0 => ?_)
                · go_simp
                try simp only [List.getElem_toArray, List.getElem_cons_succ, List.getElem_cons_zero, Act.put, List.setIfInBounds_toArray, List.set_cons_zero, List.set_cons_succ]
                refine wpAnyS_take (i := 22) (v := .bool true) rfl (by kernel_rfl) (by kernel_rfl) (by kernel_rfl) (fun _ _ _ h => h) (fun _ _ => Iff.rfl) hc (by first | rfl | simp [Region.wanted]) (fun wx hx => ?_) S0 (fun hc S0 => ?_)
                · go_simp
                try simp only [List.getElem_toArray, List.getElem_cons_succ, List.getElem_cons_zero, Act.put, List.setIfInBounds_toArray, List.set_cons_zero, List.set_cons_succ]
                refine wpAnyS_take (i := 23) (v := .slice va ps.length cap) rfl (by kernel_rfl) (by kernel_rfl) (by kernel_rfl) (fun _ _ _ h => h) (fun _ _ => Iff.rfl) hc (by first | rfl | simp [Region.wanted]) (fun wx hx => ?_) S0 (fun hc S0 => ?_)
                · go_simp
                try simp only [List.getElem_toArray, List.getElem_cons_succ, List.getElem_cons_zero, Act.put, List.setIfInBounds_toArray, List.set_cons_zero, List.set_cons_succ]
                refine wpAnyS_take (i := 24) (v := .int .i64 t) rfl (by kernel_rfl) (by kernel_rfl) (by kernel_rfl) (fun _ _ _ h => h) (fun _ _ => Iff.rfl) hc (by first | rfl | simp [Region.wanted]) (fun wx hx => ?_) S0 (fun hc S0 => ?_)
                · go_simp
                try simp only [List.getElem_toArray, List.getElem_cons_succ, List.getElem_cons_zero, Act.put, List.setIfInBounds_toArray, List.set_cons_zero, List.set_cons_succ]
                refine wpAnyS_take (i := 26) (v := .slice va ps.length cap) rfl (by kernel_rfl) (by kernel_rfl) (by kernel_rfl) (fun _ _ _ h => h) (fun _ _ => Iff.rfl) hc (by first | rfl | simp [Region.wanted]) (fun wx hx => ?_) S0 (fun hc S0 => ?_)
                · go_simp
                try simp only [List.getElem_toArray, List.getElem_cons_succ, List.getElem_cons_zero, Act.put, List.setIfInBounds_toArray, List.set_cons_zero, List.set_cons_succ]
                refine wpAnyS_take (i := 27) (v := .int .i64 t) rfl (by kernel_rfl) (by kernel_rfl) (by kernel_rfl) (fun _ _ _ h => h) (fun _ _ => Iff.rfl) hc (by first | rfl | simp [Region.wanted]) (fun wx hx => ?_) S0 (fun hc S0 => ?_)
                · go_simp
                try simp only [List.getElem_toArray, List.getElem_cons_succ, List.getElem_cons_zero, Act.put, List.setIfInBounds_toArray, List.set_cons_zero, List.set_cons_succ]
                refine wpAnyS_one (i := 25) rfl (by kernel_rfl) (by rfl) hc (fun K' hK => ?_)
                go_simp
                refine (at_law ps _ t x4 (HLS.out.below hx4) (by omega) (HAA.out.below (Below.step HB.out hx4)) (HTT.out.below (Below.step HB.out hx4))).mono ?_
                rintro e x5 ⟨b5, k5, es5, rfl, he5, hE5, hle5, hy5⟩
                have hx5 := Below.step hx4 hy5
                refine hK.out _ _ hx5 (fun hc => ?_)
                clear hK K'
                have S0 : StillAt wr #[] x5 := hx5
                try simp only [List.getElem_toArray, List.getElem_cons_succ, List.getElem_cons_zero, Act.put, List.setIfInBounds_toArray, List.set_cons_zero, List.set_cons_succ]
                refine wpAnyS_one (i := 28) rfl (by kernel_rfl) (by rfl) hc (fun K' hK => ?_)
                go_simp
                refine (rat_law ps _ t x5 (HLS.out.below hx5) (by omega)).mono ?_
                rintro e x6 ⟨b6, k6, es6, rfl, he6, hE6, hle6, hy6⟩
                have hx6 := Below.step hx5 hy6
                refine hK.out _ _ hx6 (fun hc => ?_)
                clear hK K'
                have S0 : StillAt wr #[] x6 := hx6
                try simp only [List.getElem_toArray, List.getElem_cons_succ, List.getElem_cons_zero, Act.put, List.setIfInBounds_toArray, List.set_cons_zero, List.set_cons_succ]
                refine wpAnyS_one (i := 29) rfl (by kernel_rfl) (by rfl) hc (fun K' hK => ?_)
                go_simp
                have HSA := hid (sameEs_law (hE5.below hy6) hE6)
                rw [decide_eq_true (show es5.map Prod.fst = es6.map Prod.fst by rw [he5, he6])] at HSA
                refine (HSA.out).mono ?_
                rintro e x7 ⟨rfl, hy7⟩
                have hx7 := Below.step hx6 hy7
                refine hK.out _ _ hx7 (fun hc => ?_)
                clear hK K'
                have S0 : StillAt wr #[] x7 := hx7
                try simp only [List.getElem_toArray, List.getElem_cons_succ, List.getElem_cons_zero, Act.put, List.setIfInBounds_toArray, List.set_cons_zero, List.set_cons_succ]
                refine wpAnyS_take (i := 30) (v := .bool true) rfl (by kernel_rfl) (by kernel_rfl) (by kernel_rfl) (fun _ _ _ h => h) (fun _ _ => Iff.rfl) hc (by first | rfl | simp [Region.wanted]) (fun wx hx => ?_) S0 (fun hc S0 => ?_)
                · go_simp
                try simp only [List.getElem_toArray, List.getElem_cons_succ, List.getElem_cons_zero, Act.put, List.setIfInBounds_toArray, List.set_cons_zero, List.set_cons_succ]
                refine wpAnyS_one (i := 31) rfl (by kernel_rfl) (by rfl) hc (fun K' hK => ?_)
                go_simp
                refine hK.out _ _ hx7 (fun hc => ?_)
                clear hK K'
                have S0 : StillAt wr #[] x7 := hx7
                try simp only [List.getElem_toArray, List.getElem_cons_succ, List.getElem_cons_zero, Act.put, List.setIfInBounds_toArray, List.set_cons_zero, List.set_cons_succ]
                refine wpAnyS_done (by kernel_rfl) ?_ _
                clear hc S0
                have HY7 := hid (HY.out.step hx7)
                have HZ7 := hid (HZ.out.step hx7)
                have HB7 := hid (Below.step HB.out hx7)
                have HSC := hid (sameC_law d2 d2 _ _ x7 (HD1.out.below hx7).rin (HD2.out.below hx7).rin)
                rw [decide_eq_true (rfl : d2 = d2)] at HSC
                clear c0 c1 c2 c3 c4 z1 hx1 hx2 hx3 hx4 hx5 hx6 hx7 hy1 hy2 hy3 hy4 hy5 hy6 hy7 hdr he5 hE5 he6 hE6 hle5 hle6
                obtain ⟨c0, c1, c2, c3, c4, z1, -⟩ := HY7.out
                obtain ⟨d0, d1, d2', d3, d4, z2, -⟩ := HZ7.out
                go_wp2_with fail
                refine (HSC.out).mono ?_
                rintro e x8 ⟨rfl, hy8⟩
                have HB8 := hid (Below.step HB7.out hy8)
                clear hy8
                go_wp2_with fail
                go_ret
                exact ⟨rfl, HB8.out⟩
    · have g3 : decide ((2000 : Int) < (s.length : Int)) = true := decide_eq_true (by omega)
      have g4 : decide (2000 < s.length) = true := decide_eq_true (by omega)
      have g1 : decide ((30 : Int) < (cs.length : Int)) = false := decide_eq_false (by omega)
      have g2 : decide (30 < cs.length) = false := decide_eq_false (by omega)
      clear HFB
      cases fb with
      | false =>
        go_wp2_with fail
        refine (HF.out).mono ?_
        rintro e w3 ⟨rfl, hb3⟩
        have HB := hid (Below.step HB2.out hb3)
        go_wp2_with fail
        go_ret
        exact ⟨rfl, HB.out⟩
      | true =>
        go_wp2_with fail
        refine (HF.out).mono ?_
        rintro e w3 ⟨rfl, hb3⟩
        have HB := hid (Below.step HB2.out hb3)
        go_wp2_with fail
        go_ret
        exact ⟨rfl, HB.out⟩
  · have g1 : decide ((30 : Int) < (cs.length : Int)) = true := decide_eq_true (by omega)
    have g2 : decide (30 < cs.length) = true := decide_eq_true (by omega)
    clear HFB
    cases fb with
    | false =>
      go_wp2_with fail
      refine (HF.out).mono ?_
      rintro e w3 ⟨rfl, hb3⟩
      have HB := hid (Below.step HB2.out hb3)
      go_wp2_with fail
      go_ret
      exact ⟨rfl, HB.out⟩
    | true =>
      go_wp2_with fail
      refine (HF.out).mono ?_
      rintro e w3 ⟨rfl, hb3⟩
      have HB := hid (Below.step HB2.out hb3)
      go_wp2_with fail
      go_ret
      exact ⟨rfl, HB.out⟩

end Go.Proofs.YtidkmhokolknbaaGreatDoor
