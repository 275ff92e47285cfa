/-
  ListOnce: the law holds. Conditions: the library's tables.
-/
import Derived.Test.YtidkmhokolknbaaGreatDoorZLiH
import Derived.Test.YtidkmhokolknbaaGreatDoorZMLiS
import Derived.Test.YtidkmhokolknbaaGreatDoorZMLiP
namespace Go.Proofs.YtidkmhokolknbaaGreatDoor
open Go.RowKit Go.Lib Go.Maps

theorem NmsIn.rin {w : World} {v : Value} {ns : List Li.Nm} (h : NmsIn w v ns) : NmsRin w v ns := by
  obtain ⟨l, h1, h2⟩ := h
  exact ⟨l, h1, h2.sl, h2.at_⟩
/-- what is known of few arguments -/
theorem few_facts {w : World} {v u : Value} {ps : List (Li.Ls × Value)} {c : Li.Ch} (h : LssRaw w v ps) (hn : NmsRin w u c.en.names) (hf : (Li.fewLs (ps.map Prod.fst) && Li.fewCh c) = true) :
    LssAt w v ps ∧ ps.length ≤ 20 ∧ NmsIn w u c.en.names ∧ c.id.length ≤ 100 ∧ c.en.id.length ≤ 100 := by
  rw [Bool.and_eq_true] at hf
  obtain ⟨h1, h2⟩ := hf
  obtain ⟨a, b⟩ := h.few h1
  unfold Li.fewCh at h2
  rw [Bool.and_eq_true, decide_eq_true_eq] at h2
  exact ⟨a, b, hn.few h2.2, h2.1, few_id h2.2⟩
/-- a proper list is short -/
theorem apply_short {ps ps' : List (Li.Ls × Value)} {c : Li.Ch} (h : ps'.map Prod.fst = (Li.apply (ps.map Prod.fst) c).1) (h0 : (Li.apply (ps.map Prod.fst) c).2 = 0) : ps'.length ≤ 5000 := by
  have := (Li.properL_parts (Li.apply_proper h0)).2.2
  rw [← h, List.length_map] at this
  omega

set_option maxRecDepth 100000 in
set_option maxHeartbeats 4000000 in
theorem once_law (ps : List (Li.Ls × Value)) (v : Value) (kd : Int) (id eid : List UInt8) (ns : List Li.Nm) (u : Value) (at_ : Int) (w : World) (hl : LssRaw w v ps) (hn : NmsRin w u ns) (hA : Tabs w) (hT : Tab10 w) :
    Calls Tryz.prog 9 #[v, .agg #[.int .i64 kd, .string (bs id), .string (bs eid), u, .int .i64 at_]] w (Gives (.bool true) w) := by
  have HAA := hid hA
  have HTT := hid hT
  have HL := hid hl
  have HN := hid hn
  obtain ⟨na, nc, rfl⟩ := hn.slice
  obtain ⟨W1, hW1⟩ : ∃ W1, W1 = w.alloc (.cells #[.int .i64 kd, .string (bs id), .string (bs eid), .slice na ns.length nc, .int .i64 at_] 27) := ⟨_, rfl⟩
  have HX := hid (ChBox.new hW1)
  have HB1 := hid HX.out.below
  have HH := hid (head_true W1 (hA.below HB1.out) (hT.below HB1.out))
  obtain ⟨⟨va, cap, rfl, -, -, -⟩, -⟩ := hl
  obtain ⟨c, hcc⟩ : ∃ c, c = (⟨kd, id, ⟨eid, ns⟩, at_⟩ : Li.Ch) := ⟨_, rfl⟩
  have HC := hid hcc
  have hckd : c.kind = kd := by rw [hcc]
  clear hA hT hn hcc
  go_enter Tryz.func9, Tryz.ntmps9
  go_upto_region 1 with (fail)
  rw [← hW1]
  clear hW1
  go_wp2_with fail
  refine (HH.out).mono ?_
  rintro e w2 ⟨rfl, hb2⟩
  have HB2 := hid (Below.step HB1.out hb2)
  have HX2 := hid (HX.out.step hb2)
  have HF := hid (lawFew_any ps _ kd id eid ns _ at_ w2 (HL.out.below HB2.out) (HN.out.below HB2.out))
  rw [← HC.out] at HF
  obtain ⟨c0, c1, c2, c3, c4, z1, -⟩ := HX2.out
  clear hb2
  obtain ⟨fb, hfb⟩ : ∃ fb, fb = (Li.fewLs (ps.map Prod.fst) && Li.fewCh c) := ⟨_, rfl⟩
  rw [← hfb] at HF
  have HFB := hid hfb
  clear hfb
  go_wp2_with fail
  refine (HF.out).mono ?_
  rintro e w3 ⟨rfl, hb3⟩
  have HB3 := hid (Below.step HB2.out hb3)
  have HX3 := hid (HX2.out.step hb3)
  clear hb3 c0 c1 c2 c3 c4 z1
  cases fb with
  | false =>
    go_wp2_with fail
    go_ret
    exact ⟨rfl, HB3.out⟩
  | true =>
    obtain ⟨hls, hlen, hnm, hi1, hi2⟩ := few_facts (c := c) (HL.out.below HB3.out) (u := .slice na ns.length nc) (by rw [HC.out]; exact HN.out.below HB3.out) HFB.out.symm
    rw [HC.out] at hnm hi1 hi2
    simp only at hnm hi1 hi2
    have HLS := hid hls
    have HNM := hid hnm
    have HAP := hid (apply_any kd id eid ns _ at_ ps _ w3 hls (by omega) hnm (by omega) (by omega) (HAA.out.below HB3.out) (HTT.out.below HB3.out))
    rw [← HC.out] at HAP
    obtain ⟨c0, c1, c2, c3, c4, z1, -⟩ := HX3.out
    clear hls hnm
    go_wp2_with fail
    refine (HAP.out).mono ?_
    rintro e w4 ⟨v1, ps1, rfl, hm1, ho1, hN1, hb4⟩
    obtain ⟨a1, k1, rfl⟩ := ownsRow_slice ho1
    obtain ⟨n1, hn1⟩ : ∃ n1, n1 = (Li.apply (ps.map Prod.fst) c).2 := ⟨_, rfl⟩
    rw [← hn1]
    have HB4 := hid (Below.step HB3.out hb4)
    have HX4 := hid (HX3.out.step hb4)
    have H1 := hid (And.intro hm1 hn1)
    have HL1 := hid (ApplyP.lss ho1 (fun N => hN1 N) hb4 HLS.out (by rw [HC.out]; exact HNM.out) (by rw [HC.out]; show eid.length ≤ 5000; omega))
    have HN4 := hid (HNM.out.below hb4)
    clear hb4 hm1 ho1 hN1 hn1 c0 c1 c2 c3 c4 z1
    obtain ⟨c0, c1, c2, c3, c4, z1, -⟩ := HX4.out
    by_cases h0 : n1 = 0
    · have hnb : (n1 != 0) = false := by rw [h0]; rfl
      have HOK := hid (show (Li.apply (ps.map Prod.fst) c).2 = 0 by rw [← H1.out.2]; exact h0)
      have HAP2 := hid (apply_any kd id eid ns _ at_ ps1 _ w4 HL1.out (apply_short H1.out.1 HOK.out) HN4.out (by omega) (by omega) (HAA.out.below HB4.out) (HTT.out.below HB4.out))
      rw [← HC.out] at HAP2
      have hlw := Li.law_once HOK.out
      rw [← H1.out.1] at hlw
      have HLW := hid hlw
      clear h0 hlw
      go_wp2_with fail
      refine (HAP2.out).mono ?_
      rintro e w5 ⟨v2, ps2, rfl, hm2, ho2, hN2, hb5⟩
      obtain ⟨a2, k2, rfl⟩ := ownsRow_slice ho2
      obtain ⟨n2, hn2⟩ : ∃ n2, n2 = (Li.apply (ps1.map Prod.fst) c).2 := ⟨_, rfl⟩
      rw [← hn2]
      have HB5 := hid (Below.step HB4.out hb5)
      have HX5 := hid (HX4.out.step hb5)
      have H2 := hid (And.intro hm2 hn2)
      have HL2 := hid (ApplyP.lss ho2 (fun N => hN2 N) hb5 HL1.out (by rw [HC.out]; exact HN4.out) (by rw [HC.out]; show eid.length ≤ 5000; omega))
      have HL15 := hid (HL1.out.below hb5)
      clear hb5 hm2 ho2 hN2 hn2 c0 c1 c2 c3 c4 z1
      obtain ⟨c0, c1, c2, c3, c4, z1, -⟩ := HX5.out
      by_cases hk3 : kd = 3
      · have k3 : (kd == 3) = true := by rw [hk3]; rfl
        have hl3 := HLW.out.1 (by rw [hckd]; exact hk3)
        have hnb2 : (n2 == 0) = true := by rw [H2.out.2, hl3.1]; rfl
        have HSA := hid (sameLs_any ps1 ps2 _ _ w5 HL15.out.sl HL2.out.sl (fun p hp => (HL15.out.nm p hp).rin) (fun p hp => (HL2.out.nm p hp).rin))
        rw [decide_eq_true (show ps1.map Prod.fst = ps2.map Prod.fst by rw [H2.out.1, hl3.2])] at HSA
        clear hk3 hl3
        go_wp2_with fail
        refine (HSA.out).mono ?_
        rintro e w6 ⟨rfl, hb6⟩
        have HB6 := hid (Below.step HB5.out hb6)
        clear hb6
        go_wp2_with fail
        go_ret
        exact ⟨rfl, HB6.out⟩
      · have k3 : (kd == 3) = false := by rw [beq_eq_false_iff_ne]; exact hk3
        have hl3 := HLW.out.2 (by rw [hckd]; exact hk3)
        have hnb2 : (n2 != 0) = true := by rw [bne_iff_ne, H2.out.2]; exact hl3.1
        have hz2 : ps2.length = 0 := by
          have := congrArg List.length H2.out.1
          rw [hl3.2, List.length_map] at this
          exact this
        have hzb : ((ps2.length : Int) == 0) = true := by rw [hz2]; rfl
        clear hk3 hl3 hz2
        go_wp2_with fail
        go_ret
        exact ⟨rfl, HB5.out⟩
    · have hnb : (n1 != 0) = true := by rw [bne_iff_ne]; exact h0
      clear h0
      go_wp2_with fail
      go_ret
      exact ⟨rfl, HB4.out⟩

end Go.Proofs.YtidkmhokolknbaaGreatDoor
