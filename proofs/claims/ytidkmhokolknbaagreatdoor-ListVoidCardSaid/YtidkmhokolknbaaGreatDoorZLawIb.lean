/-
  ListVoid: the law holds. Conditions: the library's tables.
-/
import Derived.Test.YtidkmhokolknbaaGreatDoorZLawIb0
namespace Go.Proofs.YtidkmhokolknbaaGreatDoor
open Go.RowKit Go.Lib Go.Maps

theorem NmsRin.nil (w : World) : NmsRin w (.slice none 0 0) [] := ⟨[], rfl, SlOf.nil _ _ _, fun p hp => by cases hp⟩

set_option maxRecDepth 100000 in
set_option maxHeartbeats 4000000 in
theorem void_law (ps : List (Li.Ls × Value)) (v : Value) (id : List UInt8) (t : Int) (w : World) (hl : LssRaw w v ps) (hA : Tabs w) (hT : Tab10 w) :
    Calls Tryz.prog 5 #[v, .string (bs id), .int .i64 t] w (Gives (.bool true) w) := by
  have HAA := hid hA
  have HTT := hid hT
  have HL := hid hl
  have HH := hid (head_true w hA hT)
  obtain ⟨⟨va, cap, rfl, -, -, -⟩, -⟩ := hl
  clear hA hT
  go_enter Tryz.func5, Tryz.ntmps5
  go_wp2_with fail
  refine (HH.out).mono ?_
  rintro e w1 ⟨rfl, hb1⟩
  obtain ⟨w2, hW2⟩ : ∃ w2, w2 = w1.alloc (.cells #[.int .i64 4, .string (bs id), .string ⟨#[]⟩, .slice none 0 0, .int .i64 0] 27) := ⟨_, rfl⟩
  have HX2 := hid (ChBox.new (eid := []) hW2)
  have HB2 := hid (Below.step hb1 HX2.out.below)
  have HF : Hid (Calls Tryz.prog 12 #[.slice va ps.length cap, .agg #[.int .i64 4, .string (bs id), .string ⟨#[]⟩, .slice none 0 0, .int .i64 0]] w2 (Gives (.bool (Li.fewLs (ps.map Prod.fst) && Li.fewCh (Li.voidCh id))) w2)) := lawFew_any ps _ 4 id [] [] (.slice none 0 0) 0 w2 (HL.out.below HB2.out) (NmsRin.nil _)
  obtain ⟨c0, c1, c2, c3, c4, z1, -⟩ := HX2.out
  clear hb1
  obtain ⟨fb, hfb⟩ : ∃ fb, fb = (Li.fewLs (ps.map Prod.fst) && Li.fewCh (Li.voidCh id)) := ⟨_, rfl⟩
  rw [← hfb] at HF
  have HFB := hid hfb
  clear hfb
  rw [show bs [] = ⟨#[]⟩ from rfl] at c2
  go_upto_region 3 with (fail)
  rw [← hW2]
  clear hW2
  go_wp2_with fail
  refine (HF.out).mono ?_
  rintro e w3 ⟨rfl, hb3⟩
  have HB3 := hid (Below.step HB2.out hb3)
  have HX3 := hid (HX2.out.step hb3)
  clear hb3 c0 c1 c2 c3 c4 z1
  cases fb with
  | false =>
    go_wp2_with fail
    go_ret
    exact ⟨rfl, HB3.out⟩
  | true =>
    obtain ⟨hls, hlen, -, hi1, -⟩ := few_facts (c := Li.voidCh id) (HL.out.below HB3.out) (u := .slice none 0 0) (NmsRin.nil _) HFB.out.symm
    have hi1' : id.length ≤ 100 := hi1
    have HLS := hid hls
    have HAP : Hid (Calls Tryz.prog 14 #[.slice va ps.length cap, .agg #[.int .i64 4, .string (bs id), .string ⟨#[]⟩, .slice none 0 0, .int .i64 0]] w3 (ApplyP ps (.slice none 0 0) (Li.voidCh id) w3)) := apply_any 4 id [] [] (.slice none 0 0) 0 ps _ w3 hls (by omega) (NmsIn.nil _) (by omega) (by simp) (HAA.out.below HB3.out) (HTT.out.below HB3.out)
    obtain ⟨c0, c1, c2, c3, c4, z1, -⟩ := HX3.out
    rw [show bs [] = ⟨#[]⟩ from rfl] at c2
    clear hls hi1
    go_wp2_with fail
    refine (HAP.out).mono ?_
    rintro e w4 ⟨v1, ps1, rfl, hm1, ho1, hN1, hb4⟩
    obtain ⟨a1, k1, rfl⟩ := ownsRow_slice ho1
    obtain ⟨n1, hn1⟩ : ∃ n1, n1 = (Li.apply (ps.map Prod.fst) (Li.voidCh id)).2 := ⟨_, rfl⟩
    rw [← hn1]
    have HB4 := hid (Below.step HB3.out hb4)
    have H1 := hid (And.intro hm1 hn1)
    have HL1 := hid (ApplyP.lss ho1 (fun N => hN1 N) hb4 HLS.out (NmsIn.nil _) (by simp [Li.voidCh]))
    have HL4 := hid (HLS.out.below hb4)
    clear hb4 hm1 ho1 hN1 hn1 c0 c1 c2 c3 c4 z1
    by_cases h0 : n1 = 0
    · have hnb : (n1 != 0) = false := by rw [h0]; rfl
      have HOK := hid (show (Li.apply (ps.map Prod.fst) (Li.voidCh id)).2 = 0 by rw [← H1.out.2]; exact h0)
      have HA1 := hid (listAt_any ps1 _ t w4 HL1.out (apply_short H1.out.1 HOK.out) (HAA.out.below HB4.out) (HTT.out.below HB4.out))
      have HLW := hid (Li.law_void HOK.out t)
      clear h0
      go_wp2_with fail
      refine (HA1.out).mono ?_
      rintro e w5 ⟨v5, es5, rfl, he5, hE5, hb5⟩
      obtain ⟨a5, k5, e5, -⟩ := _root_.id hE5.sl
      subst e5
      have HB5 := hid (Below.step HB4.out hb5)
      have HA2 := hid (listAt_any ps _ t w5 (HL4.out.below hb5) (by omega) (HAA.out.below HB5.out) (HTT.out.below HB5.out))
      have H5 := hid (And.intro he5 hE5)
      clear he5 hE5 hb5
      go_wp2_with fail
      refine (HA2.out).mono ?_
      rintro e w6 ⟨v6, es6, rfl, he6, hE6, hb6⟩
      obtain ⟨a6, k6, e6, -⟩ := _root_.id hE6.sl
      subst e6
      have hle6 : es6.length ≤ 5000 := by
        have := congrArg List.length he6
        rw [List.length_map] at this
        have h2 : (Li.at_ (ps.map Prod.fst) t).length ≤ ps.length := by
          unfold Li.at_
          split
          · rw [List.length_map]
            exact Nat.le_trans (List.length_filter_le _ _) (by rw [List.length_map]; exact Nat.le_refl _)
          · simp
        omega
      have HB6 := hid (Below.step HB5.out hb6)
      have HW := hid (without_any es6 _ id w6 hE6.raw hle6)
      have H6 := hid he6
      have HE5 := hid (H5.out.2.raw.below hb6)
      clear he6 hE6 hb6 hle6
      go_wp2_with fail
      refine (HW.out).mono ?_
      rintro e w7 ⟨a7, k7, rfl, hE7, hb7⟩
      have HB7 := hid (Below.step HB6.out hb7)
      have hE57 := HE5.out.below hb7
      have HSA := hid (sameEs_any es5 (wo id es6) _ _ w7 hE57.sl hE7.sl hE57.nm hE7.nm)
      rw [decide_eq_true (show es5.map Prod.fst = (wo id es6).map Prod.fst by rw [wo_fst, H5.out.1, H6.out, H1.out.1]; exact HLW.out)] at HSA
      clear hE7 hb7 hE57
      go_wp2_with fail
      refine (HSA.out).mono ?_
      rintro e w8 ⟨rfl, hb8⟩
      have HB8 := hid (Below.step HB7.out hb8)
      clear hb8
      go_wp2_with fail
      go_ret
      exact ⟨rfl, HB8.out⟩
    · have hnb : (n1 != 0) = true := by rw [bne_iff_ne]; exact h0
      clear h0
      go_wp2_with fail
      go_ret
      exact ⟨rfl, HB4.out⟩

end Go.Proofs.YtidkmhokolknbaaGreatDoor
