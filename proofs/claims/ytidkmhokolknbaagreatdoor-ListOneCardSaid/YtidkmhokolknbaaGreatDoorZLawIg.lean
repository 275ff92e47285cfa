/-
  ListOne: the law holds. Conditions: the library's tables.
-/
import Derived.Test.YtidkmhokolknbaaGreatDoorZLawIx
import Derived.Test.YtidkmhokolknbaaGreatDoorZMLiB
namespace Li
theorem apply_err {l : List Ls} {c : Ch} (h : (apply l c).2 ≠ 0) : (apply l c).1 = [] := by
  unfold apply at h ⊢
  split at h
  · rename_i h1
    rw [if_pos h1]
    split at h
    · rename_i h2
      rw [if_pos h2]
      split at h
      · rfl
      · split at h
        · rename_i h4; rw [if_pos h4]
        · exact absurd rfl h
    · rename_i h2
      rw [if_neg h2]
      split at h
      · rfl
      · split at h
        · rfl
        · split at h
          · rename_i h5; rw [if_pos h5]
          · exact absurd rfl h
  · rename_i h1
    rw [if_neg h1]
/-- how many elements have an Id -/
def cnt (id : List UInt8) (l : List Ls) : Nat := (l.filter fun y => decide (y.en.id = id)).length
theorem cnt_step {id : List UInt8} {l : List Ls} {k : Nat} {y : Ls} (h : l[k]? = some y) : cnt id (l.take (k + 1)) = cnt id (l.take k) + if y.en.id = id then 1 else 0 := by
  unfold cnt
  have ht : l.take (k + 1) = l.take k ++ [y] := by rw [List.take_add_one, h]; rfl
  rw [ht, List.filter_append, List.length_append]
  by_cases hy : y.en.id = id
  · simp [hy]
  · simp [hy]
theorem cnt_le (id : List UInt8) (l : List Ls) : cnt id l ≤ l.length := List.length_filter_le _ _
end Li
namespace Go.Proofs.YtidkmhokolknbaaGreatDoor
open Go.RowKit Go.Lib Go.Maps

set_option maxRecDepth 100000 in
set_option maxHeartbeats 8000000 in
theorem one_law (ps : List (Li.Ls × Value)) (v : Value) (c : Li.Ch) (u : Value) (w : World) (hl : LssRaw w v ps) (hn : NmsRin w u c.en.names) (hA : Tabs w) (hT : Tab10 w) :
    Calls Tryz.prog 4 #[v, .agg #[.int .i64 c.kind, .string (bs c.id), .string (bs c.en.id), u, .int .i64 c.at_]] w (Gives (.bool true) w) := by
  have HAA := hid hA
  have HTT := hid hT
  have HL := hid hl
  have HN := hid hn
  obtain ⟨na, nc, rfl⟩ := hn.slice
  obtain ⟨W1, hW1⟩ : ∃ W1, W1 = w.alloc (.cells #[.int .i64 c.kind, .string (bs c.id), .string (bs c.en.id), .slice na c.en.names.length nc, .int .i64 c.at_] 27) := ⟨_, rfl⟩
  have HX := hid (ChBox.new hW1)
  have HB1 := hid HX.out.below
  have HH := hid (head_true W1 (hA.below HB1.out) (hT.below HB1.out))
  obtain ⟨⟨va, cap, rfl, -, -, -⟩, -⟩ := hl
  clear hA hT hn
  go_enter Tryz.func4, Tryz.ntmps4
  go_upto_region 1 with (fail)
  rw [← hW1]
  clear hW1
  go_wp2_with fail
  refine (HH.out).mono ?_
  rintro e w2 ⟨rfl, hb2⟩
  have HB2 := hid (Below.step HB1.out hb2)
  have HX2 := hid (HX.out.step hb2)
  have HF := hid (lawFew_any ps _ c.kind c.id c.en.id c.en.names _ c.at_ w2 (HL.out.below HB2.out) (HN.out.below HB2.out))
  obtain ⟨c0, c1, c2, c3, c4, z1, -⟩ := HX2.out
  clear hb2
  obtain ⟨fb, hfb⟩ : ∃ fb, fb = (Li.fewLs (ps.map Prod.fst) && Li.fewCh c) := ⟨_, rfl⟩
  rw [← hfb] at HF
  have HFB := hid hfb
  clear hfb
  go_wp2_with fail
  refine (HF.out).mono ?_
  rintro e w3 ⟨rfl, hb3⟩
  have HB3 := hid (Below.step HB2.out hb3)
  have HX3 := hid (HX2.out.step hb3)
  clear hb3 c0 c1 c2 c3 c4 z1
  cases fb with
  | false =>
    go_wp2_with fail
    go_ret
    exact ⟨rfl, HB3.out⟩
  | true =>
    obtain ⟨hls, hlen, hnm, hi1, hi2⟩ := few_facts (c := c) (HL.out.below HB3.out) (HN.out.below HB3.out) HFB.out.symm
    have HLS := hid hls
    have HNM := hid hnm
    have HAP := hid (apply_law c _ ps _ w3 hls (by omega) hnm hi1 hi2 (HAA.out.below HB3.out) (HTT.out.below HB3.out))
    obtain ⟨c0, c1, c2, c3, c4, z1, -⟩ := HX3.out
    clear hls hnm
    go_wp2_with fail
    refine (HAP.out).mono ?_
    rintro e w4 ⟨a1, j1, ps1, rfl, hm1, hl1, hb4⟩
    obtain ⟨n1, hn1⟩ : ∃ n1, n1 = (Li.apply (ps.map Prod.fst) c).2 := ⟨_, rfl⟩
    rw [← hn1]
    have HB4 := hid (Below.step HB3.out hb4)
    have HX4 := hid (HX3.out.step hb4)
    have HLS4 := hid (HLS.out.below hb4)
    have HNM4 := hid (HNM.out.below hb4)
    have H1 := hid (And.intro hm1 hn1)
    have HL1 := hid hl1
    clear hb4 hm1 hn1 hl1 c0 c1 c2 c3 c4 z1
    by_cases h10 : n1 = 0
    · have hnb : (n1 != 0) = false := by rw [h10]; rfl
      have HO1 := hid (show (Li.apply (ps.map Prod.fst) c).2 = 0 by rw [← H1.out.2]; exact h10)
      have hlw := Li.law_one HO1.out
      rw [← H1.out.1] at hlw
      have HLW := hid hlw
      have hs1 := hlw.1
      rw [List.length_map, List.length_map] at hs1
      have hsh := apply_short H1.out.1 HO1.out
      have HVP : Hid (∀ W f, W = f → Below w4.heap.size w4 W → Calls Tryz.prog 14 #[.slice a1 ps1.length j1, .agg #[.int .i64 4, .string (bs c.id), .string ⟨#[]⟩, .slice none 0 0, .int .i64 0]] W (ApR ps1 (Li.voidCh c.id) W)) :=
        fun W _ _ hW => apply_law (Li.voidCh c.id) (.slice none 0 0) ps1 _ W (HL1.out.below hW) hsh (NmsIn.nil _) (show c.id.length ≤ 100 by omega) (by simp [Li.voidCh]) (HAA.out.below (Below.step HB4.out hW)) (HTT.out.below (Below.step HB4.out hW))
      obtain ⟨kb, hkb⟩ : ∃ kb, kb = (c.kind == 1) := ⟨_, rfl⟩
      have g1 := hkb.symm
      have HKB := hid hkb
      obtain ⟨c0, c1, c2, c3, c4, z1, -⟩ := HX4.out
      clear h10 hlw hkb
      have hsz : (ps1.length : Int) = (ps.length : Int) + (if kb = true then 1 else 0) := by
        rw [hs1, HKB.out]
        by_cases h : c.kind = 1
        · simp [h]
        · simp [h]
      cases kb with
      | true =>
        have hne : ((ps1.length : Int) != (ps.length : Int) + 1) = false := by rw [bne_eq_false_iff_eq]; simpa using hsz
        clear hs1 hsz
        go_wp2_with fail
        go_loopw [9, 10] (fun fv iv wr => ∃ k : Nat, k ≤ ps1.length ∧ iv = .int .i64 k ∧ fv = .int .i64 (Li.cnt c.id ((ps1.map Prod.fst).take k)) ∧ Hid (Below w4.heap.size w4 wr)) (fun _ iv _ => ps1.length - (RowKit.intOf iv).toNat)
        case atStart => exact ⟨0, Nat.zero_le _, rfl, rfl, Below.refl _ _⟩
        case round =>
          obtain ⟨k, hk, rfl, rfl, HR⟩ := hrel
          have HXR := hid (HX4.out.step HR.out)
          by_cases hlt : k < ps1.length
          · obtain ⟨y, hy⟩ : ∃ y, ps1[k]? = some y := ⟨_, List.getElem?_eq_getElem hlt⟩
            obtain ⟨g6, o6, rfl, hr6⟩ : ∃ g o, a1 = some ⟨g, o, none⟩ ∧ RowOf wr g o 5 lsC ps1 := by
              obtain ⟨a', cap', ev, -, -, hr⟩ := (HL1.out.below HR.out).sl
              cases ev
              exact hr (by omega)
            have HQ6 := hid ((HL1.out.below HR.out).nm y (List.mem_of_getElem? hy)).rin
            have hyf : (ps1.map Prod.fst)[k]? = some y.1 := by rw [List.getElem?_map, hy]; rfl
            have HST := hid (Li.cnt_step (id := c.id) hyf)
            have HL2 := hid (HLW.out.2.1 k y.1 hyf)
            have HL3 := hid (HLW.out.2.2.1 k y.1 hyf)
            have hcn := Li.cnt_le c.id ((ps1.map Prod.fst).take k)
            rw [List.length_take] at hcn
            have hc6 := hr6.2 k _ hy
            have e60 := hc6 0 _ rfl
            have e61 := hc6 1 _ rfl
            have e62 := hc6 2 _ rfl
            have e63 := hc6 3 _ rfl
            have e64 := hc6 4 _ rfl
            have hz6 := hr6.1
            clear hc6 hr6 hy hyf
            obtain ⟨⟨⟨i6, n6⟩, f6, t6, b6⟩, u6⟩ := y
            obtain ⟨xa, xc, hu6⟩ := HQ6.out.slice
            simp only at hu6 e60 e61 e62 e63 e64 HST HL2 HL3
            subst hu6
            rw [Nat.add_zero] at e60
            have hk0 : (0 : Int) ≤ (k : Int) := by omega
            have hk1 : (k : Int) < (ps1.length : Int) := by omega
            have hnb := name_beq i6 c.id
            obtain ⟨qb, hqb⟩ : ∃ qb, qb = decide (i6 = c.id) := ⟨_, rfl⟩
            rw [← hqb] at hnb
            have HQB := hid hqb
            obtain ⟨cn, hcnn⟩ : ∃ cn, cn = Li.cnt c.id ((ps1.map Prod.fst).take k) := ⟨_, rfl⟩
            rw [← hcnn] at hcn HST ⊢
            have HCN := hid hcnn
            have hcn2 : cn ≤ 5000 := by omega
            obtain ⟨d0, d1, d2, d3, d4, z1, -⟩ := HXR.out
            clear hqb hcnn hcn c0 c1 c2 c3 c4
            go_wp2_with fail
            refine wp_heldS (S := StillAt wr) (by kernel_rfl) ?_
            simp only [List.size_toArray, List.length_cons, List.length_nil, Nat.reduceAdd]
            intro hc
            have S0 : StillAt wr (Array.replicate 9 false) wr.drew := (Below.refl _ _).drew
            refine wpAnyS_take (i := 0) (v := .slice (some ⟨g6, o6, none⟩) ps1.length j1) rfl (by kernel_rfl) (by kernel_rfl) (by kernel_rfl) (fun _ _ _ h => h) (fun _ _ => Iff.rfl) hc (by first | rfl | simp [Region.wanted]) (fun wx hx => ?_) S0 (fun hc S0 => ?_)
            · go_simp
            try simp only [List.getElem_toArray, List.getElem_cons_zero, Act.put, List.setIfInBounds_toArray, List.set_cons_zero, List.set_cons_succ]
            refine wpAnyS_take (i := 1) (v := .int .i64 k) rfl (by kernel_rfl) (by kernel_rfl) (by kernel_rfl) (fun _ _ _ h => h) (fun _ _ => Iff.rfl) hc (by first | rfl | simp [Region.wanted]) (fun wx hx => ?_) S0 (fun hc S0 => ?_)
            · go_simp
            try simp only [List.getElem_toArray, List.getElem_cons_succ, List.getElem_cons_zero, Act.put, List.setIfInBounds_toArray, List.set_cons_zero, List.set_cons_succ]
            refine wpAnyS_take (i := 2) (v := .pointer (some ⟨g6, o6 + k * 5, none⟩)) rfl (by kernel_rfl) (by kernel_rfl) (by kernel_rfl) (fun _ _ _ h => h) (fun _ _ => Iff.rfl) hc (by first | rfl | simp [Region.wanted]) (fun wx hx => ?_) S0 (fun hc S0 => ?_)
            · go_simp
            try simp only [List.getElem_toArray, List.getElem_cons_succ, List.getElem_cons_zero, Act.put, List.setIfInBounds_toArray, List.set_cons_zero, List.set_cons_succ]
            refine wpAnyS_take (i := 3) (v := .pointer (some ⟨g6, o6 + k * 5, none⟩)) rfl (by kernel_rfl) (by kernel_rfl) (by kernel_rfl) (fun _ _ _ h => h) (fun _ _ => Iff.rfl) hc (by first | rfl | simp [Region.wanted]) (fun wx hx => ?_) S0 (fun hc S0 => ?_)
            · go_simp
            try simp only [List.getElem_toArray, List.getElem_cons_succ, List.getElem_cons_zero, Act.put, List.setIfInBounds_toArray, List.set_cons_zero, List.set_cons_succ]
            refine wpAnyS_take (i := 4) (v := .pointer (some ⟨g6, o6 + k * 5, none⟩)) rfl (by kernel_rfl) (by kernel_rfl) (by kernel_rfl) (fun _ _ _ h => h) (fun _ _ => Iff.rfl) hc (by first | rfl | simp [Region.wanted]) (fun wx hx => ?_) S0 (fun hc S0 => ?_)
            · go_simp
            try simp only [List.getElem_toArray, List.getElem_cons_succ, List.getElem_cons_zero, Act.put, List.setIfInBounds_toArray, List.set_cons_zero, List.set_cons_succ]
            refine wpAnyS_take (i := 5) (v := .string (bs i6)) rfl (by kernel_rfl) (by kernel_rfl) (by kernel_rfl) (fun _ _ _ h => h) (fun _ _ => Iff.rfl) hc (by first | rfl | simp [Region.wanted]) (fun wx hx => ?_) S0 (fun hc S0 => ?_)
            · have g := (hx.still.cell (p := ⟨g6, o6 + k * 5, none⟩) hz6).trans e60
              go_simp
            try simp only [List.getElem_toArray, List.getElem_cons_succ, List.getElem_cons_zero, Act.put, List.setIfInBounds_toArray, List.set_cons_zero, List.set_cons_succ]
            refine wpAnyS_take (i := 6) (v := .pointer (some ⟨w.heap.size, 1, none⟩)) rfl (by kernel_rfl) (by kernel_rfl) (by kernel_rfl) (fun _ _ _ h => h) (fun _ _ => Iff.rfl) hc (by first | rfl | simp [Region.wanted]) (fun wx hx => ?_) S0 (fun hc S0 => ?_)
            · go_simp
            try simp only [List.getElem_toArray, List.getElem_cons_succ, List.getElem_cons_zero, Act.put, List.setIfInBounds_toArray, List.set_cons_zero, List.set_cons_succ]
            refine wpAnyS_take (i := 7) (v := .string (bs c.id)) rfl (by kernel_rfl) (by kernel_rfl) (by kernel_rfl) (fun _ _ _ h => h) (fun _ _ => Iff.rfl) hc (by first | rfl | simp [Region.wanted]) (fun wx hx => ?_) S0 (fun hc S0 => ?_)
            · have g := (hx.still.cell (p := ⟨w.heap.size, 1, none⟩) z1).trans d1
              go_simp
            try simp only [List.getElem_toArray, List.getElem_cons_succ, List.getElem_cons_zero, Act.put, List.setIfInBounds_toArray, List.set_cons_zero, List.set_cons_succ]
            refine wpAnyS_one (i := 8) rfl (by kernel_rfl) (by rfl) hc (fun K' hK => ?_)
            go_simp
            refine hK.out _ _ (Below.refl _ _).drew (fun hc => ?_)
            clear hK K'
            have S0 : StillAt wr #[] wr.drew := (Below.refl _ _).drew
            try simp only [List.getElem_toArray, List.getElem_cons_succ, List.getElem_cons_zero, Act.put, List.setIfInBounds_toArray, List.set_cons_zero, List.set_cons_succ]
            refine wpAnyS_done (by kernel_rfl) ?_ _
            clear hc S0
            obtain ⟨wA, hwA⟩ : ∃ wA, wA = wr.drew := ⟨_, rfl⟩
            rw [← hwA]
            have HRA := hid (show Below wr.heap.size wr wA by rw [hwA]; exact (Below.refl _ _).drew)
            have hzA := Nat.lt_of_lt_of_le hz6 HRA.out.size
            have hzC := Nat.lt_of_lt_of_le z1 HRA.out.size
            have e60' := (HRA.out.cell (p := ⟨g6, o6 + k * 5, none⟩) hz6).trans e60
            have e61' := (HRA.out.cell (p := ⟨g6, o6 + k * 5 + 1, none⟩) hz6).trans e61
            have e62' := (HRA.out.cell (p := ⟨g6, o6 + k * 5 + 2, none⟩) hz6).trans e62
            have e63' := (HRA.out.cell (p := ⟨g6, o6 + k * 5 + 3, none⟩) hz6).trans e63
            have e64' := (HRA.out.cell (p := ⟨g6, o6 + k * 5 + 4, none⟩) hz6).trans e64
            have d0' := (HRA.out.cell (p := ⟨w.heap.size, 0, none⟩) z1).trans d0
            have d2' := (HRA.out.cell (p := ⟨w.heap.size, 2, none⟩) z1).trans d2
            have d3' := (HRA.out.cell (p := ⟨w.heap.size, 3, none⟩) z1).trans d3
            have HBA := hid (Below.step HR.out HRA.out)
            clear hwA e60 e61 e62 e63 e64 d0 d1 d2 d3 d4 z1 hz6
            cases qb with
            | true =>
              have hid_ : i6 = c.id := of_decide_eq_true HQB.out.symm
              have HFN := hid (show Li.cnt c.id ((ps1.map Prod.fst).take (k + 1)) = cn + 1 by rw [HST.out, if_pos hid_])
              have HL4 := hid (HL2.out hid_)
              clear hid_
              go_upto_region 18 with (fail)
              have hk1' := HL4.out (beq_iff_eq.1 g1)
              have hkl : k = ps.length := by have := hk1'.1; rw [List.length_map] at this; exact this
              have hkn : ((k : Int) != (ps.length : Int)) = false := by rw [hkl]; simp
              have HSE := hid (show Calls Tryz.prog 29 #[.agg #[.string (bs i6), .slice xa n6.length xc], .agg #[.string (bs c.en.id), .slice na c.en.names.length nc]] wA.drew (Gives (.bool true) wA.drew) by
                have h := sameE_any i6 c.en.id n6 c.en.names (.slice xa n6.length xc) (.slice na c.en.names.length nc) wA.drew (HQ6.out.below HRA.out.drew) ((HNM4.out.below HBA.out).rin.below (Below.refl wA.heap.size wA).drew)
                rw [decide_eq_true (show (⟨i6, n6⟩ : Li.En) = ⟨c.en.id, c.en.names⟩ from hk1'.2)] at h
                exact h)
              clear hk1' hkl
              refine wp_heldS (S := StillAt wA) (by kernel_rfl) ?_
              simp only [List.size_toArray, List.length_cons, List.length_nil, Nat.reduceAdd]
              intro hc
              have S0 : StillAt wA (Array.replicate 20 false) wA.drew := (Below.refl _ _).drew
              refine wpAnyS_take (i := 0) (v := .pointer (some ⟨w.heap.size, 0, none⟩)) rfl (by kernel_rfl) (by kernel_rfl) (by kernel_rfl) (fun _ _ _ h => h) (fun _ _ => Iff.rfl) hc (by first | rfl | simp [Region.wanted]) (fun wx hx => ?_) S0 (fun hc S0 => ?_)
              · go_simp
              try simp only [List.getElem_toArray, List.getElem_cons_zero, Act.put, List.setIfInBounds_toArray, List.set_cons_zero, List.set_cons_succ]
              refine wpAnyS_take (i := 1) (v := .int .i64 c.kind) rfl (by kernel_rfl) (by kernel_rfl) (by kernel_rfl) (fun _ _ _ h => h) (fun _ _ => Iff.rfl) hc (by first | rfl | simp [Region.wanted]) (fun wx hx => ?_) S0 (fun hc S0 => ?_)
              · have g := (hx.still.cell (p := ⟨w.heap.size, 0, none⟩) hzC).trans d0'
                go_simp
              try simp only [List.getElem_toArray, List.getElem_cons_succ, List.getElem_cons_zero, Act.put, List.setIfInBounds_toArray, List.set_cons_zero, List.set_cons_succ]
              refine wpAnyS_take (i := 2) (v := .bool true) rfl (by kernel_rfl) (by kernel_rfl) (by kernel_rfl) (fun _ _ _ h => h) (fun _ _ => Iff.rfl) hc (by first | rfl | simp [Region.wanted]) (fun wx hx => ?_) S0 (fun hc S0 => ?_)
              · go_simp
              try simp only [List.getElem_toArray, List.getElem_cons_succ, List.getElem_cons_zero, Act.put, List.setIfInBounds_toArray, List.set_cons_zero, List.set_cons_succ]
              refine wpAnyS_take (i := 3) (v := .bool true) rfl (by kernel_rfl) (by kernel_rfl) (by kernel_rfl) (fun _ _ _ h => h) (fun _ _ => Iff.rfl) hc (by first | rfl | simp [Region.wanted]) (fun wx hx => ?_) S0 (fun hc S0 => ?_)
              · go_simp
              try simp only [List.getElem_toArray, List.getElem_cons_succ, List.getElem_cons_zero, Act.put, List.setIfInBounds_toArray, List.set_cons_zero, List.set_cons_succ]
              refine wpAnyS_take (i := 4) (v := .int .i64 k) rfl (by kernel_rfl) (by kernel_rfl) (by kernel_rfl) (fun _ _ _ h => h) (fun _ _ => Iff.rfl) hc (by first | rfl | simp [Region.wanted]) (fun wx hx => ?_) S0 (fun hc S0 => ?_)
              · go_simp
              try simp only [List.getElem_toArray, List.getElem_cons_succ, List.getElem_cons_zero, Act.put, List.setIfInBounds_toArray, List.set_cons_zero, List.set_cons_succ]
              refine wpAnyS_take (i := 5) (v := .slice va ps.length cap) rfl (by kernel_rfl) (by kernel_rfl) (by kernel_rfl) (fun _ _ _ h => h) (fun _ _ => Iff.rfl) hc (by first | rfl | simp [Region.wanted]) (fun wx hx => ?_) S0 (fun hc S0 => ?_)
              · go_simp
              try simp only [List.getElem_toArray, List.getElem_cons_succ, List.getElem_cons_zero, Act.put, List.setIfInBounds_toArray, List.set_cons_zero, List.set_cons_succ]
              refine wpAnyS_take (i := 6) (v := .int .i64 ps.length) rfl (by kernel_rfl) (by kernel_rfl) (by kernel_rfl) (fun _ _ _ h => h) (fun _ _ => Iff.rfl) hc (by first | rfl | simp [Region.wanted]) (fun wx hx => ?_) S0 (fun hc S0 => ?_)
              · go_simp
              try simp only [List.getElem_toArray, List.getElem_cons_succ, List.getElem_cons_zero, Act.put, List.setIfInBounds_toArray, List.set_cons_zero, List.set_cons_succ]
              refine wpAnyS_take (i := 7) (v := .bool false) rfl (by kernel_rfl) (by kernel_rfl) (by kernel_rfl) (fun _ _ _ h => h) (fun _ _ => Iff.rfl) hc (by first | rfl | simp [Region.wanted]) (fun wx hx => ?_) S0 (fun hc S0 => ?_)
              · go_simp
              try simp only [List.getElem_toArray, List.getElem_cons_succ, List.getElem_cons_zero, Act.put, List.setIfInBounds_toArray, List.set_cons_zero, List.set_cons_succ]
              refine wpAnyS_take (i := 8) (v := .bool false) rfl (by kernel_rfl) (by kernel_rfl) (by kernel_rfl) (fun _ _ _ h => h) (fun _ _ => Iff.rfl) hc (by first | rfl | simp [Region.wanted]) (fun wx hx => ?_) S0 (fun hc S0 => ?_)
              · go_simp
              try simp only [List.getElem_toArray, List.getElem_cons_succ, List.getElem_cons_zero, Act.put, List.setIfInBounds_toArray, List.set_cons_zero, List.set_cons_succ]
              refine wpAnyS_take (i := 9) (v := .slice (some ⟨g6, o6, none⟩) ps1.length j1) rfl (by kernel_rfl) (by kernel_rfl) (by kernel_rfl) (fun _ _ _ h => h) (fun _ _ => Iff.rfl) hc (by first | rfl | simp [Region.wanted]) (fun wx hx => ?_) S0 (fun hc S0 => ?_)
              · go_simp
              try simp only [List.getElem_toArray, List.getElem_cons_succ, List.getElem_cons_zero, Act.put, List.setIfInBounds_toArray, List.set_cons_zero, List.set_cons_succ]
              refine wpAnyS_take (i := 10) (v := .int .i64 k) rfl (by kernel_rfl) (by kernel_rfl) (by kernel_rfl) (fun _ _ _ h => h) (fun _ _ => Iff.rfl) hc (by first | rfl | simp [Region.wanted]) (fun wx hx => ?_) S0 (fun hc S0 => ?_)
              · go_simp
              try simp only [List.getElem_toArray, List.getElem_cons_succ, List.getElem_cons_zero, Act.put, List.setIfInBounds_toArray, List.set_cons_zero, List.set_cons_succ]
              refine wpAnyS_take (i := 11) (v := .pointer (some ⟨g6, o6 + k * 5, none⟩)) rfl (by kernel_rfl) (by kernel_rfl) (by kernel_rfl) (fun _ _ _ h => h) (fun _ _ => Iff.rfl) hc (by first | rfl | simp [Region.wanted]) (fun wx hx => ?_) S0 (fun hc S0 => ?_)
              · go_simp
              try simp only [List.getElem_toArray, List.getElem_cons_succ, List.getElem_cons_zero, Act.put, List.setIfInBounds_toArray, List.set_cons_zero, List.set_cons_succ]
              refine wpAnyS_take (i := 12) (v := .pointer (some ⟨g6, o6 + k * 5, none⟩)) rfl (by kernel_rfl) (by kernel_rfl) (by kernel_rfl) (fun _ _ _ h => h) (fun _ _ => Iff.rfl) hc (by first | rfl | simp [Region.wanted]) (fun wx hx => ?_) S0 (fun hc S0 => ?_)
              · go_simp
              try simp only [List.getElem_toArray, List.getElem_cons_succ, List.getElem_cons_zero, Act.put, List.setIfInBounds_toArray, List.set_cons_zero, List.set_cons_succ]
              refine wpAnyS_take (i := 13) (v := .agg #[.string (bs i6), .slice xa n6.length xc]) rfl (by kernel_rfl) (by kernel_rfl) (by kernel_rfl) (fun _ _ _ h => h) (fun _ _ => Iff.rfl) hc (by first | rfl | simp [Region.wanted]) (fun wx hx => ?_) S0 (fun hc S0 => ?_)
              · have g := (hx.still.cell (p := ⟨g6, o6 + k * 5, none⟩) hzA).trans e60'; have g' := (hx.still.cell (p := ⟨g6, o6 + k * 5 + 1, none⟩) hzA).trans e61'
                go_simp
              try simp only [List.getElem_toArray, List.getElem_cons_succ, List.getElem_cons_zero, Act.put, List.setIfInBounds_toArray, List.set_cons_zero, List.set_cons_succ]
              refine wpAnyS_take (i := 14) (v := .pointer (some ⟨w.heap.size, 2, none⟩)) rfl (by kernel_rfl) (by kernel_rfl) (by kernel_rfl) (fun _ _ _ h => h) (fun _ _ => Iff.rfl) hc (by first | rfl | simp [Region.wanted]) (fun wx hx => ?_) S0 (fun hc S0 => ?_)
              · go_simp
              try simp only [List.getElem_toArray, List.getElem_cons_succ, List.getElem_cons_zero, Act.put, List.setIfInBounds_toArray, List.set_cons_zero, List.set_cons_succ]
              refine wpAnyS_take (i := 15) (v := .agg #[.string (bs c.en.id), .slice na c.en.names.length nc]) rfl (by kernel_rfl) (by kernel_rfl) (by kernel_rfl) (fun _ _ _ h => h) (fun _ _ => Iff.rfl) hc (by first | rfl | simp [Region.wanted]) (fun wx hx => ?_) S0 (fun hc S0 => ?_)
              · have g := (hx.still.cell (p := ⟨w.heap.size, 2, none⟩) hzC).trans d2'; have g' := (hx.still.cell (p := ⟨w.heap.size, 3, none⟩) hzC).trans d3'
                go_simp
              try simp only [List.getElem_toArray, List.getElem_cons_succ, List.getElem_cons_zero, Act.put, List.setIfInBounds_toArray, List.set_cons_zero, List.set_cons_succ]
              refine wpAnyS_one (i := 16) rfl (by kernel_rfl) (by rfl) hc (fun K' hK => ?_)
              go_simp
              refine (HSE.out).mono ?_
              rintro e w9 ⟨rfl, hb9'⟩
              have hb9 : Below wA.heap.size wA w9 := Below.step (Below.refl wA.heap.size wA).drew hb9'
              refine hK.out _ _ hb9 (fun hc => ?_)
              clear hK K'
              have S0 : StillAt wA #[] w9 := hb9
              try simp only [List.getElem_toArray, List.getElem_cons_succ, List.getElem_cons_zero, Act.put, List.setIfInBounds_toArray, List.set_cons_zero, List.set_cons_succ]
              refine wpAnyS_take (i := 17) (v := .bool false) rfl (by kernel_rfl) (by kernel_rfl) (by kernel_rfl) (fun _ _ _ h => h) (fun _ _ => Iff.rfl) hc (by first | rfl | simp [Region.wanted]) (fun wx hx => ?_) S0 (fun hc S0 => ?_)
              · go_simp
              try simp only [List.getElem_toArray, List.getElem_cons_succ, List.getElem_cons_zero, Act.put, List.setIfInBounds_toArray, List.set_cons_zero, List.set_cons_succ]
              refine wpAnyS_take (i := 18) (v := .bool false) rfl (by kernel_rfl) (by kernel_rfl) (by kernel_rfl) (fun _ _ _ h => h) (fun _ _ => Iff.rfl) hc (by first | rfl | simp [Region.wanted]) (fun wx hx => ?_) S0 (fun hc S0 => ?_)
              · go_simp
              try simp only [List.getElem_toArray, List.getElem_cons_succ, List.getElem_cons_zero, Act.put, List.setIfInBounds_toArray, List.set_cons_zero, List.set_cons_succ]
              refine wpAnyS_one (i := 19) rfl (by kernel_rfl) (by rfl) hc (fun K' hK => ?_)
              go_simp
              refine hK.out _ _ hb9 (fun hc => ?_)
              clear hK K'
              have S0 : StillAt wA #[] w9 := hb9
              try simp only [List.getElem_toArray, List.getElem_cons_succ, List.getElem_cons_zero, Act.put, List.setIfInBounds_toArray, List.set_cons_zero, List.set_cons_succ]
              refine wpAnyS_done (by kernel_rfl) ?_ _
              clear hc S0
              have HB9 := hid (Below.step HBA.out hb9)
              clear hb9 hb9'
              go_wp2_with fail
              go_roundw
              case rel => exact ⟨k + 1, by omega, by go_num, by rw [HFN.out]; go_num, HB9.out⟩
              case measure => simp [RowKit.intOf]; omega
            | false =>
              have hid_ : ¬ i6 = c.id := of_decide_eq_false HQB.out.symm
              have HFN := hid (show Li.cnt c.id ((ps1.map Prod.fst).take (k + 1)) = cn by rw [HST.out, if_neg hid_]; omega)
              have hl4 := HL3.out hid_
              have hkl : k < ps.length := by have := hl4.1; rw [List.length_map] at this; exact this
              obtain ⟨z, hz⟩ : ∃ z, ps[k]? = some z := ⟨_, List.getElem?_eq_getElem hkl⟩
              have hz2 : z.1 = ⟨⟨i6, n6⟩, f6, t6, b6⟩ := by
                have h := hl4.2
                rw [List.getElem?_map, hz] at h
                exact Option.some.inj h
              obtain ⟨g7, o7, rfl, hr7⟩ : ∃ g o, va = some ⟨g, o, none⟩ ∧ RowOf wA g o 5 lsC ps := by
                obtain ⟨a', cap', ev, -, -, hr⟩ := (HLS4.out.below HBA.out).sl
                cases ev
                exact hr (by omega)
              have HQ7 := hid ((HLS4.out.below HBA.out).nm z (List.mem_of_getElem? hz)).rin
              have hc7 := hr7.2 k _ hz
              have e70 := hc7 0 _ rfl
              have e71 := hc7 1 _ rfl
              have e72 := hc7 2 _ rfl
              have e73 := hc7 3 _ rfl
              have e74 := hc7 4 _ rfl
              have hz7 := hr7.1
              obtain ⟨z1, u7⟩ := z
              simp only at hz2
              subst hz2
              obtain ⟨ya, yc, hu7⟩ := HQ7.out.slice
              simp only at hu7 e70 e71 e72 e73 e74
              subst hu7
              rw [Nat.add_zero] at e70
              have hk2 : (k : Int) < (ps.length : Int) := by omega
              have hge : decide ((ps.length : Int) ≤ (k : Int)) = false := decide_eq_false (by omega)
              have hge2 : ¬ (ps.length ≤ k) := by omega
              clear hc7 hr7 hz hl4 hid_ hkl
              have HSL := hid (show Calls Tryz.prog 30 #[.agg #[.string (bs i6), .slice xa n6.length xc, .int .i64 f6, .int .i64 t6, .bool b6], .agg #[.string (bs i6), .slice ya n6.length yc, .int .i64 f6, .int .i64 t6, .bool b6]] wA.drew (Gives (.bool true) wA.drew) by
                have h := sameL_any i6 i6 n6 n6 (.slice xa n6.length xc) (.slice ya n6.length yc) f6 f6 t6 t6 b6 b6 wA.drew (HQ6.out.below HRA.out.drew) (HQ7.out.below (Below.refl wA.heap.size wA).drew)
                rw [decide_eq_true rfl] at h
                exact h)
              go_wp2_with fail
              refine wp_heldS (S := StillAt wA) (by kernel_rfl) ?_
              simp only [List.size_toArray, List.length_cons, List.length_nil, Nat.reduceAdd]
              intro hc
              have S0 : StillAt wA (Array.replicate 16 false) wA.drew := (Below.refl _ _).drew
              refine wpAnyS_take (i := 0) (v := .int .i64 k) rfl (by kernel_rfl) (by kernel_rfl) (by kernel_rfl) (fun _ _ _ h => h) (fun _ _ => Iff.rfl) hc (by first | rfl | simp [Region.wanted]) (fun wx hx => ?_) S0 (fun hc S0 => ?_)
              · go_simp
              try simp only [List.getElem_toArray, List.getElem_cons_zero, Act.put, List.setIfInBounds_toArray, List.set_cons_zero, List.set_cons_succ]
              refine wpAnyS_take (i := 1) (v := .slice (some ⟨g7, o7, none⟩) ps.length cap) rfl (by kernel_rfl) (by kernel_rfl) (by kernel_rfl) (fun _ _ _ h => h) (fun _ _ => Iff.rfl) hc (by first | rfl | simp [Region.wanted]) (fun wx hx => ?_) S0 (fun hc S0 => ?_)
              · go_simp
              try simp only [List.getElem_toArray, List.getElem_cons_succ, List.getElem_cons_zero, Act.put, List.setIfInBounds_toArray, List.set_cons_zero, List.set_cons_succ]
              refine wpAnyS_take (i := 2) (v := .int .i64 ps.length) rfl (by kernel_rfl) (by kernel_rfl) (by kernel_rfl) (fun _ _ _ h => h) (fun _ _ => Iff.rfl) hc (by first | rfl | simp [Region.wanted]) (fun wx hx => ?_) S0 (fun hc S0 => ?_)
              · go_simp
              try simp only [List.getElem_toArray, List.getElem_cons_succ, List.getElem_cons_zero, Act.put, List.setIfInBounds_toArray, List.set_cons_zero, List.set_cons_succ]
              refine wpAnyS_take (i := 3) (v := .bool false) rfl (by kernel_rfl) (by kernel_rfl) (by kernel_rfl) (fun _ _ _ h => h) (fun _ _ => Iff.rfl) hc (by first | rfl | simp [Region.wanted]) (fun wx hx => ?_) S0 (fun hc S0 => ?_)
              · go_simp
              try simp only [List.getElem_toArray, List.getElem_cons_succ, List.getElem_cons_zero, Act.put, List.setIfInBounds_toArray, List.set_cons_zero, List.set_cons_succ]
              refine wpAnyS_take (i := 4) (v := .bool false) rfl (by kernel_rfl) (by kernel_rfl) (by kernel_rfl) (fun _ _ _ h => h) (fun _ _ => Iff.rfl) hc (by first | rfl | simp [Region.wanted]) (fun wx hx => ?_) S0 (fun hc S0 => ?_)
              · go_simp
              try simp only [List.getElem_toArray, List.getElem_cons_succ, List.getElem_cons_zero, Act.put, List.setIfInBounds_toArray, List.set_cons_zero, List.set_cons_succ]
              refine wpAnyS_take (i := 5) (v := .slice (some ⟨g6, o6, none⟩) ps1.length j1) rfl (by kernel_rfl) (by kernel_rfl) (by kernel_rfl) (fun _ _ _ h => h) (fun _ _ => Iff.rfl) hc (by first | rfl | simp [Region.wanted]) (fun wx hx => ?_) S0 (fun hc S0 => ?_)
              · go_simp
              try simp only [List.getElem_toArray, List.getElem_cons_succ, List.getElem_cons_zero, Act.put, List.setIfInBounds_toArray, List.set_cons_zero, List.set_cons_succ]
              refine wpAnyS_take (i := 6) (v := .int .i64 k) rfl (by kernel_rfl) (by kernel_rfl) (by kernel_rfl) (fun _ _ _ h => h) (fun _ _ => Iff.rfl) hc (by first | rfl | simp [Region.wanted]) (fun wx hx => ?_) S0 (fun hc S0 => ?_)
              · go_simp
              try simp only [List.getElem_toArray, List.getElem_cons_succ, List.getElem_cons_zero, Act.put, List.setIfInBounds_toArray, List.set_cons_zero, List.set_cons_succ]
              refine wpAnyS_take (i := 7) (v := .pointer (some ⟨g6, o6 + k * 5, none⟩)) rfl (by kernel_rfl) (by kernel_rfl) (by kernel_rfl) (fun _ _ _ h => h) (fun _ _ => Iff.rfl) hc (by first | rfl | simp [Region.wanted]) (fun wx hx => ?_) S0 (fun hc S0 => ?_)
              · go_simp
              try simp only [List.getElem_toArray, List.getElem_cons_succ, List.getElem_cons_zero, Act.put, List.setIfInBounds_toArray, List.set_cons_zero, List.set_cons_succ]
              refine wpAnyS_take (i := 8) (v := .agg #[.string (bs i6), .slice xa n6.length xc, .int .i64 f6, .int .i64 t6, .bool b6]) rfl (by kernel_rfl) (by kernel_rfl) (by kernel_rfl) (fun _ _ _ h => h) (fun _ _ => Iff.rfl) hc (by first | rfl | simp [Region.wanted]) (fun wx hx => ?_) S0 (fun hc S0 => ?_)
              · have g := (hx.still.cell (p := ⟨g6, o6 + k * 5, none⟩) hzA).trans e60'; have g1 := (hx.still.cell (p := ⟨g6, o6 + k * 5 + 1, none⟩) hzA).trans e61'; have g2 := (hx.still.cell (p := ⟨g6, o6 + k * 5 + 2, none⟩) hzA).trans e62'; have g3 := (hx.still.cell (p := ⟨g6, o6 + k * 5 + 3, none⟩) hzA).trans e63'; have g4 := (hx.still.cell (p := ⟨g6, o6 + k * 5 + 4, none⟩) hzA).trans e64'
                go_simp
              try simp only [List.getElem_toArray, List.getElem_cons_succ, List.getElem_cons_zero, Act.put, List.setIfInBounds_toArray, List.set_cons_zero, List.set_cons_succ]
              refine wpAnyS_take (i := 9) (v := .slice (some ⟨g7, o7, none⟩) ps.length cap) rfl (by kernel_rfl) (by kernel_rfl) (by kernel_rfl) (fun _ _ _ h => h) (fun _ _ => Iff.rfl) hc (by first | rfl | simp [Region.wanted]) (fun wx hx => ?_) S0 (fun hc S0 => ?_)
              · go_simp
              try simp only [List.getElem_toArray, List.getElem_cons_succ, List.getElem_cons_zero, Act.put, List.setIfInBounds_toArray, List.set_cons_zero, List.set_cons_succ]
              refine wpAnyS_take (i := 10) (v := .int .i64 k) rfl (by kernel_rfl) (by kernel_rfl) (by kernel_rfl) (fun _ _ _ h => h) (fun _ _ => Iff.rfl) hc (by first | rfl | simp [Region.wanted]) (fun wx hx => ?_) S0 (fun hc S0 => ?_)
              · go_simp
              try simp only [List.getElem_toArray, List.getElem_cons_succ, List.getElem_cons_zero, Act.put, List.setIfInBounds_toArray, List.set_cons_zero, List.set_cons_succ]
              refine wpAnyS_take (i := 11) (v := .pointer (some ⟨g7, o7 + k * 5, none⟩)) rfl (by kernel_rfl) (by kernel_rfl) (by kernel_rfl) (fun _ _ _ h => h) (fun _ _ => Iff.rfl) hc (by first | rfl | simp [Region.wanted]) (fun wx hx => ?_) S0 (fun hc S0 => ?_)
              · go_simp
              try simp only [List.getElem_toArray, List.getElem_cons_succ, List.getElem_cons_zero, Act.put, List.setIfInBounds_toArray, List.set_cons_zero, List.set_cons_succ]
              refine wpAnyS_take (i := 12) (v := .agg #[.string (bs i6), .slice ya n6.length yc, .int .i64 f6, .int .i64 t6, .bool b6]) rfl (by kernel_rfl) (by kernel_rfl) (by kernel_rfl) (fun _ _ _ h => h) (fun _ _ => Iff.rfl) hc (by first | rfl | simp [Region.wanted]) (fun wx hx => ?_) S0 (fun hc S0 => ?_)
              · have g := (hx.still.cell (p := ⟨g7, o7 + k * 5, none⟩) hz7).trans e70; have g1 := (hx.still.cell (p := ⟨g7, o7 + k * 5 + 1, none⟩) hz7).trans e71; have g2 := (hx.still.cell (p := ⟨g7, o7 + k * 5 + 2, none⟩) hz7).trans e72; have g3 := (hx.still.cell (p := ⟨g7, o7 + k * 5 + 3, none⟩) hz7).trans e73; have g4 := (hx.still.cell (p := ⟨g7, o7 + k * 5 + 4, none⟩) hz7).trans e74
                go_simp
              try simp only [List.getElem_toArray, List.getElem_cons_succ, List.getElem_cons_zero, Act.put, List.setIfInBounds_toArray, List.set_cons_zero, List.set_cons_succ]
              refine wpAnyS_one (i := 13) rfl (by kernel_rfl) (by rfl) hc (fun K' hK => ?_)
              go_simp
              refine (HSL.out).mono ?_
              rintro e w9 ⟨rfl, hb9'⟩
              have hb9 : Below wA.heap.size wA w9 := Below.step (Below.refl wA.heap.size wA).drew hb9'
              refine hK.out _ _ hb9 (fun hc => ?_)
              clear hK K'
              have S0 : StillAt wA #[] w9 := hb9
              try simp only [List.getElem_toArray, List.getElem_cons_succ, List.getElem_cons_zero, Act.put, List.setIfInBounds_toArray, List.set_cons_zero, List.set_cons_succ]
              refine wpAnyS_take (i := 14) (v := .bool false) rfl (by kernel_rfl) (by kernel_rfl) (by kernel_rfl) (fun _ _ _ h => h) (fun _ _ => Iff.rfl) hc (by first | rfl | simp [Region.wanted]) (fun wx hx => ?_) S0 (fun hc S0 => ?_)
              · go_simp
              try simp only [List.getElem_toArray, List.getElem_cons_succ, List.getElem_cons_zero, Act.put, List.setIfInBounds_toArray, List.set_cons_zero, List.set_cons_succ]
              refine wpAnyS_one (i := 15) rfl (by kernel_rfl) (by rfl) hc (fun K' hK => ?_)
              go_simp
              refine hK.out _ _ hb9 (fun hc => ?_)
              clear hK K'
              have S0 : StillAt wA #[] w9 := hb9
              try simp only [List.getElem_toArray, List.getElem_cons_succ, List.getElem_cons_zero, Act.put, List.setIfInBounds_toArray, List.set_cons_zero, List.set_cons_succ]
              refine wpAnyS_done (by kernel_rfl) ?_ _
              clear hc S0
              have HB9 := hid (Below.step HBA.out hb9)
              clear hb9 hb9'
              go_wp2_with fail
              go_roundw
              case rel => exact ⟨k + 1, by omega, by go_num, by rw [HFN.out], HB9.out⟩
              case measure => simp [RowKit.intOf]; omega
          · have hk1 : ¬ (k : Int) < (ps1.length : Int) := by omega
            have hfe : Li.cnt c.id ((ps1.map Prod.fst).take k) = 1 := by
              rw [List.take_of_length_le (by rw [List.length_map]; omega)]
              exact HLW.out.2.2.2.1
            rw [hfe]
            obtain ⟨d0, d1, d2, d3, d4, z1, -⟩ := HXR.out
            have HVW := hid (HVP.out wr wr rfl HR.out)
            have HFV := hid HLW.out.2.2.2.2
            clear c0 c1 c2 c3 c4 hfe
            go_wp2_with fail
            refine (HVW.out).mono ?_
            rintro e w10 ⟨a9, j9, ps9, rfl, -, -, hb10⟩
            obtain ⟨n9, hn9⟩ : ∃ n9, n9 = (Li.apply (ps1.map Prod.fst) (Li.voidCh c.id)).2 := ⟨_, rfl⟩
            rw [← hn9]
            have hfv := HFV.out
            rw [← hn9] at hfv
            have HB10 := hid (Below.step (Below.step HB4.out HR.out) hb10)
            clear hn9 hb10 d0 d1 d2 d3 d4 z1
            rcases hfv with rfl | rfl
            · go_wp2_with fail
              go_ret
              exact ⟨rfl, HB10.out⟩
            · go_wp2_with fail
              go_ret
              exact ⟨rfl, HB10.out⟩
      | false =>
        have hne : ((ps1.length : Int) != (ps.length : Int)) = false := by rw [bne_eq_false_iff_eq]; simpa using hsz
        clear hs1 hsz
        go_wp2_with fail
        go_loopw [9, 10] (fun fv iv wr => ∃ k : Nat, k ≤ ps1.length ∧ iv = .int .i64 k ∧ fv = .int .i64 (Li.cnt c.id ((ps1.map Prod.fst).take k)) ∧ Hid (Below w4.heap.size w4 wr)) (fun _ iv _ => ps1.length - (RowKit.intOf iv).toNat)
        case atStart => exact ⟨0, Nat.zero_le _, rfl, rfl, Below.refl _ _⟩
        case round =>
          obtain ⟨k, hk, rfl, rfl, HR⟩ := hrel
          have HXR := hid (HX4.out.step HR.out)
          by_cases hlt : k < ps1.length
          · obtain ⟨y, hy⟩ : ∃ y, ps1[k]? = some y := ⟨_, List.getElem?_eq_getElem hlt⟩
            obtain ⟨g6, o6, rfl, hr6⟩ : ∃ g o, a1 = some ⟨g, o, none⟩ ∧ RowOf wr g o 5 lsC ps1 := by
              obtain ⟨a', cap', ev, -, -, hr⟩ := (HL1.out.below HR.out).sl
              cases ev
              exact hr (by omega)
            have HQ6 := hid ((HL1.out.below HR.out).nm y (List.mem_of_getElem? hy)).rin
            have hyf : (ps1.map Prod.fst)[k]? = some y.1 := by rw [List.getElem?_map, hy]; rfl
            have HST := hid (Li.cnt_step (id := c.id) hyf)
            have HL2 := hid (HLW.out.2.1 k y.1 hyf)
            have HL3 := hid (HLW.out.2.2.1 k y.1 hyf)
            have hcn := Li.cnt_le c.id ((ps1.map Prod.fst).take k)
            rw [List.length_take] at hcn
            have hc6 := hr6.2 k _ hy
            have e60 := hc6 0 _ rfl
            have e61 := hc6 1 _ rfl
            have e62 := hc6 2 _ rfl
            have e63 := hc6 3 _ rfl
            have e64 := hc6 4 _ rfl
            have hz6 := hr6.1
            clear hc6 hr6 hy hyf
            obtain ⟨⟨⟨i6, n6⟩, f6, t6, b6⟩, u6⟩ := y
            obtain ⟨xa, xc, hu6⟩ := HQ6.out.slice
            simp only at hu6 e60 e61 e62 e63 e64 HST HL2 HL3
            subst hu6
            rw [Nat.add_zero] at e60
            have hk0 : (0 : Int) ≤ (k : Int) := by omega
            have hk1 : (k : Int) < (ps1.length : Int) := by omega
            have hnb := name_beq i6 c.id
            obtain ⟨qb, hqb⟩ : ∃ qb, qb = decide (i6 = c.id) := ⟨_, rfl⟩
            rw [← hqb] at hnb
            have HQB := hid hqb
            obtain ⟨cn, hcnn⟩ : ∃ cn, cn = Li.cnt c.id ((ps1.map Prod.fst).take k) := ⟨_, rfl⟩
            rw [← hcnn] at hcn HST ⊢
            have HCN := hid hcnn
            have hcn2 : cn ≤ 5000 := by omega
            obtain ⟨d0, d1, d2, d3, d4, z1, -⟩ := HXR.out
            clear hqb hcnn hcn c0 c1 c2 c3 c4
            go_wp2_with fail
            refine wp_heldS (S := StillAt wr) (by kernel_rfl) ?_
            simp only [List.size_toArray, List.length_cons, List.length_nil, Nat.reduceAdd]
            intro hc
            have S0 : StillAt wr (Array.replicate 9 false) wr.drew := (Below.refl _ _).drew
            refine wpAnyS_take (i := 0) (v := .slice (some ⟨g6, o6, none⟩) ps1.length j1) rfl (by kernel_rfl) (by kernel_rfl) (by kernel_rfl) (fun _ _ _ h => h) (fun _ _ => Iff.rfl) hc (by first | rfl | simp [Region.wanted]) (fun wx hx => ?_) S0 (fun hc S0 => ?_)
            · go_simp
            try simp only [List.getElem_toArray, List.getElem_cons_zero, Act.put, List.setIfInBounds_toArray, List.set_cons_zero, List.set_cons_succ]
            refine wpAnyS_take (i := 1) (v := .int .i64 k) rfl (by kernel_rfl) (by kernel_rfl) (by kernel_rfl) (fun _ _ _ h => h) (fun _ _ => Iff.rfl) hc (by first | rfl | simp [Region.wanted]) (fun wx hx => ?_) S0 (fun hc S0 => ?_)
            · go_simp
            try simp only [List.getElem_toArray, List.getElem_cons_succ, List.getElem_cons_zero, Act.put, List.setIfInBounds_toArray, List.set_cons_zero, List.set_cons_succ]
            refine wpAnyS_take (i := 2) (v := .pointer (some ⟨g6, o6 + k * 5, none⟩)) rfl (by kernel_rfl) (by kernel_rfl) (by kernel_rfl) (fun _ _ _ h => h) (fun _ _ => Iff.rfl) hc (by first | rfl | simp [Region.wanted]) (fun wx hx => ?_) S0 (fun hc S0 => ?_)
            · go_simp
            try simp only [List.getElem_toArray, List.getElem_cons_succ, List.getElem_cons_zero, Act.put, List.setIfInBounds_toArray, List.set_cons_zero, List.set_cons_succ]
            refine wpAnyS_take (i := 3) (v := .pointer (some ⟨g6, o6 + k * 5, none⟩)) rfl (by kernel_rfl) (by kernel_rfl) (by kernel_rfl) (fun _ _ _ h => h) (fun _ _ => Iff.rfl) hc (by first | rfl | simp [Region.wanted]) (fun wx hx => ?_) S0 (fun hc S0 => ?_)
            · go_simp
            try simp only [List.getElem_toArray, List.getElem_cons_succ, List.getElem_cons_zero, Act.put, List.setIfInBounds_toArray, List.set_cons_zero, List.set_cons_succ]
            refine wpAnyS_take (i := 4) (v := .pointer (some ⟨g6, o6 + k * 5, none⟩)) rfl (by kernel_rfl) (by kernel_rfl) (by kernel_rfl) (fun _ _ _ h => h) (fun _ _ => Iff.rfl) hc (by first | rfl | simp [Region.wanted]) (fun wx hx => ?_) S0 (fun hc S0 => ?_)
            · go_simp
            try simp only [List.getElem_toArray, List.getElem_cons_succ, List.getElem_cons_zero, Act.put, List.setIfInBounds_toArray, List.set_cons_zero, List.set_cons_succ]
            refine wpAnyS_take (i := 5) (v := .string (bs i6)) rfl (by kernel_rfl) (by kernel_rfl) (by kernel_rfl) (fun _ _ _ h => h) (fun _ _ => Iff.rfl) hc (by first | rfl | simp [Region.wanted]) (fun wx hx => ?_) S0 (fun hc S0 => ?_)
            · have g := (hx.still.cell (p := ⟨g6, o6 + k * 5, none⟩) hz6).trans e60
              go_simp
            try simp only [List.getElem_toArray, List.getElem_cons_succ, List.getElem_cons_zero, Act.put, List.setIfInBounds_toArray, List.set_cons_zero, List.set_cons_succ]
            refine wpAnyS_take (i := 6) (v := .pointer (some ⟨w.heap.size, 1, none⟩)) rfl (by kernel_rfl) (by kernel_rfl) (by kernel_rfl) (fun _ _ _ h => h) (fun _ _ => Iff.rfl) hc (by first | rfl | simp [Region.wanted]) (fun wx hx => ?_) S0 (fun hc S0 => ?_)
            · go_simp
            try simp only [List.getElem_toArray, List.getElem_cons_succ, List.getElem_cons_zero, Act.put, List.setIfInBounds_toArray, List.set_cons_zero, List.set_cons_succ]
            refine wpAnyS_take (i := 7) (v := .string (bs c.id)) rfl (by kernel_rfl) (by kernel_rfl) (by kernel_rfl) (fun _ _ _ h => h) (fun _ _ => Iff.rfl) hc (by first | rfl | simp [Region.wanted]) (fun wx hx => ?_) S0 (fun hc S0 => ?_)
            · have g := (hx.still.cell (p := ⟨w.heap.size, 1, none⟩) z1).trans d1
              go_simp
            try simp only [List.getElem_toArray, List.getElem_cons_succ, List.getElem_cons_zero, Act.put, List.setIfInBounds_toArray, List.set_cons_zero, List.set_cons_succ]
            refine wpAnyS_one (i := 8) rfl (by kernel_rfl) (by rfl) hc (fun K' hK => ?_)
            go_simp
            refine hK.out _ _ (Below.refl _ _).drew (fun hc => ?_)
            clear hK K'
            have S0 : StillAt wr #[] wr.drew := (Below.refl _ _).drew
            try simp only [List.getElem_toArray, List.getElem_cons_succ, List.getElem_cons_zero, Act.put, List.setIfInBounds_toArray, List.set_cons_zero, List.set_cons_succ]
            refine wpAnyS_done (by kernel_rfl) ?_ _
            clear hc S0
            obtain ⟨wA, hwA⟩ : ∃ wA, wA = wr.drew := ⟨_, rfl⟩
            rw [← hwA]
            have HRA := hid (show Below wr.heap.size wr wA by rw [hwA]; exact (Below.refl _ _).drew)
            have hzA := Nat.lt_of_lt_of_le hz6 HRA.out.size
            have hzC := Nat.lt_of_lt_of_le z1 HRA.out.size
            have e60' := (HRA.out.cell (p := ⟨g6, o6 + k * 5, none⟩) hz6).trans e60
            have e61' := (HRA.out.cell (p := ⟨g6, o6 + k * 5 + 1, none⟩) hz6).trans e61
            have e62' := (HRA.out.cell (p := ⟨g6, o6 + k * 5 + 2, none⟩) hz6).trans e62
            have e63' := (HRA.out.cell (p := ⟨g6, o6 + k * 5 + 3, none⟩) hz6).trans e63
            have e64' := (HRA.out.cell (p := ⟨g6, o6 + k * 5 + 4, none⟩) hz6).trans e64
            have d0' := (HRA.out.cell (p := ⟨w.heap.size, 0, none⟩) z1).trans d0
            have d2' := (HRA.out.cell (p := ⟨w.heap.size, 2, none⟩) z1).trans d2
            have d3' := (HRA.out.cell (p := ⟨w.heap.size, 3, none⟩) z1).trans d3
            have HBA := hid (Below.step HR.out HRA.out)
            clear hwA e60 e61 e62 e63 e64 d0 d1 d2 d3 d4 z1 hz6
            cases qb with
            | true =>
              have hid_ : i6 = c.id := of_decide_eq_true HQB.out.symm
              have HFN := hid (show Li.cnt c.id ((ps1.map Prod.fst).take (k + 1)) = cn + 1 by rw [HST.out, if_pos hid_])
              have HL4 := hid (HL2.out hid_)
              clear hid_
              go_upto_region 18 with (fail)
              refine wp_heldS (S := StillAt wA) (by kernel_rfl) ?_
              simp only [List.size_toArray, List.length_cons, List.length_nil, Nat.reduceAdd]
              intro hc
              have S0 : StillAt wA (Array.replicate 20 false) wA.drew := (Below.refl _ _).drew
              refine wpAnyS_take (i := 0) (v := .pointer (some ⟨w.heap.size, 0, none⟩)) rfl (by kernel_rfl) (by kernel_rfl) (by kernel_rfl) (fun _ _ _ h => h) (fun _ _ => Iff.rfl) hc (by first | rfl | simp [Region.wanted]) (fun wx hx => ?_) S0 (fun hc S0 => ?_)
              · go_simp
              try simp only [List.getElem_toArray, List.getElem_cons_zero, Act.put, List.setIfInBounds_toArray, List.set_cons_zero, List.set_cons_succ]
              refine wpAnyS_take (i := 1) (v := .int .i64 c.kind) rfl (by kernel_rfl) (by kernel_rfl) (by kernel_rfl) (fun _ _ _ h => h) (fun _ _ => Iff.rfl) hc (by first | rfl | simp [Region.wanted]) (fun wx hx => ?_) S0 (fun hc S0 => ?_)
              · have g := (hx.still.cell (p := ⟨w.heap.size, 0, none⟩) hzC).trans d0'
                go_simp
              try simp only [List.getElem_toArray, List.getElem_cons_succ, List.getElem_cons_zero, Act.put, List.setIfInBounds_toArray, List.set_cons_zero, List.set_cons_succ]
              refine wpAnyS_take (i := 2) (v := .bool false) rfl (by kernel_rfl) (by kernel_rfl) (by kernel_rfl) (fun _ _ _ h => h) (fun _ _ => Iff.rfl) hc (by first | rfl | simp [Region.wanted]) (fun wx hx => ?_) S0 (fun hc S0 => ?_)
              · go_simp
              try simp only [List.getElem_toArray, List.getElem_cons_succ, List.getElem_cons_zero, Act.put, List.setIfInBounds_toArray, List.set_cons_zero, List.set_cons_succ]
              refine wpAnyS_take (i := 3) (v := .bool false) rfl (by kernel_rfl) (by kernel_rfl) (by kernel_rfl) (fun _ _ _ h => h) (fun _ _ => Iff.rfl) hc (by first | rfl | simp [Region.wanted]) (fun wx hx => ?_) S0 (fun hc S0 => ?_)
              · go_simp
              try simp only [List.getElem_toArray, List.getElem_cons_succ, List.getElem_cons_zero, Act.put, List.setIfInBounds_toArray, List.set_cons_zero, List.set_cons_succ]
              refine wpAnyS_skip (i := 4) rfl (by kernel_rfl) (by kernel_rfl) (by kernel_rfl) (fun _ _ _ h => h) (fun _ _ => Iff.rfl) hc (by rfl) S0 (fun hc S0 => ?_)
              try simp only [List.getElem_toArray, List.getElem_cons_succ, List.getElem_cons_zero, Act.put, List.setIfInBounds_toArray, List.set_cons_zero, List.set_cons_succ]
              refine wpAnyS_skip (i := 5) rfl (by kernel_rfl) (by kernel_rfl) (by kernel_rfl) (fun _ _ _ h => h) (fun _ _ => Iff.rfl) hc (by rfl) S0 (fun hc S0 => ?_)
              try simp only [List.getElem_toArray, List.getElem_cons_succ, List.getElem_cons_zero, Act.put, List.setIfInBounds_toArray, List.set_cons_zero, List.set_cons_succ]
              refine wpAnyS_skip (i := 6) rfl (by kernel_rfl) (by kernel_rfl) (by kernel_rfl) (fun _ _ _ h => h) (fun _ _ => Iff.rfl) hc (by rfl) S0 (fun hc S0 => ?_)
              try simp only [List.getElem_toArray, List.getElem_cons_succ, List.getElem_cons_zero, Act.put, List.setIfInBounds_toArray, List.set_cons_zero, List.set_cons_succ]
              refine wpAnyS_skip (i := 7) rfl (by kernel_rfl) (by kernel_rfl) (by kernel_rfl) (fun _ _ _ h => h) (fun _ _ => Iff.rfl) hc (by rfl) S0 (fun hc S0 => ?_)
              try simp only [List.getElem_toArray, List.getElem_cons_succ, List.getElem_cons_zero, Act.put, List.setIfInBounds_toArray, List.set_cons_zero, List.set_cons_succ]
              refine wpAnyS_skip (i := 8) rfl (by kernel_rfl) (by kernel_rfl) (by kernel_rfl) (fun _ _ _ h => h) (fun _ _ => Iff.rfl) hc (by rfl) S0 (fun hc S0 => ?_)
              try simp only [List.getElem_toArray, List.getElem_cons_succ, List.getElem_cons_zero, Act.put, List.setIfInBounds_toArray, List.set_cons_zero, List.set_cons_succ]
              refine wpAnyS_skip (i := 9) rfl (by kernel_rfl) (by kernel_rfl) (by kernel_rfl) (fun _ _ _ h => h) (fun _ _ => Iff.rfl) hc (by rfl) S0 (fun hc S0 => ?_)
              try simp only [List.getElem_toArray, List.getElem_cons_succ, List.getElem_cons_zero, Act.put, List.setIfInBounds_toArray, List.set_cons_zero, List.set_cons_succ]
              refine wpAnyS_skip (i := 10) rfl (by kernel_rfl) (by kernel_rfl) (by kernel_rfl) (fun _ _ _ h => h) (fun _ _ => Iff.rfl) hc (by rfl) S0 (fun hc S0 => ?_)
              try simp only [List.getElem_toArray, List.getElem_cons_succ, List.getElem_cons_zero, Act.put, List.setIfInBounds_toArray, List.set_cons_zero, List.set_cons_succ]
              refine wpAnyS_skip (i := 11) rfl (by kernel_rfl) (by kernel_rfl) (by kernel_rfl) (fun _ _ _ h => h) (fun _ _ => Iff.rfl) hc (by rfl) S0 (fun hc S0 => ?_)
              try simp only [List.getElem_toArray, List.getElem_cons_succ, List.getElem_cons_zero, Act.put, List.setIfInBounds_toArray, List.set_cons_zero, List.set_cons_succ]
              refine wpAnyS_skip (i := 12) rfl (by kernel_rfl) (by kernel_rfl) (by kernel_rfl) (fun _ _ _ h => h) (fun _ _ => Iff.rfl) hc (by rfl) S0 (fun hc S0 => ?_)
              try simp only [List.getElem_toArray, List.getElem_cons_succ, List.getElem_cons_zero, Act.put, List.setIfInBounds_toArray, List.set_cons_zero, List.set_cons_succ]
              refine wpAnyS_skip (i := 13) rfl (by kernel_rfl) (by kernel_rfl) (by kernel_rfl) (fun _ _ _ h => h) (fun _ _ => Iff.rfl) hc (by rfl) S0 (fun hc S0 => ?_)
              try simp only [List.getElem_toArray, List.getElem_cons_succ, List.getElem_cons_zero, Act.put, List.setIfInBounds_toArray, List.set_cons_zero, List.set_cons_succ]
              refine wpAnyS_skip (i := 14) rfl (by kernel_rfl) (by kernel_rfl) (by kernel_rfl) (fun _ _ _ h => h) (fun _ _ => Iff.rfl) hc (by rfl) S0 (fun hc S0 => ?_)
              try simp only [List.getElem_toArray, List.getElem_cons_succ, List.getElem_cons_zero, Act.put, List.setIfInBounds_toArray, List.set_cons_zero, List.set_cons_succ]
              refine wpAnyS_skip (i := 15) rfl (by kernel_rfl) (by kernel_rfl) (by kernel_rfl) (fun _ _ _ h => h) (fun _ _ => Iff.rfl) hc (by rfl) S0 (fun hc S0 => ?_)
              try simp only [List.getElem_toArray, List.getElem_cons_succ, List.getElem_cons_zero, Act.put, List.setIfInBounds_toArray, List.set_cons_zero, List.set_cons_succ]
              refine wpAnyS_skip (i := 16) rfl (by kernel_rfl) (by kernel_rfl) (by kernel_rfl) (fun _ _ _ h => h) (fun _ _ => Iff.rfl) hc (by rfl) S0 (fun hc S0 => ?_)
              try simp only [List.getElem_toArray, List.getElem_cons_succ, List.getElem_cons_zero, Act.put, List.setIfInBounds_toArray, List.set_cons_zero, List.set_cons_succ]
              refine wpAnyS_skip (i := 17) rfl (by kernel_rfl) (by kernel_rfl) (by kernel_rfl) (fun _ _ _ h => h) (fun _ _ => Iff.rfl) hc (by rfl) S0 (fun hc S0 => ?_)
              try simp only [List.getElem_toArray, List.getElem_cons_succ, List.getElem_cons_zero, Act.put, List.setIfInBounds_toArray, List.set_cons_zero, List.set_cons_succ]
              refine wpAnyS_skip (i := 18) rfl (by kernel_rfl) (by kernel_rfl) (by kernel_rfl) (fun _ _ _ h => h) (fun _ _ => Iff.rfl) hc (by rfl) S0 (fun hc S0 => ?_)
              try simp only [List.getElem_toArray, List.getElem_cons_succ, List.getElem_cons_zero, Act.put, List.setIfInBounds_toArray, List.set_cons_zero, List.set_cons_succ]
              refine wpAnyS_one (i := 19) rfl (by kernel_rfl) (by rfl) hc (fun K' hK => ?_)
              go_simp
              refine hK.out _ _ (Below.refl _ _).drew (fun hc => ?_)
              clear hK K'
              have S0 : StillAt wA #[] wA.drew := (Below.refl _ _).drew
              try simp only [List.getElem_toArray, List.getElem_cons_succ, List.getElem_cons_zero, Act.put, List.setIfInBounds_toArray, List.set_cons_zero, List.set_cons_succ]
              refine wpAnyS_done (by kernel_rfl) ?_ _
              clear hc S0
              have HB9 := hid (HBA.out.drew)
              go_wp2_with fail
              go_roundw
              case rel => exact ⟨k + 1, by omega, by go_num, by rw [HFN.out]; go_num, HB9.out⟩
              case measure => simp [RowKit.intOf]; omega
            | false =>
              have hid_ : ¬ i6 = c.id := of_decide_eq_false HQB.out.symm
              have HFN := hid (show Li.cnt c.id ((ps1.map Prod.fst).take (k + 1)) = cn by rw [HST.out, if_neg hid_]; omega)
              have hl4 := HL3.out hid_
              have hkl : k < ps.length := by have := hl4.1; rw [List.length_map] at this; exact this
              obtain ⟨z, hz⟩ : ∃ z, ps[k]? = some z := ⟨_, List.getElem?_eq_getElem hkl⟩
              have hz2 : z.1 = ⟨⟨i6, n6⟩, f6, t6, b6⟩ := by
                have h := hl4.2
                rw [List.getElem?_map, hz] at h
                exact Option.some.inj h
              obtain ⟨g7, o7, rfl, hr7⟩ : ∃ g o, va = some ⟨g, o, none⟩ ∧ RowOf wA g o 5 lsC ps := by
                obtain ⟨a', cap', ev, -, -, hr⟩ := (HLS4.out.below HBA.out).sl
                cases ev
                exact hr (by omega)
              have HQ7 := hid ((HLS4.out.below HBA.out).nm z (List.mem_of_getElem? hz)).rin
              have hc7 := hr7.2 k _ hz
              have e70 := hc7 0 _ rfl
              have e71 := hc7 1 _ rfl
              have e72 := hc7 2 _ rfl
              have e73 := hc7 3 _ rfl
              have e74 := hc7 4 _ rfl
              have hz7 := hr7.1
              obtain ⟨z1, u7⟩ := z
              simp only at hz2
              subst hz2
              obtain ⟨ya, yc, hu7⟩ := HQ7.out.slice
              simp only at hu7 e70 e71 e72 e73 e74
              subst hu7
              rw [Nat.add_zero] at e70
              have hk2 : (k : Int) < (ps.length : Int) := by omega
              have hge : decide ((ps.length : Int) ≤ (k : Int)) = false := decide_eq_false (by omega)
              have hge2 : ¬ (ps.length ≤ k) := by omega
              clear hc7 hr7 hz hl4 hid_ hkl
              have HSL := hid (show Calls Tryz.prog 30 #[.agg #[.string (bs i6), .slice xa n6.length xc, .int .i64 f6, .int .i64 t6, .bool b6], .agg #[.string (bs i6), .slice ya n6.length yc, .int .i64 f6, .int .i64 t6, .bool b6]] wA.drew (Gives (.bool true) wA.drew) by
                have h := sameL_any i6 i6 n6 n6 (.slice xa n6.length xc) (.slice ya n6.length yc) f6 f6 t6 t6 b6 b6 wA.drew (HQ6.out.below HRA.out.drew) (HQ7.out.below (Below.refl wA.heap.size wA).drew)
                rw [decide_eq_true rfl] at h
                exact h)
              go_wp2_with fail
              refine wp_heldS (S := StillAt wA) (by kernel_rfl) ?_
              simp only [List.size_toArray, List.length_cons, List.length_nil, Nat.reduceAdd]
              intro hc
              have S0 : StillAt wA (Array.replicate 16 false) wA.drew := (Below.refl _ _).drew
              refine wpAnyS_take (i := 0) (v := .int .i64 k) rfl (by kernel_rfl) (by kernel_rfl) (by kernel_rfl) (fun _ _ _ h => h) (fun _ _ => Iff.rfl) hc (by first | rfl | simp [Region.wanted]) (fun wx hx => ?_) S0 (fun hc S0 => ?_)
              · go_simp
              try simp only [List.getElem_toArray, List.getElem_cons_zero, Act.put, List.setIfInBounds_toArray, List.set_cons_zero, List.set_cons_succ]
              refine wpAnyS_take (i := 1) (v := .slice (some ⟨g7, o7, none⟩) ps.length cap) rfl (by kernel_rfl) (by kernel_rfl) (by kernel_rfl) (fun _ _ _ h => h) (fun _ _ => Iff.rfl) hc (by first | rfl | simp [Region.wanted]) (fun wx hx => ?_) S0 (fun hc S0 => ?_)
              · go_simp
              try simp only [List.getElem_toArray, List.getElem_cons_succ, List.getElem_cons_zero, Act.put, List.setIfInBounds_toArray, List.set_cons_zero, List.set_cons_succ]
              refine wpAnyS_take (i := 2) (v := .int .i64 ps.length) rfl (by kernel_rfl) (by kernel_rfl) (by kernel_rfl) (fun _ _ _ h => h) (fun _ _ => Iff.rfl) hc (by first | rfl | simp [Region.wanted]) (fun wx hx => ?_) S0 (fun hc S0 => ?_)
              · go_simp
              try simp only [List.getElem_toArray, List.getElem_cons_succ, List.getElem_cons_zero, Act.put, List.setIfInBounds_toArray, List.set_cons_zero, List.set_cons_succ]
              refine wpAnyS_take (i := 3) (v := .bool false) rfl (by kernel_rfl) (by kernel_rfl) (by kernel_rfl) (fun _ _ _ h => h) (fun _ _ => Iff.rfl) hc (by first | rfl | simp [Region.wanted]) (fun wx hx => ?_) S0 (fun hc S0 => ?_)
              · go_simp
              try simp only [List.getElem_toArray, List.getElem_cons_succ, List.getElem_cons_zero, Act.put, List.setIfInBounds_toArray, List.set_cons_zero, List.set_cons_succ]
              refine wpAnyS_take (i := 4) (v := .bool false) rfl (by kernel_rfl) (by kernel_rfl) (by kernel_rfl) (fun _ _ _ h => h) (fun _ _ => Iff.rfl) hc (by first | rfl | simp [Region.wanted]) (fun wx hx => ?_) S0 (fun hc S0 => ?_)
              · go_simp
              try simp only [List.getElem_toArray, List.getElem_cons_succ, List.getElem_cons_zero, Act.put, List.setIfInBounds_toArray, List.set_cons_zero, List.set_cons_succ]
              refine wpAnyS_take (i := 5) (v := .slice (some ⟨g6, o6, none⟩) ps1.length j1) rfl (by kernel_rfl) (by kernel_rfl) (by kernel_rfl) (fun _ _ _ h => h) (fun _ _ => Iff.rfl) hc (by first | rfl | simp [Region.wanted]) (fun wx hx => ?_) S0 (fun hc S0 => ?_)
              · go_simp
              try simp only [List.getElem_toArray, List.getElem_cons_succ, List.getElem_cons_zero, Act.put, List.setIfInBounds_toArray, List.set_cons_zero, List.set_cons_succ]
              refine wpAnyS_take (i := 6) (v := .int .i64 k) rfl (by kernel_rfl) (by kernel_rfl) (by kernel_rfl) (fun _ _ _ h => h) (fun _ _ => Iff.rfl) hc (by first | rfl | simp [Region.wanted]) (fun wx hx => ?_) S0 (fun hc S0 => ?_)
              · go_simp
              try simp only [List.getElem_toArray, List.getElem_cons_succ, List.getElem_cons_zero, Act.put, List.setIfInBounds_toArray, List.set_cons_zero, List.set_cons_succ]
              refine wpAnyS_take (i := 7) (v := .pointer (some ⟨g6, o6 + k * 5, none⟩)) rfl (by kernel_rfl) (by kernel_rfl) (by kernel_rfl) (fun _ _ _ h => h) (fun _ _ => Iff.rfl) hc (by first | rfl | simp [Region.wanted]) (fun wx hx => ?_) S0 (fun hc S0 => ?_)
              · go_simp
              try simp only [List.getElem_toArray, List.getElem_cons_succ, List.getElem_cons_zero, Act.put, List.setIfInBounds_toArray, List.set_cons_zero, List.set_cons_succ]
              refine wpAnyS_take (i := 8) (v := .agg #[.string (bs i6), .slice xa n6.length xc, .int .i64 f6, .int .i64 t6, .bool b6]) rfl (by kernel_rfl) (by kernel_rfl) (by kernel_rfl) (fun _ _ _ h => h) (fun _ _ => Iff.rfl) hc (by first | rfl | simp [Region.wanted]) (fun wx hx => ?_) S0 (fun hc S0 => ?_)
              · have g := (hx.still.cell (p := ⟨g6, o6 + k * 5, none⟩) hzA).trans e60'; have g1 := (hx.still.cell (p := ⟨g6, o6 + k * 5 + 1, none⟩) hzA).trans e61'; have g2 := (hx.still.cell (p := ⟨g6, o6 + k * 5 + 2, none⟩) hzA).trans e62'; have g3 := (hx.still.cell (p := ⟨g6, o6 + k * 5 + 3, none⟩) hzA).trans e63'; have g4 := (hx.still.cell (p := ⟨g6, o6 + k * 5 + 4, none⟩) hzA).trans e64'
                go_simp
              try simp only [List.getElem_toArray, List.getElem_cons_succ, List.getElem_cons_zero, Act.put, List.setIfInBounds_toArray, List.set_cons_zero, List.set_cons_succ]
              refine wpAnyS_take (i := 9) (v := .slice (some ⟨g7, o7, none⟩) ps.length cap) rfl (by kernel_rfl) (by kernel_rfl) (by kernel_rfl) (fun _ _ _ h => h) (fun _ _ => Iff.rfl) hc (by first | rfl | simp [Region.wanted]) (fun wx hx => ?_) S0 (fun hc S0 => ?_)
              · go_simp
              try simp only [List.getElem_toArray, List.getElem_cons_succ, List.getElem_cons_zero, Act.put, List.setIfInBounds_toArray, List.set_cons_zero, List.set_cons_succ]
              refine wpAnyS_take (i := 10) (v := .int .i64 k) rfl (by kernel_rfl) (by kernel_rfl) (by kernel_rfl) (fun _ _ _ h => h) (fun _ _ => Iff.rfl) hc (by first | rfl | simp [Region.wanted]) (fun wx hx => ?_) S0 (fun hc S0 => ?_)
              · go_simp
              try simp only [List.getElem_toArray, List.getElem_cons_succ, List.getElem_cons_zero, Act.put, List.setIfInBounds_toArray, List.set_cons_zero, List.set_cons_succ]
              refine wpAnyS_take (i := 11) (v := .pointer (some ⟨g7, o7 + k * 5, none⟩)) rfl (by kernel_rfl) (by kernel_rfl) (by kernel_rfl) (fun _ _ _ h => h) (fun _ _ => Iff.rfl) hc (by first | rfl | simp [Region.wanted]) (fun wx hx => ?_) S0 (fun hc S0 => ?_)
              · go_simp
              try simp only [List.getElem_toArray, List.getElem_cons_succ, List.getElem_cons_zero, Act.put, List.setIfInBounds_toArray, List.set_cons_zero, List.set_cons_succ]
              refine wpAnyS_take (i := 12) (v := .agg #[.string (bs i6), .slice ya n6.length yc, .int .i64 f6, .int .i64 t6, .bool b6]) rfl (by kernel_rfl) (by kernel_rfl) (by kernel_rfl) (fun _ _ _ h => h) (fun _ _ => Iff.rfl) hc (by first | rfl | simp [Region.wanted]) (fun wx hx => ?_) S0 (fun hc S0 => ?_)
              · have g := (hx.still.cell (p := ⟨g7, o7 + k * 5, none⟩) hz7).trans e70; have g1 := (hx.still.cell (p := ⟨g7, o7 + k * 5 + 1, none⟩) hz7).trans e71; have g2 := (hx.still.cell (p := ⟨g7, o7 + k * 5 + 2, none⟩) hz7).trans e72; have g3 := (hx.still.cell (p := ⟨g7, o7 + k * 5 + 3, none⟩) hz7).trans e73; have g4 := (hx.still.cell (p := ⟨g7, o7 + k * 5 + 4, none⟩) hz7).trans e74
                go_simp
              try simp only [List.getElem_toArray, List.getElem_cons_succ, List.getElem_cons_zero, Act.put, List.setIfInBounds_toArray, List.set_cons_zero, List.set_cons_succ]
              refine wpAnyS_one (i := 13) rfl (by kernel_rfl) (by rfl) hc (fun K' hK => ?_)
              go_simp
              refine (HSL.out).mono ?_
              rintro e w9 ⟨rfl, hb9'⟩
              have hb9 : Below wA.heap.size wA w9 := Below.step (Below.refl wA.heap.size wA).drew hb9'
              refine hK.out _ _ hb9 (fun hc => ?_)
              clear hK K'
              have S0 : StillAt wA #[] w9 := hb9
              try simp only [List.getElem_toArray, List.getElem_cons_succ, List.getElem_cons_zero, Act.put, List.setIfInBounds_toArray, List.set_cons_zero, List.set_cons_succ]
              refine wpAnyS_take (i := 14) (v := .bool false) rfl (by kernel_rfl) (by kernel_rfl) (by kernel_rfl) (fun _ _ _ h => h) (fun _ _ => Iff.rfl) hc (by first | rfl | simp [Region.wanted]) (fun wx hx => ?_) S0 (fun hc S0 => ?_)
              · go_simp
              try simp only [List.getElem_toArray, List.getElem_cons_succ, List.getElem_cons_zero, Act.put, List.setIfInBounds_toArray, List.set_cons_zero, List.set_cons_succ]
              refine wpAnyS_one (i := 15) rfl (by kernel_rfl) (by rfl) hc (fun K' hK => ?_)
              go_simp
              refine hK.out _ _ hb9 (fun hc => ?_)
              clear hK K'
              have S0 : StillAt wA #[] w9 := hb9
              try simp only [List.getElem_toArray, List.getElem_cons_succ, List.getElem_cons_zero, Act.put, List.setIfInBounds_toArray, List.set_cons_zero, List.set_cons_succ]
              refine wpAnyS_done (by kernel_rfl) ?_ _
              clear hc S0
              have HB9 := hid (Below.step HBA.out hb9)
              clear hb9 hb9'
              go_wp2_with fail
              go_roundw
              case rel => exact ⟨k + 1, by omega, by go_num, by rw [HFN.out], HB9.out⟩
              case measure => simp [RowKit.intOf]; omega
          · have hk1 : ¬ (k : Int) < (ps1.length : Int) := by omega
            have hfe : Li.cnt c.id ((ps1.map Prod.fst).take k) = 1 := by
              rw [List.take_of_length_le (by rw [List.length_map]; omega)]
              exact HLW.out.2.2.2.1
            rw [hfe]
            obtain ⟨d0, d1, d2, d3, d4, z1, -⟩ := HXR.out
            have HVW := hid (HVP.out wr wr rfl HR.out)
            have HFV := hid HLW.out.2.2.2.2
            clear c0 c1 c2 c3 c4 hfe
            go_wp2_with fail
            refine (HVW.out).mono ?_
            rintro e w10 ⟨a9, j9, ps9, rfl, -, -, hb10⟩
            obtain ⟨n9, hn9⟩ : ∃ n9, n9 = (Li.apply (ps1.map Prod.fst) (Li.voidCh c.id)).2 := ⟨_, rfl⟩
            rw [← hn9]
            have hfv := HFV.out
            rw [← hn9] at hfv
            have HB10 := hid (Below.step (Below.step HB4.out HR.out) hb10)
            clear hn9 hb10 d0 d1 d2 d3 d4 z1
            rcases hfv with rfl | rfl
            · go_wp2_with fail
              go_ret
              exact ⟨rfl, HB10.out⟩
            · go_wp2_with fail
              go_ret
              exact ⟨rfl, HB10.out⟩
    · have hnb : (n1 != 0) = true := by rw [bne_iff_ne]; exact h10
      have hz2 : ps1.length = 0 := by
        have := congrArg List.length H1.out.1
        rw [Li.apply_err (by rw [← H1.out.2]; exact h10), List.length_map] at this
        exact this
      have hzb : ((ps1.length : Int) == 0) = true := by rw [hz2]; rfl
      clear h10 hz2
      go_wp2_with fail
      go_ret
      exact ⟨rfl, HB4.out⟩

end Go.Proofs.YtidkmhokolknbaaGreatDoor
