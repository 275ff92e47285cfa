/-
  FactGaps: the statement's function returns true. Conditions: what can be read of its arguments; the table of powers.
-/
import Derived.Test.YteogmlgmodeajaaDoorZFa16
import Derived.Test.YteogmlgmodeajaaDoorZFa17
import Derived.OwnWalk
namespace Go.Proofs.YteogmlgmodeajaaDoor
open Go.RowKit Go.Lib Go.Maps

theorem Fa.apart_lex {s : List UInt8} {l : List Fa.T} (h : s.length ≤ 2000) (hl : Lx.lex s = (l, 0, 0)) : ∃ m, Lx.toks m = Lx.toks l ∧ Lx.lex (Fa.apart l) = (m, 0, 0) ∧ (Fa.apart l).length ≤ 4000 := by
  rw [Lx.lex_lu (by omega)] at hl
  cases hu : Lx.lu s with
  | error z =>
    rw [hu] at hl
    obtain ⟨a, b⟩ := z
    obtain ⟨h1, h2⟩ := Fa.lu_error hu
    simp only [Prod.mk.injEq] at hl
    omega
  | ok k =>
    rw [hu] at hl
    simp only [Prod.mk.injEq, and_true] at hl
    subst hl
    have hlen : (Fa.apart k).length ≤ 4000 := by rw [Fa.apart_length]; have := Lx.allOf_length _ _ _ (Nat.le_refl _) hu; omega
    obtain ⟨m, h1, h2⟩ := Fa.apart_lu k (Lx.lu_ok hu)
    exact ⟨m, h2, by rw [Lx.lex_lu (by omega), h1], hlen⟩

set_option maxRecDepth 100000 in
set_option maxHeartbeats 16000000 in
theorem gaps_law (d : Fa.Dom) (s t : List UInt8) (v : Value) (w : World) (h : SlOf w v 4 factC d) (hs : s.length ≤ maxLen) (ht : t.length ≤ maxLen) (hT : Tab10 w) : Calls Tryd.prog 7 #[.agg #[v], .string (bs s), .string (bs t)] w (Gives (.bool true) w) := by
  obtain ⟨W2, hW2⟩ : ∃ W2, W2 = w.alloc (.cells #[v] 24) := ⟨_, rfl⟩
  have hb2 : Below w.heap.size w W2 := by rw [hW2]; exact (Below.refl _ w).alloc (Nat.le_refl _) _
  have H2 := hid (show HdW' w W2 w.heap.size v d from ⟨by rw [hW2]; exact One.new w _ _, h.below hb2, hT.below hb2, hb2⟩)
  obtain ⟨vd, cap, rfl, k1, k2, -⟩ := h
  have hl1 : d.length ≤ 9223372036854775807 := by unfold maxLen at k2; omega
  have hl2 : (bs s).size ≤ 9223372036854775807 := by rw [bs_size]; unfold maxLen at hs; omega
  have hl3 : (bs t).size ≤ 9223372036854775807 := by rw [bs_size]; unfold maxLen at ht; omega
  clear hb2 hT k1 k2 hs ht
  go_enter Tryd.func7, Tryd.ntmps7
  go_upto_region 1 with (fail)
  rw [← hW2]
  clear hW2
  go_wp2_with fail
  refine (head_true W2 H2.out.tab).mono ?_
  rintro e w3 ⟨rfl, hb3⟩
  have H3 := hid (H2.out.step hb3)
  clear hb3
  have c3 := H3.out.one.cell
  have z3 := H3.out.one.lt
  go_wp2_with fail
  refine (few_any d [] _ _ w3 H3.out.sl (SlOf.nil _ _ _)).mono ?_
  rintro e w4 ⟨rfl, hb4⟩
  have H4 := hid (H3.out.step hb4)
  clear hb4 c3 z3
  rw [show (fewD d && decide (([] : List Int).length ≤ 70)) = fewD d by simp]
  cases hfd : fewD d with
  | false =>
    go_wp2_with fail
    go_ret
    exact ⟨rfl, H4.out.below⟩
  | true =>
    obtain ⟨hd70, hnd⟩ := fewD_parts hfd
    clear hfd
    have HN := hid (show ∀ f ∈ d, f.name.length ≤ 5000 from fun f hf => Nat.le_trans (hnd f hf) (by decide))
    have hd5 : d.length ≤ 5000 := by omega
    clear hnd
    by_cases hsl : (bs s).size ≤ 2000
    · have d2 : decide ((2000 : Int) < ((bs s).size : Int)) = false := decide_eq_false (by omega)
      by_cases htl : (bs t).size ≤ 2000
      · have d3 : decide ((2000 : Int) < ((bs t).size : Int)) = false := decide_eq_false (by omega)
        have HS1 := hid (show s.length ≤ 2000 by rw [bs_size] at hsl; exact hsl)
        have HS2 := hid (show t.length ≤ 2000 by rw [bs_size] at htl; exact htl)
        rcases hx1 : Lx.lex s with ⟨l, e, p⟩
        rcases hx2 : Lx.lex t with ⟨m, f, q⟩
        have HX1 := hid (lex_any (bs s) w4 (by rw [bs_size]; unfold maxLen; have := HS1.out; omega))
        have HX2 := hid (fun W => lex_any (bs t) W (by rw [bs_size]; unfold maxLen; have := HS2.out; omega))
        rw [bs_list, hx1] at HX1
        simp only [bs_list, hx2] at HX2
        have HL := hid hx1
        have HLM := hid hx2
        clear hx1 hx2
        go_wp2_with fail
        refine (HX1.out).mono ?_
        rintro e' w5 ⟨v5, rfl, ho5, hb5⟩
        obtain ⟨al, cl, rfl⟩ := ownsRow_slice ho5
        have H5 := hid (H4.out.step hb5)
        have HT5 := hid (show SlOf w5 (.slice al l.length cl) 4 tkC l from SlOf.own (cells := tkC) ho5 fun x _ => rfl)
        clear ho5 hb5
        go_wp2_with fail
        refine (HX2.out w5).mono ?_
        rintro e' w6 ⟨v6, rfl, ho6, hb6⟩
        obtain ⟨am, cm, rfl⟩ := ownsRow_slice ho6
        have H6 := hid (H5.out.step hb6)
        have HT6 := hid (HT5.out.below hb6)
        have HM6 := hid (show SlOf w6 (.slice am m.length cm) 4 tkC m from SlOf.own (cells := tkC) ho6 fun x _ => rfl)
        clear ho6 hb6
        have hq0 : f = 0 → q = 0 := fun hf => (Fa.lex_toks (by have := HS2.out; omega) HLM.out).2.2.2.2.2 hf
        by_cases he0 : e = 0
        · subst he0
          have hp0 : p = 0 := (Fa.lex_toks (by have := HS1.out; omega) HL.out).2.2.2.2.2 rfl
          subst hp0
          rcases hr1 : Fa.parse s with ⟨x1, g1, p1⟩
          have HP1 := hid (parse_any s w6 (by have := HS1.out; omega))
          rw [hr1] at HP1
          obtain ⟨m', hm1, hm2, hm3⟩ := Fa.apart_lex HS1.out HL.out
          have HPT := hid (Fa.parse_toks HL.out hm2 hm1)
          rcases hr2 : Fa.parse (Fa.apart l) with ⟨x2, g2, p2⟩
          rw [hr1, hr2] at HPT
          obtain ⟨rfl, rfl⟩ : x2 = x1 ∧ g2 = g1 := HPT.out
          have HP2 := hid (fun W => parse_any (Fa.apart l) W (by omega))
          rw [hr2] at HP2
          have HAL := hid hm3
          clear hr1 hr2 hm1 hm2 hm3
          go_wp2_with fail
          refine (HP1.out).mono ?_
          rintro e' w7 ⟨v7, rfl, hs7, hb7⟩
          obtain ⟨a7, k7, rfl⟩ := hs7.slice
          obtain ⟨W8, hW8⟩ : ∃ W8, W8 = w7.alloc (.cells #[.slice a7 x2.length k7] 24) := ⟨_, rfl⟩
          have hbx : Below w7.heap.size w7 W8 := by rw [hW8]; exact below_new _ _
          have H8 := hid ((H6.out.step hb7).step hbx)
          have HT8 := hid ((HT6.out.below hb7).below hbx)
          have HM8 := hid ((HM6.out.below hb7).below hbx)
          have X8 := hid (show HdW' w7 W8 w7.heap.size (.slice a7 x2.length k7) x2 from ⟨by rw [hW8]; exact One.new _ _ _, hs7.slOf.below hbx, H8.out.tab, hbx⟩)
          clear hs7 hb7 hbx
          go_upto_region 8 with (fail)
          rw [← hW8]
          clear hW8
          go_wp2_with fail
          refine (apart_any l _ W8 HT8.out (by have := HAL.out; omega)).mono ?_
          rintro e' w9 ⟨rfl, hb9⟩
          have H9 := hid (H8.out.step hb9)
          have HM9 := hid (HM8.out.below hb9)
          have X9 := hid (X8.out.step hb9)
          clear hb9
          go_wp2_with fail
          refine (HP2.out w9).mono ?_
          rintro e' w10 ⟨v10, rfl, hs10, hb10⟩
          obtain ⟨a10, k10, rfl⟩ := hs10.slice
          obtain ⟨W11, hW11⟩ : ∃ W11, W11 = w10.alloc (.cells #[.slice a10 x2.length k10] 24) := ⟨_, rfl⟩
          have hbx : Below w10.heap.size w10 W11 := by rw [hW11]; exact below_new _ _
          have H11 := hid ((H9.out.step hb10).step hbx)
          have HM11 := hid ((HM9.out.below hb10).below hbx)
          have X11 := hid ((X9.out.step hb10).step hbx)
          have Y11 := hid (show HdW' w10 W11 w10.heap.size (.slice a10 x2.length k10) x2 from ⟨by rw [hW11]; exact One.new _ _ _, hs10.slOf.below hbx, H11.out.tab, hbx⟩)
          clear hs10 hb10 hbx
          go_upto_region 9 with (fail)
          rw [← hW11]
          clear hW11
          have cx := X11.out.one.cell
          have zx := X11.out.one.lt
          have cy := Y11.out.one.cell
          have zy := Y11.out.one.lt
          have hgg : (g2 != g2) = false := by simp
          go_wp2_with fail
          refine (same_any x2 x2 _ _ W11 X11.out.sl Y11.out.sl).mono ?_
          rw [decide_eq_true rfl]
          rintro e' w12 ⟨rfl, hb12⟩
          have H12 := hid (H11.out.step hb12)
          have HM12 := hid (HM11.out.below hb12)
          clear hb12 cx zx cy zy hgg
          by_cases hf0 : f = 0
          · subst hf0
            have hq1 := hq0 rfl
            subst hq1
            have cH := H12.out.one.cell
            have zH := H12.out.one.lt
            rcases hr1 : Fa.parseCase d t with ⟨x1, g1, p1⟩
            have HP1 := hid (parseCase_any d _ t w12 H12.out.sl HN.out hd5 (by have := HS2.out; omega))
            rw [hr1] at HP1
            have hap := Fa.apart_lex HS2.out HLM.out
            obtain ⟨m', hm1, hm2, hm3⟩ := hap
            have HPT := hid (Fa.parseCase_toks (d := d) HLM.out hm2 hm1)
            rcases hr2 : Fa.parseCase d (Fa.apart m) with ⟨x2, g2, p2⟩
            rw [hr1, hr2] at HPT
            obtain ⟨rfl, rfl⟩ : x2 = x1 ∧ g2 = g1 := HPT.out
            go_wp2_with fail
            refine (HP1.out).mono ?_
            rintro e wa hp
            obtain ⟨aa, ka, rfl, hsa, hba⟩ := hp.sl
            have Ha := hid (H12.out.step hba)
            have HMa := hid (HM12.out.below hba)
            have HSa := hid (show SlOf wa (.slice aa x2.length ka) 1 numC x2 from hsa)
            have HAL := hid (show (Fa.apart m).length ≤ 4000 by omega)
            clear hp hsa hba hr1 cH zH hm1 hm2 hm3
            have HR2 := hid hr2
            clear hr2
            have b2 := Ha.out.one.cell
            have z2 := Ha.out.one.lt
            have HLN := hid hd5
            go_wp2_with fail
            refine wp_heldS (S := StillAt wa) (by kernel_rfl) ?_
            simp only [List.size_toArray, List.length_cons, List.length_nil, Nat.reduceAdd]
            intro hc
            have S0 : StillAt wa (Array.replicate 11 false) wa.drew := (Below.refl _ _).drew
            refine wpAnyS_take (i := 0) (v := .agg #[.slice vd d.length cap]) rfl (by kernel_rfl) (by kernel_rfl) (by kernel_rfl) (fun _ _ _ h => h) (fun _ _ => Iff.rfl) hc (by rfl) (fun wx hx => ?_) S0 (fun hc S0 => ?_)
            · have g := (hx.still.cell (p := ⟨w.heap.size, 0, none⟩) z2).trans b2
              go_simp
            try simp only [List.getElem_toArray, List.getElem_cons_zero, Act.put, List.setIfInBounds_toArray, List.set_cons_zero, List.set_cons_succ]
            refine wpAnyS_take (i := 1) (v := .slice am m.length cm) rfl (by kernel_rfl) (by kernel_rfl) (by kernel_rfl) (fun _ _ _ h => h) (fun _ _ => Iff.rfl) hc (by rfl) (fun wx hx => ?_) S0 (fun hc S0 => ?_)
            · go_simp
            try simp only [List.getElem_toArray, List.getElem_cons_succ, List.getElem_cons_zero, Act.put, List.setIfInBounds_toArray, List.set_cons_zero, List.set_cons_succ]
            refine wpAnyS_one (i := 2) rfl (by kernel_rfl) (by rfl) hc (fun K' hK => ?_)
            go_simp
            refine (apart_any m _ wa.drew (HMa.out.below (Below.refl _ _).drew) (by have := HAL.out; omega)).mono ?_
            rintro e w7 ⟨rfl, hb7⟩
            have hb7' : Below wa.heap.size wa w7 := Below.step (Below.refl _ _).drew hb7
            refine hK.out _ _ hb7' (fun hc => ?_)
            clear hK K'
            try simp only [List.getElem_toArray, List.getElem_cons_succ, List.getElem_cons_zero, Act.put, List.setIfInBounds_toArray, List.set_cons_zero, List.set_cons_succ]
            refine wpAnyS_one (i := 3) rfl (by kernel_rfl) (by rfl) hc (fun K' hK => ?_)
            go_simp
            refine (parseCase_any d (.slice vd d.length cap) (Fa.apart m) w7 (Ha.out.sl.below hb7') HN.out HLN.out (by have := HAL.out; omega)).mono ?_
            rw [HR2.out]
            rintro e w8 hp
            obtain ⟨a8, k8, rfl, hs8, hb8⟩ := hp.sl
            have hb8' : Below wa.heap.size wa w8 := Below.step hb7' hb8
            refine hK.out _ _ hb8' (fun hc => ?_)
            clear hK K'
            try simp only
            refine wpAnyS_one (i := 4) rfl (by kernel_rfl) (by rfl) hc (fun K' hK => ?_)
            go_simp
            refine hK.out _ _ hb8' (fun hc => ?_)
            clear hK K'
            try simp only [List.getElem_toArray, List.getElem_cons_succ, List.getElem_cons_zero, Act.put, List.setIfInBounds_toArray, List.set_cons_zero, List.set_cons_succ]
            have S0 : StillAt wa #[] w8 := hb8'
            refine wpAnyS_take (i := 5) (v := .slice a8 x2.length k8) rfl (by kernel_rfl) (by kernel_rfl) (by kernel_rfl) (fun _ _ _ h => h) (fun _ _ => Iff.rfl) hc (by rfl) (fun wx hx => ?_) S0 (fun hc S0 => ?_)
            · go_simp
            try simp only [List.getElem_toArray, List.getElem_cons_succ, List.getElem_cons_zero, Act.put, List.setIfInBounds_toArray, List.set_cons_zero, List.set_cons_succ]
            refine wpAnyS_take (i := 6) (v := .int .i64 g2) rfl (by kernel_rfl) (by kernel_rfl) (by kernel_rfl) (fun _ _ _ h => h) (fun _ _ => Iff.rfl) hc (by rfl) (fun wx hx => ?_) S0 (fun hc S0 => ?_)
            · go_simp
            try simp only [List.getElem_toArray, List.getElem_cons_succ, List.getElem_cons_zero, Act.put, List.setIfInBounds_toArray, List.set_cons_zero, List.set_cons_succ]
            refine wpAnyS_take (i := 7) (v := .int .i64 p2) rfl (by kernel_rfl) (by kernel_rfl) (by kernel_rfl) (fun _ _ _ h => h) (fun _ _ => Iff.rfl) hc (by rfl) (fun wx hx => ?_) S0 (fun hc S0 => ?_)
            · go_simp
            try simp only [List.getElem_toArray, List.getElem_cons_succ, List.getElem_cons_zero, Act.put, List.setIfInBounds_toArray, List.set_cons_zero, List.set_cons_succ]
            refine wpAnyS_take (i := 8) (v := .slice a8 x2.length k8) rfl (by kernel_rfl) (by kernel_rfl) (by kernel_rfl) (fun _ _ _ h => h) (fun _ _ => Iff.rfl) hc (by rfl) (fun wx hx => ?_) S0 (fun hc S0 => ?_)
            · go_simp
            try simp only [List.getElem_toArray, List.getElem_cons_succ, List.getElem_cons_zero, Act.put, List.setIfInBounds_toArray, List.set_cons_zero, List.set_cons_succ]
            refine wpAnyS_take (i := 9) (v := .int .i64 g2) rfl (by kernel_rfl) (by kernel_rfl) (by kernel_rfl) (fun _ _ _ h => h) (fun _ _ => Iff.rfl) hc (by rfl) (fun wx hx => ?_) S0 (fun hc S0 => ?_)
            · go_simp
            try simp only [List.getElem_toArray, List.getElem_cons_succ, List.getElem_cons_zero, Act.put, List.setIfInBounds_toArray, List.set_cons_zero, List.set_cons_succ]
            refine wpAnyS_take (i := 10) (v := .int .i64 p2) rfl (by kernel_rfl) (by kernel_rfl) (by kernel_rfl) (fun _ _ _ h => h) (fun _ _ => Iff.rfl) hc (by rfl) (fun wx hx => ?_) S0 (fun hc S0 => ?_)
            · go_simp
            try simp only [List.getElem_toArray, List.getElem_cons_succ, List.getElem_cons_zero, Act.put, List.setIfInBounds_toArray, List.set_cons_zero, List.set_cons_succ]
            refine wpAnyS_done (by kernel_rfl) ?_ _
            clear b2 z2 hc S0
            have HS8 := hid (show SlOf w8 (.slice a8 x2.length k8) 1 numC x2 from hs8)
            have HSb := hid (HSa.out.below hb8')
            have HB8 := hid (Below.step Ha.out.below hb8')
            clear hb7 hb7' hb8 hb8' hp hs8
            have hgg : (g2 == g2) = true := by simp
            go_wp2_with fail
            refine (equal_any x2 x2 _ _ w8 HSb.out HS8.out).mono ?_
            rw [decide_eq_true rfl]
            rintro e w9 ⟨rfl, hb9⟩
            go_wp2_with fail
            go_ret
            exact ⟨rfl, Below.step HB8.out hb9⟩
          · have hne : (f != 0) = true := by rw [bne_iff_ne]; exact hf0
            clear hf0
            go_wp2_with fail
            go_ret
            exact ⟨rfl, H12.out.below⟩
        · have hne0 : (e == 0) = false := by rw [beq_eq_false_iff_ne]; exact he0
          clear he0
          by_cases hf0 : f = 0
          · subst hf0
            have hq1 := hq0 rfl
            subst hq1
            have cH := H6.out.one.cell
            have zH := H6.out.one.lt
            rcases hr1 : Fa.parseCase d t with ⟨x1, g1, p1⟩
            have HP1 := hid (parseCase_any d _ t w6 H6.out.sl HN.out hd5 (by have := HS2.out; omega))
            rw [hr1] at HP1
            have hap := Fa.apart_lex HS2.out HLM.out
            obtain ⟨m', hm1, hm2, hm3⟩ := hap
            have HPT := hid (Fa.parseCase_toks (d := d) HLM.out hm2 hm1)
            rcases hr2 : Fa.parseCase d (Fa.apart m) with ⟨x2, g2, p2⟩
            rw [hr1, hr2] at HPT
            obtain ⟨rfl, rfl⟩ : x2 = x1 ∧ g2 = g1 := HPT.out
            go_wp2_with fail
            refine (HP1.out).mono ?_
            rintro e wa hp
            obtain ⟨aa, ka, rfl, hsa, hba⟩ := hp.sl
            have Ha := hid (H6.out.step hba)
            have HMa := hid (HM6.out.below hba)
            have HSa := hid (show SlOf wa (.slice aa x2.length ka) 1 numC x2 from hsa)
            have HAL := hid (show (Fa.apart m).length ≤ 4000 by omega)
            clear hp hsa hba hr1 cH zH hm1 hm2 hm3
            have HR2 := hid hr2
            clear hr2
            have b2 := Ha.out.one.cell
            have z2 := Ha.out.one.lt
            have HLN := hid hd5
            go_wp2_with fail
            refine wp_heldS (S := StillAt wa) (by kernel_rfl) ?_
            simp only [List.size_toArray, List.length_cons, List.length_nil, Nat.reduceAdd]
            intro hc
            have S0 : StillAt wa (Array.replicate 11 false) wa.drew := (Below.refl _ _).drew
            refine wpAnyS_take (i := 0) (v := .agg #[.slice vd d.length cap]) rfl (by kernel_rfl) (by kernel_rfl) (by kernel_rfl) (fun _ _ _ h => h) (fun _ _ => Iff.rfl) hc (by rfl) (fun wx hx => ?_) S0 (fun hc S0 => ?_)
            · have g := (hx.still.cell (p := ⟨w.heap.size, 0, none⟩) z2).trans b2
              go_simp
            try simp only [List.getElem_toArray, List.getElem_cons_zero, Act.put, List.setIfInBounds_toArray, List.set_cons_zero, List.set_cons_succ]
            refine wpAnyS_take (i := 1) (v := .slice am m.length cm) rfl (by kernel_rfl) (by kernel_rfl) (by kernel_rfl) (fun _ _ _ h => h) (fun _ _ => Iff.rfl) hc (by rfl) (fun wx hx => ?_) S0 (fun hc S0 => ?_)
            · go_simp
            try simp only [List.getElem_toArray, List.getElem_cons_succ, List.getElem_cons_zero, Act.put, List.setIfInBounds_toArray, List.set_cons_zero, List.set_cons_succ]
            refine wpAnyS_one (i := 2) rfl (by kernel_rfl) (by rfl) hc (fun K' hK => ?_)
            go_simp
            refine (apart_any m _ wa.drew (HMa.out.below (Below.refl _ _).drew) (by have := HAL.out; omega)).mono ?_
            rintro e w7 ⟨rfl, hb7⟩
            have hb7' : Below wa.heap.size wa w7 := Below.step (Below.refl _ _).drew hb7
            refine hK.out _ _ hb7' (fun hc => ?_)
            clear hK K'
            try simp only [List.getElem_toArray, List.getElem_cons_succ, List.getElem_cons_zero, Act.put, List.setIfInBounds_toArray, List.set_cons_zero, List.set_cons_succ]
            refine wpAnyS_one (i := 3) rfl (by kernel_rfl) (by rfl) hc (fun K' hK => ?_)
            go_simp
            refine (parseCase_any d (.slice vd d.length cap) (Fa.apart m) w7 (Ha.out.sl.below hb7') HN.out HLN.out (by have := HAL.out; omega)).mono ?_
            rw [HR2.out]
            rintro e w8 hp
            obtain ⟨a8, k8, rfl, hs8, hb8⟩ := hp.sl
            have hb8' : Below wa.heap.size wa w8 := Below.step hb7' hb8
            refine hK.out _ _ hb8' (fun hc => ?_)
            clear hK K'
            try simp only
            refine wpAnyS_one (i := 4) rfl (by kernel_rfl) (by rfl) hc (fun K' hK => ?_)
            go_simp
            refine hK.out _ _ hb8' (fun hc => ?_)
            clear hK K'
            try simp only [List.getElem_toArray, List.getElem_cons_succ, List.getElem_cons_zero, Act.put, List.setIfInBounds_toArray, List.set_cons_zero, List.set_cons_succ]
            have S0 : StillAt wa #[] w8 := hb8'
            refine wpAnyS_take (i := 5) (v := .slice a8 x2.length k8) rfl (by kernel_rfl) (by kernel_rfl) (by kernel_rfl) (fun _ _ _ h => h) (fun _ _ => Iff.rfl) hc (by rfl) (fun wx hx => ?_) S0 (fun hc S0 => ?_)
            · go_simp
            try simp only [List.getElem_toArray, List.getElem_cons_succ, List.getElem_cons_zero, Act.put, List.setIfInBounds_toArray, List.set_cons_zero, List.set_cons_succ]
            refine wpAnyS_take (i := 6) (v := .int .i64 g2) rfl (by kernel_rfl) (by kernel_rfl) (by kernel_rfl) (fun _ _ _ h => h) (fun _ _ => Iff.rfl) hc (by rfl) (fun wx hx => ?_) S0 (fun hc S0 => ?_)
            · go_simp
            try simp only [List.getElem_toArray, List.getElem_cons_succ, List.getElem_cons_zero, Act.put, List.setIfInBounds_toArray, List.set_cons_zero, List.set_cons_succ]
            refine wpAnyS_take (i := 7) (v := .int .i64 p2) rfl (by kernel_rfl) (by kernel_rfl) (by kernel_rfl) (fun _ _ _ h => h) (fun _ _ => Iff.rfl) hc (by rfl) (fun wx hx => ?_) S0 (fun hc S0 => ?_)
            · go_simp
            try simp only [List.getElem_toArray, List.getElem_cons_succ, List.getElem_cons_zero, Act.put, List.setIfInBounds_toArray, List.set_cons_zero, List.set_cons_succ]
            refine wpAnyS_take (i := 8) (v := .slice a8 x2.length k8) rfl (by kernel_rfl) (by kernel_rfl) (by kernel_rfl) (fun _ _ _ h => h) (fun _ _ => Iff.rfl) hc (by rfl) (fun wx hx => ?_) S0 (fun hc S0 => ?_)
            · go_simp
            try simp only [List.getElem_toArray, List.getElem_cons_succ, List.getElem_cons_zero, Act.put, List.setIfInBounds_toArray, List.set_cons_zero, List.set_cons_succ]
            refine wpAnyS_take (i := 9) (v := .int .i64 g2) rfl (by kernel_rfl) (by kernel_rfl) (by kernel_rfl) (fun _ _ _ h => h) (fun _ _ => Iff.rfl) hc (by rfl) (fun wx hx => ?_) S0 (fun hc S0 => ?_)
            · go_simp
            try simp only [List.getElem_toArray, List.getElem_cons_succ, List.getElem_cons_zero, Act.put, List.setIfInBounds_toArray, List.set_cons_zero, List.set_cons_succ]
            refine wpAnyS_take (i := 10) (v := .int .i64 p2) rfl (by kernel_rfl) (by kernel_rfl) (by kernel_rfl) (fun _ _ _ h => h) (fun _ _ => Iff.rfl) hc (by rfl) (fun wx hx => ?_) S0 (fun hc S0 => ?_)
            · go_simp
            try simp only [List.getElem_toArray, List.getElem_cons_succ, List.getElem_cons_zero, Act.put, List.setIfInBounds_toArray, List.set_cons_zero, List.set_cons_succ]
            refine wpAnyS_done (by kernel_rfl) ?_ _
            clear b2 z2 hc S0
            have HS8 := hid (show SlOf w8 (.slice a8 x2.length k8) 1 numC x2 from hs8)
            have HSb := hid (HSa.out.below hb8')
            have HB8 := hid (Below.step Ha.out.below hb8')
            clear hb7 hb7' hb8 hb8' hp hs8
            have hgg : (g2 == g2) = true := by simp
            go_wp2_with fail
            refine (equal_any x2 x2 _ _ w8 HSb.out HS8.out).mono ?_
            rw [decide_eq_true rfl]
            rintro e w9 ⟨rfl, hb9⟩
            go_wp2_with fail
            go_ret
            exact ⟨rfl, Below.step HB8.out hb9⟩
          · have hne : (f != 0) = true := by rw [bne_iff_ne]; exact hf0
            clear hf0
            go_wp2_with fail
            go_ret
            exact ⟨rfl, H6.out.below⟩
      · have d3 : decide ((2000 : Int) < ((bs t).size : Int)) = true := decide_eq_true (by omega)
        go_wp2_with fail
        go_ret
        exact ⟨rfl, H4.out.below⟩
    · have d2 : decide ((2000 : Int) < ((bs s).size : Int)) = true := decide_eq_true (by omega)
      go_wp2_with fail
      go_ret
      exact ⟨rfl, H4.out.below⟩

end Go.Proofs.YteogmlgmodeajaaDoor
