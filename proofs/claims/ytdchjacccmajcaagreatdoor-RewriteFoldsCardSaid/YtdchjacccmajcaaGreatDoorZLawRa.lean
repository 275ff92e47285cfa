/-
  RewriteFolds: the statement's function returns true. Conditions: what can be read of its arguments.
-/
import Derived.Test.YtdchjacccmajcaaGreatDoorZRn8
namespace Go.Proofs.YtdchjacccmajcaaGreatDoor
open Go.RowKit Go.Lib Go.Maps

set_option maxRecDepth 100000 in
set_option maxHeartbeats 20000000 in
theorem folds_law (t : Rw.Table) (tv : Value) (k : Int) (word : List UInt8) (most : Int) (W : World) (ht : TableRaw W t tv) (hT : Tabs W) (h10 : Tab10 W) (hx : word.length ≤ maxLen) :
    Calls Tryz.prog 7 #[tv, .int .i64 k, .string (bs word), .int .i64 most] W (Gives (.bool true) W) := by
  have HT := hid ht
  have HTT := hid hT
  have H10 := hid h10
  obtain ⟨⟨vr, vd, ve, rfl, ⟨ar, cr, rfl, -⟩, ⟨ad, cd, rfl, -⟩, ⟨ae, ce, rfl, -⟩⟩, -, -, -⟩ := ht
  clear hT h10
  obtain ⟨W1, hW1⟩ : ∃ W1, W1 = W.alloc (.cells #[.slice ar t.rules.length cr, .slice ad t.drops.length cd, .slice ae t.ends.length ce, .int .i64 t.drop, .int .i64 t.order, .int .i64 t.initial] 25) := ⟨_, rfl⟩
  have hb1 : Below W.heap.size W W1 := by rw [hW1]; exact (Below.refl _ W).alloc (Nat.le_refl _) _
  have T1 := hid (show Blk W1 W.heap.size 25 [.slice ar t.rules.length cr, .slice ad t.drops.length cd, .slice ae t.ends.length ce, .int .i64 t.drop, .int .i64 t.order, .int .i64 t.initial] by rw [hW1]; exact Blk.new W _ _)
  have HH := hid (head_true W1 (HTT.out.below hb1) (H10.out.below hb1))
  have B1 := hid hb1
  clear hb1
  go_enter Tryz.func7, Tryz.ntmps7
  go_upto_region 1 with (fail)
  rw [← hW1]
  clear hW1
  go_wp2_with fail
  refine (HH.out).mono ?_
  rintro e W2 ⟨rfl, hb2⟩
  have B2 := hid (Below.step B1.out hb2)
  have T2 := hid (T1.out.below hb2)
  clear hb2 HH
  have t0 := T2.out.cell (j := 0) rfl
  have t1 := T2.out.cell (j := 1) rfl
  have t2 := T2.out.cell (j := 2) rfl
  have t3 := T2.out.cell (j := 3) rfl
  have t4 := T2.out.cell (j := 4) rfl
  have t5 := T2.out.cell (j := 5) rfl
  have tl := T2.out.lt
  have HF := hid (few10_any t _ W2 (HT.out.below B2.out))
  go_wp2_with fail
  refine (HF.out).mono ?_
  rintro e W3 ⟨rfl, hbf⟩
  have B3 := hid (Below.step B2.out hbf)
  have T3 := hid (T2.out.below hbf)
  clear hbf HF t0 t1 t2 t3 t4 t5 tl
  cases hfew : Rw.fewB t with
  | false =>
    go_wp2_with fail
    go_ret
    exact ⟨rfl, B3.out⟩
  | true =>
  have TA := hid (HT.out.few10 hfew)
  clear hfew
  have hsz : (bs word).size = word.length := bs_len word
  by_cases h60 : word.length ≤ 60
  rotate_left
  · have g60 : decide ((60 : Int) < ((bs word).size : Int)) = true := decide_eq_true (by omega)
    have hmx : (bs word).size ≤ 9223372036854775807 := by unfold maxLen at hx; omega
    clear h60 hsz
    have t0 := T3.out.cell (j := 0) rfl
    have t1 := T3.out.cell (j := 1) rfl
    have t2 := T3.out.cell (j := 2) rfl
    have t3 := T3.out.cell (j := 3) rfl
    have t4 := T3.out.cell (j := 4) rfl
    have t5 := T3.out.cell (j := 5) rfl
    have tl := T3.out.lt
    go_wp2_with fail
    go_ret
    exact ⟨rfl, B3.out⟩
  have g60 : decide ((60 : Int) < ((bs word).size : Int)) = false := decide_eq_false (by omega)
  have hmx : (bs word).size ≤ 9223372036854775807 := by omega
  have H60 := hid h60
  clear h60 hsz
  have t0 := T3.out.cell (j := 0) rfl
  have t1 := T3.out.cell (j := 1) rfl
  have t2 := T3.out.cell (j := 2) rfl
  have t3 := T3.out.cell (j := 3) rfl
  have t4 := T3.out.cell (j := 4) rfl
  have t5 := T3.out.cell (j := 5) rfl
  have tl := T3.out.lt
  have HV := hid (valid_any t _ W3 (TA.out.below B3.out) (HTT.out.below B3.out))
  go_wp2_with fail
  refine (HV.out).mono ?_
  rintro e W4 ⟨rfl, hbf⟩
  have B4 := hid (Below.step B3.out hbf)
  have T4 := hid (T3.out.below hbf)
  clear hbf HV t0 t1 t2 t3 t4 t5 tl
  cases hv : Rw.valid t with
  | false =>
    clear hv
    go_wp2_with fail
    go_ret
    exact ⟨rfl, B4.out⟩
  | true =>
  have HVV := hid hv
  clear hv
  have hb60 : (bs word).size ≤ 1000000 := by rw [bs_len]; have := H60.out; omega
  have HFO := hid (fold_any k (bs word) W4 hb60 (HTT.out.below B4.out))
  have H6 := hid (show word.length ≤ 1000000 by have := H60.out; omega)
  cases hl : Sc.lets k word with
  | none =>
    have HL := hid hl
    clear hl
    go_wp2_with fail
    refine (HFO.out).mono ?_
    rintro e W5 ⟨he, hb⟩
    rw [bs_list, HL.out] at he
    subst he
    have B5 := hid (Below.step B4.out hb)
    have T5 := hid (T4.out.below hb)
    clear hb
    have t0 := T5.out.cell (j := 0) rfl
    have t1 := T5.out.cell (j := 1) rfl
    have t2 := T5.out.cell (j := 2) rfl
    have t3 := T5.out.cell (j := 3) rfl
    have t4 := T5.out.cell (j := 4) rfl
    have t5 := T5.out.cell (j := 5) rfl
    have tl := T5.out.lt
    have HFO2 := hid (forms_no (k := k) (word := bs word) (most := most) (TA.out.below B5.out) (HTT.out.below B5.out) hb60 (.inl (by rw [bs_list]; exact Fo.letters_none HL.out)))
    go_wp2_with fail
    refine (HFO2.out).mono ?_
    rintro e W6 ⟨rfl, hb⟩
    have B6 := hid (Below.step B5.out hb)
    clear hb
    go_wp2_with fail
    go_ret
    exact ⟨rfl, B6.out⟩
  | some ls =>
    have HL := hid hl
    clear hl
    have hf60 : (bs (Sc.fold word)).size ≤ 1000000 := by rw [bs_len]; unfold Sc.fold; rw [List.length_map]; have := H60.out; omega
    have HLF := hid (show (Sc.fold word).length ≤ 1000000 by rw [bs_len] at hf60; exact hf60)
    obtain ⟨L, hL⟩ : ∃ L, L = Fo.letters k word := ⟨_, rfl⟩
    have HLE := hid (show Fo.letters k word = L ∧ Fo.letters k (Sc.fold word) = L ∧ L ≠ [] from ⟨hL.symm, by rw [Fo.letters_fold HL.out]; exact hL.symm, by rw [hL]; exact (Fo.letters_some HL.out).2⟩)
    clear hL
    go_wp2_with fail
    refine (HFO.out).mono ?_
    rintro e W5 ⟨he, hb⟩
    rw [bs_list, HL.out] at he
    subst he
    have B5 := hid (Below.step B4.out hb)
    have T5 := hid (T4.out.below hb)
    clear hb HFO
    have t0 := T5.out.cell (j := 0) rfl
    have t1 := T5.out.cell (j := 1) rfl
    have t2 := T5.out.cell (j := 2) rfl
    have t3 := T5.out.cell (j := 3) rfl
    have t4 := T5.out.cell (j := 4) rfl
    have t5 := T5.out.cell (j := 5) rfl
    have tl := T5.out.lt
    have C5 := hid (forms_ans (k := k) (word := bs word) most (TA.out.below B5.out) (HTT.out.below B5.out) hb60 HVV.out (by rw [bs_list]; exact HLE.out.1) HLE.out.2.2)
    go_wp2_with fail
    refine (C5.out).mono ?_
    rintro e W6 ⟨a, m, e1, xa, xc, ya, yc, rfl, h1, h2, h3, hb⟩
    have B6 := hid (Below.step B5.out hb)
    have T6 := hid (T5.out.below hb)
    have HA := hid (And.intro h1 (And.intro h2 h3))
    clear C5 t0 t1 t2 t3 t4 t5 tl
    clear h1 h2 h3 hb
    have t0 := T6.out.cell (j := 0) rfl
    have t1 := T6.out.cell (j := 1) rfl
    have t2 := T6.out.cell (j := 2) rfl
    have t3 := T6.out.cell (j := 3) rfl
    have t4 := T6.out.cell (j := 4) rfl
    have t5 := T6.out.cell (j := 5) rfl
    have tl := T6.out.lt
    have C6 := hid (forms_ans (k := k) (word := bs (Sc.fold word)) most (TA.out.below B6.out) (HTT.out.below B6.out) hf60 HVV.out (by rw [bs_list]; exact HLE.out.2.1) HLE.out.2.2)
    go_wp2_with fail
    refine (C6.out).mono ?_
    rintro e W7 ⟨b, n, e2, za, zc, wa, wc, rfl, h1, h2, h3, hb⟩
    have B7 := hid (Below.step B6.out hb)
    have T7 := hid (T6.out.below hb)
    have HB := hid (And.intro h1 h2)
    have HEQ := hid (HA.out.2.2.uniq (Fo.good_rules HVV.out k) h3)
    have HLN := hid (HA.out.2.2.len)
    have HA := hid (And.intro (HA.out.1.below hb) (HA.out.2.1.below hb))
    clear C6 t0 t1 t2 t3 t4 t5 tl
    clear h1 h2 h3 hb
    obtain ⟨rfl, rfl, rfl⟩ := HEQ.out
    obtain ⟨vs, hvs⟩ : ∃ vs, Rw.variants t k word = (vs, 0) := by
      unfold Rw.variants
      rw [if_neg]
      · exact ⟨_, rfl⟩
      · rintro (h | h)
        · rw [HLE.out.1] at h; exact HLE.out.2.2 h
        · rw [HVV.out] at h; cases h
    obtain ⟨dc, hdc⟩ : ∃ dc, Rw.dropping t k word = (dc, 0) := by
      unfold Rw.dropping
      rw [HL.out]
      simp only
      rw [if_pos HVV.out]
      exact ⟨_, rfl⟩
    have HVS := hid hvs
    have HDC := hid hdc
    clear hvs hdc
    have t0 := T7.out.cell (j := 0) rfl
    have t1 := T7.out.cell (j := 1) rfl
    have t2 := T7.out.cell (j := 2) rfl
    have t3 := T7.out.cell (j := 3) rfl
    have t4 := T7.out.cell (j := 4) rfl
    have t5 := T7.out.cell (j := 5) rfl
    have tl := T7.out.lt
    have C7 := hid (variants_is (k := k) (word := word) (TA.out.below B7.out) (HTT.out.below B7.out) H6.out HVS.out)
    go_wp2_with fail
    refine (C7.out).mono ?_
    rintro e W8 ⟨pa, pc, rfl, h1, hb⟩
    have B8 := hid (Below.step B7.out hb)
    have T8 := hid (T7.out.below hb)
    have HP := hid (h1)
    have HA := hid (And.intro (HA.out.1.below hb) (HA.out.2.below hb))
    have HB := hid (And.intro (HB.out.1.below hb) (HB.out.2.below hb))
    clear C7 t0 t1 t2 t3 t4 t5 tl
    clear h1 hb
    have t0 := T8.out.cell (j := 0) rfl
    have t1 := T8.out.cell (j := 1) rfl
    have t2 := T8.out.cell (j := 2) rfl
    have t3 := T8.out.cell (j := 3) rfl
    have t4 := T8.out.cell (j := 4) rfl
    have t5 := T8.out.cell (j := 5) rfl
    have tl := T8.out.lt
    have C8 := hid (variants_is (k := k) (word := Sc.fold word) (TA.out.below B8.out) (HTT.out.below B8.out) HLF.out (by rw [Rw.variants_fold HL.out]; exact HVS.out))
    go_wp2_with fail
    refine (C8.out).mono ?_
    rintro e W9 ⟨qa, qc, rfl, h1, hb⟩
    have B9 := hid (Below.step B8.out hb)
    have T9 := hid (T8.out.below hb)
    have HQ := hid (h1)
    have HP := hid (HP.out.below hb)
    have HA := hid (And.intro (HA.out.1.below hb) (HA.out.2.below hb))
    have HB := hid (And.intro (HB.out.1.below hb) (HB.out.2.below hb))
    clear C8 t0 t1 t2 t3 t4 t5 tl
    clear h1 hb
    have t0 := T9.out.cell (j := 0) rfl
    have t1 := T9.out.cell (j := 1) rfl
    have t2 := T9.out.cell (j := 2) rfl
    have t3 := T9.out.cell (j := 3) rfl
    have t4 := T9.out.cell (j := 4) rfl
    have t5 := T9.out.cell (j := 5) rfl
    have tl := T9.out.lt
    have C9 := hid (dropping_any t _ k word W9 (TA.out.below B9.out) (HTT.out.below B9.out) H6.out)
    rw [HDC.out] at C9
    go_wp2_with fail
    refine (C9.out).mono ?_
    rintro e W10 ⟨rfl, hb⟩
    have B10 := hid (Below.step B9.out hb)
    have T10 := hid (T9.out.below hb)
    have HP := hid (HP.out.below hb)
    have HQ := hid (HQ.out.below hb)
    have HA := hid (And.intro (HA.out.1.below hb) (HA.out.2.below hb))
    have HB := hid (And.intro (HB.out.1.below hb) (HB.out.2.below hb))
    clear hb C9 t0 t1 t2 t3 t4 t5 tl
    have t0 := T10.out.cell (j := 0) rfl
    have t1 := T10.out.cell (j := 1) rfl
    have t2 := T10.out.cell (j := 2) rfl
    have t3 := T10.out.cell (j := 3) rfl
    have t4 := T10.out.cell (j := 4) rfl
    have t5 := T10.out.cell (j := 5) rfl
    have tl := T10.out.lt
    have C10 := hid (dropping_any t _ k (Sc.fold word) W10 (TA.out.below B10.out) (HTT.out.below B10.out) HLF.out)
    rw [Rw.dropping_fold HL.out, HDC.out] at C10
    go_wp2_with fail
    refine (C10.out).mono ?_
    rintro e W11 ⟨rfl, hb⟩
    have B11 := hid (Below.step B10.out hb)
    have T11 := hid (T10.out.below hb)
    have HP := hid (HP.out.below hb)
    have HQ := hid (HQ.out.below hb)
    have HA := hid (And.intro (HA.out.1.below hb) (HA.out.2.below hb))
    have HB := hid (And.intro (HB.out.1.below hb) (HB.out.2.below hb))
    clear hb C10 t0 t1 t2 t3 t4 t5 tl
    have g1 : (e1 == e1) = true := by simp
    have g2 : (dc == dc) = true := by simp
    have D1 := hid (sameForms_any a m a m _ _ _ _ W11 HA.out.1 HA.out.2 HB.out.1 HB.out.2)
    rw [sameForms_yes rfl rfl HLN.out.1] at D1
    go_wp2_with fail
    refine (D1.out).mono ?_
    rintro e W12 ⟨rfl, hb⟩
    have B12 := hid (Below.step B11.out hb)
    have D2 := hid (sameVar_any vs vs _ _ W12 (HP.out.below hb) (HQ.out.below hb))
    rw [decide_eq_true rfl] at D2
    clear hb D1
    go_wp2_with fail
    refine (D2.out).mono ?_
    rintro e W13 ⟨rfl, hb⟩
    have B13 := hid (Below.step B12.out hb)
    clear hb
    go_wp2_with fail
    go_ret
    exact ⟨rfl, B13.out⟩

end Go.Proofs.YtdchjacccmajcaaGreatDoor
