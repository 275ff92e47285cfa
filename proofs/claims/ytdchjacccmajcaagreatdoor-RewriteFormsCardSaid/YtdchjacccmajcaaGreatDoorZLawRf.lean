/-
  RewriteForms: the statement's function returns true. Conditions: what can be read of its arguments.
-/
import Derived.Test.YtdchjacccmajcaaGreatDoorZRn13
namespace Fo
theorem re_len {t : Rw.Table} {k : Int} {L : List (List UInt8)} (hv : Rw.valid t = true) {i : Nat} {f : List UInt8} {c : Int} (h : Re L (Al.rulesFrom k 0 t.rules) i f c) : f.length ≤ 3 * (L.length - i) := by
  induction h with
  | nil => simp
  | cons hr hf h ih =>
    obtain ⟨q, h1, h2, h3, h4, h5⟩ := Al.rulesFrom_from k _ _ _ hr
    have hok := Rw.valid_all hv q h1
    unfold Rw.ruleOk Rw.isForm at hok
    simp only [Bool.and_eq_true, decide_eq_true_eq] at hok
    have h6 := hok.1.2.1
    have h7 := (good_rules hv k).some_ _ hr
    have h8 := fits_le hf
    rw [List.length_append, h4]
    omega
end Fo
namespace Go.Proofs.YtdchjacccmajcaaGreatDoor
open Go.RowKit Go.Lib Go.Maps

set_option maxRecDepth 100000 in
set_option maxHeartbeats 40000000 in
theorem forms_law (t : Rw.Table) (tv : Value) (k : Int) (word : List UInt8) (most : Int) (W : World) (ht : TableRaw W t tv) (hT : Tabs W) (h10 : Tab10 W) (hx : word.length ≤ maxLen) :
    Calls Tryz.prog 4 #[tv, .int .i64 k, .string (bs word), .int .i64 most] W (Gives (.bool true) W) := by
  have HT := hid ht
  have HTT := hid hT
  have H10 := hid h10
  obtain ⟨⟨vr, vd, ve, rfl, ⟨ar, cr, rfl, -⟩, ⟨ad, cd, rfl, -⟩, ⟨ae, ce, rfl, -⟩⟩, -, -, -⟩ := ht
  clear hT h10
  obtain ⟨W1, hW1⟩ : ∃ W1, W1 = W.alloc (.cells #[.slice ar t.rules.length cr, .slice ad t.drops.length cd, .slice ae t.ends.length ce, .int .i64 t.drop, .int .i64 t.order, .int .i64 t.initial] 25) := ⟨_, rfl⟩
  have hb1 : Below W.heap.size W W1 := by rw [hW1]; exact (Below.refl _ W).alloc (Nat.le_refl _) _
  have T1 := hid (show Blk W1 W.heap.size 25 [.slice ar t.rules.length cr, .slice ad t.drops.length cd, .slice ae t.ends.length ce, .int .i64 t.drop, .int .i64 t.order, .int .i64 t.initial] by rw [hW1]; exact Blk.new W _ _)
  have HH := hid (head_true W1 (HTT.out.below hb1) (H10.out.below hb1))
  have B1 := hid hb1
  clear hb1
  go_enter Tryz.func4, Tryz.ntmps4
  go_upto_region 1 with (fail)
  rw [← hW1]
  clear hW1
  go_wp2_with fail
  refine (HH.out).mono ?_
  rintro e W2 ⟨rfl, hb2⟩
  have B2 := hid (Below.step B1.out hb2)
  have T2 := hid (T1.out.below hb2)
  clear hb2 HH
  obtain ⟨L, hL⟩ : ∃ L, L = Fo.letters k word := ⟨_, rfl⟩
  have hL12 := Fo.letters_len k word
  rw [← hL] at hL12
  have HLT := hid (letters10_big k (bs word) W2 (by rw [bs_len]; exact hx) (HTT.out.below B2.out))
  rw [bs_list] at HLT
  unfold Let10 at HLT
  rw [← hL] at HLT
  have HLL := hid hL
  clear hL
  go_wp2_with fail
  refine (HLT.out).mono ?_
  rintro e W3 ⟨lv, rfl, hown, hb⟩
  obtain ⟨la, lc, rfl⟩ := ownsRow_slice hown
  have HL := hid (show SlOf W3 (.slice la L.length lc) 1 strC L from SlOf.own hown (fun _ _ => rfl))
  have B3 := hid (Below.step B2.out hb)
  have T3 := hid (T2.out.below hb)
  clear hb hown HLT
  have t0 := T3.out.cell (j := 0) rfl
  have t1 := T3.out.cell (j := 1) rfl
  have t2 := T3.out.cell (j := 2) rfl
  have t3 := T3.out.cell (j := 3) rfl
  have t4 := T3.out.cell (j := 4) rfl
  have t5 := T3.out.cell (j := 5) rfl
  have tl := T3.out.lt
  have HF := hid (few10_any t _ W3 (HT.out.below B3.out))
  go_wp2_with fail
  refine (HF.out).mono ?_
  rintro e W4 ⟨rfl, hbf⟩
  have B4 := hid (Below.step B3.out hbf)
  have T4 := hid (T3.out.below hbf)
  have HL := hid (HL.out.below hbf)
  clear hbf HF t0 t1 t2 t3 t4 t5 tl
  cases hfew : Rw.fewB t with
  | false =>
    go_wp2_with fail
    go_ret
    exact ⟨rfl, B4.out⟩
  | true =>
  have TA := hid (HT.out.few10 hfew)
  clear hfew
  have hsz : (bs word).size = word.length := bs_len word
  by_cases h60 : word.length ≤ 60
  rotate_left
  · have g60 : decide ((60 : Int) < ((bs word).size : Int)) = true := decide_eq_true (by omega)
    have hmx : (bs word).size ≤ 9223372036854775807 := by unfold maxLen at hx; omega
    clear h60 hsz
    have t0 := T4.out.cell (j := 0) rfl
    have t1 := T4.out.cell (j := 1) rfl
    have t2 := T4.out.cell (j := 2) rfl
    have t3 := T4.out.cell (j := 3) rfl
    have t4 := T4.out.cell (j := 4) rfl
    have t5 := T4.out.cell (j := 5) rfl
    have tl := T4.out.lt
    go_wp2_with fail
    go_ret
    exact ⟨rfl, B4.out⟩
  have g60 : decide ((60 : Int) < ((bs word).size : Int)) = false := decide_eq_false (by omega)
  have hmx : (bs word).size ≤ 9223372036854775807 := by omega
  have H60 := hid h60
  clear h60 hsz
  have t0 := T4.out.cell (j := 0) rfl
  have t1 := T4.out.cell (j := 1) rfl
  have t2 := T4.out.cell (j := 2) rfl
  have t3 := T4.out.cell (j := 3) rfl
  have t4 := T4.out.cell (j := 4) rfl
  have t5 := T4.out.cell (j := 5) rfl
  have tl := T4.out.lt
  have HV := hid (valid_any t _ W4 (TA.out.below B4.out) (HTT.out.below B4.out))
  go_wp2_with fail
  refine (HV.out).mono ?_
  rintro e W5 ⟨rfl, hbf⟩
  have B5 := hid (Below.step B4.out hbf)
  have T5 := hid (T4.out.below hbf)
  have HL := hid (HL.out.below hbf)
  clear hbf HV t0 t1 t2 t3 t4 t5 tl
  cases hv : Rw.valid t with
  | false =>
    clear hv
    go_wp2_with fail
    go_ret
    exact ⟨rfl, B5.out⟩
  | true =>
  have HVV := hid hv
  clear hv
  by_cases h0 : L.length = 0
  · have g0 : ((L.length : Int) == 0) = true := by rw [h0]; rfl
    clear h0
    go_wp2_with fail
    go_ret
    exact ⟨rfl, B5.out⟩
  have g0 : ((L.length : Int) == 0) = false := by rw [beq_eq_false_iff_ne]; omega
  have hb60 : (bs word).size ≤ 1000000 := by rw [bs_len]; have := H60.out; omega
  have HNE := hid (show L ≠ [] from fun e => h0 (by rw [e]; rfl))
  clear h0
  have t0 := T5.out.cell (j := 0) rfl
  have t1 := T5.out.cell (j := 1) rfl
  have t2 := T5.out.cell (j := 2) rfl
  have t3 := T5.out.cell (j := 3) rfl
  have t4 := T5.out.cell (j := 4) rfl
  have t5 := T5.out.cell (j := 5) rfl
  have tl := T5.out.lt
  have C5 := hid (forms_ans (k := k) (word := bs word) (L := L) most (TA.out.below B5.out) (HTT.out.below B5.out) hb60 HVV.out (by rw [bs_list]; exact HLL.out.symm) HNE.out)
  go_wp2_with fail
  refine (C5.out).mono ?_
  rintro e W6 ⟨a, m, er, xa, xc, ya, yc, rfl, h1, h2, h3, hb⟩
  have B6 := hid (Below.step B5.out hb)
  have T6 := hid (T5.out.below hb)
  have HL := hid (HL.out.below hb)
  have HA := hid (And.intro h1 (And.intro h2 h3))
  have hlb := HA.out.2.2.len
  clear C5 h1 h2 h3 hb t0 t1 t2 t3 t4 t5 tl
  rcases hlb.2.2 with rfl | rfl
  rotate_left
  · obtain ⟨rfl, rfl⟩ : a = [] ∧ m = [] := by
      have h := HA.out.2.2
      generalize he : (2 : Int) = z at h
      cases h with
      | many _ => exact ⟨rfl, rfl⟩
      | ok _ => cases he
    clear hlb
    go_wp2_with fail
    go_ret
    exact ⟨rfl, B6.out⟩
  have HFA := hid (show Fo.Forms Fo.lt L (Al.rulesFrom k 0 t.rules) most a m by
    have h := HA.out.2.2
    generalize he : (0 : Int) = z at h
    cases h with
    | many _ => cases he
    | ok h => exact h)
  have hlen := HFA.out.len
  have ha1k := HFA.out.few
  obtain ⟨na, hna⟩ : ∃ q, q = a.length := ⟨_, rfl⟩
  rw [hlen]
  rw [← hna] at hlen ha1k ⊢
  have HNA := hid (And.intro hna hlen)
  have g1 : ((na : Int) != (na : Int)) = false := by simp
  have g2 : decide ((1000 : Int) < (na : Int)) = false := decide_eq_false (by omega)
  have g2' : decide (1000 < na) = false := decide_eq_false (by omega)
  clear hlb hlen hna
  go_wp2_with fail
  go_loopw [14] (fun iv wr => ∃ i : Nat, i ≤ na ∧ iv = .int .i64 i ∧ Hid (Below W6.heap.size W6 wr)) (fun iv _ => na - (RowKit.intOf iv).toNat)
  case atStart => exact ⟨0, Nat.zero_le _, rfl, Below.refl _ _⟩
  case round =>
    obtain ⟨i, hi, rfl, HR⟩ := hrel
    by_cases hin : i < na
    · obtain ⟨x, hxx⟩ : ∃ x, a[i]? = some x := ⟨_, List.getElem?_eq_getElem (by rw [← HNA.out.1]; exact hin)⟩
      obtain ⟨u, huu⟩ : ∃ u, m[i]? = some u := ⟨_, List.getElem?_eq_getElem (by rw [HNA.out.2]; exact hin)⟩
      have HXU := hid (And.intro hxx huu)
      obtain ⟨hle1, hle2⟩ := HFA.out.cost i x u hxx huu
      have hu0 := (hle1.1.cost (Fo.good_rules HVV.out k)).1
      have HLE := hid hle1
      have hxl : x.length ≤ 1000 := by
        have := Fo.re_len HVV.out hle1.1
        omega
      have i0 : (0 : Int) ≤ (i : Int) := by omega
      have i1 : (i : Int) < (na : Int) := by omega
      have b1 : decide (u < 0) = false := decide_eq_false (by omega)
      have b2 : decide (most < u) = false := decide_eq_false (by omega)
      obtain ⟨ga, oa, rfl, za1, v1⟩ := rn_cell1 (f := fun x => Value.string (bs x)) (HA.out.1.below HR.out) hxx
      obtain ⟨gm, om, rfl, zm1, v2⟩ := rn_cell1 (f := fun x => Value.int .i64 x) (HA.out.2.1.below HR.out) huu
      clear hxx huu hle1 hle2
      by_cases hi0 : i = 0
      · have c0 : decide ((0 : Int) < (i : Int)) = false := decide_eq_false (by omega)
        have c0' : decide (0 < i) = false := decide_eq_false (by omega)
        clear hi0
        go_wp2_with fail
        go_quiet (fail)
        clear c0 c0'
        obtain ⟨wq, hwq⟩ : ∃ w, w = wr.drewN nq := ⟨_, rfl⟩
        have HRQ := hid (show Below W6.heap.size W6 wq by rw [hwq]; exact HR.out.trans ((Below.drewQ _ _).mono HR.out.size))
        have w1 : wq.cell? ⟨ga, oa + i, none⟩ = some (.string (bs x)) := by rw [hwq]; exact v1
        have w2 : wq.cell? ⟨gm, om + i, none⟩ = some (.int .i64 u) := by rw [hwq]; exact v2
        have y1 : ga < wq.heap.size := by rw [hwq]; exact za1
        have y2 : gm < wq.heap.size := by rw [hwq]; exact zm1
        rw [← hwq]
        clear hwq v1 v2 za1 zm1 b1 b2
        by_cases h20 : i < 20
        · have d0 : decide ((i : Int) < 20) = true := decide_eq_true (by omega)
          have d0' : decide (i < 20) = true := decide_eq_true h20
          have T7 := T6.out.below HRQ.out
          have t0 := T7.cell (j := 0) rfl
          have t1 := T7.cell (j := 1) rfl
          have t2 := T7.cell (j := 2) rfl
          have t3 := T7.cell (j := 3) rfl
          have t4 := T7.cell (j := 4) rfl
          have t5 := T7.cell (j := 5) rfl
          have tl := T7.lt
          have hbq := Below.step B6.out HRQ.out
          have HLA := hid (least_any t _ k L _ x u wq.drew ((TA.out.below hbq).below (Below.refl _ _).drew) ((HTT.out.below hbq).below (Below.refl _ _).drew) HVV.out ((HL.out.below HRQ.out).below (Below.refl _ _).drew) hL12 hxl HLE.out)
          have g9 : (u != u) = false := by simp
          clear T7 hbq h20
          go_upto_region 15 with (fail)
          refine wp_heldS (S := StillAt wq) (by kernel_rfl) ?_
          simp only [List.size_toArray, List.length_cons, List.length_nil, Nat.reduceAdd]
          intro hc
          have S0 : StillAt wq (Array.replicate 17 false) wq.drew := (Below.refl _ _).drew
          refine wpAnyS_take (i := 0) (v := .int .i64 i) rfl (by kernel_rfl) (by kernel_rfl) (by kernel_rfl) (fun _ _ _ h => h) (fun _ _ => Iff.rfl) hc (by first | rfl | simp [Region.wanted]) (fun wx hx => ?_) S0 (fun hc S0 => ?_)
          · go_simp
          try simp only [List.getElem_toArray, List.getElem_cons_zero, Act.put, List.setIfInBounds_toArray, List.set_cons_zero, List.set_cons_succ]
          refine wpAnyS_take (i := 1) (v := .bool true) rfl (by kernel_rfl) (by kernel_rfl) (by kernel_rfl) (fun _ _ _ h => h) (fun _ _ => Iff.rfl) hc (by first | rfl | simp [Region.wanted]) (fun wx hx => ?_) S0 (fun hc S0 => ?_)
          · go_simp
          try simp only [List.getElem_toArray, List.getElem_cons_succ, List.getElem_cons_zero, Act.put, List.setIfInBounds_toArray, List.set_cons_zero, List.set_cons_succ]
          refine wpAnyS_take (i := 2) (v := .bool true) rfl (by kernel_rfl) (by kernel_rfl) (by kernel_rfl) (fun _ _ _ h => h) (fun _ _ => Iff.rfl) hc (by first | rfl | simp [Region.wanted]) (fun wx hx => ?_) S0 (fun hc S0 => ?_)
          · go_simp
          try simp only [List.getElem_toArray, List.getElem_cons_succ, List.getElem_cons_zero, Act.put, List.setIfInBounds_toArray, List.set_cons_zero, List.set_cons_succ]
          refine wpAnyS_take (i := 3) (v := .agg #[.slice ar t.rules.length cr, .slice ad t.drops.length cd, .slice ae t.ends.length ce, .int .i64 t.drop, .int .i64 t.order, .int .i64 t.initial]) rfl (by kernel_rfl) (by kernel_rfl) (by kernel_rfl) (fun _ _ _ h => h) (fun _ _ => Iff.rfl) hc (by first | rfl | simp [Region.wanted]) (fun wx hx => ?_) S0 (fun hc S0 => ?_)
          · have f0 := (hx.still.cell (p := ⟨W.heap.size, 0, none⟩) tl).trans t0; have f1 := (hx.still.cell (p := ⟨W.heap.size, 1, none⟩) tl).trans t1; have f2 := (hx.still.cell (p := ⟨W.heap.size, 2, none⟩) tl).trans t2; have f3 := (hx.still.cell (p := ⟨W.heap.size, 3, none⟩) tl).trans t3; have f4 := (hx.still.cell (p := ⟨W.heap.size, 4, none⟩) tl).trans t4; have f5 := (hx.still.cell (p := ⟨W.heap.size, 5, none⟩) tl).trans t5; have fz := Nat.lt_of_lt_of_le tl hx.still.size
            go_simp
          try simp only [List.getElem_toArray, List.getElem_cons_succ, List.getElem_cons_zero, Act.put, List.setIfInBounds_toArray, List.set_cons_zero, List.set_cons_succ]
          refine wpAnyS_take (i := 4) (v := .int .i64 k) rfl (by kernel_rfl) (by kernel_rfl) (by kernel_rfl) (fun _ _ _ h => h) (fun _ _ => Iff.rfl) hc (by first | rfl | simp [Region.wanted]) (fun wx hx => ?_) S0 (fun hc S0 => ?_)
          · go_simp
          try simp only [List.getElem_toArray, List.getElem_cons_succ, List.getElem_cons_zero, Act.put, List.setIfInBounds_toArray, List.set_cons_zero, List.set_cons_succ]
          refine wpAnyS_take (i := 5) (v := .slice la L.length lc) rfl (by kernel_rfl) (by kernel_rfl) (by kernel_rfl) (fun _ _ _ h => h) (fun _ _ => Iff.rfl) hc (by first | rfl | simp [Region.wanted]) (fun wx hx => ?_) S0 (fun hc S0 => ?_)
          · go_simp
          try simp only [List.getElem_toArray, List.getElem_cons_succ, List.getElem_cons_zero, Act.put, List.setIfInBounds_toArray, List.set_cons_zero, List.set_cons_succ]
          refine wpAnyS_take (i := 6) (v := .slice (some ⟨ga, oa, none⟩) na xc) rfl (by kernel_rfl) (by kernel_rfl) (by kernel_rfl) (fun _ _ _ h => h) (fun _ _ => Iff.rfl) hc (by first | rfl | simp [Region.wanted]) (fun wx hx => ?_) S0 (fun hc S0 => ?_)
          · go_simp
          try simp only [List.getElem_toArray, List.getElem_cons_succ, List.getElem_cons_zero, Act.put, List.setIfInBounds_toArray, List.set_cons_zero, List.set_cons_succ]
          refine wpAnyS_take (i := 7) (v := .int .i64 i) rfl (by kernel_rfl) (by kernel_rfl) (by kernel_rfl) (fun _ _ _ h => h) (fun _ _ => Iff.rfl) hc (by first | rfl | simp [Region.wanted]) (fun wx hx => ?_) S0 (fun hc S0 => ?_)
          · go_simp
          try simp only [List.getElem_toArray, List.getElem_cons_succ, List.getElem_cons_zero, Act.put, List.setIfInBounds_toArray, List.set_cons_zero, List.set_cons_succ]
          refine wpAnyS_take (i := 8) (v := .pointer (some ⟨ga, oa + i, none⟩)) rfl (by kernel_rfl) (by kernel_rfl) (by kernel_rfl) (fun _ _ _ h => h) (fun _ _ => Iff.rfl) hc (by first | rfl | simp [Region.wanted]) (fun wx hx => ?_) S0 (fun hc S0 => ?_)
          · go_simp
          try simp only [List.getElem_toArray, List.getElem_cons_succ, List.getElem_cons_zero, Act.put, List.setIfInBounds_toArray, List.set_cons_zero, List.set_cons_succ]
          refine wpAnyS_take (i := 9) (v := .string (bs x)) rfl (by kernel_rfl) (by kernel_rfl) (by kernel_rfl) (fun _ _ _ h => h) (fun _ _ => Iff.rfl) hc (by first | rfl | simp [Region.wanted]) (fun wx hx => ?_) S0 (fun hc S0 => ?_)
          · have y := (hx.still.cell (p := ⟨ga, oa + i, none⟩) y1).trans w1
            go_simp
          try simp only [List.getElem_toArray, List.getElem_cons_succ, List.getElem_cons_zero, Act.put, List.setIfInBounds_toArray, List.set_cons_zero, List.set_cons_succ]
          refine wpAnyS_take (i := 11) (v := .slice (some ⟨gm, om, none⟩) na yc) rfl (by kernel_rfl) (by kernel_rfl) (by kernel_rfl) (fun _ _ _ h => h) (fun _ _ => Iff.rfl) hc (by first | rfl | simp [Region.wanted]) (fun wx hx => ?_) S0 (fun hc S0 => ?_)
          · go_simp
          try simp only [List.getElem_toArray, List.getElem_cons_succ, List.getElem_cons_zero, Act.put, List.setIfInBounds_toArray, List.set_cons_zero, List.set_cons_succ]
          refine wpAnyS_take (i := 12) (v := .int .i64 i) rfl (by kernel_rfl) (by kernel_rfl) (by kernel_rfl) (fun _ _ _ h => h) (fun _ _ => Iff.rfl) hc (by first | rfl | simp [Region.wanted]) (fun wx hx => ?_) S0 (fun hc S0 => ?_)
          · go_simp
          try simp only [List.getElem_toArray, List.getElem_cons_succ, List.getElem_cons_zero, Act.put, List.setIfInBounds_toArray, List.set_cons_zero, List.set_cons_succ]
          refine wpAnyS_take (i := 13) (v := .pointer (some ⟨gm, om + i, none⟩)) rfl (by kernel_rfl) (by kernel_rfl) (by kernel_rfl) (fun _ _ _ h => h) (fun _ _ => Iff.rfl) hc (by first | rfl | simp [Region.wanted]) (fun wx hx => ?_) S0 (fun hc S0 => ?_)
          · go_simp
          try simp only [List.getElem_toArray, List.getElem_cons_succ, List.getElem_cons_zero, Act.put, List.setIfInBounds_toArray, List.set_cons_zero, List.set_cons_succ]
          refine wpAnyS_take (i := 14) (v := .int .i64 u) rfl (by kernel_rfl) (by kernel_rfl) (by kernel_rfl) (fun _ _ _ h => h) (fun _ _ => Iff.rfl) hc (by first | rfl | simp [Region.wanted]) (fun wx hx => ?_) S0 (fun hc S0 => ?_)
          · have y := (hx.still.cell (p := ⟨gm, om + i, none⟩) y2).trans w2
            go_simp
          try simp only [List.getElem_toArray, List.getElem_cons_succ, List.getElem_cons_zero, Act.put, List.setIfInBounds_toArray, List.set_cons_zero, List.set_cons_succ]
          refine wpAnyS_one (i := 10) rfl (by kernel_rfl) (by rfl) hc (fun K' hK => ?_)
          go_simp
          refine (HLA.out).mono ?_
          rintro e W8 ⟨rfl, hb'⟩
          have hb : Below wq.heap.size wq W8 := Below.step (Below.refl _ _).drew hb'
          refine hK.out _ _ hb (fun hc => ?_)
          clear hK K'
          try simp only [List.getElem_toArray, List.getElem_cons_succ, List.getElem_cons_zero, Act.put, List.setIfInBounds_toArray, List.set_cons_zero, List.set_cons_succ]
          refine wpAnyS_one (i := 15) rfl (by kernel_rfl) (by rfl) hc (fun K' hK => ?_)
          go_simp
          refine hK.out _ _ hb (fun hc => ?_)
          clear hK K'
          try simp only [List.getElem_toArray, List.getElem_cons_succ, List.getElem_cons_zero, Act.put, List.setIfInBounds_toArray, List.set_cons_zero, List.set_cons_succ]
          refine wpAnyS_one (i := 16) rfl (by kernel_rfl) (by rfl) hc (fun K' hK => ?_)
          go_simp
          refine hK.out _ _ hb (fun hc => ?_)
          clear hK K'
          try simp only [List.getElem_toArray, List.getElem_cons_succ, List.getElem_cons_zero, Act.put, List.setIfInBounds_toArray, List.set_cons_zero, List.set_cons_succ]
          refine wpAnyS_done (by kernel_rfl) ?_ _
          clear hc S0
          have HR8 := hid (Below.step HRQ.out hb)
          clear hb hb' t0 t1 t2 t3 t4 t5 tl w1 w2 y1 y2
          go_wp2_with fail
          go_roundw
          case rel => exact ⟨i + 1, by omega, by go_num, HR8⟩
          case measure => simp [RowKit.intOf]; omega
        · have d0 : decide ((i : Int) < 20) = false := decide_eq_false (by omega)
          have d0' : decide (i < 20) = false := decide_eq_false h20
          clear h20
          go_wp2_with fail
          go_quiet (fail)
          go_wp2_with fail
          go_roundw
          case rel => exact ⟨i + 1, by omega, by go_num, hid (HRQ.out.trans ((Below.drewQ _ _).mono HRQ.out.size))⟩
          case measure => simp [RowKit.intOf]; omega
      · have c0 : decide ((0 : Int) < (i : Int)) = true := decide_eq_true (by omega)
        have c0' : decide (0 < i) = true := decide_eq_true (by omega)
        obtain ⟨p, hp⟩ : ∃ p, p + 1 = i := ⟨i - 1, by omega⟩
        obtain ⟨z, hz⟩ : ∃ z, a[p]? = some z := ⟨_, List.getElem?_eq_getElem (by rw [← HNA.out.1]; omega)⟩
        have hls := bs_less z x
        rw [decide_eq_true (Fo.pairwise_at HFA.out.order (show p < i by omega) hz HXU.out.1)] at hls
        obtain ⟨ga2, oa2, ea, za2, v3⟩ := rn_cell1 (f := fun x => Value.string (bs x)) (HA.out.1.below HR.out) hz
        cases ea
        have p0 : (0 : Int) ≤ (p : Int) := by omega
        have p1 : (p : Int) < (na : Int) := by omega
        have hwp : IntKind.i64.wrap ((i : Int) - 1) = (p : Int) := by rw [IntWalk.i64_in _ (by omega)]; omega
        clear hi0 hp hz
        go_wp2_with fail
        go_quiet (fail)
        clear c0 c0' hls v3 za2 p0 p1 hwp
        obtain ⟨wq, hwq⟩ : ∃ w, w = wr.drewN nq := ⟨_, rfl⟩
        have HRQ := hid (show Below W6.heap.size W6 wq by rw [hwq]; exact HR.out.trans ((Below.drewQ _ _).mono HR.out.size))
        have w1 : wq.cell? ⟨ga, oa + i, none⟩ = some (.string (bs x)) := by rw [hwq]; exact v1
        have w2 : wq.cell? ⟨gm, om + i, none⟩ = some (.int .i64 u) := by rw [hwq]; exact v2
        have y1 : ga < wq.heap.size := by rw [hwq]; exact za1
        have y2 : gm < wq.heap.size := by rw [hwq]; exact zm1
        rw [← hwq]
        clear hwq v1 v2 za1 zm1 b1 b2
        by_cases h20 : i < 20
        · have d0 : decide ((i : Int) < 20) = true := decide_eq_true (by omega)
          have d0' : decide (i < 20) = true := decide_eq_true h20
          have T7 := T6.out.below HRQ.out
          have t0 := T7.cell (j := 0) rfl
          have t1 := T7.cell (j := 1) rfl
          have t2 := T7.cell (j := 2) rfl
          have t3 := T7.cell (j := 3) rfl
          have t4 := T7.cell (j := 4) rfl
          have t5 := T7.cell (j := 5) rfl
          have tl := T7.lt
          have hbq := Below.step B6.out HRQ.out
          have HLA := hid (least_any t _ k L _ x u wq.drew ((TA.out.below hbq).below (Below.refl _ _).drew) ((HTT.out.below hbq).below (Below.refl _ _).drew) HVV.out ((HL.out.below HRQ.out).below (Below.refl _ _).drew) hL12 hxl HLE.out)
          have g9 : (u != u) = false := by simp
          clear T7 hbq h20
          go_upto_region 15 with (fail)
          refine wp_heldS (S := StillAt wq) (by kernel_rfl) ?_
          simp only [List.size_toArray, List.length_cons, List.length_nil, Nat.reduceAdd]
          intro hc
          have S0 : StillAt wq (Array.replicate 17 false) wq.drew := (Below.refl _ _).drew
          refine wpAnyS_take (i := 0) (v := .int .i64 i) rfl (by kernel_rfl) (by kernel_rfl) (by kernel_rfl) (fun _ _ _ h => h) (fun _ _ => Iff.rfl) hc (by first | rfl | simp [Region.wanted]) (fun wx hx => ?_) S0 (fun hc S0 => ?_)
          · go_simp
          try simp only [List.getElem_toArray, List.getElem_cons_zero, Act.put, List.setIfInBounds_toArray, List.set_cons_zero, List.set_cons_succ]
          refine wpAnyS_take (i := 1) (v := .bool true) rfl (by kernel_rfl) (by kernel_rfl) (by kernel_rfl) (fun _ _ _ h => h) (fun _ _ => Iff.rfl) hc (by first | rfl | simp [Region.wanted]) (fun wx hx => ?_) S0 (fun hc S0 => ?_)
          · go_simp
          try simp only [List.getElem_toArray, List.getElem_cons_succ, List.getElem_cons_zero, Act.put, List.setIfInBounds_toArray, List.set_cons_zero, List.set_cons_succ]
          refine wpAnyS_take (i := 2) (v := .bool true) rfl (by kernel_rfl) (by kernel_rfl) (by kernel_rfl) (fun _ _ _ h => h) (fun _ _ => Iff.rfl) hc (by first | rfl | simp [Region.wanted]) (fun wx hx => ?_) S0 (fun hc S0 => ?_)
          · go_simp
          try simp only [List.getElem_toArray, List.getElem_cons_succ, List.getElem_cons_zero, Act.put, List.setIfInBounds_toArray, List.set_cons_zero, List.set_cons_succ]
          refine wpAnyS_take (i := 3) (v := .agg #[.slice ar t.rules.length cr, .slice ad t.drops.length cd, .slice ae t.ends.length ce, .int .i64 t.drop, .int .i64 t.order, .int .i64 t.initial]) rfl (by kernel_rfl) (by kernel_rfl) (by kernel_rfl) (fun _ _ _ h => h) (fun _ _ => Iff.rfl) hc (by first | rfl | simp [Region.wanted]) (fun wx hx => ?_) S0 (fun hc S0 => ?_)
          · have f0 := (hx.still.cell (p := ⟨W.heap.size, 0, none⟩) tl).trans t0; have f1 := (hx.still.cell (p := ⟨W.heap.size, 1, none⟩) tl).trans t1; have f2 := (hx.still.cell (p := ⟨W.heap.size, 2, none⟩) tl).trans t2; have f3 := (hx.still.cell (p := ⟨W.heap.size, 3, none⟩) tl).trans t3; have f4 := (hx.still.cell (p := ⟨W.heap.size, 4, none⟩) tl).trans t4; have f5 := (hx.still.cell (p := ⟨W.heap.size, 5, none⟩) tl).trans t5; have fz := Nat.lt_of_lt_of_le tl hx.still.size
            go_simp
          try simp only [List.getElem_toArray, List.getElem_cons_succ, List.getElem_cons_zero, Act.put, List.setIfInBounds_toArray, List.set_cons_zero, List.set_cons_succ]
          refine wpAnyS_take (i := 4) (v := .int .i64 k) rfl (by kernel_rfl) (by kernel_rfl) (by kernel_rfl) (fun _ _ _ h => h) (fun _ _ => Iff.rfl) hc (by first | rfl | simp [Region.wanted]) (fun wx hx => ?_) S0 (fun hc S0 => ?_)
          · go_simp
          try simp only [List.getElem_toArray, List.getElem_cons_succ, List.getElem_cons_zero, Act.put, List.setIfInBounds_toArray, List.set_cons_zero, List.set_cons_succ]
          refine wpAnyS_take (i := 5) (v := .slice la L.length lc) rfl (by kernel_rfl) (by kernel_rfl) (by kernel_rfl) (fun _ _ _ h => h) (fun _ _ => Iff.rfl) hc (by first | rfl | simp [Region.wanted]) (fun wx hx => ?_) S0 (fun hc S0 => ?_)
          · go_simp
          try simp only [List.getElem_toArray, List.getElem_cons_succ, List.getElem_cons_zero, Act.put, List.setIfInBounds_toArray, List.set_cons_zero, List.set_cons_succ]
          refine wpAnyS_take (i := 6) (v := .slice (some ⟨ga, oa, none⟩) na xc) rfl (by kernel_rfl) (by kernel_rfl) (by kernel_rfl) (fun _ _ _ h => h) (fun _ _ => Iff.rfl) hc (by first | rfl | simp [Region.wanted]) (fun wx hx => ?_) S0 (fun hc S0 => ?_)
          · go_simp
          try simp only [List.getElem_toArray, List.getElem_cons_succ, List.getElem_cons_zero, Act.put, List.setIfInBounds_toArray, List.set_cons_zero, List.set_cons_succ]
          refine wpAnyS_take (i := 7) (v := .int .i64 i) rfl (by kernel_rfl) (by kernel_rfl) (by kernel_rfl) (fun _ _ _ h => h) (fun _ _ => Iff.rfl) hc (by first | rfl | simp [Region.wanted]) (fun wx hx => ?_) S0 (fun hc S0 => ?_)
          · go_simp
          try simp only [List.getElem_toArray, List.getElem_cons_succ, List.getElem_cons_zero, Act.put, List.setIfInBounds_toArray, List.set_cons_zero, List.set_cons_succ]
          refine wpAnyS_take (i := 8) (v := .pointer (some ⟨ga, oa + i, none⟩)) rfl (by kernel_rfl) (by kernel_rfl) (by kernel_rfl) (fun _ _ _ h => h) (fun _ _ => Iff.rfl) hc (by first | rfl | simp [Region.wanted]) (fun wx hx => ?_) S0 (fun hc S0 => ?_)
          · go_simp
          try simp only [List.getElem_toArray, List.getElem_cons_succ, List.getElem_cons_zero, Act.put, List.setIfInBounds_toArray, List.set_cons_zero, List.set_cons_succ]
          refine wpAnyS_take (i := 9) (v := .string (bs x)) rfl (by kernel_rfl) (by kernel_rfl) (by kernel_rfl) (fun _ _ _ h => h) (fun _ _ => Iff.rfl) hc (by first | rfl | simp [Region.wanted]) (fun wx hx => ?_) S0 (fun hc S0 => ?_)
          · have y := (hx.still.cell (p := ⟨ga, oa + i, none⟩) y1).trans w1
            go_simp
          try simp only [List.getElem_toArray, List.getElem_cons_succ, List.getElem_cons_zero, Act.put, List.setIfInBounds_toArray, List.set_cons_zero, List.set_cons_succ]
          refine wpAnyS_take (i := 11) (v := .slice (some ⟨gm, om, none⟩) na yc) rfl (by kernel_rfl) (by kernel_rfl) (by kernel_rfl) (fun _ _ _ h => h) (fun _ _ => Iff.rfl) hc (by first | rfl | simp [Region.wanted]) (fun wx hx => ?_) S0 (fun hc S0 => ?_)
          · go_simp
          try simp only [List.getElem_toArray, List.getElem_cons_succ, List.getElem_cons_zero, Act.put, List.setIfInBounds_toArray, List.set_cons_zero, List.set_cons_succ]
          refine wpAnyS_take (i := 12) (v := .int .i64 i) rfl (by kernel_rfl) (by kernel_rfl) (by kernel_rfl) (fun _ _ _ h => h) (fun _ _ => Iff.rfl) hc (by first | rfl | simp [Region.wanted]) (fun wx hx => ?_) S0 (fun hc S0 => ?_)
          · go_simp
          try simp only [List.getElem_toArray, List.getElem_cons_succ, List.getElem_cons_zero, Act.put, List.setIfInBounds_toArray, List.set_cons_zero, List.set_cons_succ]
          refine wpAnyS_take (i := 13) (v := .pointer (some ⟨gm, om + i, none⟩)) rfl (by kernel_rfl) (by kernel_rfl) (by kernel_rfl) (fun _ _ _ h => h) (fun _ _ => Iff.rfl) hc (by first | rfl | simp [Region.wanted]) (fun wx hx => ?_) S0 (fun hc S0 => ?_)
          · go_simp
          try simp only [List.getElem_toArray, List.getElem_cons_succ, List.getElem_cons_zero, Act.put, List.setIfInBounds_toArray, List.set_cons_zero, List.set_cons_succ]
          refine wpAnyS_take (i := 14) (v := .int .i64 u) rfl (by kernel_rfl) (by kernel_rfl) (by kernel_rfl) (fun _ _ _ h => h) (fun _ _ => Iff.rfl) hc (by first | rfl | simp [Region.wanted]) (fun wx hx => ?_) S0 (fun hc S0 => ?_)
          · have y := (hx.still.cell (p := ⟨gm, om + i, none⟩) y2).trans w2
            go_simp
          try simp only [List.getElem_toArray, List.getElem_cons_succ, List.getElem_cons_zero, Act.put, List.setIfInBounds_toArray, List.set_cons_zero, List.set_cons_succ]
          refine wpAnyS_one (i := 10) rfl (by kernel_rfl) (by rfl) hc (fun K' hK => ?_)
          go_simp
          refine (HLA.out).mono ?_
          rintro e W8 ⟨rfl, hb'⟩
          have hb : Below wq.heap.size wq W8 := Below.step (Below.refl _ _).drew hb'
          refine hK.out _ _ hb (fun hc => ?_)
          clear hK K'
          try simp only [List.getElem_toArray, List.getElem_cons_succ, List.getElem_cons_zero, Act.put, List.setIfInBounds_toArray, List.set_cons_zero, List.set_cons_succ]
          refine wpAnyS_one (i := 15) rfl (by kernel_rfl) (by rfl) hc (fun K' hK => ?_)
          go_simp
          refine hK.out _ _ hb (fun hc => ?_)
          clear hK K'
          try simp only [List.getElem_toArray, List.getElem_cons_succ, List.getElem_cons_zero, Act.put, List.setIfInBounds_toArray, List.set_cons_zero, List.set_cons_succ]
          refine wpAnyS_one (i := 16) rfl (by kernel_rfl) (by rfl) hc (fun K' hK => ?_)
          go_simp
          refine hK.out _ _ hb (fun hc => ?_)
          clear hK K'
          try simp only [List.getElem_toArray, List.getElem_cons_succ, List.getElem_cons_zero, Act.put, List.setIfInBounds_toArray, List.set_cons_zero, List.set_cons_succ]
          refine wpAnyS_done (by kernel_rfl) ?_ _
          clear hc S0
          have HR8 := hid (Below.step HRQ.out hb)
          clear hb hb' t0 t1 t2 t3 t4 t5 tl w1 w2 y1 y2
          go_wp2_with fail
          go_roundw
          case rel => exact ⟨i + 1, by omega, by go_num, HR8⟩
          case measure => simp [RowKit.intOf]; omega
        · have d0 : decide ((i : Int) < 20) = false := decide_eq_false (by omega)
          have d0' : decide (i < 20) = false := decide_eq_false h20
          clear h20
          go_wp2_with fail
          go_quiet (fail)
          go_wp2_with fail
          go_roundw
          case rel => exact ⟨i + 1, by omega, by go_num, hid (HRQ.out.trans ((Below.drewQ _ _).mono HRQ.out.size))⟩
          case measure => simp [RowKit.intOf]; omega
    · have i1 : ¬ (i : Int) < (na : Int) := by omega
      go_wp2_with fail
      go_ret
      exact ⟨rfl, B6.out.trans (HR.out.mono B6.out.size)⟩

end Go.Proofs.YtdchjacccmajcaaGreatDoor
