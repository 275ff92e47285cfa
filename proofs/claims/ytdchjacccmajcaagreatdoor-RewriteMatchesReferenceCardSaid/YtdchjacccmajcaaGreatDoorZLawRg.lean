/-
  RewriteMatchesReference: the statement's function returns true. Conditions: what can be read of its arguments.
-/
import Derived.Test.YtdchjacccmajcaaGreatDoorZRn11
import Derived.Test.YtdchjacccmajcaaGreatDoorZRt3
import Derived.Test.YtdchjacccmajcaaGreatDoorZRs3
namespace Fo
theorem AnsX.uniq {t : Rw.Table} {k : Int} {L : List (List UInt8)} {most : Int} {a b : List (List UInt8)} {m n : List Int} {e f : Int} (h : AnsX t k L most a m e) (h' : AnsX t k L most b n f) : a = b ∧ m = n ∧ e = f := by
  rcases h with ⟨h1, rfl, rfl, rfl⟩ | ⟨h1, hv, h⟩
  · rcases h' with ⟨-, rfl, rfl, rfl⟩ | ⟨h2, hv', -⟩
    · exact ⟨rfl, rfl, rfl⟩
    · rcases h1 with h1 | h1
      · exact absurd h1 h2
      · rw [hv'] at h1; cases h1
  · rcases h' with ⟨h2, -⟩ | ⟨-, -, h'⟩
    · rcases h2 with h2 | h2
      · exact absurd h2 h1
      · rw [hv] at h2; cases h2
    · exact Ans.uniq (good_rules hv k) h h'
end Fo
namespace Go.Proofs.YtdchjacccmajcaaGreatDoor
open Go.RowKit Go.Lib Go.Maps

theorem rforms_x {t : Rw.Table} {tv : Value} {k : Int} {word : List UInt8} (most : Int) {W : World} (ht : TableAt W t tv) (hw : word.length ≤ 1000000) :
    Calls Tryz.prog 26 #[tv, .int .i64 k, .string (bs word), .int .i64 most] W (FmX t k (Fo.letters k word) most W) := by
  refine (rforms_any t tv k word most W ht hw).mono ?_
  rintro e W' ⟨hb, h⟩
  rcases h with ⟨h, rfl⟩ | ⟨h0, hv, ⟨h, rfl⟩ | ⟨v, u, o2, c2, rfl, h1, h2, h3⟩⟩
  · exact ⟨[], [], 1, none, 0, none, 0, rfl, SlOf.nil _ _ _, SlOf.nil _ _ _, .inl ⟨h, rfl, rfl, rfl⟩, hb⟩
  · exact ⟨[], [], 2, none, 0, none, 0, rfl, SlOf.nil _ _ _, SlOf.nil _ _ _, .inr ⟨h0, hv, .many h⟩, hb⟩
  · obtain ⟨oa, oc, rfl, -⟩ := id h1
    obtain ⟨ua, uc, rfl, -⟩ := id h2
    exact ⟨_, _, 0, oa, oc, ua, uc, rfl, h1, h2, .inr ⟨h0, hv, .ok h3⟩, hb⟩

set_option maxRecDepth 100000 in
set_option maxHeartbeats 20000000 in
theorem ref_law (t : Rw.Table) (tv : Value) (k : Int) (word : List UInt8) (most : Int) (W : World) (ht : TableRaw W t tv) (hT : Tabs W) (h10 : Tab10 W) (hx : word.length ≤ maxLen) :
    Calls Tryz.prog 9 #[tv, .int .i64 k, .string (bs word), .int .i64 most] W (Gives (.bool true) W) := by
  have HT := hid ht
  have HTT := hid hT
  have H10 := hid h10
  obtain ⟨⟨vr, vd, ve, rfl, ⟨ar, cr, rfl, -⟩, ⟨ad, cd, rfl, -⟩, ⟨ae, ce, rfl, -⟩⟩, -, -, -⟩ := ht
  clear hT h10
  obtain ⟨W1, hW1⟩ : ∃ W1, W1 = W.alloc (.cells #[.slice ar t.rules.length cr, .slice ad t.drops.length cd, .slice ae t.ends.length ce, .int .i64 t.drop, .int .i64 t.order, .int .i64 t.initial] 25) := ⟨_, rfl⟩
  have hb1 : Below W.heap.size W W1 := by rw [hW1]; exact (Below.refl _ W).alloc (Nat.le_refl _) _
  have T1 := hid (show Blk W1 W.heap.size 25 [.slice ar t.rules.length cr, .slice ad t.drops.length cd, .slice ae t.ends.length ce, .int .i64 t.drop, .int .i64 t.order, .int .i64 t.initial] by rw [hW1]; exact Blk.new W _ _)
  have HH := hid (head_true W1 (HTT.out.below hb1) (H10.out.below hb1))
  have B1 := hid hb1
  clear hb1
  go_enter Tryz.func9, Tryz.ntmps9
  go_upto_region 1 with (fail)
  rw [← hW1]
  clear hW1
  go_wp2_with fail
  refine (HH.out).mono ?_
  rintro e W2 ⟨rfl, hb2⟩
  have B2 := hid (Below.step B1.out hb2)
  have T2 := hid (T1.out.below hb2)
  clear hb2 HH
  have t0 := T2.out.cell (j := 0) rfl
  have t1 := T2.out.cell (j := 1) rfl
  have t2 := T2.out.cell (j := 2) rfl
  have t3 := T2.out.cell (j := 3) rfl
  have t4 := T2.out.cell (j := 4) rfl
  have t5 := T2.out.cell (j := 5) rfl
  have tl := T2.out.lt
  have HF := hid (few10_any t _ W2 (HT.out.below B2.out))
  go_wp2_with fail
  refine (HF.out).mono ?_
  rintro e W3 ⟨rfl, hbf⟩
  have B3 := hid (Below.step B2.out hbf)
  have T3 := hid (T2.out.below hbf)
  clear hbf HF t0 t1 t2 t3 t4 t5 tl
  cases hfew : Rw.fewB t with
  | false =>
    go_wp2_with fail
    go_ret
    exact ⟨rfl, B3.out⟩
  | true =>
  have TA := hid (HT.out.few10 hfew)
  clear hfew
  have hsz : (bs word).size = word.length := bs_len word
  by_cases h60 : word.length ≤ 60
  rotate_left
  · have g60 : decide ((60 : Int) < ((bs word).size : Int)) = true := decide_eq_true (by omega)
    have hmx : (bs word).size ≤ 9223372036854775807 := by unfold maxLen at hx; omega
    clear h60 hsz
    have t0 := T3.out.cell (j := 0) rfl
    have t1 := T3.out.cell (j := 1) rfl
    have t2 := T3.out.cell (j := 2) rfl
    have t3 := T3.out.cell (j := 3) rfl
    have t4 := T3.out.cell (j := 4) rfl
    have t5 := T3.out.cell (j := 5) rfl
    have tl := T3.out.lt
    go_wp2_with fail
    go_ret
    exact ⟨rfl, B3.out⟩
  have g60 : decide ((60 : Int) < ((bs word).size : Int)) = false := decide_eq_false (by omega)
  have hmx : (bs word).size ≤ 9223372036854775807 := by omega
  have H60 := hid h60
  clear h60 hsz
  have hb60 : (bs word).size ≤ 1000000 := by rw [bs_len]; have := H60.out; omega
  have H6 := hid (show word.length ≤ 1000000 by have := H60.out; omega)
  have t0 := T3.out.cell (j := 0) rfl
  have t1 := T3.out.cell (j := 1) rfl
  have t2 := T3.out.cell (j := 2) rfl
  have t3 := T3.out.cell (j := 3) rfl
  have t4 := T3.out.cell (j := 4) rfl
  have t5 := T3.out.cell (j := 5) rfl
  have tl := T3.out.lt
  have C3 := hid (forms_x (k := k) (word := bs word) most (TA.out.below B3.out) (HTT.out.below B3.out) hb60 (show Fo.letters k (bs word).data.toList = Fo.letters k word by rw [bs_list]))
  go_wp2_with fail
  refine (C3.out).mono ?_
  rintro e W4 ⟨a, m, e1, xa, xc, ya, yc, rfl, h1, h2, h3, hb⟩
  have B4 := hid (Below.step B3.out hb)
  have T4 := hid (T3.out.below hb)
  have HA1 := hid h1
  have HA2 := hid h2
  have HX1 := hid h3
  clear C3 t0 t1 t2 t3 t4 t5 tl h1 h2 h3 hb
  have t0 := T4.out.cell (j := 0) rfl
  have t1 := T4.out.cell (j := 1) rfl
  have t2 := T4.out.cell (j := 2) rfl
  have t3 := T4.out.cell (j := 3) rfl
  have t4 := T4.out.cell (j := 4) rfl
  have t5 := T4.out.cell (j := 5) rfl
  have tl := T4.out.lt
  have C4 := hid (rforms_x (k := k) (word := word) most (TA.out.below B4.out) H6.out)
  go_wp2_with fail
  refine (C4.out).mono ?_
  rintro e W5 ⟨b, n, e2, za, zc, wa, wc, rfl, h1, h2, h3, hb⟩
  have B5 := hid (Below.step B4.out hb)
  have T5 := hid (T4.out.below hb)
  have HA1 := hid (HA1.out.below hb)
  have HA2 := hid (HA2.out.below hb)
  have HB1 := hid h1
  have HB2 := hid h2
  obtain ⟨rfl, rfl, rfl⟩ := HX1.out.uniq h3
  have HLN := hid HX1.out.len
  clear C4 HX1 t0 t1 t2 t3 t4 t5 tl h1 h2 h3 hb
  obtain ⟨vs, g, hvg⟩ : ∃ vs g, Rw.variants t k word = (vs, g) := ⟨_, _, rfl⟩
  obtain ⟨dc, di, hdc⟩ : ∃ dc di, Rw.dropping t k word = (dc, di) := ⟨_, _, rfl⟩
  have t0 := T5.out.cell (j := 0) rfl
  have t1 := T5.out.cell (j := 1) rfl
  have t2 := T5.out.cell (j := 2) rfl
  have t3 := T5.out.cell (j := 3) rfl
  have t4 := T5.out.cell (j := 4) rfl
  have t5 := T5.out.cell (j := 5) rfl
  have tl := T5.out.lt
  have C5 := hid (variants_any t _ k word W5 (TA.out.below B5.out) (HTT.out.below B5.out) H6.out)
  unfold VarP at C5
  rw [hvg] at C5
  have HVG := hid hvg
  have HDC := hid hdc
  clear hvg hdc
  go_wp2_with fail
  refine (C5.out).mono ?_
  rintro e W6 ⟨pv, rfl, ho, hb⟩
  have B6 := hid (Below.step B5.out hb)
  have T6 := hid (T5.out.below hb)
  have HA1 := hid (HA1.out.below hb)
  have HA2 := hid (HA2.out.below hb)
  have HB1 := hid (HB1.out.below hb)
  have HB2 := hid (HB2.out.below hb)
  have HP := hid (show SlOf W6 pv 3 vrC vs from SlOf.own ho (fun _ _ => rfl))
  clear C5 t0 t1 t2 t3 t4 t5 tl ho hb
  have t0 := T6.out.cell (j := 0) rfl
  have t1 := T6.out.cell (j := 1) rfl
  have t2 := T6.out.cell (j := 2) rfl
  have t3 := T6.out.cell (j := 3) rfl
  have t4 := T6.out.cell (j := 4) rfl
  have t5 := T6.out.cell (j := 5) rfl
  have tl := T6.out.lt
  have C6 := hid (rvariants_any t _ k word W6 (TA.out.below B6.out) H6.out)
  unfold VarP at C6
  rw [HVG.out] at C6
  go_wp2_with fail
  refine (C6.out).mono ?_
  rintro e W7 ⟨qv, rfl, ho, hb⟩
  have B7 := hid (Below.step B6.out hb)
  have T7 := hid (T6.out.below hb)
  have HA1 := hid (HA1.out.below hb)
  have HA2 := hid (HA2.out.below hb)
  have HB1 := hid (HB1.out.below hb)
  have HB2 := hid (HB2.out.below hb)
  have HP := hid (HP.out.below hb)
  have HQ := hid (show SlOf W7 qv 3 vrC vs from SlOf.own ho (fun _ _ => rfl))
  clear C6 t0 t1 t2 t3 t4 t5 tl ho hb
  have t0 := T7.out.cell (j := 0) rfl
  have t1 := T7.out.cell (j := 1) rfl
  have t2 := T7.out.cell (j := 2) rfl
  have t3 := T7.out.cell (j := 3) rfl
  have t4 := T7.out.cell (j := 4) rfl
  have t5 := T7.out.cell (j := 5) rfl
  have tl := T7.out.lt
  have C7 := hid (dropping_any t _ k word W7 (TA.out.below B7.out) (HTT.out.below B7.out) H6.out)
  rw [HDC.out] at C7
  go_wp2_with fail
  refine (C7.out).mono ?_
  rintro e W8 ⟨rfl, hb⟩
  have B8 := hid (Below.step B7.out hb)
  have T8 := hid (T7.out.below hb)
  have HA1 := hid (HA1.out.below hb)
  have HA2 := hid (HA2.out.below hb)
  have HB1 := hid (HB1.out.below hb)
  have HB2 := hid (HB2.out.below hb)
  have HP := hid (HP.out.below hb)
  have HQ := hid (HQ.out.below hb)
  clear C7 t0 t1 t2 t3 t4 t5 tl hb
  have t0 := T8.out.cell (j := 0) rfl
  have t1 := T8.out.cell (j := 1) rfl
  have t2 := T8.out.cell (j := 2) rfl
  have t3 := T8.out.cell (j := 3) rfl
  have t4 := T8.out.cell (j := 4) rfl
  have t5 := T8.out.cell (j := 5) rfl
  have tl := T8.out.lt
  have C8 := hid (rdropping_any t _ k word W8 (TA.out.below B8.out) H6.out)
  rw [HDC.out] at C8
  go_wp2_with fail
  refine (C8.out).mono ?_
  rintro e W9 ⟨rfl, hb⟩
  have B9 := hid (Below.step B8.out hb)
  have T9 := hid (T8.out.below hb)
  have HA1 := hid (HA1.out.below hb)
  have HA2 := hid (HA2.out.below hb)
  have HB1 := hid (HB1.out.below hb)
  have HB2 := hid (HB2.out.below hb)
  have HP := hid (HP.out.below hb)
  have HQ := hid (HQ.out.below hb)
  clear C8 t0 t1 t2 t3 t4 t5 tl hb
  have t0 := T9.out.cell (j := 0) rfl
  have t1 := T9.out.cell (j := 1) rfl
  have t2 := T9.out.cell (j := 2) rfl
  have t3 := T9.out.cell (j := 3) rfl
  have t4 := T9.out.cell (j := 4) rfl
  have t5 := T9.out.cell (j := 5) rfl
  have tl := T9.out.lt
  obtain ⟨vb, hvb⟩ : ∃ vb, vb = Rw.valid t := ⟨_, rfl⟩
  have HV1 := hid (valid_any t _ W9.drew (TA.out.below B9.out.drew) (HTT.out.below B9.out.drew))
  rw [← hvb] at HV1
  have HVB := hid hvb
  clear hvb
  go_upto_region 10 with (fail)
  refine wp_heldS (S := StillAt W9) (by kernel_rfl) ?_
  simp only [List.size_toArray, List.length_cons, List.length_nil, Nat.reduceAdd]
  intro hc
  have S0 : StillAt W9 (Array.replicate 41 false) W9.drew := (Below.refl _ _).drew
  refine wpAnyS_take (i := 0) (v := .bool true) rfl (by kernel_rfl) (by kernel_rfl) (by kernel_rfl) (fun _ _ _ h => h) (fun _ _ => Iff.rfl) hc (by first | rfl | simp [Region.wanted]) (fun wx hx => ?_) S0 (fun hc S0 => ?_)
  · go_simp
  try simp only [List.getElem_toArray, List.getElem_cons_zero, Act.put, List.setIfInBounds_toArray, List.set_cons_zero, List.set_cons_succ]
  refine wpAnyS_take (i := 1) (v := .bool true) rfl (by kernel_rfl) (by kernel_rfl) (by kernel_rfl) (fun _ _ _ h => h) (fun _ _ => Iff.rfl) hc (by first | rfl | simp [Region.wanted]) (fun wx hx => ?_) S0 (fun hc S0 => ?_)
  · go_simp
  try simp only [List.getElem_toArray, List.getElem_cons_succ, List.getElem_cons_zero, Act.put, List.setIfInBounds_toArray, List.set_cons_zero, List.set_cons_succ]
  refine wpAnyS_take (i := 2) (v := .agg #[.slice ar t.rules.length cr, .slice ad t.drops.length cd, .slice ae t.ends.length ce, .int .i64 t.drop, .int .i64 t.order, .int .i64 t.initial]) rfl (by kernel_rfl) (by kernel_rfl) (by kernel_rfl) (fun _ _ _ h => h) (fun _ _ => Iff.rfl) hc (by first | rfl | simp [Region.wanted]) (fun wx hx => ?_) S0 (fun hc S0 => ?_)
  · have q0 := (hx.still.cell (p := ⟨W.heap.size, 0, none⟩) tl).trans t0; have q1 := (hx.still.cell (p := ⟨W.heap.size, 1, none⟩) tl).trans t1; have q2 := (hx.still.cell (p := ⟨W.heap.size, 2, none⟩) tl).trans t2; have q3 := (hx.still.cell (p := ⟨W.heap.size, 3, none⟩) tl).trans t3; have q4 := (hx.still.cell (p := ⟨W.heap.size, 4, none⟩) tl).trans t4; have q5 := (hx.still.cell (p := ⟨W.heap.size, 5, none⟩) tl).trans t5
    go_simp
  try simp only [List.getElem_toArray, List.getElem_cons_succ, List.getElem_cons_zero, Act.put, List.setIfInBounds_toArray, List.set_cons_zero, List.set_cons_succ]
  refine wpAnyS_take (i := 4) (v := .agg #[.slice ar t.rules.length cr, .slice ad t.drops.length cd, .slice ae t.ends.length ce, .int .i64 t.drop, .int .i64 t.order, .int .i64 t.initial]) rfl (by kernel_rfl) (by kernel_rfl) (by kernel_rfl) (fun _ _ _ h => h) (fun _ _ => Iff.rfl) hc (by first | rfl | simp [Region.wanted]) (fun wx hx => ?_) S0 (fun hc S0 => ?_)
  · have q0 := (hx.still.cell (p := ⟨W.heap.size, 0, none⟩) tl).trans t0; have q1 := (hx.still.cell (p := ⟨W.heap.size, 1, none⟩) tl).trans t1; have q2 := (hx.still.cell (p := ⟨W.heap.size, 2, none⟩) tl).trans t2; have q3 := (hx.still.cell (p := ⟨W.heap.size, 3, none⟩) tl).trans t3; have q4 := (hx.still.cell (p := ⟨W.heap.size, 4, none⟩) tl).trans t4; have q5 := (hx.still.cell (p := ⟨W.heap.size, 5, none⟩) tl).trans t5
    go_simp
  try simp only [List.getElem_toArray, List.getElem_cons_succ, List.getElem_cons_zero, Act.put, List.setIfInBounds_toArray, List.set_cons_zero, List.set_cons_succ]
  refine wpAnyS_one (i := 3) rfl (by kernel_rfl) (by rfl) hc (fun K' hK => ?_)
  go_simp
  refine (HV1.out).mono ?_
  rintro e X1 ⟨rfl, hb⟩
  have DX1 := hid (Below.step (Below.refl _ W9).drew hb)
  clear hb
  refine hK.out _ _ DX1.out (fun hc => ?_)
  clear hK K'
  have S0 : StillAt W9 #[] X1 := DX1.out
  try simp only [List.getElem_toArray, List.getElem_cons_succ, List.getElem_cons_zero, Act.put, List.setIfInBounds_toArray, List.set_cons_zero, List.set_cons_succ]
  have HV2 := hid (rvalid10_any t _ X1 (TA.out.below (Below.step B9.out DX1.out)))
  rw [← HVB.out] at HV2
  refine wpAnyS_one (i := 5) rfl (by kernel_rfl) (by rfl) hc (fun K' hK => ?_)
  go_simp
  refine (HV2.out).mono ?_
  rintro e X2 ⟨rfl, hb⟩
  have DX2 := hid (Below.step DX1.out hb)
  clear hb
  refine hK.out _ _ DX2.out (fun hc => ?_)
  clear hK K'
  have S0 : StillAt W9 #[] X2 := DX2.out
  try simp only [List.getElem_toArray, List.getElem_cons_succ, List.getElem_cons_zero, Act.put, List.setIfInBounds_toArray, List.set_cons_zero, List.set_cons_succ]
  refine wpAnyS_take (i := 6) (v := .bool true) rfl (by kernel_rfl) (by kernel_rfl) (by kernel_rfl) (fun _ _ _ h => h) (fun _ _ => Iff.rfl) hc (by first | rfl | simp [Region.wanted]) (fun wx hx => ?_) S0 (fun hc S0 => ?_)
  · go_simp
  try simp only [List.getElem_toArray, List.getElem_cons_succ, List.getElem_cons_zero, Act.put, List.setIfInBounds_toArray, List.set_cons_zero, List.set_cons_succ]
  refine wpAnyS_take (i := 7) (v := .bool true) rfl (by kernel_rfl) (by kernel_rfl) (by kernel_rfl) (fun _ _ _ h => h) (fun _ _ => Iff.rfl) hc (by first | rfl | simp [Region.wanted]) (fun wx hx => ?_) S0 (fun hc S0 => ?_)
  · go_simp
  try simp only [List.getElem_toArray, List.getElem_cons_succ, List.getElem_cons_zero, Act.put, List.setIfInBounds_toArray, List.set_cons_zero, List.set_cons_succ]
  refine wpAnyS_take (i := 8) (v := .bool true) rfl (by kernel_rfl) (by kernel_rfl) (by kernel_rfl) (fun _ _ _ h => h) (fun _ _ => Iff.rfl) hc (by first | rfl | simp [Region.wanted]) (fun wx hx => ?_) S0 (fun hc S0 => ?_)
  · go_simp
  try simp only [List.getElem_toArray, List.getElem_cons_succ, List.getElem_cons_zero, Act.put, List.setIfInBounds_toArray, List.set_cons_zero, List.set_cons_succ]
  refine wpAnyS_take (i := 9) (v := .int .i64 e1) rfl (by kernel_rfl) (by kernel_rfl) (by kernel_rfl) (fun _ _ _ h => h) (fun _ _ => Iff.rfl) hc (by first | rfl | simp [Region.wanted]) (fun wx hx => ?_) S0 (fun hc S0 => ?_)
  · go_simp
  try simp only [List.getElem_toArray, List.getElem_cons_succ, List.getElem_cons_zero, Act.put, List.setIfInBounds_toArray, List.set_cons_zero, List.set_cons_succ]
  refine wpAnyS_take (i := 10) (v := .int .i64 e1) rfl (by kernel_rfl) (by kernel_rfl) (by kernel_rfl) (fun _ _ _ h => h) (fun _ _ => Iff.rfl) hc (by first | rfl | simp [Region.wanted]) (fun wx hx => ?_) S0 (fun hc S0 => ?_)
  · go_simp
  try simp only [List.getElem_toArray, List.getElem_cons_succ, List.getElem_cons_zero, Act.put, List.setIfInBounds_toArray, List.set_cons_zero, List.set_cons_succ]
  refine wpAnyS_take (i := 11) (v := .bool true) rfl (by kernel_rfl) (by kernel_rfl) (by kernel_rfl) (fun _ _ _ h => h) (fun _ _ => Iff.rfl) hc (by first | rfl | simp [Region.wanted]) (fun wx hx => ?_) S0 (fun hc S0 => ?_)
  · go_simp
  try simp only [List.getElem_toArray, List.getElem_cons_succ, List.getElem_cons_zero, Act.put, List.setIfInBounds_toArray, List.set_cons_zero, List.set_cons_succ]
  refine wpAnyS_take (i := 12) (v := .bool true) rfl (by kernel_rfl) (by kernel_rfl) (by kernel_rfl) (fun _ _ _ h => h) (fun _ _ => Iff.rfl) hc (by first | rfl | simp [Region.wanted]) (fun wx hx => ?_) S0 (fun hc S0 => ?_)
  · go_simp
  try simp only [List.getElem_toArray, List.getElem_cons_succ, List.getElem_cons_zero, Act.put, List.setIfInBounds_toArray, List.set_cons_zero, List.set_cons_succ]
  refine wpAnyS_take (i := 13) (v := .bool true) rfl (by kernel_rfl) (by kernel_rfl) (by kernel_rfl) (fun _ _ _ h => h) (fun _ _ => Iff.rfl) hc (by first | rfl | simp [Region.wanted]) (fun wx hx => ?_) S0 (fun hc S0 => ?_)
  · go_simp
  try simp only [List.getElem_toArray, List.getElem_cons_succ, List.getElem_cons_zero, Act.put, List.setIfInBounds_toArray, List.set_cons_zero, List.set_cons_succ]
  refine wpAnyS_take (i := 14) (v := .slice xa a.length xc) rfl (by kernel_rfl) (by kernel_rfl) (by kernel_rfl) (fun _ _ _ h => h) (fun _ _ => Iff.rfl) hc (by first | rfl | simp [Region.wanted]) (fun wx hx => ?_) S0 (fun hc S0 => ?_)
  · go_simp
  try simp only [List.getElem_toArray, List.getElem_cons_succ, List.getElem_cons_zero, Act.put, List.setIfInBounds_toArray, List.set_cons_zero, List.set_cons_succ]
  refine wpAnyS_take (i := 15) (v := .slice ya m.length yc) rfl (by kernel_rfl) (by kernel_rfl) (by kernel_rfl) (fun _ _ _ h => h) (fun _ _ => Iff.rfl) hc (by first | rfl | simp [Region.wanted]) (fun wx hx => ?_) S0 (fun hc S0 => ?_)
  · go_simp
  try simp only [List.getElem_toArray, List.getElem_cons_succ, List.getElem_cons_zero, Act.put, List.setIfInBounds_toArray, List.set_cons_zero, List.set_cons_succ]
  refine wpAnyS_take (i := 16) (v := .slice za a.length zc) rfl (by kernel_rfl) (by kernel_rfl) (by kernel_rfl) (fun _ _ _ h => h) (fun _ _ => Iff.rfl) hc (by first | rfl | simp [Region.wanted]) (fun wx hx => ?_) S0 (fun hc S0 => ?_)
  · go_simp
  try simp only [List.getElem_toArray, List.getElem_cons_succ, List.getElem_cons_zero, Act.put, List.setIfInBounds_toArray, List.set_cons_zero, List.set_cons_succ]
  refine wpAnyS_take (i := 17) (v := .slice wa m.length wc) rfl (by kernel_rfl) (by kernel_rfl) (by kernel_rfl) (fun _ _ _ h => h) (fun _ _ => Iff.rfl) hc (by first | rfl | simp [Region.wanted]) (fun wx hx => ?_) S0 (fun hc S0 => ?_)
  · go_simp
  try simp only [List.getElem_toArray, List.getElem_cons_succ, List.getElem_cons_zero, Act.put, List.setIfInBounds_toArray, List.set_cons_zero, List.set_cons_succ]
  have HS1 := hid (sameForms_any a m a m _ _ _ _ X2 (HA1.out.below DX2.out) (HA2.out.below DX2.out) (HB1.out.below DX2.out) (HB2.out.below DX2.out))
  rw [sameForms_yes rfl rfl HLN.out.1] at HS1
  refine wpAnyS_one (i := 18) rfl (by kernel_rfl) (by rfl) hc (fun K' hK => ?_)
  go_simp
  refine (HS1.out).mono ?_
  rintro e X3 ⟨rfl, hb⟩
  have DX3 := hid (Below.step DX2.out hb)
  clear hb
  refine hK.out _ _ DX3.out (fun hc => ?_)
  clear hK K'
  have S0 : StillAt W9 #[] X3 := DX3.out
  try simp only [List.getElem_toArray, List.getElem_cons_succ, List.getElem_cons_zero, Act.put, List.setIfInBounds_toArray, List.set_cons_zero, List.set_cons_succ]
  refine wpAnyS_take (i := 19) (v := .bool true) rfl (by kernel_rfl) (by kernel_rfl) (by kernel_rfl) (fun _ _ _ h => h) (fun _ _ => Iff.rfl) hc (by first | rfl | simp [Region.wanted]) (fun wx hx => ?_) S0 (fun hc S0 => ?_)
  · go_simp
  try simp only [List.getElem_toArray, List.getElem_cons_succ, List.getElem_cons_zero, Act.put, List.setIfInBounds_toArray, List.set_cons_zero, List.set_cons_succ]
  refine wpAnyS_take (i := 20) (v := .bool true) rfl (by kernel_rfl) (by kernel_rfl) (by kernel_rfl) (fun _ _ _ h => h) (fun _ _ => Iff.rfl) hc (by first | rfl | simp [Region.wanted]) (fun wx hx => ?_) S0 (fun hc S0 => ?_)
  · go_simp
  try simp only [List.getElem_toArray, List.getElem_cons_succ, List.getElem_cons_zero, Act.put, List.setIfInBounds_toArray, List.set_cons_zero, List.set_cons_succ]
  refine wpAnyS_take (i := 21) (v := .int .i64 g) rfl (by kernel_rfl) (by kernel_rfl) (by kernel_rfl) (fun _ _ _ h => h) (fun _ _ => Iff.rfl) hc (by first | rfl | simp [Region.wanted]) (fun wx hx => ?_) S0 (fun hc S0 => ?_)
  · go_simp
  try simp only [List.getElem_toArray, List.getElem_cons_succ, List.getElem_cons_zero, Act.put, List.setIfInBounds_toArray, List.set_cons_zero, List.set_cons_succ]
  refine wpAnyS_take (i := 22) (v := .int .i64 g) rfl (by kernel_rfl) (by kernel_rfl) (by kernel_rfl) (fun _ _ _ h => h) (fun _ _ => Iff.rfl) hc (by first | rfl | simp [Region.wanted]) (fun wx hx => ?_) S0 (fun hc S0 => ?_)
  · go_simp
  try simp only [List.getElem_toArray, List.getElem_cons_succ, List.getElem_cons_zero, Act.put, List.setIfInBounds_toArray, List.set_cons_zero, List.set_cons_succ]
  refine wpAnyS_take (i := 23) (v := .bool true) rfl (by kernel_rfl) (by kernel_rfl) (by kernel_rfl) (fun _ _ _ h => h) (fun _ _ => Iff.rfl) hc (by first | rfl | simp [Region.wanted]) (fun wx hx => ?_) S0 (fun hc S0 => ?_)
  · go_simp
  try simp only [List.getElem_toArray, List.getElem_cons_succ, List.getElem_cons_zero, Act.put, List.setIfInBounds_toArray, List.set_cons_zero, List.set_cons_succ]
  refine wpAnyS_take (i := 24) (v := .bool true) rfl (by kernel_rfl) (by kernel_rfl) (by kernel_rfl) (fun _ _ _ h => h) (fun _ _ => Iff.rfl) hc (by first | rfl | simp [Region.wanted]) (fun wx hx => ?_) S0 (fun hc S0 => ?_)
  · go_simp
  try simp only [List.getElem_toArray, List.getElem_cons_succ, List.getElem_cons_zero, Act.put, List.setIfInBounds_toArray, List.set_cons_zero, List.set_cons_succ]
  refine wpAnyS_take (i := 25) (v := .bool true) rfl (by kernel_rfl) (by kernel_rfl) (by kernel_rfl) (fun _ _ _ h => h) (fun _ _ => Iff.rfl) hc (by first | rfl | simp [Region.wanted]) (fun wx hx => ?_) S0 (fun hc S0 => ?_)
  · go_simp
  try simp only [List.getElem_toArray, List.getElem_cons_succ, List.getElem_cons_zero, Act.put, List.setIfInBounds_toArray, List.set_cons_zero, List.set_cons_succ]
  refine wpAnyS_take (i := 26) (v := pv) rfl (by kernel_rfl) (by kernel_rfl) (by kernel_rfl) (fun _ _ _ h => h) (fun _ _ => Iff.rfl) hc (by first | rfl | simp [Region.wanted]) (fun wx hx => ?_) S0 (fun hc S0 => ?_)
  · go_simp
  try simp only [List.getElem_toArray, List.getElem_cons_succ, List.getElem_cons_zero, Act.put, List.setIfInBounds_toArray, List.set_cons_zero, List.set_cons_succ]
  refine wpAnyS_take (i := 27) (v := qv) rfl (by kernel_rfl) (by kernel_rfl) (by kernel_rfl) (fun _ _ _ h => h) (fun _ _ => Iff.rfl) hc (by first | rfl | simp [Region.wanted]) (fun wx hx => ?_) S0 (fun hc S0 => ?_)
  · go_simp
  try simp only [List.getElem_toArray, List.getElem_cons_succ, List.getElem_cons_zero, Act.put, List.setIfInBounds_toArray, List.set_cons_zero, List.set_cons_succ]
  have HS2 := hid (sameVar_any vs vs _ _ X3 (HP.out.below DX3.out) (HQ.out.below DX3.out))
  rw [decide_eq_true rfl] at HS2
  refine wpAnyS_one (i := 28) rfl (by kernel_rfl) (by rfl) hc (fun K' hK => ?_)
  go_simp
  refine (HS2.out).mono ?_
  rintro e X4 ⟨rfl, hb⟩
  have DX4 := hid (Below.step DX3.out hb)
  clear hb
  refine hK.out _ _ DX4.out (fun hc => ?_)
  clear hK K'
  have S0 : StillAt W9 #[] X4 := DX4.out
  try simp only [List.getElem_toArray, List.getElem_cons_succ, List.getElem_cons_zero, Act.put, List.setIfInBounds_toArray, List.set_cons_zero, List.set_cons_succ]
  refine wpAnyS_take (i := 29) (v := .bool true) rfl (by kernel_rfl) (by kernel_rfl) (by kernel_rfl) (fun _ _ _ h => h) (fun _ _ => Iff.rfl) hc (by first | rfl | simp [Region.wanted]) (fun wx hx => ?_) S0 (fun hc S0 => ?_)
  · go_simp
  try simp only [List.getElem_toArray, List.getElem_cons_succ, List.getElem_cons_zero, Act.put, List.setIfInBounds_toArray, List.set_cons_zero, List.set_cons_succ]
  refine wpAnyS_take (i := 30) (v := .bool true) rfl (by kernel_rfl) (by kernel_rfl) (by kernel_rfl) (fun _ _ _ h => h) (fun _ _ => Iff.rfl) hc (by first | rfl | simp [Region.wanted]) (fun wx hx => ?_) S0 (fun hc S0 => ?_)
  · go_simp
  try simp only [List.getElem_toArray, List.getElem_cons_succ, List.getElem_cons_zero, Act.put, List.setIfInBounds_toArray, List.set_cons_zero, List.set_cons_succ]
  refine wpAnyS_take (i := 31) (v := .int .i64 di) rfl (by kernel_rfl) (by kernel_rfl) (by kernel_rfl) (fun _ _ _ h => h) (fun _ _ => Iff.rfl) hc (by first | rfl | simp [Region.wanted]) (fun wx hx => ?_) S0 (fun hc S0 => ?_)
  · go_simp
  try simp only [List.getElem_toArray, List.getElem_cons_succ, List.getElem_cons_zero, Act.put, List.setIfInBounds_toArray, List.set_cons_zero, List.set_cons_succ]
  refine wpAnyS_take (i := 32) (v := .int .i64 di) rfl (by kernel_rfl) (by kernel_rfl) (by kernel_rfl) (fun _ _ _ h => h) (fun _ _ => Iff.rfl) hc (by first | rfl | simp [Region.wanted]) (fun wx hx => ?_) S0 (fun hc S0 => ?_)
  · go_simp
  try simp only [List.getElem_toArray, List.getElem_cons_succ, List.getElem_cons_zero, Act.put, List.setIfInBounds_toArray, List.set_cons_zero, List.set_cons_succ]
  refine wpAnyS_take (i := 33) (v := .bool true) rfl (by kernel_rfl) (by kernel_rfl) (by kernel_rfl) (fun _ _ _ h => h) (fun _ _ => Iff.rfl) hc (by first | rfl | simp [Region.wanted]) (fun wx hx => ?_) S0 (fun hc S0 => ?_)
  · go_simp
  try simp only [List.getElem_toArray, List.getElem_cons_succ, List.getElem_cons_zero, Act.put, List.setIfInBounds_toArray, List.set_cons_zero, List.set_cons_succ]
  refine wpAnyS_take (i := 34) (v := .bool true) rfl (by kernel_rfl) (by kernel_rfl) (by kernel_rfl) (fun _ _ _ h => h) (fun _ _ => Iff.rfl) hc (by first | rfl | simp [Region.wanted]) (fun wx hx => ?_) S0 (fun hc S0 => ?_)
  · go_simp
  try simp only [List.getElem_toArray, List.getElem_cons_succ, List.getElem_cons_zero, Act.put, List.setIfInBounds_toArray, List.set_cons_zero, List.set_cons_succ]
  refine wpAnyS_take (i := 35) (v := .bool true) rfl (by kernel_rfl) (by kernel_rfl) (by kernel_rfl) (fun _ _ _ h => h) (fun _ _ => Iff.rfl) hc (by first | rfl | simp [Region.wanted]) (fun wx hx => ?_) S0 (fun hc S0 => ?_)
  · go_simp
  try simp only [List.getElem_toArray, List.getElem_cons_succ, List.getElem_cons_zero, Act.put, List.setIfInBounds_toArray, List.set_cons_zero, List.set_cons_succ]
  refine wpAnyS_take (i := 36) (v := .int .i64 dc) rfl (by kernel_rfl) (by kernel_rfl) (by kernel_rfl) (fun _ _ _ h => h) (fun _ _ => Iff.rfl) hc (by first | rfl | simp [Region.wanted]) (fun wx hx => ?_) S0 (fun hc S0 => ?_)
  · go_simp
  try simp only [List.getElem_toArray, List.getElem_cons_succ, List.getElem_cons_zero, Act.put, List.setIfInBounds_toArray, List.set_cons_zero, List.set_cons_succ]
  refine wpAnyS_take (i := 37) (v := .int .i64 dc) rfl (by kernel_rfl) (by kernel_rfl) (by kernel_rfl) (fun _ _ _ h => h) (fun _ _ => Iff.rfl) hc (by first | rfl | simp [Region.wanted]) (fun wx hx => ?_) S0 (fun hc S0 => ?_)
  · go_simp
  try simp only [List.getElem_toArray, List.getElem_cons_succ, List.getElem_cons_zero, Act.put, List.setIfInBounds_toArray, List.set_cons_zero, List.set_cons_succ]
  refine wpAnyS_take (i := 38) (v := .bool true) rfl (by kernel_rfl) (by kernel_rfl) (by kernel_rfl) (fun _ _ _ h => h) (fun _ _ => Iff.rfl) hc (by first | rfl | simp [Region.wanted]) (fun wx hx => ?_) S0 (fun hc S0 => ?_)
  · go_simp
  try simp only [List.getElem_toArray, List.getElem_cons_succ, List.getElem_cons_zero, Act.put, List.setIfInBounds_toArray, List.set_cons_zero, List.set_cons_succ]
  refine wpAnyS_take (i := 39) (v := .bool true) rfl (by kernel_rfl) (by kernel_rfl) (by kernel_rfl) (fun _ _ _ h => h) (fun _ _ => Iff.rfl) hc (by first | rfl | simp [Region.wanted]) (fun wx hx => ?_) S0 (fun hc S0 => ?_)
  · go_simp
  try simp only [List.getElem_toArray, List.getElem_cons_succ, List.getElem_cons_zero, Act.put, List.setIfInBounds_toArray, List.set_cons_zero, List.set_cons_succ]
  refine wpAnyS_one (i := 40) rfl (by kernel_rfl) (by rfl) hc (fun K' hK => ?_)
  go_simp
  refine hK.out _ _ DX4.out (fun hc => ?_)
  clear hK K'
  have S0 : StillAt W9 #[] X4 := DX4.out
  try simp only [List.getElem_toArray, List.getElem_cons_succ, List.getElem_cons_zero, Act.put, List.setIfInBounds_toArray, List.set_cons_zero, List.set_cons_succ]
  refine wpAnyS_done (by kernel_rfl) ?_ _
  clear hc S0
  have BZ := hid (Below.step B9.out DX4.out)
  go_wp2_with fail
  go_ret
  exact ⟨rfl, BZ.out⟩

end Go.Proofs.YtdchjacccmajcaaGreatDoor
