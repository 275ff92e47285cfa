/-
  RewriteVariants: the statement's function returns true. Conditions: what can be read of its arguments.
-/
import Derived.Test.YtdchjacccmajcaaGreatDoorZRn9
import Derived.Deep.Cut
namespace Go.Proofs.YtdchjacccmajcaaGreatDoor
open Go.RowKit Go.Lib Go.Maps

theorem bs_app (a b : List UInt8) : bs a ++ bs b = bs (a ++ b) := by
  have : (bs a ++ bs b).data.toList = (bs (a ++ b)).data.toList := by simp [ByteArray.data_append, bs]
  exact ByteArray.ext (Array.toList_inj.1 this)

set_option maxRecDepth 100000 in
set_option maxHeartbeats 20000000 in
theorem variants_law (t : Rw.Table) (tv : Value) (k : Int) (word : List UInt8) (W : World) (ht : TableRaw W t tv) (hT : Tabs W) (h10 : Tab10 W) (hx : word.length ≤ maxLen) :
    Calls Tryz.prog 8 #[tv, .int .i64 k, .string (bs word)] W (Gives (.bool true) W) := by
  have HT := hid ht
  have HTT := hid hT
  have H10 := hid h10
  obtain ⟨⟨vr, vd, ve, rfl, ⟨ar, cr, rfl, -⟩, ⟨ad, cd, rfl, -⟩, ⟨ae, ce, rfl, -, -, hE0⟩⟩, -, -, -⟩ := ht
  have hE := hid hE0
  clear hT h10 hE0
  obtain ⟨W1, hW1⟩ : ∃ W1, W1 = W.alloc (.cells #[.slice ar t.rules.length cr, .slice ad t.drops.length cd, .slice ae t.ends.length ce, .int .i64 t.drop, .int .i64 t.order, .int .i64 t.initial] 25) := ⟨_, rfl⟩
  have hb1 : Below W.heap.size W W1 := by rw [hW1]; exact (Below.refl _ W).alloc (Nat.le_refl _) _
  have T1 := hid (show Blk W1 W.heap.size 25 [.slice ar t.rules.length cr, .slice ad t.drops.length cd, .slice ae t.ends.length ce, .int .i64 t.drop, .int .i64 t.order, .int .i64 t.initial] by rw [hW1]; exact Blk.new W _ _)
  have HH := hid (head_true W1 (HTT.out.below hb1) (H10.out.below hb1))
  have B1 := hid hb1
  clear hb1
  go_enter Tryz.func8, Tryz.ntmps8
  go_upto_region 1 with (fail)
  rw [← hW1]
  clear hW1
  go_wp2_with fail
  refine (HH.out).mono ?_
  rintro e W2 ⟨rfl, hb2⟩
  have B2 := hid (Below.step B1.out hb2)
  have T2 := hid (T1.out.below hb2)
  clear hb2 HH
  obtain ⟨L, hL⟩ : ∃ L, L = Fo.letters k word := ⟨_, rfl⟩
  have hL12 := Fo.letters_len k word
  rw [← hL] at hL12
  have HLT := hid (letters10_big k (bs word) W2 (by rw [bs_len]; exact hx) (HTT.out.below B2.out))
  rw [bs_list] at HLT
  unfold Let10 at HLT
  rw [← hL] at HLT
  have HLL := hid hL
  clear hL
  go_wp2_with fail
  refine (HLT.out).mono ?_
  rintro e W3 ⟨lv, rfl, hown, hb⟩
  obtain ⟨la, lc, rfl⟩ := ownsRow_slice hown
  have HL := hid (show SlOf W3 (.slice la L.length lc) 1 strC L from SlOf.own hown (fun _ _ => rfl))
  have B3 := hid (Below.step B2.out hb)
  have T3 := hid (T2.out.below hb)
  clear hb hown HLT
  have t0 := T3.out.cell (j := 0) rfl
  have t1 := T3.out.cell (j := 1) rfl
  have t2 := T3.out.cell (j := 2) rfl
  have t3 := T3.out.cell (j := 3) rfl
  have t4 := T3.out.cell (j := 4) rfl
  have t5 := T3.out.cell (j := 5) rfl
  have tl := T3.out.lt
  have HF := hid (few10_any t _ W3 (HT.out.below B3.out))
  go_wp2_with fail
  refine (HF.out).mono ?_
  rintro e W4 ⟨rfl, hbf⟩
  have B4 := hid (Below.step B3.out hbf)
  have T4 := hid (T3.out.below hbf)
  have HL := hid (HL.out.below hbf)
  clear hbf HF t0 t1 t2 t3 t4 t5 tl
  cases hfew : Rw.fewB t with
  | false =>
    go_wp2_with fail
    go_ret
    exact ⟨rfl, B4.out⟩
  | true =>
  have TA := hid (HT.out.few10 hfew)
  clear hfew
  have hsz : (bs word).size = word.length := bs_len word
  by_cases h60 : word.length ≤ 60
  rotate_left
  · have g60 : decide ((60 : Int) < ((bs word).size : Int)) = true := decide_eq_true (by omega)
    have hmx : (bs word).size ≤ 9223372036854775807 := by unfold maxLen at hx; omega
    clear h60 hsz
    have t0 := T4.out.cell (j := 0) rfl
    have t1 := T4.out.cell (j := 1) rfl
    have t2 := T4.out.cell (j := 2) rfl
    have t3 := T4.out.cell (j := 3) rfl
    have t4 := T4.out.cell (j := 4) rfl
    have t5 := T4.out.cell (j := 5) rfl
    have tl := T4.out.lt
    go_wp2_with fail
    go_ret
    exact ⟨rfl, B4.out⟩
  have g60 : decide ((60 : Int) < ((bs word).size : Int)) = false := decide_eq_false (by omega)
  have hmx : (bs word).size ≤ 9223372036854775807 := by omega
  have H60 := hid h60
  clear h60 hsz
  have t0 := T4.out.cell (j := 0) rfl
  have t1 := T4.out.cell (j := 1) rfl
  have t2 := T4.out.cell (j := 2) rfl
  have t3 := T4.out.cell (j := 3) rfl
  have t4 := T4.out.cell (j := 4) rfl
  have t5 := T4.out.cell (j := 5) rfl
  have tl := T4.out.lt
  have HV := hid (valid_any t _ W4 (TA.out.below B4.out) (HTT.out.below B4.out))
  go_wp2_with fail
  refine (HV.out).mono ?_
  rintro e W5 ⟨rfl, hbf⟩
  have B5 := hid (Below.step B4.out hbf)
  have T5 := hid (T4.out.below hbf)
  have HL := hid (HL.out.below hbf)
  clear hbf HV t0 t1 t2 t3 t4 t5 tl
  cases hv : Rw.valid t with
  | false =>
    clear hv
    go_wp2_with fail
    go_ret
    exact ⟨rfl, B5.out⟩
  | true =>
  have HVV := hid hv
  clear hv
  by_cases h0 : L.length = 0
  · have g0 : ((L.length : Int) == 0) = true := by rw [h0]; rfl
    clear h0
    go_wp2_with fail
    go_ret
    exact ⟨rfl, B5.out⟩
  have g0 : ((L.length : Int) == 0) = false := by rw [beq_eq_false_iff_ne]; omega
  have hb60 : (bs word).size ≤ 1000000 := by rw [bs_len]; have := H60.out; omega
  have HNE := hid (show L ≠ [] from fun e => h0 (by rw [e]; rfl))
  obtain ⟨ls, hls⟩ := Fo.letters_ne (k := k) (s := word) (by rw [← HLL.out]; exact HNE.out)
  have HLS := hid hls
  have HFO := hid (fold_any k (bs word) W5 hb60 (HTT.out.below B5.out))
  clear hls h0
  go_wp2_with fail
  refine (HFO.out).mono ?_
  rintro e W6 ⟨he, hb⟩
  rw [bs_list, HLS.out] at he
  subst he
  have B6 := hid (Below.step B5.out hb)
  have T6 := hid (T5.out.below hb)
  have HL := hid (HL.out.below hb)
  clear hb HFO
  have HFL := hid (show L.flatten = Sc.fold word by rw [HLL.out]; exact Fo.letters_flat (by rw [← HLL.out]; exact HNE.out))
  have HFZ := hid (show (Sc.fold word).length ≤ 60 by unfold Sc.fold; rw [List.length_map]; exact H60.out)
  have HVS := hid (show Rw.variants t k word = (⟨Sc.fold word, -1, 0⟩ :: Rw.endsFrom k L 0 t.ends, 0) by
    unfold Rw.variants
    rw [← HLL.out, if_neg (by rw [HVV.out]; simp [HNE.out]), HFL.out])
  have t0 := T6.out.cell (j := 0) rfl
  have t1 := T6.out.cell (j := 1) rfl
  have t2 := T6.out.cell (j := 2) rfl
  have t3 := T6.out.cell (j := 3) rfl
  have t4 := T6.out.cell (j := 4) rfl
  have t5 := T6.out.cell (j := 5) rfl
  have tl := T6.out.lt
  have HC := hid (variants_is (TA.out.below B6.out) (HTT.out.below B6.out) (by have := H60.out; omega) HVS.out)
  go_wp2_with fail
  refine (HC.out).mono ?_
  rintro e W7 ⟨va, vc, rfl, hv1, hb⟩
  have B7 := hid (Below.step B6.out hb)
  have T7 := hid (T6.out.below hb)
  have HL := hid (HL.out.below hb)
  clear hb HC t0 t1 t2 t3 t4 t5 tl
  have HV := hid hv1
  obtain ⟨gv, ov, rfl, zv, hv0⟩ := rn_cell (k := 0) (x := ⟨Sc.fold word, -1, 0⟩) hv1 rfl
  have c0 := hv0 0 _ rfl
  have c1 := hv0 1 _ rfl
  have c2 := hv0 2 _ rfl
  simp only [Nat.zero_mul, Nat.add_zero] at c0 c1 c2
  have g1 : ((bs (Sc.fold word)).toList == (bs (Sc.fold word)).toList) = true := by simp
  have HVE := hid (Rw.valid_ends HVV.out)
  have he40 := HVE.out.1
  obtain ⟨nv, hnv⟩ : ∃ q, q = (⟨Sc.fold word, -1, 0⟩ :: Rw.endsFrom k L 0 t.ends : List Rw.Vr).length := ⟨_, rfl⟩
  have hnv1 : 1 ≤ nv := by rw [hnv]; simp
  have hnv2 : nv ≤ 41 := by
    rw [hnv, List.length_cons]
    have := Rw.endsFrom_len k L t.ends 0
    omega
  have g2 : ((nv : Int) == 0) = false := by rw [beq_eq_false_iff_ne]; omega
  have g3 : (0 : Int) < (nv : Int) := by omega
  have HNV := hid hnv
  rw [← hnv]
  clear hv1 hv0 hnv
  go_wp2_with fail
  go_loopw [13, 14] (fun av iv wr => ∃ (i a : Nat), i ≤ t.ends.length ∧ av = .int .i64 a ∧ iv = .int .i64 i ∧ Hid (a = 1 + (Rw.endsFrom k L 0 (t.ends.take i)).length ∧ a ≤ 41) ∧ Hid (Below W7.heap.size W7 wr)) (fun _ iv _ => t.ends.length - (RowKit.intOf iv).toNat)
  case atStart => exact ⟨0, 1, Nat.zero_le _, rfl, rfl, hid ⟨by rw [List.take_zero]; rfl, by omega⟩, Below.refl _ _⟩
  case round =>
    clear c0 c1 c2
    obtain ⟨i, a, hi, rfl, rfl, HA, HR⟩ := hrel
    have HTR := HT.out
    have T8 := T7.out.below HR.out
    have t2 := T8.cell (j := 2) rfl
    have tl := T8.lt
    clear T8 HTR
    by_cases hit : i < t.ends.length
    · obtain ⟨g, o, rfl, hr⟩ := hE.out (by omega)
      obtain ⟨d, hd⟩ : ∃ d, t.ends[i]? = some d := ⟨_, List.getElem?_eq_getElem hit⟩
      have hbW := Below.step B7.out HR.out
      have hc := (hr.below hbW).2 i d hd
      have e0 := hc 0 _ rfl
      have e1 := hc 1 _ rfl
      have e2 := hc 2 _ rfl
      rw [Nat.add_zero] at e0
      have hg := (hr.below hbW).1
      have i0 : (0 : Int) ≤ (i : Int) := by omega
      have i1 : (i : Int) < (t.ends.length : Int) := by omega
      have HST := hid (Rw.endsFrom_step k L hd)
      have HEA := hid (fun x => Rw.endsFrom_at (x := x) k L hd)
      obtain ⟨f, hlf, hfl, hfne, hf12, hff, hc0, hc1⟩ := Fo.letters_drop (HVE.out.2 d (List.mem_of_getElem? hd))
      have hdw : d.word.length ≤ 1000 := ((TA.out.ends d (List.mem_of_getElem? hd))).2
      have HLE := hid (letters_any d.script (bs d.word) wr.drew (by rw [bs_len]; omega) ((HTT.out.below hbW).below (Below.refl _ _).drew))
      unfold LettersPost at HLE
      rw [bs_list, hlf] at HLE
      have HFF := hid (And.intro hlf (And.intro hfl (And.intro hfne hff)))
      have HRZ := hid (And.intro hg (And.intro e0 (And.intro e1 e2)))
      have HSZ := hid (And.intro hdw hf12)
      clear hlf hfl hfne hff hd hr hc hbW hdw
      go_upto_region 13 with (fail)
      refine wp_heldS (S := StillAt wr) (by kernel_rfl) ?_
      simp only [List.size_toArray, List.length_cons, List.length_nil, Nat.reduceAdd]
      intro hc
      have S0 : StillAt wr (Array.replicate 18 false) wr.drew := (Below.refl _ _).drew
      refine wpAnyS_take (i := 0) (v := .pointer (some ⟨W.heap.size, 2, none⟩)) rfl (by kernel_rfl) (by kernel_rfl) (by kernel_rfl) (fun _ _ _ h => h) (fun _ _ => Iff.rfl) hc (by first | rfl | simp [Region.wanted]) (fun wx hx => ?_) S0 (fun hc S0 => ?_)
      · go_simp
      try simp only [List.getElem_toArray, List.getElem_cons_zero, Act.put, List.setIfInBounds_toArray, List.set_cons_zero, List.set_cons_succ]
      refine wpAnyS_take (i := 1) (v := .slice (some ⟨g, o, none⟩) t.ends.length ce) rfl (by kernel_rfl) (by kernel_rfl) (by kernel_rfl) (fun _ _ _ h => h) (fun _ _ => Iff.rfl) hc (by first | rfl | simp [Region.wanted]) (fun wx hx => ?_) S0 (fun hc S0 => ?_)
      · have y := (hx.still.cell (p := ⟨W.heap.size, 2, none⟩) tl).trans t2
        go_simp
      try simp only [List.getElem_toArray, List.getElem_cons_succ, List.getElem_cons_zero, Act.put, List.setIfInBounds_toArray, List.set_cons_zero, List.set_cons_succ]
      refine wpAnyS_take (i := 2) (v := .int .i64 i) rfl (by kernel_rfl) (by kernel_rfl) (by kernel_rfl) (fun _ _ _ h => h) (fun _ _ => Iff.rfl) hc (by first | rfl | simp [Region.wanted]) (fun wx hx => ?_) S0 (fun hc S0 => ?_)
      · go_simp
      try simp only [List.getElem_toArray, List.getElem_cons_succ, List.getElem_cons_zero, Act.put, List.setIfInBounds_toArray, List.set_cons_zero, List.set_cons_succ]
      refine wpAnyS_take (i := 3) (v := .pointer (some ⟨g, o + i * 3, none⟩)) rfl (by kernel_rfl) (by kernel_rfl) (by kernel_rfl) (fun _ _ _ h => h) (fun _ _ => Iff.rfl) hc (by first | rfl | simp [Region.wanted]) (fun wx hx => ?_) S0 (fun hc S0 => ?_)
      · go_simp
      try simp only [List.getElem_toArray, List.getElem_cons_succ, List.getElem_cons_zero, Act.put, List.setIfInBounds_toArray, List.set_cons_zero, List.set_cons_succ]
      refine wpAnyS_take (i := 4) (v := .pointer (some ⟨g, o + i * 3, none⟩)) rfl (by kernel_rfl) (by kernel_rfl) (by kernel_rfl) (fun _ _ _ h => h) (fun _ _ => Iff.rfl) hc (by first | rfl | simp [Region.wanted]) (fun wx hx => ?_) S0 (fun hc S0 => ?_)
      · go_simp
      try simp only [List.getElem_toArray, List.getElem_cons_succ, List.getElem_cons_zero, Act.put, List.setIfInBounds_toArray, List.set_cons_zero, List.set_cons_succ]
      refine wpAnyS_take (i := 5) (v := .int .i64 d.script) rfl (by kernel_rfl) (by kernel_rfl) (by kernel_rfl) (fun _ _ _ h => h) (fun _ _ => Iff.rfl) hc (by first | rfl | simp [Region.wanted]) (fun wx hx => ?_) S0 (fun hc S0 => ?_)
      · have y := (hx.still.cell (p := ⟨g, o + i * 3, none⟩) hg).trans e0
        go_simp
      try simp only [List.getElem_toArray, List.getElem_cons_succ, List.getElem_cons_zero, Act.put, List.setIfInBounds_toArray, List.set_cons_zero, List.set_cons_succ]
      refine wpAnyS_take (i := 6) (v := .pointer (some ⟨W.heap.size, 2, none⟩)) rfl (by kernel_rfl) (by kernel_rfl) (by kernel_rfl) (fun _ _ _ h => h) (fun _ _ => Iff.rfl) hc (by first | rfl | simp [Region.wanted]) (fun wx hx => ?_) S0 (fun hc S0 => ?_)
      · go_simp
      try simp only [List.getElem_toArray, List.getElem_cons_succ, List.getElem_cons_zero, Act.put, List.setIfInBounds_toArray, List.set_cons_zero, List.set_cons_succ]
      refine wpAnyS_take (i := 7) (v := .slice (some ⟨g, o, none⟩) t.ends.length ce) rfl (by kernel_rfl) (by kernel_rfl) (by kernel_rfl) (fun _ _ _ h => h) (fun _ _ => Iff.rfl) hc (by first | rfl | simp [Region.wanted]) (fun wx hx => ?_) S0 (fun hc S0 => ?_)
      · have y := (hx.still.cell (p := ⟨W.heap.size, 2, none⟩) tl).trans t2
        go_simp
      try simp only [List.getElem_toArray, List.getElem_cons_succ, List.getElem_cons_zero, Act.put, List.setIfInBounds_toArray, List.set_cons_zero, List.set_cons_succ]
      refine wpAnyS_take (i := 8) (v := .int .i64 i) rfl (by kernel_rfl) (by kernel_rfl) (by kernel_rfl) (fun _ _ _ h => h) (fun _ _ => Iff.rfl) hc (by first | rfl | simp [Region.wanted]) (fun wx hx => ?_) S0 (fun hc S0 => ?_)
      · go_simp
      try simp only [List.getElem_toArray, List.getElem_cons_succ, List.getElem_cons_zero, Act.put, List.setIfInBounds_toArray, List.set_cons_zero, List.set_cons_succ]
      refine wpAnyS_take (i := 9) (v := .pointer (some ⟨g, o + i * 3, none⟩)) rfl (by kernel_rfl) (by kernel_rfl) (by kernel_rfl) (fun _ _ _ h => h) (fun _ _ => Iff.rfl) hc (by first | rfl | simp [Region.wanted]) (fun wx hx => ?_) S0 (fun hc S0 => ?_)
      · go_simp
      try simp only [List.getElem_toArray, List.getElem_cons_succ, List.getElem_cons_zero, Act.put, List.setIfInBounds_toArray, List.set_cons_zero, List.set_cons_succ]
      refine wpAnyS_take (i := 10) (v := .pointer (some ⟨g, o + i * 3 + 1, none⟩)) rfl (by kernel_rfl) (by kernel_rfl) (by kernel_rfl) (fun _ _ _ h => h) (fun _ _ => Iff.rfl) hc (by first | rfl | simp [Region.wanted]) (fun wx hx => ?_) S0 (fun hc S0 => ?_)
      · go_simp
      try simp only [List.getElem_toArray, List.getElem_cons_succ, List.getElem_cons_zero, Act.put, List.setIfInBounds_toArray, List.set_cons_zero, List.set_cons_succ]
      refine wpAnyS_take (i := 11) (v := .string (bs d.word)) rfl (by kernel_rfl) (by kernel_rfl) (by kernel_rfl) (fun _ _ _ h => h) (fun _ _ => Iff.rfl) hc (by first | rfl | simp [Region.wanted]) (fun wx hx => ?_) S0 (fun hc S0 => ?_)
      · have y := (hx.still.cell (p := ⟨g, o + i * 3 + 1, none⟩) hg).trans e1
        go_simp
      try simp only [List.getElem_toArray, List.getElem_cons_succ, List.getElem_cons_zero, Act.put, List.setIfInBounds_toArray, List.set_cons_zero, List.set_cons_succ]
      refine wpAnyS_one (i := 12) rfl (by kernel_rfl) (by rfl) hc (fun K' hK => ?_)
      go_simp
      refine (HLE.out).mono ?_
      rintro e W8 ⟨fv, rfl, hof, hb'⟩
      have hb : Below wr.heap.size wr W8 := Below.step (Below.refl _ _).drew hb'
      obtain ⟨af, cf, rfl⟩ := ownsRow_slice hof
      have HSF := hid (show SlOf W8 (.slice af f.length cf) 1 strC f from SlOf.own (by rw [flat_str]; exact hof) (fun _ _ => rfl))
      refine hK.out _ _ hb (fun hc => ?_)
      clear hK K'
      have S0 : StillAt wr #[] W8 := hb
      try simp only [List.getElem_toArray, List.getElem_cons_succ, List.getElem_cons_zero, Act.put, List.setIfInBounds_toArray, List.set_cons_zero, List.set_cons_succ]
      refine wpAnyS_take (i := 13) (v := .tuple #[.slice af f.length cf, .int .i64 0]) rfl (by kernel_rfl) (by kernel_rfl) (by kernel_rfl) (fun _ _ _ h => h) (fun _ _ => Iff.rfl) hc (by first | rfl | simp [Region.wanted]) (fun wx hx => ?_) S0 (fun hc S0 => ?_)
      · go_simp
      try simp only [List.getElem_toArray, List.getElem_cons_succ, List.getElem_cons_zero, Act.put, List.setIfInBounds_toArray, List.set_cons_zero, List.set_cons_succ]
      refine wpAnyS_take (i := 14) (v := .slice af f.length cf) rfl (by kernel_rfl) (by kernel_rfl) (by kernel_rfl) (fun _ _ _ h => h) (fun _ _ => Iff.rfl) hc (by first | rfl | simp [Region.wanted]) (fun wx hx => ?_) S0 (fun hc S0 => ?_)
      · go_simp
      try simp only [List.getElem_toArray, List.getElem_cons_succ, List.getElem_cons_zero, Act.put, List.setIfInBounds_toArray, List.set_cons_zero, List.set_cons_succ]
      refine wpAnyS_take (i := 15) (v := .int .i64 0) rfl (by kernel_rfl) (by kernel_rfl) (by kernel_rfl) (fun _ _ _ h => h) (fun _ _ => Iff.rfl) hc (by first | rfl | simp [Region.wanted]) (fun wx hx => ?_) S0 (fun hc S0 => ?_)
      · go_simp
      try simp only [List.getElem_toArray, List.getElem_cons_succ, List.getElem_cons_zero, Act.put, List.setIfInBounds_toArray, List.set_cons_zero, List.set_cons_succ]
      refine wpAnyS_take (i := 16) (v := .slice af f.length cf) rfl (by kernel_rfl) (by kernel_rfl) (by kernel_rfl) (fun _ _ _ h => h) (fun _ _ => Iff.rfl) hc (by first | rfl | simp [Region.wanted]) (fun wx hx => ?_) S0 (fun hc S0 => ?_)
      · go_simp
      try simp only [List.getElem_toArray, List.getElem_cons_succ, List.getElem_cons_zero, Act.put, List.setIfInBounds_toArray, List.set_cons_zero, List.set_cons_succ]
      refine wpAnyS_take (i := 17) (v := .int .i64 0) rfl (by kernel_rfl) (by kernel_rfl) (by kernel_rfl) (fun _ _ _ h => h) (fun _ _ => Iff.rfl) hc (by first | rfl | simp [Region.wanted]) (fun wx hx => ?_) S0 (fun hc S0 => ?_)
      · go_simp
      try simp only [List.getElem_toArray, List.getElem_cons_succ, List.getElem_cons_zero, Act.put, List.setIfInBounds_toArray, List.set_cons_zero, List.set_cons_succ]
      refine wpAnyS_done (by kernel_rfl) ?_ _
      clear hc S0
      have HR8 := hid (Below.step HR.out hb)
      have hg8 : g < W8.heap.size := Nat.lt_of_lt_of_le hg hb.size
      have tl8 : W.heap.size < W8.heap.size := Nat.lt_of_lt_of_le tl hb.size
      have q2 := (hb.cell (p := ⟨W.heap.size, 2, none⟩) tl).trans t2
      have q0 := (hb.cell (p := ⟨g, o + i * 3, none⟩) hg).trans e0
      have q1 := (hb.cell (p := ⟨g, o + i * 3 + 1, none⟩) hg).trans e1
      have q3 := (hb.cell (p := ⟨g, o + i * 3 + 2, none⟩) hg).trans e2
      clear hof hb hb' hg tl t2 e0 e1 e2 HLE
      have HNO := hid (show Rw.endOf k L i d = none → a = 1 + (Rw.endsFrom k L 0 (t.ends.take (i + 1))).length ∧ a ≤ 41 from fun h => ⟨by rw [HST.out, h]; simp only [Option.toList_none, List.append_nil]; exact HA.out.1, HA.out.2⟩)
      by_cases hsc : d.script = k
      rotate_left
      · have gs : ((d.script : Int) == k) = false := by rw [beq_eq_false_iff_ne]; exact hsc
        have HEE := hid (HNO.out (by unfold Rw.endOf; rw [if_neg]; rintro ⟨h, -⟩; exact hsc h))
        clear hsc
        go_wp2_with fail
        go_roundw
        case rel => exact ⟨i + 1, a, by omega, rfl, by go_num, HEE, HR8⟩
        case measure => simp [RowKit.intOf]; omega
      subst hsc
      have gs : ((d.script : Int) == d.script) = true := by simp
      by_cases hlt : f.length < L.length
      rotate_left
      · have gl : decide ((f.length : Int) < (L.length : Int)) = false := decide_eq_false (by omega)
        have gl2 : decide (f.length < L.length) = false := decide_eq_false hlt
        have HEE := hid (HNO.out (by unfold Rw.endOf; rw [HFF.out.2.1, if_neg]; rintro ⟨-, h, -⟩; exact hlt h))
        clear hlt
        go_wp2_with fail
        go_roundw
        case rel => exact ⟨i + 1, a, by omega, rfl, by go_num, HEE, HR8⟩
        case measure => simp [RowKit.intOf]; omega
      have gl : decide ((f.length : Int) < (L.length : Int)) = true := decide_eq_true (by omega)
      have gl2 : decide (f.length < L.length) = true := decide_eq_true hlt
      obtain ⟨m, hm⟩ : ∃ m, m = L.length - f.length := ⟨_, rfl⟩
      have hwr : IntKind.i64.wrap ((L.length : Int) - (f.length : Int)) = (m : Int) := by rw [IntWalk.i64_in _ (by omega)]; omega
      have HAT := hid (at_any L f m _ _ W8 (HL.out.below HR8.out) HSF.out (by omega) (by omega) (by omega))
      obtain ⟨fb, hfb⟩ : ∃ fb, fb = atB L m f := ⟨_, rfl⟩
      rw [← hfb] at HAT
      have HFB := hid hfb
      have HMN := hid (And.intro hlt hm)
      have HDR := hid (show (L.drop m).take f.length = L.drop m from List.take_of_length_le (by rw [List.length_drop]; omega))
      have HFD := hid (show fb = decide (L.drop m = f) by
        rw [hfb]
        unfold atB
        rw [HDR.out, decide_eq_true (show m + f.length ≤ L.length by omega), Bool.true_and])
      clear hfb hlt hm
      go_wp2_with fail
      refine (HAT.out).mono ?_
      rintro e W9 ⟨rfl, hb⟩
      have HR9 := hid (Below.step HR8.out hb)
      have tl9 : W.heap.size < W9.heap.size := Nat.lt_of_lt_of_le tl8 hb.size
      have hg9 : g < W9.heap.size := Nat.lt_of_lt_of_le hg8 hb.size
      have p2 := (hb.cell (p := ⟨W.heap.size, 2, none⟩) tl8).trans q2
      have p0 := (hb.cell (p := ⟨g, o + i * 3, none⟩) hg8).trans q0
      have p1 := (hb.cell (p := ⟨g, o + i * 3 + 1, none⟩) hg8).trans q1
      have p3 := (hb.cell (p := ⟨g, o + i * 3 + 2, none⟩) hg8).trans q3
      clear hb q0 q1 q2 q3 tl8 hg8 HAT hwr gl gl2
      cases fb with
      | false =>
        have HEE := hid (HNO.out (by
          unfold Rw.endOf
          rw [HFF.out.2.1, ← HMN.out.2, if_neg]
          rintro ⟨-, -, h⟩
          exact of_decide_eq_false HFD.out.symm h))
        go_wp2_with fail
        go_roundw
        case rel => exact ⟨i + 1, a, by omega, rfl, by go_num, HEE, HR9⟩
        case measure => simp [RowKit.intOf]; omega
      | true =>
        have HDE := hid (of_decide_eq_true HFD.out.symm)
        have HSO := hid (show Rw.endOf d.script L i d = some ⟨(L.take m).flatten, i, d.cost⟩ by
          unfold Rw.endOf
          rw [HFF.out.2.1, ← HMN.out.2, if_pos ⟨rfl, HMN.out.1, HDE.out⟩])
        have HVX := hid (show (⟨Sc.fold word, -1, 0⟩ :: Rw.endsFrom d.script L 0 t.ends : List Rw.Vr)[a]? = some ⟨(L.take m).flatten, i, d.cost⟩ by
          rw [HA.out.1, Nat.add_comm, List.getElem?_cons_succ]
          exact HEA.out _ HSO.out)
        have HSU := hid (show (L.take m).flatten ++ d.word = Sc.fold word by
          rw [← HFL.out, ← Sc.lets_join HFF.out.1, ← HDE.out, ← List.flatten_append, List.take_append_drop])
        have hav : a < nv := by rw [HNV.out]; exact (List.getElem?_eq_some_iff.1 HVX.out).1
        obtain ⟨gv', ov', ev, zv', hvc⟩ := rn_cell (HV.out.below HR9.out) HVX.out
        cases ev
        have v0 := hvc 0 _ rfl
        have v1 := hvc 1 _ rfl
        have v2 := hvc 2 _ rfl
        rw [Nat.add_zero] at v0
        have a0 : (0 : Int) ≤ (a : Int) := by omega
        have a1 : (a : Int) < (nv : Int) := by omega
        have ga : decide ((nv : Int) ≤ (a : Int)) = false := decide_eq_false (by omega)
        have ga2 : decide (nv ≤ a) = false := decide_eq_false (by omega)
        have gw : ((bs (L.take m).flatten ++ bs d.word).toList == (bs (Sc.fold word)).toList) = true := by rw [bs_app, HSU.out]; simp
        have hs1 : (bs (L.take m).flatten).size ≤ 60 := by
          rw [bs_len]
          have h1 := congrArg List.length HSU.out
          rw [List.length_append] at h1
          have := HFZ.out
          omega
        have hs2 : (bs d.word).size ≤ 60 := by
          rw [bs_len]
          have h1 := congrArg List.length HSU.out
          rw [List.length_append] at h1
          have := HFZ.out
          omega
        have hs3 : (bs (L.take m).flatten).size + (bs d.word).size ≤ 9223372036854775807 := by omega
        have hs4 : ¬ 9223372036854775807 < (bs (L.take m).flatten).size + (bs d.word).size := by omega
        have ge : ((i : Int) != (i : Int)) = false := by simp
        have gc : (d.cost != d.cost) = false := by simp
        have HLL3 := hid (show ∀ X, Below W9.heap.size W9 X → Calls Tryz.prog 24 #[.int .i64 d.script, .string (bs (L.take m).flatten)] X (LettersPost d.script (L.take m).flatten X) from fun X hX => by
          have := letters_any d.script (bs (L.take m).flatten) X (by omega) (HTT.out.below (Below.step B7.out (Below.step HR9.out hX)))
          rwa [bs_list] at this)
        have HFI := hid (show Sc.lets d.script (L.take m).flatten = some (L.take m) by
          obtain ⟨h1, -⟩ := Fo.letters_some HLS.out
          have h2 := Sc.lets_fold HLS.out
          rw [← h1, ← HLL.out] at h2
          exact Sc.lets_first h2 (by have := HMN.out; omega))
        have HNX := hid (show a + 1 = 1 + (Rw.endsFrom d.script L 0 (t.ends.take (i + 1))).length ∧ a + 1 ≤ 41 from ⟨by rw [HST.out, HSO.out, List.length_append, HA.out.1]; simp; omega, by omega⟩)
        clear hvc
        go_wp2_with fail
        go_quiet (fail)
        go_wp2_with fail
        refine (HLL3.out _ (Below.drewQ W9 nq)).mono ?_
        rintro e W10 h1
        unfold LettersPost at h1
        rw [HFI.out] at h1
        obtain ⟨lv2, rfl, -, hb⟩ := h1
        have HR10 := hid (Below.step HR9.out (Below.step (Below.drewQ W9 nq) hb))
        clear hb
        go_wp2_with fail
        go_roundw
        case rel => exact ⟨i + 1, a + 1, by omega, by go_num, by go_num, HNX, HR10⟩
        case measure => simp [RowKit.intOf]; omega
    · have hie : i = t.ends.length := by omega
      have i1 : ¬ (i : Int) < (t.ends.length : Int) := by omega
      have gq : ((a : Int) == (nv : Int)) = true := by
        rw [beq_iff_eq, HNV.out, List.length_cons]
        have := HA.out.1
        rw [hie, List.take_length] at this
        omega
      clear hie
      go_wp2_with fail
      go_ret
      exact ⟨rfl, B7.out.trans (HR.out.mono B7.out.size)⟩

end Go.Proofs.YtdchjacccmajcaaGreatDoor
