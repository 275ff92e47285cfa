/-
  rewrite.Dropping. Conditions: lengths; the library's tables.
-/
import Derived.Test.YtdchjacccmajcaaGreatDoorZRn3
namespace Go.Proofs.YtdchjacccmajcaaGreatDoor
open Go.RowKit Go.Lib Go.Maps

set_option maxRecDepth 100000 in
set_option maxHeartbeats 20000000 in
theorem dropping_any (t : Rw.Table) (tv : Value) (k : Int) (word : List UInt8) (W : World) (ht : TableAt W t tv) (hT : Tabs W) (hw : word.length ≤ 1000000) : Calls Tryz.prog 22 #[tv, .int .i64 k, .string (bs word)] W (Gives (.tuple #[.int .i64 (Rw.dropping t k word).1, .int .i64 (Rw.dropping t k word).2]) W) := by
  have HTA := hid ht
  have HTT := hid hT
  obtain ⟨⟨vr, vd, ve, rfl, ⟨ar, cr, rfl, -⟩, ⟨ad, cd, rfl, -, -, h3⟩, ⟨ae, ce, rfl, -⟩⟩, -, fe, -, hl1, hl2, hl3⟩ := ht
  have hE := hid h3
  have hF := hid fe
  clear h3 fe hT
  obtain ⟨W1, hW1⟩ : ∃ W1, W1 = W.alloc (.cells #[.slice ar t.rules.length cr, .slice ad t.drops.length cd, .slice ae t.ends.length ce, .int .i64 t.drop, .int .i64 t.order, .int .i64 t.initial] 25) := ⟨_, rfl⟩
  have HT1 := hid (show Blk W1 W.heap.size 25 [.slice ar t.rules.length cr, .slice ad t.drops.length cd, .slice ae t.ends.length ce, .int .i64 t.drop, .int .i64 t.order, .int .i64 t.initial] by rw [hW1]; exact Blk.new W _ _)
  have HB1 := hid (show Below W.heap.size W W1 by rw [hW1]; exact (Below.refl _ W).alloc (Nat.le_refl _) _)
  have HFO := hid (fold_any k (bs word) W1 (by rw [bs_len]; exact hw) (HTT.out.below HB1.out))
  rw [bs_list] at HFO
  cases hl : Sc.lets k word with
  | none =>
    have HE := hid (show Rw.dropping t k word = (0, 1) by unfold Rw.dropping; rw [hl])
    have HL := hid hl
    clear hl
    go_enter Tryz.func22, Tryz.ntmps22
    go_upto_region 1 with (fail)
    rw [← hW1]
    clear hW1
    go_wp2_with fail
    refine (HFO.out).mono ?_
    rintro e W2 ⟨he, hb2⟩
    rw [HL.out] at he
    subst he
    have HB2 := hid (Below.step HB1.out hb2)
    clear hb2
    go_wp2_with fail
    go_ret2
    rw [HE.out]
    exact ⟨rfl, HB2.out⟩
  | some ls =>
    have HE0 := hid (show Rw.dropping t k word = if Rw.valid t then (Rw.dropOf k (Sc.fold word) t.drop t.drops, 0) else (0, 1) by unfold Rw.dropping; rw [hl])
    have HL := hid hl
    clear hl
    go_enter Tryz.func22, Tryz.ntmps22
    go_upto_region 1 with (fail)
    rw [← hW1]
    clear hW1
    go_wp2_with fail
    refine (HFO.out).mono ?_
    rintro e W2 ⟨he, hb2⟩
    rw [HL.out] at he
    subst he
    have HB2 := hid (Below.step HB1.out hb2)
    have HT2 := hid (HT1.out.below hb2)
    have hz2 := HT2.out.lt
    have y0 := HT2.out.cell (j := 0) rfl
    have y1 := HT2.out.cell (j := 1) rfl
    have y2 := HT2.out.cell (j := 2) rfl
    have y3 := HT2.out.cell (j := 3) rfl
    have y4 := HT2.out.cell (j := 4) rfl
    have y5 := HT2.out.cell (j := 5) rfl
    have HV := hid (valid_any t _ W2 (HTA.out.below HB2.out) (HTT.out.below HB2.out))
    clear hb2
    go_wp2_with fail
    refine (HV.out).mono ?_
    rintro e W3 ⟨rfl, hb3⟩
    have HB3 := hid (Below.step HB2.out hb3)
    have HT3 := hid (HT2.out.below hb3)
    clear hb3 y0 y1 y2 y3 y4 y5 hz2 HV HT2 HT1 HFO
    cases hv : Rw.valid t with
    | false =>
      have HE := hid (show Rw.dropping t k word = (0, 1) by rw [HE0.out, hv]; rfl)
      clear hv
      go_wp2_with fail
      go_ret2
      rw [HE.out]
      exact ⟨rfl, HB3.out⟩
    | true =>
      have HE := hid (show Rw.dropping t k word = (Rw.dropOf k (Sc.fold word) t.drop (t.drops.drop 0), 0) by rw [HE0.out, hv]; rfl)
      clear hv
      have z0 := HT3.out.cell (j := 1) rfl
      have zz := HT3.out.lt
      go_wp2_with fail
      go_loopw [28] (fun iv wr => ∃ j : Nat, j ≤ t.drops.length ∧ iv = .int .i64 j ∧ Hid (Rw.dropping t k word = (Rw.dropOf k (Sc.fold word) t.drop (t.drops.drop j), 0)) ∧ Hid (Below W3.heap.size W3 wr)) (fun iv _ => t.drops.length - (RowKit.intOf iv).toNat)
      case atStart => exact ⟨0, Nat.zero_le _, rfl, HE, Below.refl _ _⟩
      case round =>
        clear z0 zz HE
        obtain ⟨j, hj, rfl, HE, HR⟩ := hrel
        by_cases hjt : j < t.drops.length
        · obtain ⟨g, o, rfl, hr⟩ := hE.out (by omega)
          obtain ⟨d, hd⟩ : ∃ d, t.drops[j]? = some d := ⟨_, List.getElem?_eq_getElem hjt⟩
          have hbW := Below.step HB3.out HR.out
          have hc := (hr.below hbW).2 j d hd
          have e0 := hc 0 _ rfl
          have e1 := hc 1 _ rfl
          have e2 := hc 2 _ rfl
          rw [Nat.add_zero] at e0
          have hg := (hr.below hbW).1
          have j0 : (0 : Int) ≤ (j : Int) := by omega
          have j1 : (j : Int) < (t.drops.length : Int) := by omega
          have HST := hid (Rw.dropOf_step (k := k) (f := Sc.fold word) (c := t.drop) hd)
          obtain ⟨A1, hA1⟩ : ∃ A1, A1 = wr.alloc (.cells #[.int .i64 d.script, .string (bs d.word), .int .i64 d.cost] 58) := ⟨_, rfl⟩
          have hbA : Below wr.heap.size wr A1 := by rw [hA1]; exact (Below.refl _ wr).alloc (Nat.le_refl _) _
          have HX1 := hid (show Blk A1 wr.heap.size 58 [.int .i64 d.script, .string (bs d.word), .int .i64 d.cost] by rw [hA1]; exact Blk.new wr _ _)
          have HBA := hid (Below.step hbW hbA)
          have HRA := hid (Below.step HR.out hbA)
          have x0 := HX1.out.cell (j := 0) rfl
          have x1 := HX1.out.cell (j := 1) rfl
          have x2 := HX1.out.cell (j := 2) rfl
          have xz := HX1.out.lt
          clear hc hr hd hbW hbA
          by_cases hsc : d.script = k
          rotate_left
          · have hne : ((d.script : Int) == k) = false := by rw [beq_eq_false_iff_ne]; exact hsc
            have HE2 := hid (show Rw.dropping t k word = (Rw.dropOf k (Sc.fold word) t.drop (t.drops.drop (j + 1)), 0) by
              rw [HE.out, HST.out, if_neg (fun h => hsc h.1)])
            clear hsc
            go_upto_region 7 with (fail)
            rw [← hA1]
            clear hA1 e0 e1 e2
            go_wp2_with fail
            go_roundw
            case rel => exact ⟨j + 1, by omega, by go_num, HE2, HRA⟩
            case measure => simp [RowKit.intOf]; omega
          · subst hsc
            have hne : ((d.script : Int) == d.script) = true := by simp
            by_cases hwd : d.word = Sc.fold word
            rotate_left
            · have t1 : ((bs d.word).toList == (bs (Sc.fold word)).toList) = false := by rw [str_beq, decide_eq_false hwd]
              have HE2 := hid (show Rw.dropping t d.script word = (Rw.dropOf d.script (Sc.fold word) t.drop (t.drops.drop (j + 1)), 0) by
                rw [HE.out, HST.out, if_neg (fun h => hwd h.2)])
              clear hwd
              go_upto_region 7 with (fail)
              rw [← hA1]
              clear hA1 e0 e1 e2
              go_wp2_with fail
              go_roundw
              case rel => exact ⟨j + 1, by omega, by go_num, HE2, HRA⟩
              case measure => simp [RowKit.intOf]; omega
            · have t1 : ((bs d.word).toList == (bs (Sc.fold word)).toList) = true := by rw [str_beq, decide_eq_true hwd]
              have HE2 := hid (show Rw.dropping t d.script word = (d.cost, 0) by
                rw [HE.out, HST.out, if_pos ⟨rfl, hwd⟩])
              clear hwd
              go_upto_region 7 with (fail)
              rw [← hA1]
              clear hA1 e0 e1 e2
              go_wp2_with fail
              go_ret2
              rw [HE2.out]
              exact ⟨rfl, HBA.out⟩
        · have hje : j = t.drops.length := by omega
          have j1 : ¬ (j : Int) < (t.drops.length : Int) := by omega
          have HE2 := hid (show Rw.dropping t k word = (t.drop, 0) by
            rw [HE.out, hje, List.drop_length]; rfl)
          have HT4 := HT3.out.below HR.out
          have z3 := HT4.cell (j := 3) rfl
          have zz := HT4.lt
          clear hje HT4
          go_wp2_with fail
          go_ret2
          rw [HE2.out]
          exact ⟨rfl, HB3.out.trans (HR.out.mono HB3.out.size)⟩

end Go.Proofs.YtdchjacccmajcaaGreatDoor
