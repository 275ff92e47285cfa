/-
 RewriteTextsAsReference: the statement's function returns true. Conditions: what can be read of its arguments.
-/
import Derived.Test.YtdchjacccmajcaaGreatDoorZRx8
import Derived.Test.YtdchjacccmajcaaGreatDoorZRy1
import Derived.Test.YtdchjacccmajcaaGreatDoorZRu2
import Derived.Test.YtdchjacccmajcaaGreatDoorZRn8
namespace Go.Proofs.YtdchjacccmajcaaGreatDoor
open Go.RowKit Go.Lib Go.Maps

/-- what Parse ends in, its table's slices open -/
theorem ParseT.split {w w' : World} {r : Rw.Table × Int × Int} {en : Ending} (h : ParseT w r en w') : ∃ a1 c1 a2 c2 a3 c3, en = .returned (.tuple #[.agg #[.slice a1 r.1.rules.length c1, .slice a2 r.1.drops.length c2, .slice a3 r.1.ends.length c3, .int .i64 r.1.drop, .int .i64 r.1.order, .int .i64 r.1.initial], .int .i64 r.2.1, .int .i64 r.2.2]) ∧
  TableAt w' r.1 (.agg #[.slice a1 r.1.rules.length c1, .slice a2 r.1.drops.length c2, .slice a3 r.1.ends.length c3, .int .i64 r.1.drop, .int .i64 r.1.order, .int .i64 r.1.initial]) ∧ Below w.heap.size w w' := by
 obtain ⟨v, rfl, h1, h2⟩ := h
 have h3 := h1
 obtain ⟨⟨vr, vd, ve, rfl, ⟨a1, c1, rfl, -⟩, ⟨a2, c2, rfl, -⟩, ⟨a3, c3, rfl, -⟩⟩, -⟩ := h3
 exact ⟨a1, c1, a2, c2, a3, c3, rfl, h1, h2⟩

set_option maxRecDepth 100000 in
set_option maxHeartbeats 20000000 in
theorem textsRef_law
  (t : Rw.Table) (tv : Value) (text : List UInt8) (W : World) (ht : TableRaw W t tv) (hT : Tabs W) (h10 : Tab10 W) (hx : text.length ≤ maxLen) :
  Calls Tryz.prog 10 #[tv, .string (bs text)] W (Gives (.bool true) W) := by
 have HT := hid ht
 have HTT := hid hT
 have H10 := hid h10
 obtain ⟨⟨vr, vd, ve, rfl, ⟨ar, cr, rfl, -⟩, ⟨ad, cd, rfl, -⟩, ⟨ae, ce, rfl, -⟩⟩, -, -, -⟩ := ht
 clear hT h10
 obtain ⟨W1, hW1⟩ : ∃ W1, W1 = W.alloc (.cells #[.slice ar t.rules.length cr, .slice ad t.drops.length cd, .slice ae t.ends.length ce, .int .i64 t.drop, .int .i64 t.order, .int .i64 t.initial] 25) := ⟨_, rfl⟩
 have hb1 : Below W.heap.size W W1 := by rw [hW1]; exact (Below.refl _ W).alloc (Nat.le_refl _) _
 have T1 := hid (show Blk W1 W.heap.size 25 [.slice ar t.rules.length cr, .slice ad t.drops.length cd, .slice ae t.ends.length ce, .int .i64 t.drop, .int .i64 t.order, .int .i64 t.initial] by rw [hW1]; exact Blk.new W _ _)
 have HH := hid (head_true W1 (HTT.out.below hb1) (H10.out.below hb1))
 have B1 := hid hb1
 clear hb1
 go_enter Tryz.func10, Tryz.ntmps10
 go_upto_region 1 with (fail)
 rw [← hW1]
 clear hW1
 go_wp2_with fail
 refine (HH.out).mono ?_
 rintro e W2 ⟨rfl, hb2⟩
 have B2 := hid (Below.step B1.out hb2)
 have T2 := hid (T1.out.below hb2)
 clear hb2 HH
 have t0 := T2.out.cell (j := 0) rfl
 have t1 := T2.out.cell (j := 1) rfl
 have t2 := T2.out.cell (j := 2) rfl
 have t3 := T2.out.cell (j := 3) rfl
 have t4 := T2.out.cell (j := 4) rfl
 have t5 := T2.out.cell (j := 5) rfl
 have tl := T2.out.lt
 have HF := hid (few10_any t _ W2 (HT.out.below B2.out))
 go_wp2_with fail
 refine (HF.out).mono ?_
 rintro e W3 ⟨rfl, hbf⟩
 have B3 := hid (Below.step B2.out hbf)
 have T3 := hid (T2.out.below hbf)
 clear hbf HF t0 t1 t2 t3 t4 t5 tl
 cases hfew : Rw.fewB t with
 | false =>
  go_wp2_with fail
  go_ret
  exact ⟨rfl, B3.out⟩
 | true =>
 have TA := hid (HT.out.few10 hfew)
 clear hfew
 have hsz : (bs text).size = text.length := bs_len text
 by_cases h80 : text.length ≤ 8000
 rotate_left
 ·have g80 : decide ((8000 : Int) < ((bs text).size : Int)) = true := decide_eq_true (by omega)
  have hmx : (bs text).size ≤ 9223372036854775807 := by unfold maxLen at hx; omega
  clear h80 hsz
  have t0 := T3.out.cell (j := 0) rfl
  have t1 := T3.out.cell (j := 1) rfl
  have t2 := T3.out.cell (j := 2) rfl
  have t3 := T3.out.cell (j := 3) rfl
  have t4 := T3.out.cell (j := 4) rfl
  have t5 := T3.out.cell (j := 5) rfl
  have tl := T3.out.lt
  go_wp2_with fail
  go_ret
  exact ⟨rfl, B3.out⟩
 have g80 : decide ((8000 : Int) < ((bs text).size : Int)) = false := decide_eq_false (by omega)
 have hmx : (bs text).size ≤ 9223372036854775807 := by omega
 have H80 := hid h80
 clear h80 hsz
 obtain ⟨er, her⟩ : ∃ er : Int, er = (if Rw.valid t then 0 else 1) := ⟨_, rfl⟩
 have t0 := T3.out.cell (j := 0) rfl
 have t1 := T3.out.cell (j := 1) rfl
 have t2 := T3.out.cell (j := 2) rfl
 have t3 := T3.out.cell (j := 3) rfl
 have t4 := T3.out.cell (j := 4) rfl
 have t5 := T3.out.cell (j := 5) rfl
 have tl := T3.out.lt
 have C3 := hid (text_any10 t _ W3 (TA.out.below B3.out) (HTT.out.below B3.out) (H10.out.below B3.out))
 have HER := hid her
 clear her
 rw [← HER.out] at C3
 go_wp2_with fail
 refine (C3.out).mono ?_
 rintro e W4 ⟨rfl, hb⟩
 have B4 := hid (Below.step B3.out hb)
 have T4 := hid (T3.out.below hb)
 clear hb C3 t0 t1 t2 t3 t4 t5 tl
 have t0 := T4.out.cell (j := 0) rfl
 have t1 := T4.out.cell (j := 1) rfl
 have t2 := T4.out.cell (j := 2) rfl
 have t3 := T4.out.cell (j := 3) rfl
 have t4 := T4.out.cell (j := 4) rfl
 have t5 := T4.out.cell (j := 5) rfl
 have tl := T4.out.lt
 have C4 := hid (rtext_any10 t _ W4 (TA.out.below B4.out))
 rw [← HER.out] at C4
 go_wp2_with fail
 refine (C4.out).mono ?_
 rintro e W5 ⟨rfl, hb⟩
 have B5 := hid (Below.step B4.out hb)
 have T5 := hid (T4.out.below hb)
 clear hb C4 t0 t1 t2 t3 t4 t5 tl
 obtain ⟨r, hr⟩ : ∃ r, r = Rw.parse text := ⟨_, rfl⟩
 obtain ⟨x, g, n⟩ := r
 have HRP := hid hr
 have H8 := hid (show text.length ≤ 20000 by have := H80.out; omega)
 clear hr
 have C := hid (parse_any10 text W5 H8.out (HTT.out.below B5.out))
 rw [← HRP.out] at C
 go_wp2_with fail
 refine (C.out).mono ?_
 rintro e W6 hpt
 obtain ⟨za1, zc1, zb1, zd1, ze1, zf1, rfl, ha, hb⟩ := hpt.split
 simp only at ha ⊢
 have B6 := hid (Below.step B5.out hb)
 have T6 := hid (T5.out.below hb)
 clear hpt hb C
 obtain ⟨W7, hW⟩ : ∃ X, X = W6.alloc (.cells #[.slice za1 x.rules.length zc1, .slice zb1 x.drops.length zd1, .slice ze1 x.ends.length zf1, .int .i64 x.drop, .int .i64 x.order, .int .i64 x.initial] 25) := ⟨_, rfl⟩
 have hb : Below W6.heap.size W6 W7 := by rw [hW]; exact (Below.refl _ W6).alloc (Nat.le_refl _) _
 have X1 := hid (show Blk W7 W6.heap.size 25 [.slice za1 x.rules.length zc1, .slice zb1 x.drops.length zd1, .slice ze1 x.ends.length zf1, .int .i64 x.drop, .int .i64 x.order, .int .i64 x.initial] by rw [hW]; exact Blk.new W6 _ _)
 have A1 := hid (ha.below hb)
 have B7 := hid (Below.step B6.out hb)
 have T7 := hid (T6.out.below hb)
 clear ha hb
 go_upto_region 7 with (fail)
 rw [← hW]
 clear hW
 have C := hid (rparse_any10 text W7 H8.out)
 rw [← HRP.out] at C
 go_wp2_with fail
 refine (C.out).mono ?_
 rintro e W8 hpt
 obtain ⟨za2, zc2, zb2, zd2, ze2, zf2, rfl, ha, hb⟩ := hpt.split
 simp only at ha ⊢
 have B8 := hid (Below.step B7.out hb)
 have T8 := hid (T7.out.below hb)
 have X1 := hid (X1.out.below hb)
 have A1 := hid (A1.out.below hb)
 clear hpt hb C
 obtain ⟨W9, hW⟩ : ∃ X, X = W8.alloc (.cells #[.slice za2 x.rules.length zc2, .slice zb2 x.drops.length zd2, .slice ze2 x.ends.length zf2, .int .i64 x.drop, .int .i64 x.order, .int .i64 x.initial] 25) := ⟨_, rfl⟩
 have hb : Below W8.heap.size W8 W9 := by rw [hW]; exact (Below.refl _ W8).alloc (Nat.le_refl _) _
 have X2 := hid (show Blk W9 W8.heap.size 25 [.slice za2 x.rules.length zc2, .slice zb2 x.drops.length zd2, .slice ze2 x.ends.length zf2, .int .i64 x.drop, .int .i64 x.order, .int .i64 x.initial] by rw [hW]; exact Blk.new W8 _ _)
 have A2 := hid (ha.below hb)
 have B9 := hid (Below.step B8.out hb)
 have T9 := hid (T8.out.below hb)
 have X1 := hid (X1.out.below hb)
 have A1 := hid (A1.out.below hb)
 clear ha hb
 go_upto_region 8 with (fail)
 rw [← hW]
 clear hW
 have x0 := X1.out.cell (j := 0) rfl
 have x1 := X1.out.cell (j := 1) rfl
 have x2 := X1.out.cell (j := 2) rfl
 have x3 := X1.out.cell (j := 3) rfl
 have x4 := X1.out.cell (j := 4) rfl
 have x5 := X1.out.cell (j := 5) rfl
 have xl := X1.out.lt
 have y0 := X2.out.cell (j := 0) rfl
 have y1 := X2.out.cell (j := 1) rfl
 have y2 := X2.out.cell (j := 2) rfl
 have y3 := X2.out.cell (j := 3) rfl
 have y4 := X2.out.cell (j := 4) rfl
 have y5 := X2.out.cell (j := 5) rfl
 have yl := X2.out.lt
 have HS := hid (same10_true x _ _ W9 A1.out A2.out)
 go_wp2_with fail
 refine (HS.out).mono ?_
 rintro e W10 ⟨rfl, hb⟩
 have B10 := hid (Below.step B9.out hb)
 clear hb HS
 go_wp2_with fail
 go_ret
 exact ⟨by simp, B10.out⟩

end Go.Proofs.YtdchjacccmajcaaGreatDoor
