/-
 The reference's reader of tables: token. Conditions: lengths.
-/
import Derived.Test.YtdchjacccmajcaaGreatDoorZRx2
namespace Go.Proofs.YtdchjacccmajcaaGreatDoor
open Go.RowKit Go.Maps Go.Lib

/-- a token's cells in a block -/
def tokX (w : World) (q : Nat) (t : Fa.T) : Prop := w.heap[q]? = some (.cells #[.int .i64 t.2.kind, .int .i64 t.1, .int .i64 t.2.n, .string (bs t.2.text)] 116 (0, 0))
theorem tokX_set {w : World} {q : Nat} {cs : Array Value} (h : w.heap[q]? = some (.cells cs 116 (0, 0))) (hs : cs.size = 4) (t : Fa.T) : tokX ((((w.setCell ⟨q, 0, none⟩ (.int .i64 t.2.kind)).setCell ⟨q, 1, none⟩ (.int .i64 t.1)).setCell ⟨q, 2, none⟩ (.int .i64 t.2.n)).setCell ⟨q, 3, none⟩ (.string (bs t.2.text))) q t := by
 have h1 := blk_setP (blk_setP (blk_setP (blk_setP h 0 (.int .i64 t.2.kind)) 1 (.int .i64 t.1)) 2 (.int .i64 t.2.n)) 3 (.string (bs t.2.text))
 unfold tokX
 rw [h1]
 congr 2
 apply Array.ext
 ·simp [hs]
 ·intro i h2 h3
  simp at h3
  match i, h3 with
  | 0, _ => simp [hs]
  | 1, _ => simp [hs]
  | 2, _ => simp [hs]
  | 3, _ => simp
theorem tokX_tch {w : World} {q : Nat} (a b c d : Value) : Tch (fun k => k = q) w ((((w.setCell ⟨q, 0, none⟩ a).setCell ⟨q, 1, none⟩ b).setCell ⟨q, 2, none⟩ c).setCell ⟨q, 3, none⟩ d) :=
 ((((Tch.refl (fun k => k = q) w).setCell (a := ⟨q, 0, none⟩) (.inl rfl) _).setCell (a := ⟨q, 1, none⟩) (.inl rfl) _).setCell (a := ⟨q, 2, none⟩) (.inl rfl) _).setCell (a := ⟨q, 3, none⟩) (.inl rfl) _
theorem tokX.cells {w : World} {q : Nat} {t : Fa.T} (h : tokX w q t) : w.cell? ⟨q, 0, none⟩ = some (.int .i64 t.2.kind) ∧ w.cell? ⟨q, 1, none⟩ = some (.int .i64 t.1) ∧ w.cell? ⟨q, 2, none⟩ = some (.int .i64 t.2.n) ∧ w.cell? ⟨q, 3, none⟩ = some (.string (bs t.2.text)) ∧ q < w.heap.size ∧ ∀ j, w.frozen? ⟨q, j, none⟩ = false :=
 ⟨by simp [World.cell?, show w.heap[q]? = _ from h], by simp [World.cell?, show w.heap[q]? = _ from h], by simp [World.cell?, show w.heap[q]? = _ from h], by simp [World.cell?, show w.heap[q]? = _ from h], (Array.getElem?_eq_some_iff.1 h).1, fun j => frozen_of_row w _ j _ _ h⟩
theorem tokX.tch {w w' : World} {q : Nat} {t : Fa.T} {O : Nat → Prop} (h : tokX w q t) (ht : Tch O w w') (ho : ¬ O q) : tokX w' q t := (ht.block q (Array.getElem?_eq_some_iff.1 h).1 ho).trans h
theorem tokX.mk (w : World) (t : Fa.T) : tokX (w.alloc (.cells #[.int .i64 t.2.kind, .int .i64 t.1, .int .i64 t.2.n, .string (bs t.2.text)] 116)) w.heap.size t := alloc_new w _

/-- a token is given back: q the result's box -/
theorem tok_back {w wa : World} {p e : Nat} {l : List Fa.T} {R : Rw.RS} {v : Value} {z : Fa.T} (t : Fa.T) (hR : RdX wa p l e R v) (hT : Tch (fun b => b = p) w wa) (hp : p < w.heap.size) (hz : tokX wa w.heap.size z) {W : World}
  (hW : W = ((((wa.setCell ⟨w.heap.size, 0, none⟩ (.int .i64 t.2.kind)).setCell ⟨w.heap.size, 1, none⟩ (.int .i64 t.1)).setCell ⟨w.heap.size, 2, none⟩ (.int .i64 t.2.n)).setCell ⟨w.heap.size, 3, none⟩ (.string (bs t.2.text)))) :
  tokX W w.heap.size t ∧ RdX W p l e R v ∧ Tch (fun b => b = p) w W := by
 have hT2 : Tch (fun k => k = w.heap.size) wa W := by rw [hW]; exact tokX_tch _ _ _ _
 exact ⟨by rw [hW]; exact tokX_set hz rfl t, hR.tch hT2 fun b hb e => by have e' : b = w.heap.size := e; omega, hT.trans hT2 fun k hk h1 => by have h1' : k = w.heap.size := hk; omega⟩

set_option maxRecDepth 100000 in
set_option maxHeartbeats 8000000 in
theorem rtoken_any10 (kd : Nat) (x : List UInt8) (w : World) (p : Nat) (l : List Fa.T) (e : Nat) (R : Rw.RS) (v : Value) (h : RdX w p l e R v) : Calls Tryz.prog 68 #[.pointer (some ⟨p, 0, none⟩), .int .i64 kd, .string (bs x)] w (RdXP w p l e (R.tok l e kd x).2 v (.returned (tkvP (R.tok l e kd x).1))) := by
 obtain ⟨W1, hW1⟩ : ∃ W1, W1 = w.alloc (.cells #[.int .i64 0, .int .i64 0, .int .i64 0, .string ⟨#[]⟩] 116) := ⟨_, rfl⟩
 have hb1 : Below w.heap.size w W1 := by rw [hW1]; exact (Below.refl _ w).alloc (Nat.le_refl _) _
 have HS1 := hid (show tokX W1 w.heap.size Rw.zT by rw [hW1]; exact tokX.mk w Rw.zT)
 have hpw := h.lt
 have H1 := hid (h.below hb1)
 have HB1 := hid (Tch.of_below hb1 (fun b => b = p))
 obtain ⟨va, cap, rfl⟩ := h.toks.slice
 have hl5 := h.l
 have hrk := h.k
 clear h hb1
 obtain ⟨c0, c1, c2, c3, c4, cf⟩ := H1.out.cells
 have hp := H1.out.lt
 obtain ⟨y0, y1, y2, y3, yl, yf⟩ := HS1.out.cells
 simp only [Rw.zT] at y0 y1 y2 y3
 rw [show ((0 : Nat) : Int) = 0 from rfl] at y0 y1 y2
 rw [show bs [] = ⟨#[]⟩ from rfl] at y3
 have n1 : ¬ p = w.heap.size := by omega
 have n2 : ¬ w.heap.size = p := by omega
 by_cases h0 : R.er = 0
 rotate_left
 ·have d0 : (R.er != 0) = true := by rw [bne_iff_ne]; exact h0
  have HE := hid (Rw.RS.tok_dead h0 l e kd x)
  clear h0
  go_enter Tryz.func68, Tryz.ntmps68
  go_upto_region 1 with (fail)
  rw [← hW1]
  clear hW1
  go_wp2_with fail
  obtain ⟨o1, o2, o3⟩ := tok_back Rw.zT H1.out HB1.out hpw HS1.out rfl
  refine bodyPost_ret (v := tkvP Rw.zT) (results_cell_row rfl _ _ w.heap.size 116 #[.int .i64 Rw.zT.2.kind, .int .i64 Rw.zT.1, .int .i64 Rw.zT.2.n, .string (bs Rw.zT.2.text)] (0, 0) _ rfl o1 Tryz.underlying116 rfl (by kernel_rfl)) rfl ?_
  rw [HE.out]
  exact ⟨rfl, o2, o3⟩
 have d0 : (R.er != 0) = false := by rw [h0]; rfl
 have HU := hid (show R.tok l e kd x = (match l[R.k]? with | none => (Rw.zT, ⟨R.k, 6, e⟩) | some t => if t.2.kind = kd ∧ (x = [] ∨ t.2.text = x) then (t, ⟨R.k + 1, 0, R.at_⟩) else (Rw.zT, ⟨R.k + 1, 5, t.1⟩)) by unfold Rw.RS.tok; rw [if_pos h0]; cases l[R.k]? <;> rfl)
 have H0 := hid h0
 clear h0
 by_cases hk : R.k = l.length
 ·have d1 : ((R.k : Int) == (l.length : Int)) = true := by rw [hk]; simp
  have HE := hid (show R.tok l e kd x = (Rw.zT, ⟨R.k, 6, e⟩) by rw [HU.out, List.getElem?_eq_none_iff.2 (by omega)])
  clear hk HU
  go_enter Tryz.func68, Tryz.ntmps68
  go_upto_region 1 with (fail)
  rw [← hW1]
  clear hW1
  go_wp2_with fail
  go_quiet (fail)
  go_upto_region 4 with (fail)
  rename Nat => nq
  obtain ⟨W3, hW3⟩ : ∃ W3, W3 = W1.drewN nq := ⟨_, rfl⟩
  rw [← hW3]
  have hb3 : Below W1.heap.size W1 W3 := by rw [hW3]; exact Below.drewQ _ _
  have H3 := hid (H1.out.below hb3)
  have HB3 := hid (HB1.out.step hb3)
  have HS3 := hid (HS1.out.tch (Tch.of_below hb3 (fun _ => False)) (fun e => e))
  clear hW3 hb3 c0 c1 c2 c3 c4 cf hp y0 y1 y2 y3 yl yf
  obtain ⟨W4, hW4⟩ : ∃ W4, W4 = (W3.setCell ⟨p, 3, none⟩ (.int .i64 6)).setCell ⟨p, 4, none⟩ (.int .i64 e) := ⟨_, rfl⟩
  have hT4 : Tch (fun b => b = p) W3 W4 := by rw [hW4]; exact ((Tch.refl (fun b => b = p) W3).setCell (a := ⟨p, 3, none⟩) (.inl rfl) _).setCell (a := ⟨p, 4, none⟩) (.inl rfl) _
  have H4 := hid (H3.out.own (R' := ⟨R.k, 6, e⟩) hT4 (by rw [hW4]; exact blk_setP (blk_setP H3.out.box 3 _) 4 _) H3.out.k)
  have HS4 := hid (HS3.out.tch hT4 n2)
  have HB4 := hid (HB3.out.trans hT4 fun k hk _ => hk)
  clear hT4
  obtain ⟨c0, c1, c2, c3, c4, cf⟩ := H3.out.cells
  have hp := H3.out.lt
  go_upto_region 6 with (fail)
  rw [← hW4]
  clear hW4 c0 c1 c2 c3 c4 cf hp
  obtain ⟨y0, y1, y2, y3, yl, yf⟩ := HS4.out.cells
  simp only [Rw.zT] at y0 y1 y2 y3
  rw [show ((0 : Nat) : Int) = 0 from rfl] at y0 y1 y2
  rw [show bs [] = ⟨#[]⟩ from rfl] at y3
  go_wp2_with fail
  obtain ⟨o1, o2, o3⟩ := tok_back Rw.zT H4.out HB4.out hpw HS4.out rfl
  refine bodyPost_ret (v := tkvP Rw.zT) (results_cell_row rfl _ _ w.heap.size 116 #[.int .i64 Rw.zT.2.kind, .int .i64 Rw.zT.1, .int .i64 Rw.zT.2.n, .string (bs Rw.zT.2.text)] (0, 0) _ rfl o1 Tryz.underlying116 rfl (by kernel_rfl)) rfl ?_
  rw [HE.out]
  exact ⟨rfl, o2, o3⟩
 have d1 : ((R.k : Int) == (l.length : Int)) = false := by rw [beq_eq_false_iff_ne]; omega
 have hkl : R.k < l.length := by omega
 obtain ⟨t, ht⟩ : ∃ t, l[R.k]? = some t := ⟨_, List.getElem?_eq_getElem hkl⟩
 have HE0 := hid (show R.tok l e kd x = if t.2.kind = kd ∧ (x = [] ∨ t.2.text = x) then (t, ⟨R.k + 1, 0, R.at_⟩) else (Rw.zT, ⟨R.k + 1, 5, t.1⟩) by rw [HU.out, ht])
 have HT := hid ht
 clear hk ht HU
 go_enter Tryz.func68, Tryz.ntmps68
 go_upto_region 1 with (fail)
 rw [← hW1]
 clear hW1
 go_wp2_with fail
 go_quiet (fail)
 go_upto_region 7 with (fail)
 rename Nat => nq
 obtain ⟨W3, hW3⟩ : ∃ W3, W3 = W1.drewN nq := ⟨_, rfl⟩
 rw [← hW3]
 have hb3 : Below W1.heap.size W1 W3 := by rw [hW3]; exact Below.drewQ _ _
 have H3 := hid (H1.out.below hb3)
 have HB3 := hid (HB1.out.step hb3)
 have HS3 := hid (HS1.out.tch (Tch.of_below hb3 (fun _ => False)) (fun e => e))
 clear hW3 hb3 c0 c1 c2 c3 c4 cf hp y0 y1 y2 y3 yl yf d0 d1
 obtain ⟨c0, c1, c2, c3, c4, cf⟩ := H3.out.cells
 have hp := H3.out.lt
 obtain ⟨g, o, rfl, hg, e0, e1, e2, e3⟩ := tokx_cells H3.out.toks.slOf HT.out (Below.refl _ _)
 have hk0 : (0 : Int) ≤ (R.k : Int) := by omega
 have hk1 : (R.k : Int) < (l.length : Int) := by omega
 clear c2 c3 c4 cf
 go_region
 go_upto_region 8 with (fail)
 obtain ⟨W4, hW4⟩ : ∃ W4, W4 = (W3.alloc (.cells #[.int .i64 t.2.kind, .int .i64 t.1, .int .i64 t.2.n, .string (bs t.2.text)] 116)).drew := ⟨_, rfl⟩
 rw [← hW4]
 have hb4 : Below W3.heap.size W3 W4 := by rw [hW4]; exact ((Below.refl _ W3).alloc (Nat.le_refl _) _).drew
 have H4 := hid (H3.out.below hb4)
 have HB4 := hid (HB3.out.step hb4)
 have HS4 := hid (HS3.out.tch (Tch.of_below hb4 (fun _ => False)) (fun e => e))
 have HK4 := hid (show tokX W4 W3.heap.size t by rw [hW4]; exact (tokX.mk W3 t).tch (Tch.of_below (Below.refl _ _).drew (fun _ => False)) (fun e => e))
 have hp3 := H3.out.lt
 have hz3 := HS3.out.cells.2.2.2.2.1
 clear hW4 hb4 c0 c1 hp hg e0 e1 e2 e3
 obtain ⟨c0, c1, c2, c3, c4, cf⟩ := H4.out.cells
 have hp := H4.out.lt
 obtain ⟨W5, hW5⟩ : ∃ W5, W5 = W4.setCell ⟨p, 1, none⟩ (.int .i64 ((R.k : Int) + 1)) := ⟨_, rfl⟩
 have hT5 : Tch (fun b => b = p) W4 W5 := by rw [hW5]; exact (Tch.refl (fun b => b = p) W4).setCell (a := ⟨p, 1, none⟩) (.inl rfl) _
 have H5 := hid (show RdX W5 p l e ⟨R.k + 1, 0, R.at_⟩ (.slice (some ⟨g, o, none⟩) l.length cap) from H4.out.own hT5 (by rw [hW5, ← H0.out]; exact blk_setP H4.out.box 1 _) hkl)
 have HB5 := hid (HB4.out.trans hT5 fun k hk _ => hk)
 have HS5 := hid (HS4.out.tch hT5 n2)
 have HK5 := hid (HK4.out.tch hT5 (by show ¬ W3.heap.size = p; omega))
 have f1 := cf 1
 clear hT5 cf
 go_upto_region 9 with (fail)
 rw [← hW5]
 clear hW5 c0 c1 c2 c3 c4 hp f1
 obtain ⟨t0, t1, t2, t3, tl, -⟩ := HK5.out.cells
 obtain ⟨y0, y1, y2, y3, yl, yf⟩ := HS5.out.cells
 simp only [Rw.zT] at y0 y1 y2 y3
 rw [show ((0 : Nat) : Int) = 0 from rfl] at y0 y1 y2
 rw [show bs [] = ⟨#[]⟩ from rfl] at y3
 have n3 : ¬ w.heap.size = W3.heap.size := by omega
 have n4 : ¬ W3.heap.size = w.heap.size := by omega
 have HGO := hid (show ∀ (c : t.2.kind = kd ∧ (x = [] ∨ t.2.text = x)), R.tok l e kd x = (t, ⟨R.k + 1, 0, R.at_⟩) from fun c => by rw [HE0.out, if_pos c])
 have HNO := hid (show ∀ (c : ¬ (t.2.kind = kd ∧ (x = [] ∨ t.2.text = x))), R.tok l e kd x = (Rw.zT, (⟨R.k + 1, 0, R.at_⟩ : Rw.RS).fail l 5) from fun c => by
  rw [HE0.out, if_neg c, Rw.RS.fail_live rfl]
  show _ = (Rw.zT, (⟨R.k + 1, 5, ((l.getD (R.k + 1 - 1) Rw.zT).1 : Nat)⟩ : Rw.RS))
  rw [Nat.add_sub_cancel, List.getD_eq_getElem?_getD, HT.out]
  rfl)
 clear HE0
 by_cases r1 : t.2.kind = kd
 ·have s1 : ((t.2.kind : Int) != (kd : Int)) = false := by rw [r1]; simp
  by_cases r2 : x = []
  ·have s2 : (bs x).toList = [] := by rw [r2, ByteArray.toList_eq]; rfl
   have s3 : (bs x).toList.isEmpty = true := by rw [s2]; rfl
   have HE := hid (HGO.out ⟨r1, .inl r2⟩)
   clear r1 r2
   go_wp2_with fail
   obtain ⟨o1, o2, o3⟩ := tok_back t H5.out HB5.out hpw HS5.out rfl
   refine bodyPost_ret (v := tkvP t) (results_cell_row rfl _ _ w.heap.size 116 #[.int .i64 t.2.kind, .int .i64 t.1, .int .i64 t.2.n, .string (bs t.2.text)] (0, 0) _ rfl o1 Tryz.underlying116 rfl (by kernel_rfl)) rfl ?_
   rw [HE.out]
   exact ⟨rfl, o2, o3⟩
  ·have s2 : ¬ (bs x).toList = [] := by
    cases x with
    | nil => exact absurd rfl r2
    | cons c x => rw [ByteArray.toList_eq]; show ¬ (c :: x) = []; simp
   have s2b : (bs x).toList.isEmpty = false := by rw [List.isEmpty_eq_false_iff]; exact s2
   by_cases r3 : t.2.text = x
   ·have s3 : ((bs t.2.text).toList == (bs x).toList) = true := by rw [r3]; simp
    have HE := hid (HGO.out ⟨r1, .inr r3⟩)
    clear r1 r2 r3
    go_wp2_with fail
    obtain ⟨o1, o2, o3⟩ := tok_back t H5.out HB5.out hpw HS5.out rfl
    refine bodyPost_ret (v := tkvP t) (results_cell_row rfl _ _ w.heap.size 116 #[.int .i64 t.2.kind, .int .i64 t.1, .int .i64 t.2.n, .string (bs t.2.text)] (0, 0) _ rfl o1 Tryz.underlying116 rfl (by kernel_rfl)) rfl ?_
    rw [HE.out]
    exact ⟨rfl, o2, o3⟩
   ·have s3 : ((bs t.2.text).toList == (bs x).toList) = false := by rw [text_beq]; exact decide_eq_false r3
    have HE := hid (HNO.out (fun c => c.2.elim r2 r3))
    clear r1 r2 r3
    have HF := hid (rfail_any10 5 W5 p l e _ _ H5.out (fun _ => by show 1 ≤ R.k + 1; omega))
    go_wp2_with fail
    refine (HF.out).mono ?_
    rintro en w6 ⟨rfl, hr6, ht6⟩
    have HS6 := hid (HS5.out.tch ht6 n2)
    have HB6 := hid (HB5.out.trans ht6 fun k hk _ => hk)
    have H6 := hid hr6
    clear y0 y1 y2 y3 yl yf hr6 ht6 HF t0 t1 t2 t3 tl
    obtain ⟨y0, y1, y2, y3, yl, yf⟩ := HS6.out.cells
    simp only [Rw.zT] at y0 y1 y2 y3
    rw [show ((0 : Nat) : Int) = 0 from rfl] at y0 y1 y2
    rw [show bs [] = ⟨#[]⟩ from rfl] at y3
    go_wp2_with fail
    obtain ⟨o1, o2, o3⟩ := tok_back Rw.zT H6.out HB6.out hpw HS6.out rfl
    refine bodyPost_ret (v := tkvP Rw.zT) (results_cell_row rfl _ _ w.heap.size 116 #[.int .i64 Rw.zT.2.kind, .int .i64 Rw.zT.1, .int .i64 Rw.zT.2.n, .string (bs Rw.zT.2.text)] (0, 0) _ rfl o1 Tryz.underlying116 rfl (by kernel_rfl)) rfl ?_
    rw [HE.out]
    exact ⟨rfl, o2, o3⟩
 ·have s1 : ((t.2.kind : Int) != (kd : Int)) = true := by rw [bne_iff_ne]; omega
  have HE := hid (HNO.out (fun c => r1 c.1))
  clear r1
  have HF := hid (rfail_any10 5 W5 p l e _ _ H5.out (fun _ => by show 1 ≤ R.k + 1; omega))
  go_wp2_with fail
  refine (HF.out).mono ?_
  rintro en w6 ⟨rfl, hr6, ht6⟩
  have HS6 := hid (HS5.out.tch ht6 n2)
  have HB6 := hid (HB5.out.trans ht6 fun k hk _ => hk)
  have H6 := hid hr6
  clear y0 y1 y2 y3 yl yf hr6 ht6 HF t0 t1 t2 t3 tl
  obtain ⟨y0, y1, y2, y3, yl, yf⟩ := HS6.out.cells
  simp only [Rw.zT] at y0 y1 y2 y3
  rw [show ((0 : Nat) : Int) = 0 from rfl] at y0 y1 y2
  rw [show bs [] = ⟨#[]⟩ from rfl] at y3
  go_wp2_with fail
  obtain ⟨o1, o2, o3⟩ := tok_back Rw.zT H6.out HB6.out hpw HS6.out rfl
  refine bodyPost_ret (v := tkvP Rw.zT) (results_cell_row rfl _ _ w.heap.size 116 #[.int .i64 Rw.zT.2.kind, .int .i64 Rw.zT.1, .int .i64 Rw.zT.2.n, .string (bs Rw.zT.2.text)] (0, 0) _ rfl o1 Tryz.underlying116 rfl (by kernel_rfl)) rfl ?_
  rw [HE.out]
  exact ⟨rfl, o2, o3⟩

end Go.Proofs.YtdchjacccmajcaaGreatDoor
