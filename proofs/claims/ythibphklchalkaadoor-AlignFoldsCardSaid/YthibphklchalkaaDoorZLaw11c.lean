/-
  AlignFolds: the statement's function returns true. Conditions: what can be read of its arguments.
-/
import Derived.Test.YthibphklchalkaaDoorZLaw11a
namespace Al
open Go.Proofs.YthibphklchalkaaDoor Go.Proofs.YthibphklchalkaaDoor.Al

theorem side_fold {t : List Rw.Rule} {k : Int} {x : List UInt8} {ls : List (List UInt8)} (h : Sc.lets k x = some ls) : side t k (Sc.fold x) = side t k x := by
  have h2 := Sc.lets_fold h
  unfold side
  rw [h, h2, Sc.fold_fold, h2]

theorem law_folds {t : Rw.Table} {a : Int} {x : List UInt8} {b : Int} {y : List UInt8} {l m : List (List UInt8)} (h : Sc.lets a x = some l) (h2 : Sc.lets b y = some m) : bestOf t a (Sc.fold x) b (Sc.fold y) = bestOf t a x b y := by
  unfold bestOf openB
  rw [side_fold h, side_fold h2]

end Al
namespace Go.Proofs.YthibphklchalkaaDoor
open Go.RowKit Go.Lib Go.Maps

set_option maxRecDepth 100000 in
set_option maxHeartbeats 8000000 in
theorem folds_law (t : Rw.Table) (tv : Value) (a : Int) (x : List UInt8) (b : Int) (y : List UInt8) (W : World) (ht : TableRaw W t tv) (hT : Tabs W) (hx : x.length ≤ maxLen) (hy : y.length ≤ maxLen) :
    Calls Tryd.prog 5 #[tv, .int .i64 a, .string (bs x), .int .i64 b, .string (bs y)] W (Gives (.bool true) W) := by
  have HT := hid ht
  have HTT := hid hT
  obtain ⟨⟨vr, vd, ve, rfl, ⟨ar, cr, rfl, -⟩, ⟨ad, cd, rfl, -⟩, ⟨ae, ce, rfl, -⟩⟩, -, -, -⟩ := ht
  clear hT
  obtain ⟨W1, hW1⟩ : ∃ W1, W1 = W.alloc (.cells #[.slice ar t.rules.length cr, .slice ad t.drops.length cd, .slice ae t.ends.length ce, .int .i64 t.drop, .int .i64 t.order, .int .i64 t.initial] 25) := ⟨_, rfl⟩
  have hb1 : Below W.heap.size W W1 := by rw [hW1]; exact (Below.refl _ W).alloc (Nat.le_refl _) _
  have TB1 := hid (show TBlk W1 W.heap.size t ar cr ad cd ae ce from ⟨by rw [hW1]; exact World.alloc_heap_new W _⟩)
  have HH := hid (head_true W1 (HTT.out.below hb1))
  have B1 := hid hb1
  clear hb1
  go_enter Tryd.func5, Tryd.ntmps5
  go_wp2_with fail
  rw [← hW1]
  clear hW1
  refine (HH.out).mono ?_
  rintro e W2 ⟨rfl, hb2⟩
  have TB2 := hid (TB1.out.below hb2)
  have B2 := hid (B1.out.trans (hb2.mono B1.out.size))
  clear hb2
  obtain ⟨t0, t1, t2, t3, t4, t5⟩ := TB2.out.cells
  have tl := TB2.out.lt
  obtain ⟨W3, hW3⟩ : ∃ W3, W3 = W2.alloc (.cells #[.string (bs x), .string (bs y)] 9) := ⟨_, rfl⟩
  have hb3 : Below W2.heap.size W2 W3 := by rw [hW3]; exact (Below.refl _ W2).alloc (Nat.le_refl _) _
  have hw3 : W3.heap[W2.heap.size]? = some (.cells #[.string (bs x), .string (bs y)] 9 (0, 0)) := by rw [hW3]; exact World.alloc_heap_new W2 _
  have B3 := hid (B2.out.trans (hb3.mono B2.out.size))
  have TB3 := hid (TB2.out.below hb3)
  have HF := hid (fewL_any t _ _ [x, y] W3 (HT.out.below B3.out) (SlOf.block (sz := 1) (cells := strC) (n := 2) hw3 rfl (fun _ _ => rfl) rfl (by decide)) (fun z hz => by
    simp at hz; rcases hz with rfl | rfl
    · exact hx
    · exact hy))
  clear hb3 hw3
  go_wp2_with fail
  rw [← hW3]
  clear hW3
  refine (HF.out).mono ?_
  rintro e W4 ⟨rfl, hb4⟩
  have TB4 := hid (TB3.out.below hb4)
  have B4 := hid (B3.out.trans (hb4.mono B3.out.size))
  clear hb4 t0 t1 t2 t3 t4 t5 tl
  obtain ⟨t0, t1, t2, t3, t4, t5⟩ := TB4.out.cells
  have tl := TB4.out.lt
  cases hfew : Al.fewB t [x, y] with
  | false =>
    go_wp2_with fail
    go_ret
    exact ⟨rfl, B4.out⟩
  | true =>
    have hxy : x.length ≤ 30 ∧ y.length ≤ 30 := by
      unfold Al.fewB at hfew
      simp only [Bool.and_eq_true, List.all_cons, decide_eq_true_eq] at hfew
      exact ⟨hfew.2.1, hfew.2.2.1⟩
    have TA := hid (HT.out.few hfew)
    clear hfew
    have hf1 := hid (fold_any a (bs x) W4 (by rw [bs_len]; omega) (HTT.out.below B4.out))
    go_wp2_with fail
    refine (hf1.out).mono ?_
    rintro e W5 h5
    unfold FoldPost at h5
    rw [bs_list] at h5
    cases hl1 : Sc.lets a x with
    | none =>
      rw [hl1] at h5
      obtain ⟨rfl, hb5⟩ := h5
      have B5 := hid (B4.out.trans (hb5.mono B4.out.size))
      have hf2 := hid (fold_any b (bs y) W5 (by rw [bs_len]; omega) (HTT.out.below B5.out))
      clear hb5 hl1 t0 t1 t2 t3 t4 t5 tl
      go_wp2_with fail
      refine (hf2.out).mono ?_
      rintro e W6 h6
      unfold FoldPost at h6
      rw [bs_list] at h6
      cases hl2 : Sc.lets b y with
      | none =>
        rw [hl2] at h6
        obtain ⟨rfl, hb6⟩ := h6
        have B6 := hid (B5.out.trans (hb6.mono B5.out.size))
        clear hb6 hl2
        go_wp2_with fail
        go_ret
        exact ⟨rfl, B6.out⟩
      | some m =>
        rw [hl2] at h6
        obtain ⟨rfl, hb6⟩ := h6
        have B6 := hid (B5.out.trans (hb6.mono B5.out.size))
        clear hb6 hl2
        go_wp2_with fail
        go_ret
        exact ⟨rfl, B6.out⟩
    | some l =>
      rw [hl1] at h5
      obtain ⟨rfl, hb5⟩ := h5
      have B5 := hid (B4.out.trans (hb5.mono B4.out.size))
      have TB5 := hid (TB4.out.below hb5)
      have hf2 := hid (fold_any b (bs y) W5 (by rw [bs_len]; omega) (HTT.out.below B5.out))
      have HL1 := hid hl1
      clear hb5 hl1 t0 t1 t2 t3 t4 t5 tl
      go_wp2_with fail
      refine (hf2.out).mono ?_
      rintro e W6 h6
      unfold FoldPost at h6
      rw [bs_list] at h6
      cases hl2 : Sc.lets b y with
      | none =>
        rw [hl2] at h6
        obtain ⟨rfl, hb6⟩ := h6
        have B6 := hid (B5.out.trans (hb6.mono B5.out.size))
        clear hb6 hl2
        go_wp2_with fail
        go_ret
        exact ⟨rfl, B6.out⟩
      | some m =>
        rw [hl2] at h6
        obtain ⟨rfl, hb6⟩ := h6
        have B6 := hid (B5.out.trans (hb6.mono B5.out.size))
        have TB6 := hid (TB5.out.below hb6)
        obtain ⟨t0, t1, t2, t3, t4, t5⟩ := TB6.out.cells
        have tl := TB6.out.lt
        have HBE := hid (best_any t _ a b (bs x) (bs y) W6 (TA.out.below B6.out) (HTT.out.below B6.out) (by rw [bs_len]; omega) (by rw [bs_len]; omega))
        rw [bs_list, bs_list] at HBE
        obtain ⟨r, hr⟩ : ∃ r, r = Al.bestOf t a x b y := ⟨_, rfl⟩
        have hr2 := Al.law_folds (t := t) HL1.out hl2
        rw [← hr] at HBE hr2
        have HR2 := hid hr2
        clear hb6 hl2 hr hr2
        go_wp2_with fail
        refine (HBE.out).mono ?_
        rintro e W7 h7
        obtain ⟨x1, m1, k1, x2, m2, k2, rfl, hda, hb7⟩ := h7.get
        obtain ⟨W8, hW8⟩ : ∃ W8, W8 = W7.alloc (.cells #[.int .i64 r.1.cost, .slice x1 m1 k1, .slice x2 m2 k2, .string (bs r.1.form)] 28) := ⟨_, rfl⟩
        have hb8 : Below W7.heap.size W7 W8 := by rw [hW8]; exact (Below.refl _ W7).alloc (Nat.le_refl _) _
        have hb68 := Below.step hb7 hb8
        have B8 := hid (B6.out.trans (hb68.mono B6.out.size))
        have P8 := hid (show DerBlk W8 W7.heap.size r.1 x1 m1 k1 x2 m2 k2 by rw [hW8]; exact DerBlk.new hda)
        have TB7 := TB6.out.below hb7
        clear t0 t1 t2 t3 t4 t5 tl
        obtain ⟨t0, t1, t2, t3, t4, t5⟩ := TB7.cells
        have tl := TB7.lt
        have HB2 := hid (best_any t _ a b (bs (Sc.fold x)) (bs (Sc.fold y)) W8 (TA.out.below B8.out) (HTT.out.below B8.out) (by rw [bs_len, Sc.fold_length]; omega) (by rw [bs_len, Sc.fold_length]; omega))
        rw [bs_list, bs_list, HR2.out] at HB2
        clear TB7 hb7 hb8 hb68 hda h7
        go_wp2_with fail
        rw [← hW8]
        clear hW8
        refine (HB2.out).mono ?_
        rintro e W9 h9
        obtain ⟨y1, o1, q1, y2, o2, q2, rfl, hdb, hb9⟩ := h9.get
        obtain ⟨W10, hW10⟩ : ∃ W10, W10 = W9.alloc (.cells #[.int .i64 r.1.cost, .slice y1 o1 q1, .slice y2 o2 q2, .string (bs r.1.form)] 28) := ⟨_, rfl⟩
        have hb10 : Below W9.heap.size W9 W10 := by rw [hW10]; exact (Below.refl _ W9).alloc (Nat.le_refl _) _
        have hb810 := Below.step hb9 hb10
        have B10 := hid (B8.out.trans (hb810.mono B8.out.size))
        have P9 := P8.out.below hb9
        have P10 := hid (P8.out.below hb810)
        have Q10 := hid (show DerBlk W10 W9.heap.size r.1 y1 o1 q1 y2 o2 q2 by rw [hW10]; exact DerBlk.new hdb)
        have pc0 := P9.c0
        have pc1 := P9.c1
        have pc2 := P9.c2
        have pc3 := P9.c3
        have pl := P9.lt
        have HSM := hid (same_any r.1 r.1 _ _ W10 P10.out.der Q10.out.der)
        rw [decide_eq_true rfl] at HSM
        clear P9 hb9 hb10 hb810 hdb h9 t0 t1 t2 t3 t4 t5 tl
        go_wp2_with fail
        rw [← hW10]
        refine (HSM.out).mono ?_
        rintro e W11 ⟨rfl, hb11⟩
        have B11 := hid (B10.out.trans (hb11.mono B10.out.size))
        clear hb11
        go_wp2_with fail
        go_ret
        exact ⟨rfl, B11.out⟩

end Go.Proofs.YthibphklchalkaaDoor
