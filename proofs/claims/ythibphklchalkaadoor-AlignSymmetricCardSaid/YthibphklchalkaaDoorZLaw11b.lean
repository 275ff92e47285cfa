/-
  AlignSymmetric: the statement's function returns true. Conditions: what can be read of its arguments.
-/
import Derived.Test.YthibphklchalkaaDoorZLaw11a
namespace Go.Proofs.YthibphklchalkaaDoor
open Go.RowKit Go.Lib Go.Maps

set_option maxRecDepth 100000 in
set_option maxHeartbeats 8000000 in
theorem symmetric_law (t : Rw.Table) (tv : Value) (a : Int) (x : List UInt8) (b : Int) (y : List UInt8) (W : World) (ht : TableRaw W t tv) (hT : Tabs W) (hx : x.length ≤ maxLen) (hy : y.length ≤ maxLen) :
    Calls Tryd.prog 4 #[tv, .int .i64 a, .string (bs x), .int .i64 b, .string (bs y)] W (Gives (.bool true) W) := by
  have HT := hid ht
  have HTT := hid hT
  obtain ⟨⟨vr, vd, ve, rfl, ⟨ar, cr, rfl, -⟩, ⟨ad, cd, rfl, -⟩, ⟨ae, ce, rfl, -⟩⟩, -, -, -⟩ := ht
  clear hT
  obtain ⟨W1, hW1⟩ : ∃ W1, W1 = W.alloc (.cells #[.slice ar t.rules.length cr, .slice ad t.drops.length cd, .slice ae t.ends.length ce, .int .i64 t.drop, .int .i64 t.order, .int .i64 t.initial] 25) := ⟨_, rfl⟩
  have hb1 : Below W.heap.size W W1 := by rw [hW1]; exact (Below.refl _ W).alloc (Nat.le_refl _) _
  have TB1 := hid (show TBlk W1 W.heap.size t ar cr ad cd ae ce from ⟨by rw [hW1]; exact World.alloc_heap_new W _⟩)
  have HH := hid (head_true W1 (HTT.out.below hb1))
  have B1 := hid hb1
  clear hb1
  go_enter Tryd.func4, Tryd.ntmps4
  go_wp2_with fail
  rw [← hW1]
  clear hW1
  refine (HH.out).mono ?_
  rintro e W2 ⟨rfl, hb2⟩
  have TB2 := hid (TB1.out.below hb2)
  have B2 := hid (B1.out.trans (hb2.mono B1.out.size))
  clear hb2
  obtain ⟨t0, t1, t2, t3, t4, t5⟩ := TB2.out.cells
  have tl := TB2.out.lt
  obtain ⟨W3, hW3⟩ : ∃ W3, W3 = W2.alloc (.cells #[.string (bs x), .string (bs y)] 9) := ⟨_, rfl⟩
  have hb3 : Below W2.heap.size W2 W3 := by rw [hW3]; exact (Below.refl _ W2).alloc (Nat.le_refl _) _
  have hw3 : W3.heap[W2.heap.size]? = some (.cells #[.string (bs x), .string (bs y)] 9 (0, 0)) := by rw [hW3]; exact World.alloc_heap_new W2 _
  have B3 := hid (B2.out.trans (hb3.mono B2.out.size))
  have TB3 := hid (TB2.out.below hb3)
  have HF := hid (fewL_any t _ _ [x, y] W3 (HT.out.below B3.out) (SlOf.block (sz := 1) (cells := strC) (n := 2) hw3 rfl (fun _ _ => rfl) rfl (by decide)) (fun z hz => by
    simp at hz; rcases hz with rfl | rfl
    · exact hx
    · exact hy))
  clear hb3 hw3
  go_wp2_with fail
  rw [← hW3]
  clear hW3
  refine (HF.out).mono ?_
  rintro e W4 ⟨rfl, hb4⟩
  have TB4 := hid (TB3.out.below hb4)
  have B4 := hid (B3.out.trans (hb4.mono B3.out.size))
  clear hb4 t0 t1 t2 t3 t4 t5 tl
  obtain ⟨t0, t1, t2, t3, t4, t5⟩ := TB4.out.cells
  have tl := TB4.out.lt
  cases hfew : Al.fewB t [x, y] with
  | false =>
    go_wp2_with fail
    go_ret
    exact ⟨rfl, B4.out⟩
  | true =>
    have hxy : x.length ≤ 30 ∧ y.length ≤ 30 := by
      unfold Al.fewB at hfew
      simp only [Bool.and_eq_true, List.all_cons, decide_eq_true_eq] at hfew
      exact ⟨hfew.2.1, hfew.2.2.1⟩
    have TA := hid (HT.out.few hfew)
    clear hfew
    have HBE := hid (best_any t _ a b (bs x) (bs y) W4 (TA.out.below B4.out) (HTT.out.below B4.out) (by rw [bs_len]; omega) (by rw [bs_len]; omega))
    rw [bs_list, bs_list] at HBE
    obtain ⟨r, hr⟩ : ∃ r, r = Al.bestOf t a x b y := ⟨_, rfl⟩
    rw [← hr] at HBE
    have HR := hid hr
    obtain ⟨r2, hr2⟩ : ∃ r2, r2 = Al.bestOf t b y a x := ⟨_, rfl⟩
    have HR2 := hid hr2
    have LS := Al.law_symmetric t a x b y
    rw [← hr, ← hr2] at LS
    have ll := Al.bestOf_lens t a x b y
    rw [← hr] at ll
    obtain ⟨ls1, ls2, ls3⟩ := LS
    have HLS := hid ls3
    clear hr hr2 ls3
    go_wp2_with fail
    refine (HBE.out).mono ?_
    rintro e W5 h5
    obtain ⟨x1, m1, k1, x2, m2, k2, rfl, hda, hb5⟩ := h5.get
    obtain ⟨W6, hW6⟩ : ∃ W6, W6 = W5.alloc (.cells #[.int .i64 r.1.cost, .slice x1 m1 k1, .slice x2 m2 k2, .string (bs r.1.form)] 28) := ⟨_, rfl⟩
    have hb6 : Below W5.heap.size W5 W6 := by rw [hW6]; exact (Below.refl _ W5).alloc (Nat.le_refl _) _
    have hb46 := Below.step hb5 hb6
    have TB6 := hid (TB4.out.below hb46)
    have B6 := hid (B4.out.trans (hb46.mono B4.out.size))
    have P6 := hid (show DerBlk W6 W5.heap.size r.1 x1 m1 k1 x2 m2 k2 by rw [hW6]; exact DerBlk.new hda)
    clear t0 t1 t2 t3 t4 t5 tl
    have TB5 := TB4.out.below hb5
    obtain ⟨t0, t1, t2, t3, t4, t5⟩ := TB5.cells
    have tl := TB5.lt
    have HB2 := hid (best_any t _ b a (bs y) (bs x) W6 (TA.out.below B6.out) (HTT.out.below B6.out) (by rw [bs_len]; omega) (by rw [bs_len]; omega))
    rw [bs_list, bs_list, ← HR2.out] at HB2
    have HT5 := hid TB5.lt
    clear TB5 hb5 hb6 hb46 hda h5
    go_wp2_with fail
    rw [← hW6]
    clear hW6
    refine (HB2.out).mono ?_
    rintro e W7 h7
    obtain ⟨y1, o1, q1, y2, o2, q2, rfl, hdb, hb7⟩ := h7.get
    obtain ⟨W8, hW8⟩ : ∃ W8, W8 = W7.alloc (.cells #[.int .i64 r2.1.cost, .slice y1 o1 q1, .slice y2 o2 q2, .string (bs r2.1.form)] 28) := ⟨_, rfl⟩
    have hb8 : Below W7.heap.size W7 W8 := by rw [hW8]; exact (Below.refl _ W7).alloc (Nat.le_refl _) _
    have hb68 := Below.step hb7 hb8
    have TB8 := hid (TB6.out.below hb68)
    have B8 := hid (B6.out.trans (hb68.mono B6.out.size))
    have P7 := P6.out.below hb7
    have P8 := hid (P6.out.below hb68)
    have pc0 := P7.c0
    have pc1 := P7.c1
    have pc2 := P7.c2
    have pc3 := P7.c3
    have pl := P7.lt
    have pf1 : W7.frozen? ⟨W5.heap.size, 1, none⟩ = false := by simp [World.frozen?, P7.blk]
    have pf2 : W7.frozen? ⟨W5.heap.size, 2, none⟩ = false := by simp [World.frozen?, P7.blk]
    have TB7 := TB6.out.below hb7
    clear t0 t1 t2 t3 t4 t5 tl
    obtain ⟨t0, t1, t2, t3, t4, t5⟩ := TB7.cells
    have tl := TB7.lt
    have hee : (r.2 != r2.2) = false := by rw [ls1]; simp
    have hcc : (r.1.cost != r2.1.cost) = false := by rw [ls2]; simp
    have HLS2 := hid (And.intro ls1 ls2)
    have hn5 : W.heap.size < W5.heap.size := HT5.out
    have hn6 : ¬ W.heap.size = W5.heap.size := by omega
    have hn7 : ¬ W5.heap.size = W.heap.size := by omega
    obtain ⟨Wc, hWc⟩ : ∃ Wc, Wc = (((W7.setCell ⟨W5.heap.size, 1, none⟩ (.slice x2 m2 k2)).setCell ⟨W5.heap.size, 2, none⟩ (.slice x1 m1 k1)).alloc (.cells #[.int .i64 r2.1.cost, .slice y1 o1 q1, .slice y2 o2 q2, .string (bs r2.1.form)] 28)) := ⟨_, rfl⟩
    have B7 := B6.out.trans (hb7.mono B6.out.size)
    have BWc : Below W.heap.size W Wc := by
      rw [hWc]
      exact ((B7.setCell (p := ⟨W5.heap.size, 1, none⟩) (by simp; omega) _).setCell (p := ⟨W5.heap.size, 2, none⟩) (by simp; omega) _).alloc (by simp [World.setCell]; omega) _
    have DC : DerAt Wc r.1.swap [.int .i64 r.1.cost, .slice x2 m2 k2, .slice x1 m1 k1, .string (bs r.1.form)] := by
      obtain ⟨lv, rv, hvv, e1, e2⟩ := P7.der
      obtain ⟨rfl, rfl⟩ : Value.slice x1 m1 k1 = lv ∧ Value.slice x2 m2 k2 = rv := by simpa using hvv
      have key : ∀ {v : Value} {l : List Int}, SlOf W7 v 1 (fun i : Int => [.int .i64 i]) l → SlOf Wc v 1 (fun i : Int => [.int .i64 i]) l := fun h => by
        rw [hWc]
        refine ((h.set_other (q := W5.heap.size) (j := 1) _ pc1 (fun y _ hm => by simp at hm)).set_other (q := W5.heap.size) (j := 2) (x := .slice x2 m2 k2) _ ?_ (fun y _ hm => by simp at hm)).below ((Below.refl _ _).alloc (Nat.le_refl _) _)
        rw [World.cell?_setCell_other _ _ _ _ (by intro h; simp only [Addr.mk.injEq] at h; omega)]
        exact pc2
      exact ⟨_, _, rfl, key e2, key e1⟩
    have HWc := hid (And.intro BWc DC)
    have HWe := hid hWc
    clear hWc BWc DC B7
    clear ls1 ls2 P7 TB7 hb7 hb8 hb68 hdb h7
    by_cases hz : r.2 = 0
    · have hze : (r.2 != (0 : Int)) = false := by simpa using hz
      have HZ := hid hz
      clear hz
      have HCK := hid (checkD_any t _ b a (bs y) (bs x) r.1.swap _ Wc (TA.out.below HWc.out.1) (HTT.out.below HWc.out.1) (by rw [bs_len]; omega) (by rw [bs_len]; omega) HWc.out.2 ll.2 ll.1)
      rw [bs_list, bs_list, HLS.out HZ.out] at HCK
      clear hW8
      go_wp2_with fail
      rw [← HWe.out]
      refine (HCK.out).mono ?_
      rintro e W9 ⟨rfl, hb9⟩
      have B9 := hid (HWc.out.1.trans (hb9.mono HWc.out.1.size))
      clear hb9
      go_wp2_with fail
      go_ret
      exact ⟨rfl, B9.out⟩
    · have hze : (r.2 != (0 : Int)) = true := by simpa using hz
      clear hz
      go_wp2_with fail
      go_ret
      rw [← HWe.out]
      exact ⟨rfl, HWc.out.1⟩

end Go.Proofs.YthibphklchalkaaDoor
