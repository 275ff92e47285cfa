/-
  AlignCheapest: the statement's function returns true. Conditions: what can be read of its arguments.
-/
import Derived.Test.YthibphklchalkaaDoorZAlLaws
namespace Go.Proofs.YthibphklchalkaaDoor
open Go.RowKit Go.Lib Go.Maps

/-- an argument's table in a block of its own -/
structure TBlk (W : World) (B : Nat) (t : Rw.Table) (ar : Option Addr) (cr : Nat) (ad : Option Addr) (cd : Nat) (ae : Option Addr) (ce : Nat) : Prop where
  blk : W.heap[B]? = some (.cells #[.slice ar t.rules.length cr, .slice ad t.drops.length cd, .slice ae t.ends.length ce, .int .i64 t.drop, .int .i64 t.order, .int .i64 t.initial] 25 (0, 0))
section
variable {W W' : World} {B : Nat} {t : Rw.Table} {ar ad ae : Option Addr} {cr cd ce : Nat}
theorem TBlk.below (h : TBlk W B t ar cr ad cd ae ce) (hb : Below W.heap.size W W') : TBlk W' B t ar cr ad cd ae ce := ⟨(hb.block _ (Array.getElem?_eq_some_iff.1 h.blk).1).trans h.blk⟩
theorem TBlk.lt (h : TBlk W B t ar cr ad cd ae ce) : B < W.heap.size := (Array.getElem?_eq_some_iff.1 h.blk).1
theorem TBlk.cells (h : TBlk W B t ar cr ad cd ae ce) : W.cell? ⟨B, 0, none⟩ = some (.slice ar t.rules.length cr) ∧ W.cell? ⟨B, 1, none⟩ = some (.slice ad t.drops.length cd) ∧ W.cell? ⟨B, 2, none⟩ = some (.slice ae t.ends.length ce) ∧
    W.cell? ⟨B, 3, none⟩ = some (.int .i64 t.drop) ∧ W.cell? ⟨B, 4, none⟩ = some (.int .i64 t.order) ∧ W.cell? ⟨B, 5, none⟩ = some (.int .i64 t.initial) := by
  refine ⟨?_, ?_, ?_, ?_, ?_, ?_⟩ <;> simp [World.cell?, h.blk]
end

set_option maxRecDepth 100000 in
set_option maxHeartbeats 8000000 in
theorem cheapest_law (t : Rw.Table) (tv : Value) (a : Int) (x : List UInt8) (b : Int) (y : List UInt8) (d : Al.D) (dv : List Value) (W : World) (ht : TableRaw W t tv) (hT : Tabs W) (hx : x.length ≤ maxLen) (hy : y.length ≤ maxLen) (hd : DerAt W d dv) (hdf : d.form.length ≤ maxLen) :
    Calls Tryd.prog 3 #[tv, .int .i64 a, .string (bs x), .int .i64 b, .string (bs y), .agg dv.toArray] W (Gives (.bool true) W) := by
  have HT := hid ht
  have HTT := hid hT
  have HDD := hid hd
  obtain ⟨⟨vr, vd, ve, rfl, ⟨ar, cr, rfl, -⟩, ⟨ad, cd, rfl, -⟩, ⟨ae, ce, rfl, -⟩⟩, -, -, -⟩ := ht
  obtain ⟨lv, rv, rfl, hdl, hdr⟩ := hd
  obtain ⟨al, cl, rfl, l1, l2, -⟩ := hdl
  obtain ⟨ar', cr', rfl, r1, r2, -⟩ := hdr
  unfold maxLen at l2 r2
  clear hT
  obtain ⟨W1, hW1⟩ : ∃ W1, W1 = (W.alloc (.cells #[.slice ar t.rules.length cr, .slice ad t.drops.length cd, .slice ae t.ends.length ce, .int .i64 t.drop, .int .i64 t.order, .int .i64 t.initial] 25)).alloc (.cells #[.int .i64 d.cost, .slice al d.left.length cl, .slice ar' d.right.length cr', .string (bs d.form)] 28) := ⟨_, rfl⟩
  have hb1 : Below W.heap.size W W1 := by rw [hW1]; exact ((Below.refl _ W).alloc (Nat.le_refl _) _).alloc (by simp) _
  have hd1 : W1.heap[W.heap.size + 1]? = some (.cells #[.int .i64 d.cost, .slice al d.left.length cl, .slice ar' d.right.length cr', .string (bs d.form)] 28 (0, 0)) := by
    rw [hW1]
    have := World.alloc_heap_new (W.alloc (.cells #[.slice ar t.rules.length cr, .slice ad t.drops.length cd, .slice ae t.ends.length ce, .int .i64 t.drop, .int .i64 t.order, .int .i64 t.initial] 25)) (.cells #[.int .i64 d.cost, .slice al d.left.length cl, .slice ar' d.right.length cr', .string (bs d.form)] 28)
    rwa [World.size_alloc] at this
  have ht1 : W1.heap[W.heap.size]? = some (.cells #[.slice ar t.rules.length cr, .slice ad t.drops.length cd, .slice ae t.ends.length ce, .int .i64 t.drop, .int .i64 t.order, .int .i64 t.initial] 25 (0, 0)) := by
    rw [hW1]; exact (Below.heap_alloc _ _ _ (by simp)).trans (World.alloc_heap_new W _)
  have HH := hid (head_true W1 (HTT.out.below hb1))
  have H1 := hid (And.intro hb1 (And.intro hd1 ht1))
  clear hb1 hd1 ht1
  go_enter Tryd.func3, Tryd.ntmps3
  go_wp2_with fail
  rw [← hW1]
  clear hW1
  refine (HH.out).mono ?_
  rintro e W2 ⟨rfl, hb2⟩
  obtain ⟨hb1, hd1, ht1⟩ := H1.out
  have hd2 := (hb2.block _ (Array.getElem?_eq_some_iff.1 hd1).1).trans hd1
  have ht2 := (hb2.block _ (Array.getElem?_eq_some_iff.1 ht1).1).trans ht1
  have hbW2 := hb1.trans (hb2.mono hb1.size)
  have t0 : W2.cell? ⟨W.heap.size, 0, none⟩ = some (.slice ar t.rules.length cr) := by simp [World.cell?, ht2]
  have t1 : W2.cell? ⟨W.heap.size, 1, none⟩ = some (.slice ad t.drops.length cd) := by simp [World.cell?, ht2]
  have t2 : W2.cell? ⟨W.heap.size, 2, none⟩ = some (.slice ae t.ends.length ce) := by simp [World.cell?, ht2]
  have t3 : W2.cell? ⟨W.heap.size, 3, none⟩ = some (.int .i64 t.drop) := by simp [World.cell?, ht2]
  have t4 : W2.cell? ⟨W.heap.size, 4, none⟩ = some (.int .i64 t.order) := by simp [World.cell?, ht2]
  have t5 : W2.cell? ⟨W.heap.size, 5, none⟩ = some (.int .i64 t.initial) := by simp [World.cell?, ht2]
  have zt := (Array.getElem?_eq_some_iff.1 ht2).1
  obtain ⟨W3, hW3⟩ : ∃ W3, W3 = W2.alloc (.cells #[.string (bs x), .string (bs y)] 9) := ⟨_, rfl⟩
  have hb3 : Below W2.heap.size W2 W3 := by rw [hW3]; exact (Below.refl _ W2).alloc (Nat.le_refl _) _
  have hw3 : W3.heap[W2.heap.size]? = some (.cells #[.string (bs x), .string (bs y)] 9 (0, 0)) := by rw [hW3]; exact World.alloc_heap_new W2 _
  have hbW3 := hbW2.trans (hb3.mono hbW2.size)
  have HF := hid (fewL_any t _ _ [x, y] W3 (HT.out.below hbW3) (SlOf.block (sz := 1) (cells := strC) (n := 2) hw3 rfl (fun _ _ => rfl) rfl (by decide)) (fun z hz => by
    simp at hz; rcases hz with rfl | rfl
    · exact hx
    · exact hy))
  have hd3 := (hb3.block _ (Array.getElem?_eq_some_iff.1 hd2).1).trans hd2
  have ht3 := (hb3.block _ (Array.getElem?_eq_some_iff.1 ht2).1).trans ht2
  have H3 := hid (And.intro hbW3 (And.intro hd3 ht3))
  clear hb1 hd1 ht1 hb2 hd2 ht2 hbW2 hb3 hw3 hbW3 hd3 ht3
  go_wp2_with fail
  rw [← hW3]
  clear hW3
  refine (HF.out).mono ?_
  rintro e W4 ⟨rfl, hb4⟩
  obtain ⟨hbW3, hd3, ht3⟩ := H3.out
  have hd4 := (hb4.block _ (Array.getElem?_eq_some_iff.1 hd3).1).trans hd3
  have ht4 := (hb4.block _ (Array.getElem?_eq_some_iff.1 ht3).1).trans ht3
  have hbW4 := hbW3.trans (hb4.mono hbW3.size)
  have u0 : W4.cell? ⟨W.heap.size + 1, 0, none⟩ = some (.int .i64 d.cost) := by simp [World.cell?, hd4]
  have u1 : W4.cell? ⟨W.heap.size + 1, 1, none⟩ = some (.slice al d.left.length cl) := by simp [World.cell?, hd4]
  have u2 : W4.cell? ⟨W.heap.size + 1, 2, none⟩ = some (.slice ar' d.right.length cr') := by simp [World.cell?, hd4]
  have u3 : W4.cell? ⟨W.heap.size + 1, 3, none⟩ = some (.string (bs d.form)) := by simp [World.cell?, hd4]
  have HW4 := hid hbW4
  clear t0 t1 t2 t3 t4 t5 zt
  have zf : (bs d.form).size ≤ 9223372036854775807 := by rw [bs_len]; unfold maxLen at hdf; exact hdf
  cases hfew : Al.fewB t [x, y] with
  | false =>
    clear hbW3 hd3 ht3 hb4 hd4 ht4 hbW4
    go_wp2_with fail
    go_ret
    exact ⟨rfl, HW4.out⟩
  | true =>
    by_cases hsm : d.left.length ≤ 30 ∧ d.right.length ≤ 30 ∧ d.form.length ≤ 100
    case neg =>
      clear hbW3 hd3 ht3 hb4 hd4 ht4 hbW4
      by_cases h1 : d.left.length ≤ 30
      · have h1' : ¬ (30 : Int) < (d.left.length : Int) := by omega
        by_cases h2 : d.right.length ≤ 30
        · have h2' : ¬ (30 : Int) < (d.right.length : Int) := by omega
          have h3' : (100 : Int) < ((bs d.form).size : Int) := by rw [bs_len]; omega
          clear hsm h1 h2
          go_wp2_with fail
          go_ret
          exact ⟨rfl, HW4.out⟩
        · have h2' : (30 : Int) < (d.right.length : Int) := by omega
          clear hsm h1 h2
          go_wp2_with fail
          go_ret
          exact ⟨rfl, HW4.out⟩
      · have h1' : (30 : Int) < (d.left.length : Int) := by omega
        clear hsm h1
        go_wp2_with fail
        go_ret
        exact ⟨rfl, HW4.out⟩
    case pos =>
      obtain ⟨h1, h2, h3⟩ := hsm
      have h1' : ¬ (30 : Int) < (d.left.length : Int) := by omega
      have h2' : ¬ (30 : Int) < (d.right.length : Int) := by omega
      have h3' : ¬ (100 : Int) < ((bs d.form).size : Int) := by rw [bs_len]; omega
      have hxy : x.length ≤ 30 ∧ y.length ≤ 30 := by
        unfold Al.fewB at hfew
        simp only [Bool.and_eq_true, List.all_cons, decide_eq_true_eq] at hfew
        exact ⟨hfew.2.1, hfew.2.2.1⟩
      have TA := hid (HT.out.few hfew)
      have TB4 := hid (show TBlk W4 W.heap.size t ar cr ad cd ae ce from ⟨ht4⟩)
      have DB4 := hid (show DerBlk W4 (W.heap.size + 1) d al d.left.length cl ar' d.right.length cr' from ⟨hd4, HDD.out.below hbW4⟩)
      obtain ⟨t0, t1, t2, t3, t4, t5⟩ := TB4.out.cells
      have tl := TB4.out.lt
      have HBE := hid (best_any t _ a b (bs x) (bs y) W4 (TA.out.below hbW4) (HTT.out.below hbW4) (by rw [bs_len]; omega) (by rw [bs_len]; omega))
      rw [bs_list, bs_list] at HBE
      obtain ⟨r, hr⟩ : ∃ r, r = Al.bestOf t a x b y := ⟨_, rfl⟩
      rw [← hr] at HBE
      have HR := hid hr
      clear hbW3 hd3 ht3 hb4 hd4 ht4 hbW4 hfew h1 h2 h3 hr
      go_wp2_with fail
      refine (HBE.out).mono ?_
      rintro e W5 h5
      obtain ⟨x1, m1, k1, x2, m2, k2, rfl, hda, hb5⟩ := h5.get
      obtain ⟨W6, hW6⟩ : ∃ W6, W6 = W5.alloc (.cells #[.int .i64 r.1.cost, .slice x1 m1 k1, .slice x2 m2 k2, .string (bs r.1.form)] 28) := ⟨_, rfl⟩
      have hb6 : Below W5.heap.size W5 W6 := by rw [hW6]; exact (Below.refl _ W5).alloc (Nat.le_refl _) _
      have hb46 := Below.step hb5 hb6
      have TB6 := hid (TB4.out.below hb46)
      have DB6 := hid (DB4.out.below hb46)
      have BW6 := hid (HW4.out.trans (hb46.mono HW4.out.size))
      have PB6 := hid (show DerBlk W6 W5.heap.size r.1 x1 m1 k1 x2 m2 k2 by rw [hW6]; exact DerBlk.new hda)
      clear t0 t1 t2 t3 t4 t5 tl u0 u1 u2 u3
      have TB5 := TB4.out.below hb5
      obtain ⟨t0, t1, t2, t3, t4, t5⟩ := TB5.cells
      have tl := TB5.lt
      have DB5 := DB4.out.below hb5
      have u0 := DB5.c0
      have u1 := DB5.c1
      have u2 := DB5.c2
      have u3 := DB5.c3
      have ul := DB5.lt
      clear TB5 DB5 hb5 hb6 hb46 hda h5
      have ll := Al.bestOf_lens t a x b y
      rw [← HR.out] at ll
      by_cases hz : r.2 = 0
      · have hze : (r.2 == (0 : Int)) = true := by simpa using hz
        have HC1 := hid (checkD_any t _ a b (bs x) (bs y) r.1 _ W6 (TA.out.below BW6.out) (HTT.out.below BW6.out) (by rw [bs_len]; omega) (by rw [bs_len]; omega) PB6.out.der ll.1 ll.2)
        rw [bs_list, bs_list] at HC1
        have hc1 : Al.checkOf t a x b y r.1 = true := by
          have := Al.law_checks (t := t) (a := a) (x := x) (b := b) (y := y) (by rw [← HR.out]; exact hz)
          rwa [← HR.out] at this
        rw [hc1] at HC1
        clear hz hc1 ll
        go_wp2_with fail
        rw [← hW6]
        clear hW6
        refine (HC1.out).mono ?_
        rintro e W7 ⟨rfl, hb7⟩
        have TB7 := hid (TB6.out.below hb7)
        have DB7 := hid (DB6.out.below hb7)
        have PB7 := hid (PB6.out.below hb7)
        have BW7 := hid (BW6.out.trans (hb7.mono BW6.out.size))
        clear hb7 t0 t1 t2 t3 t4 t5 tl u0 u1 u2 u3 ul
        obtain ⟨t0, t1, t2, t3, t4, t5⟩ := TB7.out.cells
        have tl := TB7.out.lt
        have u0 := DB7.out.c0
        have u1 := DB7.out.c1
        have u2 := DB7.out.c2
        have u3 := DB7.out.c3
        have ul := DB7.out.lt
        have HC2 := hid (checkD_any t _ a b (bs x) (bs y) d _ W7 (TA.out.below BW7.out) (HTT.out.below BW7.out) (by rw [bs_len]; omega) (by rw [bs_len]; omega) DB7.out.der (by omega) (by omega))
        rw [bs_list, bs_list] at HC2
        cases hc : Al.checkOf t a x b y d with
        | false =>
          rw [hc] at HC2
          clear hc
          go_wp2_with fail
          refine (HC2.out).mono ?_
          rintro e W8 ⟨rfl, hb8⟩
          have BW8 := hid (BW7.out.trans (hb8.mono BW7.out.size))
          clear hb8
          go_wp2_with fail
          go_ret
          exact ⟨rfl, BW8.out⟩
        | true =>
          rw [hc] at HC2
          have hle : r.1.cost ≤ d.cost := by
            have := (Al.law_cheapest hc).2
            rwa [← HR.out] at this
          clear hc
          go_wp2_with fail
          refine (HC2.out).mono ?_
          rintro e W8 ⟨rfl, hb8⟩
          have BW8 := hid (BW7.out.trans (hb8.mono BW7.out.size))
          have DB8 := DB7.out.below hb8
          have PB8 := PB7.out.below hb8
          clear u0 t0 t1 t2 t3 t4 t5 tl u1 u2 u3 ul
          have u0 := DB8.c0
          have ul := DB8.lt
          have p0 := PB8.c0
          have pl := PB8.lt
          clear hb8 DB8 PB8
          go_wp2_with fail
          go_ret
          exact ⟨rfl, BW8.out⟩
      · have hze : (r.2 == (0 : Int)) = false := by simpa using hz
        have hc : Al.checkOf t a x b y d = false := by
          cases h : Al.checkOf t a x b y d with
          | false => rfl
          | true => exact absurd (by rw [HR.out]; exact (Al.law_cheapest h).1) hz
        have HC2 := hid (checkD_any t _ a b (bs x) (bs y) d _ W6 (TA.out.below BW6.out) (HTT.out.below BW6.out) (by rw [bs_len]; omega) (by rw [bs_len]; omega) DB6.out.der (by omega) (by omega))
        rw [bs_list, bs_list, hc] at HC2
        clear hz hc ll
        go_wp2_with fail
        rw [← hW6]
        clear hW6
        refine (HC2.out).mono ?_
        rintro e W8 ⟨rfl, hb8⟩
        have BW8 := hid (BW6.out.trans (hb8.mono BW6.out.size))
        clear hb8
        go_wp2_with fail
        go_ret
        exact ⟨rfl, BW8.out⟩

end Go.Proofs.YthibphklchalkaaDoor
