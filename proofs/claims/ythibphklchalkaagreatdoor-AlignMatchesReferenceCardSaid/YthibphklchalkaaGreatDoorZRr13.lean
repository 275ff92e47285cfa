/-
  The reference's Check. Conditions: lengths.
-/
import Derived.Test.YthibphklchalkaaGreatDoorZRr12
namespace Go.Proofs.YthibphklchalkaaGreatDoor
open Go.RowKit Go.Lib Go.Maps

set_option maxRecDepth 100000 in
set_option maxHeartbeats 8000000 in
theorem rcheckD_any (t : Rw.Table) (tv : Value) (a b : Int) (x y : List UInt8) (d : Al.D) (dv : List Value) (W : World) (ht : TableAt W t tv) (hx : x.length ≤ 1000000) (hy : y.length ≤ 1000000) (hd : DerAt W d dv) (hl : d.left.length ≤ 1000000) (hr : d.right.length ≤ 1000000) :
    Calls Tryz.prog 12 #[tv, .int .i64 a, .string (bs x), .int .i64 b, .string (bs y), .agg dv.toArray] W (Gives (.bool (Al.checkOf t a x b y d)) W) := by
  have HT := hid ht
  obtain ⟨⟨vr, vd, ve, rfl, ⟨ar, cr, rfl, -⟩, ⟨ad, cd, rfl, -⟩, ⟨ae, ce, rfl, -⟩⟩, -, -, -, -, -, -⟩ := ht
  obtain ⟨lv, rv, rfl, hdl, hdr⟩ := hd
  have HDL := hid (And.intro hdl hdr)
  obtain ⟨al, cl, rfl, -, -, -⟩ := hdl
  obtain ⟨ar', cr', rfl, -, -, -⟩ := hdr
  obtain ⟨W1, hW1⟩ : ∃ W1, W1 = (W.alloc (.cells #[.slice ar t.rules.length cr, .slice ad t.drops.length cd, .slice ae t.ends.length ce, .int .i64 t.drop, .int .i64 t.order, .int .i64 t.initial] 25)).alloc (.cells #[.int .i64 d.cost, .slice al d.left.length cl, .slice ar' d.right.length cr', .string (bs d.form)] 28) := ⟨_, rfl⟩
  have HB1 := hid (show Below W.heap.size W W1 by rw [hW1]; exact ((Below.refl _ W).alloc (Nat.le_refl _) _).alloc (by simp) _)
  have HT1 := hid (show Blk W1 W.heap.size 25 [.slice ar t.rules.length cr, .slice ad t.drops.length cd, .slice ae t.ends.length ce, .int .i64 t.drop, .int .i64 t.order, .int .i64 t.initial] by
    rw [hW1]; exact (Blk.new W _ _).below ((Below.refl _ _).alloc (Nat.le_refl _) _))
  have HD1 := hid (show Blk W1 (W.heap.size + 1) 28 [.int .i64 d.cost, .slice al d.left.length cl, .slice ar' d.right.length cr', .string (bs d.form)] by
    rw [hW1]
    have := Blk.new (W.alloc (.cells #[.slice ar t.rules.length cr, .slice ad t.drops.length cd, .slice ae t.ends.length ce, .int .i64 t.drop, .int .i64 t.order, .int .i64 t.initial] 25)) 28 [.int .i64 d.cost, .slice al d.left.length cl, .slice ar' d.right.length cr', .string (bs d.form)]
    rwa [World.size_alloc] at this)
  have HP := hid (proper_any t _ a b x y W1 (HT.out.below HB1.out) hx hy)
  have c0 := HT1.out.cell (j := 0) rfl
  have c1 := HT1.out.cell (j := 1) rfl
  have c2 := HT1.out.cell (j := 2) rfl
  have c3 := HT1.out.cell (j := 3) rfl
  have c4 := HT1.out.cell (j := 4) rfl
  have c5 := HT1.out.cell (j := 5) rfl
  have zc := HT1.out.lt
  go_enter Tryz.func12, Tryz.ntmps12
  go_upto_region 1 with (fail)
  rw [← hW1]
  clear hW1
  go_wp2_with fail
  refine (HP.out).mono ?_
  rintro e W2 ⟨rfl, hb2⟩
  have HB2 := hid (Below.step HB1.out hb2)
  have HT2 := hid (HT1.out.below hb2)
  have HD2 := hid (HD1.out.below hb2)
  clear hb2 c0 c1 c2 c3 c4 c5 zc
  cases ho : Al.openB t a x b y with
  | false =>
    have hno := hid (show Al.checkOf t a x b y d = false by unfold Al.checkOf; rw [ho]; rfl)
    clear ho
    go_wp2_with fail
    go_ret
    exact ⟨ret_bool hno.out.symm, HB2.out⟩
  | true =>
    obtain ⟨S1, S2, h1, h2, hv⟩ : ∃ S1 S2, Al.side t.rules a x = some S1 ∧ Al.side t.rules b y = some S2 ∧ Rw.valid t = true := by
      unfold Al.openB at ho
      simp only [Bool.and_eq_true] at ho
      obtain ⟨⟨u, v⟩, z⟩ := ho
      obtain ⟨S1, e1⟩ := Option.isSome_iff_exists.1 u
      obtain ⟨S2, e2⟩ := Option.isSome_iff_exists.1 v
      exact ⟨S1, S2, e1, e2, z⟩
    have hno := hid (show Al.checkOf t a x b y d = Al.check ⟨S1, S2⟩ d by unfold Al.checkOf; rw [ho, if_pos rfl, h1, h2])
    obtain ⟨lx, hlx, hS1⟩ : ∃ lx, Sc.lets a x = some lx ∧ S1 = ⟨lx.map Sc.fold, Al.rulesFrom a 0 t.rules⟩ := by
      cases hq : Sc.lets a x with
      | none => rw [Al.side_no hq] at h1; cases h1
      | some lx => rw [Al.side_of hq] at h1; cases h1; exact ⟨lx, rfl, rfl⟩
    obtain ⟨ly, hly, hS2⟩ : ∃ ly, Sc.lets b y = some ly ∧ S2 = ⟨ly.map Sc.fold, Al.rulesFrom b 0 t.rules⟩ := by
      cases hq : Sc.lets b y with
      | none => rw [Al.side_no hq] at h2; cases h2
      | some ly => rw [Al.side_of hq] at h2; cases h2; exact ⟨ly, rfl, rfl⟩
    obtain ⟨g1, l1, -, z1⟩ := Al.side_good hv h1
    obtain ⟨g2, l2, -, z2⟩ := Al.side_good hv h2
    have HW1 := hid (rwritten_any t _ a x lx (.slice al d.left.length cl) d.left S1 W2 (HT.out.below HB2.out) hx hlx hS1 g1 l1 z1 (HDL.out.1.below HB2.out) hl)
    have HW2 : Hid (∀ X, Below W2.heap.size W2 X → Calls Tryz.prog 27 #[_, .int .i64 b, .string (bs y), .slice ar' d.right.length cr'] X (WrittenPost S2 d.right X)) := fun X hX =>
      rwritten_any t _ b y ly (.slice ar' d.right.length cr') d.right S2 X ((HT.out.below HB2.out).below hX) hy hly hS2 g2 l2 z2 ((HDL.out.2.below HB2.out).below hX) hr
    have c0 := HT2.out.cell (j := 0) rfl
    have c1 := HT2.out.cell (j := 1) rfl
    have c2 := HT2.out.cell (j := 2) rfl
    have c3 := HT2.out.cell (j := 3) rfl
    have c4 := HT2.out.cell (j := 4) rfl
    have c5 := HT2.out.cell (j := 5) rfl
    have zc := HT2.out.lt
    have d1 := HD2.out.cell (j := 1) rfl
    have zd := HD2.out.lt
    clear ho h1 h2 hv hlx hS1 hly hS2 g1 l1 z1 g2 l2 z2
    go_wp2_with fail
    refine (HW1.out).mono ?_
    rintro e W4 ⟨hb4, f, c, ok1, rfl, hf1, hc0, hc1, hw1⟩
    have HB4 := hid (Below.step HB2.out hb4)
    have HT4 := hid (HT2.out.below hb4)
    have HD4 := hid (HD2.out.below hb4)
    have HW4 := hid (HW2.out W4 hb4)
    have HG1 := hid (written_get hw1)
    clear hb4 hw1 c0 c1 c2 c3 c4 c5 zc d1 zd HW1 HW2
    have c0 := HT4.out.cell (j := 0) rfl
    have c1 := HT4.out.cell (j := 1) rfl
    have c2 := HT4.out.cell (j := 2) rfl
    have c3 := HT4.out.cell (j := 3) rfl
    have c4 := HT4.out.cell (j := 4) rfl
    have c5 := HT4.out.cell (j := 5) rfl
    have zc := HT4.out.lt
    have d2 := HD4.out.cell (j := 2) rfl
    have zd := HD4.out.lt
    go_wp2_with fail
    refine (HW4.out).mono ?_
    rintro e W5 ⟨hb5, g, c', ok2, rfl, hf2, hc2, hc3, hw2⟩
    have HB5 := hid (Below.step HB4.out hb5)
    have HD5 := hid (HD4.out.below hb5)
    have HG2 := hid (written_get hw2)
    clear hb5 hw2 c0 c1 c2 c3 c4 c5 zc d2 zd HW4
    have u0 := HD5.out.cell (j := 0) rfl
    have u3 := HD5.out.cell (j := 3) rfl
    have zu := HD5.out.lt
    have fin : Hid (∀ r : Bool, r = Al.check ⟨S1, S2⟩ d → Gives (.bool (Al.checkOf t a x b y d)) W (.returned (.bool r)) W5) := fun r hr => ⟨ret_bool (hr.trans hno.out.symm), HB5.out⟩
    cases ok1 with
    | false =>
      have hk := hid (show false = Al.check ⟨S1, S2⟩ d by unfold Al.check; rw [HG1.out.2 rfl])
      go_wp2_with fail
      go_ret
      exact fin.out _ hk.out
    | true =>
      cases ok2 with
      | false =>
        have hk := hid (show false = Al.check ⟨S1, S2⟩ d by unfold Al.check; rw [HG1.out.1 rfl, HG2.out.2 rfl])
        go_wp2_with fail
        go_ret
        exact fin.out _ hk.out
      | true =>
        have hch := hid (show Al.check ⟨S1, S2⟩ d = (decide (f = d.form) && decide (g = d.form) && decide (c + c' = d.cost)) by unfold Al.check; rw [HG1.out.1 rfl, HG2.out.1 rfl])
        have sb1 := str_beq f d.form
        have sb2 := str_beq g d.form
        cases e1 : decide (f = d.form) with
        | false =>
          rw [e1] at sb1
          have hk := hid (show false = Al.check ⟨S1, S2⟩ d by rw [hch.out, e1]; rfl)
          clear e1 sb2
          go_wp2_with fail
          go_ret
          exact fin.out _ hk.out
        | true =>
          rw [e1] at sb1
          cases e2 : decide (g = d.form) with
          | false =>
            rw [e2] at sb2
            have hk := hid (show false = Al.check ⟨S1, S2⟩ d by rw [hch.out, e1, e2]; rfl)
            clear e1 e2
            go_wp2_with fail
            go_ret
            exact fin.out _ hk.out
          | true =>
            rw [e2] at sb2
            have hwr : IntKind.i64.wrap (c + c') = c + c' := IntWalk.i64_in _ (by omega)
            have hk := hid (show (d.cost == c + c') = Al.check ⟨S1, S2⟩ d by rw [hch.out, e1, e2]; rw [Bool.eq_iff_iff]; simp; exact eq_comm)
            clear e1 e2
            go_wp2_with fail
            go_ret
            exact fin.out _ hk.out

end Go.Proofs.YthibphklchalkaaGreatDoor
