/-
  The reference's Ints, Same, Few; the statements' table, is, few. Conditions: lengths.
-/
import Derived.Test.YthibphklchalkaaGreatDoorZAl10
namespace Go.Proofs.YthibphklchalkaaGreatDoor
open Go.RowKit Go.Lib Go.Maps

set_option maxRecDepth 100000 in
set_option maxHeartbeats 2000000 in
theorem ints_any (l m : List Int) (v u : Value) (W : World) (h1 : SlOf W v 1 intC l) (h2 : SlOf W u 1 intC m) : Calls Tryz.prog 25 #[v, u] W (Gives (.bool (decide (l = m))) W) := by
  obtain ⟨a, c, rfl, b1, b2, b3⟩ := h1
  obtain ⟨a', c', rfl, d1, d2, d3⟩ := h2
  unfold maxLen at b2 d2
  by_cases hl : l.length = m.length
  · have H1 := hid b3
    have H2 := hid d3
    have HL := hid hl
    have hne : ((l.length : Int) != (m.length : Int)) = false := by rw [hl]; simp
    clear b3 d3 hl
    go_enter Tryz.func25, Tryz.ntmps25
    go_wp2_with fail
    go_loopw [5] (fun i wr => ∃ n : Nat, n ≤ l.length ∧ i = .int .i64 n ∧ l.take n = m.take n ∧ Below W.heap.size W wr) (fun i _ => l.length - (intOf i).toNat)
    case atStart => exact ⟨0, Nat.zero_le _, rfl, by simp, Below.refl _ _⟩
    case round =>
      obtain ⟨n, hn, rfl, he, hb⟩ := hrel
      by_cases hlt : n < l.length
      · obtain ⟨g, o, rfl, hr⟩ := H1.out (by omega)
        obtain ⟨g', o', rfl, hr'⟩ := H2.out (by rw [← HL.out]; omega)
        obtain ⟨x, hx⟩ : ∃ x, l[n]? = some x := ⟨_, List.getElem?_eq_getElem hlt⟩
        obtain ⟨y, hy⟩ : ∃ y, m[n]? = some y := ⟨_, List.getElem?_eq_getElem (by rw [← HL.out]; exact hlt)⟩
        have c0 := (hr.below hb).2 n x hx 0 _ rfl
        have c1 := (hr'.below hb).2 n y hy 0 _ rfl
        rw [Nat.add_zero, Nat.mul_one] at c0 c1
        have hn0 : (0 : Int) ≤ (n : Int) := by omega
        have hn1 : (n : Int) < (l.length : Int) := by omega
        have hn2 : (n : Int) < (m.length : Int) := by rw [← HL.out]; omega
        have HX := hid (And.intro hx hy)
        have HE := hid he
        have HB := hid hb
        clear hr hr' hx hy he hb
        by_cases hxy : x = y
        · have hq : (x != y) = false := by simpa using hxy
          have HXY := hid hxy
          clear hxy
          go_wp2_with fail
          go_quiet (fail)
          go_wp2_with fail
          go_roundw
          case rel =>
            refine ⟨n + 1, by omega, by go_num, ?_, HB.out.trans ((Below.drewQ _ _).mono HB.out.size)⟩
            obtain ⟨k1, e1⟩ := List.getElem?_eq_some_iff.1 HX.out.1
            obtain ⟨k2, e2⟩ := List.getElem?_eq_some_iff.1 HX.out.2
            rw [List.take_succ_eq_append_getElem k1, List.take_succ_eq_append_getElem k2, e1, e2, HE.out, HXY.out]
          case measure => simp [intOf]; omega
        · have hq : (x != y) = true := by simpa using hxy
          have HXY := hid hxy
          clear hxy
          go_wp2_with fail
          go_quiet (fail)
          go_wp2_with fail
          go_ret
          refine ⟨ret_bool (Eq.symm (decide_eq_false (fun e => HXY.out ?_))), HB.out.trans ((Below.drewQ _ _).mono HB.out.size)⟩
          have := HX.out.1
          rw [e, HX.out.2] at this
          exact (Option.some.inj this).symm
      · have hne : n = l.length := by omega
        subst hne
        have HE := hid he
        have HB := hid hb
        clear he hb
        go_wp2_with fail
        go_ret
        refine ⟨ret_bool (Eq.symm (decide_eq_true ?_)), HB.out⟩
        have := HE.out
        rwa [List.take_length, HL.out, List.take_length] at this
  · have hne : ((l.length : Int) != (m.length : Int)) = true := by simp; omega
    have HL := hid hl
    clear hl b3 d3
    go_enter Tryz.func25, Tryz.ntmps25
    go_wp2_with fail
    go_ret
    exact ⟨ret_bool (Eq.symm (decide_eq_false (fun e => HL.out (by rw [e])))), Below.refl _ _⟩

set_option maxRecDepth 100000 in
set_option maxHeartbeats 2000000 in
theorem same_any (d d' : Al.D) (v v' : List Value) (W : World) (h : DerAt W d v) (h' : DerAt W d' v') : Calls Tryz.prog 10 #[.agg v.toArray, .agg v'.toArray] W (Gives (.bool (decide (d = d'))) W) := by
  obtain ⟨lv, rv, rfl, h1, h2⟩ := h
  obtain ⟨lv', rv', rfl, h1', h2'⟩ := h'
  have H1 := hid h1
  have H2 := hid h2
  have H1' := hid h1'
  have H2' := hid h2'
  obtain ⟨a1, c1, rfl, -⟩ := h1
  obtain ⟨a2, c2, rfl, -⟩ := h2
  obtain ⟨a1', c1', rfl, -⟩ := h1'
  obtain ⟨a2', c2', rfl, -⟩ := h2'
  obtain ⟨W1, hW1⟩ : ∃ W1, W1 = (W.alloc (.cells #[.int .i64 d.cost, .slice a1 d.left.length c1, .slice a2 d.right.length c2, .string (bs d.form)] 28)).alloc (.cells #[.int .i64 d'.cost, .slice a1' d'.left.length c1', .slice a2' d'.right.length c2', .string (bs d'.form)] 28) := ⟨_, rfl⟩
  have hb1 : Below W.heap.size W W1 := by rw [hW1]; exact ((Below.refl _ W).alloc (Nat.le_refl _) _).alloc (by simp) _
  have hd1 : W1.heap[W.heap.size]? = some (.cells #[.int .i64 d.cost, .slice a1 d.left.length c1, .slice a2 d.right.length c2, .string (bs d.form)] 28 (0, 0)) := by
    rw [hW1]; exact (Below.heap_alloc _ _ _ (by simp)).trans (World.alloc_heap_new W _)
  have hd2 : W1.heap[W.heap.size + 1]? = some (.cells #[.int .i64 d'.cost, .slice a1' d'.left.length c1', .slice a2' d'.right.length c2', .string (bs d'.form)] 28 (0, 0)) := by
    rw [hW1]
    have := World.alloc_heap_new (W.alloc (.cells #[.int .i64 d.cost, .slice a1 d.left.length c1, .slice a2 d.right.length c2, .string (bs d.form)] 28)) (.cells #[.int .i64 d'.cost, .slice a1' d'.left.length c1', .slice a2' d'.right.length c2', .string (bs d'.form)] 28)
    rwa [World.size_alloc] at this
  have hB1 := hid hb1
  have HI1 := hid (ints_any d.left d'.left _ _ W1 (H1.out.below hb1) (H1'.out.below hb1))
  have hsb := str_beq d.form d'.form
  have heq := hid (show decide (d = d') = (decide (d.cost = d'.cost) && decide (d.form = d'.form) && decide (d.left = d'.left) && decide (d.right = d'.right)) by
    obtain ⟨a, b, c, e⟩ := d
    obtain ⟨a', b', c', e'⟩ := d'
    rw [Bool.eq_iff_iff]
    simp only [Al.D.mk.injEq, decide_eq_true_eq, Bool.and_eq_true]
    exact ⟨fun ⟨h1, h2, h3, h4⟩ => ⟨⟨⟨h1, h4⟩, h2⟩, h3⟩, fun ⟨⟨⟨h1, h4⟩, h2⟩, h3⟩ => ⟨h1, h2, h3, h4⟩⟩)
  have HD := hid (And.intro hd1 hd2)
  clear hb1 hd1 hd2
  cases e1 : decide (d.cost = d'.cost) with
  | false =>
    have hc : (d.cost == d'.cost) = false := by simpa using e1
    have hk := hid (show false = decide (d = d') by rw [heq.out, e1]; rfl)
    clear e1 hsb
    go_enter Tryz.func10, Tryz.ntmps10
    go_wp2_with fail
    go_ret
    rw [← hW1]
    exact ⟨ret_bool hk.out, hB1.out⟩
  | true =>
    have hc : (d.cost == d'.cost) = true := by simpa using e1
    cases e2 : decide (d.form = d'.form) with
    | false =>
      rw [e2] at hsb
      have hk := hid (show false = decide (d = d') by rw [heq.out, e1, e2]; rfl)
      clear e1 e2
      go_enter Tryz.func10, Tryz.ntmps10
      go_wp2_with fail
      go_ret
      rw [← hW1]
      exact ⟨ret_bool hk.out, hB1.out⟩
    | true =>
      rw [e2] at hsb
      cases e3 : decide (d.left = d'.left) with
      | false =>
        have hk := hid (show false = decide (d = d') by rw [heq.out, e1, e2, e3]; rfl)
        rw [e3] at HI1
        clear e1 e2 e3
        go_enter Tryz.func10, Tryz.ntmps10
        go_wp2_with fail
        rw [← hW1]
        refine (HI1.out).mono ?_
        rintro e w2 ⟨rfl, hb2⟩
        have HB2 := hid (hB1.out.trans (hb2.mono hB1.out.size))
        clear hb2
        go_wp2_with fail
        go_ret
        exact ⟨ret_bool hk.out, HB2.out⟩
      | true =>
        have hk := hid (show decide (d.right = d'.right) = decide (d = d') by rw [heq.out, e1, e2, e3]; rfl)
        rw [e3] at HI1
        clear e1 e2 e3
        go_enter Tryz.func10, Tryz.ntmps10
        go_wp2_with fail
        rw [← hW1]
        refine (HI1.out).mono ?_
        rintro e w2 ⟨rfl, hb2⟩
        have hd1 := (hb2.block _ (Array.getElem?_eq_some_iff.1 HD.out.1).1).trans HD.out.1
        have hd2 := (hb2.block _ (Array.getElem?_eq_some_iff.1 HD.out.2).1).trans HD.out.2
        have x2 : w2.cell? ⟨W.heap.size, 2, none⟩ = some (.slice a2 d.right.length c2) := by simp [World.cell?, hd1]
        have y2 : w2.cell? ⟨W.heap.size + 1, 2, none⟩ = some (.slice a2' d'.right.length c2') := by simp [World.cell?, hd2]
        have HB2 := hid (hB1.out.trans (hb2.mono hB1.out.size))
        have HI2 := hid (ints_any d.right d'.right _ _ w2 (H2.out.below HB2.out) (H2'.out.below HB2.out))
        clear hb2 hd1 hd2
        go_wp2_with fail
        refine (HI2.out).mono ?_
        rintro e w3 ⟨rfl, hb3⟩
        have HB3 := hid (HB2.out.trans (hb3.mono HB2.out.size))
        clear hb3
        go_wp2_with fail
        go_ret
        exact ⟨ret_bool hk.out, HB3.out⟩

end Go.Proofs.YthibphklchalkaaGreatDoor
