/-
  AlignItself: the statement's function returns true. Conditions: what can be read of its arguments.
-/
import Derived.Test.YthibphklchalkaaGreatDoorZFormF
import Derived.Test.YthibphklchalkaaGreatDoorZFormG
namespace Go.Proofs.YthibphklchalkaaGreatDoor
open Go.RowKit Go.Lib Go.Maps

/-- numbers in a row -/
theorem num_cell {w : World} {v : Value} {l : List Int} (h : SlOf w v 1 numC l) (h0 : 0 < l.length) : ∃ g o c, v = .slice (some ⟨g, o, none⟩) l.length c ∧ g < w.heap.size ∧ ∀ (i : Nat) (x : Int), l[i]? = some x → w.cell? ⟨g, o + i, none⟩ = some (.int .i64 x) := by
  obtain ⟨a, c, rfl, -, -, k⟩ := h
  obtain ⟨g, o, rfl, hr⟩ := k h0
  refine ⟨g, o, c, rfl, hr.1, fun i x hi => ?_⟩
  have := hr.2 i x hi 0 _ rfl
  simpa using this

set_option maxRecDepth 100000 in
set_option maxHeartbeats 8000000 in
theorem itself_law (t : Rw.Table) (tv : Value) (a : Int) (x : List UInt8) (W : World) (ht : TableRaw W t tv) (hT : Tabs W) (hx : x.length ≤ maxLen) :
    Calls Tryz.prog 5 #[tv, .int .i64 a, .string (bs x)] W (Gives (.bool true) W) := by
  have HT := hid ht
  have HTT := hid hT
  obtain ⟨⟨vr, vd, ve, rfl, ⟨ar, cr, rfl, -⟩, ⟨ad, cd, rfl, -⟩, ⟨ae, ce, rfl, -⟩⟩, -, -, -⟩ := ht
  clear hT
  obtain ⟨W1, hW1⟩ : ∃ W1, W1 = W.alloc (.cells #[.slice ar t.rules.length cr, .slice ad t.drops.length cd, .slice ae t.ends.length ce, .int .i64 t.drop, .int .i64 t.order, .int .i64 t.initial] 25) := ⟨_, rfl⟩
  have hb1 : Below W.heap.size W W1 := by rw [hW1]; exact (Below.refl _ W).alloc (Nat.le_refl _) _
  have TB1 := hid (show Blk W1 W.heap.size 25 [.slice ar t.rules.length cr, .slice ad t.drops.length cd, .slice ae t.ends.length ce, .int .i64 t.drop, .int .i64 t.order, .int .i64 t.initial] by rw [hW1]; exact Blk.new W _ _)
  have HH := hid (head_true W1 (HTT.out.below hb1))
  have B1 := hid hb1
  clear hb1
  go_enter Tryz.func5, Tryz.ntmps5
  go_wp2_with fail
  rw [← hW1]
  clear hW1
  refine (HH.out).mono ?_
  rintro e W2 ⟨rfl, hb2⟩
  have TB2 := hid (TB1.out.below hb2)
  have B2 := hid (Below.step B1.out hb2)
  clear hb2
  have t0 := TB2.out.cell (j := 0) rfl
  have t1 := TB2.out.cell (j := 1) rfl
  have t2 := TB2.out.cell (j := 2) rfl
  have t3 := TB2.out.cell (j := 3) rfl
  have t4 := TB2.out.cell (j := 4) rfl
  have t5 := TB2.out.cell (j := 5) rfl
  have tl := TB2.out.lt
  obtain ⟨W3, hW3⟩ : ∃ W3, W3 = W2.alloc (.cells #[.string (bs x)] 9) := ⟨_, rfl⟩
  have hb3 : Below W2.heap.size W2 W3 := by rw [hW3]; exact (Below.refl _ W2).alloc (Nat.le_refl _) _
  have hw3 : W3.heap[W2.heap.size]? = some (.cells #[.string (bs x)] 9 (0, 0)) := by rw [hW3]; exact Blk.new W2 9 [.string (bs x)]
  have B3 := hid (Below.step B2.out hb3)
  have TB3 := hid (TB2.out.below hb3)
  have HF := hid (fewL_any t _ _ [x] W3 (HT.out.below B3.out) (SlOf.block (sz := 1) (cells := strC) (n := 1) hw3 rfl (fun _ _ => rfl) rfl (by decide)) (fun z hz => by
    simp at hz; subst hz; exact hx))
  clear hb3 hw3
  go_wp2_with fail
  rw [← hW3]
  clear hW3
  refine (HF.out).mono ?_
  rintro e W4 ⟨rfl, hb4⟩
  have TB4 := hid (TB3.out.below hb4)
  have B4 := hid (Below.step B3.out hb4)
  clear hb4 t0 t1 t2 t3 t4 t5 tl
  have t0 := TB4.out.cell (j := 0) rfl
  have t1 := TB4.out.cell (j := 1) rfl
  have t2 := TB4.out.cell (j := 2) rfl
  have t3 := TB4.out.cell (j := 3) rfl
  have t4 := TB4.out.cell (j := 4) rfl
  have t5 := TB4.out.cell (j := 5) rfl
  have tl := TB4.out.lt
  cases hfew : Al.fewB t [x] with
  | false =>
    go_wp2_with fail
    go_ret
    exact ⟨rfl, B4.out⟩
  | true =>
    have hx30 : x.length ≤ 30 := by
      unfold Al.fewB at hfew
      simp only [Bool.and_eq_true, List.all_cons, decide_eq_true_eq] at hfew
      exact hfew.2.1
    have TA := hid (HT.out.few hfew)
    clear hfew
    have HFO := hid (forms_any t _ a (bs x) 40 W4 (TA.out.below B4.out) (HTT.out.below B4.out) (by rw [bs_len]; omega))
    rw [bs_list] at HFO
    go_wp2_with fail
    refine (HFO.out).mono ?_
    rintro e W5 ⟨hb5, h5⟩
    have TB5 := hid (TB4.out.below hb5)
    have B5 := hid (Below.step B4.out hb5)
    have HBE := hid (best_any t _ a a (bs x) (bs x) W5 (TA.out.below B5.out) (HTT.out.below B5.out) (by rw [bs_len]; omega) (by rw [bs_len]; omega))
    rw [bs_list] at HBE
    obtain ⟨r, hr⟩ : ∃ r, r = Al.bestOf t a x a x := ⟨_, rfl⟩
    rw [← hr] at HBE
    have HR := hid hr
    clear hb5 hr t0 t1 t2 t3 t4 t5 tl HFO
    have t0 := TB5.out.cell (j := 0) rfl
    have t1 := TB5.out.cell (j := 1) rfl
    have t2 := TB5.out.cell (j := 2) rfl
    have t3 := TB5.out.cell (j := 3) rfl
    have t4 := TB5.out.cell (j := 4) rfl
    have t5 := TB5.out.cell (j := 5) rfl
    have tl := TB5.out.lt
    rcases h5 with ⟨hno, rfl⟩ | ⟨hne, hv, ⟨-, rfl⟩ | ⟨v, u, out, costs, rfl, hs1, hs2, hfo⟩⟩
    · have HE := hid (show r.2 = 1 by rw [HR.out]; exact Fo.best_noarg a x hno)
      clear hno
      go_wp2_with fail
      refine (HBE.out).mono ?_
      rintro e W6 h6
      obtain ⟨x1, m1, k1, x2, m2, k2, rfl, hda, hb6⟩ := h6.get
      rw [HE.out]
      have B6 := hid (Below.step B5.out hb6)
      have B7 := hid (B6.out.alloc B6.out.size (.cells #[.int .i64 r.1.cost, .slice x1 m1 k1, .slice x2 m2 k2, .string (bs r.1.form)] 28))
      clear hda hb6 h6
      go_wp2_with fail
      go_ret
      exact ⟨rfl, B7.out⟩
    · clear hne hv
      go_wp2_with fail
      refine (HBE.out).mono ?_
      rintro e W6 h6
      obtain ⟨x1, m1, k1, x2, m2, k2, rfl, hda, hb6⟩ := h6.get
      have B6 := hid (Below.step B5.out hb6)
      have B7 := hid (B6.out.alloc B6.out.size (.cells #[.int .i64 r.1.cost, .slice x1 m1 k1, .slice x2 m2 k2, .string (bs r.1.form)] 28))
      clear hda hb6 h6
      go_wp2_with fail
      go_ret
      exact ⟨rfl, B7.out⟩
    · have HFF := hid hfo
      have HNV := hid (And.intro hne hv)
      have HS2 := hid hs2
      obtain ⟨oa, oc, rfl, -, -, -⟩ := hs1
      obtain ⟨ua, uc, rfl, hmc, hmu, -⟩ := hs2
      have hlen := hfo.len
      obtain ⟨n, hn⟩ : ∃ n, n = out.length := ⟨_, rfl⟩
      rw [← hn] at hlen ⊢
      rw [hlen] at hmc ⊢
      have hn2 : n ≤ 9223372036854775807 := by unfold maxLen at hmu; omega
      have HN := hid (And.intro hn hlen)
      clear hne hv hfo hn hlen hmu hmc
      go_wp2_with fail
      refine (HBE.out).mono ?_
      rintro e W6 h6
      obtain ⟨x1, m1, k1, x2, m2, k2, rfl, hda, hb6⟩ := h6.get
      have B6 := hid (Below.step B5.out hb6)
      obtain ⟨W7, hW7⟩ : ∃ W7, W7 = W6.alloc (.cells #[.int .i64 r.1.cost, .slice x1 m1 k1, .slice x2 m2 k2, .string (bs r.1.form)] 28) := ⟨_, rfl⟩
      have hb7 : Below W6.heap.size W6 W7 := by rw [hW7]; exact (Below.refl _ W6).alloc (Nat.le_refl _) _
      have B7 := hid (Below.step B6.out hb7)
      have P7 := hid (show Blk W7 W6.heap.size 28 [.int .i64 r.1.cost, .slice x1 m1 k1, .slice x2 m2 k2, .string (bs r.1.form)] by rw [hW7]; exact Blk.new W6 _ _)
      have HS7 := hid (HS2.out.below (Below.step hb6 hb7))
      clear hda hb6 h6 hb7
      by_cases h0 : n = 0
      · have g0 : ((n : Int) == 0) = true := by rw [h0]; rfl
        clear h0
        go_wp2_with fail
        try rw [← hW7]
        go_ret
        try rw [← hW7]
        exact ⟨rfl, B7.out⟩
      · have g0 : ((n : Int) == 0) = false := by rw [beq_eq_false_iff_ne]; omega
        have hpos : 0 < costs.length := by rw [HN.out.2]; omega
        obtain ⟨g, o, c', he, hg, hcell⟩ := num_cell HS7.out hpos
        rw [HN.out.2] at he
        cases he
        obtain ⟨c0, hc0⟩ : ∃ c0, costs[0]? = some c0 := ⟨_, List.getElem?_eq_getElem hpos⟩
        have y0 := hcell 0 c0 hc0
        rw [Nat.add_zero] at y0
        have HCE := hid (And.intro hg hcell)
        have HC0 := hid hc0
        have n0 : (0 : Int) < (n : Int) := by omega
        clear hcell hc0 hpos
        go_upto_region 6 with (fail)
        rw [← hW7]
        clear hW7
        go_wp2_with fail
        go_loop [13, 14] (fun lv iv => ∃ (i : Nat) (least : Int), 1 ≤ i ∧ i ≤ n ∧ iv = .int .i64 i ∧ lv = .int .i64 least ∧ Hid (Fo.Least (fun c => c ∈ costs.take i) least)) (fun _ iv => n - (RowKit.intOf iv).toNat)
        case atStart => exact ⟨1, c0, by omega, by omega, rfl, rfl, Fo.least_first HC0.out⟩
        case round =>
          obtain ⟨i, least, hi1, hin, rfl, rfl, HLE⟩ := hrel
          by_cases hlt : i < n
          · obtain ⟨c, hc⟩ : ∃ c, costs[i]? = some c := ⟨_, List.getElem?_eq_getElem (by rw [HN.out.2]; exact hlt)⟩
            have y1 := HCE.out.2 i c hc
            have i0 : (0 : Int) ≤ (i : Int) := by omega
            have i1 : (i : Int) < (n : Int) := by omega
            have HNX := hid (Fo.least_next hc HLE.out)
            clear hc
            go_wp2_with fail
            go_round
            case rel => exact ⟨i + 1, _, by omega, by omega, by go_num, rfl, HNX.out⟩
            case measure => simp [RowKit.intOf]; omega
          · have i1 : ¬ (i : Int) < (n : Int) := by omega
            have hres := Fo.itself_plain HNV.out.1 HNV.out.2 HFF.out (least := least) (by
              have h := HLE.out
              rwa [List.take_of_length_le (by rw [HN.out.2]; omega)] at h)
            rw [← HR.out] at hres
            have hcb := Fo.forms_cost (Fo.good_rules HNV.out.2 a) (Fo.letters_len a x) HFF.out (k := 0) HC0.out
            have hm := HLE.out.1
            obtain ⟨z, hz⟩ := List.mem_iff_getElem?.1 (List.mem_of_mem_take hm)
            have hcb2 := Fo.forms_cost (Fo.good_rules HNV.out.2 a) (Fo.letters_len a x) HFF.out hz
            have e1 : (r.2 == 0) = true := by rw [hres.1]; rfl
            have e2 : (r.1.cost == 2 * least) = true := by rw [hres.2]; simp
            have e3 : IntKind.i64.wrap (2 * least) = 2 * least := IntWalk.i64_in _ (by omega)
            have p0 := P7.out.cell (j := 0) rfl
            have pl := P7.out.lt
            clear hres hm hz
            go_wp2_with fail
            go_ret
            exact ⟨rfl, B7.out⟩

end Go.Proofs.YthibphklchalkaaGreatDoor
