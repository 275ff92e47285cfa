/-
  The reference's Same. Conditions: lengths.
-/
import Derived.Test.YteogmlgmodeajaaGreatDoorZFa15
import Derived.OwnWalk
import Derived.BigRegion
namespace Go.Proofs.YteogmlgmodeajaaGreatDoor
open Go.RowKit Go.Lib Go.Maps

set_option maxRecDepth 100000 in
set_option maxHeartbeats 8000000 in
theorem same_any (a b : Fa.Dom) (va vb : Value) (w : World) (ha : SlOf w va 4 factC a) (hb : SlOf w vb 4 factC b) : Calls Tryz.prog 22 #[.agg #[va], .agg #[vb]] w (Gives (.bool (decide (a = b))) w) := by
  obtain ⟨W2, hW2⟩ : ∃ W2, W2 = (w.alloc (.cells #[va] 24)).alloc (.cells #[vb] 24) := ⟨_, rfl⟩
  have hb2 : Below w.heap.size w W2 := by rw [hW2]; exact Below.step (below_new w _) (below_new _ _)
  have hA2 : One W2 w.heap.size 24 va := by rw [hW2]; exact (One.new w _ _).below (below_new _ _)
  have hB2 : One W2 (w.heap.size + 1) 24 vb := by
    rw [hW2]
    have := One.new (w.alloc (.cells #[va] 24)) 24 vb
    simpa using this
  have HA2 := hid hA2
  have HB2 := hid hB2
  have HBW := hid hb2
  have HSA := hid ha
  have HSB := hid hb
  obtain ⟨aa, ca, rfl, k1, k2, -⟩ := ha
  obtain ⟨ab, cb, rfl, k3, k4, -⟩ := hb
  have hl1 : a.length ≤ 9223372036854775807 := by unfold maxLen at k2; omega
  have hl2 : b.length ≤ 9223372036854775807 := by unfold maxLen at k4; omega
  clear k1 k2 k3 k4 hb2 hA2 hB2
  go_enter Tryz.func22, Tryz.ntmps22
  go_upto_region 1 with (fail)
  rw [← hW2]
  clear hW2
  have c1 := HA2.out.cell
  have z1 := HA2.out.lt
  have c2 := HB2.out.cell
  have z2 := HB2.out.lt
  by_cases hl : a.length = b.length
  · have hlb : ((a.length : Int) != (b.length : Int)) = false := by rw [hl]; simp
    have HL := hid hl
    clear hl
    go_wp2_with fail
    go_loopw [5] (fun iv wr => ∃ k : Nat, k ≤ a.length ∧ iv = .int .i64 k ∧ Hid (a.take k = b.take k) ∧ Hid (Below W2.heap.size W2 wr)) (fun iv _ => a.length - (RowKit.intOf iv).toNat)
    case atStart => exact ⟨0, Nat.zero_le _, rfl, by simp [Hid], Below.refl _ _⟩
    case round =>
      obtain ⟨k, hk, rfl, HK, HR⟩ := hrel
      have HRW := hid (Below.step HBW.out HR.out)
      clear c1 z1 c2 z2
      have c1 := (HA2.out.below HR.out).cell
      have z1 := (HA2.out.below HR.out).lt
      have c2 := (HB2.out.below HR.out).cell
      have z2 := (HB2.out.below HR.out).lt
      by_cases hlt : k < a.length
      · obtain ⟨x, hx⟩ : ∃ x, a[k]? = some x := ⟨_, List.getElem?_eq_getElem hlt⟩
        obtain ⟨y, hy⟩ : ∃ y, b[k]? = some y := ⟨_, List.getElem?_eq_getElem (by rw [← HL.out]; exact hlt)⟩
        obtain ⟨g1, o1, rfl, hg1, e0, e1, e2, e3⟩ := fact_cells HSA.out hx HRW.out
        obtain ⟨g2, o2, rfl, hg2, f0, f1, f2, f3⟩ := fact_cells HSB.out hy HRW.out
        have hk0 : (0 : Int) ≤ (k : Int) := by omega
        have hk1 : (k : Int) < (a.length : Int) := by omega
        have hk2 : (k : Int) < (b.length : Int) := by have := HL.out; omega
        have HX := hid hx
        have HY := hid hy
        clear hx hy
        have hw1 : w.heap.size < wr.heap.size := z1
        have hw2 : w.heap.size + 1 < wr.heap.size := z2
        by_cases he : x = y
        · subst he
          have HT := hid (take_same HX.out HY.out HK.out)
          go_wp2_with fail
          go_region
          go_wp2_with fail
          go_roundw
          case rel => exact ⟨k + 1, by omega, by go_num, HT, Below.step HR.out (Below.drewQ _ _)⟩
          case measure => simp [RowKit.intOf]; omega
        · have HE := hid (decide_eq_false (ne_at HX.out HY.out he))
          by_cases t0 : (bs x.name).toList = (bs y.name).toList
          · by_cases t1 : x.kind = y.kind
            · by_cases t2 : x.lo = y.lo
              · by_cases t3 : x.hi = y.hi
                · exfalso
                  apply he
                  obtain ⟨n1, k1, l1, h1⟩ := x
                  obtain ⟨n2, k2, l2, h2⟩ := y
                  simp only at t0 t1 t2 t3
                  have hn : n1 = n2 := by
                    have h3 := name_beq n1 n2
                    rw [beq_iff_eq.2 t0] at h3
                    exact of_decide_eq_true h3.symm
                  rw [hn, t1, t2, t3]
                · clear he HX HY
                  go_wp2_with fail
                  go_region
                  go_wp2_with fail
                  go_ret
                  exact ⟨ret_bool HE.out.symm, Below.step HRW.out (Below.drewQ _ _)⟩
              · clear he HX HY
                go_wp2_with fail
                go_region
                go_wp2_with fail
                go_ret
                exact ⟨ret_bool HE.out.symm, Below.step HRW.out (Below.drewQ _ _)⟩
            · clear he HX HY
              go_wp2_with fail
              go_region
              go_wp2_with fail
              go_ret
              exact ⟨ret_bool HE.out.symm, Below.step HRW.out (Below.drewQ _ _)⟩
          · clear he HX HY
            go_wp2_with fail
            go_region
            go_wp2_with fail
            go_ret
            exact ⟨ret_bool HE.out.symm, Below.step HRW.out (Below.drewQ _ _)⟩
      · have HE := hid (show a = b from by
          have h1 := HK.out
          rw [List.take_of_length_le (by omega), List.take_of_length_le (by have := HL.out; omega)] at h1
          exact h1)
        go_wp2_with fail
        go_ret
        exact ⟨ret_bool (decide_eq_true HE.out).symm, HRW.out⟩
  · have hlb : ((a.length : Int) != (b.length : Int)) = true := by rw [bne_iff_ne]; omega
    have HE := hid (show decide (a = b) = false from decide_eq_false fun e => hl (by rw [e]))
    clear hl
    go_wp2_with fail
    go_ret
    exact ⟨ret_bool HE.out.symm, HBW.out⟩

end Go.Proofs.YteogmlgmodeajaaGreatDoor
