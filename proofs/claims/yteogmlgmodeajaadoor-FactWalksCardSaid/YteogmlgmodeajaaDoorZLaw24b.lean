/-
  FactWalks: the statement's function returns true. Conditions: what can be read of its arguments; the table of powers.
-/
import Derived.Test.YteogmlgmodeajaaDoorZFa15
import Derived.OwnWalk
namespace Go.Proofs.YteogmlgmodeajaaDoor
open Go.RowKit Go.Lib Go.Maps

/-- so far all stand at their greatest -/
def lastTo (d : Fa.Dom) (a : List Int) (k : Nat) : Bool := decide (∀ p ∈ (d.zip a).take k, p.2 = p.1.hi)
theorem lastTo_step {d : Fa.Dom} {a : List Int} {k : Nat} {f : Fa.Fact} {x : Int} (hf : d[k]? = some f) (hx : a[k]? = some x) : lastTo d a (k + 1) = (lastTo d a k && decide (x = f.hi)) := by
  unfold lastTo
  rw [take_snoc (x := (f, x)) (by rw [List.getElem?_zip_eq_some]; exact ⟨hf, hx⟩), Bool.eq_iff_iff]
  simp only [decide_eq_true_eq, Bool.and_eq_true, List.mem_append, List.mem_singleton]
  constructor
  · intro h
    exact ⟨fun p hp => h p (.inl hp), h (f, x) (.inr rfl)⟩
  · rintro ⟨h1, h2⟩ p (hp | rfl)
    · exact h1 p hp
    · exact h2
theorem lastTo_zero (d : Fa.Dom) (a : List Int) : lastTo d a 0 = true := by unfold lastTo; simp
theorem lastTo_all {d : Fa.Dom} {a : List Int} (h : a.length = d.length) : lastTo d a a.length = decide (∀ p ∈ d.zip a, p.2 = p.1.hi) := by
  unfold lastTo
  rw [List.take_of_length_le (by rw [List.length_zip]; omega)]

set_option maxRecDepth 100000 in
set_option maxHeartbeats 8000000 in
theorem walks_law (d : Fa.Dom) (a b : List Int) (v va vb : Value) (w : World) (h : SlOf w v 4 factC d) (has : SlOf w va 1 numC a) (hbs : SlOf w vb 1 numC b) (hT : Tab10 w) : Calls Tryd.prog 6 #[.agg #[v], va, vb] w (Gives (.bool true) w) := by
  obtain ⟨W2, hW2⟩ : ∃ W2, W2 = w.alloc (.cells #[v] 24) := ⟨_, rfl⟩
  have hb2 : Below w.heap.size w W2 := by rw [hW2]; exact (Below.refl _ w).alloc (Nat.le_refl _) _
  have H2 := hid (show HdW' w W2 w.heap.size v d from ⟨by rw [hW2]; exact One.new w _ _, h.below hb2, hT.below hb2, hb2⟩)
  have HA2 := hid (has.below hb2)
  have HB2 := hid (hbs.below hb2)
  obtain ⟨vd, cap, rfl, k1, k2, -⟩ := h
  obtain ⟨aa, ca, rfl, k3, k4, -⟩ := has
  obtain ⟨ab, cb, rfl, k5, k6, -⟩ := hbs
  have hl1 : a.length ≤ 9223372036854775807 := by unfold maxLen at k4; omega
  have hl2 : b.length ≤ 9223372036854775807 := by unfold maxLen at k6; omega
  clear hb2 hT k1 k2 k3 k4 k5 k6
  go_enter Tryd.func6, Tryd.ntmps6
  go_upto_region 1 with (fail)
  rw [← hW2]
  clear hW2
  go_wp2_with fail
  refine (head_true W2 H2.out.tab).mono ?_
  rintro e w3 ⟨rfl, hb3⟩
  have H3 := hid (H2.out.step hb3)
  have HA3 := hid (HA2.out.below hb3)
  have HB3 := hid (HB2.out.below hb3)
  clear hb3
  have c3 := H3.out.one.cell
  have z3 := H3.out.one.lt
  go_wp2_with fail
  refine (few_any d a _ _ w3 H3.out.sl HA3.out).mono ?_
  rintro e w4 ⟨rfl, hb4⟩
  have H4 := hid (H3.out.step hb4)
  have HA4 := hid (HA3.out.below hb4)
  have HB4 := hid (HB3.out.below hb4)
  clear hb4 c3 z3
  cases hfw : (fewD d && decide (a.length ≤ 70)) with
  | false =>
    go_wp2_with fail
    go_ret
    exact ⟨rfl, H4.out.below⟩
  | true =>
    have hfd : fewD d = true ∧ a.length ≤ 70 := by simpa using hfw
    obtain ⟨hd70, hn100⟩ := fewD_parts hfd.1
    have ha70 := hfd.2
    clear hfw hfd
    have HN := hid (show ∀ f ∈ d, f.name.length ≤ 5000 from fun f hf => Nat.le_trans (hn100 f hf) (by decide))
    have hd5 : d.length ≤ 5000 := by omega
    clear hn100
    have c4 := H4.out.one.cell
    have z4 := H4.out.one.lt
    by_cases hbl : b.length ≤ 70
    · have d1 : decide ((70 : Int) < (b.length : Int)) = false := decide_eq_false (by omega)
      go_wp2_with fail
      refine (factFits_any d a _ _ w4 H4.out.sl HA4.out HN.out hd5).mono ?_
      rintro e w5 ⟨rfl, hb5⟩
      have H5 := hid (H4.out.step hb5)
      have HA5 := hid (HA4.out.below hb5)
      have HB5 := hid (HB4.out.below hb5)
      clear hb5 c4 z4
      cases hft : Fa.fits d a with
      | false =>
        go_wp2_with fail
        go_ret
        exact ⟨rfl, H5.out.below⟩
      | true =>
        have HFA := hid hft
        clear hft
        have c5 := H5.out.one.cell
        have z5 := H5.out.one.lt
        go_wp2_with fail
        refine (factFits_any d b _ _ w5 H5.out.sl HB5.out HN.out hd5).mono ?_
        rintro e w6 ⟨rfl, hb6⟩
        have H6 := hid (H5.out.step hb6)
        have HA6 := hid (HA5.out.below hb6)
        have HB6 := hid (HB5.out.below hb6)
        clear hb6 c5 z5
        cases hft : Fa.fits d b with
        | false =>
          go_wp2_with fail
          go_ret
          exact ⟨rfl, H6.out.below⟩
        | true =>
          have HFB := hid hft
          clear hft
          obtain ⟨l1, l2, l3, l4, l5⟩ := Fa.next_laws HFA.out
          have L1 := hid l1
          have L2 := hid l2
          have L3 := hid l3
          have L4 := hid l4
          have L5 := hid l5
          clear l1 l2 l3 l4 l5
          have c6 := H6.out.one.cell
          have z6 := H6.out.one.lt
          go_wp2_with fail
          refine (factLeast_any d _ w6 H6.out.sl HN.out hd5).mono ?_
          rintro e w7 hp
          obtain ⟨a7, k7, rfl, hs7, hb7⟩ := hp.sl
          have H7 := hid (H6.out.step hb7)
          have HA7 := hid (HA6.out.below hb7)
          have HB7 := hid (HB6.out.below hb7)
          have HL7 := hid hs7
          clear hp hs7 hb7 c6 z6
          have c7 := H7.out.one.cell
          have z7 := H7.out.one.lt
          go_wp2_with fail
          refine (factFits_any d (Fa.least d) _ _ w7 H7.out.sl HL7.out HN.out hd5).mono ?_
          rw [L4.out]
          rintro e w8 ⟨rfl, hb8⟩
          have H8 := hid (H7.out.step hb8)
          have HA8 := hid (HA7.out.below hb8)
          have HB8 := hid (HB7.out.below hb8)
          have HL8 := hid (HL7.out.below hb8)
          clear hb8 c7 z7
          go_wp2_with fail
          refine (less_any a (Fa.least d) _ _ w8 HA8.out HL8.out).mono ?_
          rw [L5.out]
          rintro e w9 ⟨rfl, hb9⟩
          have H9 := hid (H8.out.step hb9)
          have HA9 := hid (HA8.out.below hb9)
          have HB9 := hid (HB8.out.below hb9)
          clear hb9
          have c9 := H9.out.one.cell
          have z9 := H9.out.one.lt
          have HLEN := hid (show a.length = d.length from (Fa.fits_parts HFA.out).2.1)
          have hdl : d.length ≤ 9223372036854775807 := by omega
          go_wp2_with fail
          go_loopw [9, 10] (fun lv iv wr => ∃ k : Nat, k ≤ a.length ∧ iv = .int .i64 k ∧ lv = .bool (lastTo d a k) ∧ Hid (Below w9.heap.size w9 wr)) (fun _ iv _ => a.length - (RowKit.intOf iv).toNat)
          case atStart => exact ⟨0, Nat.zero_le _, rfl, by rw [lastTo_zero], Below.refl _ _⟩
          case round =>
            obtain ⟨k, hk, rfl, rfl, HR⟩ := hrel
            have HB10 := hid (H9.out.step HR.out)
            clear c9 z9
            have c10 := HB10.out.one.cell
            have z10 := HB10.out.one.lt
            by_cases hlt : k < a.length
            · obtain ⟨f, hf⟩ : ∃ f, d[k]? = some f := ⟨_, List.getElem?_eq_getElem (by rw [← HLEN.out]; exact hlt)⟩
              obtain ⟨x, hx⟩ : ∃ x, a[k]? = some x := ⟨_, List.getElem?_eq_getElem hlt⟩
              obtain ⟨g, o, rfl, hg, e0, e1, e2, e3⟩ := fact_cells H9.out.sl hf HR.out
              obtain ⟨g2, o2, rfl, hg2, y0⟩ := num_cell HA9.out hx HR.out
              have hk0 : (0 : Int) ≤ (k : Int) := by omega
              have hk1 : (k : Int) < (a.length : Int) := by omega
              have hk2 : (k : Int) < (d.length : Int) := by rw [← HLEN.out]; omega
              have HS := hid (lastTo_step hf hx)
              clear hf hx
              cases hq : lastTo d a k with
              | false =>
                rw [hq] at HS
                go_wp2_with fail
                go_quiet (fail)
                go_wp2_with fail
                go_roundw
                case rel => exact ⟨k + 1, by omega, by go_num, by rw [HS.out]; rfl, Below.step HR.out (Below.drewQ _ _)⟩
                case measure => simp [RowKit.intOf]; omega
              | true =>
                rw [hq] at HS
                go_wp2_with fail
                go_quiet (fail)
                go_wp2_with fail
                go_roundw
                case rel => exact ⟨k + 1, by omega, by go_num, by rw [HS.out, Bool.true_and]; rfl, Below.step HR.out (Below.drewQ _ _)⟩
                case measure => simp [RowKit.intOf]; omega
            · have hke : k = a.length := by omega
              subst hke
              rw [lastTo_all HLEN.out]
              have HA10 := hid (HA9.out.below HR.out)
              have HBB10 := hid (HB9.out.below HR.out)
              have HNX := hid (factNext_any d a _ _ wr HB10.out.sl HA10.out HN.out hd5)
              cases hnx : Fa.next d a with
              | none =>
                rw [hnx] at HNX
                rw [decide_eq_true (L1.out.1 hnx)]
                have hlf : Fa.less a b = false := by
                  rw [Bool.eq_false_iff]
                  intro e
                  obtain ⟨n, hn, -⟩ := L3.out b HFB.out e
                  rw [hnx] at hn
                  cases hn
                have HLF := hid hlf
                clear hnx hlf
                go_wp2_with fail
                refine (HNX.out).mono ?_
                rintro e w11 ⟨rfl, hb11⟩
                have HA11 := hid (HA10.out.below hb11)
                have HB11 := hid (HBB10.out.below hb11)
                have HX11 := hid (Below.step HB10.out.below hb11)
                clear hb11
                go_wp2_with fail
                refine (less_any a b _ _ w11 HA11.out HB11.out).mono ?_
                rw [HLF.out]
                rintro e w12 ⟨rfl, hb12⟩
                go_wp2_with fail
                go_ret
                exact ⟨rfl, Below.step HX11.out hb12⟩
              | some n =>
                rw [hnx] at HNX
                obtain ⟨m1, m2⟩ := L2.out n hnx
                rw [decide_eq_false (fun e => by rw [L1.out.2 e] at hnx; cases hnx)]
                have M1 := hid m1
                have M2 := hid m2
                have M3 := hid (show Fa.less a b = true → Fa.less b n = false from fun e => by
                  obtain ⟨n', hn', h'⟩ := L3.out b HFB.out e
                  rw [hnx] at hn'
                  cases hn'
                  exact h')
                clear hnx m1 m2
                go_wp2_with fail
                refine (HNX.out).mono ?_
                rintro e w11 hp
                obtain ⟨a11, k11, rfl, hs11, hb11⟩ := hp.sl
                have H11 := hid (HB10.out.step hb11)
                have HA11 := hid (HA10.out.below hb11)
                have HB11 := hid (HBB10.out.below hb11)
                have HN11 := hid hs11
                clear hp hs11 hb11 c10 z10
                have c11 := H11.out.one.cell
                have z11 := H11.out.one.lt
                go_wp2_with fail
                refine (factFits_any d n _ _ w11 H11.out.sl HN11.out HN.out hd5).mono ?_
                rw [M1.out]
                rintro e w12 ⟨rfl, hb12⟩
                have H12 := hid (H11.out.step hb12)
                have HA12 := hid (HA11.out.below hb12)
                have HB12 := hid (HB11.out.below hb12)
                have HN12 := hid (HN11.out.below hb12)
                clear hb12 c11 z11
                go_wp2_with fail
                refine (less_any a n _ _ w12 HA12.out HN12.out).mono ?_
                rw [M2.out]
                rintro e w13 ⟨rfl, hb13⟩
                have H13 := hid (H12.out.step hb13)
                have HA13 := hid (HA12.out.below hb13)
                have HB13 := hid (HB12.out.below hb13)
                have HN13 := hid (HN12.out.below hb13)
                clear hb13
                go_wp2_with fail
                refine (less_any a b _ _ w13 HA13.out HB13.out).mono ?_
                rintro e w14 ⟨rfl, hb14⟩
                have H14 := hid (H13.out.step hb14)
                have HB14 := hid (HB13.out.below hb14)
                have HN14 := hid (HN13.out.below hb14)
                clear hb14
                cases hq : Fa.less a b with
                | false =>
                  go_wp2_with fail
                  go_ret
                  exact ⟨rfl, H14.out.below⟩
                | true =>
                  have M4 := hid (M3.out hq)
                  go_wp2_with fail
                  refine (less_any b n _ _ w14 HB14.out HN14.out).mono ?_
                  rw [M4.out]
                  rintro e w15 ⟨rfl, hb15⟩
                  go_wp2_with fail
                  go_ret
                  exact ⟨rfl, Below.step H14.out.below hb15⟩
    · have d1 : decide ((70 : Int) < (b.length : Int)) = true := decide_eq_true (by omega)
      go_wp2_with fail
      go_ret
      exact ⟨rfl, H4.out.below⟩

end Go.Proofs.YteogmlgmodeajaaDoor
