/-
  fact.Fits, fact.Least. Conditions: lengths of names and of the domain.
-/
import Derived.Test.YteogmlgmodeajaaGreatDoorZFa2
import Derived.Test.YteogmlgmodeajaaGreatDoorZMFaP
import Derived.OwnWalk
namespace Go.Proofs.YteogmlgmodeajaaGreatDoor
open Go.RowKit Go.Maps

/-- a fact of a slice, its cells -/
theorem fact_cells {w wr : World} {va : Option Addr} {cap k : Nat} {d : Fa.Dom} {f : Fa.Fact} (h : SlOf w (.slice va d.length cap) 4 factC d) (hk : d[k]? = some f) (hb : Below w.heap.size w wr) :
    ∃ g o, va = some ⟨g, o, none⟩ ∧ g < wr.heap.size ∧ wr.cell? ⟨g, o + k * 4, none⟩ = some (.string (bs f.name)) ∧ wr.cell? ⟨g, o + k * 4 + 1, none⟩ = some (.int .i64 f.kind) ∧ wr.cell? ⟨g, o + k * 4 + 2, none⟩ = some (.int .i64 f.lo) ∧ wr.cell? ⟨g, o + k * 4 + 3, none⟩ = some (.int .i64 f.hi) := by
  obtain ⟨a', cap', ea, _, _, h4⟩ := h
  cases ea
  obtain ⟨g, o, rfl, hr⟩ := h4 (by have := (List.getElem?_eq_some_iff.1 hk).1; omega)
  have hc := (hr.below hb).2 k f hk
  have e0 := hc 0 _ rfl
  rw [Nat.add_zero] at e0
  exact ⟨g, o, rfl, (hr.below hb).1, e0, hc 1 _ rfl, hc 2 _ rfl, hc 3 _ rfl⟩
/-- a number of a slice -/
theorem num_cell {w wr : World} {va : Option Addr} {cap k : Nat} {c : List Int} {x : Int} (h : SlOf w (.slice va c.length cap) 1 numC c) (hk : c[k]? = some x) (hb : Below w.heap.size w wr) :
    ∃ g o, va = some ⟨g, o, none⟩ ∧ g < wr.heap.size ∧ wr.cell? ⟨g, o + k, none⟩ = some (.int .i64 x) := by
  obtain ⟨a', cap', ea, _, _, h4⟩ := h
  cases ea
  obtain ⟨g, o, rfl, hr⟩ := h4 (by have := (List.getElem?_eq_some_iff.1 hk).1; omega)
  have e0 := (hr.below hb).2 k x hk 0 _ rfl
  rw [Nat.add_zero, Nat.mul_one] at e0
  exact ⟨g, o, rfl, (hr.below hb).1, e0⟩

/-- so far it fits -/
def fTo (d : Fa.Dom) (c : List Int) (k : Nat) : Prop := ∀ p ∈ (d.zip c).take k, Fa.within p = true
theorem fTo_step {d : Fa.Dom} {c : List Int} {k : Nat} {f : Fa.Fact} {x : Int} (hf : d[k]? = some f) (hx : c[k]? = some x) (h : fTo d c k) (h1 : ¬ x < f.lo) (h2 : ¬ f.hi < x) : fTo d c (k + 1) := by
  unfold fTo
  rw [take_snoc (x := (f, x)) (by rw [List.getElem?_zip_eq_some]; exact ⟨hf, hx⟩)]
  intro p hp
  rcases List.mem_append.1 hp with hp | hp
  · exact h p hp
  · simp at hp; subst hp
    unfold Fa.within
    simp only [Bool.and_eq_true, decide_eq_true_eq]
    omega
theorem fits_no {d : Fa.Dom} {c : List Int} {k : Nat} {f : Fa.Fact} {x : Int} (hf : d[k]? = some f) (hx : c[k]? = some x) (h : x < f.lo ∨ f.hi < x) : Fa.fits d c = false := by
  rw [Bool.eq_false_iff]; intro e
  have h3 := (Fa.fits_parts e).2.2 (f, x) (by rw [List.mem_iff_getElem?]; exact ⟨k, by rw [List.getElem?_zip_eq_some]; exact ⟨hf, hx⟩⟩)
  unfold Fa.within at h3
  simp only [Bool.and_eq_true, decide_eq_true_eq] at h3
  omega
theorem fits_not_valid {d : Fa.Dom} (c : List Int) (h : Fa.valid d = false) : Fa.fits d c = false := by unfold Fa.fits; rw [h]; rfl
theorem fits_len {d : Fa.Dom} {c : List Int} (h : c.length ≠ d.length) : Fa.fits d c = false := by unfold Fa.fits; rw [decide_eq_false h]; simp
theorem fits_done {d : Fa.Dom} {c : List Int} (hv : Fa.valid d = true) (hl : c.length = d.length) (h : fTo d c d.length) : Fa.fits d c = true := by
  refine Fa.fits_mk hv hl fun p hp => h p ?_
  rw [List.take_of_length_le (by simp; omega)]
  exact hp

set_option maxRecDepth 100000 in
set_option maxHeartbeats 4000000 in
theorem factFits_any (d : Fa.Dom) (c : List Int) (v vc : Value) (w : World) (h : SlOf w v 4 factC d) (hcs : SlOf w vc 1 numC c) (hn : ∀ f ∈ d, f.name.length ≤ 5000) (hd : d.length ≤ 5000) :
    Calls Tryz.prog 14 #[.agg #[v], vc] w (Gives (.bool (Fa.fits d c)) w) := by
  have HS := hid h
  have HC := hid hcs
  obtain ⟨W1, hW1⟩ : ∃ W1, W1 = w.alloc (.cells #[v] 24) := ⟨_, rfl⟩
  have hb1 : Below w.heap.size w W1 := by rw [hW1]; exact (Below.refl _ w).alloc (Nat.le_refl _) _
  have hs1 : W1.heap[w.heap.size]? = some (.cells #[v] 24 (0, 0)) := by rw [hW1]; exact alloc_new w _
  have HVC := hid (factValid_any d v W1 (h.below hb1) hn hd)
  obtain ⟨va, cap, rfl, k1, k2, -⟩ := h
  obtain ⟨vd, cap2, rfl, k3, k4, -⟩ := hcs
  have HB1 := hid hb1
  have HS1 := hid hs1
  have hd2 : d.length ≤ 9223372036854775807 := by omega
  have hd3 : c.length ≤ 9223372036854775807 := by unfold maxLen at k4; omega
  have c1 : W1.cell? ⟨w.heap.size, 0, none⟩ = some (.slice va d.length cap) := by simp [World.cell?, hs1]
  have hz1 : w.heap.size < W1.heap.size := (Array.getElem?_eq_some_iff.1 hs1).1
  have HC1 := hid c1
  clear hb1 hs1 hn hd
  go_enter Tryz.func14, Tryz.ntmps14
  go_wp2_with fail
  rw [← hW1]
  clear hW1
  refine (HVC.out).mono ?_
  rintro e w2 ⟨rfl, hb2⟩
  clear c1
  have c2 : w2.cell? ⟨w.heap.size, 0, none⟩ = some (.slice va d.length cap) := (hb2.cell (p := ⟨w.heap.size, 0, none⟩) hz1).trans HC1.out
  have hz2 : w.heap.size < w2.heap.size := Nat.lt_of_lt_of_le hz1 hb2.size
  have HB2 := hid (Below.step HB1.out hb2)
  have HC2 := hid c2
  clear hb2
  cases hv : Fa.valid d with
  | false =>
    have HE := hid (fits_not_valid c hv)
    go_wp2_with fail
    go_ret
    exact ⟨ret_bool HE.out.symm, HB2.out⟩
  | true =>
    have HV := hid hv
    clear hv
    by_cases hl : c.length = d.length
    · have hlb : ((c.length : Int) != (d.length : Int)) = false := by rw [hl]; simp
      have HL := hid hl
      clear hl
      go_wp2_with fail
      go_loopw [21] (fun iv wr => ∃ k : Nat, k ≤ d.length ∧ iv = .int .i64 k ∧ Hid (fTo d c k) ∧ Below w2.heap.size w2 wr) (fun iv _ => d.length - (RowKit.intOf iv).toNat)
      case atStart => exact ⟨0, Nat.zero_le _, rfl, by simp [Hid, fTo], Below.refl _ _⟩
      case round =>
        obtain ⟨k, hk, rfl, HK, hbr⟩ := hrel
        have HBR := hid (HB2.out.trans (hbr.mono HB2.out.size))
        clear c2
        have c2 : wr.cell? ⟨w.heap.size, 0, none⟩ = some (.slice va d.length cap) := (hbr.cell (p := ⟨w.heap.size, 0, none⟩) hz2).trans HC2.out
        have hzr : w.heap.size < wr.heap.size := Nat.lt_of_lt_of_le hz2 hbr.size
        have HBB := hid hbr
        clear hbr
        by_cases hlt : k < d.length
        · obtain ⟨f, hf⟩ : ∃ f, d[k]? = some f := ⟨_, List.getElem?_eq_getElem hlt⟩
          obtain ⟨x, hx⟩ : ∃ x, c[k]? = some x := ⟨_, List.getElem?_eq_getElem (by rw [HL.out]; exact hlt)⟩
          obtain ⟨g, o, rfl, hg, e0, e1, e2, e3⟩ := fact_cells HS.out hf HBR.out
          obtain ⟨g2, o2, rfl, hg2, y0⟩ := num_cell HC.out hx HBR.out
          have hk0 : (0 : Int) ≤ (k : Int) := by omega
          have hk1 : (k : Int) < (d.length : Int) := by omega
          have hk2 : (k : Int) < (c.length : Int) := by rw [HL.out]; omega
          have HF := hid hf
          have HX := hid hx
          obtain ⟨W5, hW5⟩ : ∃ W5, W5 = wr.alloc (.cells #[.string (bs f.name), .int .i64 f.kind, .int .i64 f.lo, .int .i64 f.hi] 62) := ⟨_, rfl⟩
          have hb5 : Below wr.heap.size wr W5 := by rw [hW5]; exact (Below.refl _ wr).alloc (Nat.le_refl _) _
          have hs5 : W5.heap[wr.heap.size]? = some (.cells #[.string (bs f.name), .int .i64 f.kind, .int .i64 f.lo, .int .i64 f.hi] 62 (0, 0)) := by rw [hW5]; exact alloc_new wr _
          have x2 : W5.cell? ⟨wr.heap.size, 2, none⟩ = some (.int .i64 f.lo) := by simp [World.cell?, hs5]
          have x3 : W5.cell? ⟨wr.heap.size, 3, none⟩ = some (.int .i64 f.hi) := by simp [World.cell?, hs5]
          have hxz : wr.heap.size < W5.heap.size := (Array.getElem?_eq_some_iff.1 hs5).1
          have y5 : W5.cell? ⟨g2, o2 + k, none⟩ = some (.int .i64 x) := (hb5.cell (p := ⟨g2, o2 + k, none⟩) hg2).trans y0
          have HB5 := hid (HBB.out.trans (hb5.mono HBB.out.size))
          have HB6 := hid (HB2.out.trans (HB5.out.mono HB2.out.size))
          clear hf hx
          go_upto_region 6 with (fail)
          rw [← hW5]
          clear hW5 hb5 hs5 e0 e1 e2 e3 y0
          by_cases q1 : x < f.lo
          · have d1 : decide (x < f.lo) = true := decide_eq_true q1
            have HE := hid (fits_no HF.out HX.out (.inl q1))
            go_quiet (fail)
            go_wp2_with fail
            go_ret
            exact ⟨ret_bool HE.out.symm, Below.step HB6.out (Below.drewQ _ _)⟩
          · have d1 : decide (x < f.lo) = false := decide_eq_false q1
            by_cases q2 : f.hi < x
            · have d2 : decide (f.hi < x) = true := decide_eq_true q2
              have HE := hid (fits_no HF.out HX.out (.inr q2))
              go_quiet (fail)
              go_wp2_with fail
              go_ret
              exact ⟨ret_bool HE.out.symm, Below.step HB6.out (Below.drewQ _ _)⟩
            · have d2 : decide (f.hi < x) = false := decide_eq_false q2
              have HK1 := hid (fTo_step HF.out HX.out HK.out q1 q2)
              go_quiet (fail)
              go_wp2_with fail
              go_roundw
              case rel => exact ⟨k + 1, by omega, by go_num, HK1.out, Below.step HB5.out (Below.drewQ _ _)⟩
              case measure => simp [RowKit.intOf]; omega
        · have hke : k = d.length := by omega
          subst hke
          have HE := hid (fits_done HV.out HL.out HK.out)
          go_wp2_with fail
          go_ret
          exact ⟨ret_bool HE.out.symm, HBR.out⟩
    · have hlb : ((c.length : Int) != (d.length : Int)) = true := by rw [bne_iff_ne]; omega
      have HE := hid (fits_len hl)
      clear hl
      go_wp2_with fail
      go_ret
      exact ⟨ret_bool HE.out.symm, HB2.out⟩

end Go.Proofs.YteogmlgmodeajaaGreatDoor
