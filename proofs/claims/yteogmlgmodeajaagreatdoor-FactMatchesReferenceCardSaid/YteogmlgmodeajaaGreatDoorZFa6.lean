/-
  The reader of tokens: span; what is caught. Conditions: lengths.
-/
import Derived.Test.YteogmlgmodeajaaGreatDoorZFa5
namespace Go.Proofs.YteogmlgmodeajaaGreatDoor
open Go.RowKit Go.Maps

variable {B : Nat}

def SpanP (B : Nat) (w : World) (p : Nat) (l : List Fa.T) (k e : Nat) (r : Except Fa.Fail ((Int × Int) × List Fa.T)) (en : Ending) (w' : World) : Prop :=
  match r with
  | .ok (u, rest) => en = .returned (.tuple #[.int .i64 u.1, .int .i64 u.2]) ∧ rest = l.drop (k + 3) ∧ RdrW B w' p l (k + 3) e ∧ Tch (fun b => b = p) w w'
  | .error x => Throws w p x en w'

/-- a token in a new block -/
theorem tok_new (w : World) (t : Fa.T) : (w.alloc (.cells #[.int .i64 t.2.kind, .int .i64 t.1, .int .i64 t.2.n, .string (bs t.2.text)] 58)).heap[w.heap.size]? = some (.cells #[.int .i64 t.2.kind, .int .i64 t.1, .int .i64 t.2.n, .string (bs t.2.text)] 58 (0, 0)) := alloc_new w _
/-- a token in a block -/
def TokB (w : World) (q : Nat) (t : Fa.T) : Prop := w.heap[q]? = some (.cells #[.int .i64 t.2.kind, .int .i64 t.1, .int .i64 t.2.n, .string (bs t.2.text)] 58 (0, 0))
theorem TokB.tch {w w' : World} {q : Nat} {t : Fa.T} {O : Nat → Prop} (h : TokB w q t) (ht : Tch O w w') (ho : ¬ O q) : TokB w' q t := (ht.block q (Array.getElem?_eq_some_iff.1 h).1 ho).trans h
theorem TokB.below {w w' : World} {q : Nat} {t : Fa.T} (h : TokB w q t) (hb : Below w.heap.size w w') : TokB w' q t := h.tch (Tch.of_below hb (fun _ => False)) (fun e => e)
theorem TokB.cells {w : World} {q : Nat} {t : Fa.T} (h : TokB w q t) : w.cell? ⟨q, 0, none⟩ = some (.int .i64 t.2.kind) ∧ w.cell? ⟨q, 1, none⟩ = some (.int .i64 t.1) ∧ w.cell? ⟨q, 2, none⟩ = some (.int .i64 t.2.n) ∧ w.cell? ⟨q, 3, none⟩ = some (.string (bs t.2.text)) ∧ q < w.heap.size :=
  ⟨by simp [World.cell?, show w.heap[q]? = _ from h], by simp [World.cell?, show w.heap[q]? = _ from h], by simp [World.cell?, show w.heap[q]? = _ from h], by simp [World.cell?, show w.heap[q]? = _ from h], (Array.getElem?_eq_some_iff.1 h).1⟩

theorem span_1 {e : Nat} {ts : List Fa.T} {x : Fa.Fail} (h : Fa.take 2 [] e ts = .error x) : Fa.span e ts = .error x := by unfold Fa.span; rw [h]
theorem span_2 {e : Nat} {ts r1 : List Fa.T} {lo : Fa.T} (h : Fa.take 2 [] e ts = .ok (lo, r1)) (hc : 1000000 < lo.2.n) : Fa.span e ts = .error (10, lo.1) := by unfold Fa.span; rw [h]; simp only; rw [if_pos hc]
theorem span_3 {e : Nat} {ts r1 : List Fa.T} {lo : Fa.T} {x : Fa.Fail} (h : Fa.take 2 [] e ts = .ok (lo, r1)) (hc : ¬ 1000000 < lo.2.n) (h2 : Fa.take 1 Fa.tTo e r1 = .error x) : Fa.span e ts = .error x := by unfold Fa.span; rw [h]; simp only; rw [if_neg hc, h2]
theorem span_4 {e : Nat} {ts r1 r2 : List Fa.T} {lo t : Fa.T} {x : Fa.Fail} (h : Fa.take 2 [] e ts = .ok (lo, r1)) (hc : ¬ 1000000 < lo.2.n) (h2 : Fa.take 1 Fa.tTo e r1 = .ok (t, r2)) (h3 : Fa.take 2 [] e r2 = .error x) : Fa.span e ts = .error x := by
  unfold Fa.span; rw [h]; simp only; rw [if_neg hc, h2]; simp only; rw [h3]
theorem span_5 {e : Nat} {ts r1 r2 r3 : List Fa.T} {lo t hi : Fa.T} (h : Fa.take 2 [] e ts = .ok (lo, r1)) (hc : ¬ 1000000 < lo.2.n) (h2 : Fa.take 1 Fa.tTo e r1 = .ok (t, r2)) (h3 : Fa.take 2 [] e r2 = .ok (hi, r3)) :
    Fa.span e ts = if 1000000 < hi.2.n ∨ hi.2.n < lo.2.n then .error (10, hi.1) else .ok (((lo.2.n : Int), (hi.2.n : Int)), r3) := by
  unfold Fa.span; rw [h]; simp only; rw [if_neg hc, h2]; simp only; rw [h3]

set_option maxRecDepth 100000 in
set_option maxHeartbeats 4000000 in
theorem span_any (w : World) (p : Nat) (l : List Fa.T) (k e : Nat) (h : RdrW B w p l k e) (hl : l.length ≤ 5000) : Calls Tryz.prog 32 #[.pointer (some ⟨p, 0, none⟩)] w (SpanP B w p l k e (Fa.span e (l.drop k))) := by
  have HL := hid hl
  have hpz : p < w.heap.size := by obtain ⟨ts, _, h2, _⟩ := h; exact (Array.getElem?_eq_some_iff.1 h2).1
  have HT1 := hid (take_tok 2 2 ⟨#[]⟩ [] rfl rfl w p l k e h hl)
  clear h hl
  cases h1 : Fa.take 2 [] e (l.drop k) with
  | error x =>
    have HE := hid (span_1 h1)
    rw [h1] at HT1
    clear h1
    go_enter Tryz.func32, Tryz.ntmps32
    go_wp2_with fail
    refine (HT1.out).mono ?_
    rintro en w1 ⟨rfl, -, ht1⟩
    unfold thrown
    go_wp2_with fail
    refine ⟨rfl, ?_⟩
    rw [HE.out]
    exact ⟨rfl, ht1⟩
  | ok u =>
    obtain ⟨lo, r1⟩ := u
    obtain ⟨hr1, hk1, -⟩ := take_drop h1
    subst hr1
    rw [h1] at HT1
    have H1 := hid h1
    clear h1
    go_enter Tryz.func32, Tryz.ntmps32
    go_wp2_with fail
    refine (HT1.out).mono ?_
    rintro en w1 ⟨rfl, hR1, ht1⟩
    obtain ⟨W2, hW2⟩ : ∃ W2, W2 = w1.alloc (.cells #[.int .i64 lo.2.kind, .int .i64 lo.1, .int .i64 lo.2.n, .string (bs lo.2.text)] 58) := ⟨_, rfl⟩
    have hb2 : Below w1.heap.size w1 W2 := by rw [hW2]; exact (Below.refl _ w1).alloc (Nat.le_refl _) _
    have hB2 : TokB W2 w1.heap.size lo := by rw [hW2]; exact tok_new w1 lo
    have HB2 := hid hB2
    obtain ⟨x0, x1, x2, x3, xz⟩ := hB2.cells
    have HR2 := hid (hR1.below hb2)
    have HT2 := hid (ht1.step hb2)
    have hpz1 : p < w1.heap.size := Nat.lt_of_lt_of_le hpz ht1.size
    have HC1 := hid (check_no 10 lo W2)
    have HC1y := hid (check_yes 10 lo W2)
    unfold tkV at HC1 HC1y ⊢
    clear hR1 ht1 hb2 hB2
    by_cases hc : 1000000 < lo.2.n
    · have hcI : (1000000 : Int) < (lo.2.n : Int) := by omega
      have HE := hid (span_2 H1.out hc)
      clear hc
      go_wp2_with fail
      rw [← hW2]
      clear hW2
      refine (HC1y.out).mono ?_
      rintro en w3 ⟨rfl, hb3⟩
      unfold thrown
      go_wp2_with fail
      refine ⟨rfl, ?_⟩
      rw [HE.out]
      exact ⟨rfl, HT2.out.step hb3⟩
    · have hcI : decide ((1000000 : Int) < (lo.2.n : Int)) = false := decide_eq_false (by omega)
      have HNC := hid hc
      clear hc
      go_wp2_with fail
      rw [← hW2]
      clear hW2
      refine (HC1.out).mono ?_
      rintro en w3 ⟨rfl, hb3⟩
      have HR3 := hid (HR2.out.below hb3)
      have HT3 := hid (HT2.out.step hb3)
      have HB3 := hid (HB2.out.below hb3)
      have hz3 := hb3.size
      have HTT := hid (take_tok 1 1 ⟨#[116, 111]⟩ Fa.tTo rfl rfl w3 p l (k + 1) e HR3.out HL.out)
      clear hb3 x0 x1 x2 x3
      cases h2 : Fa.take 1 Fa.tTo e (l.drop (k + 1)) with
      | error x =>
        have HE := hid (span_3 H1.out HNC.out h2)
        rw [h2] at HTT
        clear h2
        go_wp2_with fail
        refine (HTT.out).mono ?_
        rintro en w4 ⟨rfl, -, ht4⟩
        unfold thrown
        go_wp2_with fail
        refine ⟨rfl, ?_⟩
        rw [HE.out]
        exact ⟨rfl, HT3.out.trans ht4 fun b hb _ => hb⟩
      | ok u =>
        obtain ⟨t2, r2⟩ := u
        obtain ⟨hr2, hk2, -⟩ := take_drop h2
        subst hr2
        rw [h2] at HTT
        have H2 := hid h2
        clear h2
        go_wp2_with fail
        refine (HTT.out).mono ?_
        rintro en w4 ⟨rfl, hR4, ht4⟩
        have HT4 := hid (HT3.out.trans ht4 fun b hb _ => hb)
        have HB4 := hid (HB3.out.tch ht4 (by show ¬ w1.heap.size = p; omega))
        have hz4 := ht4.size
        have HT5 := hid (take_tok 2 2 ⟨#[]⟩ [] rfl rfl w4 p l (k + 1 + 1) e hR4 HL.out)
        unfold tkV
        clear hR4 ht4
        cases h3 : Fa.take 2 [] e (l.drop (k + 1 + 1)) with
        | error x =>
          have HE := hid (span_4 H1.out HNC.out H2.out h3)
          rw [h3] at HT5
          clear h3
          go_wp2_with fail
          refine (HT5.out).mono ?_
          rintro en w5 ⟨rfl, -, ht5⟩
          unfold thrown
          go_wp2_with fail
          refine ⟨rfl, ?_⟩
          rw [HE.out]
          exact ⟨rfl, HT4.out.trans ht5 fun b hb _ => hb⟩
        | ok u =>
          obtain ⟨hi, r3⟩ := u
          obtain ⟨hr3, hk3, -⟩ := take_drop h3
          subst hr3
          rw [h3] at HT5
          have HE := hid (span_5 H1.out HNC.out H2.out h3)
          clear h3
          go_wp2_with fail
          refine (HT5.out).mono ?_
          rintro en w5 ⟨rfl, hR5, ht5⟩
          obtain ⟨W6, hW6⟩ : ∃ W6, W6 = w5.alloc (.cells #[.int .i64 hi.2.kind, .int .i64 hi.1, .int .i64 hi.2.n, .string (bs hi.2.text)] 58) := ⟨_, rfl⟩
          have hb6 : Below w5.heap.size w5 W6 := by rw [hW6]; exact (Below.refl _ w5).alloc (Nat.le_refl _) _
          have hB6 : TokB W6 w5.heap.size hi := by rw [hW6]; exact tok_new w5 hi
          obtain ⟨x0, x1, x2, x3, xz6⟩ := hB6.cells
          have HB6 := hid hB6
          have hLB := (HB4.out.tch ht5 (by show ¬ w1.heap.size = p; omega)).below hb6
          obtain ⟨y0, y1, y2, y3, yz6⟩ := hLB.cells
          have HLB := hid hLB
          have HR6 := hid (hR5.below hb6)
          have HT6 := hid ((HT4.out.trans ht5 fun b hb _ => hb).step hb6)
          have HC1 := hid (check_no 10 hi W6)
          have HC1y := hid (check_yes 10 hi W6)
          unfold tkV at HC1 HC1y ⊢
          clear hR5 ht5 hb6 hB6 hLB
          by_cases hc : 1000000 < hi.2.n
          · have hcI : (1000000 : Int) < (hi.2.n : Int) := by omega
            have HE2 := hid (HE.out.trans (if_pos (.inl hc)))
            clear hc
            go_wp2_with fail
            rw [← hW6]
            clear hW6
            refine (HC1y.out).mono ?_
            rintro en w7 ⟨rfl, hb7⟩
            unfold thrown
            go_wp2_with fail
            refine ⟨rfl, ?_⟩
            rw [HE2.out]
            exact ⟨rfl, HT6.out.step hb7⟩
          · have hcI : decide ((1000000 : Int) < (hi.2.n : Int)) = false := decide_eq_false (by omega)
            by_cases hd : hi.2.n < lo.2.n
            · have hdI : (hi.2.n : Int) < (lo.2.n : Int) := by omega
              have HE2 := hid (HE.out.trans (if_pos (.inr hd)))
              clear hc hd
              go_upto_region 5 with (fail)
              rw [← hW6]
              clear hW6
              go_wp2_with fail
              refine (HC1y.out).mono ?_
              rintro en w7 ⟨rfl, hb7⟩
              unfold thrown
              go_wp2_with fail
              refine ⟨rfl, ?_⟩
              rw [HE2.out]
              exact ⟨rfl, HT6.out.step hb7⟩
            · have hdI : decide (hi.2.n < lo.2.n) = false := decide_eq_false hd
              have HE2 := hid (HE.out.trans (if_neg (by omega)))
              clear hc hd
              go_upto_region 5 with (fail)
              rw [← hW6]
              clear hW6
              go_wp2_with fail
              refine (HC1.out).mono ?_
              rintro en w7 ⟨rfl, hb7⟩
              clear x0 x1 x2 x3 y0 y1 y2 y3
              obtain ⟨x0, x1, x2, x3, xz7⟩ := (HB6.out.below hb7).cells
              obtain ⟨y0, y1, y2, y3, yz7⟩ := (HLB.out.below hb7).cells
              have HR7 := hid (HR6.out.below hb7)
              have HT7 := hid (HT6.out.step hb7)
              clear hb7
              go_upto_region 6 with (fail)
              go_quiet (fail)
              go_wp2_with fail
              go_ret2
              rw [HE2.out]
              exact ⟨rfl, rfl, HR7.out.below (Below.drewQ _ _), HT7.out.step (Below.drewQ _ _)⟩

end Go.Proofs.YteogmlgmodeajaaGreatDoor
