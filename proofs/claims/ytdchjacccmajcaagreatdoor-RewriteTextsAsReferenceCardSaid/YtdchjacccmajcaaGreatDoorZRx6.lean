/-
 The reference's reader of tables: rule. Conditions: lengths. (Printed by tools/mkRx6.py.)
-/
import Derived.Test.YtdchjacccmajcaaGreatDoorZRx5
import Derived.Test.YtdchjacccmajcaaGreatDoorZRv5
namespace Rw
open Fa (T)
/-- an error is noted where c holds -/
def RS.tw (r : RS) (l : List T) (c : Prop) [Decidable c] : RS := if c then r.fail l 9 else r
theorem RS.tw_dead {r : RS} {l : List T} {c1 c2 : Prop} [Decidable c1] [Decidable c2] (h : (r.tw l c1).er ≠ 0) (h12 : c1 → c2) : r.tw l c2 = r.tw l c1 := by
 unfold RS.tw at h ⊢
 by_cases h1 : c1
 ·rw [if_pos h1, if_pos (h12 h1)]
 ·rw [if_neg h1] at h ⊢
  split
  ·exact RS.fail_dead h l 9
  ·rfl
theorem RS.tw_live {r : RS} {l : List T} {c1 : Prop} [Decidable c1] (h : (r.tw l c1).er = 0) : r.tw l c1 = r ∧ ¬ c1 := by
 unfold RS.tw at h ⊢
 by_cases h1 : c1
 ·rw [if_pos h1] at h
  exact absurd h (RS.fail_er (by decide))
 ·rw [if_neg h1]
  exact ⟨rfl, h1⟩
theorem RS.tw_k {r : RS} {l : List T} {c1 : Prop} [Decidable c1] (h : r.er = 0 → 1 ≤ r.k) : (r.tw l c1).er = 0 → 1 ≤ (r.tw l c1).k := fun h0 => by
 obtain ⟨e, -⟩ := RS.tw_live h0
 rw [e] at h0 ⊢
 exact h h0
theorem mem_more {bf : List Rule} {i : Nat} {x : Rule} {k : Int × List UInt8 × List UInt8} (hx : bf[i]? = some x) : k ∈ (bf.take (i + 1)).map Rule.key ↔ k ∈ (bf.take i).map Rule.key ∨ x.key = k := by
 rw [List.take_add_one, hx, List.map_append, List.mem_append]
 simp [eq_comm]
end Rw
namespace Go.Proofs.YtdchjacccmajcaaGreatDoor
open Go.RowKit Go.Maps Go.Lib

theorem rule_one (l : List Rw.Rule) : ∀ u ∈ l.flatMap ruleCells, u.oneCell' = true := by
 intro u hu
 obtain ⟨d, -, hd⟩ := List.mem_flatMap.1 hu
 simp only [ruleCells, List.mem_cons, List.not_mem_nil, or_false] at hd
 rcases hd with rfl | rfl | rfl | rfl <;> rfl
/-- what reading a rule ends in -/
def RuleX (w : World) (p : Nat) (l : List Fa.T) (e : Nat) (bf : List Rw.Rule) (r : Rw.Rule × Rw.RS) (v : Value) (en : Ending) (w' : World) : Prop :=
 ∃ v', en = .returned v' ∧ w'.ownsRow w.heap.size 34 4 v' (bf.length + 1) ((bf ++ [r.1]).flatMap ruleCells) ∧ RdX w' p l e r.2 v ∧ Tch (fun b => b = p) w w'

set_option maxRecDepth 100000 in
set_option maxHeartbeats 20000000 in
theorem rrule_any10 (bf : List Rw.Rule) (bv : Value) (w : World) (p : Nat) (l : List Fa.T) (e : Nat) (R : Rw.RS) (v : Value) (h : RdX w p l e R v) (hs : ∀ t ∈ l, t.2.text.length ≤ 400) (hb : SlIn w bv (fun k => ¬ k = p) 4 ruleCells bf) (hl80 : bf.length ≤ 80) :
  Calls Tryz.prog 65 #[.pointer (some ⟨p, 0, none⟩), bv] w (RuleX w p l e bf (Rw.RS.rule l e bf R) v) := by
 have hpw := h.lt
 obtain ⟨ba, bc, rfl⟩ := hb.slice
 have HBF := hid (show ∀ X, Tch (fun b => b = p) w X → SlOf X (.slice ba bf.length bc) 4 ruleCells bf from fun X hX => (hb.tch hX (fun k hk e => hk e)).slOf)
 obtain ⟨f80, hf80⟩ : ∃ f, f = decide (80 ≤ bf.length) := ⟨_, rfl⟩
 have g80 : ((bf.length : Int) == 80) = f80 := by rw [hf80, Bool.eq_iff_iff, beq_iff_eq, decide_eq_true_eq]; omega
 obtain ⟨q0, hq0⟩ : ∃ q, q = R.tok l e 1 Rw.tRule := ⟨_, rfl⟩
 obtain ⟨R1, hR1⟩ : ∃ r : Rw.RS, r = if 80 ≤ bf.length then q0.2.fail l 2 else q0.2 := ⟨_, rfl⟩
 obtain ⟨q1, hq1⟩ : ∃ q, q = R1.tokC l e 1 [] (fun t => Rw.scrI t.2.text = 0) 5 := ⟨_, rfl⟩
 obtain ⟨kk, hkk⟩ : ∃ k, k = Rw.scrI q1.1.2.text := ⟨_, rfl⟩
 obtain ⟨q2, hq2⟩ : ∃ q, q = q1.2.tok l e 3 [] := ⟨_, rfl⟩
 obtain ⟨fb, hfb⟩ : ∃ fb, fb = Rw.folded kk q2.1.2.text 3 := ⟨_, rfl⟩
 obtain ⟨R3, hR3⟩ : ∃ r : Rw.RS, r = if fb = false then q2.2.fail l 1 else q2.2 := ⟨_, rfl⟩
 obtain ⟨q3, hq3⟩ : ∃ q, q = R3.tok l e 1 Rw.tTo := ⟨_, rfl⟩
 obtain ⟨q4, hq4⟩ : ∃ q, q = q3.2.tok l e 3 [] := ⟨_, rfl⟩
 obtain ⟨ff, hff⟩ : ∃ ff, ff = Rw.isForm q4.1.2.text := ⟨_, rfl⟩
 obtain ⟨R5, hR5⟩ : ∃ r : Rw.RS, r = if ff = false then q4.2.fail l 1 else q4.2 := ⟨_, rfl⟩
 obtain ⟨q5, hq5⟩ : ∃ q, q = R5.tok l e 1 Rw.tCost := ⟨_, rfl⟩
 obtain ⟨q6, hq6⟩ : ∃ q, q = q5.2.tokC l e 2 [] (fun t => 1000 < t.2.n) 10 := ⟨_, rfl⟩
 obtain ⟨q7, hq7⟩ : ∃ q, q = q6.2.tok l e 4 [59] := ⟨_, rfl⟩
 obtain ⟨d, hd⟩ : ∃ d : Rw.Rule, d = ⟨kk, q2.1.2.text, q4.1.2.text, q6.1.2.n⟩ := ⟨_, rfl⟩
 have HRES := hid (show Rw.RS.rule l e bf R = (d, q7.2.tw l (d.key ∈ bf.map Rw.Rule.key)) by rw [hd, hq7, hq6, hq5, hR5, hff, hq4, hq3, hR3, hfb, hq2, hkk, hq1, hR1, hq0]; rfl)
 have C0 := hid (rtok_lit 1 1 ⟨#[114, 117, 108, 101]⟩ Rw.tRule rfl rfl w p l e R v h)
 rw [← hq0] at C0
 have K0 := hid (show q0.2.er = 0 → 1 ≤ q0.2.k by rw [hq0]; exact Rw.RS.tok_k)
 have K2 := hid (show q2.2.er = 0 → 1 ≤ q2.2.k by rw [hq2]; exact Rw.RS.tok_k)
 have K4 := hid (show q4.2.er = 0 → 1 ≤ q4.2.k by rw [hq4]; exact Rw.RS.tok_k)
 have K7 := hid (show q7.2.er = 0 → 1 ≤ q7.2.k by rw [hq7]; exact Rw.RS.tok_k)
 have HTX := hid (show q2.1.2.text.length ≤ 400 by rw [hq2]; exact Rw.RS.tok_text hs)
 have HTY := hid (show q4.1.2.text.length ≤ 400 by rw [hq4]; exact Rw.RS.tok_text hs)
 have HR1 := hid (show R1 = if f80 = true then q0.2.fail l 2 else q0.2 by rw [hR1, hf80]; by_cases h : 80 ≤ bf.length <;> simp [h])
 have HR3 := hid hR3
 have HR5 := hid hR5
 have HQ1 := hid hq1
 have HQ2 := hid hq2
 have HQ3 := hid hq3
 have HQ4 := hid hq4
 have HQ5 := hid hq5
 have HQ6 := hid hq6
 have HQ7 := hid hq7
 have HFB := hid hfb
 have HFF := hid hff
 have HDD := hid hd
 clear h hs hb hq0 hR1 hq1 hq2 hfb hR3 hq3 hq4 hff hR5 hq5 hq6 hq7 hd hf80
 go_enter Tryz.func65, Tryz.ntmps65
 go_wp2_with fail
 refine (C0.out).mono ?_
 rintro en w1 ⟨rfl, hr1, ht1⟩
 have HX1 := hid (And.intro hr1 ht1)
 clear hr1 ht1 C0
 go_upto_if 11 with (fail)
 go_cut [] from 7 (fun wx => Hid (RdX wx p l e R1 v ∧ Tch (fun b => b = p) w wx))
 case first =>
  cases f80 with
  | true =>
   have HE := hid (show R1 = q0.2.fail l 2 by rw [HR1.out]; rfl)
   go_wp2_with fail
   refine (rfailAlso_any10 2 w1 p l e q0.2 v HX1.out.1 K0.out).mono ?_
   rintro en w2 ⟨rfl, hr2, ht2⟩
   go_wp2_with fail
   go_meet
   case rel => rw [HE.out]; exact ⟨hr2, HX1.out.2.trans ht2 (fun k hk _ => hk)⟩
  | false =>
   have HE := hid (show R1 = q0.2 by rw [HR1.out]; rfl)
   go_wp2_with fail
   go_meet
   case rel => rw [HE.out]; exact ⟨HX1.out.1, HX1.out.2⟩
 case rest =>
 rename World => w2
 have HX2 := hid hcut.out
 clear hcut HX1
 have C1 := hid (rscript_any10 w2 p l e R1 v HX2.out.1)
 rw [← HQ1.out] at C1
 go_wp2_with fail
 refine (C1.out).mono ?_
 rintro en w3 ⟨rfl, hr3, ht3⟩
 rw [← hkk]
 have HKK := hid hkk
 clear hkk C1
 obtain ⟨W4, hW4⟩ : ∃ W4, W4 = w3.alloc (.cells #[.int .i64 kk, .string ⟨#[]⟩, .string ⟨#[]⟩, .int .i64 0] 34) := ⟨_, rfl⟩
 have hb4 : Below w3.heap.size w3 W4 := by rw [hW4]; exact (Below.refl _ w3).alloc (Nat.le_refl _) _
 have ht3' := HX2.out.2.trans ht3 (fun k hk _ => hk)
 have HX4 := hid (show BxX w W4 p l e q1.2 v w3.heap.size 34 #[.int .i64 kk, .string ⟨#[]⟩, .string ⟨#[]⟩, .int .i64 0] from ⟨hr3.below hb4, ht3'.step hb4, by rw [hW4]; exact alloc_new w3 _, ht3'.size, hpw⟩)
 have hpq : p < w3.heap.size := hr3.lt
 clear hr3 ht3 ht3' hb4 HX2
 go_upto_region 5 with (fail)
 rw [← hW4]
 clear hW4
 have C2 := hid (rtok_lit 3 3 ⟨#[]⟩ [] rfl rfl W4 p l e q1.2 v HX4.out.rd)
 rw [← HQ2.out] at C2
 have hfd : ∀ X : World, (Instr.field 116 (.agg #[.int .i64 q2.1.2.kind, .int .i64 q2.1.1, .int .i64 q2.1.2.n, .string (bs q2.1.2.text)]) 3).run Tryz.prog X = .ok (.string (bs q2.1.2.text)) X := fun _ => by kernel_rfl
 go_wp2_with fail
 refine (C2.out).mono ?_
 rintro en w5 ⟨rfl, hr, ht⟩
 have hX := HX4.out.step hr ht
 have d1 := hX.cell 1 _ rfl
 have df := hX.frozen 1
 have dl := hX.lt
 obtain ⟨W6, hW⟩ : ∃ X, X = w5.setCell ⟨w3.heap.size, 1, none⟩ (.string (bs q2.1.2.text)) := ⟨_, rfl⟩
 have HX6 := hid (show BxX w W6 p l e q2.2 v w3.heap.size 34 #[.int .i64 kk, .string (bs q2.1.2.text), .string ⟨#[]⟩, .int .i64 0] by rw [hW]; exact hX.set 1 _)
 clear hr ht hX C2 HX4
 unfold tkvP
 go_upto_region 6 with (fail)
 rw [← hW]
 clear hW d1 df dl hfd
 go_cut [21, 22, 23, 24, 25, 26, 27, 28, 29, 30, 31, 32, 33] from 34 (fun v21 v22 v23 v24 v25 v26 v27 v28 v29 v30 v31 v32 v33 wx => v33 = .bool (decide (q2.2.er = 0) && !fb) ∧ Hid (BxX w wx p l e q2.2 v w3.heap.size 34 #[.int .i64 kk, .string (bs q2.1.2.text), .string ⟨#[]⟩, .int .i64 0]))
 case first =>
  obtain ⟨-, -, -, c3, -, -⟩ := HX6.out.rd.cells
  have hp6 := HX6.out.rd.lt
  have x0 := HX6.out.cell 0 _ rfl
  have x1 := HX6.out.cell 1 _ rfl
  have xl := HX6.out.lt
  have HF := hid (rfolded_any kk q2.1.2.text 3 W6 (by have := HTX.out; omega))
  rw [← HFB.out] at HF
  by_cases h0 : q2.2.er = 0
  ·have d0 : (q2.2.er == 0) = true := by rw [h0]; rfl
   have HE := hid (show (decide (q2.2.er = 0) && !fb) = !fb by rw [decide_eq_true h0, Bool.true_and])
   clear h0
   go_wp2_with fail
   refine (HF.out).mono ?_
   rintro en wq ⟨rfl, hbq⟩
   go_wp2_with fail
   go_meet
   case rel => exact ⟨by rw [HE.out], HX6.out.below hbq⟩
  ·have d0 : (q2.2.er == 0) = false := by rw [beq_eq_false_iff_ne]; exact h0
   have HE := hid (show (decide (q2.2.er = 0) && !fb) = false by rw [decide_eq_false h0, Bool.false_and])
   clear h0
   go_wp2_with fail
   go_meet
   case rel => exact ⟨by rw [HE.out], HX6.out⟩
 case rest =>
 rename World => w7
 obtain ⟨rfl, HH⟩ := hcut
 have HXG := hid HH.out
 clear HH HX6
 go_step
 go_cut [] from 33 (fun wx => Hid (BxX w wx p l e R3 v w3.heap.size 34 #[.int .i64 kk, .string (bs q2.1.2.text), .string ⟨#[]⟩, .int .i64 0]))
 case first =>
  by_cases h0 : q2.2.er = 0
  ·rw [decide_eq_true h0, Bool.true_and]
   clear h0
   cases fb with
   | false =>
    have HE := hid (show R3 = q2.2.fail l 1 by rw [HR3.out]; rfl)
    go_wp2_with fail
    refine (rfail_any10 1 w7 p l e q2.2 v HXG.out.rd K2.out).mono ?_
    rintro en wq ⟨rfl, hrq, htq⟩
    go_wp2_with fail
    go_meet
    case rel => rw [HE.out]; exact HXG.out.step hrq htq
   | true =>
    have HE := hid (show R3 = q2.2 by rw [HR3.out]; rfl)
    go_wp2_with fail
    go_meet
    case rel => rw [HE.out]; exact HXG.out
  ·have HE := hid (show R3 = q2.2 by
    rw [HR3.out]
    split
    ·exact Rw.RS.fail_dead h0 l 1
    ·rfl)
   rw [decide_eq_false h0, Bool.false_and]
   clear h0
   go_wp2_with fail
   go_meet
   case rel => rw [HE.out]; exact HXG.out
 case rest =>
 rename World => w8
 have HX8 := hid hcut.out
 clear hcut HXG
 have C3 := hid (rtok_lit 1 1 ⟨#[116, 111]⟩ Rw.tTo rfl rfl w8 p l e R3 v HX8.out.rd)
 rw [← HQ3.out] at C3
 go_wp2_with fail
 refine (C3.out).mono ?_
 rintro en w9 ⟨rfl, hr, ht⟩
 have HX9 := hid (HX8.out.step hr ht)
 clear hr ht C3 HX8
 have C4 := hid (rtok_lit 3 3 ⟨#[]⟩ [] rfl rfl w9 p l e q3.2 v HX9.out.rd)
 rw [← HQ4.out] at C4
 have hfd : ∀ X : World, (Instr.field 116 (.agg #[.int .i64 q4.1.2.kind, .int .i64 q4.1.1, .int .i64 q4.1.2.n, .string (bs q4.1.2.text)]) 3).run Tryz.prog X = .ok (.string (bs q4.1.2.text)) X := fun _ => by kernel_rfl
 go_wp2_with fail
 refine (C4.out).mono ?_
 rintro en w10 ⟨rfl, hr, ht⟩
 have hX := HX9.out.step hr ht
 have d1 := hX.cell 2 _ rfl
 have df := hX.frozen 2
 have dl := hX.lt
 obtain ⟨W11, hW⟩ : ∃ X, X = w10.setCell ⟨w3.heap.size, 2, none⟩ (.string (bs q4.1.2.text)) := ⟨_, rfl⟩
 have HX11 := hid (show BxX w W11 p l e q4.2 v w3.heap.size 34 #[.int .i64 kk, .string (bs q2.1.2.text), .string (bs q4.1.2.text), .int .i64 0] by rw [hW]; exact hX.set 2 _)
 clear hr ht hX C4 HX9
 unfold tkvP
 go_upto_region 10 with (fail)
 rw [← hW]
 clear hW d1 df dl hfd
 go_cut [42, 43, 44, 45, 46, 47, 48, 49, 50, 51, 52] from 53 (fun v42 v43 v44 v45 v46 v47 v48 v49 v50 v51 v52 wx => v52 = .bool (decide (q4.2.er = 0) && !ff) ∧ Hid (BxX w wx p l e q4.2 v w3.heap.size 34 #[.int .i64 kk, .string (bs q2.1.2.text), .string (bs q4.1.2.text), .int .i64 0]))
 case first =>
  obtain ⟨-, -, -, c3, -, -⟩ := HX11.out.rd.cells
  have hp6 := HX11.out.rd.lt
  have x2 := HX11.out.cell 2 _ rfl
  have xl := HX11.out.lt
  have HF := hid (rsmall_any q4.1.2.text W11 (by have := HTY.out; omega))
  rw [← HFF.out] at HF
  by_cases h0 : q4.2.er = 0
  ·have d0 : (q4.2.er == 0) = true := by rw [h0]; rfl
   have HE := hid (show (decide (q4.2.er = 0) && !ff) = !ff by rw [decide_eq_true h0, Bool.true_and])
   clear h0
   go_wp2_with fail
   refine (HF.out).mono ?_
   rintro en wq ⟨rfl, hbq⟩
   go_wp2_with fail
   go_meet
   case rel => exact ⟨by rw [HE.out], HX11.out.below hbq⟩
  ·have d0 : (q4.2.er == 0) = false := by rw [beq_eq_false_iff_ne]; exact h0
   have HE := hid (show (decide (q4.2.er = 0) && !ff) = false by rw [decide_eq_false h0, Bool.false_and])
   clear h0
   go_wp2_with fail
   go_meet
   case rel => exact ⟨by rw [HE.out], HX11.out⟩
 case rest =>
 rename World => w12
 obtain ⟨rfl, HH⟩ := hcut
 have HXG := hid HH.out
 clear HH HX11
 go_step
 go_cut [] from 52 (fun wx => Hid (BxX w wx p l e R5 v w3.heap.size 34 #[.int .i64 kk, .string (bs q2.1.2.text), .string (bs q4.1.2.text), .int .i64 0]))
 case first =>
  by_cases h0 : q4.2.er = 0
  ·rw [decide_eq_true h0, Bool.true_and]
   clear h0
   cases ff with
   | false =>
    have HE := hid (show R5 = q4.2.fail l 1 by rw [HR5.out]; rfl)
    go_wp2_with fail
    refine (rfail_any10 1 w12 p l e q4.2 v HXG.out.rd K4.out).mono ?_
    rintro en wq ⟨rfl, hrq, htq⟩
    go_wp2_with fail
    go_meet
    case rel => rw [HE.out]; exact HXG.out.step hrq htq
   | true =>
    have HE := hid (show R5 = q4.2 by rw [HR5.out]; rfl)
    go_wp2_with fail
    go_meet
    case rel => rw [HE.out]; exact HXG.out
  ·have HE := hid (show R5 = q4.2 by
    rw [HR5.out]
    split
    ·exact Rw.RS.fail_dead h0 l 1
    ·rfl)
   rw [decide_eq_false h0, Bool.false_and]
   clear h0
   go_wp2_with fail
   go_meet
   case rel => rw [HE.out]; exact HXG.out
 case rest =>
 rename World => w13
 have HX13 := hid hcut.out
 clear hcut HXG
 have C5 := hid (rtok_lit 1 1 ⟨#[99, 111, 115, 116]⟩ Rw.tCost rfl rfl w13 p l e R5 v HX13.out.rd)
 rw [← HQ5.out] at C5
 go_wp2_with fail
 refine (C5.out).mono ?_
 rintro en w14 ⟨rfl, hr, ht⟩
 have HX14 := hid (HX13.out.step hr ht)
 clear hr ht C5 HX13
 have C6 := hid (rnumber_any10 w14 p l e q5.2 v HX14.out.rd)
 rw [← HQ6.out] at C6
 go_wp2_with fail
 refine (C6.out).mono ?_
 rintro en w15 ⟨rfl, hr, ht⟩
 have hX := HX14.out.step hr ht
 have d1 := hX.cell 3 _ rfl
 have df := hX.frozen 3
 have dl := hX.lt
 obtain ⟨W16, hW⟩ : ∃ X, X = w15.setCell ⟨w3.heap.size, 3, none⟩ (.int .i64 q6.1.2.n) := ⟨_, rfl⟩
 have HX16 := hid (show BxX w W16 p l e q6.2 v w3.heap.size 34 #[.int .i64 kk, .string (bs q2.1.2.text), .string (bs q4.1.2.text), .int .i64 q6.1.2.n] by rw [hW]; exact hX.set 3 _)
 clear hr ht hX C6 HX14
 go_upto_region 14 with (fail)
 rw [← hW]
 clear hW d1 df dl
 have C7 := hid (rtok_lit 4 4 ⟨#[59]⟩ [59] rfl rfl W16 p l e q6.2 v HX16.out.rd)
 rw [← HQ7.out] at C7
 go_wp2_with fail
 refine (C7.out).mono ?_
 rintro en w17 ⟨rfl, hr, ht⟩
 have HX17 := hid (HX16.out.step hr ht)
 clear hr ht C7 HX16
 have HDC := hid (show ruleCells d = [.int .i64 kk, .string (bs q2.1.2.text), .string (bs q4.1.2.text), .int .i64 q6.1.2.n] by rw [HDD.out]; rfl)
 have HTWI := hid (show ∀ (x : Rw.Rule) (X : World), Calls Tryz.prog 85 #[.agg #[.int .i64 x.script, .string (bs x.from_), .string (bs x.to_), .int .i64 x.cost], .agg #[.int .i64 kk, .string (bs q2.1.2.text), .string (bs q4.1.2.text), .int .i64 q6.1.2.n]] X (Gives (.bool (decide (x.key = d.key))) X) from fun x X => by
  have := rtwice_any x d X
  rw [HDD.out] at this ⊢
  exact this)
 go_upto_region 16 with (fail)
 go_loopw [6] (fun iv wr => ∃ i : Nat, i ≤ bf.length ∧ iv = .int .i64 i ∧ Hid (BxX w wr p l e (q7.2.tw l (d.key ∈ (bf.take i).map Rw.Rule.key)) v w3.heap.size 34 #[.int .i64 kk, .string (bs q2.1.2.text), .string (bs q4.1.2.text), .int .i64 q6.1.2.n])) (fun iv _ => bf.length - (RowKit.intOf iv).toNat)
 case atStart => exact ⟨0, Nat.zero_le _, rfl, HX17.out⟩
 case round =>
  clear HX17
  obtain ⟨i, hi, rfl, HX⟩ := hrel
  by_cases hlt : i < bf.length
  ·obtain ⟨x, hx⟩ : ∃ x, bf[i]? = some x := ⟨_, List.getElem?_eq_getElem hlt⟩
   obtain ⟨g, o, rfl, hr⟩ : ∃ g o, ba = some ⟨g, o, none⟩ ∧ RowOf wr g o 4 ruleCells bf := by
    obtain ⟨a', cap', ev, -, -, hr⟩ := HBF.out wr HX.out.tch
    cases ev
    exact hr (by omega)
   have hzg := hr.1
   have e0 := row_cell hr hx 0 rfl
   have e1 := row_cell hr hx 1 rfl
   have e2 := row_cell hr hx 2 rfl
   have e3 := row_cell hr hx 3 rfl
   rw [Nat.add_zero] at e0
   have hi0 : (0 : Int) ≤ (i : Int) := by omega
   have hi1 : (i : Int) < (bf.length : Int) := by omega
   have HMM := hid (Rw.mem_more (k := d.key) hx)
   obtain ⟨Ri, hRi⟩ : ∃ r, r = q7.2.tw l (d.key ∈ (bf.take i).map Rw.Rule.key) := ⟨_, rfl⟩
   have HKI := hid (show Ri.er = 0 → 1 ≤ Ri.k by rw [hRi]; exact Rw.RS.tw_k K7.out)
   rw [← hRi] at HX
   have HRI := hid hRi
   clear hRi hr hx
   obtain ⟨-, -, -, c3, -, -⟩ := HX.out.rd.cells
   have hp6 := HX.out.rd.lt
   have x0 := HX.out.cell 0 _ rfl
   have x1 := HX.out.cell 1 _ rfl
   have x2 := HX.out.cell 2 _ rfl
   have x3 := HX.out.cell 3 _ rfl
   have xl := HX.out.lt
   go_upto_region 18 with (fail)
   by_cases h0 : Ri.er = 0
   ·have d0 : (Ri.er == 0) = true := by rw [h0]; rfl
    have HLV := hid (show Ri = q7.2 ∧ ¬ d.key ∈ (bf.take i).map Rw.Rule.key by rw [HRI.out] at h0 ⊢; exact Rw.RS.tw_live h0)
    obtain ⟨tw, htw⟩ : ∃ b, b = decide (x.key = d.key) := ⟨_, rfl⟩
    have HT := hid (HTWI.out x wr.drew)
    rw [← htw] at HT
    have HTW := hid htw
    clear h0 htw
    refine wp_heldS (S := StillAt wr) (by kernel_rfl) ?_
    simp only [List.size_toArray, List.length_cons, List.length_nil, Nat.reduceAdd]
    intro hc
    have S0 : StillAt wr (Array.replicate 13 false) wr.drew := (Below.refl _ _).drew
    refine wpAnyS_take (i := 0) (v := .pointer (some ⟨p, 0, none⟩)) rfl (by kernel_rfl) (by kernel_rfl) (by kernel_rfl) (fun _ _ _ h => h) (fun _ _ => Iff.rfl) hc (by first | rfl | simp [Region.wanted]) (fun wx hx => ?_) S0 (fun hc S0 => ?_)
    ·go_simp
    try simp only [tk1, tk3, Act.put, tk4, tk5, tk6]
    refine wpAnyS_take (i := 1) (v := .pointer (some ⟨p, 0, none⟩)) rfl (by kernel_rfl) (by kernel_rfl) (by kernel_rfl) (fun _ _ _ h => h) (fun _ _ => Iff.rfl) hc (by first | rfl | simp [Region.wanted]) (fun wx hx => ?_) S0 (fun hc S0 => ?_)
    ·go_simp
    try simp only [tk1, tk2, tk3, Act.put, tk4, tk5, tk6]
    refine wpAnyS_take (i := 2) (v := .pointer (some ⟨p, 3, none⟩)) rfl (by kernel_rfl) (by kernel_rfl) (by kernel_rfl) (fun _ _ _ h => h) (fun _ _ => Iff.rfl) hc (by first | rfl | simp [Region.wanted]) (fun wx hx => ?_) S0 (fun hc S0 => ?_)
    ·go_simp
    try simp only [tk1, tk2, tk3, Act.put, tk4, tk5, tk6]
    refine wpAnyS_take (i := 3) (v := .int .i64 Ri.er) rfl (by kernel_rfl) (by kernel_rfl) (by kernel_rfl) (fun _ _ _ h => h) (fun _ _ => Iff.rfl) hc (by first | rfl | simp [Region.wanted]) (fun wx hx => ?_) S0 (fun hc S0 => ?_)
    ·have q := (hx.still.cell (p := ⟨p, 3, none⟩) hp6).trans c3
     go_simp
    try simp only [tk1, tk2, tk3, Act.put, tk4, tk5, tk6]
    refine wpAnyS_take (i := 4) (v := .bool true) rfl (by kernel_rfl) (by kernel_rfl) (by kernel_rfl) (fun _ _ _ h => h) (fun _ _ => Iff.rfl) hc (by first | rfl | simp [Region.wanted]) (fun wx hx => ?_) S0 (fun hc S0 => ?_)
    ·go_simp
    try simp only [tk1, tk2, tk3, Act.put, tk4, tk5, tk6]
    refine wpAnyS_take (i := 5) (v := .bool true) rfl (by kernel_rfl) (by kernel_rfl) (by kernel_rfl) (fun _ _ _ h => h) (fun _ _ => Iff.rfl) hc (by first | rfl | simp [Region.wanted]) (fun wx hx => ?_) S0 (fun hc S0 => ?_)
    ·go_simp
    try simp only [tk1, tk2, tk3, Act.put, tk4, tk5, tk6]
    refine wpAnyS_take (i := 6) (v := .slice (some ⟨g, o, none⟩) bf.length bc) rfl (by kernel_rfl) (by kernel_rfl) (by kernel_rfl) (fun _ _ _ h => h) (fun _ _ => Iff.rfl) hc (by first | rfl | simp [Region.wanted]) (fun wx hx => ?_) S0 (fun hc S0 => ?_)
    ·go_simp
    try simp only [tk1, tk2, tk3, Act.put, tk4, tk5, tk6]
    refine wpAnyS_take (i := 7) (v := .int .i64 i) rfl (by kernel_rfl) (by kernel_rfl) (by kernel_rfl) (fun _ _ _ h => h) (fun _ _ => Iff.rfl) hc (by first | rfl | simp [Region.wanted]) (fun wx hx => ?_) S0 (fun hc S0 => ?_)
    ·go_simp
    try simp only [tk1, tk2, tk3, Act.put, tk4, tk5, tk6]
    refine wpAnyS_take (i := 8) (v := .pointer (some ⟨g, o + i * 4, none⟩)) rfl (by kernel_rfl) (by kernel_rfl) (by kernel_rfl) (fun _ _ _ h => h) (fun _ _ => Iff.rfl) hc (by first | rfl | simp [Region.wanted]) (fun wx hx => ?_) S0 (fun hc S0 => ?_)
    ·go_simp
    try simp only [tk1, tk2, tk3, Act.put, tk4, tk5, tk6]
    refine wpAnyS_take (i := 9) (v := .agg #[.int .i64 x.script, .string (bs x.from_), .string (bs x.to_), .int .i64 x.cost]) rfl (by kernel_rfl) (by kernel_rfl) (by kernel_rfl) (fun _ _ _ h => h) (fun _ _ => Iff.rfl) hc (by first | rfl | simp [Region.wanted]) (fun wx hx => ?_) S0 (fun hc S0 => ?_)
    ·have g0 := (hx.still.cell (p := ⟨g, o + i * 4, none⟩) hzg).trans e0; have g1 := (hx.still.cell (p := ⟨g, o + i * 4 + 1, none⟩) hzg).trans e1; have g2 := (hx.still.cell (p := ⟨g, o + i * 4 + 2, none⟩) hzg).trans e2; have g3 := (hx.still.cell (p := ⟨g, o + i * 4 + 3, none⟩) hzg).trans e3
     go_simp
    try simp only [tk1, tk2, tk3, Act.put, tk4, tk5, tk6]
    refine wpAnyS_take (i := 10) (v := .agg #[.int .i64 kk, .string (bs q2.1.2.text), .string (bs q4.1.2.text), .int .i64 q6.1.2.n]) rfl (by kernel_rfl) (by kernel_rfl) (by kernel_rfl) (fun _ _ _ h => h) (fun _ _ => Iff.rfl) hc (by first | rfl | simp [Region.wanted]) (fun wx hx => ?_) S0 (fun hc S0 => ?_)
    ·have g0 := (hx.still.cell (p := ⟨w3.heap.size, 0, none⟩) xl).trans x0; have g1 := (hx.still.cell (p := ⟨w3.heap.size, 1, none⟩) xl).trans x1; have g2 := (hx.still.cell (p := ⟨w3.heap.size, 2, none⟩) xl).trans x2; have g3 := (hx.still.cell (p := ⟨w3.heap.size, 3, none⟩) xl).trans x3
     go_simp
    try simp only [tk1, tk2, tk3, Act.put, tk4, tk5, tk6]
    refine wpAnyS_one (i := 11) rfl (by kernel_rfl) (by rfl) hc (fun K' hK => ?_)
    go_simp
    refine (HT.out).mono ?_
    rintro en wq ⟨rfl, hbq⟩
    have HBQ := hid (Below.step (Below.refl _ wr).drew hbq)
    clear hbq
    refine hK.out _ _ HBQ.out (fun hc => ?_)
    clear hK K'
    have S0 : StillAt wr #[] wq := HBQ.out
    try simp only [tk1, tk2, tk3, Act.put, tk4, tk5, tk6]
    refine wpAnyS_take (i := 12) (v := .bool tw) rfl (by kernel_rfl) (by kernel_rfl) (by kernel_rfl) (fun _ _ _ h => h) (fun _ _ => Iff.rfl) hc (by first | rfl | simp [Region.wanted]) (fun wx hx => ?_) S0 (fun hc S0 => ?_)
    ·go_simp
    try simp only [tk1, tk2, tk3, Act.put, tk4, tk5, tk6]
    refine wpAnyS_done (by kernel_rfl) ?_ _
    clear hc S0
    have HX2 := hid (HX.out.below HBQ.out)
    clear e0 e1 e2 e3 hzg c3 hp6 x0 x1 x2 x3 xl d0 HBQ HT
    cases tw with
    | true =>
     have HE := hid (show q7.2.tw l (d.key ∈ (bf.take (i + 1)).map Rw.Rule.key) = Ri.fail l 9 by
      rw [HLV.out.1]
      unfold Rw.RS.tw
      rw [if_pos (HMM.out.2 (.inr (of_decide_eq_true HTW.out.symm)))])
     go_wp2_with fail
     refine (rfail_any10 9 wq p l e Ri v HX2.out.rd HKI.out).mono ?_
     rintro en w20 ⟨rfl, hr20, ht20⟩
     have HX3 := hid (HX2.out.step hr20 ht20)
     rw [← HE.out] at HX3
     clear hr20 ht20
     go_wp2_with fail
     go_roundw
     case rel => exact ⟨i + 1, by omega, by go_num, HX3⟩
     case measure => simp [RowKit.intOf]; omega
    | false =>
     have HE := hid (show q7.2.tw l (d.key ∈ (bf.take (i + 1)).map Rw.Rule.key) = Ri by
      rw [HLV.out.1]
      unfold Rw.RS.tw
      rw [if_neg (fun h => (HMM.out.1 h).elim HLV.out.2 (of_decide_eq_false HTW.out.symm))])
     rw [← HE.out] at HX2
     go_wp2_with fail
     go_roundw
     case rel => exact ⟨i + 1, by omega, by go_num, HX2⟩
     case measure => simp [RowKit.intOf]; omega
   ·have d0 : (Ri.er == 0) = false := by rw [beq_eq_false_iff_ne]; exact h0
    have HE := hid (show q7.2.tw l (d.key ∈ (bf.take (i + 1)).map Rw.Rule.key) = Ri by rw [HRI.out] at h0 ⊢; exact Rw.RS.tw_dead h0 (fun h => HMM.out.2 (.inl h)))
    clear h0
    refine wp_heldS (S := StillAt wr) (by kernel_rfl) ?_
    simp only [List.size_toArray, List.length_cons, List.length_nil, Nat.reduceAdd]
    intro hc
    have S0 : StillAt wr (Array.replicate 13 false) wr.drew := (Below.refl _ _).drew
    refine wpAnyS_take (i := 0) (v := .pointer (some ⟨p, 0, none⟩)) rfl (by kernel_rfl) (by kernel_rfl) (by kernel_rfl) (fun _ _ _ h => h) (fun _ _ => Iff.rfl) hc (by first | rfl | simp [Region.wanted]) (fun wx hx => ?_) S0 (fun hc S0 => ?_)
    ·go_simp
    try simp only [tk1, tk3, Act.put, tk4, tk5, tk6]
    refine wpAnyS_take (i := 1) (v := .pointer (some ⟨p, 0, none⟩)) rfl (by kernel_rfl) (by kernel_rfl) (by kernel_rfl) (fun _ _ _ h => h) (fun _ _ => Iff.rfl) hc (by first | rfl | simp [Region.wanted]) (fun wx hx => ?_) S0 (fun hc S0 => ?_)
    ·go_simp
    try simp only [tk1, tk2, tk3, Act.put, tk4, tk5, tk6]
    refine wpAnyS_take (i := 2) (v := .pointer (some ⟨p, 3, none⟩)) rfl (by kernel_rfl) (by kernel_rfl) (by kernel_rfl) (fun _ _ _ h => h) (fun _ _ => Iff.rfl) hc (by first | rfl | simp [Region.wanted]) (fun wx hx => ?_) S0 (fun hc S0 => ?_)
    ·go_simp
    try simp only [tk1, tk2, tk3, Act.put, tk4, tk5, tk6]
    refine wpAnyS_take (i := 3) (v := .int .i64 Ri.er) rfl (by kernel_rfl) (by kernel_rfl) (by kernel_rfl) (fun _ _ _ h => h) (fun _ _ => Iff.rfl) hc (by first | rfl | simp [Region.wanted]) (fun wx hx => ?_) S0 (fun hc S0 => ?_)
    ·have q := (hx.still.cell (p := ⟨p, 3, none⟩) hp6).trans c3
     go_simp
    try simp only [tk1, tk2, tk3, Act.put, tk4, tk5, tk6]
    refine wpAnyS_take (i := 4) (v := .bool false) rfl (by kernel_rfl) (by kernel_rfl) (by kernel_rfl) (fun _ _ _ h => h) (fun _ _ => Iff.rfl) hc (by first | rfl | simp [Region.wanted]) (fun wx hx => ?_) S0 (fun hc S0 => ?_)
    ·go_simp
    try simp only [tk1, tk2, tk3, Act.put, tk4, tk5, tk6]
    refine wpAnyS_take (i := 5) (v := .bool false) rfl (by kernel_rfl) (by kernel_rfl) (by kernel_rfl) (fun _ _ _ h => h) (fun _ _ => Iff.rfl) hc (by first | rfl | simp [Region.wanted]) (fun wx hx => ?_) S0 (fun hc S0 => ?_)
    ·go_simp
    try simp only [tk1, tk2, tk3, Act.put, tk4, tk5, tk6]
    refine wpAnyS_skip (i := 6) rfl (by kernel_rfl) (by kernel_rfl) (by kernel_rfl) (fun _ _ _ h => h) (fun _ _ => Iff.rfl) hc (by rfl) S0 (fun hc S0 => ?_)
    try simp only [tk1, tk2, tk3, Act.put, tk4, tk5, tk6]
    refine wpAnyS_skip (i := 7) rfl (by kernel_rfl) (by kernel_rfl) (by kernel_rfl) (fun _ _ _ h => h) (fun _ _ => Iff.rfl) hc (by rfl) S0 (fun hc S0 => ?_)
    try simp only [tk1, tk2, tk3, Act.put, tk4, tk5, tk6]
    refine wpAnyS_skip (i := 8) rfl (by kernel_rfl) (by kernel_rfl) (by kernel_rfl) (fun _ _ _ h => h) (fun _ _ => Iff.rfl) hc (by rfl) S0 (fun hc S0 => ?_)
    try simp only [tk1, tk2, tk3, Act.put, tk4, tk5, tk6]
    refine wpAnyS_skip (i := 9) rfl (by kernel_rfl) (by kernel_rfl) (by kernel_rfl) (fun _ _ _ h => h) (fun _ _ => Iff.rfl) hc (by rfl) S0 (fun hc S0 => ?_)
    try simp only [tk1, tk2, tk3, Act.put, tk4, tk5, tk6]
    refine wpAnyS_skip (i := 10) rfl (by kernel_rfl) (by kernel_rfl) (by kernel_rfl) (fun _ _ _ h => h) (fun _ _ => Iff.rfl) hc (by rfl) S0 (fun hc S0 => ?_)
    try simp only [tk1, tk2, tk3, Act.put, tk4, tk5, tk6]
    refine wpAnyS_skip (i := 11) rfl (by kernel_rfl) (by kernel_rfl) (by kernel_rfl) (fun _ _ _ h => h) (fun _ _ => Iff.rfl) hc (by rfl) S0 (fun hc S0 => ?_)
    try simp only [tk1, tk2, tk3, Act.put, tk4, tk5, tk6]
    refine wpAnyS_one (i := 12) rfl (by kernel_rfl) (by rfl) hc (fun K' hK => ?_)
    go_simp
    refine hK.out _ _ (Below.refl _ wr).drew (fun hc => ?_)
    clear hK K'
    have S0 : StillAt wr #[] wr.drew := (Below.refl _ wr).drew
    try simp only [tk1, tk2, tk3, Act.put, tk4, tk5, tk6]
    refine wpAnyS_done (by kernel_rfl) ?_ _
    clear hc S0
    have HX2 := hid (HX.out.below (Below.refl _ wr).drew)
    rw [← HE.out] at HX2
    clear e0 e1 e2 e3 hzg c3 hp6 x0 x1 x2 x3 xl d0
    go_wp2_with fail
    go_roundw
    case rel => exact ⟨i + 1, by omega, by go_num, HX2⟩
    case measure => simp [RowKit.intOf]; omega
  ·have HIB := hid (show q7.2.tw l (d.key ∈ (bf.take i).map Rw.Rule.key) = q7.2.tw l (d.key ∈ bf.map Rw.Rule.key) by rw [List.take_of_length_le (by omega)])
   rw [HIB.out] at HX
   have hi1 : ¬ (i : Int) < (bf.length : Int) := by omega
   have HSL := hid (show ∀ X, Below wr.heap.size wr X → SlOf X (.slice ba bf.length bc) 4 ruleCells bf from fun X hX => HBF.out X (HX.out.tch.step hX))
   have hsz := HX.out.tch.size
   obtain ⟨i0, hi0, hz0, hz1, hz2⟩ := info_parts Tryz.infoRuleP
   have r0 := HX.out.cell 0 _ rfl
   have r1 := HX.out.cell 1 _ rfl
   have r2 := HX.out.cell 2 _ rfl
   have r3 := HX.out.cell 3 _ rfl
   have ql := HX.out.lt
   have own_ge : ∀ {X : World} {u : Value} {n : Nat} {xs : List Value} (_ : X.ownsRow wr.heap.size 34 4 u n xs) {r : Nat}, u.ownBlock = some r → wr.heap.size ≤ r := fun ho r e => (ho.lt r e).1
   go_upto_region 20 with (fail)
   refine wp_heldS (S := StillAt wr) (by kernel_rfl) ?_
   simp only [List.size_toArray, List.length_cons, List.length_nil, Nat.reduceAdd]
   intro hc
   have S0 : StillAt wr (Array.replicate 7 false) wr.drew := (Below.refl _ _).drew
   refine wpAnyS_take (i := 1) (v := .slice ba bf.length bc) rfl (by kernel_rfl) (by kernel_rfl) (by kernel_rfl) (fun _ _ _ h => h) (fun _ _ => Iff.rfl) hc (by first | rfl | simp [Region.wanted]) (fun wx hx => ?_) S0 (fun hc S0 => ?_)
   ·go_simp
   try simp only [tk1, tk2, tk3, Act.put, tk4, tk5, tk6]
   refine wpAnyS_take (i := 3) (v := .agg #[.int .i64 kk, .string (bs q2.1.2.text), .string (bs q4.1.2.text), .int .i64 q6.1.2.n]) rfl (by kernel_rfl) (by kernel_rfl) (by kernel_rfl) (fun _ _ _ h => h) (fun _ _ => Iff.rfl) hc (by first | rfl | simp [Region.wanted]) (fun wx hx => ?_) S0 (fun hc S0 => ?_)
   ·have q0 := (hx.still.cell (p := ⟨w3.heap.size, 0, none⟩) ql).trans r0; have q1 := (hx.still.cell (p := ⟨w3.heap.size, 1, none⟩) ql).trans r1; have q2 := (hx.still.cell (p := ⟨w3.heap.size, 2, none⟩) ql).trans r2; have q3 := (hx.still.cell (p := ⟨w3.heap.size, 3, none⟩) ql).trans r3
    go_simp
   try simp only [tk1, tk2, tk3, Act.put, tk4, tk5, tk6]
   obtain ⟨A, hA⟩ : ∃ A, A = wr.drew := ⟨_, rfl⟩
   have S00 : Below wr.heap.size wr A := by rw [hA]; exact (Below.refl _ _).drew
   rw [← hA]
   clear S0 hA
   refine wpAnyS_some (rs := [0, 4]) (by kernel_rfl) (by simp) hc (fun i hi => ?_)
   simp only [List.mem_cons, List.not_mem_nil, or_false] at hi
   rcases hi with rfl | rfl
   ·refine ⟨_, rfl, by rfl, fun K' hK => ?_⟩
    go_simp
    obtain ⟨A1, hA1⟩ : ∃ Az, Az = (A).alloc (.cells #[] 34) := ⟨_, rfl⟩
    rw [← hA1]
    have hown1 : A1.ownsRow (wr.heap.size) 34 4 (.slice (some ⟨(A).heap.size, 0, none⟩) 0 0) 0 [] := by rw [hA1]; exact World.ownsRow_made (A) #[] 0 (by have := (S00).size; omega) (by unfold maxLen; omega) rfl
    have hbz1 : Below (A).heap.size (A) A1 := by rw [hA1]; exact (Below.refl _ _).alloc (Nat.le_refl _) _
    have hz1a : (A).heap.size < A1.heap.size := by rw [hA1, World.size_alloc]; omega
    have S1 : Below wr.heap.size wr A1 := Below.step (S00) hbz1
    clear hA1
    refine hK.out _ _ (show StillAt wr #[] _ from S1) (fun hc => ?_)
    clear hK K'
    try simp only [tk1, tk2, tk3, Act.put, tk4, tk5, tk6]
    refine wpAnyS_some (rs := [2, 4]) (by kernel_rfl) (by simp) hc (fun i hi => ?_)
    simp only [List.mem_cons, List.not_mem_nil, or_false] at hi
    rcases hi with rfl | rfl
    ·refine ⟨_, rfl, by rfl, fun K' hK => ?_⟩
     refine wp_append_list (.tmp 83) (.tmp 84) 22 rfl (wr.heap.size) 34 i0 (.agg #[.int .i64 0, .string ⟨#[]⟩, .string ⟨#[]⟩, .int .i64 0]) 48 Tryz.underlying22 hi0 hz0 hz1 hz2 rfl (by decide) _ 0 [] rfl hown1 _ rfl (HSL.out _ S1) (fun _ => rfl) (rule_one _) (by unfold maxLen; omega) (by omega) (by have := (S1).size; omega) ?_
     intro v2 w2 ho2 hg2 hor2
     rw [Nat.zero_add, List.nil_append] at ho2
     have hT2 : Tch (fun k => k = (A).heap.size) (A1) w2 := Tch.of_grown hg2 (fun r e => by cases e; rfl)
     have S2 : Below wr.heap.size wr w2 := (S1).trans (hT2.below (S1).size (fun k e => by have := S00.size; have e' : k = (A).heap.size := e; omega))
     obtain ⟨va2, vc2, rfl⟩ := ownsRow_slice ho2
     refine hK.out _ _ (show StillAt wr #[] _ from S2) (fun hc => ?_)
     clear hK K'
     try simp only [tk1, tk2, tk3, Act.put, tk4, tk5, tk6]
     refine wpAnyS_some (rs := [4]) (by kernel_rfl) (by simp) hc (fun i hi => ?_)
     simp only [List.mem_cons, List.not_mem_nil, or_false] at hi
     subst hi
     refine ⟨_, rfl, by rfl, fun K' hK => ?_⟩
     go_simp
     obtain ⟨A3, hA3⟩ : ∃ Az, Az = (w2).alloc (.cells #[.int .i64 kk, .string (bs q2.1.2.text), .string (bs q4.1.2.text), .int .i64 q6.1.2.n] 34) := ⟨_, rfl⟩
     rw [← hA3]
     have hrow3 : A3.heap[(w2).heap.size]? = some (.cells #[.int .i64 kk, .string (bs q2.1.2.text), .string (bs q4.1.2.text), .int .i64 q6.1.2.n] 34 (0, 0)) := by rw [hA3]; exact alloc_new _ _
     have hbl3 : Below (w2).heap.size (w2) A3 := by rw [hA3]; exact (Below.refl _ _).alloc (Nat.le_refl _) _
     have hz3a : (w2).heap.size < A3.heap.size := by rw [hA3, World.size_alloc]; omega
     have S3 : Below wr.heap.size wr A3 := Below.step (S2) hbl3
     clear hA3
     refine hK.out _ _ (show StillAt wr #[] _ from S3) (fun hc => ?_)
     clear hK K'
     try simp only [tk1, tk2, tk3, Act.put, tk4, tk5, tk6]
     refine wpAnyS_some (rs := [5]) (by kernel_rfl) (by simp) hc (fun i hi => ?_)
     simp only [List.mem_cons, List.not_mem_nil, or_false] at hi
     subst hi
     refine ⟨_, rfl, by rfl, fun K' hK => ?_⟩
     refine wp_append_own _ _ _ 22 rfl (wr.heap.size) 34 i0 (.agg #[.int .i64 0, .string ⟨#[]⟩, .string ⟨#[]⟩, .int .i64 0]) 4 48 Tryz.underlying22 hi0 hz0 hz1 hz2 rfl (by decide) _ _ _ rfl (ownsRow_below ho2 hbl3) ⟨w2.heap.size, 0, none⟩ 1 1 [.int .i64 kk, .string (bs q2.1.2.text), .string (bs q4.1.2.text), .int .i64 q6.1.2.n] rfl rfl (rowX_blk hrow3) (by simp [Value.oneCell']) (by unfold maxLen; omega) (by omega) (by have := (S3).size; omega) ?_
     intro v5 w5 ho5 hg5 _
     have S5 : Below wr.heap.size wr w5 := (S3).trans ((Tch.of_grown (O := fun k => wr.heap.size ≤ k) hg5 (fun r e => own_ge (ownsRow_below ho2 hbl3) e)).below (S3).size (fun k e => e))
     obtain ⟨va5, vc5, rfl⟩ := ownsRow_slice ho5
     refine hK.out _ _ (show StillAt wr #[] _ from S5) (fun hc => ?_)
     clear hK K'
     try simp only [tk1, tk2, tk3, Act.put, tk4, tk5, tk6]
     refine wpAnyS_one (i := 6) rfl (by kernel_rfl) (by rfl) hc (fun K' hK => ?_)
     go_simp
     refine hK.out _ _ (show StillAt wr #[] _ from S5) (fun hc => ?_)
     clear hK K'
     try simp only [tk1, tk2, tk3, Act.put, tk4, tk5, tk6]
     refine wpAnyS_done (by kernel_rfl) ?_ _
     go_wp2_with fail
     go_ret
     rw [HRES.out]
     exact ⟨_, rfl, by rw [List.flatMap_append, List.flatMap_cons, List.flatMap_nil, List.append_nil, HDC.out]; exact ownsRow_from ho5 hsz, HX.out.rd.below S5, HX.out.tch.step S5⟩
    ·refine ⟨_, rfl, by rfl, fun K' hK => ?_⟩
     go_simp
     obtain ⟨A3, hA3⟩ : ∃ Az, Az = (A1).alloc (.cells #[.int .i64 kk, .string (bs q2.1.2.text), .string (bs q4.1.2.text), .int .i64 q6.1.2.n] 34) := ⟨_, rfl⟩
     rw [← hA3]
     have hrow3 : A3.heap[(A1).heap.size]? = some (.cells #[.int .i64 kk, .string (bs q2.1.2.text), .string (bs q4.1.2.text), .int .i64 q6.1.2.n] 34 (0, 0)) := by rw [hA3]; exact alloc_new _ _
     have hbl3 : Below (A1).heap.size (A1) A3 := by rw [hA3]; exact (Below.refl _ _).alloc (Nat.le_refl _) _
     have hz3a : (A1).heap.size < A3.heap.size := by rw [hA3, World.size_alloc]; omega
     have S3 : Below wr.heap.size wr A3 := Below.step (S1) hbl3
     clear hA3
     refine hK.out _ _ (show StillAt wr #[] _ from S3) (fun hc => ?_)
     clear hK K'
     try simp only [tk1, tk2, tk3, Act.put, tk4, tk5, tk6]
     refine wpAnyS_some (rs := [2]) (by kernel_rfl) (by simp) hc (fun i hi => ?_)
     simp only [List.mem_cons, List.not_mem_nil, or_false] at hi
     subst hi
     refine ⟨_, rfl, by rfl, fun K' hK => ?_⟩
     refine wp_append_list (.tmp 83) (.tmp 84) 22 rfl (wr.heap.size) 34 i0 (.agg #[.int .i64 0, .string ⟨#[]⟩, .string ⟨#[]⟩, .int .i64 0]) 48 Tryz.underlying22 hi0 hz0 hz1 hz2 rfl (by decide) _ 0 [] rfl (ownsRow_below hown1 hbl3) _ rfl (HSL.out _ S3) (fun _ => rfl) (rule_one _) (by unfold maxLen; omega) (by omega) (by have := (S3).size; omega) ?_
     intro v2 w2 ho2 hg2 hor2
     rw [Nat.zero_add, List.nil_append] at ho2
     have hT2 : Tch (fun k => k = (A).heap.size) (A3) w2 := Tch.of_grown hg2 (fun r e => by cases e; rfl)
     have S2 : Below wr.heap.size wr w2 := (S3).trans (hT2.below (S3).size (fun k e => by have := S00.size; have e' : k = (A).heap.size := e; omega))
     obtain ⟨va2, vc2, rfl⟩ := ownsRow_slice ho2
     refine hK.out _ _ (show StillAt wr #[] _ from S2) (fun hc => ?_)
     clear hK K'
     try simp only [tk1, tk2, tk3, Act.put, tk4, tk5, tk6]
     have hrow2 := (hT2.block _ (Array.getElem?_eq_some_iff.1 hrow3).1 (by show ¬ A1.heap.size = A.heap.size; omega)).trans hrow3
     refine wpAnyS_some (rs := [5]) (by kernel_rfl) (by simp) hc (fun i hi => ?_)
     simp only [List.mem_cons, List.not_mem_nil, or_false] at hi
     subst hi
     refine ⟨_, rfl, by rfl, fun K' hK => ?_⟩
     refine wp_append_own _ _ _ 22 rfl (wr.heap.size) 34 i0 (.agg #[.int .i64 0, .string ⟨#[]⟩, .string ⟨#[]⟩, .int .i64 0]) 4 48 Tryz.underlying22 hi0 hz0 hz1 hz2 rfl (by decide) _ _ _ rfl ho2 ⟨A1.heap.size, 0, none⟩ 1 1 [.int .i64 kk, .string (bs q2.1.2.text), .string (bs q4.1.2.text), .int .i64 q6.1.2.n] rfl rfl (rowX_blk hrow2) (by simp [Value.oneCell']) (by unfold maxLen; omega) (by omega) (by have := (S2).size; omega) ?_
     intro v5 w5 ho5 hg5 _
     have S5 : Below wr.heap.size wr w5 := (S2).trans ((Tch.of_grown (O := fun k => wr.heap.size ≤ k) hg5 (fun r e => own_ge ho2 e)).below (S2).size (fun k e => e))
     obtain ⟨va5, vc5, rfl⟩ := ownsRow_slice ho5
     refine hK.out _ _ (show StillAt wr #[] _ from S5) (fun hc => ?_)
     clear hK K'
     try simp only [tk1, tk2, tk3, Act.put, tk4, tk5, tk6]
     refine wpAnyS_one (i := 6) rfl (by kernel_rfl) (by rfl) hc (fun K' hK => ?_)
     go_simp
     refine hK.out _ _ (show StillAt wr #[] _ from S5) (fun hc => ?_)
     clear hK K'
     try simp only [tk1, tk2, tk3, Act.put, tk4, tk5, tk6]
     refine wpAnyS_done (by kernel_rfl) ?_ _
     go_wp2_with fail
     go_ret
     rw [HRES.out]
     exact ⟨_, rfl, by rw [List.flatMap_append, List.flatMap_cons, List.flatMap_nil, List.append_nil, HDC.out]; exact ownsRow_from ho5 hsz, HX.out.rd.below S5, HX.out.tch.step S5⟩
   ·refine ⟨_, rfl, by rfl, fun K' hK => ?_⟩
    go_simp
    obtain ⟨A3, hA3⟩ : ∃ Az, Az = (A).alloc (.cells #[.int .i64 kk, .string (bs q2.1.2.text), .string (bs q4.1.2.text), .int .i64 q6.1.2.n] 34) := ⟨_, rfl⟩
    rw [← hA3]
    have hrow3 : A3.heap[(A).heap.size]? = some (.cells #[.int .i64 kk, .string (bs q2.1.2.text), .string (bs q4.1.2.text), .int .i64 q6.1.2.n] 34 (0, 0)) := by rw [hA3]; exact alloc_new _ _
    have hbl3 : Below (A).heap.size (A) A3 := by rw [hA3]; exact (Below.refl _ _).alloc (Nat.le_refl _) _
    have hz3a : (A).heap.size < A3.heap.size := by rw [hA3, World.size_alloc]; omega
    have S3 : Below wr.heap.size wr A3 := Below.step (S00) hbl3
    clear hA3
    refine hK.out _ _ (show StillAt wr #[] _ from S3) (fun hc => ?_)
    clear hK K'
    try simp only [tk1, tk2, tk3, Act.put, tk4, tk5, tk6]
    refine wpAnyS_some (rs := [0]) (by kernel_rfl) (by simp) hc (fun i hi => ?_)
    simp only [List.mem_cons, List.not_mem_nil, or_false] at hi
    subst hi
    refine ⟨_, rfl, by rfl, fun K' hK => ?_⟩
    go_simp
    obtain ⟨A1, hA1⟩ : ∃ Az, Az = (A3).alloc (.cells #[] 34) := ⟨_, rfl⟩
    rw [← hA1]
    have hown1 : A1.ownsRow (wr.heap.size) 34 4 (.slice (some ⟨(A3).heap.size, 0, none⟩) 0 0) 0 [] := by rw [hA1]; exact World.ownsRow_made (A3) #[] 0 (by have := (S3).size; omega) (by unfold maxLen; omega) rfl
    have hbz1 : Below (A3).heap.size (A3) A1 := by rw [hA1]; exact (Below.refl _ _).alloc (Nat.le_refl _) _
    have hz1a : (A3).heap.size < A1.heap.size := by rw [hA1, World.size_alloc]; omega
    have S1 : Below wr.heap.size wr A1 := Below.step (S3) hbz1
    clear hA1
    refine hK.out _ _ (show StillAt wr #[] _ from S1) (fun hc => ?_)
    clear hK K'
    try simp only [tk1, tk2, tk3, Act.put, tk4, tk5, tk6]
    have hrow1 := (hbz1.block _ (Array.getElem?_eq_some_iff.1 hrow3).1).trans hrow3
    refine wpAnyS_some (rs := [2]) (by kernel_rfl) (by simp) hc (fun i hi => ?_)
    simp only [List.mem_cons, List.not_mem_nil, or_false] at hi
    subst hi
    refine ⟨_, rfl, by rfl, fun K' hK => ?_⟩
    refine wp_append_list (.tmp 83) (.tmp 84) 22 rfl (wr.heap.size) 34 i0 (.agg #[.int .i64 0, .string ⟨#[]⟩, .string ⟨#[]⟩, .int .i64 0]) 48 Tryz.underlying22 hi0 hz0 hz1 hz2 rfl (by decide) _ 0 [] rfl hown1 _ rfl (HSL.out _ S1) (fun _ => rfl) (rule_one _) (by unfold maxLen; omega) (by omega) (by have := (S1).size; omega) ?_
    intro v2 w2 ho2 hg2 hor2
    rw [Nat.zero_add, List.nil_append] at ho2
    have hT2 : Tch (fun k => k = (A3).heap.size) (A1) w2 := Tch.of_grown hg2 (fun r e => by cases e; rfl)
    have S2 : Below wr.heap.size wr w2 := (S1).trans (hT2.below (S1).size (fun k e => by have := S00.size; have e' : k = (A3).heap.size := e; omega))
    obtain ⟨va2, vc2, rfl⟩ := ownsRow_slice ho2
    refine hK.out _ _ (show StillAt wr #[] _ from S2) (fun hc => ?_)
    clear hK K'
    try simp only [tk1, tk2, tk3, Act.put, tk4, tk5, tk6]
    have hrow2 := (hT2.block _ (Array.getElem?_eq_some_iff.1 hrow1).1 (by show ¬ A.heap.size = A3.heap.size; omega)).trans hrow1
    refine wpAnyS_some (rs := [5]) (by kernel_rfl) (by simp) hc (fun i hi => ?_)
    simp only [List.mem_cons, List.not_mem_nil, or_false] at hi
    subst hi
    refine ⟨_, rfl, by rfl, fun K' hK => ?_⟩
    refine wp_append_own _ _ _ 22 rfl (wr.heap.size) 34 i0 (.agg #[.int .i64 0, .string ⟨#[]⟩, .string ⟨#[]⟩, .int .i64 0]) 4 48 Tryz.underlying22 hi0 hz0 hz1 hz2 rfl (by decide) _ _ _ rfl ho2 ⟨A.heap.size, 0, none⟩ 1 1 [.int .i64 kk, .string (bs q2.1.2.text), .string (bs q4.1.2.text), .int .i64 q6.1.2.n] rfl rfl (rowX_blk hrow2) (by simp [Value.oneCell']) (by unfold maxLen; omega) (by omega) (by have := (S2).size; omega) ?_
    intro v5 w5 ho5 hg5 _
    have S5 : Below wr.heap.size wr w5 := (S2).trans ((Tch.of_grown (O := fun k => wr.heap.size ≤ k) hg5 (fun r e => own_ge ho2 e)).below (S2).size (fun k e => e))
    obtain ⟨va5, vc5, rfl⟩ := ownsRow_slice ho5
    refine hK.out _ _ (show StillAt wr #[] _ from S5) (fun hc => ?_)
    clear hK K'
    try simp only [tk1, tk2, tk3, Act.put, tk4, tk5, tk6]
    refine wpAnyS_one (i := 6) rfl (by kernel_rfl) (by rfl) hc (fun K' hK => ?_)
    go_simp
    refine hK.out _ _ (show StillAt wr #[] _ from S5) (fun hc => ?_)
    clear hK K'
    try simp only [tk1, tk2, tk3, Act.put, tk4, tk5, tk6]
    refine wpAnyS_done (by kernel_rfl) ?_ _
    go_wp2_with fail
    go_ret
    rw [HRES.out]
    exact ⟨_, rfl, by rw [List.flatMap_append, List.flatMap_cons, List.flatMap_nil, List.append_nil, HDC.out]; exact ownsRow_from ho5 hsz, HX.out.rd.below S5, HX.out.tch.step S5⟩

end Go.Proofs.YtdchjacccmajcaaGreatDoor
