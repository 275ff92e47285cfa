/-
 The reference's reader of tables: drop. Conditions: lengths. (Printed by tools/mkRx5.py.)
-/
import Derived.Test.YtdchjacccmajcaaGreatDoorZRx4
import Derived.Test.YtdchjacccmajcaaGreatDoorZMRr
import Derived.Test.YtdchjacccmajcaaGreatDoorZRv4
import Derived.Test.YtdchjacccmajcaaGreatDoorZMList
import Derived.Deep.Cut
namespace Rw
open Fa (T)
theorem RS.tok_mem (r : RS) (l : List T) (e kd : Nat) (x : List UInt8) : (r.tok l e kd x).1 = zT ∨ (r.tok l e kd x).1 ∈ l := by
 unfold RS.tok
 by_cases h0 : r.er = 0
 ·rw [if_pos h0]
  cases hx : l[r.k]? with
  | none => exact .inl rfl
  | some t =>
   simp only
   split
   ·exact .inr (List.mem_of_getElem? hx)
   ·exact .inl rfl
 ·rw [if_neg h0]
  exact .inl rfl
theorem RS.tok_text {r : RS} {l : List T} {e kd : Nat} {x : List UInt8} (h : ∀ t ∈ l, t.2.text.length ≤ 400) : (r.tok l e kd x).1.2.text.length ≤ 400 := by
 rcases r.tok_mem l e kd x with g | g
 ·rw [g]; simp [zT]
 ·exact h _ g
theorem RS.tok_alive {r : RS} {l : List T} {e kd : Nat} {x : List UInt8} (h : (r.tok l e kd x).2.er = 0) : r.er = 0 := by
 by_cases h0 : r.er = 0
 ·exact h0
 ·rw [RS.tok_dead h0] at h; exact absurd h h0
theorem allOk_snoc {α : Type} {ok : α → Bool} {key : α → Int × List UInt8 × List UInt8} {l : List α} {d : α} (h1 : ∀ x ∈ l, ok x = true) (h2 : (l.map key).Nodup) (hd : ok d = true) : allOk ok key (l ++ [d]) [] = decide (key d ∉ l.map key) := by
 have h : allOk ok key l [] = true := allOk_iff.2 ⟨h1, h2, by simp⟩
 rw [allOk_append, h]
 simp only [allOk, hd, Bool.true_and, Bool.and_true, List.nil_append]
 rw [List.contains_eq_mem]
 by_cases hk : key d ∈ l.map key <;> simp [hk]
end Rw
namespace Go.Proofs.YtdchjacccmajcaaGreatDoor
open Go.RowKit Go.Maps Go.Lib

/-- a box of the call's own beside the reader -/
structure BxX (w W : World) (p : Nat) (l : List Fa.T) (e : Nat) (R : Rw.RS) (v : Value) (q : Nat) (T : TypeId) (cs : Array Value) : Prop where
 rd : RdX W p l e R v
 tch : Tch (fun b => b = p) w W
 box : W.heap[q]? = some (.cells cs T (0, 0))
 q : w.heap.size ≤ q
 p : p < w.heap.size
section
variable {w W W' : World} {p e q : Nat} {l : List Fa.T} {R R' : Rw.RS} {v : Value} {T : TypeId} {cs : Array Value}
theorem BxX.step (h : BxX w W p l e R v q T cs) (hr : RdX W' p l e R' v) (ht : Tch (fun b => b = p) W W') : BxX w W' p l e R' v q T cs :=
 ⟨hr, h.tch.trans ht (fun k hk _ => hk), (ht.block q (Array.getElem?_eq_some_iff.1 h.box).1 (by have := h.p; have := h.q; show ¬ q = p; omega)).trans h.box, h.q, h.p⟩
theorem BxX.below (h : BxX w W p l e R v q T cs) (hb : Below W.heap.size W W') : BxX w W' p l e R v q T cs := h.step (h.rd.below hb) (Tch.of_below hb _)
theorem BxX.set (h : BxX w W p l e R v q T cs) (i : Nat) (u : Value) : BxX w (W.setCell ⟨q, i, none⟩ u) p l e R v q T (cs.setIfInBounds i u) := by
 have hT : Tch (fun b => b = q) W (W.setCell ⟨q, i, none⟩ u) := (Tch.refl (fun b => b = q) W).setCell (a := ⟨q, i, none⟩) (.inl rfl) _
 exact ⟨h.rd.tch hT fun b hb e => by have := h.p; have := h.q; have e' : b = q := e; omega, h.tch.trans hT fun k hk hlt => by have := h.q; have e' : k = q := hk; omega, blk_setP h.box i u, h.q, h.p⟩
theorem BxX.cell (h : BxX w W p l e R v q T cs) (j : Nat) (u : Value) (hj : cs[j]? = some u) : W.cell? ⟨q, j, none⟩ = some u := by simp only [World.cell?, h.box]; exact hj
theorem BxX.lt (h : BxX w W p l e R v q T cs) : q < W.heap.size := (Array.getElem?_eq_some_iff.1 h.box).1
theorem BxX.frozen (h : BxX w W p l e R v q T cs) (j : Nat) : W.frozen? ⟨q, j, none⟩ = false := frozen_of_row W _ j _ _ h.box
end
theorem rowX_blk {W : World} {q : Nat} {T : TypeId} {cs : List Value} (h : W.heap[q]? = some (.cells cs.toArray T (0, 0))) : ∀ (j : Nat) (u : Value), cs[j]? = some u → W.cell? ((⟨q, 0, none⟩ : Addr).add j) = some u := fun j u hu => by
 have hadd : (⟨q, 0, none⟩ : Addr).add j = ⟨q, j, none⟩ := by
  unfold Addr.add; split
  ·rename_i h; subst h; rfl
  ·simp
 rw [hadd]
 simp only [World.cell?, h]
 simpa using hu
theorem drop_one (l : List Rw.Drop) : ∀ u ∈ l.flatMap dropCells, u.oneCell' = true := by
 intro u hu
 obtain ⟨d, -, hd⟩ := List.mem_flatMap.1 hu
 simp only [dropCells, List.mem_cons, List.not_mem_nil, or_false] at hd
 rcases hd with rfl | rfl | rfl <;> rfl
theorem ownsRow_from {w : World} {b b' : Nat} {e : TypeId} {size : Nat} {v : Value} {n : Nat} {xs : List Value} (h : w.ownsRow b e size v n xs) (hb : b' ≤ b) : w.ownsRow b' e size v n xs :=
 ⟨h.1, h.2.imp id fun ⟨g, cap, cur, h1, h2, h3⟩ => ⟨g, cap, cur, h1, Nat.le_trans hb h2, h3⟩⟩
/-- what reading a drop ends in -/
def DropX (w : World) (p : Nat) (l : List Fa.T) (e : Nat) (bf : List Rw.Drop) (r : Rw.Drop × Rw.RS) (v : Value) (en : Ending) (w' : World) : Prop :=
 ∃ v', en = .returned v' ∧ w'.ownsRow w.heap.size 58 3 v' (bf.length + 1) ((bf ++ [r.1]).flatMap dropCells) ∧ RdX w' p l e r.2 v ∧ Tch (fun b => b = p) w w'

set_option maxRecDepth 100000 in
set_option maxHeartbeats 20000000 in
theorem rdrop_any10 (wd : List UInt8) (most : Int) (bf : List Rw.Drop) (bv : Value) (w : World) (p : Nat) (l : List Fa.T) (e : Nat) (R : Rw.RS) (v : Value) (h : RdX w p l e R v) (hs : ∀ t ∈ l, t.2.text.length ≤ 400) (hb : SlIn w bv (fun k => ¬ k = p) 3 dropCells bf) (hD : Rw.DropsW most bf) :
  Calls Tryz.prog 67 #[.pointer (some ⟨p, 0, none⟩), .string (bs wd), bv, .int .i64 most] w (DropX w p l e bf (Rw.RS.drop l e wd most bf R) v) := by
 have hpw := h.lt
 have hl40 := hD.2.2
 have HDW := hid hD
 have HST := hid hs
 obtain ⟨ba, bc, rfl⟩ := hb.slice
 have HBF := hid (show ∀ X, Tch (fun b => b = p) w X → SlOf X (.slice ba bf.length bc) 3 dropCells bf from fun X hX => (hb.tch hX (fun k hk e => hk e)).slOf)
 obtain ⟨f40, hf40⟩ : ∃ f, f = decide (40 ≤ bf.length) := ⟨_, rfl⟩
 have g40 : ((bf.length : Int) == 40) = f40 := by rw [hf40, Bool.eq_iff_iff, beq_iff_eq, decide_eq_true_eq]; omega
 obtain ⟨q0, hq0⟩ : ∃ q, q = R.tok l e 1 wd := ⟨_, rfl⟩
 obtain ⟨R1, hR1⟩ : ∃ r : Rw.RS, r = if 40 ≤ bf.length then q0.2.fail l 2 else q0.2 := ⟨_, rfl⟩
 obtain ⟨q1, hq1⟩ : ∃ q, q = R1.tokC l e 1 [] (fun t => Rw.scrI t.2.text = 0) 5 := ⟨_, rfl⟩
 obtain ⟨kk, hkk⟩ : ∃ k, k = Rw.scrI q1.1.2.text := ⟨_, rfl⟩
 obtain ⟨q2, hq2⟩ : ∃ q, q = q1.2.tok l e 3 [] := ⟨_, rfl⟩
 obtain ⟨fb, hfb⟩ : ∃ fb, fb = Rw.folded kk q2.1.2.text most := ⟨_, rfl⟩
 obtain ⟨R3, hR3⟩ : ∃ r : Rw.RS, r = if fb = false then q2.2.fail l 1 else q2.2 := ⟨_, rfl⟩
 obtain ⟨q3, hq3⟩ : ∃ q, q = R3.tokC l e 2 [] (fun t => 1000 < t.2.n) 10 := ⟨_, rfl⟩
 obtain ⟨q4, hq4⟩ : ∃ q, q = q3.2.tok l e 4 [59] := ⟨_, rfl⟩
 obtain ⟨d, hd⟩ : ∃ d : Rw.Drop, d = ⟨kk, q2.1.2.text, q3.1.2.n⟩ := ⟨_, rfl⟩
 obtain ⟨R5, hR5⟩ : ∃ r : Rw.RS, r = if d.key ∈ bf.map Rw.Drop.key then q4.2.fail l 9 else q4.2 := ⟨_, rfl⟩
 have HRES := hid (show Rw.RS.drop l e wd most bf R = (d, R5) by rw [hR5, hd, hq4, hq3, hR3, hfb, hq2, hkk, hq1, hR1, hq0]; rfl)
 have C0 := hid (rtok_lit 1 1 (bs wd) wd rfl rfl w p l e R v h)
 rw [← hq0] at C0
 have K0 := hid (show q0.2.er = 0 → 1 ≤ q0.2.k by rw [hq0]; exact Rw.RS.tok_k)
 have K2 := hid (show q2.2.er = 0 → 1 ≤ q2.2.k by rw [hq2]; exact Rw.RS.tok_k)
 have K4 := hid (show q4.2.er = 0 → 1 ≤ q4.2.k by rw [hq4]; exact Rw.RS.tok_k)
 have HTX := hid (show q2.1.2.text.length ≤ 400 by rw [hq2]; exact Rw.RS.tok_text hs)
 have HALIVE := hid (show q4.2.er = 0 → Rw.dropOk most d = true ∧ bf.length < 40 from fun h4 => by
  rw [hq4] at h4
  have a3 := Rw.RS.tok_alive h4
  rw [hq3] at a3
  obtain ⟨a3, c3, -⟩ := Rw.RS.tokC_alive (by decide) a3
  rw [← hq3] at c3
  have a2 : fb = true ∧ q2.2.er = 0 := by
   rw [hR3] at a3
   cases hfbv : fb with
   | true => rw [hfbv] at a3; exact ⟨rfl, a3⟩
   | false => rw [hfbv] at a3; exact absurd a3 (Rw.RS.fail_er (by decide))
  have a1 := a2.2
  rw [hq2] at a1
  have a1 := Rw.RS.tok_alive a1
  rw [hq1] at a1
  obtain ⟨a1, -, -⟩ := Rw.RS.tokC_alive (by decide) a1
  have a0 : ¬ 40 ≤ bf.length := fun h => by
   rw [hR1, if_pos h] at a1
   exact absurd a1 (Rw.RS.fail_er (by decide))
  refine ⟨?_, by omega⟩
  unfold Rw.dropOk
  rw [hd]
  simp only [Bool.and_eq_true]
  refine ⟨by rw [← hfb]; exact a2.1, ?_⟩
  rw [cost_nat, decide_eq_false c3]
  rfl)
 have HR1 := hid (show R1 = if f40 = true then q0.2.fail l 2 else q0.2 by rw [hR1, hf40]; by_cases h : 40 ≤ bf.length <;> simp [h])
 have HR3 := hid hR3
 have HR5 := hid hR5
 have HQ1 := hid hq1
 have HQ2 := hid hq2
 have HQ3 := hid hq3
 have HQ4 := hid hq4
 have HFB := hid hfb
 have HDD := hid hd
 clear h hs hb hD hq0 hR1 hq1 hq2 hfb hR3 hq3 hq4 hd hR5 hf40
 go_enter Tryz.func67, Tryz.ntmps67
 go_wp2_with fail
 refine (C0.out).mono ?_
 rintro en w1 ⟨rfl, hr1, ht1⟩
 have HX1 := hid (And.intro hr1 ht1)
 clear hr1 ht1 C0
 go_upto_if 16 with (fail)
 go_cut [] from 11 (fun wx => Hid (RdX wx p l e R1 v ∧ Tch (fun b => b = p) w wx))
 case first =>
  cases f40 with
  | true =>
   have HE := hid (show R1 = q0.2.fail l 2 by rw [HR1.out]; rfl)
   go_wp2_with fail
   refine (rfailAlso_any10 2 w1 p l e q0.2 v HX1.out.1 K0.out).mono ?_
   rintro en w2 ⟨rfl, hr2, ht2⟩
   go_wp2_with fail
   go_meet
   case rel => rw [HE.out]; exact ⟨hr2, HX1.out.2.trans ht2 (fun k hk _ => hk)⟩
  | false =>
   have HE := hid (show R1 = q0.2 by rw [HR1.out]; rfl)
   go_wp2_with fail
   go_meet
   case rel => rw [HE.out]; exact ⟨HX1.out.1, HX1.out.2⟩
 case rest =>
 rename World => w2
 have HX2 := hid hcut.out
 clear hcut HX1
 have C1 := hid (rscript_any10 w2 p l e R1 v HX2.out.1)
 rw [← HQ1.out] at C1
 go_wp2_with fail
 refine (C1.out).mono ?_
 rintro en w3 ⟨rfl, hr3, ht3⟩
 rw [← hkk]
 have HKK := hid hkk
 clear hkk C1
 obtain ⟨W4, hW4⟩ : ∃ W4, W4 = w3.alloc (.cells #[.int .i64 kk, .string ⟨#[]⟩, .int .i64 0] 58) := ⟨_, rfl⟩
 have hb4 : Below w3.heap.size w3 W4 := by rw [hW4]; exact (Below.refl _ w3).alloc (Nat.le_refl _) _
 have ht3' := HX2.out.2.trans ht3 (fun k hk _ => hk)
 have HX4 := hid (show BxX w W4 p l e q1.2 v w3.heap.size 58 #[.int .i64 kk, .string ⟨#[]⟩, .int .i64 0] from ⟨hr3.below hb4, ht3'.step hb4, by rw [hW4]; exact alloc_new w3 _, ht3'.size, hpw⟩)
 have hpq : p < w3.heap.size := hr3.lt
 clear hr3 ht3 ht3' hb4 HX2
 go_upto_region 5 with (fail)
 rw [← hW4]
 clear hW4
 have C2 := hid (rtok_lit 3 3 ⟨#[]⟩ [] rfl rfl W4 p l e q1.2 v HX4.out.rd)
 rw [← HQ2.out] at C2
 have hfd : ∀ X : World, (Instr.field 116 (.agg #[.int .i64 q2.1.2.kind, .int .i64 q2.1.1, .int .i64 q2.1.2.n, .string (bs q2.1.2.text)]) 3).run Tryz.prog X = .ok (.string (bs q2.1.2.text)) X := fun _ => by kernel_rfl
 go_wp2_with fail
 refine (C2.out).mono ?_
 rintro en w5 ⟨rfl, hr5, ht5⟩
 have hX5 := HX4.out.step hr5 ht5
 have d1 := hX5.cell 1 _ rfl
 have df := hX5.frozen 1
 have dl := hX5.lt
 obtain ⟨W6, hW6⟩ : ∃ W6, W6 = w5.setCell ⟨w3.heap.size, 1, none⟩ (.string (bs q2.1.2.text)) := ⟨_, rfl⟩
 have HX6 := hid (show BxX w W6 p l e q2.2 v w3.heap.size 58 #[.int .i64 kk, .string (bs q2.1.2.text), .int .i64 0] by rw [hW6]; exact hX5.set 1 _)
 clear hr5 ht5 hX5 C2 HX4
 unfold tkvP
 go_upto_region 6 with (fail)
 rw [← hW6]
 clear hW6 d1 df dl hfd
 go_cut [26, 27, 28, 29, 30, 31, 32, 33, 34, 35, 36, 37, 38, 39] from 40 (fun v26 v27 v28 v29 v30 v31 v32 v33 v34 v35 v36 v37 v38 v39 wx => v39 = .bool (decide (q2.2.er = 0) && !fb) ∧ Hid (BxX w wx p l e q2.2 v w3.heap.size 58 #[.int .i64 kk, .string (bs q2.1.2.text), .int .i64 0]))
 case first =>
  obtain ⟨-, -, -, c3, -, -⟩ := HX6.out.rd.cells
  have hp6 := HX6.out.rd.lt
  have x0 := HX6.out.cell 0 _ rfl
  have x1 := HX6.out.cell 1 _ rfl
  have xl := HX6.out.lt
  have HF := hid (rfolded_any kk q2.1.2.text most W6 (by have := HTX.out; omega))
  rw [← HFB.out] at HF
  by_cases h0 : q2.2.er = 0
  ·have d0 : (q2.2.er == 0) = true := by rw [h0]; rfl
   have HE := hid (show (decide (q2.2.er = 0) && !fb) = !fb by rw [decide_eq_true h0, Bool.true_and])
   clear h0
   go_wp2_with fail
   refine (HF.out).mono ?_
   rintro en w7 ⟨rfl, hb7⟩
   go_wp2_with fail
   go_meet
   case rel => exact ⟨by rw [HE.out], HX6.out.below hb7⟩
  ·have d0 : (q2.2.er == 0) = false := by rw [beq_eq_false_iff_ne]; exact h0
   have HE := hid (show (decide (q2.2.er = 0) && !fb) = false by rw [decide_eq_false h0, Bool.false_and])
   clear h0
   go_wp2_with fail
   go_meet
   case rel => exact ⟨by rw [HE.out], HX6.out⟩
 case rest =>
 rename World => w7
 obtain ⟨rfl, HH⟩ := hcut
 have HX7 := hid HH.out
 clear HH HX6
 go_step
 go_cut [] from 39 (fun wx => Hid (BxX w wx p l e R3 v w3.heap.size 58 #[.int .i64 kk, .string (bs q2.1.2.text), .int .i64 0]))
 case first =>
  by_cases h0 : q2.2.er = 0
  ·rw [decide_eq_true h0, Bool.true_and]
   clear h0
   cases fb with
   | false =>
    have HE := hid (show R3 = q2.2.fail l 1 by rw [HR3.out]; rfl)
    go_wp2_with fail
    refine (rfail_any10 1 w7 p l e q2.2 v HX7.out.rd K2.out).mono ?_
    rintro en w8 ⟨rfl, hr8, ht8⟩
    go_wp2_with fail
    go_meet
    case rel => rw [HE.out]; exact HX7.out.step hr8 ht8
   | true =>
    have HE := hid (show R3 = q2.2 by rw [HR3.out]; rfl)
    go_wp2_with fail
    go_meet
    case rel => rw [HE.out]; exact HX7.out
  ·have HE := hid (show R3 = q2.2 by
    rw [HR3.out]
    split
    ·exact Rw.RS.fail_dead h0 l 1
    ·rfl)
   rw [decide_eq_false h0, Bool.false_and]
   clear h0
   go_wp2_with fail
   go_meet
   case rel => rw [HE.out]; exact HX7.out
 case rest =>
 rename World => w8
 have HX8 := hid hcut.out
 clear hcut HX7
 have C3 := hid (rnumber_any10 w8 p l e R3 v HX8.out.rd)
 rw [← HQ3.out] at C3
 go_wp2_with fail
 refine (C3.out).mono ?_
 rintro en w9 ⟨rfl, hr9, ht9⟩
 have hX9 := HX8.out.step hr9 ht9
 have d1 := hX9.cell 2 _ rfl
 have df := hX9.frozen 2
 have dl := hX9.lt
 obtain ⟨W10, hW10⟩ : ∃ W10, W10 = w9.setCell ⟨w3.heap.size, 2, none⟩ (.int .i64 q3.1.2.n) := ⟨_, rfl⟩
 have HX10 := hid (show BxX w W10 p l e q3.2 v w3.heap.size 58 #[.int .i64 kk, .string (bs q2.1.2.text), .int .i64 q3.1.2.n] by rw [hW10]; exact hX9.set 2 _)
 clear hr9 ht9 hX9 C3 HX8
 go_upto_region 9 with (fail)
 rw [← hW10]
 clear hW10 d1 df dl
 have C4 := hid (rtok_lit 4 4 ⟨#[59]⟩ [59] rfl rfl W10 p l e q3.2 v HX10.out.rd)
 rw [← HQ4.out] at C4
 go_wp2_with fail
 refine (C4.out).mono ?_
 rintro en w11 ⟨rfl, hr11, ht11⟩
 have HX11 := hid (HX10.out.step hr11 ht11)
 clear hr11 ht11 C4 HX10
 have HSL := hid (show ∀ X, Below w11.heap.size w11 X → SlOf X (.slice ba bf.length bc) 3 dropCells bf from fun X hX => HBF.out X (HX11.out.tch.step hX))
 have hsz := HX11.out.tch.size
 go_upto_region 10 with (fail)
 go_cut [10] from 47 (fun v10 wx => Hid (wx.ownsRow w.heap.size 58 3 v10 (bf.length + 1) (bf.flatMap dropCells ++ [.int .i64 kk, .string (bs q2.1.2.text), .int .i64 q3.1.2.n]) ∧ Below w11.heap.size w11 wx))
 case first =>
  obtain ⟨i0, hi0, hz0, hz1, hz2⟩ := info_parts Tryz.infoDropT
  have r0 := HX11.out.cell 0 _ rfl
  have r1 := HX11.out.cell 1 _ rfl
  have r2 := HX11.out.cell 2 _ rfl
  have ql := HX11.out.lt
  have own_ge : ∀ {X : World} {u : Value} {n : Nat} {xs : List Value} (_ : X.ownsRow w11.heap.size 58 3 u n xs) {r : Nat}, u.ownBlock = some r → w11.heap.size ≤ r := fun ho r e => (ho.lt r e).1
  refine wp_heldS (S := StillAt w11) (by kernel_rfl) ?_
  simp only [List.size_toArray, List.length_cons, List.length_nil, Nat.reduceAdd]
  intro hc
  have S0 : StillAt w11 (Array.replicate 7 false) w11.drew := (Below.refl _ _).drew
  refine wpAnyS_take (i := 1) (v := .slice ba bf.length bc) rfl (by kernel_rfl) (by kernel_rfl) (by kernel_rfl) (fun _ _ _ h => h) (fun _ _ => Iff.rfl) hc (by first | rfl | simp [Region.wanted]) (fun wx hx => ?_) S0 (fun hc S0 => ?_)
  ·go_simp
  try simp only [tk1, tk2, tk3, Act.put, tk4, tk5, tk6]
  refine wpAnyS_take (i := 3) (v := .agg #[.int .i64 kk, .string (bs q2.1.2.text), .int .i64 q3.1.2.n]) rfl (by kernel_rfl) (by kernel_rfl) (by kernel_rfl) (fun _ _ _ h => h) (fun _ _ => Iff.rfl) hc (by first | rfl | simp [Region.wanted]) (fun wx hx => ?_) S0 (fun hc S0 => ?_)
  ·have q0 := (hx.still.cell (p := ⟨w3.heap.size, 0, none⟩) ql).trans r0; have q1 := (hx.still.cell (p := ⟨w3.heap.size, 1, none⟩) ql).trans r1; have q2 := (hx.still.cell (p := ⟨w3.heap.size, 2, none⟩) ql).trans r2
   go_simp
  try simp only [tk1, tk2, tk3, Act.put, tk4, tk5, tk6]
  obtain ⟨A, hA⟩ : ∃ A, A = w11.drew := ⟨_, rfl⟩
  have S00 : Below w11.heap.size w11 A := by rw [hA]; exact (Below.refl _ _).drew
  rw [← hA]
  clear S0 hA
  refine wpAnyS_some (rs := [0, 4]) (by kernel_rfl) (by simp) hc (fun i hi => ?_)
  simp only [List.mem_cons, List.not_mem_nil, or_false] at hi
  rcases hi with rfl | rfl
  ·refine ⟨_, rfl, by rfl, fun K' hK => ?_⟩
   go_simp
   obtain ⟨A1, hA1⟩ : ∃ Az, Az = (A).alloc (.cells #[] 58) := ⟨_, rfl⟩
   rw [← hA1]
   have hown1 : A1.ownsRow (w11.heap.size) 58 3 (.slice (some ⟨(A).heap.size, 0, none⟩) 0 0) 0 [] := by rw [hA1]; exact World.ownsRow_made (A) #[] 0 (by have := (S00).size; omega) (by unfold maxLen; omega) rfl
   have hbz1 : Below (A).heap.size (A) A1 := by rw [hA1]; exact (Below.refl _ _).alloc (Nat.le_refl _) _
   have hz1a : (A).heap.size < A1.heap.size := by rw [hA1, World.size_alloc]; omega
   have S1 : Below w11.heap.size w11 A1 := Below.step (S00) hbz1
   clear hA1
   refine hK.out _ _ (show StillAt w11 #[] _ from S1) (fun hc => ?_)
   clear hK K'
   try simp only [tk1, tk2, tk3, Act.put, tk4, tk5, tk6]
   refine wpAnyS_some (rs := [2, 4]) (by kernel_rfl) (by simp) hc (fun i hi => ?_)
   simp only [List.mem_cons, List.not_mem_nil, or_false] at hi
   rcases hi with rfl | rfl
   ·refine ⟨_, rfl, by rfl, fun K' hK => ?_⟩
    refine wp_append_list (.tmp 47) (.tmp 48) 23 rfl (w11.heap.size) 58 i0 (.agg #[.int .i64 0, .string ⟨#[]⟩, .int .i64 0]) 32 Tryz.underlying23 hi0 hz0 hz1 hz2 rfl (by decide) _ 0 [] rfl hown1 _ rfl (HSL.out _ S1) (fun _ => rfl) (drop_one _) (by unfold maxLen; omega) (by omega) (by have := (S1).size; omega) ?_
    intro v2 w2 ho2 hg2 hor2
    rw [Nat.zero_add, List.nil_append] at ho2
    have hT2 : Tch (fun k => k = (A).heap.size) (A1) w2 := Tch.of_grown hg2 (fun r e => by cases e; rfl)
    have S2 : Below w11.heap.size w11 w2 := (S1).trans (hT2.below (S1).size (fun k e => by have := S00.size; have e' : k = (A).heap.size := e; omega))
    obtain ⟨va2, vc2, rfl⟩ := ownsRow_slice ho2
    refine hK.out _ _ (show StillAt w11 #[] _ from S2) (fun hc => ?_)
    clear hK K'
    try simp only [tk1, tk2, tk3, Act.put, tk4, tk5, tk6]
    refine wpAnyS_some (rs := [4]) (by kernel_rfl) (by simp) hc (fun i hi => ?_)
    simp only [List.mem_cons, List.not_mem_nil, or_false] at hi
    subst hi
    refine ⟨_, rfl, by rfl, fun K' hK => ?_⟩
    go_simp
    obtain ⟨A3, hA3⟩ : ∃ Az, Az = (w2).alloc (.cells #[.int .i64 kk, .string (bs q2.1.2.text), .int .i64 q3.1.2.n] 58) := ⟨_, rfl⟩
    rw [← hA3]
    have hrow3 : A3.heap[(w2).heap.size]? = some (.cells #[.int .i64 kk, .string (bs q2.1.2.text), .int .i64 q3.1.2.n] 58 (0, 0)) := by rw [hA3]; exact alloc_new _ _
    have hbl3 : Below (w2).heap.size (w2) A3 := by rw [hA3]; exact (Below.refl _ _).alloc (Nat.le_refl _) _
    have hz3a : (w2).heap.size < A3.heap.size := by rw [hA3, World.size_alloc]; omega
    have S3 : Below w11.heap.size w11 A3 := Below.step (S2) hbl3
    clear hA3
    refine hK.out _ _ (show StillAt w11 #[] _ from S3) (fun hc => ?_)
    clear hK K'
    try simp only [tk1, tk2, tk3, Act.put, tk4, tk5, tk6]
    refine wpAnyS_some (rs := [5]) (by kernel_rfl) (by simp) hc (fun i hi => ?_)
    simp only [List.mem_cons, List.not_mem_nil, or_false] at hi
    subst hi
    refine ⟨_, rfl, by rfl, fun K' hK => ?_⟩
    refine wp_append_own _ _ _ 23 rfl (w11.heap.size) 58 i0 (.agg #[.int .i64 0, .string ⟨#[]⟩, .int .i64 0]) 3 32 Tryz.underlying23 hi0 hz0 hz1 hz2 rfl (by decide) _ _ _ rfl (ownsRow_below ho2 hbl3) ⟨w2.heap.size, 0, none⟩ 1 1 [.int .i64 kk, .string (bs q2.1.2.text), .int .i64 q3.1.2.n] rfl rfl (rowX_blk hrow3) (by simp [Value.oneCell']) (by unfold maxLen; omega) (by omega) (by have := (S3).size; omega) ?_
    intro v5 w5 ho5 hg5 _
    have S5 : Below w11.heap.size w11 w5 := (S3).trans ((Tch.of_grown (O := fun k => w11.heap.size ≤ k) hg5 (fun r e => own_ge (ownsRow_below ho2 hbl3) e)).below (S3).size (fun k e => e))
    obtain ⟨va5, vc5, rfl⟩ := ownsRow_slice ho5
    refine hK.out _ _ (show StillAt w11 #[] _ from S5) (fun hc => ?_)
    clear hK K'
    try simp only [tk1, tk2, tk3, Act.put, tk4, tk5, tk6]
    refine wpAnyS_one (i := 6) rfl (by kernel_rfl) (by rfl) hc (fun K' hK => ?_)
    go_simp
    refine hK.out _ _ (show StillAt w11 #[] _ from S5) (fun hc => ?_)
    clear hK K'
    try simp only [tk1, tk2, tk3, Act.put, tk4, tk5, tk6]
    refine wpAnyS_done (by kernel_rfl) ?_ _
    go_wp2_with fail
    go_meet
    case rel => exact ⟨ownsRow_from ho5 hsz, S5⟩
   ·refine ⟨_, rfl, by rfl, fun K' hK => ?_⟩
    go_simp
    obtain ⟨A3, hA3⟩ : ∃ Az, Az = (A1).alloc (.cells #[.int .i64 kk, .string (bs q2.1.2.text), .int .i64 q3.1.2.n] 58) := ⟨_, rfl⟩
    rw [← hA3]
    have hrow3 : A3.heap[(A1).heap.size]? = some (.cells #[.int .i64 kk, .string (bs q2.1.2.text), .int .i64 q3.1.2.n] 58 (0, 0)) := by rw [hA3]; exact alloc_new _ _
    have hbl3 : Below (A1).heap.size (A1) A3 := by rw [hA3]; exact (Below.refl _ _).alloc (Nat.le_refl _) _
    have hz3a : (A1).heap.size < A3.heap.size := by rw [hA3, World.size_alloc]; omega
    have S3 : Below w11.heap.size w11 A3 := Below.step (S1) hbl3
    clear hA3
    refine hK.out _ _ (show StillAt w11 #[] _ from S3) (fun hc => ?_)
    clear hK K'
    try simp only [tk1, tk2, tk3, Act.put, tk4, tk5, tk6]
    refine wpAnyS_some (rs := [2]) (by kernel_rfl) (by simp) hc (fun i hi => ?_)
    simp only [List.mem_cons, List.not_mem_nil, or_false] at hi
    subst hi
    refine ⟨_, rfl, by rfl, fun K' hK => ?_⟩
    refine wp_append_list (.tmp 47) (.tmp 48) 23 rfl (w11.heap.size) 58 i0 (.agg #[.int .i64 0, .string ⟨#[]⟩, .int .i64 0]) 32 Tryz.underlying23 hi0 hz0 hz1 hz2 rfl (by decide) _ 0 [] rfl (ownsRow_below hown1 hbl3) _ rfl (HSL.out _ S3) (fun _ => rfl) (drop_one _) (by unfold maxLen; omega) (by omega) (by have := (S3).size; omega) ?_
    intro v2 w2 ho2 hg2 hor2
    rw [Nat.zero_add, List.nil_append] at ho2
    have hT2 : Tch (fun k => k = (A).heap.size) (A3) w2 := Tch.of_grown hg2 (fun r e => by cases e; rfl)
    have S2 : Below w11.heap.size w11 w2 := (S3).trans (hT2.below (S3).size (fun k e => by have := S00.size; have e' : k = (A).heap.size := e; omega))
    obtain ⟨va2, vc2, rfl⟩ := ownsRow_slice ho2
    refine hK.out _ _ (show StillAt w11 #[] _ from S2) (fun hc => ?_)
    clear hK K'
    try simp only [tk1, tk2, tk3, Act.put, tk4, tk5, tk6]
    have hrow2 := (hT2.block _ (Array.getElem?_eq_some_iff.1 hrow3).1 (by show ¬ A1.heap.size = A.heap.size; omega)).trans hrow3
    refine wpAnyS_some (rs := [5]) (by kernel_rfl) (by simp) hc (fun i hi => ?_)
    simp only [List.mem_cons, List.not_mem_nil, or_false] at hi
    subst hi
    refine ⟨_, rfl, by rfl, fun K' hK => ?_⟩
    refine wp_append_own _ _ _ 23 rfl (w11.heap.size) 58 i0 (.agg #[.int .i64 0, .string ⟨#[]⟩, .int .i64 0]) 3 32 Tryz.underlying23 hi0 hz0 hz1 hz2 rfl (by decide) _ _ _ rfl ho2 ⟨A1.heap.size, 0, none⟩ 1 1 [.int .i64 kk, .string (bs q2.1.2.text), .int .i64 q3.1.2.n] rfl rfl (rowX_blk hrow2) (by simp [Value.oneCell']) (by unfold maxLen; omega) (by omega) (by have := (S2).size; omega) ?_
    intro v5 w5 ho5 hg5 _
    have S5 : Below w11.heap.size w11 w5 := (S2).trans ((Tch.of_grown (O := fun k => w11.heap.size ≤ k) hg5 (fun r e => own_ge ho2 e)).below (S2).size (fun k e => e))
    obtain ⟨va5, vc5, rfl⟩ := ownsRow_slice ho5
    refine hK.out _ _ (show StillAt w11 #[] _ from S5) (fun hc => ?_)
    clear hK K'
    try simp only [tk1, tk2, tk3, Act.put, tk4, tk5, tk6]
    refine wpAnyS_one (i := 6) rfl (by kernel_rfl) (by rfl) hc (fun K' hK => ?_)
    go_simp
    refine hK.out _ _ (show StillAt w11 #[] _ from S5) (fun hc => ?_)
    clear hK K'
    try simp only [tk1, tk2, tk3, Act.put, tk4, tk5, tk6]
    refine wpAnyS_done (by kernel_rfl) ?_ _
    go_wp2_with fail
    go_meet
    case rel => exact ⟨ownsRow_from ho5 hsz, S5⟩
  ·refine ⟨_, rfl, by rfl, fun K' hK => ?_⟩
   go_simp
   obtain ⟨A3, hA3⟩ : ∃ Az, Az = (A).alloc (.cells #[.int .i64 kk, .string (bs q2.1.2.text), .int .i64 q3.1.2.n] 58) := ⟨_, rfl⟩
   rw [← hA3]
   have hrow3 : A3.heap[(A).heap.size]? = some (.cells #[.int .i64 kk, .string (bs q2.1.2.text), .int .i64 q3.1.2.n] 58 (0, 0)) := by rw [hA3]; exact alloc_new _ _
   have hbl3 : Below (A).heap.size (A) A3 := by rw [hA3]; exact (Below.refl _ _).alloc (Nat.le_refl _) _
   have hz3a : (A).heap.size < A3.heap.size := by rw [hA3, World.size_alloc]; omega
   have S3 : Below w11.heap.size w11 A3 := Below.step (S00) hbl3
   clear hA3
   refine hK.out _ _ (show StillAt w11 #[] _ from S3) (fun hc => ?_)
   clear hK K'
   try simp only [tk1, tk2, tk3, Act.put, tk4, tk5, tk6]
   refine wpAnyS_some (rs := [0]) (by kernel_rfl) (by simp) hc (fun i hi => ?_)
   simp only [List.mem_cons, List.not_mem_nil, or_false] at hi
   subst hi
   refine ⟨_, rfl, by rfl, fun K' hK => ?_⟩
   go_simp
   obtain ⟨A1, hA1⟩ : ∃ Az, Az = (A3).alloc (.cells #[] 58) := ⟨_, rfl⟩
   rw [← hA1]
   have hown1 : A1.ownsRow (w11.heap.size) 58 3 (.slice (some ⟨(A3).heap.size, 0, none⟩) 0 0) 0 [] := by rw [hA1]; exact World.ownsRow_made (A3) #[] 0 (by have := (S3).size; omega) (by unfold maxLen; omega) rfl
   have hbz1 : Below (A3).heap.size (A3) A1 := by rw [hA1]; exact (Below.refl _ _).alloc (Nat.le_refl _) _
   have hz1a : (A3).heap.size < A1.heap.size := by rw [hA1, World.size_alloc]; omega
   have S1 : Below w11.heap.size w11 A1 := Below.step (S3) hbz1
   clear hA1
   refine hK.out _ _ (show StillAt w11 #[] _ from S1) (fun hc => ?_)
   clear hK K'
   try simp only [tk1, tk2, tk3, Act.put, tk4, tk5, tk6]
   have hrow1 := (hbz1.block _ (Array.getElem?_eq_some_iff.1 hrow3).1).trans hrow3
   refine wpAnyS_some (rs := [2]) (by kernel_rfl) (by simp) hc (fun i hi => ?_)
   simp only [List.mem_cons, List.not_mem_nil, or_false] at hi
   subst hi
   refine ⟨_, rfl, by rfl, fun K' hK => ?_⟩
   refine wp_append_list (.tmp 47) (.tmp 48) 23 rfl (w11.heap.size) 58 i0 (.agg #[.int .i64 0, .string ⟨#[]⟩, .int .i64 0]) 32 Tryz.underlying23 hi0 hz0 hz1 hz2 rfl (by decide) _ 0 [] rfl hown1 _ rfl (HSL.out _ S1) (fun _ => rfl) (drop_one _) (by unfold maxLen; omega) (by omega) (by have := (S1).size; omega) ?_
   intro v2 w2 ho2 hg2 hor2
   rw [Nat.zero_add, List.nil_append] at ho2
   have hT2 : Tch (fun k => k = (A3).heap.size) (A1) w2 := Tch.of_grown hg2 (fun r e => by cases e; rfl)
   have S2 : Below w11.heap.size w11 w2 := (S1).trans (hT2.below (S1).size (fun k e => by have := S00.size; have e' : k = (A3).heap.size := e; omega))
   obtain ⟨va2, vc2, rfl⟩ := ownsRow_slice ho2
   refine hK.out _ _ (show StillAt w11 #[] _ from S2) (fun hc => ?_)
   clear hK K'
   try simp only [tk1, tk2, tk3, Act.put, tk4, tk5, tk6]
   have hrow2 := (hT2.block _ (Array.getElem?_eq_some_iff.1 hrow1).1 (by show ¬ A.heap.size = A3.heap.size; omega)).trans hrow1
   refine wpAnyS_some (rs := [5]) (by kernel_rfl) (by simp) hc (fun i hi => ?_)
   simp only [List.mem_cons, List.not_mem_nil, or_false] at hi
   subst hi
   refine ⟨_, rfl, by rfl, fun K' hK => ?_⟩
   refine wp_append_own _ _ _ 23 rfl (w11.heap.size) 58 i0 (.agg #[.int .i64 0, .string ⟨#[]⟩, .int .i64 0]) 3 32 Tryz.underlying23 hi0 hz0 hz1 hz2 rfl (by decide) _ _ _ rfl ho2 ⟨A.heap.size, 0, none⟩ 1 1 [.int .i64 kk, .string (bs q2.1.2.text), .int .i64 q3.1.2.n] rfl rfl (rowX_blk hrow2) (by simp [Value.oneCell']) (by unfold maxLen; omega) (by omega) (by have := (S2).size; omega) ?_
   intro v5 w5 ho5 hg5 _
   have S5 : Below w11.heap.size w11 w5 := (S2).trans ((Tch.of_grown (O := fun k => w11.heap.size ≤ k) hg5 (fun r e => own_ge ho2 e)).below (S2).size (fun k e => e))
   obtain ⟨va5, vc5, rfl⟩ := ownsRow_slice ho5
   refine hK.out _ _ (show StillAt w11 #[] _ from S5) (fun hc => ?_)
   clear hK K'
   try simp only [tk1, tk2, tk3, Act.put, tk4, tk5, tk6]
   refine wpAnyS_one (i := 6) rfl (by kernel_rfl) (by rfl) hc (fun K' hK => ?_)
   go_simp
   refine hK.out _ _ (show StillAt w11 #[] _ from S5) (fun hc => ?_)
   clear hK K'
   try simp only [tk1, tk2, tk3, Act.put, tk4, tk5, tk6]
   refine wpAnyS_done (by kernel_rfl) ?_ _
   go_wp2_with fail
   go_meet
   case rel => exact ⟨ownsRow_from ho5 hsz, S5⟩
 case rest =>
 rename World => w12
 have HO12 := hid hcut.out.1
 have HX12 := hid (HX11.out.below hcut.out.2)
 clear hcut HX11 HSL
 have HDC := hid (show dropCells d = [.int .i64 kk, .string (bs q2.1.2.text), .int .i64 q3.1.2.n] by rw [HDD.out]; rfl)
 rename Value => v10
 obtain ⟨oa, oc, rfl⟩ := ownsRow_slice HO12.out
 have HO13 := hid (show w12.ownsRow w.heap.size 58 3 (.slice oa (bf.length + 1) oc) (bf.length + 1) ((bf ++ [d]).flatMap dropCells) by
  rw [List.flatMap_append, List.flatMap_cons, List.flatMap_nil, List.append_nil, HDC.out]
  exact HO12.out)
 obtain ⟨fk, hfk⟩ : ∃ fk, fk = decide (d.key ∈ bf.map Rw.Drop.key) := ⟨_, rfl⟩
 have HFK := hid hfk
 clear hfk HO12
 go_upto_region 11 with (fail)
 go_cut [53, 54, 55, 56, 57, 58, 59, 60, 61, 62, 63] from 64 (fun v53 v54 v55 v56 v57 v58 v59 v60 v61 v62 v63 wx => v63 = .bool (decide (q4.2.er = 0) && fk) ∧ Hid (BxX w wx p l e q4.2 v w3.heap.size 58 #[.int .i64 kk, .string (bs q2.1.2.text), .int .i64 q3.1.2.n]) ∧ Hid (wx.ownsRow w.heap.size 58 3 (.slice oa (bf.length + 1) oc) (bf.length + 1) ((bf ++ [d]).flatMap dropCells)))
 case first =>
  obtain ⟨-, -, -, c3, -, -⟩ := HX12.out.rd.cells
  have hp6 := HX12.out.rd.lt
  by_cases h0 : q4.2.er = 0
  ·have d0 : (q4.2.er == 0) = true := by rw [h0]; rfl
   have HE := hid (show (decide (q4.2.er = 0) && fk) = fk by rw [decide_eq_true h0, Bool.true_and])
   obtain ⟨HOK, -⟩ := HALIVE.out h0
   have HCK := hid (rdrops_any (bf ++ [d]) (.slice oa (bf.length + 1) oc) most w12 (by
    have h1 := HO13.out
    rw [show bf.length + 1 = (bf ++ [d]).length by rw [List.length_append]; rfl] at h1 ⊢
    exact SlOf.own h1 (fun _ _ => rfl)) (by rw [List.length_append, List.length_singleton]; omega) (fun y hy => by
    have hok : Rw.dropOk most y = true := by
     rcases List.mem_append.1 hy with hy | hy
     ·exact HDW.out.1 y hy
     ·rw [List.mem_singleton.1 hy]; exact HOK
    unfold Rw.dropOk at hok
    simp only [Bool.and_eq_true] at hok
    obtain ⟨⟨k1, k4⟩, k24, -⟩ := Rw.folded_text hok.1
    refine ⟨?_, by omega⟩
    have : y.script = 1 ∨ y.script = 2 ∨ y.script = 3 ∨ y.script = 4 := by omega
    rcases this with e | e | e | e <;> (rw [e]; rfl)))
   rw [Rw.allOk_snoc HDW.out.1 HDW.out.2.1 HOK, show decide (d.key ∉ bf.map Rw.Drop.key) = !fk by rw [HFK.out]; exact decide_not] at HCK
   clear h0 HOK
   go_wp2_with fail
   refine (HCK.out).mono ?_
   rintro en w13 ⟨rfl, hb13⟩
   go_wp2_with fail
   go_meet
   case rel => exact ⟨by rw [HE.out], HX12.out.below hb13, ownsRow_below HO13.out hb13⟩
  ·have d0 : (q4.2.er == 0) = false := by rw [beq_eq_false_iff_ne]; exact h0
   have HE := hid (show (decide (q4.2.er = 0) && fk) = false by rw [decide_eq_false h0, Bool.false_and])
   clear h0
   go_wp2_with fail
   go_meet
   case rel => exact ⟨by rw [HE.out], HX12.out, HO13.out⟩
 case rest =>
 rename World => w13
 obtain ⟨rfl, HX13, HO14⟩ := hcut
 clear HX12 HO13
 have HR5F := hid (show R5 = if fk = true then q4.2.fail l 9 else q4.2 by rw [HR5.out, HFK.out]; by_cases h : d.key ∈ bf.map Rw.Drop.key <;> simp [h])
 go_step
 go_cut [] from 63 (fun wx => Hid (RdX wx p l e R5 v ∧ Tch (fun b => b = p) w wx ∧ wx.ownsRow w.heap.size 58 3 (.slice oa (bf.length + 1) oc) (bf.length + 1) ((bf ++ [d]).flatMap dropCells)))
 case first =>
  by_cases h0 : q4.2.er = 0
  ·rw [decide_eq_true h0, Bool.true_and]
   clear h0
   cases fk with
   | true =>
    have HE := hid (show R5 = q4.2.fail l 9 by rw [HR5F.out]; rfl)
    go_wp2_with fail
    refine (rfail_any10 9 w13 p l e q4.2 v HX13.out.rd K4.out).mono ?_
    rintro en w14 ⟨rfl, hr14, ht14⟩
    go_wp2_with fail
    go_meet
    case rel => rw [HE.out]; exact ⟨hr14, HX13.out.tch.trans ht14 (fun k hk _ => hk), ownsRow_tch HO14.out ht14 (fun g hg e => by have := (HO14.out.lt g hg).1; have e' : g = p := e; omega)⟩
   | false =>
    have HE := hid (show R5 = q4.2 by rw [HR5F.out]; rfl)
    go_wp2_with fail
    go_meet
    case rel => rw [HE.out]; exact ⟨HX13.out.rd, HX13.out.tch, HO14.out⟩
  ·have HE := hid (show R5 = q4.2 by
    rw [HR5F.out]
    split
    ·exact Rw.RS.fail_dead h0 l 9
    ·rfl)
   rw [decide_eq_false h0, Bool.false_and]
   clear h0
   go_wp2_with fail
   go_meet
   case rel => rw [HE.out]; exact ⟨HX13.out.rd, HX13.out.tch, HO14.out⟩
 case rest =>
 go_wp2_with fail
 go_ret
 rw [HRES.out]
 exact ⟨_, rfl, hcut.out.2.2, hcut.out.1, hcut.out.2.1⟩

end Go.Proofs.YtdchjacccmajcaaGreatDoor
