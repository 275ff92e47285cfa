/-
  RewriteRules: the statement's function returns true. Conditions: what can be read of its arguments.
-/
import Derived.Test.YtdchjacccmajcaaGreatDoorZRn11
namespace Go.Proofs.YtdchjacccmajcaaGreatDoor
open Go.RowKit Go.Lib Go.Maps

/-- the table with its rules in the opposite order, as it grows -/
structure BkI (p : Nat) (vd ve : Value) (t : Rw.Table) (W X : World) (n : Nat) (rv : Value) (rs : List Rw.Rule) : Prop where
  t : Blk X p 25 [rv, vd, ve, .int .i64 t.drop, .int .i64 t.order, .int .i64 t.initial]
  own : X.ownsRow (p + 1) 34 4 rv n (rs.flatMap ruleCells)
  below : Below W.heap.size W X
theorem BkI.step {p : Nat} {vd ve : Value} {t : Rw.Table} {W X Y : World} {n : Nat} {rv : Value} {rs : List Rw.Rule} (h : BkI p vd ve t W X n rv rs) (hb : Below X.heap.size X Y) : BkI p vd ve t W Y n rv rs :=
  ⟨h.t.below hb, ownsRow_below h.own hb, Below.step h.below hb⟩
theorem BkI.app {p : Nat} {vd ve : Value} {t : Rw.Table} {W X Y : World} {n : Nat} {rv v' : Value} {rs : List Rw.Rule} {x : Rw.Rule} (h : BkI p vd ve t W X n rv rs) (hp : p = W.heap.size) (hg : X.grownBy Y rv.ownBlock) (ho : Y.ownsRow (p + 1) 34 4 v' (n + 1) (rs.flatMap ruleCells ++ ruleCells x)) :
    BkI p vd ve t W (Y.setCell ⟨p, 0, none⟩ v') (n + 1) v' (rs ++ [x]) ∧ Y.cell? ⟨p, 0, none⟩ = some rv ∧ Y.frozen? ⟨p, 0, none⟩ = false ∧ p < Y.heap.size := by
  have keep : rv.ownBlock ≠ some p := fun e => by have := (h.own.lt p e).1; omega
  have ht := h.t.kept hg keep
  refine ⟨⟨ht.set 0 v', ?_, ?_⟩, ht.cell rfl, ht.frozen 0, ht.lt⟩
  · rw [List.flatMap_append, List.flatMap_cons, List.flatMap_nil, List.append_nil]
    refine ho.kept (grown_set Y p 0 v') ?_
    cases hv : v'.ownBlock with
    | none => exact .inl rfl
    | some q =>
      refine .inr fun e => ?_
      cases e
      have := (ho.lt _ hv).1
      omega
  · exact (h.below.grown hg (by have := h.below.size; omega) (fun b hb => by have := (h.own.lt b hb).1; omega)).setCell (p := ⟨p, 0, none⟩) (by show W.heap.size ≤ p; omega) _
/-- a table in a box -/
theorem BkI.tab {p : Nat} {vd ve : Value} {t : Rw.Table} {W X : World} {n : Nat} {rv : Value} {rs : List Rw.Rule} (h : BkI p vd ve t W X n rv rs) (hn : n = rs.length) (hd : SlOf X vd 3 dropCells t.drops) (he : SlOf X ve 3 dropCells t.ends) (hr : ∀ r ∈ rs, RuleFits r) (f2 : ∀ d ∈ t.drops, DropFits d) (f3 : ∀ d ∈ t.ends, DropFits d) (hl : rs.length ≤ 1000000 ∧ t.drops.length ≤ 1000000 ∧ t.ends.length ≤ 1000000) :
    TableAt X { t with rules := rs } (.agg #[rv, vd, ve, .int .i64 t.drop, .int .i64 t.order, .int .i64 t.initial]) :=
  ⟨⟨_, _, _, rfl, SlOf.own (by rw [← hn]; exact h.own) (fun _ _ => rfl), hd, he⟩, hr, f2, f3, hl⟩
theorem rev_at {l : List Rw.Rule} {j n : Nat} (h : j + n + 1 = l.length) {r : Rw.Rule} (hr : l[j]? = some r) : l.reverse[n]? = some r := by
  rw [List.getElem?_reverse (by omega), show l.length - 1 - n = j by omega]
  exact hr

set_option maxRecDepth 100000 in
set_option maxHeartbeats 40000000 in
theorem rules_law (t : Rw.Table) (tv : Value) (k : Int) (word : List UInt8) (most : Int) (y : Rw.Rule) (W : World) (ht : TableRaw W t tv) (hT : Tabs W) (h10 : Tab10 W) (hx : word.length ≤ maxLen) (hy : (Lit.int .i64 y.script).wf = true ∧ y.from_.length ≤ maxLen ∧ y.to_.length ≤ maxLen) :
    Calls Tryz.prog 6 #[tv, .int .i64 k, .string (bs word), .int .i64 most, .agg (ruleCells y).toArray] W (Gives (.bool true) W) := by
  have HT := hid ht
  have HTT := hid hT
  have H10 := hid h10
  have HY := hid hy
  obtain ⟨⟨vr, vd, ve, rfl, ⟨ar, cr, rfl, -, -, hR0⟩, ⟨ad, cd, rfl, -⟩, ⟨ae, ce, rfl, -⟩⟩, -, -, -⟩ := ht
  have hR := hid hR0
  clear hT h10 hR0 hy
  show Calls Tryz.prog 6 #[_, _, _, _, .agg #[.int .i64 y.script, .string (bs y.from_), .string (bs y.to_), .int .i64 y.cost]] W _
  obtain ⟨W1, hW1⟩ : ∃ W1, W1 = (W.alloc (.cells #[.slice ar t.rules.length cr, .slice ad t.drops.length cd, .slice ae t.ends.length ce, .int .i64 t.drop, .int .i64 t.order, .int .i64 t.initial] 25)).alloc (.cells #[.int .i64 y.script, .string (bs y.from_), .string (bs y.to_), .int .i64 y.cost] 34) := ⟨_, rfl⟩
  have hb1 : Below W.heap.size W W1 := by rw [hW1]; exact ((Below.refl _ W).alloc (Nat.le_refl _) _).alloc (by simp) _
  have T1 := hid (show Blk W1 W.heap.size 25 [.slice ar t.rules.length cr, .slice ad t.drops.length cd, .slice ae t.ends.length ce, .int .i64 t.drop, .int .i64 t.order, .int .i64 t.initial] by rw [hW1]; exact (Below.heap_alloc _ _ _ (by simp)).trans (Blk.new W _ _))
  have Y1 := hid (show Blk W1 (W.heap.size + 1) 34 [.int .i64 y.script, .string (bs y.from_), .string (bs y.to_), .int .i64 y.cost] by
    rw [hW1]
    have := Blk.new (W.alloc (.cells #[.slice ar t.rules.length cr, .slice ad t.drops.length cd, .slice ae t.ends.length ce, .int .i64 t.drop, .int .i64 t.order, .int .i64 t.initial] 25)) 34 [.int .i64 y.script, .string (bs y.from_), .string (bs y.to_), .int .i64 y.cost]
    rwa [World.size_alloc] at this)
  have HH := hid (head_true W1 (HTT.out.below hb1) (H10.out.below hb1))
  have B1 := hid hb1
  clear hb1
  go_enter Tryz.func6, Tryz.ntmps6
  go_upto_region 1 with (fail)
  rw [← hW1]
  clear hW1
  go_wp2_with fail
  refine (HH.out).mono ?_
  rintro e W2 ⟨rfl, hb2⟩
  have Yx := Y1
  have B2 := hid (Below.step B1.out hb2)
  have T2 := hid (T1.out.below hb2)
  have Yx := hid (Yx.out.below hb2)
  clear hb2 HH
  have t0 := T2.out.cell (j := 0) rfl
  have t1 := T2.out.cell (j := 1) rfl
  have t2 := T2.out.cell (j := 2) rfl
  have t3 := T2.out.cell (j := 3) rfl
  have t4 := T2.out.cell (j := 4) rfl
  have t5 := T2.out.cell (j := 5) rfl
  have tl := T2.out.lt
  have HF := hid (few10_any t _ W2 (HT.out.below B2.out))
  go_wp2_with fail
  refine (HF.out).mono ?_
  rintro e W3 ⟨rfl, hbf⟩
  have B3 := hid (Below.step B2.out hbf)
  have T3 := hid (T2.out.below hbf)
  have Yx := hid (Yx.out.below hbf)
  clear hbf HF t0 t1 t2 t3 t4 t5 tl
  cases hfew : Rw.fewB t with
  | false =>
    go_wp2_with fail
    go_ret
    exact ⟨rfl, B3.out⟩
  | true =>
  have TA := hid (HT.out.few10 hfew)
  clear hfew
  have hsz : (bs word).size = word.length := bs_len word
  have hszf : (bs y.from_).size = y.from_.length := bs_len y.from_
  have hszt : (bs y.to_).size = y.to_.length := bs_len y.to_
  have hmx : (bs word).size ≤ 9223372036854775807 := by unfold maxLen at hx; omega
  have hmf : (bs y.from_).size ≤ 9223372036854775807 := by have := HY.out.2.1; unfold maxLen at this; omega
  have hmt : (bs y.to_).size ≤ 9223372036854775807 := by have := HY.out.2.2; unfold maxLen at this; omega
  have w0 := Yx.out.cell (j := 0) rfl
  have w1 := Yx.out.cell (j := 1) rfl
  have w2 := Yx.out.cell (j := 2) rfl
  have w3 := Yx.out.cell (j := 3) rfl
  have wl := Yx.out.lt
  by_cases h60 : word.length ≤ 60
  rotate_left
  · have g60 : decide ((60 : Int) < ((bs word).size : Int)) = true := decide_eq_true (by omega)
    clear h60 hsz hszf hszt
    go_wp2_with fail
    go_ret
    exact ⟨rfl, B3.out⟩
  have g60 : decide ((60 : Int) < ((bs word).size : Int)) = false := decide_eq_false (by omega)
  by_cases h61 : y.from_.length ≤ 60
  rotate_left
  · have g61 : decide ((60 : Int) < ((bs y.from_).size : Int)) = true := decide_eq_true (by omega)
    clear h60 h61 hsz hszf hszt
    go_wp2_with fail
    go_ret
    exact ⟨rfl, B3.out⟩
  have g61 : decide ((60 : Int) < ((bs y.from_).size : Int)) = false := decide_eq_false (by omega)
  by_cases h62 : y.to_.length ≤ 60
  rotate_left
  · have g62 : decide ((60 : Int) < ((bs y.to_).size : Int)) = true := decide_eq_true (by omega)
    clear h60 h61 h62 hsz hszf hszt
    go_wp2_with fail
    go_ret
    exact ⟨rfl, B3.out⟩
  have g62 : decide ((60 : Int) < ((bs y.to_).size : Int)) = false := decide_eq_false (by omega)
  have H60 := hid h60
  have HYF := hid (show RuleFits y from ⟨HY.out.1, by omega, by omega⟩)
  clear h60 h61 h62 hsz hszf hszt
  have t0 := T3.out.cell (j := 0) rfl
  have t1 := T3.out.cell (j := 1) rfl
  have t2 := T3.out.cell (j := 2) rfl
  have t3 := T3.out.cell (j := 3) rfl
  have t4 := T3.out.cell (j := 4) rfl
  have t5 := T3.out.cell (j := 5) rfl
  have tl := T3.out.lt
  have HV := hid (valid_any t _ W3 (TA.out.below B3.out) (HTT.out.below B3.out))
  go_wp2_with fail
  refine (HV.out).mono ?_
  rintro e W4 ⟨rfl, hbf⟩
  have B4 := hid (Below.step B3.out hbf)
  have T4 := hid (T3.out.below hbf)
  have Yx := hid (Yx.out.below hbf)
  clear hbf HV w0 w1 w2 w3 wl t0 t1 t2 t3 t4 t5 tl
  cases hv : Rw.valid t with
  | false =>
    clear hv
    go_wp2_with fail
    go_ret
    exact ⟨rfl, B4.out⟩
  | true =>
  have HVV := hid hv
  clear hv
  have hb60 : (bs word).size ≤ 1000000 := by rw [bs_len]; have := H60.out; omega
  obtain ⟨L, hL⟩ : ∃ L, L = Fo.letters k word := ⟨_, rfl⟩
  have HLL := hid (show Fo.letters k word = L from hL.symm)
  have hR1 := Rw.valid_pos HVV.out
  have hR80 := Rw.valid_80 HVV.out
  clear hL
  have t0 := T4.out.cell (j := 0) rfl
  have t1 := T4.out.cell (j := 1) rfl
  have t2 := T4.out.cell (j := 2) rfl
  have t3 := T4.out.cell (j := 3) rfl
  have t4 := T4.out.cell (j := 4) rfl
  have t5 := T4.out.cell (j := 5) rfl
  have tl := T4.out.lt
  have C4 := hid (forms_x (k := k) (word := bs word) (L := L) most (TA.out.below B4.out) (HTT.out.below B4.out) hb60 (by rw [bs_list]; exact HLL.out))
  go_wp2_with fail
  refine (C4.out).mono ?_
  rintro e W5 ⟨a, m, e1, xa, xc, ya, yc, rfl, h1, h2, h3, hb⟩
  have B5 := hid (Below.step B4.out hb)
  have T5 := hid (T4.out.below hb)
  have Yx := hid (Yx.out.below hb)
  have HA := hid (And.intro h1 h2)
  have HAX := hid h3
  clear C4 h1 h2 h3 hb t0 t1 t2 t3 t4 t5 tl
  have t0 := T5.out.cell (j := 0) rfl
  have t1 := T5.out.cell (j := 1) rfl
  have t2 := T5.out.cell (j := 2) rfl
  have t3 := T5.out.cell (j := 3) rfl
  have t4 := T5.out.cell (j := 4) rfl
  have t5 := T5.out.cell (j := 5) rfl
  have tl := T5.out.lt
  obtain ⟨Y6, hY6⟩ : ∃ Y, Y = W5.alloc (.cells #[.slice none 0 0, .slice ad t.drops.length cd, .slice ae t.ends.length ce, .int .i64 t.drop, .int .i64 t.order, .int .i64 t.initial] 25) := ⟨_, rfl⟩
  have HK0 := hid (show BkI W5.heap.size (.slice ad t.drops.length cd) (.slice ae t.ends.length ce) t W5 Y6 0 (.slice none 0 0) [] by
    rw [hY6]
    exact ⟨Blk.new W5 _ _, World.ownsRow_nil _ _ _ _, (Below.refl _ W5).alloc (Nat.le_refl _) _⟩)
  obtain ⟨i0, hi, hz0, hz1, hz2⟩ := info_parts Tryz.infoRule10
  have T6 := hid (T5.out.below HK0.out.below)
  clear t0 t1 t2 t3 t4 t5 tl
  have t0 := T5.out.cell (j := 0) rfl
  have t1 := T5.out.cell (j := 1) rfl
  have t2 := T5.out.cell (j := 2) rfl
  have t3 := T5.out.cell (j := 3) rfl
  have t4 := T5.out.cell (j := 4) rfl
  have t5 := T5.out.cell (j := 5) rfl
  have tl := T5.out.lt
  go_upto_region 7 with (fail)
  rw [← hY6]
  clear hY6 t0 t1 t2 t3 t4 t5 tl
  have t0 := T6.out.cell (j := 0) rfl
  have tl := T6.out.lt
  have hwr : IntKind.i64.wrap ((t.rules.length : Int) - 1) = (t.rules.length : Int) - 1 := IntWalk.i64_in _ (by omega)
  go_wp2_with fail
  go_loopw [16] (fun iv wr => ∃ n : Nat, n ≤ t.rules.length ∧ iv = .int .i64 ((t.rules.length : Int) - 1 - (n : Int)) ∧ Hid (∃ rv, BkI W5.heap.size (.slice ad t.drops.length cd) (.slice ae t.ends.length ce) t W5 wr n rv (t.rules.reverse.take n))) (fun iv _ => (RowKit.intOf iv + 1).toNat)
  case atStart => exact ⟨0, Nat.zero_le _, by simp, hid ⟨_, HK0.out⟩⟩
  case round =>
    clear t0 tl hwr HK0
    obtain ⟨n, hn, rfl, HK⟩ := hrel
    obtain ⟨rv, hK⟩ := HK.out
    have HK1 := hid hK
    obtain ⟨ra, rc, rfl⟩ := ownsRow_slice hK.own
    by_cases hlt : n < t.rules.length
    · obtain ⟨j, hj⟩ : ∃ j : Nat, j + n + 1 = t.rules.length := ⟨t.rules.length - 1 - n, by omega⟩
      have hiv : (t.rules.length : Int) - 1 - (n : Int) = (j : Int) := by omega
      rw [hiv]
      obtain ⟨g, o, rfl, hr⟩ := hR.out (by omega)
      obtain ⟨r, hd⟩ : ∃ r, t.rules[j]? = some r := ⟨_, List.getElem?_eq_getElem (by omega)⟩
      have hrv := rev_at (n := n) hj hd
      have hbW := Below.step B5.out hK.below
      have hc := (hr.below hbW).2 j r hd
      have e0 := hc 0 _ rfl
      have e1 := hc 1 _ rfl
      have e2 := hc 2 _ rfl
      have e3 := hc 3 _ rfl
      rw [Nat.add_zero] at e0
      have hg := (hr.below hbW).1
      have j0 : (0 : Int) ≤ (j : Int) := by omega
      have j1 : (j : Int) < (t.rules.length : Int) := by omega
      have T7 := T5.out.below hK.below
      have t0 := T7.cell (j := 0) rfl
      have tl := T7.lt
      have c0 := hK.t.cell (j := 0) rfl
      have cz := hK.t.lt
      have gj : decide ((0 : Int) ≤ (j : Int)) = true := decide_eq_true j0
      have hwj : IntKind.i64.wrap ((j : Int) - 1) = (j : Int) - 1 := IntWalk.i64_in _ (by omega)
      have HRV := hid (show t.rules.reverse.take (n + 1) = t.rules.reverse.take n ++ [r] from rn_take hrv)
      have HJN := hid (show (t.rules.length : Int) - 1 - ((n + 1 : Nat) : Int) = (j : Int) - 1 by omega)
      clear hc hr hd hrv hbW T7 hK hiv hj
      go_upto_region 10 with (fail)
      refine wp_heldS (S := TwoS 8 8 (Below wr.heap.size wr) (fun _ => True)) (by kernel_rfl) ?_
      simp only [List.size_toArray, List.length_cons, List.length_nil, Nat.reduceAdd]
      intro hc
      have S0 : TwoS 8 8 (Below wr.heap.size wr) (fun _ => True) (Array.replicate 11 false) wr.drew := ⟨.inr (Below.refl _ _).drew, .inr trivial⟩
      refine wpAnyS_take (i := 0) (v := .pointer (some ⟨W5.heap.size, 0, none⟩)) rfl (by kernel_rfl) (by kernel_rfl) (by kernel_rfl) (fun _ _ _ h => h) (fun _ _ => TwoS.set_ (by decide) (by decide) _ _) hc (by first | rfl | simp [Region.wanted]) (fun wx hx => ?_) S0 (fun hc S0 => ?_)
      · go_simp
      try simp only [List.getElem_toArray, List.getElem_cons_zero, Act.put, List.setIfInBounds_toArray, List.set_cons_zero, List.set_cons_succ]
      refine wpAnyS_take (i := 1) (v := .slice ra n rc) rfl (by kernel_rfl) (by kernel_rfl) (by kernel_rfl) (fun _ _ _ h => h) (fun _ _ => TwoS.set_ (by decide) (by decide) _ _) hc (by first | rfl | simp [Region.wanted]) (fun wx hx => ?_) S0 (fun hc S0 => ?_)
      · have y := ((hx.leftN (n := 4) (by kernel_rfl)).cell (p := ⟨W5.heap.size, 0, none⟩) cz).trans c0
        go_simp
      try simp only [List.getElem_toArray, List.getElem_cons_succ, List.getElem_cons_zero, Act.put, List.setIfInBounds_toArray, List.set_cons_zero, List.set_cons_succ]
      refine wpAnyS_take (i := 2) (v := .pointer (some ⟨W.heap.size, 0, none⟩)) rfl (by kernel_rfl) (by kernel_rfl) (by kernel_rfl) (fun _ _ _ h => h) (fun _ _ => TwoS.set_ (by decide) (by decide) _ _) hc (by first | rfl | simp [Region.wanted]) (fun wx hx => ?_) S0 (fun hc S0 => ?_)
      · go_simp
      try simp only [List.getElem_toArray, List.getElem_cons_succ, List.getElem_cons_zero, Act.put, List.setIfInBounds_toArray, List.set_cons_zero, List.set_cons_succ]
      refine wpAnyS_take (i := 3) (v := .slice (some ⟨g, o, none⟩) t.rules.length cr) rfl (by kernel_rfl) (by kernel_rfl) (by kernel_rfl) (fun _ _ _ h => h) (fun _ _ => TwoS.set_ (by decide) (by decide) _ _) hc (by first | rfl | simp [Region.wanted]) (fun wx hx => ?_) S0 (fun hc S0 => ?_)
      · have y := ((hx.leftN (n := 4) (by kernel_rfl)).cell (p := ⟨W.heap.size, 0, none⟩) tl).trans t0
        go_simp
      try simp only [List.getElem_toArray, List.getElem_cons_succ, List.getElem_cons_zero, Act.put, List.setIfInBounds_toArray, List.set_cons_zero, List.set_cons_succ]
      refine wpAnyS_take (i := 4) (v := .int .i64 j) rfl (by kernel_rfl) (by kernel_rfl) (by kernel_rfl) (fun _ _ _ h => h) (fun _ _ => TwoS.set_ (by decide) (by decide) _ _) hc (by first | rfl | simp [Region.wanted]) (fun wx hx => ?_) S0 (fun hc S0 => ?_)
      · go_simp
      try simp only [List.getElem_toArray, List.getElem_cons_succ, List.getElem_cons_zero, Act.put, List.setIfInBounds_toArray, List.set_cons_zero, List.set_cons_succ]
      refine wpAnyS_take (i := 5) (v := .pointer (some ⟨g, o + j * 4, none⟩)) rfl (by kernel_rfl) (by kernel_rfl) (by kernel_rfl) (fun _ _ _ h => h) (fun _ _ => TwoS.set_ (by decide) (by decide) _ _) hc (by first | rfl | simp [Region.wanted]) (fun wx hx => ?_) S0 (fun hc S0 => ?_)
      · go_simp
      try simp only [List.getElem_toArray, List.getElem_cons_succ, List.getElem_cons_zero, Act.put, List.setIfInBounds_toArray, List.set_cons_zero, List.set_cons_succ]
      refine wpAnyS_take (i := 6) (v := .agg #[.int .i64 r.script, .string (bs r.from_), .string (bs r.to_), .int .i64 r.cost]) rfl (by kernel_rfl) (by kernel_rfl) (by kernel_rfl) (fun _ _ _ h => h) (fun _ _ => TwoS.set_ (by decide) (by decide) _ _) hc (by first | rfl | simp [Region.wanted]) (fun wx hx => ?_) S0 (fun hc S0 => ?_)
      · have y0 := ((hx.leftN (n := 4) (by kernel_rfl)).cell (p := ⟨g, o + j * 4, none⟩) hg).trans e0; have y1 := ((hx.leftN (n := 4) (by kernel_rfl)).cell (p := ⟨g, o + j * 4 + 1, none⟩) hg).trans e1; have y2 := ((hx.leftN (n := 4) (by kernel_rfl)).cell (p := ⟨g, o + j * 4 + 2, none⟩) hg).trans e2; have y3 := ((hx.leftN (n := 4) (by kernel_rfl)).cell (p := ⟨g, o + j * 4 + 3, none⟩) hg).trans e3; have yz := Nat.lt_of_lt_of_le hg (hx.leftN (n := 4) (by kernel_rfl)).size
        go_simp
      try simp only [List.getElem_toArray, List.getElem_cons_succ, List.getElem_cons_zero, Act.put, List.setIfInBounds_toArray, List.set_cons_zero, List.set_cons_succ]
      refine wpAnyS_one (i := 7) rfl (by kernel_rfl) (by rfl) hc (fun K' hK => ?_)
      go_simp
      have hbA : Below wr.heap.size wr (wr.drew.alloc (.cells #[.int .i64 r.script, .string (bs r.from_), .string (bs r.to_), .int .i64 r.cost] 34)) := (Below.refl _ wr).drew.alloc (Nat.le_refl _) _
      have hIA := HK1.out.step hbA
      refine hK.out _ _ ⟨.inr hbA, .inr trivial⟩ (fun hc => ?_)
      clear hK K'
      try simp only [List.getElem_toArray, List.getElem_cons_succ, List.getElem_cons_zero, Act.put, List.setIfInBounds_toArray, List.set_cons_zero, List.set_cons_succ]
      refine wpAnyS_one (i := 8) rfl (by kernel_rfl) (by rfl) hc (fun K' hK => ?_)
      refine wp_append_own _ _ _ 22 rfl (W5.heap.size + 1) 34 i0 (.agg #[.int .i64 0, .string ⟨#[]⟩, .string ⟨#[]⟩, .int .i64 0]) 4 48 Tryz.underlying22 hi hz0 hz1 hz2 rfl (by decide) _ _ _ rfl hIA.own ⟨wr.drew.heap.size, 0, none⟩ 1 1 [.int .i64 r.script, .string (bs r.from_), .string (bs r.to_), .int .i64 r.cost] rfl rfl (cells_new rfl) (by simp [Value.oneCell']) (by unfold maxLen; omega) (by omega) (hIA.t.lt) ?_
      intro v' w8 ho8 hg8 _
      obtain ⟨a8, c8, rfl⟩ := ownsRow_slice ho8
      obtain ⟨hI8, q1, q2, q3⟩ := hIA.app (x := r) rfl hg8 ho8
      rw [← HRV.out] at hI8
      have HI8 := hid hI8
      refine hK.out _ _ ⟨.inl rfl, .inl rfl⟩ (fun hc => ?_)
      clear hK K' hIA ho8 hg8 hI8
      try simp only [List.getElem_toArray, List.getElem_cons_succ, List.getElem_cons_zero, Act.put, List.setIfInBounds_toArray, List.set_cons_zero, List.set_cons_succ]
      refine wpAnyS_one (i := 9) rfl (by kernel_rfl) (by rfl) hc (fun K' hK => ?_)
      go_simp
      refine hK.out _ _ ⟨.inl rfl, .inl rfl⟩ (fun hc => ?_)
      clear hK K'
      try simp only [List.getElem_toArray, List.getElem_cons_succ, List.getElem_cons_zero, Act.put, List.setIfInBounds_toArray, List.set_cons_zero, List.set_cons_succ]
      refine wpAnyS_one (i := 10) rfl (by kernel_rfl) (by rfl) hc (fun K' hK => ?_)
      go_simp
      refine hK.out _ _ ⟨.inl rfl, .inl rfl⟩ (fun hc => ?_)
      clear hK K'
      try simp only [List.getElem_toArray, List.getElem_cons_succ, List.getElem_cons_zero, Act.put, List.setIfInBounds_toArray, List.set_cons_zero, List.set_cons_succ]
      refine wpAnyS_done (by kernel_rfl) ?_ _
      clear hc S0 q1 q2 q3 c0 cz hbA e0 e1 e2 e3 hg t0 tl
      go_wp2_with fail
      go_roundw
      case rel => exact ⟨n + 1, by omega, congrArg (Value.int .i64) HJN.out.symm, hid ⟨_, HI8.out⟩⟩
      case measure => simp [RowKit.intOf]
    · have hne : n = t.rules.length := by omega
      have HNR := hid hne
      have hiv : (t.rules.length : Int) - 1 - (n : Int) = -1 := by omega
      rw [hiv]
      have hlr : t.rules.reverse.length = n := by rw [List.length_reverse]; exact hne.symm
      rw [List.take_of_length_le (by omega)] at hK
      have HK := hid hK
      have hbK := hK.below
      have B6 := hid (Below.step B5.out hbK)
      have TB := hid (show TableAt wr (Rw.back t) (.agg #[.slice ra n rc, .slice ad t.drops.length cd, .slice ae t.ends.length ce, .int .i64 t.drop, .int .i64 t.order, .int .i64 t.initial]) from by
        obtain ⟨⟨_, _, _, ev, _, sd, se⟩, f1, f2, f3, hl⟩ := TA.out.below B6.out
        simp only [Value.agg.injEq, Array.mk.injEq, List.cons.injEq] at ev
        obtain ⟨rfl, rfl, rfl, -⟩ := ev
        exact hK.tab hlr.symm sd se (fun r hr => f1 r (List.mem_reverse.1 hr)) f2 f3 ⟨by rw [List.length_reverse]; exact hl.1, hl.2.1, hl.2.2⟩)
      have k0 := hK.t.cell (j := 0) rfl
      have k1 := hK.t.cell (j := 1) rfl
      have k2 := hK.t.cell (j := 2) rfl
      have k3 := hK.t.cell (j := 3) rfl
      have k4 := hK.t.cell (j := 4) rfl
      have k5 := hK.t.cell (j := 5) rfl
      have kl := hK.t.lt
      have HA6 := hid (And.intro (HA.out.1.below hbK) (HA.out.2.below hbK))
      have Y6 := hid (Yx.out.below hbK)
      have C6 := hid (forms_x (k := k) (word := bs word) (L := L) most TB.out (HTT.out.below B6.out) hb60 (by rw [bs_list]; exact HLL.out))
      clear hK hbK hlr hiv hlt hne
      go_wp2_with fail
      refine (C6.out).mono ?_
      rintro e W7 ⟨b, nn, e2, za, zc, wa, wc, rfl, h1, h2, h3, hb⟩
      have HEQ := hid (HAX.out.back_ HVV.out h3)
      have HB := hid (And.intro h1 h2)
      have HA7 := hid (And.intro (HA6.out.1.below hb) (HA6.out.2.below hb))
      have HK7 := hid (HK.out.step hb)
      have B7 := hid (Below.step B6.out hb)
      have Y7 := hid (Y6.out.below hb)
      have HAL := hid HAX.out.len
      clear C6 h1 h2 h3 hb k0 k1 k2 k3 k4 k5 kl
      obtain ⟨rfl, rfl, rfl⟩ := HEQ.out
      have gee : (e1 != e1) = false := by simp
      have gee2 : (e1 == e1) = true := by simp
      have D7 := hid (sameForms_any a m a m _ _ _ _ W7 HA7.out.1 HA7.out.2 HB.out.1 HB.out.2)
      rw [sameForms_yes rfl rfl HAL.out.1] at D7
      go_wp2_with fail
      refine (D7.out).mono ?_
      rintro e W8 ⟨rfl, hb⟩
      have HA8 := hid (And.intro (HA7.out.1.below hb) (HA7.out.2.below hb))
      have HK8 := hid (HK7.out.step hb)
      have B8 := hid (Below.step B7.out hb)
      have Y8 := hid (Y7.out.below hb)
      clear hb D7 HA7 HB
      -- the further rule
      obtain ⟨Y9, hY9⟩ : ∃ Y, Y = W8.alloc (.cells #[.int .i64 y.script, .string (bs y.from_), .string (bs y.to_), .int .i64 y.cost] 34) := ⟨_, rfl⟩
      have hb9 : Below W8.heap.size W8 Y9 := by rw [hY9]; exact (Below.refl _ W8).alloc (Nat.le_refl _) _
      have HK9 := hid (HK8.out.step hb9)
      have k0 := HK8.out.t.cell (j := 0) rfl
      have kl := HK8.out.t.lt
      have w0 := Y8.out.cell (j := 0) rfl
      have w1 := Y8.out.cell (j := 1) rfl
      have w2 := Y8.out.cell (j := 2) rfl
      have w3 := Y8.out.cell (j := 3) rfl
      have wl := Y8.out.lt
      have hown9 := HK9.out.own
      have hz9 := HK9.out.t.lt
      have hcY : ∀ j u, ([.int .i64 y.script, .string (bs y.from_), .string (bs y.to_), .int .i64 y.cost] : List Value)[j]? = some u → Y9.cell? ((⟨W8.heap.size, 0, none⟩ : Addr).add j) = some u := by
        rw [hY9]; exact cells_new rfl
      rw [hY9] at hown9 hcY hz9
      have HY9 := hid hY9
      have HB9 := hid hb9
      clear hY9 hb9
      go_upto_region 15 with (at_builtin; refine wpList_append_own _ rfl _ _ 22 rfl (W5.heap.size + 1) 34 i0 (.agg #[.int .i64 0, .string ⟨#[]⟩, .string ⟨#[]⟩, .int .i64 0]) 4 48 Tryz.underlying22 hi hz0 hz1 hz2 rfl (by decide) _ _ _ rfl hown9 ⟨W8.heap.size, 0, none⟩ 1 1 [.int .i64 y.script, .string (bs y.from_), .string (bs y.to_), .int .i64 y.cost] rfl rfl hcY (by simp [Value.oneCell']) (by unfold maxLen; omega) (by omega) (by omega) ?_; intro v' w8 ho8 hg8 _; rw [← HY9.out] at hg8; obtain ⟨a8, c8, rfl⟩ := ownsRow_slice ho8; obtain ⟨hI8, q1, q2, q3⟩ := HK9.out.app (x := y) rfl hg8 ho8; have HI8 := hid hI8; clear ho8 hg8 hI8)
      rename World => w8
      obtain ⟨Z, hZ⟩ : ∃ Z, Z = w8.setCell ⟨W5.heap.size, 0, none⟩ (.slice a8 (n + 1) c8) := ⟨_, rfl⟩
      have HKZ := hid (show BkI W5.heap.size (.slice ad t.drops.length cd) (.slice ae t.ends.length ce) t W5 Z (n + 1) (.slice a8 (n + 1) c8) (t.rules.reverse ++ [y]) by rw [hZ]; exact HI8.out)
      rw [← hZ]
      clear hZ q1 q2 q3 hown9 hcY hz9 k0 kl w0 w1 w2 w3 wl
      have B9 := hid (Below.step B5.out HKZ.out.below)
      have TC := hid (show TableAt Z (Rw.backAnd t y) (.agg #[.slice a8 (n + 1) c8, .slice ad t.drops.length cd, .slice ae t.ends.length ce, .int .i64 t.drop, .int .i64 t.order, .int .i64 t.initial]) from by
        obtain ⟨⟨_, _, _, ev, _, sd, se⟩, f1, f2, f3, hl⟩ := TA.out.below B9.out
        simp only [Value.agg.injEq, Array.mk.injEq, List.cons.injEq] at ev
        obtain ⟨rfl, rfl, rfl, -⟩ := ev
        refine HKZ.out.tab (by rw [List.length_append, List.length_reverse, HNR.out]; rfl) sd se (fun r hr => ?_) f2 f3 ⟨by rw [List.length_append, List.length_reverse]; show t.rules.length + 1 ≤ _; omega, hl.2.1, hl.2.2⟩
        rcases List.mem_append.1 hr with hr | hr
        · exact f1 r (List.mem_reverse.1 hr)
        · rw [List.mem_singleton.1 hr]; exact HYF.out)
      have HA9 := hid (And.intro (HA.out.1.below HKZ.out.below) (HA.out.2.below HKZ.out.below))
      have Y9' := hid (Yx.out.below HKZ.out.below)
      have k0 := HKZ.out.t.cell (j := 0) rfl
      have k1 := HKZ.out.t.cell (j := 1) rfl
      have k2 := HKZ.out.t.cell (j := 2) rfl
      have k3 := HKZ.out.t.cell (j := 3) rfl
      have k4 := HKZ.out.t.cell (j := 4) rfl
      have k5 := HKZ.out.t.cell (j := 5) rfl
      have kl := HKZ.out.t.lt
      have C9 := hid (forms_x (k := k) (word := bs word) (L := L) most TC.out (HTT.out.below B9.out) hb60 (by rw [bs_list]; exact HLL.out))
      go_wp2_with fail
      refine (C9.out).mono ?_
      rintro e W10 ⟨c, q, eg, pa, pc, sa, sc, rfl, h1, h2, h3, hb⟩
      have HC := hid (And.intro h1 h2)
      have HCX := hid h3
      have HA10 := hid (And.intro (HA9.out.1.below hb) (HA9.out.2.below hb))
      have B10 := hid (Below.step B9.out hb)
      have Y10 := hid (Y9'.out.below hb)
      have HK10 := hid (HKZ.out.step hb)
      clear C9 h1 h2 h3 hb k0 k1 k2 k3 k4 k5 kl
      have k0 := HK10.out.t.cell (j := 0) rfl
      have k1 := HK10.out.t.cell (j := 1) rfl
      have k2 := HK10.out.t.cell (j := 2) rfl
      have k3 := HK10.out.t.cell (j := 3) rfl
      have k4 := HK10.out.t.cell (j := 4) rfl
      have k5 := HK10.out.t.cell (j := 5) rfl
      have kl := HK10.out.t.lt
      have HV10 := hid (valid_any (Rw.backAnd t y) _ W10 (TC.out.below (Below.refl _ _) |> fun _ => (by
        obtain ⟨⟨_, _, _, ev, _, sd, se⟩, f1, f2, f3, hl⟩ := TA.out.below B10.out
        simp only [Value.agg.injEq, Array.mk.injEq, List.cons.injEq] at ev
        obtain ⟨rfl, rfl, rfl, -⟩ := ev
        refine HK10.out.tab (by rw [List.length_append, List.length_reverse, HNR.out]; rfl) sd se (fun r hr => ?_) f2 f3 ⟨by rw [List.length_append, List.length_reverse]; show t.rules.length + 1 ≤ _; omega, hl.2.1, hl.2.2⟩
        rcases List.mem_append.1 hr with hr | hr
        · exact f1 r (List.mem_reverse.1 hr)
        · rw [List.mem_singleton.1 hr]; exact HYF.out)) (HTT.out.below B10.out))
      go_wp2_with fail
      refine (HV10.out).mono ?_
      rintro e W11 ⟨rfl, hb⟩
      have HA11 := hid (And.intro (HA10.out.1.below hb) (HA10.out.2.below hb))
      have HC11 := hid (And.intro (HC.out.1.below hb) (HC.out.2.below hb))
      have B11 := hid (Below.step B10.out hb)
      have Y11 := hid (Y10.out.below hb)
      clear hb HV10 k0 k1 k2 k3 k4 k5 kl
      cases hvb : Rw.valid (Rw.backAnd t y) with
      | false =>
        have gg : (eg == 1) = true := by rw [HCX.out.no hvb]; rfl
        clear hvb
        go_wp2_with fail
        go_ret
        exact ⟨rfl, B11.out⟩
      | true =>
        have HVB := hid hvb
        clear hvb
        have w0 := Y11.out.cell (j := 0) rfl
        have wl := Y11.out.lt
        by_cases hs : y.script = k
        · have gs : ((y.script : Int) != k) = false := by rw [bne_eq_false_iff_eq]; exact hs
          clear hs
          go_upto_region 20 with (fail)
          by_cases he : e1 = 0
          rotate_left
          · have ge : (e1 != 0) = true := by rw [bne_iff_ne]; exact he
            have ge' : (e1 == 0) = false := by rw [beq_eq_false_iff_ne]; exact he
            have gg : (eg == e1) = true := by rw [HAX.out.none_ HVV.out HVB.out HCX.out he]; simp
            clear he
            go_wp2_with fail
            go_ret
            exact ⟨rfl, B11.out⟩
          have ge : (e1 != 0) = false := by rw [bne_eq_false_iff_eq]; exact he
          have ge' : (e1 == 0) = true := by rw [beq_iff_eq]; exact he
          by_cases hg0 : eg = 0
          rotate_left
          · have gg : (eg != 0) = true := by rw [bne_iff_ne]; exact hg0
            clear he hg0
            go_wp2_with fail
            go_ret
            exact ⟨rfl, B11.out⟩
          have gg : (eg != 0) = false := by rw [bne_eq_false_iff_eq]; exact hg0
          have HFA := hid (show Fo.Forms Fo.lt L (Al.rulesFrom k 0 t.rules) most a m from Fo.AnsX.forms (by have h := HAX.out; rw [he] at h; exact h))
          have HFC := hid (show Fo.Forms Fo.lt L (Al.rulesFrom k 0 (Rw.backAnd t y).rules) most c q from Fo.AnsX.forms (by have h := HCX.out; rw [hg0] at h; exact h))
          have HAN := HA11
          have HCN := HC11
          have HALN := hid HAX.out.len
          have hal1 := HALN.out.2
          have hcl1 := HCX.out.len.2
          clear he hg0
          go_wp2_with fail
          go_loopw [23, 24] (fun pv iv wr => ∃ (p i : Nat), p ≤ c.length ∧ i ≤ a.length ∧ pv = .int .i64 p ∧ iv = .int .i64 i ∧ Hid (Fo.Behind a c i p) ∧ Hid (Below W11.heap.size W11 wr)) (fun _ iv _ => a.length - (RowKit.intOf iv).toNat)
          case atStart => exact ⟨0, 0, Nat.zero_le _, Nat.zero_le _, rfl, rfl, Fo.Behind.start, Below.refl _ _⟩
          case round =>
            obtain ⟨p0, i, hp0, hi', rfl, rfl, HBH0, HR0⟩ := hrel
            by_cases hia : i < a.length
            · obtain ⟨x, hxx⟩ : ∃ x, a[i]? = some x := ⟨_, List.getElem?_eq_getElem hia⟩
              obtain ⟨u, huu⟩ : ∃ u, m[i]? = some u := ⟨_, List.getElem?_eq_getElem (by have := HALN.out.1; omega)⟩
              have HXI := hid (And.intro hxx huu)
              have i1 : (i : Int) < (a.length : Int) := by omega
              have i0' : (0 : Int) ≤ (i : Int) := by omega
              clear hxx huu
              go_wp2_with fail
              go_loopw [23] (fun pv wr => ∃ p : Nat, p ≤ c.length ∧ pv = .int .i64 p ∧ Hid (Fo.Behind a c i p) ∧ Hid (Below W11.heap.size W11 wr)) (fun pv _ => c.length - (RowKit.intOf pv).toNat)
              case atStart => exact ⟨p0, hp0, rfl, HBH0, HR0⟩
              case round =>
                obtain ⟨p, hp, rfl, HBH, HRW⟩ := hrel
                by_cases hpl : p < c.length
                · obtain ⟨z, hz⟩ : ∃ z, c[p]? = some z := ⟨_, List.getElem?_eq_getElem hpl⟩
                  obtain ⟨gc, oc', rfl, zc1, v1⟩ := rn_cell1 (f := fun x => Value.string (bs x)) (HCN.out.1.below HRW.out) hz
                  obtain ⟨ga, oa', rfl, za1, v3⟩ := rn_cell1 (f := fun x => Value.string (bs x)) (HAN.out.1.below HRW.out) HXI.out.1
                  have r0 : (0 : Int) ≤ (p : Int) := by omega
                  have r1 : (p : Int) < (c.length : Int) := by omega
                  have gp : decide ((p : Int) < (c.length : Int)) = true := decide_eq_true r1
                  have gp' : decide (p < c.length) = true := decide_eq_true hpl
                  have hls := bs_less z x
                  have HZ := hid hz
                  clear hz
                  by_cases hzx : z < x
                  · have HST := hid (HBH.out.step HZ.out HXI.out.1 hzx)
                    rw [decide_eq_true hzx] at hls
                    clear hzx
                    go_wp2_with fail
                    go_quiet (fail)
                    go_wp2_with fail
                    go_roundw
                    case rel => exact ⟨p + 1, by omega, by go_num, HST, hid (HRW.out.trans ((Below.drewQ _ _).mono HRW.out.size))⟩
                    case measure => simp [RowKit.intOf]; omega
                  · have HEND := hid (show ∀ z', c[p]? = some z' → ¬ z' < x from fun z' hz' => by rw [HZ.out] at hz'; cases hz'; exact hzx)
                    rw [decide_eq_false hzx] at hls
                    have HRW0 := HRW
                    clear hzx
                    go_wp2_with fail
                    go_quiet (fail)
                    obtain ⟨wr2, hwr2⟩ : ∃ w, w = wr.drewN nq := ⟨_, rfl⟩
                    have HRW := hid (show Below W11.heap.size W11 wr2 by rw [hwr2]; exact HRW0.out.trans ((Below.drewQ _ _).mono HRW0.out.size))
                    rw [← hwr2]
                    clear hwr2 v1 v3 zc1 za1 hls gp gp' r0 r1
                    go_wp2_with fail
                    have HFX := hid (HBH.out.found (Fo.rules_and t y k) HFA.out HFC.out HXI.out.1 HXI.out.2 HEND.out)
                    obtain ⟨v, hv1, hv2, hv3⟩ := HFX.out
                    obtain ⟨gc2, oc2, ec, zc1, v1⟩ := rn_cell1 (f := fun x => Value.string (bs x)) (HCN.out.1.below HRW.out) hv1
                    cases ec
                    obtain ⟨gq, oq, rfl, zq1, v2⟩ := rn_cell1 (f := fun x => Value.int .i64 x) (HCN.out.2.below HRW.out) hv2
                    obtain ⟨ga2, oa2, ea, za1, v3⟩ := rn_cell1 (f := fun x => Value.string (bs x)) (HAN.out.1.below HRW.out) HXI.out.1
                    cases ea
                    obtain ⟨gm, om, rfl, zm1, v4⟩ := rn_cell1 (f := fun x => Value.int .i64 x) (HAN.out.2.below HRW.out) HXI.out.2
                    have hpc := (List.getElem?_eq_some_iff.1 hv1).1
                    have hpq := (List.getElem?_eq_some_iff.1 hv2).1
                    have him := (List.getElem?_eq_some_iff.1 HXI.out.2).1
                    have r0 : (0 : Int) ≤ (p : Int) := by omega
                    have r1 : (p : Int) < (c.length : Int) := by omega
                    have r2 : (p : Int) < (q.length : Int) := by omega
                    have r3 : (0 : Int) ≤ (i : Int) := by omega
                    have r4 : (i : Int) < (m.length : Int) := by omega
                    have r5 : (i : Int) < (a.length : Int) := by omega
                    have b1 : decide ((c.length : Int) ≤ (p : Int)) = false := decide_eq_false (by omega)
                    have b2 : decide ((q.length : Int) ≤ (p : Int)) = false := decide_eq_false (by omega)
                    have b3 : decide ((m.length : Int) ≤ (i : Int)) = false := decide_eq_false (by omega)
                    have b1' : decide (c.length ≤ p) = false := decide_eq_false (by omega)
                    have b2' : decide (q.length ≤ p) = false := decide_eq_false (by omega)
                    have b3' : decide (m.length ≤ i) = false := decide_eq_false (by omega)
                    have b4 : ((bs x).toList == (bs x).toList) = true := by simp
                    have b5 : decide (u < v) = false := decide_eq_false (by omega)
                    clear hv1 hv2 hv3 hpc hpq him
                    go_wp2_with fail
                    go_quiet (fail)
                    go_wp2_with fail
                    go_roundw
                    case rel => exact ⟨p, i + 1, by omega, by omega, rfl, by go_num, hid (HBH.out.next HFA.out.order), hid (HRW.out.trans ((Below.drewQ _ _).mono HRW.out.size))⟩
                    case measure => simp [RowKit.intOf]; omega
                · have HEND := hid (show ∀ z', c[p]? = some z' → ¬ z' < x from fun z' hz' => absurd (List.getElem?_eq_some_iff.1 hz').1 hpl)
                  exact absurd (List.getElem?_eq_some_iff.1 (HBH.out.found (Fo.rules_and t y k) HFA.out HFC.out HXI.out.1 HXI.out.2 HEND.out).choose_spec.1).1 hpl
            · have i1 : ¬ (i : Int) < (a.length : Int) := by omega
              have B20 := hid (B11.out.trans (HR0.out.mono B11.out.size))
              go_wp2_with fail
              go_ret
              exact ⟨rfl, B20.out⟩
        · have gs : ((y.script : Int) != k) = true := by rw [bne_iff_ne]; exact hs
          have HOT := hid (HAX.out.other HVV.out HVB.out hs HCX.out)
          have gx : (eg != e1) = false := by rw [HOT.out.2.2]; simp
          have D11 := hid (sameForms_any a m c q _ _ _ _ W11 HA11.out.1 HA11.out.2 HC11.out.1 HC11.out.2)
          rw [sameForms_yes HOT.out.1 HOT.out.2.1 HAL.out.1] at D11
          clear hs
          go_wp2_with fail
          refine (D11.out).mono ?_
          rintro e W12 ⟨rfl, hb⟩
          have HA12 := hid (And.intro (HA11.out.1.below hb) (HA11.out.2.below hb))
          have HC12 := hid (And.intro (HC11.out.1.below hb) (HC11.out.2.below hb))
          have B12 := hid (Below.step B11.out hb)
          clear hb D11 w0 wl gx gs
          go_upto_region 20 with (fail)
          by_cases he : e1 = 0
          rotate_left
          · have ge : (e1 != 0) = true := by rw [bne_iff_ne]; exact he
            have ge' : (e1 == 0) = false := by rw [beq_eq_false_iff_ne]; exact he
            have gg : (eg == e1) = true := by rw [HAX.out.none_ HVV.out HVB.out HCX.out he]; simp
            clear he
            go_wp2_with fail
            go_ret
            exact ⟨rfl, B12.out⟩
          have ge : (e1 != 0) = false := by rw [bne_eq_false_iff_eq]; exact he
          have ge' : (e1 == 0) = true := by rw [beq_iff_eq]; exact he
          by_cases hg0 : eg = 0
          rotate_left
          · have gg : (eg != 0) = true := by rw [bne_iff_ne]; exact hg0
            clear he hg0
            go_wp2_with fail
            go_ret
            exact ⟨rfl, B12.out⟩
          have gg : (eg != 0) = false := by rw [bne_eq_false_iff_eq]; exact hg0
          have HFA := hid (show Fo.Forms Fo.lt L (Al.rulesFrom k 0 t.rules) most a m from Fo.AnsX.forms (by have h := HAX.out; rw [he] at h; exact h))
          have HFC := hid (show Fo.Forms Fo.lt L (Al.rulesFrom k 0 (Rw.backAnd t y).rules) most c q from Fo.AnsX.forms (by have h := HCX.out; rw [hg0] at h; exact h))
          have HAN := HA12
          have HCN := HC12
          have HALN := hid HAX.out.len
          have hal1 := HALN.out.2
          have hcl1 := HCX.out.len.2
          clear he hg0
          go_wp2_with fail
          go_loopw [23, 24] (fun pv iv wr => ∃ (p i : Nat), p ≤ c.length ∧ i ≤ a.length ∧ pv = .int .i64 p ∧ iv = .int .i64 i ∧ Hid (Fo.Behind a c i p) ∧ Hid (Below W12.heap.size W12 wr)) (fun _ iv _ => a.length - (RowKit.intOf iv).toNat)
          case atStart => exact ⟨0, 0, Nat.zero_le _, Nat.zero_le _, rfl, rfl, Fo.Behind.start, Below.refl _ _⟩
          case round =>
            obtain ⟨p0, i, hp0, hi', rfl, rfl, HBH0, HR0⟩ := hrel
            by_cases hia : i < a.length
            · obtain ⟨x, hxx⟩ : ∃ x, a[i]? = some x := ⟨_, List.getElem?_eq_getElem hia⟩
              obtain ⟨u, huu⟩ : ∃ u, m[i]? = some u := ⟨_, List.getElem?_eq_getElem (by have := HALN.out.1; omega)⟩
              have HXI := hid (And.intro hxx huu)
              have i1 : (i : Int) < (a.length : Int) := by omega
              have i0' : (0 : Int) ≤ (i : Int) := by omega
              clear hxx huu
              go_wp2_with fail
              go_loopw [23] (fun pv wr => ∃ p : Nat, p ≤ c.length ∧ pv = .int .i64 p ∧ Hid (Fo.Behind a c i p) ∧ Hid (Below W12.heap.size W12 wr)) (fun pv _ => c.length - (RowKit.intOf pv).toNat)
              case atStart => exact ⟨p0, hp0, rfl, HBH0, HR0⟩
              case round =>
                obtain ⟨p, hp, rfl, HBH, HRW⟩ := hrel
                by_cases hpl : p < c.length
                · obtain ⟨z, hz⟩ : ∃ z, c[p]? = some z := ⟨_, List.getElem?_eq_getElem hpl⟩
                  obtain ⟨gc, oc', rfl, zc1, v1⟩ := rn_cell1 (f := fun x => Value.string (bs x)) (HCN.out.1.below HRW.out) hz
                  obtain ⟨ga, oa', rfl, za1, v3⟩ := rn_cell1 (f := fun x => Value.string (bs x)) (HAN.out.1.below HRW.out) HXI.out.1
                  have r0 : (0 : Int) ≤ (p : Int) := by omega
                  have r1 : (p : Int) < (c.length : Int) := by omega
                  have gp : decide ((p : Int) < (c.length : Int)) = true := decide_eq_true r1
                  have gp' : decide (p < c.length) = true := decide_eq_true hpl
                  have hls := bs_less z x
                  have HZ := hid hz
                  clear hz
                  by_cases hzx : z < x
                  · have HST := hid (HBH.out.step HZ.out HXI.out.1 hzx)
                    rw [decide_eq_true hzx] at hls
                    clear hzx
                    go_wp2_with fail
                    go_quiet (fail)
                    go_wp2_with fail
                    go_roundw
                    case rel => exact ⟨p + 1, by omega, by go_num, HST, hid (HRW.out.trans ((Below.drewQ _ _).mono HRW.out.size))⟩
                    case measure => simp [RowKit.intOf]; omega
                  · have HEND := hid (show ∀ z', c[p]? = some z' → ¬ z' < x from fun z' hz' => by rw [HZ.out] at hz'; cases hz'; exact hzx)
                    rw [decide_eq_false hzx] at hls
                    have HRW0 := HRW
                    clear hzx
                    go_wp2_with fail
                    go_quiet (fail)
                    obtain ⟨wr2, hwr2⟩ : ∃ w, w = wr.drewN nq := ⟨_, rfl⟩
                    have HRW := hid (show Below W12.heap.size W12 wr2 by rw [hwr2]; exact HRW0.out.trans ((Below.drewQ _ _).mono HRW0.out.size))
                    rw [← hwr2]
                    clear hwr2 v1 v3 zc1 za1 hls gp gp' r0 r1
                    go_wp2_with fail
                    have HFX := hid (HBH.out.found (Fo.rules_and t y k) HFA.out HFC.out HXI.out.1 HXI.out.2 HEND.out)
                    obtain ⟨v, hv1, hv2, hv3⟩ := HFX.out
                    obtain ⟨gc2, oc2, ec, zc1, v1⟩ := rn_cell1 (f := fun x => Value.string (bs x)) (HCN.out.1.below HRW.out) hv1
                    cases ec
                    obtain ⟨gq, oq, rfl, zq1, v2⟩ := rn_cell1 (f := fun x => Value.int .i64 x) (HCN.out.2.below HRW.out) hv2
                    obtain ⟨ga2, oa2, ea, za1, v3⟩ := rn_cell1 (f := fun x => Value.string (bs x)) (HAN.out.1.below HRW.out) HXI.out.1
                    cases ea
                    obtain ⟨gm, om, rfl, zm1, v4⟩ := rn_cell1 (f := fun x => Value.int .i64 x) (HAN.out.2.below HRW.out) HXI.out.2
                    have hpc := (List.getElem?_eq_some_iff.1 hv1).1
                    have hpq := (List.getElem?_eq_some_iff.1 hv2).1
                    have him := (List.getElem?_eq_some_iff.1 HXI.out.2).1
                    have r0 : (0 : Int) ≤ (p : Int) := by omega
                    have r1 : (p : Int) < (c.length : Int) := by omega
                    have r2 : (p : Int) < (q.length : Int) := by omega
                    have r3 : (0 : Int) ≤ (i : Int) := by omega
                    have r4 : (i : Int) < (m.length : Int) := by omega
                    have r5 : (i : Int) < (a.length : Int) := by omega
                    have b1 : decide ((c.length : Int) ≤ (p : Int)) = false := decide_eq_false (by omega)
                    have b2 : decide ((q.length : Int) ≤ (p : Int)) = false := decide_eq_false (by omega)
                    have b3 : decide ((m.length : Int) ≤ (i : Int)) = false := decide_eq_false (by omega)
                    have b1' : decide (c.length ≤ p) = false := decide_eq_false (by omega)
                    have b2' : decide (q.length ≤ p) = false := decide_eq_false (by omega)
                    have b3' : decide (m.length ≤ i) = false := decide_eq_false (by omega)
                    have b4 : ((bs x).toList == (bs x).toList) = true := by simp
                    have b5 : decide (u < v) = false := decide_eq_false (by omega)
                    clear hv1 hv2 hv3 hpc hpq him
                    go_wp2_with fail
                    go_quiet (fail)
                    go_wp2_with fail
                    go_roundw
                    case rel => exact ⟨p, i + 1, by omega, by omega, rfl, by go_num, hid (HBH.out.next HFA.out.order), hid (HRW.out.trans ((Below.drewQ _ _).mono HRW.out.size))⟩
                    case measure => simp [RowKit.intOf]; omega
                · have HEND := hid (show ∀ z', c[p]? = some z' → ¬ z' < x from fun z' hz' => absurd (List.getElem?_eq_some_iff.1 hz').1 hpl)
                  exact absurd (List.getElem?_eq_some_iff.1 (HBH.out.found (Fo.rules_and t y k) HFA.out HFC.out HXI.out.1 HXI.out.2 HEND.out).choose_spec.1).1 hpl
            · have i1 : ¬ (i : Int) < (a.length : Int) := by omega
              have B20 := hid (B12.out.trans (HR0.out.mono B12.out.size))
              go_wp2_with fail
              go_ret
              exact ⟨rfl, B20.out⟩

end Go.Proofs.YtdchjacccmajcaaGreatDoor
