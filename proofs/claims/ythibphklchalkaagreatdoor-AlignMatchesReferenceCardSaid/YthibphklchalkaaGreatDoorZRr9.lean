/-
  The reference's least costs from each state on: rest. Conditions: lengths.
-/
import Derived.Test.YthibphklchalkaaGreatDoorZRr6
import Derived.Test.YthibphklchalkaaGreatDoorZRr7
import Derived.Test.YthibphklchalkaaGreatDoorZRr8
import Derived.Test.YthibphklchalkaaGreatDoorZAl4
import Derived.Test.YthibphklchalkaaGreatDoorZMBase
namespace Al
theorem moves_few {w : Ws} (h : (w.left.rules ++ w.right.rules).length ≤ 200) (s : St) : (moves w s).length ≤ 200 := by
  unfold moves
  refine Nat.le_trans (List.length_filterMap_le _ _) ?_
  rw [List.length_append] at h
  unfold one
  split <;> omega
end Al
namespace Go.Proofs.YthibphklchalkaaGreatDoor
open Go.RowKit Go.Lib Go.Maps

theorem TableAt.but {W W' : World} {t : Rw.Table} {v : Value} {m : Nat} (h : TableAt W t v) (hb : But W.heap.size m W W') {om : Obj} (hm : W.heap[m]? = some om) (hmc : om.isCells = false) : TableAt W' t v := by
  obtain ⟨⟨vr, vd, ve, e, h1, h2, h3⟩, h4, h5, h6, h7⟩ := h
  exact ⟨⟨vr, vd, ve, e, h1.but hb hm hmc, h2.but hb hm hmc, h3.but hb hm hmc⟩, h4, h5, h6, h7⟩

/-- what rest works with -/
structure RestW (t : Rw.Table) (tv vl vr : Value) (w : Al.Ws) (m : Nat) (K : List Al.St) (W : World) : Prop where
  table : TableAt W t tv
  left : SlOf W vl 1 strC w.left.letters
  right : SlOf W vr 1 strC w.right.letters
  map : MapF W Tryz.prog 66 m K.length (costsP w K)
  closed : Al.Closed w K

section
variable {t : Rw.Table} {tv vl vr : Value} {w : Al.Ws} {m : Nat} {K K' : List Al.St} {W W' : World}
theorem RestW.but (h : RestW t tv vl vr w m K W) (hb : But W.heap.size m W W') (hm : MapF W' Tryz.prog 66 m K'.length (costsP w K')) (hc : Al.Closed w K') : RestW t tv vl vr w m K' W' := by
  obtain ⟨om, h1, h2⟩ := h.map.no_cells
  exact ⟨h.table.but hb h1 h2, h.left.but hb h1 h2, h.right.but hb h1 h2, hm, hc⟩
theorem RestW.below (h : RestW t tv vl vr w m K W) (hb : Below W.heap.size W W') : RestW t tv vl vr w m K W' :=
  h.but (But.of_below hb m) (h.map.below hb) h.closed
theorem But.blk {b : Nat} {e : TypeId} {vs : List Value} (h : But W.heap.size m W W') (hk : Blk W b e vs) (hm : b ≠ m) : Blk W' b e vs := (h.block b hk.lt hm).trans hk
theorem But.tch (h : But W.heap.size m W W') : Tch (fun b => b = m) W W' := ⟨h.os, h.tape, h.output, h.size, fun k hk hn => h.block k hk hn⟩
end

/-- what rest ends in -/
def RestPost (t : Rw.Table) (tv vl vr : Value) (w : Al.Ws) (m : Nat) (K : List Al.St) (s : Al.St) (W : World) (e : Ending) (W' : World) : Prop :=
  e = .returned (.int .i64 (Al.cost w s)) ∧ But W.heap.size m W W' ∧ ∃ K', RestW t tv vl vr w m K' W' ∧ s ∈ K' ∧ (∀ x ∈ K, x ∈ K') ∧ ∀ x ∈ K', x ∈ K ∨ Al.meas w x ≤ Al.meas w s

/-- between two moves -/
structure RestI (t : Rw.Table) (tv vl vr : Value) (w : Al.Ws) (m : Nat) (K : List Al.St) (s : Al.St) (W3 : World) (i : Nat) (h : Int) (K' : List Al.St) (A : World) : Prop where
  on : RestW t tv vl vr w m K' A
  least : h = Al.least w ((Al.moves w s).take i) (Al.start w s)
  ge : 0 ≤ h
  le : h ≤ Al.endless
  done : ∀ p ∈ (Al.moves w s).take i, p.2 ∈ K'
  sub : ∀ x ∈ K, x ∈ K'
  few : ∀ x ∈ K', x ∈ K ∨ Al.meas w x < Al.meas w s
  but : But W3.heap.size m W3 A

set_option maxRecDepth 100000 in
set_option maxHeartbeats 8000000 in
theorem rest_any (t : Rw.Table) (tv : Value) (a b : Int) (vl vr : Value) (w : Al.Ws) (hw : w = Al.wsOf t a w.left.letters b w.right.letters) (hf : Few w) (m : Nat) : ∀ (n : Nat) (s : Al.St) (K : List Al.St) (W : World), Al.meas w s < n → Al.Ok w s → RestW t tv vl vr w m K W →
    Calls Tryz.prog 41 #[tv, .int .i64 a, vl, .int .i64 b, vr, potV s, .map (some m)] W (RestPost t tv vl vr w m K s W) := by
  have HW := hid hw
  clear hw
  intro n
  induction n with
  | zero => intro s K W h; omega
  | succ n ih =>
  intro s K W hn hok hC
  have hal := Al.aheads_len (fun r hr => (hf.sizes r hr).2) hok.2
  have hi1 := hok.1.1
  have hi2 := hok.1.2.1
  have hll := hf.small.left
  have hlr := hf.small.right
  obtain ⟨kl, hkl⟩ := pot_some s (by omega) (by omega) hal
  have HKL := hid hkl
  have hIH := hid ih
  have HC0 := hid hC
  have hmW := hC.map.lt
  clear ih
  obtain ⟨⟨⟨vt, vd, ve, rfl, ⟨ar, cr, rfl, -⟩, ⟨ad, cd, rfl, -⟩, ⟨ae, ce, rfl, -⟩⟩, -, -, -, -⟩, ⟨la, lc, rfl, -⟩, ⟨ra, rc, rfl, -⟩, -, -⟩ := hC
  obtain ⟨W2, hW2⟩ : ∃ W2, W2 = (W.alloc (.cells #[.slice ar t.rules.length cr, .slice ad t.drops.length cd, .slice ae t.ends.length ce, .int .i64 t.drop, .int .i64 t.order, .int .i64 t.initial] 25)).alloc (.cells #[.int .i64 s.i, .int .i64 s.j, .string (bs s.ahead), .bool s.right, .int .i64 0] 66) := ⟨_, rfl⟩
  have HB2 := hid (show Below W.heap.size W W2 by rw [hW2]; exact ((Below.refl _ W).alloc (Nat.le_refl _) _).alloc (by simp) _)
  have HT2 := hid (show Blk W2 W.heap.size 25 [.slice ar t.rules.length cr, .slice ad t.drops.length cd, .slice ae t.ends.length ce, .int .i64 t.drop, .int .i64 t.order, .int .i64 t.initial] by
    rw [hW2]; exact (Blk.new W _ _).below ((Below.refl _ _).alloc (Nat.le_refl _) _))
  have HS2 := hid (show Blk W2 (W.heap.size + 1) 66 [.int .i64 s.i, .int .i64 s.j, .string (bs s.ahead), .bool s.right, .int .i64 0] by
    rw [hW2]
    have := Blk.new (W.alloc (.cells #[.slice ar t.rules.length cr, .slice ad t.drops.length cd, .slice ae t.ends.length ce, .int .i64 t.drop, .int .i64 t.order, .int .i64 t.initial] 25)) 66 [.int .i64 s.i, .int .i64 s.j, .string (bs s.ahead), .bool s.right, .int .i64 0]
    rwa [World.size_alloc] at this)
  have hget := (HC0.out.map.below HB2.out).getOk pot_keyed Tryz.underlying63 (zero_int W2) hkl
  have HCB : Hid (∀ X, But W2.heap.size m W2 X → Blk X W.heap.size 25 [.slice ar t.rules.length cr, .slice ad t.drops.length cd, .slice ae t.ends.length ce, .int .i64 t.drop, .int .i64 t.order, .int .i64 t.initial] ∧ Blk X (W.heap.size + 1) 66 [.int .i64 s.i, .int .i64 s.j, .string (bs s.ahead), .bool s.right, .int .i64 0]) :=
    fun X hX => ⟨hX.blk HT2.out (by omega), hX.blk HS2.out (by omega)⟩
  have q0 := HS2.out.cell (j := 0) rfl
  have q1 := HS2.out.cell (j := 1) rfl
  have q2 := HS2.out.cell (j := 2) rfl
  have q3 := HS2.out.cell (j := 3) rfl
  have q4 := HS2.out.cell (j := 4) rfl
  have zq := HS2.out.lt
  clear hkl
  by_cases hin : s ∈ K
  · rw [costsP_in hin] at hget
    unfold potV potC at hget ⊢
    have HIN := hid hin
    clear hin
    go_enter Tryz.func41, Tryz.ntmps41
    go_upto_region 1 with (fail)
    rw [← hW2]
    clear hW2
    go_wp2_with fail
    go_ret
    exact ⟨rfl, But.of_below HB2.out m, K, HC0.out.below HB2.out, HIN.out, fun x hx => hx, fun x hx => .inl hx⟩
  · rw [costsP_out hin] at hget
    unfold potV potC at hget ⊢
    have HIN := hid hin
    clear hin
    go_enter Tryz.func41, Tryz.ntmps41
    go_upto_region 1 with (fail)
    rw [← hW2]
    clear hW2
    go_upto_region 5 with (fail)
    go_cut [15, 27, 28, 29, 30, 31, 32, 33, 34, 35, 36, 37, 38, 39, 40, 41, 42, 43] from 44 (fun v15 v27 v28 v29 v30 v31 v32 v33 v34 v35 v36 v37 v38 v39 v40 v41 v42 v43 wx => v15 = .int .i64 1099511627776 ∧ v43 = .bool (Al.done w s) ∧ wx = W2)
    case first =>
      clear hget
      by_cases h1 : s.i = w.left.letters.length
      rotate_left
      · have d1 : ((s.i : Int) == (w.left.letters.length : Int)) = false := by rw [nat_beq, decide_eq_false h1]
        have HD := hid (show Al.done w s = false by unfold Al.done; rw [decide_eq_false h1]; rfl)
        clear h1
        go_wp2_with fail
        go_meet
        case rel => exact ⟨rfl, congrArg Value.bool HD.out.symm, rfl⟩
      have d1 : ((s.i : Int) == (w.left.letters.length : Int)) = true := by rw [nat_beq, decide_eq_true h1]
      by_cases h2 : s.j = w.right.letters.length
      rotate_left
      · have d2 : ((s.j : Int) == (w.right.letters.length : Int)) = false := by rw [nat_beq, decide_eq_false h2]
        have HD := hid (show Al.done w s = false by unfold Al.done; rw [decide_eq_false h2, Bool.and_false]; rfl)
        clear h1 h2
        go_wp2_with fail
        go_meet
        case rel => exact ⟨rfl, congrArg Value.bool HD.out.symm, rfl⟩
      have d2 : ((s.j : Int) == (w.right.letters.length : Int)) = true := by rw [nat_beq, decide_eq_true h2]
      have HD := hid (show Al.done w s = s.ahead.isEmpty by unfold Al.done; rw [decide_eq_true h1, decide_eq_true h2]; rfl)
      have hE := empty_is s.ahead
      obtain ⟨e, he⟩ : ∃ e, e = s.ahead.isEmpty := ⟨_, rfl⟩
      rw [← he] at hE HD
      clear h1 h2 he
      cases e with
      | false =>
        go_wp2_with fail
        go_meet
        case rel => exact ⟨rfl, congrArg Value.bool HD.out.symm, rfl⟩
      | true =>
        go_wp2_with fail
        go_meet
        case rel => exact ⟨rfl, congrArg Value.bool HD.out.symm, rfl⟩
    case rest =>
    obtain ⟨rfl, rfl, hwc⟩ := hcut
    rw [hwc]
    clear hwc
    go_step
    go_cut [15] from 43 (fun v15 wx => v15 = .int .i64 (Al.start w s) ∧ wx = W2)
    case first =>
      cases hd : Al.done w s with
      | false =>
        have HD := hid (show Al.start w s = 1099511627776 by unfold Al.start; rw [hd]; rfl)
        clear hd hget
        go_wp2_with fail
        go_meet
        case rel => exact ⟨congrArg (Value.int .i64) HD.out.symm, rfl⟩
      | true =>
        have HD := hid (show Al.start w s = 0 by unfold Al.start; rw [hd]; rfl)
        clear hd hget
        go_wp2_with fail
        go_meet
        case rel => exact ⟨congrArg (Value.int .i64) HD.out.symm, rfl⟩
    case rest =>
    obtain ⟨rfl, hwc⟩ := hcut
    rw [hwc]
    clear hwc
    have HMV : Hid (Calls Tryz.prog 24 #[.agg #[.slice ar t.rules.length cr, .slice ad t.drops.length cd, .slice ae t.ends.length ce, .int .i64 t.drop, .int .i64 t.order, .int .i64 t.initial], .int .i64 a, .slice la w.left.letters.length lc, .int .i64 b, .slice ra w.right.letters.length rc, .agg #[.int .i64 s.i, .int .i64 s.j, .string (bs s.ahead), .bool s.right, .int .i64 0]] W2 (MvP (Al.moves w s) W2)) := by
      have h0 := HC0.out.below HB2.out
      have := rmoves_any t _ a b w.left.letters w.right.letters _ _ s W2 h0.table h0.left h0.right (by omega) (by omega) (by omega) (by omega) (by omega)
      rw [← HW.out] at this
      exact this
    have c0 := HT2.out.cell (j := 0) rfl
    have c1 := HT2.out.cell (j := 1) rfl
    have c2 := HT2.out.cell (j := 2) rfl
    have c3 := HT2.out.cell (j := 3) rfl
    have c4 := HT2.out.cell (j := 4) rfl
    have c5 := HT2.out.cell (j := 5) rfl
    have zc := HT2.out.lt
    clear hget
    go_wp2_with fail
    refine (HMV.out).mono ?_
    rintro e W3 ⟨v, rfl, hown, hb3⟩
    obtain ⟨va, vc, rfl⟩ := ownsRow_slice hown
    have HB3 := hid hb3
    have HM3 := hid (show SlOf W3 (.slice va (Al.moves w s).length vc) 7 mvC (Al.moves w s) from SlOf.own hown (fun x _ => rfl))
    obtain ⟨q, hq⟩ : ∃ q, q = (Al.moves w s).length := ⟨_, rfl⟩
    have HQ := hid hq
    rw [← hq] at HM3 ⊢
    have hq200 : q ≤ 200 := by
      rw [hq]
      exact Al.moves_few hf.rules s
    have hst : Al.start w s ≤ Al.endless ∧ 0 ≤ Al.start w s := by unfold Al.start Al.endless; split <;> omega
    have HST := hid hst
    have hz3 := hb3.size
    clear hown hb3 hq q0 q1 q2 q3 q4 zq c0 c1 c2 c3 c4 c5 zc HMV hst
    go_wp2_with fail
    go_loopw [15, 18] (fun hv iv wr => ∃ (i : Nat) (h : Int) (K' : List Al.St), i ≤ q ∧ hv = .int .i64 h ∧ iv = .int .i64 i ∧ Hid (RestI t (.agg #[.slice ar t.rules.length cr, .slice ad t.drops.length cd, .slice ae t.ends.length ce, .int .i64 t.drop, .int .i64 t.order, .int .i64 t.initial]) (.slice la w.left.letters.length lc) (.slice ra w.right.letters.length rc) w m K s W3 i h K' wr)) (fun _ iv _ => q - (RowKit.intOf iv).toNat)
    case atStart =>
      refine ⟨0, _, K, Nat.zero_le _, rfl, rfl, hid ⟨HC0.out.below (Below.step HB2.out HB3.out), by rw [List.take_zero]; rfl, HST.out.2, HST.out.1, by simp, fun x hx => hx, fun x hx => .inl hx, But.refl _ _ _⟩⟩
    case round =>
      obtain ⟨i, h, K', hi, rfl, rfl, HI⟩ := hrel
      have hwr := HI.out.but.size
      by_cases hiq : i < q
      · obtain ⟨p, hp⟩ : ∃ p, (Al.moves w s)[i]? = some p := ⟨_, List.getElem?_eq_getElem (by rw [← HQ.out]; exact hiq)⟩
        obtain ⟨r, s'⟩ := p
        obtain ⟨om, hom, homc⟩ := (HC0.out.below (Below.step HB2.out HB3.out)).map.no_cells
        obtain ⟨g, o, rfl, hr⟩ : ∃ g o, va = some ⟨g, o, none⟩ ∧ RowOf wr g o 7 mvC (Al.moves w s) := by
          obtain ⟨a', c', e, -, -, hr⟩ := HM3.out.but HI.out.but hom homc
          cases e
          exact hr (by rw [← HQ.out]; omega)
        have hc := hr.2 i (r, s') hp
        have e1 := hc 1 _ rfl
        have e2 := hc 2 _ rfl
        have e3 := hc 3 _ rfl
        have e4 := hc 4 _ rfl
        have e5 := hc 5 _ rfl
        have e6 := hc 6 _ rfl
        have hg := hr.1
        have hgm : g ≠ m := fun e => by
          obtain ⟨om2, hom2, homc2⟩ := HI.out.on.map.no_cells
          obtain ⟨ob, ho, hcc⟩ := cell_isCells e1
          simp only at ho
          rw [e, hom2] at ho
          cases ho
          rw [homc2] at hcc; cases hcc
        have hmem : (r, s') ∈ Al.moves w s := List.mem_of_getElem? hp
        obtain ⟨hok', hme, -⟩ := Al.move_step hf.good hmem hok.1
        have HCall := hid (hIH.out s' K' wr.drew (by omega) (Al.ok_step hf.good hmem hok) (HI.out.on.below (Below.refl _ wr).drew))
        have hbW2 : But W2.heap.size m W2 wr := (But.of_below HB3.out m).trans (HI.out.but.mono hz3)
        obtain ⟨HTr, -⟩ := HCB.out wr hbW2
        have c0 := HTr.cell (j := 0) rfl
        have c1 := HTr.cell (j := 1) rfl
        have c2 := HTr.cell (j := 2) rfl
        have c3 := HTr.cell (j := 3) rfl
        have c4 := HTr.cell (j := 4) rfl
        have c5 := HTr.cell (j := 5) rfl
        have zc := HTr.lt
        have hWm : W.heap.size ≠ m := by omega
        have i0 : (0 : Int) ≤ (i : Int) := by omega
        have i1 : (i : Int) < (q : Int) := by omega
        have hrc := (hf.good.one s).cost r (Al.mem_moves.1 hmem).1
        have hcc0 := Al.cost_nonneg hf.good _ s' (Nat.le_refl _) hok'
        have hcc1 := Al.cost_le hf.good hok'
        have hwrap : IntKind.i64.wrap (r.cost + Al.cost w s') = r.cost + Al.cost w s' := IntWalk.i64_in _ (by unfold Al.endless at hcc1; omega)
        have HP := hid (And.intro hp (And.intro hme hmem))
        have HBN := hid (And.intro hrc.1 (And.intro hcc0 hcc1))
        clear hc hr hp hmem hok' hme HTr hrc hcc0 hcc1 hom homc
        unfold potV potC at HCall
        go_upto_region 11 with (fail)
        refine wp_heldS (S := StillT (fun b => b = m) wr) (by kernel_rfl) ?_
        simp only [List.size_toArray, List.length_cons, List.length_nil, Nat.reduceAdd]
        intro hc
        have S0 : StillT (fun b => b = m) wr (Array.replicate 21 false) wr.drew := (Tch.refl (fun b => b = m) wr).step (Below.refl _ _).drew
        refine wpAnyS_take (i := 0) (v := .int .i64 h) rfl (by kernel_rfl) (by kernel_rfl) (by kernel_rfl) (fun _ _ _ h => h) (fun _ _ => Iff.rfl) hc (by first | rfl | simp [Region.wanted]) (fun wx hx => ?_) S0 (fun hc S0 => ?_)
        · go_simp
        try simp only [List.getElem_toArray, List.getElem_cons_zero, Act.put, List.setIfInBounds_toArray, List.set_cons_zero, List.set_cons_succ]
        refine wpAnyS_take (i := 1) (v := .slice (some ⟨g, o, none⟩) q vc) rfl (by kernel_rfl) (by kernel_rfl) (by kernel_rfl) (fun _ _ _ h => h) (fun _ _ => Iff.rfl) hc (by first | rfl | simp [Region.wanted]) (fun wx hx => ?_) S0 (fun hc S0 => ?_)
        · go_simp
        try simp only [List.getElem_toArray, List.getElem_cons_succ, List.getElem_cons_zero, Act.put, List.setIfInBounds_toArray, List.set_cons_zero, List.set_cons_succ]
        refine wpAnyS_take (i := 2) (v := .int .i64 i) rfl (by kernel_rfl) (by kernel_rfl) (by kernel_rfl) (fun _ _ _ h => h) (fun _ _ => Iff.rfl) hc (by first | rfl | simp [Region.wanted]) (fun wx hx => ?_) S0 (fun hc S0 => ?_)
        · go_simp
        try simp only [List.getElem_toArray, List.getElem_cons_succ, List.getElem_cons_zero, Act.put, List.setIfInBounds_toArray, List.set_cons_zero, List.set_cons_succ]
        refine wpAnyS_take (i := 3) (v := .pointer (some ⟨g, o + i * 7, none⟩)) rfl (by kernel_rfl) (by kernel_rfl) (by kernel_rfl) (fun _ _ _ h => h) (fun _ _ => Iff.rfl) hc (by first | rfl | simp [Region.wanted]) (fun wx hx => ?_) S0 (fun hc S0 => ?_)
        · go_simp
        try simp only [List.getElem_toArray, List.getElem_cons_succ, List.getElem_cons_zero, Act.put, List.setIfInBounds_toArray, List.set_cons_zero, List.set_cons_succ]
        refine wpAnyS_take (i := 4) (v := .pointer (some ⟨g, o + i * 7 + 1, none⟩)) rfl (by kernel_rfl) (by kernel_rfl) (by kernel_rfl) (fun _ _ _ h => h) (fun _ _ => Iff.rfl) hc (by first | rfl | simp [Region.wanted]) (fun wx hx => ?_) S0 (fun hc S0 => ?_)
        · go_simp
        try simp only [List.getElem_toArray, List.getElem_cons_succ, List.getElem_cons_zero, Act.put, List.setIfInBounds_toArray, List.set_cons_zero, List.set_cons_succ]
        refine wpAnyS_take (i := 5) (v := .int .i64 r.cost) rfl (by kernel_rfl) (by kernel_rfl) (by kernel_rfl) (fun _ _ _ h => h) (fun _ _ => Iff.rfl) hc (by first | rfl | simp [Region.wanted]) (fun wx hx => ?_) S0 (fun hc S0 => ?_)
        · have y := (World.cell?_of_block (a := ⟨g, o + i * 7 + 1, none⟩) (hx.stillT.block _ hg hgm)).trans e1
          go_simp
        try simp only [List.getElem_toArray, List.getElem_cons_succ, List.getElem_cons_zero, Act.put, List.setIfInBounds_toArray, List.set_cons_zero, List.set_cons_succ]
        refine wpAnyS_take (i := 6) (v := .agg #[.slice ar t.rules.length cr, .slice ad t.drops.length cd, .slice ae t.ends.length ce, .int .i64 t.drop, .int .i64 t.order, .int .i64 t.initial]) rfl (by kernel_rfl) (by kernel_rfl) (by kernel_rfl) (fun _ _ _ h => h) (fun _ _ => Iff.rfl) hc (by first | rfl | simp [Region.wanted]) (fun wx hx => ?_) S0 (fun hc S0 => ?_)
        · have y : ∀ j, wx.cell? ⟨W.heap.size, j, none⟩ = wr.cell? ⟨W.heap.size, j, none⟩ := fun j => World.cell?_of_block (a := ⟨W.heap.size, j, none⟩) (hx.stillT.block _ zc hWm); have y0 := (y 0).trans c0; have y1 := (y 1).trans c1; have y2 := (y 2).trans c2; have y3 := (y 3).trans c3; have y4 := (y 4).trans c4; have y5 := (y 5).trans c5; clear y
          go_simp
        try simp only [List.getElem_toArray, List.getElem_cons_succ, List.getElem_cons_zero, Act.put, List.setIfInBounds_toArray, List.set_cons_zero, List.set_cons_succ]
        refine wpAnyS_take (i := 7) (v := .int .i64 a) rfl (by kernel_rfl) (by kernel_rfl) (by kernel_rfl) (fun _ _ _ h => h) (fun _ _ => Iff.rfl) hc (by first | rfl | simp [Region.wanted]) (fun wx hx => ?_) S0 (fun hc S0 => ?_)
        · go_simp
        try simp only [List.getElem_toArray, List.getElem_cons_succ, List.getElem_cons_zero, Act.put, List.setIfInBounds_toArray, List.set_cons_zero, List.set_cons_succ]
        refine wpAnyS_take (i := 8) (v := .slice la w.left.letters.length lc) rfl (by kernel_rfl) (by kernel_rfl) (by kernel_rfl) (fun _ _ _ h => h) (fun _ _ => Iff.rfl) hc (by first | rfl | simp [Region.wanted]) (fun wx hx => ?_) S0 (fun hc S0 => ?_)
        · go_simp
        try simp only [List.getElem_toArray, List.getElem_cons_succ, List.getElem_cons_zero, Act.put, List.setIfInBounds_toArray, List.set_cons_zero, List.set_cons_succ]
        refine wpAnyS_take (i := 9) (v := .int .i64 b) rfl (by kernel_rfl) (by kernel_rfl) (by kernel_rfl) (fun _ _ _ h => h) (fun _ _ => Iff.rfl) hc (by first | rfl | simp [Region.wanted]) (fun wx hx => ?_) S0 (fun hc S0 => ?_)
        · go_simp
        try simp only [List.getElem_toArray, List.getElem_cons_succ, List.getElem_cons_zero, Act.put, List.setIfInBounds_toArray, List.set_cons_zero, List.set_cons_succ]
        refine wpAnyS_take (i := 10) (v := .slice ra w.right.letters.length rc) rfl (by kernel_rfl) (by kernel_rfl) (by kernel_rfl) (fun _ _ _ h => h) (fun _ _ => Iff.rfl) hc (by first | rfl | simp [Region.wanted]) (fun wx hx => ?_) S0 (fun hc S0 => ?_)
        · go_simp
        try simp only [List.getElem_toArray, List.getElem_cons_succ, List.getElem_cons_zero, Act.put, List.setIfInBounds_toArray, List.set_cons_zero, List.set_cons_succ]
        refine wpAnyS_take (i := 11) (v := .slice (some ⟨g, o, none⟩) q vc) rfl (by kernel_rfl) (by kernel_rfl) (by kernel_rfl) (fun _ _ _ h => h) (fun _ _ => Iff.rfl) hc (by first | rfl | simp [Region.wanted]) (fun wx hx => ?_) S0 (fun hc S0 => ?_)
        · go_simp
        try simp only [List.getElem_toArray, List.getElem_cons_succ, List.getElem_cons_zero, Act.put, List.setIfInBounds_toArray, List.set_cons_zero, List.set_cons_succ]
        refine wpAnyS_take (i := 12) (v := .int .i64 i) rfl (by kernel_rfl) (by kernel_rfl) (by kernel_rfl) (fun _ _ _ h => h) (fun _ _ => Iff.rfl) hc (by first | rfl | simp [Region.wanted]) (fun wx hx => ?_) S0 (fun hc S0 => ?_)
        · go_simp
        try simp only [List.getElem_toArray, List.getElem_cons_succ, List.getElem_cons_zero, Act.put, List.setIfInBounds_toArray, List.set_cons_zero, List.set_cons_succ]
        refine wpAnyS_take (i := 13) (v := .pointer (some ⟨g, o + i * 7, none⟩)) rfl (by kernel_rfl) (by kernel_rfl) (by kernel_rfl) (fun _ _ _ h => h) (fun _ _ => Iff.rfl) hc (by first | rfl | simp [Region.wanted]) (fun wx hx => ?_) S0 (fun hc S0 => ?_)
        · go_simp
        try simp only [List.getElem_toArray, List.getElem_cons_succ, List.getElem_cons_zero, Act.put, List.setIfInBounds_toArray, List.set_cons_zero, List.set_cons_succ]
        refine wpAnyS_take (i := 14) (v := .pointer (some ⟨g, o + i * 7 + 2, none⟩)) rfl (by kernel_rfl) (by kernel_rfl) (by kernel_rfl) (fun _ _ _ h => h) (fun _ _ => Iff.rfl) hc (by first | rfl | simp [Region.wanted]) (fun wx hx => ?_) S0 (fun hc S0 => ?_)
        · go_simp
        try simp only [List.getElem_toArray, List.getElem_cons_succ, List.getElem_cons_zero, Act.put, List.setIfInBounds_toArray, List.set_cons_zero, List.set_cons_succ]
        refine wpAnyS_take (i := 15) (v := .agg #[.int .i64 s'.i, .int .i64 s'.j, .string (bs s'.ahead), .bool s'.right, .int .i64 0]) rfl (by kernel_rfl) (by kernel_rfl) (by kernel_rfl) (fun _ _ _ h => h) (fun _ _ => Iff.rfl) hc (by first | rfl | simp [Region.wanted]) (fun wx hx => ?_) S0 (fun hc S0 => ?_)
        · have y : ∀ j, wx.cell? ⟨g, j, none⟩ = wr.cell? ⟨g, j, none⟩ := fun j => World.cell?_of_block (a := ⟨g, j, none⟩) (hx.stillT.block _ hg hgm); have y2 := (y (o + i * 7 + 2)).trans e2; have y3 := (y (o + i * 7 + 3)).trans e3; have y4 := (y (o + i * 7 + 4)).trans e4; have y5 := (y (o + i * 7 + 5)).trans e5; have y6 := (y (o + i * 7 + 6)).trans e6; clear y
          go_simp
        try simp only [List.getElem_toArray, List.getElem_cons_succ, List.getElem_cons_zero, Act.put, List.setIfInBounds_toArray, List.set_cons_zero, List.set_cons_succ]
        refine wpAnyS_take (i := 16) (v := .map (some m)) rfl (by kernel_rfl) (by kernel_rfl) (by kernel_rfl) (fun _ _ _ h => h) (fun _ _ => Iff.rfl) hc (by first | rfl | simp [Region.wanted]) (fun wx hx => ?_) S0 (fun hc S0 => ?_)
        · go_simp
        try simp only [List.getElem_toArray, List.getElem_cons_succ, List.getElem_cons_zero, Act.put, List.setIfInBounds_toArray, List.set_cons_zero, List.set_cons_succ]
        refine wpAnyS_one (i := 17) rfl (by kernel_rfl) (by rfl) hc (fun K' hK => ?_)
        go_simp
        refine (HCall.out).mono ?_
        rintro e A5 ⟨rfl, hbut5, K2, C5, hin2, hsub2, hmeas2⟩
        have hb5 : But wr.heap.size m wr A5 := (But.of_below (Below.refl _ wr).drew m).trans hbut5
        refine hK.out _ _ hb5.tch (fun hc => ?_)
        clear hK K'
        refine wpAnyS_one (i := 18) rfl (by kernel_rfl) (by rfl) hc (fun K' hK => ?_)
        go_simp
        refine hK.out _ _ hb5.tch (fun hc => ?_)
        clear hK K'
        refine wpAnyS_one (i := 19) rfl (by kernel_rfl) (by rfl) hc (fun K' hK => ?_)
        go_simp
        refine hK.out _ _ hb5.tch (fun hc => ?_)
        clear hK K'
        refine wpAnyS_one (i := 20) rfl (by kernel_rfl) (by rfl) hc (fun K' hK => ?_)
        go_simp
        refine hK.out _ _ hb5.tch (fun hc => ?_)
        clear hK K'
        refine wpAnyS_done (by kernel_rfl) ?_ _
        obtain ⟨h', hh'⟩ : ∃ h', h' = min h (r.cost + Al.cost w s') := ⟨_, rfl⟩
        rw [← hh']
        have HI5 := hid (show RestI t (.agg #[.slice ar t.rules.length cr, .slice ad t.drops.length cd, .slice ae t.ends.length ce, .int .i64 t.drop, .int .i64 t.order, .int .i64 t.initial]) (.slice la w.left.letters.length lc) (.slice ra w.right.letters.length rc) w m K s W3 (i + 1) h' K2 A5 from by
          obtain ⟨hp, hme, hmem⟩ := HP.out
          obtain ⟨b1, b2, b3⟩ := HBN.out
          have g1 := HI.out.ge
          have g2 := HI.out.le
          refine ⟨C5, by rw [Al.least_take hp, ← HI.out.least]; exact hh', by omega, by omega, fun p hp2 => ?_, fun x hx => hsub2 x (HI.out.sub x hx), fun x hx => ?_, HI.out.but.trans (hb5.mono hwr)⟩
          · rw [List.take_add_one, hp] at hp2
            rcases List.mem_append.1 hp2 with h1 | h1
            · exact hsub2 _ (HI.out.done p h1)
            · simp only [Option.toList_some, List.mem_singleton] at h1
              rw [h1]; exact hin2
          · rcases hmeas2 x hx with h1 | h1
            · exact HI.out.few x h1
            · exact .inr (by omega))
        clear hc S0 hh' hb5 hbut5 C5 hin2 hsub2 hmeas2 e1 e2 e3 e4 e5 e6 c0 c1 c2 c3 c4 c5 zc hbW2 hwrap
        go_wp2_with fail
        go_roundw
        case rel => exact ⟨i + 1, h', K2, by omega, rfl, by go_num, HI5⟩
        case measure => simp [RowKit.intOf]; omega
      · have hie : i = q := by omega
        have hl : h = Al.cost w s := by
          rw [HI.out.least, hie, HQ.out, List.take_length]
          exact (Al.cost_eq hf.good hok.1).symm
        subst hl
        subst hie
        have hle := Al.cost_le hf.good hok.1
        have hmin : min (Al.cost w s) 1099511627776 = Al.cost w s := Int.min_eq_left hle
        have hclosed : Al.Closed w (s :: K') := by
          refine ⟨fun x hx => ?_, fun x hx p hp => ?_, ?_⟩
          · rcases List.mem_cons.1 hx with rfl | hx
            · exact hok
            · exact HI.out.on.closed.ok x hx
          · rcases List.mem_cons.1 hx with rfl | hx
            · have := HI.out.done p (by rw [HQ.out, List.take_length]; exact hp)
              exact List.mem_cons_of_mem _ this
            · exact List.mem_cons_of_mem _ (HI.out.on.closed.on x hx p hp)
          · refine List.nodup_cons.2 ⟨fun hx => ?_, HI.out.on.closed.once⟩
            rcases HI.out.few s hx with h1 | h1
            · exact HIN.out h1
            · omega
        have hlen := hclosed.few hll hlr hf.rules (fun r hr => (hf.sizes r hr).2)
        rw [List.length_cons] at hlen
        have HCL := hid hclosed
        have hmap := HI.out.on.map
        have HBW := hid (show But W.heap.size m W wr from (But.of_below (Below.step HB2.out HB3.out) m).trans (HI.out.but.mono (by have := HB2.out.size; omega)))
        obtain ⟨-, HPr⟩ := HCB.out wr ((But.of_below HB3.out m).trans (HI.out.but.mono hz3))
        have q0 := HPr.cell (j := 0) rfl
        have q1 := HPr.cell (j := 1) rfl
        have q2 := HPr.cell (j := 2) rfl
        have q3 := HPr.cell (j := 3) rfl
        have q4 := HPr.cell (j := 4) rfl
        have zq := HPr.lt
        unfold potV potC at HKL
        clear hclosed HPr hle hi1 hi2 hll hlr hal
        go_wp2_with (at_mapUpdate; refine wpList_put _ rfl _ _ _ 63 3 rfl pot_keyed Tryz.underlying63 rfl hmap (by unfold maxLen; omega) _ _ kl rfl rfl HKL.out (costsP w (s :: K')) costsP_cons.1 costsP_cons.2 ?_; intro A5 hM5 hg5)
        go_ret
        have hbW : But W.heap.size m W A5 := HBW.out.trans ((grown_but (r := m) hg5 (fun q e => by cases e; rfl)).mono HBW.out.size)
        refine ⟨rfl, hbW, s :: K', HC0.out.but hbW hM5 HCL.out, List.mem_cons_self, fun x hx => List.mem_cons_of_mem _ (HI.out.sub x hx), fun x hx => ?_⟩
        rcases List.mem_cons.1 hx with rfl | hx
        · exact .inr (Nat.le_refl _)
        · rcases HI.out.few x hx with h1 | h1
          · exact .inl h1
          · exact .inr (Nat.le_of_lt h1)

end Go.Proofs.YthibphklchalkaaGreatDoor
