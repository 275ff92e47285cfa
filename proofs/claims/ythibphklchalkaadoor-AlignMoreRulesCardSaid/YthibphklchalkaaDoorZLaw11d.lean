/-
  AlignMoreRules: the statement's function returns true. Conditions: what can be read of its arguments; the rules are read, so they take fewer than 2^47 bytes.
-/
import Derived.Test.YthibphklchalkaaDoorZLaw11a
import Derived.Test.YthibphklchalkaaDoorZAlMore
import Derived.Test.YthibphklchalkaaDoorZOpen
import Derived.Deep.RegionLaw
import Derived.Deep.AppendLies
import Derived.Deep.AppendSrc
namespace Go.Proofs.YthibphklchalkaaDoor
open Go.RowKit Go.Lib Go.Maps

theorem info_arule : (Tryd.prog.info? 40).map (fun i => (i.zero, i.size, i.bytes)) = some (some (.agg #[.int .i64 0, .string ⟨#[]⟩, .string ⟨#[]⟩, .int .i64 0]), 4, 48) := by kernel_rfl

theorem arules_len : ∀ (l : List Rw.Rule), (l.flatMap ruleCells).length = l.length * 4
  | [] => rfl
  | x :: l => by
    rw [List.flatMap_cons, List.length_append, arules_len l, List.length_cons]
    simp [ruleCells]; omega

theorem arule_cells {w : World} {g o : Nat} {l : List Rw.Rule} (h : RowOf w g o 4 ruleCells l) : ∀ (j : Nat) (u : Value), (l.flatMap ruleCells)[j]? = some u → w.cell? ((⟨g, o, none⟩ : Addr).add j) = some u := by
  intro j u hj
  have hlen := arules_len l
  have hjl := (List.getElem?_eq_some_iff.1 hj).1
  rw [hlen] at hjl
  have hi : j / 4 < l.length := by omega
  obtain ⟨x, hx⟩ : ∃ x, l[j / 4]? = some x := ⟨_, List.getElem?_eq_getElem hi⟩
  have hk : j % 4 < (ruleCells x).length := Nat.mod_lt _ (by decide)
  have h1 := flat_at (cells := ruleCells) (sz := 4) l (j / 4) x (fun _ _ => rfl) hx (j % 4) _ (List.getElem?_eq_getElem hk)
  have e : j / 4 * 4 + j % 4 = j := by omega
  rw [e, hj] at h1
  have h2 := h.2 (j / 4) x hx (j % 4) _ (List.getElem?_eq_getElem hk)
  rw [Nat.add_assoc, e] at h2
  rw [add_at, h2]
  exact h1.symm

/-- append(an empty row of one's own, the rules of whatever table...) -/
theorem run_append_rules {w : World} {base e : Nat} {src : Value} {l : List Rw.Rule} (hown : w.ownsRow base 40 4 (.slice (some ⟨e, 0, none⟩) 0 0) 0 []) (hs : SlOf w src 4 ruleCells l) (hb : l.length * 48 ≤ 140737488351232) (hbase : base ≤ w.heap.size) :
    ∃ g cap w', (Builtin.append_ #[22, 22] 22 #[.slice (some ⟨e, 0, none⟩) 0 0, src]).run Tryd.prog w = .ok (.slice (some ⟨g, 0, none⟩) l.length cap) w' ∧
      w'.ownsRow base 40 4 (.slice (some ⟨g, 0, none⟩) l.length cap) l.length (l.flatMap ruleCells) ∧ w.grownBy w' (some e) := by
  obtain ⟨i0, hi, hz0, hz1, hz2⟩ := info_parts info_arule
  obtain ⟨a, c, rfl, h1, h2, h3⟩ := hs
  rcases Nat.eq_zero_or_pos l.length with hz | hp
  · obtain rfl : l = [] := List.length_eq_zero_iff.1 hz
    have hsrc : Src Tryd.prog i0.size 22 (.slice a 0 c) 0 [] w := by
      cases a with
      | none => exact Src.ofNil w Tryd.underlying22 c
      | some a => exact Src.ofSlice w Tryd.underlying22 a 0 c [] (by simp) (fun j u h => by simp at h) (fun u h => by cases h)
    have hr := run_append_room_src w 22 22 22 40 i0 Tryd.underlying22 hi e 0 0 0 (.slice a 0 c) 0 [] hsrc (by omega) (fun j hj => by simp at hj) (fun j hj => by simp at hj)
    refine ⟨e, 0, _, hr, ?_, ?_⟩
    · have : w.setCells e (0 + 0 * i0.size) [] = w := by simp [World.setCells]
      rw [this]; exact hown
    · have : w.setCells e (0 + 0 * i0.size) [] = w := by simp [World.setCells]
      rw [this]; exact ⟨rfl, rfl, rfl, Nat.le_refl _, fun _ _ _ => rfl⟩
  · obtain ⟨g, o, rfl, hr⟩ := h3 hp
    have hlen := arules_len l
    obtain ⟨g', cap', w', r1, r2, r3, -, -⟩ := run_append_lies (P := Tryd.prog) w 22 22 base 40 i0 (.agg #[.int .i64 0, .string ⟨#[]⟩, .string ⟨#[]⟩, .int .i64 0]) 4 48 Tryd.underlying22 hi hz0 hz1 hz2 rfl (by decide) _ _ _ hown ⟨g, o, none⟩ l.length c (l.flatMap ruleCells) hlen (arule_cells hr)
      (fun u hu => by
        obtain ⟨x, _, hx⟩ := List.mem_flatMap.1 hu
        simp [ruleCells] at hx
        rcases hx with rfl | rfl | rfl | rfl <;> rfl) hp (by unfold maxLen at h2 ⊢; omega) (by omega) hbase w.heap.size rfl
    rw [Nat.zero_add] at r1 r2
    rw [List.nil_append] at r2
    exact ⟨g', cap', w', r1, r2, r3⟩

theorem wp_rules {w : World} {o : Oper} {a : Act} {K : Act → World → Prop} {Q : Exit → Act → World → Prop} (s x : Operand)
    (ho : o.op = .call { callee := .builtin .append, args := #[s, x], argTypes := #[22, 22] }) (hty : o.type = 22) {base e : Nat} {src : Value} {l : List Rw.Rule} (hs : a.eval s = .slice (some ⟨e, 0, none⟩) 0 0) (hx : a.eval x = src)
    (hown : w.ownsRow base 40 4 (.slice (some ⟨e, 0, none⟩) 0 0) 0 []) (hsl : SlOf w src 4 ruleCells l) (hb : l.length * 48 ≤ 140737488351232) (hbase : base ≤ w.heap.size)
    (h : ∀ g cap w', w'.ownsRow base 40 4 (.slice (some ⟨g, 0, none⟩) l.length cap) l.length (l.flatMap ruleCells) → w.grownBy w' (some e) → K (a.put o.dst (.slice (some ⟨g, 0, none⟩) l.length cap)) w') :
    Oper.wp Tryd.prog o a w K Q := by
  obtain ⟨g, cap, w', hr, h2, h3⟩ := run_append_rules hown hsl hb hbase
  unfold Oper.wp execOp
  simp only [ho, hty, resolve, invoke, builtin, Sem.run_bind, Sem.run_pure, Result.andThen_ok, List.map_toArray, List.map_cons, List.map_nil, hs, hx, hr]
  exact h g cap w' h2 h3

/-- two operations that may come up -/
theorem wpAnyS_two {P : Program} {ops : Array Oper} {Q : Exit → Act → World → Prop} {md : Region.Mode} {S : Array Bool → World → Prop} {fuel : Nat} {listed : Array Bool} {a : Act} {w : World} {i j : Nat} {o o' : Oper} (ho : ops[i]? = some o) (ho' : ops[j]? = some o') (hr : Region.ready md ops listed = [i, j]) (hw : Region.wanted o (yielded ops a.tmps) = true) (hw' : Region.wanted o' (yielded ops a.tmps) = true) (hc : Closed md ops listed)
    (h : ∀ K' : Act → World → Prop, Shut (∀ a w, S (listed.setIfInBounds i true) w → (Closed md ops (listed.setIfInBounds i true) → wpAnyS P md ops Q S fuel (listed.setIfInBounds i true) a w) → K' a w) → Oper.wp P o a w K' Q)
    (h' : ∀ K' : Act → World → Prop, Shut (∀ a w, S (listed.setIfInBounds j true) w → (Closed md ops (listed.setIfInBounds j true) → wpAnyS P md ops Q S fuel (listed.setIfInBounds j true) a w) → K' a w) → Oper.wp P o' a w K' Q) :
    wpAnyS P md ops Q S (fuel + 1) listed a w := by
  refine ⟨fun h0 => (by rw [hr] at h0; cases h0), fun k hk => ?_⟩
  rw [hr] at hk
  have hk' : k = i ∨ k = j := by simpa using hk
  rcases hk' with rfl | rfl
  · refine wpOp_step ho (fun K' hK => ?_)
    rw [if_pos hw]
    exact (h K' (fun a w hS hW => hK a w ⟨hS, hW (closed_step hc (by rw [hr]; simp))⟩))
  · refine wpOp_step ho' (fun K' hK => ?_)
    rw [if_pos hw']
    exact (h' K' (fun a w hS hW => hK a w ⟨hS, hW (closed_step hc (by rw [hr]; simp))⟩))

/-- what was there is as it was -/
def StillThere (A : World) (_ : Array Bool) (X : World) : Prop := Below A.heap.size A X
theorem AtS.there {md : Region.Mode} {ops : Array Oper} {A X : World} {i : Nat} (h : AtS md ops (StillThere A) i X) : Below A.heap.size A X := by
  obtain ⟨_, _, _, h⟩ := h
  exact h

set_option maxRecDepth 100000 in
set_option maxHeartbeats 8000000 in
theorem more_law (t : Rw.Table) (tv : Value) (r : Rw.Rule) (a : Int) (x : List UInt8) (b : Int) (y : List UInt8) (W : World) (ht : TableRaw W t tv) (hT : Tabs W) (hr : (Lit.int .i64 r.script).wf = true ∧ r.from_.length ≤ maxLen ∧ r.to_.length ≤ maxLen) (hx : x.length ≤ maxLen) (hy : y.length ≤ maxLen)
    (hreach : t.rules.length * 48 ≤ 140737488351232) :
    Calls Tryd.prog 6 #[tv, .agg (ruleCells r).toArray, .int .i64 a, .string (bs x), .int .i64 b, .string (bs y)] W (Gives (.bool true) W) := by
  have HT := hid ht
  have HTT := hid hT
  obtain ⟨⟨vr, vd, ve, rfl, ⟨ar, cr, rfl, r1, r2, r3⟩, ⟨ad, cd, rfl, -⟩, ⟨ae, ce, rfl, -⟩⟩, -, -, -⟩ := ht
  have HSL := hid (show SlOf W (.slice ar t.rules.length cr) 4 ruleCells t.rules from ⟨_, _, rfl, r1, r2, r3⟩)
  clear hT r3
  unfold ruleCells
  obtain ⟨W1, hW1⟩ : ∃ W1, W1 = (W.alloc (.cells #[.slice ar t.rules.length cr, .slice ad t.drops.length cd, .slice ae t.ends.length ce, .int .i64 t.drop, .int .i64 t.order, .int .i64 t.initial] 25)).alloc (.cells #[.int .i64 r.script, .string (bs r.from_), .string (bs r.to_), .int .i64 r.cost] 40) := ⟨_, rfl⟩
  have hb1 : Below W.heap.size W W1 := by rw [hW1]; exact ((Below.refl _ W).alloc (Nat.le_refl _) _).alloc (by simp) _
  have TB1 := hid (show TBlk W1 W.heap.size t ar cr ad cd ae ce from ⟨by rw [hW1]; exact (Below.heap_alloc _ _ _ (by simp)).trans (World.alloc_heap_new W _)⟩)
  have RB1 := hid (show W1.heap[W.heap.size + 1]? = some (.cells #[.int .i64 r.script, .string (bs r.from_), .string (bs r.to_), .int .i64 r.cost] 40 (0, 0)) by
    rw [hW1]
    have := World.alloc_heap_new (W.alloc (.cells #[.slice ar t.rules.length cr, .slice ad t.drops.length cd, .slice ae t.ends.length ce, .int .i64 t.drop, .int .i64 t.order, .int .i64 t.initial] 25)) (.cells #[.int .i64 r.script, .string (bs r.from_), .string (bs r.to_), .int .i64 r.cost] 40)
    rwa [World.size_alloc] at this)
  have HH := hid (head_true W1 (HTT.out.below hb1))
  have B1 := hid hb1
  clear hb1
  go_enter Tryd.func6, Tryd.ntmps6
  go_wp2_with fail
  rw [← hW1]
  clear hW1
  refine (HH.out).mono ?_
  rintro e W2 ⟨rfl, hb2⟩
  have TB2 := hid (TB1.out.below hb2)
  have B2 := hid (B1.out.trans (hb2.mono B1.out.size))
  have RB2 := hid ((hb2.block _ (Array.getElem?_eq_some_iff.1 RB1.out).1).trans RB1.out)
  clear hb2
  obtain ⟨t0, t1, t2, t3, t4, t5⟩ := TB2.out.cells
  have tl := TB2.out.lt
  have hrb := RB2.out
  have rr0 : W2.cell? ⟨W.heap.size + 1, 0, none⟩ = some (.int .i64 r.script) := by simp [World.cell?, hrb]
  have rr1 : W2.cell? ⟨W.heap.size + 1, 1, none⟩ = some (.string (bs r.from_)) := by simp [World.cell?, hrb]
  have rr2 : W2.cell? ⟨W.heap.size + 1, 2, none⟩ = some (.string (bs r.to_)) := by simp [World.cell?, hrb]
  have rr3 : W2.cell? ⟨W.heap.size + 1, 3, none⟩ = some (.int .i64 r.cost) := by simp [World.cell?, hrb]
  have rl := (Array.getElem?_eq_some_iff.1 hrb).1
  clear hrb
  go_upto_region 3 with (fail)
  go_cut [] from 21 (fun wx => Below W2.heap.size W2 wx ∧ ∃ g cap, wx.heap[W2.heap.size]? = some (.cells #[.slice (some ⟨g, 0, none⟩) (t.rules.length + 1) cap, .slice ad t.drops.length cd, .slice ae t.ends.length ce, .int .i64 t.drop, .int .i64 t.order, .int .i64 t.initial] 25 (0, 0)) ∧
    wx.ownsRow (W2.heap.size + 1) 40 4 (.slice (some ⟨g, 0, none⟩) (t.rules.length + 1) cap) (t.rules.length + 1) (t.rules.flatMap ruleCells ++ ruleCells r))
  case first =>
    obtain ⟨W3, hW3⟩ : ∃ W3, W3 = W2.alloc (.cells #[.slice ar t.rules.length cr, .slice ad t.drops.length cd, .slice ae t.ends.length ce, .int .i64 t.drop, .int .i64 t.order, .int .i64 t.initial] 25) := ⟨_, rfl⟩
    have hb3 : Below W2.heap.size W2 W3 := by rw [hW3]; exact (Below.refl _ W2).alloc (Nat.le_refl _) _
    have hm3 : W3.heap[W2.heap.size]? = some (.cells #[.slice ar t.rules.length cr, .slice ad t.drops.length cd, .slice ae t.ends.length ce, .int .i64 t.drop, .int .i64 t.order, .int .i64 t.initial] 25 (0, 0)) := by rw [hW3]; exact World.alloc_heap_new W2 _
    have hz3 : W3.heap.size = W2.heap.size + 1 := by rw [hW3, World.size_alloc]
    rw [← hW3]
    have HW3 := hid hW3
    clear hW3
    refine wp_heldS (S := StillThere W2) (by kernel_rfl) ?_
    simp only [List.size_toArray, List.length_cons, List.length_nil, Nat.reduceAdd]
    intro hc
    have S0 : StillThere W2 (Array.replicate 9 false) W3.drew := hb3.drew
    refine wpAnyS_take (i := 1) (v := .pointer (some ⟨W.heap.size, 0, none⟩)) rfl (by kernel_rfl) (by kernel_rfl) (by kernel_rfl) (fun _ _ _ h => h) (fun _ _ => Iff.rfl) hc (by rfl) (fun wx hx => ?_) S0 (fun hc S0 => ?_)
    · go_simp
    simp only [List.getElem_toArray, List.getElem_cons_succ, List.getElem_cons_zero, Act.put, List.setIfInBounds_toArray, List.set_cons_zero, List.set_cons_succ]
    refine wpAnyS_take (i := 2) (v := .slice ar t.rules.length cr) rfl (by kernel_rfl) (by kernel_rfl) (by kernel_rfl) (fun _ _ _ h => h) (fun _ _ => Iff.rfl) hc (by rfl) (fun wx hx => ?_) S0 (fun hc S0 => ?_)
    · have g := (hx.there.cell (p := ⟨W.heap.size, 0, none⟩) tl).trans t0
      go_simp
    simp only [List.getElem_toArray, List.getElem_cons_succ, List.getElem_cons_zero, Act.put, List.setIfInBounds_toArray, List.set_cons_zero, List.set_cons_succ]
    refine wpAnyS_take (i := 4) (v := .agg #[.int .i64 r.script, .string (bs r.from_), .string (bs r.to_), .int .i64 r.cost]) rfl (by kernel_rfl) (by kernel_rfl) (by kernel_rfl) (fun _ _ _ h => h) (fun _ _ => Iff.rfl) hc (by rfl) (fun wx hx => ?_) S0 (fun hc S0 => ?_)
    · have hb := hx.there
      have g0 := (hb.cell (p := ⟨W.heap.size + 1, 0, none⟩) rl).trans rr0
      have g1 := (hb.cell (p := ⟨W.heap.size + 1, 1, none⟩) rl).trans rr1
      have g2 := (hb.cell (p := ⟨W.heap.size + 1, 2, none⟩) rl).trans rr2
      have g3 := (hb.cell (p := ⟨W.heap.size + 1, 3, none⟩) rl).trans rr3
      clear hb
      go_simp
    simp only [List.getElem_toArray, List.getElem_cons_succ, List.getElem_cons_zero, Act.put, List.setIfInBounds_toArray, List.set_cons_zero, List.set_cons_succ]
    refine wpAnyS_two (i := 0) (j := 5) rfl rfl (by kernel_rfl) (by rfl) (by rfl) hc (fun K' hK => ?_) (fun K' hK => ?_)
    · go_simp
      refine hK.out _ _ (show Below W2.heap.size W2 _ from (hb3.alloc (by omega) _).drew) (fun hc => ?_)
      clear hK K'
      obtain ⟨V1, hV1⟩ : ∃ V1, V1 = (W3.alloc (.cells #[] 40)).drew := ⟨_, rfl⟩
      have hbV1 : Below W2.heap.size W2 V1 := by rw [hV1]; exact (hb3.alloc (by omega) _).drew
      have hmV1 : V1.heap[W2.heap.size]? = some (.cells #[.slice ar t.rules.length cr, .slice ad t.drops.length cd, .slice ae t.ends.length ce, .int .i64 t.drop, .int .i64 t.order, .int .i64 t.initial] 25 (0, 0)) := by
        rw [hV1]; exact (Below.heap_alloc W3 _ _ (by omega)).trans hm3
      have hoV1 : V1.ownsRow (W2.heap.size + 1) 40 4 (.slice (some ⟨W2.heap.size + 1, 0, none⟩) 0 0) 0 [] := by
        refine ⟨rfl, .inr ⟨W2.heap.size + 1, 0, #[], rfl, by omega, ?_, Nat.le_refl _, by unfold maxLen; omega, rfl, rfl⟩⟩
        have := World.alloc_heap_new W3 (.cells #[] 40)
        rw [hz3] at this
        rw [hV1]; exact this
      have hzV1 : V1.heap.size = W2.heap.size + 2 := by rw [hV1]; show (W3.alloc _).heap.size = _; rw [World.size_alloc]; omega
      rw [← hV1]
      clear hV1
      refine wpAnyS_two (i := 3) (j := 5) rfl rfl (by kernel_rfl) (by rfl) (by rfl) hc (fun K' hK => ?_) (fun K' hK => ?_)
      · refine wp_rules _ _ rfl rfl rfl rfl hoV1 ((HSL.out).below (B2.out.trans (hbV1.mono B2.out.size))) hreach (show W2.heap.size + 1 ≤ V1.heap.size by omega) ?_
        intro g cap w4 hown4 hgr4
        have hb4 : Below W2.heap.size W2 w4 := hbV1.grown hgr4 (by omega) (fun q e => by have := Option.some.inj e; omega)
        have hm4 := (hgr4.block W2.heap.size (by omega) (by intro e; have := Option.some.inj e; omega)).trans hmV1
        refine hK.out _ _ hb4 (fun hc => ?_)
        clear hK K'
        simp only [List.getElem_toArray, List.getElem_cons_succ, List.getElem_cons_zero, Act.put, List.setIfInBounds_toArray, List.set_cons_zero, List.set_cons_succ]
        refine wpAnyS_one (i := 5) rfl (by kernel_rfl) (by rfl) hc (fun K' hK => ?_)
        go_simp
        refine hK.out _ _ (hb4.alloc (by have := hb4.size; omega) _) (fun hc => ?_)
        clear hK K'
        obtain ⟨i0, hi, hz0, hz1, hz2⟩ := info_parts info_arule
        refine wpAnyS_law (i := 6) rfl (by kernel_rfl) hc (fun K' hK => ?_)
        refine step_append_lies _ rfl _ _ 22 rfl (W2.heap.size + 1) 40 i0 (.agg #[.int .i64 0, .string ⟨#[]⟩, .string ⟨#[]⟩, .int .i64 0]) 4 48 Tryd.underlying22 hi hz0 hz1 hz2 rfl (by decide) _ _ _ rfl (hown4.alloc (.cells #[.int .i64 r.script, .string (bs r.from_), .string (bs r.to_), .int .i64 r.cost] 40)) ⟨w4.heap.size, 0, none⟩ 1 1 (ruleCells r) rfl rfl (cells_new rfl) (fun u hu => by simp [ruleCells] at hu; rcases hu with rfl | rfl | rfl | rfl <;> rfl) (by decide) (by unfold maxLen; omega) (by omega) (by rw [World.size_alloc]; have := hgr4.size; omega) (w4.heap.size + 1) (by simp) ?_
        intro g6 cap6 w6 hown6 hgr6 _ _
        have hb6 : Below W2.heap.size W2 w6 := (hb4.alloc (by have := hb4.size; omega) (.cells #[.int .i64 r.script, .string (bs r.from_), .string (bs r.to_), .int .i64 r.cost] 40)).grown hgr6 (by have := (hb4.alloc (by have := hb4.size; omega) (.cells #[.int .i64 r.script, .string (bs r.from_), .string (bs r.to_), .int .i64 r.cost] 40)).size; omega) (fun q e => by have := (own_cells (hown4.alloc (.cells #[.int .i64 r.script, .string (bs r.from_), .string (bs r.to_), .int .i64 r.cost] 40)) e).1; omega)
        have hm6 := (hgr6.block W2.heap.size (Array.getElem?_eq_some_iff.1 ((Below.heap_alloc w4 (.cells #[.int .i64 r.script, .string (bs r.from_), .string (bs r.to_), .int .i64 r.cost] 40) _ (Array.getElem?_eq_some_iff.1 hm4).1).trans hm4)).1 (fun e => by have := (own_cells (hown4.alloc (.cells #[.int .i64 r.script, .string (bs r.from_), .string (bs r.to_), .int .i64 r.cost] 40)) e.symm).1; omega)).trans ((Below.heap_alloc w4 (.cells #[.int .i64 r.script, .string (bs r.from_), .string (bs r.to_), .int .i64 r.cost] 40) _ (Array.getElem?_eq_some_iff.1 hm4).1).trans hm4)
        have m0 : w6.cell? ⟨W2.heap.size, 0, none⟩ = some (.slice ar t.rules.length cr) := by simp [World.cell?, hm6]
        have m1 : w6.frozen? ⟨W2.heap.size, 0, none⟩ = false := by simp [World.frozen?, hm6]
        refine hK.out _ _ hb6 (fun hc => ?_)
        clear hK K'
        simp only [List.getElem_toArray, List.getElem_cons_succ, List.getElem_cons_zero, Act.put, List.setIfInBounds_toArray, List.set_cons_zero, List.set_cons_succ]
        refine wpAnyS_one (i := 7) rfl (by kernel_rfl) (by rfl) hc (fun K' hK => ?_)
        go_simp
        refine hK.out _ _ hb6 (fun hc => ?_)
        clear hK K'
        refine wpAnyS_one (i := 8) rfl (by kernel_rfl) (by rfl) hc (fun K' hK => ?_)
        go_simp
        refine hK.out _ _ (hb6.setCell (p := ⟨W2.heap.size, 0, none⟩) (Nat.le_refl _) _) (fun hc => ?_)
        clear hK K'
        refine wpAnyS_done (by kernel_rfl) ?_ _
        have FIN := hid (And.intro (hb6.setCell (p := ⟨W2.heap.size, 0, none⟩) (Nat.le_refl _) (.slice (some ⟨g6, 0, none⟩) (t.rules.length + 1) cap6)) (And.intro hm6 (kept_at hown6 (set_grown_at w6 W2.heap.size 0 (.slice (some ⟨g6, 0, none⟩) (t.rules.length + 1) cap6)) (by omega))))
        clear hc S0 hb6 hm6 m0 m1 hown6 hgr6
        go_wp2
        go_meet
        case rel =>
          obtain ⟨q1, q2, q3⟩ := FIN.out
          exact ⟨q1, g6, cap6, by simp [World.setCell, Array.getElem?_modify, q2], q3⟩
      · go_simp
        refine hK.out _ _ (show Below W2.heap.size W2 _ from hbV1.alloc (by omega) _) (fun hc => ?_)
        clear hK K'
        obtain ⟨V2, hV2⟩ : ∃ V2, V2 = V1.alloc (.cells #[.int .i64 r.script, .string (bs r.from_), .string (bs r.to_), .int .i64 r.cost] 40) := ⟨_, rfl⟩
        have hbV2 : Below W2.heap.size W2 V2 := by rw [hV2]; exact hbV1.alloc (by omega) _
        have hmV2 : V2.heap[W2.heap.size]? = some (.cells #[.slice ar t.rules.length cr, .slice ad t.drops.length cd, .slice ae t.ends.length ce, .int .i64 t.drop, .int .i64 t.order, .int .i64 t.initial] 25 (0, 0)) := by rw [hV2]; exact (Below.heap_alloc V1 _ _ (by omega)).trans hmV1
        have hoV2 : V2.ownsRow (W2.heap.size + 1) 40 4 (.slice (some ⟨W2.heap.size + 1, 0, none⟩) 0 0) 0 [] := by rw [hV2]; exact hoV1.alloc _
        have hcV2 : V2.heap[W2.heap.size + 2]? = some (.cells #[.int .i64 r.script, .string (bs r.from_), .string (bs r.to_), .int .i64 r.cost] 40 (0, 0)) := by
          have := World.alloc_heap_new V1 (.cells #[.int .i64 r.script, .string (bs r.from_), .string (bs r.to_), .int .i64 r.cost] 40)
          rw [hzV1] at this
          rw [hV2]; exact this
        have hzV2 : V2.heap.size = W2.heap.size + 3 := by rw [hV2, World.size_alloc]; omega
        rw [← hV2]
        clear hV2
        refine wpAnyS_one (i := 3) rfl (by kernel_rfl) (by rfl) hc (fun K' hK => ?_)
        refine wp_rules _ _ rfl rfl rfl rfl hoV2 ((HSL.out).below (B2.out.trans (hbV2.mono B2.out.size))) hreach (show W2.heap.size + 1 ≤ V2.heap.size by omega) ?_
        intro g cap w4 hown4 hgr4
        have hb4 : Below W2.heap.size W2 w4 := hbV2.grown hgr4 (by omega) (fun q e => by have := Option.some.inj e; omega)
        have hm4 := (hgr4.block W2.heap.size (by omega) (by intro e; have := Option.some.inj e; omega)).trans hmV2
        have hc4 := (hgr4.block (W2.heap.size + 2) (by omega) (by intro e; have := Option.some.inj e; omega)).trans hcV2
        refine hK.out _ _ hb4 (fun hc => ?_)
        clear hK K'
        simp only [List.getElem_toArray, List.getElem_cons_succ, List.getElem_cons_zero, Act.put, List.setIfInBounds_toArray, List.set_cons_zero, List.set_cons_succ]
        obtain ⟨i0, hi, hz0, hz1, hz2⟩ := info_parts info_arule
        refine wpAnyS_law (i := 6) rfl (by kernel_rfl) hc (fun K' hK => ?_)
        refine step_append_lies _ rfl _ _ 22 rfl (W2.heap.size + 1) 40 i0 (.agg #[.int .i64 0, .string ⟨#[]⟩, .string ⟨#[]⟩, .int .i64 0]) 4 48 Tryd.underlying22 hi hz0 hz1 hz2 rfl (by decide) _ _ _ rfl hown4 ⟨W2.heap.size + 2, 0, none⟩ 1 1 (ruleCells r) rfl rfl (World.news_of_block hc4) (fun u hu => by simp [ruleCells] at hu; rcases hu with rfl | rfl | rfl | rfl <;> rfl) (by decide) (by unfold maxLen; omega) (by omega) (by have := hgr4.size; omega) w4.heap.size rfl ?_
        intro g6 cap6 w6 hown6 hgr6 _ _
        have hb6 : Below W2.heap.size W2 w6 := (hb4).grown hgr6 (by have := (hb4).size; omega) (fun q e => by have := (own_cells (hown4) e).1; omega)
        have hm6 := (hgr6.block W2.heap.size (Array.getElem?_eq_some_iff.1 (hm4)).1 (fun e => by have := (own_cells (hown4) e.symm).1; omega)).trans (hm4)
        have m0 : w6.cell? ⟨W2.heap.size, 0, none⟩ = some (.slice ar t.rules.length cr) := by simp [World.cell?, hm6]
        have m1 : w6.frozen? ⟨W2.heap.size, 0, none⟩ = false := by simp [World.frozen?, hm6]
        refine hK.out _ _ hb6 (fun hc => ?_)
        clear hK K'
        simp only [List.getElem_toArray, List.getElem_cons_succ, List.getElem_cons_zero, Act.put, List.setIfInBounds_toArray, List.set_cons_zero, List.set_cons_succ]
        refine wpAnyS_one (i := 7) rfl (by kernel_rfl) (by rfl) hc (fun K' hK => ?_)
        go_simp
        refine hK.out _ _ hb6 (fun hc => ?_)
        clear hK K'
        refine wpAnyS_one (i := 8) rfl (by kernel_rfl) (by rfl) hc (fun K' hK => ?_)
        go_simp
        refine hK.out _ _ (hb6.setCell (p := ⟨W2.heap.size, 0, none⟩) (Nat.le_refl _) _) (fun hc => ?_)
        clear hK K'
        refine wpAnyS_done (by kernel_rfl) ?_ _
        have FIN := hid (And.intro (hb6.setCell (p := ⟨W2.heap.size, 0, none⟩) (Nat.le_refl _) (.slice (some ⟨g6, 0, none⟩) (t.rules.length + 1) cap6)) (And.intro hm6 (kept_at hown6 (set_grown_at w6 W2.heap.size 0 (.slice (some ⟨g6, 0, none⟩) (t.rules.length + 1) cap6)) (by omega))))
        clear hc S0 hb6 hm6 m0 m1 hown6 hgr6
        go_wp2
        go_meet
        case rel =>
          obtain ⟨q1, q2, q3⟩ := FIN.out
          exact ⟨q1, g6, cap6, by simp [World.setCell, Array.getElem?_modify, q2], q3⟩
    · go_simp
      refine hK.out _ _ (show Below W2.heap.size W2 _ from (hb3.alloc (by omega) _).drew) (fun hc => ?_)
      clear hK K'
      obtain ⟨V1, hV1⟩ : ∃ V1, V1 = (W3.alloc (.cells #[.int .i64 r.script, .string (bs r.from_), .string (bs r.to_), .int .i64 r.cost] 40)).drew := ⟨_, rfl⟩
      have hbV1 : Below W2.heap.size W2 V1 := by rw [hV1]; exact (hb3.alloc (by omega) _).drew
      have hmV1 : V1.heap[W2.heap.size]? = some (.cells #[.slice ar t.rules.length cr, .slice ad t.drops.length cd, .slice ae t.ends.length ce, .int .i64 t.drop, .int .i64 t.order, .int .i64 t.initial] 25 (0, 0)) := by
        rw [hV1]; exact (Below.heap_alloc W3 _ _ (by omega)).trans hm3
      have hcV1 : V1.heap[W2.heap.size + 1]? = some (.cells #[.int .i64 r.script, .string (bs r.from_), .string (bs r.to_), .int .i64 r.cost] 40 (0, 0)) := by
        have := World.alloc_heap_new W3 (.cells #[.int .i64 r.script, .string (bs r.from_), .string (bs r.to_), .int .i64 r.cost] 40)
        rw [hz3] at this
        rw [hV1]; exact this
      have hzV1 : V1.heap.size = W2.heap.size + 2 := by rw [hV1]; show (W3.alloc _).heap.size = _; rw [World.size_alloc]; omega
      rw [← hV1]
      clear hV1
      refine wpAnyS_one (i := 0) rfl (by kernel_rfl) (by rfl) hc (fun K' hK => ?_)
      go_simp
      refine hK.out _ _ (show Below W2.heap.size W2 _ from hbV1.alloc (by omega) _) (fun hc => ?_)
      clear hK K'
      obtain ⟨V2, hV2⟩ : ∃ V2, V2 = V1.alloc (.cells #[] 40) := ⟨_, rfl⟩
      have hbV2 : Below W2.heap.size W2 V2 := by rw [hV2]; exact hbV1.alloc (by omega) _
      have hmV2 : V2.heap[W2.heap.size]? = some (.cells #[.slice ar t.rules.length cr, .slice ad t.drops.length cd, .slice ae t.ends.length ce, .int .i64 t.drop, .int .i64 t.order, .int .i64 t.initial] 25 (0, 0)) := by rw [hV2]; exact (Below.heap_alloc V1 _ _ (by omega)).trans hmV1
      have hoV2 : V2.ownsRow (W2.heap.size + 1) 40 4 (.slice (some ⟨W2.heap.size + 2, 0, none⟩) 0 0) 0 [] := by
        refine ⟨rfl, .inr ⟨W2.heap.size + 2, 0, #[], rfl, by omega, ?_, Nat.le_refl _, by unfold maxLen; omega, rfl, rfl⟩⟩
        have := World.alloc_heap_new V1 (.cells #[] 40)
        rw [hzV1] at this
        rw [hV2]; exact this
      have hcV2 : V2.heap[W2.heap.size + 1]? = some (.cells #[.int .i64 r.script, .string (bs r.from_), .string (bs r.to_), .int .i64 r.cost] 40 (0, 0)) := by rw [hV2]; exact (Below.heap_alloc V1 _ _ (by omega)).trans hcV1
      have hzV2 : V2.heap.size = W2.heap.size + 3 := by rw [hV2, World.size_alloc]; omega
      rw [← hV2]
      clear hV2
      refine wpAnyS_one (i := 3) rfl (by kernel_rfl) (by rfl) hc (fun K' hK => ?_)
      refine wp_rules _ _ rfl rfl rfl rfl hoV2 ((HSL.out).below (B2.out.trans (hbV2.mono B2.out.size))) hreach (show W2.heap.size + 1 ≤ V2.heap.size by omega) ?_
      intro g cap w4 hown4 hgr4
      have hb4 : Below W2.heap.size W2 w4 := hbV2.grown hgr4 (by omega) (fun q e => by have := Option.some.inj e; omega)
      have hm4 := (hgr4.block W2.heap.size (by omega) (by intro e; have := Option.some.inj e; omega)).trans hmV2
      have hc4 := (hgr4.block (W2.heap.size + 1) (by omega) (by intro e; have := Option.some.inj e; omega)).trans hcV2
      refine hK.out _ _ hb4 (fun hc => ?_)
      clear hK K'
      simp only [List.getElem_toArray, List.getElem_cons_succ, List.getElem_cons_zero, Act.put, List.setIfInBounds_toArray, List.set_cons_zero, List.set_cons_succ]
      obtain ⟨i0, hi, hz0, hz1, hz2⟩ := info_parts info_arule
      refine wpAnyS_law (i := 6) rfl (by kernel_rfl) hc (fun K' hK => ?_)
      refine step_append_lies _ rfl _ _ 22 rfl (W2.heap.size + 1) 40 i0 (.agg #[.int .i64 0, .string ⟨#[]⟩, .string ⟨#[]⟩, .int .i64 0]) 4 48 Tryd.underlying22 hi hz0 hz1 hz2 rfl (by decide) _ _ _ rfl hown4 ⟨W2.heap.size + 1, 0, none⟩ 1 1 (ruleCells r) rfl rfl (World.news_of_block hc4) (fun u hu => by simp [ruleCells] at hu; rcases hu with rfl | rfl | rfl | rfl <;> rfl) (by decide) (by unfold maxLen; omega) (by omega) (by have := hgr4.size; omega) w4.heap.size rfl ?_
      intro g6 cap6 w6 hown6 hgr6 _ _
      have hb6 : Below W2.heap.size W2 w6 := (hb4).grown hgr6 (by have := (hb4).size; omega) (fun q e => by have := (own_cells (hown4) e).1; omega)
      have hm6 := (hgr6.block W2.heap.size (Array.getElem?_eq_some_iff.1 (hm4)).1 (fun e => by have := (own_cells (hown4) e.symm).1; omega)).trans (hm4)
      have m0 : w6.cell? ⟨W2.heap.size, 0, none⟩ = some (.slice ar t.rules.length cr) := by simp [World.cell?, hm6]
      have m1 : w6.frozen? ⟨W2.heap.size, 0, none⟩ = false := by simp [World.frozen?, hm6]
      refine hK.out _ _ hb6 (fun hc => ?_)
      clear hK K'
      simp only [List.getElem_toArray, List.getElem_cons_succ, List.getElem_cons_zero, Act.put, List.setIfInBounds_toArray, List.set_cons_zero, List.set_cons_succ]
      refine wpAnyS_one (i := 7) rfl (by kernel_rfl) (by rfl) hc (fun K' hK => ?_)
      go_simp
      refine hK.out _ _ hb6 (fun hc => ?_)
      clear hK K'
      refine wpAnyS_one (i := 8) rfl (by kernel_rfl) (by rfl) hc (fun K' hK => ?_)
      go_simp
      refine hK.out _ _ (hb6.setCell (p := ⟨W2.heap.size, 0, none⟩) (Nat.le_refl _) _) (fun hc => ?_)
      clear hK K'
      refine wpAnyS_done (by kernel_rfl) ?_ _
      have FIN := hid (And.intro (hb6.setCell (p := ⟨W2.heap.size, 0, none⟩) (Nat.le_refl _) (.slice (some ⟨g6, 0, none⟩) (t.rules.length + 1) cap6)) (And.intro hm6 (kept_at hown6 (set_grown_at w6 W2.heap.size 0 (.slice (some ⟨g6, 0, none⟩) (t.rules.length + 1) cap6)) (by omega))))
      clear hc S0 hb6 hm6 m0 m1 hown6 hgr6
      go_wp2
      go_meet
      case rel =>
        obtain ⟨q1, q2, q3⟩ := FIN.out
        exact ⟨q1, g6, cap6, by simp [World.setCell, Array.getElem?_modify, q2], q3⟩
  case rest =>
  obtain ⟨hb3, g, cap, hm3, ho3⟩ := hcut
  rename World => W3
  have B3 := hid (B2.out.trans (hb3.mono B2.out.size))
  have TB3 := hid (TB2.out.below hb3)
  have hsl3 : SlOf W3 (.slice (some ⟨g, 0, none⟩) (t.rules.length + 1) cap) 4 ruleCells (t.rules ++ [r]) := by
    have e1 : (t.rules ++ [r]).flatMap ruleCells = t.rules.flatMap ruleCells ++ ruleCells r := by simp
    have e2 : (t.rules ++ [r]).length = t.rules.length + 1 := by simp
    rw [← e1, ← e2] at ho3
    rw [← e2]
    exact SlOf.own ho3 (fun _ _ => rfl)
  have MR3 := hid (show TableRaw W3 (Al.moreT t r) (.agg #[.slice (some ⟨g, 0, none⟩) (t.rules.length + 1) cap, .slice ad t.drops.length cd, .slice ae t.ends.length ce, .int .i64 t.drop, .int .i64 t.order, .int .i64 t.initial]) by
    have hraw := HT.out.below B3.out
    obtain ⟨⟨vr, vd, ve, hv, s1, s2, s3⟩, f1, f2, f3⟩ := hraw
    simp at hv
    obtain ⟨rfl, rfl, rfl⟩ := hv
    refine ⟨⟨_, _, _, rfl, hsl3, s2, s3⟩, fun q hq => ?_, f2, f3⟩
    rcases List.mem_append.1 hq with hq | hq
    · exact f1 q hq
    · rw [List.mem_singleton] at hq; subst hq; exact hr)
  have m0 : W3.cell? ⟨W2.heap.size, 0, none⟩ = some (.slice (some ⟨g, 0, none⟩) (t.rules.length + 1) cap) := by simp [World.cell?, hm3]
  have m1 : W3.cell? ⟨W2.heap.size, 1, none⟩ = some (.slice ad t.drops.length cd) := by simp [World.cell?, hm3]
  have m2 : W3.cell? ⟨W2.heap.size, 2, none⟩ = some (.slice ae t.ends.length ce) := by simp [World.cell?, hm3]
  have m3 : W3.cell? ⟨W2.heap.size, 3, none⟩ = some (.int .i64 t.drop) := by simp [World.cell?, hm3]
  have m4 : W3.cell? ⟨W2.heap.size, 4, none⟩ = some (.int .i64 t.order) := by simp [World.cell?, hm3]
  have m5 : W3.cell? ⟨W2.heap.size, 5, none⟩ = some (.int .i64 t.initial) := by simp [World.cell?, hm3]
  have HM3 := hid hm3
  have hl1 := hid (show (Al.moreT t r).rules.length = t.rules.length + 1 by simp [Al.moreT])
  have TM3 := hid (show TBlk W3 W2.heap.size (Al.moreT t r) (some ⟨g, 0, none⟩) cap ad cd ae ce from ⟨by rw [hl1.out]; exact hm3⟩)
  have ml := (Array.getElem?_eq_some_iff.1 hm3).1
  obtain ⟨W4, hW4⟩ : ∃ W4, W4 = W3.alloc (.cells #[.string (bs x), .string (bs y)] 9) := ⟨_, rfl⟩
  have hb4 : Below W3.heap.size W3 W4 := by rw [hW4]; exact (Below.refl _ W3).alloc (Nat.le_refl _) _
  have hw4 : W4.heap[W3.heap.size]? = some (.cells #[.string (bs x), .string (bs y)] 9 (0, 0)) := by rw [hW4]; exact World.alloc_heap_new W3 _
  have B4 := hid (B3.out.trans (hb4.mono B3.out.size))
  have TB4 := hid (TB3.out.below hb4)
  have TM4 := hid (TM3.out.below hb4)
  have MR4 := hid (MR3.out.below hb4)
  have HF := hid (fewL_any (Al.moreT t r) _ _ [x, y] W4 MR4.out (SlOf.block (sz := 1) (cells := strC) (n := 2) hw4 rfl (fun _ _ => rfl) rfl (by decide)) (fun z hz => by
    simp at hz; rcases hz with rfl | rfl
    · exact hx
    · exact hy))
  clear hb3 hm3 ho3 hsl3 t0 t1 t2 t3 t4 t5 tl rr0 rr1 rr2 rr3 rl hb4 hw4
  go_wp2_with fail
  rw [← hW4]
  clear hW4
  refine (HF.out).mono ?_
  rintro e W5 ⟨rfl, hb5⟩
  have TB5 := hid (TB4.out.below hb5)
  have TM5 := hid (TM4.out.below hb5)
  have B5 := hid (B4.out.trans (hb5.mono B4.out.size))
  have MR5 := hid (MR4.out.below hb5)
  clear hb5 m0 m1 m2 m3 m4 m5 ml
  obtain ⟨t0, t1, t2, t3, t4, t5⟩ := TB5.out.cells
  have tl := TB5.out.lt
  cases hfew : Al.fewB (Al.moreT t r) [x, y] with
  | false =>
    go_wp2_with fail
    go_ret
    exact ⟨rfl, B5.out⟩
  | true =>
    have hfew2 : Al.fewB t [x, y] = true := by
      unfold Al.fewB Al.moreT at hfew
      unfold Al.fewB
      simp only [Bool.and_eq_true, List.all_append, List.length_append, decide_eq_true_eq, List.length_cons, List.length_nil] at hfew ⊢
      obtain ⟨⟨⟨⟨⟨⟨f1, f2⟩, f3⟩, f4, _⟩, f5⟩, f6⟩, f7⟩ := hfew
      exact ⟨⟨⟨⟨⟨⟨by omega, f2⟩, f3⟩, f4⟩, f5⟩, f6⟩, f7⟩
    have hxy : x.length ≤ 30 ∧ y.length ≤ 30 := by
      unfold Al.fewB at hfew2
      simp only [Bool.and_eq_true, List.all_cons, decide_eq_true_eq] at hfew2
      exact ⟨hfew2.2.1, hfew2.2.2.1⟩
    have TA := hid (HT.out.few hfew2)
    have TMA := hid (MR5.out.few hfew)
    have HV := hid (valid_any t _ W5 (TA.out.below B5.out) (HTT.out.below B5.out))
    clear hfew hfew2
    go_wp2_with fail
    refine (HV.out).mono ?_
    rintro e W6 ⟨rfl, hb6⟩
    have TB6 := hid (TB5.out.below hb6)
    have TM6 := hid (TM5.out.below hb6)
    have B6 := hid (B5.out.trans (hb6.mono B5.out.size))
    have TMA6 := hid (TMA.out.below hb6)
    clear hb6 t0 t1 t2 t3 t4 t5 tl
    cases hv : Rw.valid t with
    | false =>
      go_wp2_with fail
      go_ret
      exact ⟨rfl, B6.out⟩
    | true =>
      have HVT := hid hv
      clear hv
      obtain ⟨m0, m1, m2, m3, m4, m5⟩ := TM6.out.cells
      have ml := TM6.out.lt
      rw [hl1.out] at m0
      have HV2 := hid (valid_any (Al.moreT t r) _ W6 TMA6.out (HTT.out.below B6.out))
      go_wp2_with fail
      refine (HV2.out).mono ?_
      rintro e W7 ⟨rfl, hb7⟩
      have TB7 := hid (TB6.out.below hb7)
      have TM7 := hid (TM6.out.below hb7)
      have B7 := hid (B6.out.trans (hb7.mono B6.out.size))
      have TMA7 := hid (TMA6.out.below hb7)
      clear hb7 m0 m1 m2 m3 m4 m5 ml
      cases hv2 : Rw.valid (Al.moreT t r) with
      | false =>
        go_wp2_with fail
        go_ret
        exact ⟨rfl, B7.out⟩
      | true =>
        have HVM := hid hv2
        clear hv2
        obtain ⟨t0, t1, t2, t3, t4, t5⟩ := TB7.out.cells
        have tl := TB7.out.lt
        have HBE := hid (best_any t _ a b (bs x) (bs y) W7 (TA.out.below B7.out) (HTT.out.below B7.out) (by rw [bs_len]; omega) (by rw [bs_len]; omega))
        rw [bs_list, bs_list] at HBE
        obtain ⟨q, hq⟩ : ∃ q, q = Al.bestOf t a x b y := ⟨_, rfl⟩
        obtain ⟨q2, hq2⟩ : ∃ q2, q2 = Al.bestOf (Al.moreT t r) a x b y := ⟨_, rfl⟩
        have LM := Al.law_more HVT.out HVM.out a x b y
        rw [← hq, ← hq2] at LM
        have ll := Al.bestOf_lens t a x b y
        rw [← hq] at ll HBE
        have HLM := hid LM
        have HQ2 := hid hq2
        clear LM hq hq2
        go_wp2_with fail
        refine (HBE.out).mono ?_
        rintro e W8 h8
        obtain ⟨x1, k1, c1, x2, k2, c2, rfl, hda, hb8⟩ := h8.get
        obtain ⟨W9, hW9⟩ : ∃ W9, W9 = W8.alloc (.cells #[.int .i64 q.1.cost, .slice x1 k1 c1, .slice x2 k2 c2, .string (bs q.1.form)] 28) := ⟨_, rfl⟩
        have hb9 : Below W8.heap.size W8 W9 := by rw [hW9]; exact (Below.refl _ W8).alloc (Nat.le_refl _) _
        have hb79 := Below.step hb8 hb9
        have TM8 := TM7.out.below hb8
        have TM9 := hid (TM7.out.below hb79)
        have B9 := hid (B7.out.trans (hb79.mono B7.out.size))
        have P9 := hid (show DerBlk W9 W8.heap.size q.1 x1 k1 c1 x2 k2 c2 by rw [hW9]; exact DerBlk.new hda)
        have TMA9 := hid (TMA7.out.below hb79)
        obtain ⟨m0, m1, m2, m3, m4, m5⟩ := TM8.cells
        have ml := TM8.lt
        rw [hl1.out] at m0
        have HB2 := hid (best_any (Al.moreT t r) _ a b (bs x) (bs y) W9 TMA9.out (HTT.out.below B9.out) (by rw [bs_len]; omega) (by rw [bs_len]; omega))
        rw [bs_list, bs_list, ← HQ2.out] at HB2
        clear TM8 hb8 hb9 hb79 hda h8 t0 t1 t2 t3 t4 t5 tl
        go_wp2_with fail
        rw [← hW9]
        clear hW9
        refine (HB2.out).mono ?_
        rintro e W10 h10
        obtain ⟨y1, o1, d1, y2, o2, d2, rfl, hdb, hb10⟩ := h10.get
        obtain ⟨W11, hW11⟩ : ∃ W11, W11 = W10.alloc (.cells #[.int .i64 q2.1.cost, .slice y1 o1 d1, .slice y2 o2 d2, .string (bs q2.1.form)] 28) := ⟨_, rfl⟩
        have hb11 : Below W10.heap.size W10 W11 := by rw [hW11]; exact (Below.refl _ W10).alloc (Nat.le_refl _) _
        have hb911 := Below.step hb10 hb11
        have TM10 := TM9.out.below hb10
        have B11 := hid (B9.out.trans (hb911.mono B9.out.size))
        have P10 := P9.out.below hb10
        have P11 := hid (P9.out.below hb911)
        have TMA11 := hid (TMA9.out.below hb911)
        clear m0 m1 m2 m3 m4 m5 ml
        obtain ⟨m0, m1, m2, m3, m4, m5⟩ := TM10.cells
        have ml := TM10.lt
        rw [hl1.out] at m0
        have pc0 := P10.c0
        have pc1 := P10.c1
        have pc2 := P10.c2
        have pc3 := P10.c3
        have pl := P10.lt
        clear TM10 P10 hb10 hb11 hb911 hdb h10
        by_cases hz : q.2 = 0
        · have hze : (q.2 != (0 : Int)) = false := by simpa using hz
          obtain ⟨z1, z2, z3⟩ := HLM.out.2 hz
          have hz2 : (q2.2 == (0 : Int)) = true := by simpa using z1
          have HCK := hid (checkD_any (Al.moreT t r) _ a b (bs x) (bs y) q.1 _ W11 TMA11.out (HTT.out.below B11.out) (by rw [bs_len]; omega) (by rw [bs_len]; omega) P11.out.der ll.1 ll.2)
          rw [bs_list, bs_list, z3] at HCK
          clear hz z1 z3
          go_wp2_with fail
          rw [← hW11]
          refine (HCK.out).mono ?_
          rintro e W12 ⟨rfl, hb12⟩
          have B12 := hid (B11.out.trans (hb12.mono B11.out.size))
          clear hb12
          go_wp2_with fail
          go_ret
          exact ⟨rfl, B12.out⟩
        · have hze : (q.2 != (0 : Int)) = true := by simpa using hz
          by_cases h1 : q.2 = 1
          · have h1e : (q.2 != (1 : Int)) = false := by simpa using h1
            have h2e : (q2.2 == (1 : Int)) = true := by simpa using HLM.out.1 h1
            clear hz h1
            go_wp2_with fail
            go_ret
            rw [← hW11]
            exact ⟨rfl, B11.out⟩
          · have h1e : (q.2 != (1 : Int)) = true := by simpa using h1
            clear hz h1
            go_wp2_with fail
            go_ret
            rw [← hW11]
            exact ⟨rfl, B11.out⟩

end Go.Proofs.YthibphklchalkaaDoor
