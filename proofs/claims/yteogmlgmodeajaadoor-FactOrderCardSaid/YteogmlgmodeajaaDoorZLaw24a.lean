/-
  FactOrder: the statement's function returns true. Conditions: what can be read of its arguments; the table of powers.
-/
import Derived.Test.YteogmlgmodeajaaDoorZFa15
import Derived.Deep.RegionLaw
import Derived.BigRegion
namespace Go
theorem step_append_own {P : Program} {w : World} {ops : Array Oper} {o : Oper} {a : Act} {K : Act → World → Prop} {Q : Exit → Act → World → Prop} {E : Prop} (hg : o.guard = none) (s x : Operand) (t : TypeId)
    (ho : o.op = .call { callee := .builtin .append, args := #[s, x], argTypes := #[t, t] })
    (base : Nat) (e : TypeId) (i : TypeInfo) (z : Value) (size bytes : Nat) (ht : P.underlying t = some (.slice e)) (hi : P.info? e = some i) (hz : i.zero = some z)
    (hsize : i.size = size) (hby : i.bytes = bytes) (hzs : z.cells.size = size) (hsz : 0 < size)
    (v : Value) (n : Nat) (xs : List Value) (hs : a.eval s = v) (hown : w.ownsRow base e size v n xs)
    (ad : Addr) (m c : Nat) (news : List Value) (hx : a.eval x = .slice (some ad) m c) (hl : news.length = m * size) (hnews : ∀ j u, news[j]? = some u → w.cell? (ad.add j) = some u) (h1 : ∀ u ∈ news, u.oneCell' = true)
    (h63 : n + m ≤ maxLen) (hbytes : (n + m) * bytes ≤ 140737488355328) (hbase : base ≤ w.heap.size)
    (h : ∀ v' w', w'.ownsRow base e size v' (n + m) (xs ++ news) → w.grownBy w' v.ownBlock → K (a.put o.dst v') w') :
    if Region.wanted o (yielded ops a.tmps) = true then Oper.wp P o a w K Q else E := by
  rw [if_pos (by simp [Region.wanted, hg])]
  exact wp_append_own w s x t ho base e i z size bytes ht hi hz hsize hby hzs hsz v n xs hs hown ad m c news hx hl hnews h1 h63 hbytes hbase fun v' w' h2 h3 _ => h v' w' h2 h3
end Go
namespace Go.Proofs.YteogmlgmodeajaaDoor
open Go.RowKit Go.Lib Go.Maps

theorem ownCells {w : World} {base : Nat} {e : TypeId} {size : Nat} {v : Value} {n : Nat} {xs : List Value} (h : w.ownsRow base e size v n xs) {g : Nat} (hg : v.ownBlock = some g) : base ≤ g ∧ ∃ cs, w.heap[g]? = some (.cells cs e (0, 0)) := by
  rcases h.2 with ⟨rfl, _⟩ | ⟨g', cap, cur, rfl, hb, hh, r⟩
  · simp [Value.ownBlock] at hg
  · simp [Value.ownBlock] at hg
    subst hg
    exact ⟨hb, _, hh⟩
theorem keptType {w w' : World} {B B2 : Nat} {e e2 : TypeId} {z z2 : Nat} {v v2 : Value} {m m2 : Nat} {xs xs2 : List Value} (h : w.ownsRow B e z v m xs) (h2 : w.ownsRow B2 e2 z2 v2 m2 xs2) (hg : w.grownBy w' v2.ownBlock) (hne : e ≠ e2) : w'.ownsRow B e z v m xs := by
  refine h.kept hg ?_
  cases hv : v.ownBlock with
  | none => exact .inl rfl
  | some k =>
    refine .inr (fun e => ?_)
    obtain ⟨_, cs, h3⟩ := ownCells h hv
    obtain ⟨_, cs', h4⟩ := ownCells h2 e.symm
    rw [h3] at h4
    cases h4
    exact hne rfl

/-- what lies from m1, m2 on is taken over, from the back -/
structure RevW (N : Nat) (A W : World) (d : Fa.Dom) (c : List Int) (m1 m2 : Nat) (v6 v7 : Value) : Prop where
  facts : W.ownsRow (N + 2) 42 4 v6 (d.length - m1) ((d.drop m1).reverse.flatMap factC)
  nums : W.ownsRow N 3 1 v7 (c.length - m2) ((c.drop m2).reverse.flatMap numC)
  box : One W (N + 1) 24 v6
  below : Below N A W
  size : N = A.heap.size
theorem RevW.start (A : World) (d : Fa.Dom) (c : List Int) : RevW A.heap.size A ((A.alloc (.cells #[] 3)).alloc (.cells #[.slice none 0 0] 24)) d c d.length c.length (.slice none 0 0) (.slice (some ⟨A.heap.size, 0, none⟩) 0 0) := by
  have hb : Below (A.alloc (.cells #[] 3)).heap.size (A.alloc (.cells #[] 3)) ((A.alloc (.cells #[] 3)).alloc (.cells #[.slice none 0 0] 24)) := below_new _ _
  refine ⟨?_, ?_, ?_, Below.step (below_new A _) hb, rfl⟩
  · rw [Nat.sub_self, List.drop_length]; exact World.ownsRow_nil _ _ _ _
  · rw [Nat.sub_self, List.drop_length]
    refine ownsRow_below ⟨rfl, .inr ⟨_, 0, #[], rfl, Nat.le_refl _, alloc_new A _, Nat.le_refl _, Nat.zero_le _, rfl, rfl⟩⟩ hb
  · have := One.new (A.alloc (.cells #[] 3)) 24 (.slice none 0 0)
    simpa using this
theorem RevW.step {N : Nat} {A W W' : World} {d : Fa.Dom} {c : List Int} {m1 m2 : Nat} {v6 v7 : Value} (h : RevW N A W d c m1 m2 v6 v7) (hb : Below W.heap.size W W') : RevW N A W' d c m1 m2 v6 v7 :=
  ⟨ownsRow_below h.facts hb, ownsRow_below h.nums hb, h.box.below hb, h.below.trans (hb.mono (by rw [h.size]; have := h.below.size; omega)), h.size⟩
theorem RevW.nobox {N : Nat} {A W : World} {d : Fa.Dom} {c : List Int} {m1 m2 : Nat} {v6 v7 : Value} (h : RevW N A W d c m1 m2 v6 v7) {g : Nat} (hg : v7.ownBlock = some g) : g ≠ N + 1 := by
  rintro rfl
  obtain ⟨_, cs, h1⟩ := ownCells h.nums hg
  have h2 := h.box
  unfold One at h2
  rw [h1] at h2
  cases h2
theorem RevW.boxed {N : Nat} {A W W4 : World} {d : Fa.Dom} {c : List Int} {m1 m2 : Nat} {v6 v7 : Value} (h : RevW N A W d c m1 m2 v6 v7) (hg : W.grownBy W4 v6.ownBlock) : One W4 (N + 1) 24 v6 :=
  (hg.block _ h.box.lt (fun e => by have := (h.facts.lt _ e.symm).1; omega)).trans h.box
theorem RevW.fact {N : Nat} {A W Wa W4 : World} {d : Fa.Dom} {c : List Int} {m m2 : Nat} {v6 v7 v' : Value} {f : Fa.Fact} (h : RevW N A W d c (m + 1) m2 v6 v7) (hb : Below W.heap.size W Wa) (hf : d[m]? = some f)
    (ho : W4.ownsRow (N + 2) 42 4 v' (d.length - (m + 1) + 1) ((d.drop (m + 1)).reverse.flatMap factC ++ factC f)) (hg : Wa.grownBy W4 v6.ownBlock) : RevW N A (W4.setCell ⟨N + 1, 0, none⟩ v') d c m m2 v' v7 := by
  have ha := h.step hb
  have hlt := (List.getElem?_eq_some_iff.1 hf).1
  have hN := h.size
  have hv : ∀ b, v6.ownBlock = some b → N + 2 ≤ b := fun b e => (h.facts.lt b e).1
  have hbox : One W4 (N + 1) 24 v6 := (hg.block _ ha.box.lt (fun e => by have := hv _ e.symm; omega)).trans ha.box
  have hnums := keptType ha.nums ha.facts hg (by decide)
  have hT : Tch (fun b => b = N + 1) W4 (W4.setCell ⟨N + 1, 0, none⟩ v') := (Tch.refl (fun b => b = N + 1) W4).setCell (a := ⟨N + 1, 0, none⟩) (.inl rfl) _
  refine ⟨?_, ownsRow_tch hnums hT fun g e e2 => ha.nobox e e2, hbox.set _, ?_, hN⟩
  · rw [drop_cons hf, List.reverse_cons, List.flatMap_append, show d.length - m = d.length - (m + 1) + 1 by omega]
    have : [f].flatMap factC = factC f := by simp
    rw [this]
    exact ownsRow_setCell_below ho (a := ⟨N + 1, 0, none⟩) (by show N + 1 < N + 2; omega) _
  · exact (Below.appended ha.below hg (by have := ha.below.size; omega) (ownsRow_base ha.facts (Nat.le_add_right _ _))).setCell (by show N ≤ N + 1; omega) _
theorem RevW.num {N : Nat} {A W Wa W4 : World} {d : Fa.Dom} {c : List Int} {m m1 : Nat} {v6 v7 v' : Value} {x : Int} (h : RevW N A W d c m1 (m + 1) v6 v7) (hb : Below W.heap.size W Wa) (hx : c[m]? = some x)
    (ho : W4.ownsRow N 3 1 v' (c.length - (m + 1) + 1) ((c.drop (m + 1)).reverse.flatMap numC ++ numC x)) (hg : Wa.grownBy W4 v7.ownBlock) : RevW N A W4 d c m1 m v6 v' := by
  have ha := h.step hb
  have hlt := (List.getElem?_eq_some_iff.1 hx).1
  have hN := h.size
  refine ⟨keptType ha.facts ha.nums hg (by decide), ?_, (hg.block _ ha.box.lt (fun e => ha.nobox e.symm rfl)).trans ha.box, Below.appended ha.below hg (by have := ha.below.size; omega) ha.nums, hN⟩
  rw [drop_cons hx, List.reverse_cons, List.flatMap_append, show c.length - m = c.length - (m + 1) + 1 by omega]
  have : [x].flatMap numC = numC x := by simp
  rw [this]
  exact ho

set_option maxRecDepth 100000 in
set_option maxHeartbeats 8000000 in
theorem order_law (d : Fa.Dom) (c : List Int) (v vc : Value) (w : World) (h : SlOf w v 4 factC d) (hcs : SlOf w vc 1 numC c) (hT : Tab10 w) : Calls Tryd.prog 5 #[.agg #[v], vc] w (Gives (.bool true) w) := by
  obtain ⟨i0, hi, hz0, hz1, hz2⟩ := info_parts Tryd.infoFact
  obtain ⟨i1, hj, hy0, hy1, hy2⟩ := info_parts Tryd.infoInt
  have HC := hid hcs
  obtain ⟨W2, hW2⟩ : ∃ W2, W2 = w.alloc (.cells #[v] 24) := ⟨_, rfl⟩
  have hb2 : Below w.heap.size w W2 := by rw [hW2]; exact (Below.refl _ w).alloc (Nat.le_refl _) _
  have H2 := hid (show HdW' w W2 w.heap.size v d from ⟨by rw [hW2]; exact One.new w _ _, h.below hb2, hT.below hb2, hb2⟩)
  have HC2 := hid (hcs.below hb2)
  obtain ⟨va, cap, rfl, k1, k2, -⟩ := h
  obtain ⟨ac, cc, rfl, k3, k4, -⟩ := hcs
  have hl1 : c.length ≤ 9223372036854775807 := by unfold maxLen at k4; omega
  clear hb2 hT k1 k2 k3 k4
  go_enter Tryd.func5, Tryd.ntmps5
  go_upto_region 1 with (fail)
  rw [← hW2]
  clear hW2
  go_wp2_with fail
  refine (head_true W2 H2.out.tab).mono ?_
  rintro e w3 ⟨rfl, hb3⟩
  have H3 := hid (H2.out.step hb3)
  have HC3 := hid (HC2.out.below hb3)
  clear hb3
  have c3 := H3.out.one.cell
  have z3 := H3.out.one.lt
  go_wp2_with fail
  refine (few_any d c _ _ w3 H3.out.sl HC3.out).mono ?_
  rintro e w4 ⟨rfl, hb4⟩
  have H4 := hid (H3.out.step hb4)
  have HC4 := hid (HC3.out.below hb4)
  clear hb4 c3 z3
  cases hfw : (fewD d && decide (c.length ≤ 70)) with
  | false =>
    go_wp2_with fail
    go_ret
    exact ⟨rfl, H4.out.below⟩
  | true =>
    have hfd : fewD d = true ∧ c.length ≤ 70 := by simpa using hfw
    obtain ⟨hd70, hn100⟩ := fewD_parts hfd.1
    have hc70 := hfd.2
    clear hfw hfd
    have c4 := H4.out.one.cell
    have z4 := H4.out.one.lt
    go_wp2_with fail
    refine (factFits_any d c _ _ w4 H4.out.sl HC4.out (fun f hf => Nat.le_trans (hn100 f hf) (by decide)) (by omega)).mono ?_
    rintro e w5 ⟨rfl, hb5⟩
    have H5 := hid (H4.out.step hb5)
    have HC5 := hid (HC4.out.below hb5)
    clear hb5 c4 z4
    cases hft : Fa.fits d c with
    | false =>
      go_wp2_with fail
      go_ret
      exact ⟨rfl, H5.out.below⟩
    | true =>
      have hlen : c.length = d.length := (Fa.fits_parts hft).2.1
      have HF := hid hft
      clear hft
      have HN := hid hn100
      clear hn100
      have HR0 := hid (RevW.start w5 d c)
      obtain ⟨W6, hW6⟩ : ∃ W6, W6 = (w5.alloc (.cells #[] 3)).alloc (.cells #[.slice none 0 0] 24) := ⟨_, rfl⟩
      rw [← hW6] at HR0
      have HL := hid hlen
      go_upto_region 5 with (fail)
      rw [← hW6]
      clear hW6
      go_wp2_with fail
      go_loopw [7, 8] (fun v7 iv wr => ∃ (m : Nat) (v6 : Value), m ≤ d.length ∧ iv = .int .i64 ((m : Int) - 1) ∧ Hid (RevW w5.heap.size w5 wr d c m m v6 v7)) (fun _ iv _ => (RowKit.intOf iv + 1).toNat)
      case atStart => exact ⟨d.length, _, Nat.le_refl _, by go_num, by rw [← HL.out] at HR0 ⊢; exact HR0⟩
      case round =>
        obtain ⟨m, v6, hm, rfl, HR⟩ := hrel
        by_cases hm0 : m = 0
        · subst hm0
          obtain ⟨va6, cap6, rfl⟩ := ownsRow_slice HR.out.facts
          obtain ⟨va7, cap7, rfl⟩ := ownsRow_slice HR.out.nums
          have HBR := hid (show Below w5.heap.size w5 wr from HR.out.below)
          have HS6 := hid (show SlOf wr (.slice va6 d.length cap6) 4 factC d.reverse from SlOf.own (cells := factC) (l := d.reverse) (w := wr) (B := w5.heap.size + 2) (e := 42) (by simpa using HR.out.facts) fun x _ => rfl)
          have HS7 := hid (show SlOf wr (.slice va7 d.length cap7) 1 numC c.reverse from by rw [← HL.out]; exact SlOf.own (cells := numC) (l := c.reverse) (w := wr) (B := w5.heap.size) (e := 3) (by simpa using HR.out.nums) fun x _ => rfl)
          have HSD := hid (H5.out.sl.below HBR.out)
          have HT := hid (H5.out.tab.below HBR.out)
          have HNM := hid (show ∀ f ∈ d, f.name.length ≤ 5000 from fun f hf => Nat.le_trans (HN.out f hf) (by decide))
          have HE := hid (Fa.parse_reverse HF.out)
          have b2 := (H5.out.one.below HBR.out).cell
          have z2 := (H5.out.one.below HBR.out).lt
          have b6 := HR.out.box.cell
          have z6 := HR.out.box.lt
          rw [Nat.sub_zero] at b6
          rw [show c.length - 0 = d.length from HL.out]
          go_wp2_with fail
          refine wp_heldS (S := StillAt wr) (by kernel_rfl) ?_
          simp only [List.size_toArray, List.length_cons, List.length_nil, Nat.reduceAdd]
          intro hc
          have S0 : StillAt wr (Array.replicate 12 false) wr.drew := (Below.refl _ _).drew
          refine wpAnyS_take (i := 0) (v := .agg #[.slice va d.length cap]) rfl (by kernel_rfl) (by kernel_rfl) (by kernel_rfl) (fun _ _ _ h => h) (fun _ _ => Iff.rfl) hc (by rfl) (fun wx hx => ?_) S0 (fun hc S0 => ?_)
          · have g := (hx.still.cell (p := ⟨w.heap.size, 0, none⟩) z2).trans b2
            go_simp
          try simp only [List.getElem_toArray, List.getElem_cons_zero, Act.put, List.setIfInBounds_toArray, List.set_cons_zero, List.set_cons_succ]
          refine wpAnyS_take (i := 1) (v := .agg #[.slice va6 d.length cap6]) rfl (by kernel_rfl) (by kernel_rfl) (by kernel_rfl) (fun _ _ _ h => h) (fun _ _ => Iff.rfl) hc (by rfl) (fun wx hx => ?_) S0 (fun hc S0 => ?_)
          · have g := (hx.still.cell (p := ⟨w5.heap.size + 1, 0, none⟩) z6).trans b6
            go_simp
          try simp only [List.getElem_toArray, List.getElem_cons_succ, List.getElem_cons_zero, Act.put, List.setIfInBounds_toArray, List.set_cons_zero, List.set_cons_succ]
          refine wpAnyS_take (i := 2) (v := .slice va7 d.length cap7) rfl (by kernel_rfl) (by kernel_rfl) (by kernel_rfl) (fun _ _ _ h => h) (fun _ _ => Iff.rfl) hc (by rfl) (fun wx hx => ?_) S0 (fun hc S0 => ?_)
          · go_simp
          try simp only [List.getElem_toArray, List.getElem_cons_succ, List.getElem_cons_zero, Act.put, List.setIfInBounds_toArray, List.set_cons_zero, List.set_cons_succ]
          refine wpAnyS_one (i := 3) rfl (by kernel_rfl) (by rfl) hc (fun K' hK => ?_)
          go_simp
          refine (factCaseText_any d.reverse c.reverse _ _ wr.drew (HS6.out.below (Below.refl _ _).drew) (HS7.out.below (Below.refl _ _).drew) (fun f hf => HNM.out f (List.mem_reverse.1 hf)) (by simp; omega) (HT.out.below (Below.refl _ _).drew)).mono ?_
          rintro e w7 ⟨rfl, hb7⟩
          have hb7' : Below wr.heap.size wr w7 := Below.step (Below.refl _ _).drew hb7
          refine hK.out _ _ hb7' (fun hc => ?_)
          clear hK K'
          try simp only [List.getElem_toArray, List.getElem_cons_succ, List.getElem_cons_zero, Act.put, List.setIfInBounds_toArray, List.set_cons_zero, List.set_cons_succ]
          refine wpAnyS_one (i := 4) rfl (by kernel_rfl) (by rfl) hc (fun K' hK => ?_)
          go_simp
          refine (parseCase_any d (.slice va d.length cap) (Fa.caseText d.reverse c.reverse) w7 (HSD.out.below hb7') HNM.out (by omega) (Nat.le_trans (Fa.caseText_len _ _) (by decide))).mono ?_
          rw [HE.out]
          rintro e w8 hp
          obtain ⟨a8, k8, rfl, hs8, hb8⟩ := hp.sl
          have hb8' : Below wr.heap.size wr w8 := Below.step hb7' hb8
          refine hK.out _ _ hb8' (fun hc => ?_)
          clear hK K'
          try simp only
          refine wpAnyS_one (i := 5) rfl (by kernel_rfl) (by rfl) hc (fun K' hK => ?_)
          go_simp
          refine hK.out _ _ hb8' (fun hc => ?_)
          clear hK K'
          try simp only [List.getElem_toArray, List.getElem_cons_succ, List.getElem_cons_zero, Act.put, List.setIfInBounds_toArray, List.set_cons_zero, List.set_cons_succ]
          have S0 : StillAt wr #[] w8 := hb8'
          refine wpAnyS_take (i := 6) (v := .slice a8 c.length k8) rfl (by kernel_rfl) (by kernel_rfl) (by kernel_rfl) (fun _ _ _ h => h) (fun _ _ => Iff.rfl) hc (by rfl) (fun wx hx => ?_) S0 (fun hc S0 => ?_)
          · go_simp
          try simp only [List.getElem_toArray, List.getElem_cons_succ, List.getElem_cons_zero, Act.put, List.setIfInBounds_toArray, List.set_cons_zero, List.set_cons_succ]
          refine wpAnyS_take (i := 7) (v := .int .i64 0) rfl (by kernel_rfl) (by kernel_rfl) (by kernel_rfl) (fun _ _ _ h => h) (fun _ _ => Iff.rfl) hc (by rfl) (fun wx hx => ?_) S0 (fun hc S0 => ?_)
          · go_simp
          try simp only [List.getElem_toArray, List.getElem_cons_succ, List.getElem_cons_zero, Act.put, List.setIfInBounds_toArray, List.set_cons_zero, List.set_cons_succ]
          refine wpAnyS_take (i := 8) (v := .int .i64 0) rfl (by kernel_rfl) (by kernel_rfl) (by kernel_rfl) (fun _ _ _ h => h) (fun _ _ => Iff.rfl) hc (by rfl) (fun wx hx => ?_) S0 (fun hc S0 => ?_)
          · go_simp
          try simp only [List.getElem_toArray, List.getElem_cons_succ, List.getElem_cons_zero, Act.put, List.setIfInBounds_toArray, List.set_cons_zero, List.set_cons_succ]
          refine wpAnyS_take (i := 9) (v := .slice a8 c.length k8) rfl (by kernel_rfl) (by kernel_rfl) (by kernel_rfl) (fun _ _ _ h => h) (fun _ _ => Iff.rfl) hc (by rfl) (fun wx hx => ?_) S0 (fun hc S0 => ?_)
          · go_simp
          try simp only [List.getElem_toArray, List.getElem_cons_succ, List.getElem_cons_zero, Act.put, List.setIfInBounds_toArray, List.set_cons_zero, List.set_cons_succ]
          refine wpAnyS_take (i := 10) (v := .int .i64 0) rfl (by kernel_rfl) (by kernel_rfl) (by kernel_rfl) (fun _ _ _ h => h) (fun _ _ => Iff.rfl) hc (by rfl) (fun wx hx => ?_) S0 (fun hc S0 => ?_)
          · go_simp
          try simp only [List.getElem_toArray, List.getElem_cons_succ, List.getElem_cons_zero, Act.put, List.setIfInBounds_toArray, List.set_cons_zero, List.set_cons_succ]
          refine wpAnyS_take (i := 11) (v := .int .i64 0) rfl (by kernel_rfl) (by kernel_rfl) (by kernel_rfl) (fun _ _ _ h => h) (fun _ _ => Iff.rfl) hc (by rfl) (fun wx hx => ?_) S0 (fun hc S0 => ?_)
          · go_simp
          try simp only [List.getElem_toArray, List.getElem_cons_succ, List.getElem_cons_zero, Act.put, List.setIfInBounds_toArray, List.set_cons_zero, List.set_cons_succ]
          refine wpAnyS_done (by kernel_rfl) ?_ _
          clear b2 z2 b6 z6 hc S0
          have HC8 := hid (HC5.out.below (Below.step HBR.out hb8'))
          have HS8 := hid (show SlOf w8 (.slice a8 c.length k8) 1 numC c from hs8)
          rw [HL.out] at HC8 HS8
          have HB8 := hid (Below.step H5.out.below (Below.step HBR.out hb8'))
          clear hb7 hb7' hb8 hb8' hp hs8
          go_wp2_with fail
          refine (equal_any c c _ _ w8 HS8.out HC8.out).mono ?_
          rintro e w9 ⟨rfl, hb9⟩
          go_wp2_with fail
          go_ret
          refine ⟨by simp, Below.step HB8.out hb9⟩
        · obtain ⟨i, rfl⟩ : ∃ i, m = i + 1 := ⟨m - 1, by omega⟩
          rw [show ((i + 1 : Nat) : Int) - 1 = (i : Int) by omega]
          obtain ⟨fa, hf⟩ : ∃ f, d[i]? = some f := ⟨_, List.getElem?_eq_getElem (by omega)⟩
          obtain ⟨x, hx⟩ : ∃ x, c[i]? = some x := ⟨_, List.getElem?_eq_getElem (by have := HL.out; omega)⟩
          have HBR := hid (show Below w5.heap.size w5 wr from HR.out.below)
          have HX := hid hx
          have HFA := hid hf
          obtain ⟨g, o, rfl, hg, e0, e1, e2, e3⟩ := fact_cells H5.out.sl hf HBR.out
          obtain ⟨va6, cap6, rfl⟩ := ownsRow_slice HR.out.facts
          have b2 := (H5.out.one.below HBR.out).cell
          have z2 := (H5.out.one.below HBR.out).lt
          have b6 := HR.out.box.cell
          have z6 := HR.out.box.lt
          have f6 := HR.out.box.frozen
          have hk0 : (0 : Int) ≤ (i : Int) := by omega
          have hk1 : (i : Int) < (d.length : Int) := by omega
          have HB8 := hid (fun o => Below.step (below_new wr o) (Below.refl (wr.alloc o).heap.size (wr.alloc o)).drew)
          have HA := hid (fun o => HR.out.step (HB8.out o))
          have HZ := hid (fun o => (HA.out o).box.lt)
          clear hf hx
          go_wp2_with fail
          go_region_law (refine step_append_own rfl (.tmp 34) (.tmp 40) 22 rfl (w5.heap.size + 2) 42 i0 (.agg #[.string ⟨#[]⟩, .int .i64 0, .int .i64 0, .int .i64 0]) 4 40 Tryd.underlying22 hi hz0 hz1 hz2 rfl (by decide) (.slice va6 (d.length - (i + 1)) cap6) _ _ rfl (HA.out (.cells #[.string (bs fa.name), .int .i64 fa.kind, .int .i64 fa.lo, .int .i64 fa.hi] 42)).facts ⟨wr.heap.size, 0, none⟩ 1 1 [.string (bs fa.name), .int .i64 fa.kind, .int .i64 fa.lo, .int .i64 fa.hi] rfl rfl (fun j u hu => (cells_new (w := wr) (t := 42) rfl j u hu)) (by simp [Value.oneCell']) (by unfold maxLen; omega) (by omega) (HZ.out _) ?_; intro v' w12 ho12 hg12; obtain ⟨va', cap', rfl⟩ := ownsRow_slice ho12; have g12 := (HA.out _).boxed hg12; have g0 := g12.cell; have g1 := g12.lt; have g2 := g12.frozen)
          all_goals (
            have HG := hid (HR.out.fact (f := fa) (HB8.out _) HFA.out ho12 hg12)
            obtain ⟨W13, hW13⟩ : ∃ W13, W13 = w12.setCell ⟨w5.heap.size + 1, 0, none⟩ (.slice va' (d.length - (i + 1) + 1) cap') := ⟨_, rfl⟩
            rw [← hW13] at HG ⊢
            clear ho12 hg12 g12 g0 g1 g2 hW13 e0 e1 e2 e3 b2 z2 b6 z6 f6
            obtain ⟨g', o', rfl, hg', y0⟩ := num_cell HC5.out HX.out HG.out.below
            obtain ⟨va7, cap7, rfl⟩ := ownsRow_slice HG.out.nums
            have hc7 : c.length ≤ 70 := by have := HL.out; omega
            have HA2 := hid (fun o => HG.out.step (below_new W13 o))
            have HZ2 := hid (fun o => Nat.le_of_lt (Nat.lt_of_succ_lt (HA2.out o).box.lt))
            go_wp2_with (at_builtin; refine wpList_append_own _ rfl _ _ 35 rfl w5.heap.size 3 i1 (.int .i64 0) 1 8 Tryd.underlying35 hj hy0 hy1 hy2 rfl (by decide) (.slice va7 (c.length - (i + 1)) cap7) _ _ rfl (HA2.out (.cells #[.int .i64 x] 3)).nums ⟨W13.heap.size, 0, none⟩ 1 1 [.int .i64 x] rfl rfl (cells_new rfl) (by simp [Value.oneCell']) (by unfold maxLen; omega) (by omega) (HZ2.out _) ?_; intro v14 w14 ho14 hg14 _)
            have HG2 := hid (HG.out.num (below_new W13 _) HX.out ho14 hg14)
            go_roundw
            case rel => exact ⟨i, _, by omega, by go_num, HG2⟩
            case measure => simp [RowKit.intOf])

end Go.Proofs.YteogmlgmodeajaaDoor
