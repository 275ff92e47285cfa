/-
  The reference's Copy: a booking whose postings are of the call's own. Conditions: few postings.
-/
import Derived.Test.YtfkcphflcmpenaaDoorZLed12
import Derived.Test.YtfkcphflcmpenaaDoorZMBase
namespace Go.Proofs.YtfkcphflcmpenaaDoor
open Go.RowKit Go.Maps

section
variable {P : Program}
theorem run_append_owned_nil (w : World) (base : Nat) (t ty e : TypeId) (i : TypeInfo) (size : Nat) (ht : P.underlying t = some (.slice e)) (hi : P.info? e = some i)
    (v : Value) (n : Nat) (xs : List Value) (hown : w.ownsRow base e size v n xs) (c : Nat) : (Builtin.append_ #[t, t] ty #[v, .slice none 0 c]).run P w = .ok v w := by
  rcases hown.2 with ⟨rfl, rfl⟩ | ⟨g, cap, cur, rfl, _, _, hnc, _⟩
  · simp [Builtin.append_, run_underlying ht, sizeOf, typeInfo, hi, Builtin.lenOf, Builtin.firstCells]
  · simp [Builtin.append_, run_underlying ht, sizeOf, typeInfo, hi, Builtin.lenOf, Builtin.firstCells, hnc, storeCells]

/-- append of a slice that reads as a list to a row of the call's own, at the operation -/
theorem wp_append_list {α : Type} {sz : Nat} {cells : α → List Value} {l : List α} {w : World} {o : Oper} {a : Act} {K : Act → World → Prop} {Q : Exit → Act → World → Prop} (s x : Operand) (t : TypeId)
    (ho : o.op = .call { callee := .builtin .append, args := #[s, x], argTypes := #[t, t] })
    (base : Nat) (e : TypeId) (i : TypeInfo) (z : Value) (bytes : Nat) (ht : P.underlying t = some (.slice e)) (hi : P.info? e = some i) (hz : i.zero = some z)
    (hsize : i.size = sz) (hby : i.bytes = bytes) (hzs : z.cells.size = sz) (hsz : 0 < sz)
    (v : Value) (n : Nat) (xs : List Value) (hs : a.eval s = v) (hown : w.ownsRow base e sz v n xs)
    (u : Value) (hx : a.eval x = u) (hr : SlOf w u sz cells l) (hcl : ∀ x, (cells x).length = sz) (h1 : ∀ u ∈ l.flatMap cells, u.oneCell' = true)
    (h63 : n + l.length ≤ maxLen) (hbytes : (n + l.length) * bytes ≤ 140737488355328) (hbase : base ≤ w.heap.size)
    (h : ∀ v' w', w'.ownsRow base e sz v' (n + l.length) (xs ++ l.flatMap cells) → w.grownBy w' v.ownBlock → (v'.ownBlock = v.ownBlock ∨ v'.ownBlock = some w.heap.size) → K (a.put o.dst v') w') : o.wp P a w K Q := by
  obtain ⟨ad, cap, rfl, k1, k2, k3⟩ := hr
  cases ad with
  | some b =>
    have hnews : ∀ j u, (l.flatMap cells)[j]? = some u → w.cell? (b.add j) = some u := by
      intro j u hu
      by_cases h0 : 0 < l.length
      · obtain ⟨g, o, e2, hr⟩ := k3 h0
        cases e2
        exact flat_cells hcl hr j u hu
      · have : l = [] := List.eq_nil_of_length_eq_zero (by omega)
        subst this
        simp at hu
    obtain ⟨v', w', hr, h2, h3, _, h5⟩ := run_append_own_at (P := P) w base t o.type e i z sz bytes ht hi hz hsize hby hzs hsz v n xs hown b l.length cap (l.flatMap cells) (flat_len l hcl) hnews h1 h63 hbytes hbase
    unfold Oper.wp execOp
    simp only [ho, resolve, invoke, builtin, Sem.run_bind, Sem.run_pure, Result.andThen_ok, List.map_toArray, List.map_cons, List.map_nil, hs, hx, hr]
    exact h v' w' h2 h3 h5
  | none =>
    have h0 : l = [] := by
      rcases Nat.eq_zero_or_pos l.length with h | h
      · exact List.eq_nil_of_length_eq_zero h
      · obtain ⟨g, o, e2, _⟩ := k3 h
        cases e2
    subst h0
    have hrun := run_append_owned_nil (P := P) w base t o.type e i sz ht hi v n xs hown cap
    unfold Oper.wp
    simp [execOp, ho, resolve, invoke, builtin, hs, hx, hrun, Result.andThen]
    exact h v w (by simpa using hown) (World.grownBy.refl w _) (.inl rfl)
end

theorem blk_set {w : World} {g : Nat} {t : TypeId} {cs : Array Value} (h : w.heap[g]? = some (.cells cs t (0, 0))) (i : Nat) (u : Value) : (w.setCell ⟨g, i, none⟩ u).heap[g]? = some (.cells (cs.setIfInBounds i u) t (0, 0)) := by
  simp [World.setCell, Array.getElem?_modify, h]

/-- what Copy ends in -/
def CopyPost (x : Lg.Bk) (w : World) (e : Ending) (w' : World) : Prop :=
  ∃ v, e = .returned (bookV (x, v)) ∧ w'.ownsRow w.heap.size 47 2 v x.posts.length (x.posts.flatMap postC) ∧ Below w.heap.size w w'

set_option maxRecDepth 100000 in
set_option maxHeartbeats 4000000 in
theorem copy_any (w : World) (x : Lg.Bk × Value) (h : SlOf w x.2 2 postC x.1.posts) (hl : x.1.posts.length ≤ 1000000) : Calls Tryd.prog 26 #[bookV x] w (CopyPost x.1 w) := by
  obtain ⟨i0, hi, hz0, hz1, hz2⟩ := info_parts Tryd.infoPost
  have HX := hid h
  obtain ⟨xa, xc, hxv, x1, x2, -⟩ := h
  have HXV := hid hxv
  unfold bookV
  rw [hxv]
  clear hxv
  go_enter Tryd.func26, Tryd.ntmps26
  go_wp2_with fail
  obtain ⟨wr, hwr⟩ : ∃ wr, wr = (w.alloc (.cells #[.string x.1.id, .int .i64 x.1.at_, .slice xa x.1.posts.length xc] 36)).alloc (.cells #[.string ⟨#[]⟩, .int .i64 0, .slice none 0 0] 36) := ⟨_, rfl⟩
  rw [← hwr]
  have hB : Below w.heap.size w wr := by rw [hwr]; exact ((Below.refl _ w).alloc (Nat.le_refl _) _).alloc (by simp) _
  have hw0 : wr.heap[w.heap.size]? = some (.cells #[.string x.1.id, .int .i64 x.1.at_, .slice xa x.1.posts.length xc] 36 (0, 0)) := by
    rw [hwr, Below.heap_alloc _ _ _ (by simp)]; exact alloc_new w _
  have hw1 : wr.heap[w.heap.size + 1]? = some (.cells #[.string ⟨#[]⟩, .int .i64 0, .slice none 0 0] 36 (0, 0)) := by
    rw [hwr, show w.heap.size + 1 = (w.alloc (.cells #[.string x.1.id, .int .i64 x.1.at_, .slice xa x.1.posts.length xc] 36)).heap.size by simp]; exact alloc_new _ _
  have hwz : w.heap.size + 2 ≤ wr.heap.size := by rw [hwr]; simp
  have HQ : Hid (∀ W, Below (w.heap.size + 1) wr W → W.cell? ⟨w.heap.size, 0, none⟩ = some (.string x.1.id) ∧ W.cell? ⟨w.heap.size, 1, none⟩ = some (.int .i64 x.1.at_) ∧ W.cell? ⟨w.heap.size, 2, none⟩ = some (.slice xa x.1.posts.length xc)) := by
    intro W hW
    have h3 := (hW.block w.heap.size (by omega)).trans hw0
    exact ⟨by simp [World.cell?, h3], by simp [World.cell?, h3], by simp [World.cell?, h3]⟩
  have HW := hid (And.intro hB (And.intro hw0 hw1))
  clear hB hw0 hw1 hwr
  refine wp_heldS (S := fun _ wx => Below (w.heap.size + 1) wr wx) (by kernel_rfl) ?_
  simp only [List.size_toArray, List.length_cons, List.length_nil, Nat.reduceAdd]
  intro hc
  have S00 : Below wr.heap.size wr wr.drew := (Below.refl _ wr).drew
  have S0 : Below (w.heap.size + 1) wr wr.drew := S00.mono (by omega)
  refine wpAnyS_take (i := 0) (v := .pointer (some ⟨w.heap.size, 0, none⟩)) rfl (by kernel_rfl) (by kernel_rfl) (by kernel_rfl) (fun _ _ _ h => h) (fun _ _ => Iff.rfl) hc (by rfl) (fun wx hx => ?_) S0 (fun hc S0 => ?_)
  · go_simp
  simp only [List.getElem_toArray, List.getElem_cons_zero, Act.put, List.setIfInBounds_toArray, List.set_cons_zero, List.set_cons_succ]
  refine wpAnyS_take (i := 1) (v := .string x.1.id) rfl (by kernel_rfl) (by kernel_rfl) (by kernel_rfl) (fun _ _ _ h => h) (fun _ _ => Iff.rfl) hc (by rfl) (fun wx hx => ?_) S0 (fun hc S0 => ?_)
  · obtain ⟨_, _, _, hS⟩ := hx
    obtain ⟨g0, g1, g2⟩ := HQ.out _ hS
    go_simp
  simp only [List.getElem_toArray, List.getElem_cons_succ, List.getElem_cons_zero, Act.put, List.setIfInBounds_toArray, List.set_cons_zero, List.set_cons_succ]
  refine wpAnyS_take (i := 2) (v := .pointer (some ⟨w.heap.size, 1, none⟩)) rfl (by kernel_rfl) (by kernel_rfl) (by kernel_rfl) (fun _ _ _ h => h) (fun _ _ => Iff.rfl) hc (by rfl) (fun wx hx => ?_) S0 (fun hc S0 => ?_)
  · go_simp
  simp only [List.getElem_toArray, List.getElem_cons_succ, List.getElem_cons_zero, Act.put, List.setIfInBounds_toArray, List.set_cons_zero, List.set_cons_succ]
  refine wpAnyS_take (i := 3) (v := .int .i64 x.1.at_) rfl (by kernel_rfl) (by kernel_rfl) (by kernel_rfl) (fun _ _ _ h => h) (fun _ _ => Iff.rfl) hc (by rfl) (fun wx hx => ?_) S0 (fun hc S0 => ?_)
  · obtain ⟨_, _, _, hS⟩ := hx
    obtain ⟨g0, g1, g2⟩ := HQ.out _ hS
    go_simp
  simp only [List.getElem_toArray, List.getElem_cons_succ, List.getElem_cons_zero, Act.put, List.setIfInBounds_toArray, List.set_cons_zero, List.set_cons_succ]
  refine wpAnyS_take (i := 5) (v := .pointer (some ⟨w.heap.size, 2, none⟩)) rfl (by kernel_rfl) (by kernel_rfl) (by kernel_rfl) (fun _ _ _ h => h) (fun _ _ => Iff.rfl) hc (by rfl) (fun wx hx => ?_) S0 (fun hc S0 => ?_)
  · go_simp
  simp only [List.getElem_toArray, List.getElem_cons_succ, List.getElem_cons_zero, Act.put, List.setIfInBounds_toArray, List.set_cons_zero, List.set_cons_succ]
  refine wpAnyS_take (i := 6) (v := .slice xa x.1.posts.length xc) rfl (by kernel_rfl) (by kernel_rfl) (by kernel_rfl) (fun _ _ _ h => h) (fun _ _ => Iff.rfl) hc (by rfl) (fun wx hx => ?_) S0 (fun hc S0 => ?_)
  · obtain ⟨_, _, _, hS⟩ := hx
    obtain ⟨g0, g1, g2⟩ := HQ.out _ hS
    go_simp
  simp only [List.getElem_toArray, List.getElem_cons_succ, List.getElem_cons_zero, Act.put, List.setIfInBounds_toArray, List.set_cons_zero, List.set_cons_succ]
  refine wpAnyS_some (rs := [4]) (by kernel_rfl) (by simp) hc (fun i hi => ?_)
  simp only [List.mem_cons, List.not_mem_nil, or_false] at hi
  subst hi
  refine ⟨_, rfl, by rfl, fun K' hK => ?_⟩
  go_simp
  have hb4 : Below wr.drew.heap.size wr.drew (wr.drew.alloc (.cells #[] 47)) := (Below.refl _ _).alloc (Nat.le_refl _) _
  have S4 := Below.step S00 hb4
  have hown : (wr.drew.alloc (.cells #[] 47)).ownsRow w.heap.size 47 2 (.slice (some ⟨wr.drew.heap.size, 0, none⟩) 0 0) 0 [] := World.ownsRow_made wr.drew #[] 0 (by show w.heap.size ≤ wr.heap.size; omega) (by unfold maxLen; omega) rfl
  refine hK.out _ _ (S4.mono (by omega)) (fun hc => ?_)
  clear hK K'
  try simp only [Act.put, List.setIfInBounds_toArray, List.set_cons_zero, List.set_cons_succ] at hc ⊢
  refine wpAnyS_some (rs := [7]) (by kernel_rfl) (by simp) hc (fun i hi' => ?_)
  simp only [List.mem_cons, List.not_mem_nil, or_false] at hi'
  subst hi'
  refine ⟨_, rfl, by rfl, fun K' hK => ?_⟩
  have hsl : SlOf (wr.drew.alloc (.cells #[] 47)) (.slice xa x.1.posts.length xc) 2 postC x.1.posts := by
    have := HX.out.below (Below.step HW.out.1 S4)
    rw [HXV.out] at this
    exact this
  refine wp_append_list (.tmp 7) (.tmp 9) 34 rfl w.heap.size 47 i0 (.agg #[.string ⟨#[]⟩, .int .i64 0]) 24 Tryd.underlying34 hi hz0 hz1 hz2 rfl (by decide) _ 0 [] rfl hown _ rfl hsl (fun _ => rfl) (post_one _) (by unfold maxLen; omega) (by omega) (by simp; omega) ?_
  intro v' w' ho hg hor
  rw [Nat.zero_add, List.nil_append] at ho
  obtain ⟨va, vc, rfl⟩ := (SlIn.own ho (fun _ _ => rfl)).slice
  have S7 : Below wr.heap.size wr w' := S4.grown hg (by simp) (fun r e => by cases e; simp)
  refine hK.out _ _ (S7.mono (by omega)) (fun hc => ?_)
  clear hK K'
  try simp only [Act.put, List.setIfInBounds_toArray] at hc ⊢
  refine wpAnyS_some (rs := [8]) (by kernel_rfl) (by simp) hc (fun i hi' => ?_)
  simp only [List.mem_cons, List.not_mem_nil, or_false] at hi'
  subst hi'
  refine ⟨_, rfl, by rfl, fun K' hK => ?_⟩
  go_simp
  refine hK.out _ _ (S7.mono (by omega)) (fun hc => ?_)
  clear hK K'
  try simp only [Act.put, List.setIfInBounds_toArray, List.set_cons_zero, List.set_cons_succ] at hc ⊢
  refine wpAnyS_some (rs := [9]) (by kernel_rfl) (by simp) hc (fun i hi' => ?_)
  simp only [List.mem_cons, List.not_mem_nil, or_false] at hi'
  subst hi'
  refine ⟨_, rfl, by rfl, fun K' hK => ?_⟩
  have hw1 := (S7.block (w.heap.size + 1) (by omega)).trans HW.out.2.2
  have c0 : w'.cell? ⟨w.heap.size + 1, 0, none⟩ = some (.string ⟨#[]⟩) := by simp [World.cell?, hw1]
  have c1 : w'.cell? ⟨w.heap.size + 1, 1, none⟩ = some (.int .i64 0) := by simp [World.cell?, hw1]
  have c2 : w'.cell? ⟨w.heap.size + 1, 2, none⟩ = some (.slice none 0 0) := by simp [World.cell?, hw1]
  have f0 : ∀ i, w'.frozen? ⟨w.heap.size + 1, i, none⟩ = false := by intro i; simp [World.frozen?, hw1]
  have hsz : w.heap.size + 1 < w'.heap.size := by have := S7.size; omega
  go_simp
  obtain ⟨w3, hw3⟩ : ∃ w3, w3 = (((w'.setCell ⟨w.heap.size + 1, 0, none⟩ (.string x.1.id)).setCell ⟨w.heap.size + 1, 1, none⟩ (.int .i64 x.1.at_)).setCell ⟨w.heap.size + 1, 2, none⟩ (.slice va x.1.posts.length vc)) := ⟨_, rfl⟩
  have T : Tch (fun k => k = w.heap.size + 1) w' w3 := by
    rw [hw3]
    exact (((Tch.refl (fun k => k = w.heap.size + 1) w').setCell (a := ⟨w.heap.size + 1, 0, none⟩) (.inl rfl) _).setCell (a := ⟨w.heap.size + 1, 1, none⟩) (.inl rfl) _).setCell (a := ⟨w.heap.size + 1, 2, none⟩) (.inl rfl) _
  have hr : w3.heap[w.heap.size + 1]? = some (.cells #[.string x.1.id, .int .i64 x.1.at_, .slice va x.1.posts.length vc] 36 (0, 0)) := by
    rw [hw3]
    exact blk_set (blk_set (blk_set hw1 0 _) 1 _) 2 _
  rw [← hw3]
  have S9 : Below (w.heap.size + 1) wr w3 := (S7.mono (by omega)).trans (T.below (by omega) (fun k e => by omega))
  refine hK.out _ _ S9 (fun hc => ?_)
  clear hK K'
  refine wpAnyS_done (by kernel_rfl) ?_ _
  have d0 : w3.cell? ⟨w.heap.size + 1, 0, none⟩ = some (.string x.1.id) := by simp [World.cell?, hr]
  have d1 : w3.cell? ⟨w.heap.size + 1, 1, none⟩ = some (.int .i64 x.1.at_) := by simp [World.cell?, hr]
  have d2 : w3.cell? ⟨w.heap.size + 1, 2, none⟩ = some (.slice va x.1.posts.length vc) := by simp [World.cell?, hr]
  have HE := hid (show CopyPost x.1 w (.returned (bookV (x.1, .slice va x.1.posts.length vc))) w3 from ⟨_, rfl, ownsRow_tch ho T (fun g e hg => by
      have hg : g = w.heap.size + 1 := hg
      have hz' : wr.drew.heap.size = wr.heap.size := rfl
      rcases hor with h | h
      · have h2 : g = wr.drew.heap.size := Option.some.inj (e.symm.trans h)
        omega
      · have h2 : g = (wr.drew.alloc (.cells #[] 47)).heap.size := Option.some.inj (e.symm.trans h)
        rw [World.size_alloc] at h2
        omega), Below.trans HW.out.1 (S9.mono (by omega))⟩)
  clear hw3 T S9 S7 S4 hw1 c0 c1 c2 f0
  go_wp2_with fail
  refine bodyPost_ret (v := .agg #[.string x.1.id, .int .i64 x.1.at_, .slice va x.1.posts.length vc]) ?_ rfl ?_
  · exact results_cell_row rfl _ _ (w.heap.size + 1) 36 _ _ _ rfl hr Tryd.underlying36 rfl (by kernel_rfl)
  · exact HE.out

end Go.Proofs.YtfkcphflcmpenaaDoor
