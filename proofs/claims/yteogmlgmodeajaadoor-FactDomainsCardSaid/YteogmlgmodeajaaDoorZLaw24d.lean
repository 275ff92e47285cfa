/-
  FactDomains: the statement's function returns true. Conditions: what can be read of its arguments; the table of powers.
-/
import Derived.Test.YteogmlgmodeajaaDoorZFa16
import Derived.OwnWalk
namespace Go.Proofs.YteogmlgmodeajaaDoor
open Go.RowKit Go.Lib Go.Maps

theorem Fa.valid_parts' {d : Fa.Dom} (h : Fa.valid d = true) : (∀ f ∈ d, f.name.length ≤ 5000) ∧ d.length ≤ 5000 := by
  unfold Fa.valid at h
  simp only [Bool.and_eq_true, decide_eq_true_eq, List.all_eq_true] at h
  refine ⟨fun f hf => ?_, by omega⟩
  have h1 := (h.1.1 f hf).2
  unfold Fa.nm at h1
  simp only [Bool.and_eq_true, decide_eq_true_eq] at h1
  omega
/-- it yields v; all that stood in A stands as it did -/
def Upon (A : World) (v : Value) (e : Ending) (w' : World) : Prop := e = .returned v ∧ Below A.heap.size A w'
theorem upon {P : Program} {f : FuncId} {xs : Array Value} {A w : World} {v : Value} (h : Calls P f xs w (Gives v w)) (hb : Below A.heap.size A w) : Calls P f xs w (Upon A v) :=
  h.mono fun _ _ ⟨h1, h2⟩ => ⟨h1, Below.step hb h2⟩

theorem text_empty {d : Fa.Dom} (h : Fa.valid d = true) : (Fa.text d = [] ↔ d.length = 0) := by
  unfold Fa.text
  rw [if_pos h]
  cases d with
  | nil => simp
  | cons f d =>
    simp only [List.flatMap_cons, List.append_eq_nil_iff, List.length_cons]
    refine ⟨fun e => ?_, fun e => by omega⟩
    have h1 := e.1
    unfold Fa.factText at h1
    split at h1 <;> simp at h1

set_option maxRecDepth 100000 in
set_option maxHeartbeats 16000000 in
theorem domains_law (a b : Fa.Dom) (s : List UInt8) (va vb : Value) (w : World) (ha : SlOf w va 4 factC a) (hb : SlOf w vb 4 factC b) (hs : s.length ≤ maxLen) (hT : Tab10 w) : Calls Tryd.prog 3 #[.agg #[va], .agg #[vb], .string (bs s)] w (Gives (.bool true) w) := by
  obtain ⟨W2, hW2⟩ : ∃ W2, W2 = (w.alloc (.cells #[va] 24)).alloc (.cells #[vb] 24) := ⟨_, rfl⟩
  have hb2 : Below w.heap.size w W2 := by rw [hW2]; exact Below.step (below_new w _) (below_new _ _)
  have hB2 : One W2 (w.heap.size + 1) 24 vb := by
    rw [hW2]
    have := One.new (w.alloc (.cells #[va] 24)) 24 vb
    simpa using this
  have H2 := hid (show HdW' w W2 w.heap.size va a from ⟨by rw [hW2]; exact (One.new w _ _).below (below_new _ _), ha.below hb2, hT.below hb2, hb2⟩)
  have G2 := hid (show HdW' w W2 (w.heap.size + 1) vb b from ⟨hB2, hb.below hb2, hT.below hb2, hb2⟩)
  obtain ⟨aa, ca, rfl, k1, k2, -⟩ := ha
  obtain ⟨ab, cb, rfl, k3, k4, -⟩ := hb
  have hl1 : a.length ≤ 9223372036854775807 := by unfold maxLen at k2; omega
  have hl2 : b.length ≤ 9223372036854775807 := by unfold maxLen at k4; omega
  have hl3 : (bs s).size ≤ 9223372036854775807 := by rw [bs_size]; unfold maxLen at hs; omega
  have HSZ := hid (bs_size s)
  clear hb2 hB2 hT k1 k2 k3 k4 hs
  go_enter Tryd.func3, Tryd.ntmps3
  go_upto_region 1 with (fail)
  rw [← hW2]
  clear hW2
  go_wp2_with fail
  refine (head_true W2 H2.out.tab).mono ?_
  rintro e w3 ⟨rfl, hb3⟩
  have H3 := hid (H2.out.step hb3)
  have G3 := hid (G2.out.step hb3)
  clear hb3
  have c3 := H3.out.one.cell
  have z3 := H3.out.one.lt
  have d3 := G3.out.one.cell
  have y3 := G3.out.one.lt
  go_wp2_with fail
  refine (few_any a [] _ _ w3 H3.out.sl (SlOf.nil _ _ _)).mono ?_
  rintro e w4 ⟨rfl, hb4⟩
  have H4 := hid (H3.out.step hb4)
  have G4 := hid (G3.out.step hb4)
  clear hb4 c3 z3 d3 y3
  have d4 := G4.out.one.cell
  have y4 := G4.out.one.lt
  rw [show (fewD a && decide (([] : List Int).length ≤ 70)) = fewD a by simp]
  cases hfa : fewD a with
  | false =>
    go_wp2_with fail
    go_ret
    exact ⟨rfl, H4.out.below⟩
  | true =>
    obtain ⟨ha70, hna⟩ := fewD_parts hfa
    clear hfa
    have HNA := hid (show ∀ f ∈ a, f.name.length ≤ 5000 from fun f hf => Nat.le_trans (hna f hf) (by decide))
    have ha5 : a.length ≤ 5000 := by omega
    clear hna
    go_wp2_with fail
    refine (few_any b [] _ _ w4 G4.out.sl (SlOf.nil _ _ _)).mono ?_
    rw [show (fewD b && decide (([] : List Int).length ≤ 70)) = fewD b by simp]
    rintro e w5 ⟨rfl, hb5⟩
    have H5 := hid (H4.out.step hb5)
    have G5 := hid (G4.out.step hb5)
    clear hb5 d4 y4
    cases hfb : fewD b with
    | false =>
      go_wp2_with fail
      go_ret
      exact ⟨rfl, H5.out.below⟩
    | true =>
      obtain ⟨hb70, hnb⟩ := fewD_parts hfb
      clear hfb
      have HNB := hid (show ∀ f ∈ b, f.name.length ≤ 5000 from fun f hf => Nat.le_trans (hnb f hf) (by decide))
      have hb5 : b.length ≤ 5000 := by omega
      clear hnb
      have c5 := H5.out.one.cell
      have z5 := H5.out.one.lt
      by_cases hsl : (bs s).size ≤ 3000
      · have d2 : decide ((3000 : Int) < ((bs s).size : Int)) = false := decide_eq_false (by omega)
        go_wp2_with fail
        refine (factText_any a _ w5 H5.out.sl HNA.out ha5 H5.out.tab).mono ?_
        rintro e w6 ⟨rfl, hb6⟩
        have H6 := hid (H5.out.step hb6)
        have G6 := hid (G5.out.step hb6)
        clear hb6 c5 z5
        have c6 := H6.out.one.cell
        have z6 := H6.out.one.lt
        have HVA := hid (fun w' (H : HdW' w w' w.heap.size (.slice aa a.length ca) a) => factValid_any a _ w' H.sl HNA.out ha5)
        have HTL := hid (Fa.text_len a)
        cases hva : Fa.valid a with
        | false =>
          have htx : bs (Fa.text a) = ⟨#[]⟩ := by rw [text_not hva]; rfl
          rcases hr0 : Fa.parse (Fa.text a) with ⟨x0, er0, p0⟩
          have HPA := hid (fun W => parse_any (Fa.text a) W (by have := HTL.out; omega))
          rw [hr0, htx] at HPA
          rw [htx]
          rw [hva] at HVA
          clear hr0 htx hva
          go_wp2_with fail
          refine (HVA.out w6 H6.out).mono ?_
          rintro e w7 ⟨rfl, hb7⟩
          have H7 := hid (H6.out.step hb7)
          clear hb7 c6 z6
          go_wp2_with fail
          refine (HPA.out w7).mono ?_
          rintro e w8 hp
          obtain ⟨v8, rfl, hs8, hb8⟩ := hp
          obtain ⟨a8, k8, rfl⟩ := hs8.slice
          obtain ⟨W9, hW9⟩ : ∃ W9, W9 = w8.alloc (.cells #[.slice a8 x0.length k8] 24) := ⟨_, rfl⟩
          have hbx : Below w8.heap.size w8 W9 := by rw [hW9]; exact below_new _ _
          have H9 := hid ((H7.out.step hb8).step hbx)
          clear hs8 hb8 hbx
          have HKP : Hid (∀ W, Below W9.heap.size W9 W → W.cell? ⟨w.heap.size, 0, none⟩ = some (.slice aa a.length ca)) := fun W hW => (H9.out.one.below hW).cell
          have HC1 : Hid (∀ W, Below W9.heap.size W9 W → Calls Tryd.prog 11 #[.agg #[.slice aa a.length ca]] W (Upon W9 (.bool false))) := fun W hW => upon (HVA.out W (H9.out.step hW)) hW
          have HD := hid (show Below W9.heap.size W9 W9.drew from (Below.refl _ W9).drew)
          have c9 := H9.out.one.cell
          have z9 := H9.out.one.lt
          go_upto_region 8 with (fail)
          rw [← hW9]
          clear hW9
          refine wp_heldS (S := StillAt W9) (by kernel_rfl) ?_
          simp only [List.size_toArray, List.length_cons, List.length_nil, Nat.reduceAdd]
          intro hc
          have S0 : StillAt W9 (Array.replicate 30 false) W9.drew := HD.out
          refine wpAnyS_take (i := 0) (v := .agg #[.slice aa a.length ca]) rfl (by kernel_rfl) (by kernel_rfl) (by kernel_rfl) (fun _ _ _ h => h) (fun _ _ => Iff.rfl) hc (by first | rfl | simp [Region.wanted]) (fun wx hx => ?_) S0 (fun hc S0 => ?_)
          · have g := (hx.still.cell (p := ⟨w.heap.size, 0, none⟩) z9).trans c9
            go_simp
          try simp only [List.getElem_toArray, List.getElem_cons_zero, Act.put, List.setIfInBounds_toArray, List.set_cons_zero, List.set_cons_succ]
          refine wpAnyS_one (i := 1) rfl (by kernel_rfl) (by rfl) hc (fun K' hK => ?_)
          go_simp
          refine (HC1.out _ HD.out).mono ?_
          rintro e v1 ⟨rfl, hT1⟩
          refine hK.out _ _ hT1 (fun hc => ?_)
          clear hK K'
          have S0 : StillAt W9 #[] v1 := hT1
          try simp only [List.getElem_toArray, List.getElem_cons_succ, List.getElem_cons_zero, Act.put, List.setIfInBounds_toArray, List.set_cons_zero, List.set_cons_succ]
          refine wpAnyS_take (i := 2) (v := .bool false) rfl (by kernel_rfl) (by kernel_rfl) (by kernel_rfl) (fun _ _ _ h => h) (fun _ _ => Iff.rfl) hc (by first | rfl | simp [Region.wanted]) (fun wx hx => ?_) S0 (fun hc S0 => ?_)
          · go_simp
          try simp only [List.getElem_toArray, List.getElem_cons_succ, List.getElem_cons_zero, Act.put, List.setIfInBounds_toArray, List.set_cons_zero, List.set_cons_succ]
          refine wpAnyS_skip (i := 3) rfl (by kernel_rfl) (by kernel_rfl) (by kernel_rfl) (fun _ _ _ h => h) (fun _ _ => Iff.rfl) hc (by rfl) S0 (fun hc S0 => ?_)
          try simp only [List.getElem_toArray, List.getElem_cons_succ, List.getElem_cons_zero, Act.put, List.setIfInBounds_toArray, List.set_cons_zero, List.set_cons_succ]
          refine wpAnyS_skip (i := 4) rfl (by kernel_rfl) (by kernel_rfl) (by kernel_rfl) (fun _ _ _ h => h) (fun _ _ => Iff.rfl) hc (by rfl) S0 (fun hc S0 => ?_)
          try simp only [List.getElem_toArray, List.getElem_cons_succ, List.getElem_cons_zero, Act.put, List.setIfInBounds_toArray, List.set_cons_zero, List.set_cons_succ]
          refine wpAnyS_skip (i := 5) rfl (by kernel_rfl) (by kernel_rfl) (by kernel_rfl) (fun _ _ _ h => h) (fun _ _ => Iff.rfl) hc (by rfl) S0 (fun hc S0 => ?_)
          try simp only [List.getElem_toArray, List.getElem_cons_succ, List.getElem_cons_zero, Act.put, List.setIfInBounds_toArray, List.set_cons_zero, List.set_cons_succ]
          refine wpAnyS_skip (i := 6) rfl (by kernel_rfl) (by kernel_rfl) (by kernel_rfl) (fun _ _ _ h => h) (fun _ _ => Iff.rfl) hc (by rfl) S0 (fun hc S0 => ?_)
          try simp only [List.getElem_toArray, List.getElem_cons_succ, List.getElem_cons_zero, Act.put, List.setIfInBounds_toArray, List.set_cons_zero, List.set_cons_succ]
          refine wpAnyS_skip (i := 7) rfl (by kernel_rfl) (by kernel_rfl) (by kernel_rfl) (fun _ _ _ h => h) (fun _ _ => Iff.rfl) hc (by rfl) S0 (fun hc S0 => ?_)
          try simp only [List.getElem_toArray, List.getElem_cons_succ, List.getElem_cons_zero, Act.put, List.setIfInBounds_toArray, List.set_cons_zero, List.set_cons_succ]
          refine wpAnyS_skip (i := 8) rfl (by kernel_rfl) (by kernel_rfl) (by kernel_rfl) (fun _ _ _ h => h) (fun _ _ => Iff.rfl) hc (by rfl) S0 (fun hc S0 => ?_)
          try simp only [List.getElem_toArray, List.getElem_cons_succ, List.getElem_cons_zero, Act.put, List.setIfInBounds_toArray, List.set_cons_zero, List.set_cons_succ]
          refine wpAnyS_skip (i := 9) rfl (by kernel_rfl) (by kernel_rfl) (by kernel_rfl) (fun _ _ _ h => h) (fun _ _ => Iff.rfl) hc (by rfl) S0 (fun hc S0 => ?_)
          try simp only [List.getElem_toArray, List.getElem_cons_succ, List.getElem_cons_zero, Act.put, List.setIfInBounds_toArray, List.set_cons_zero, List.set_cons_succ]
          refine wpAnyS_skip (i := 10) rfl (by kernel_rfl) (by kernel_rfl) (by kernel_rfl) (fun _ _ _ h => h) (fun _ _ => Iff.rfl) hc (by rfl) S0 (fun hc S0 => ?_)
          try simp only [List.getElem_toArray, List.getElem_cons_succ, List.getElem_cons_zero, Act.put, List.setIfInBounds_toArray, List.set_cons_zero, List.set_cons_succ]
          refine wpAnyS_take (i := 11) (v := .bool false) rfl (by kernel_rfl) (by kernel_rfl) (by kernel_rfl) (fun _ _ _ h => h) (fun _ _ => Iff.rfl) hc (by first | rfl | simp [Region.wanted]) (fun wx hx => ?_) S0 (fun hc S0 => ?_)
          · go_simp
          try simp only [List.getElem_toArray, List.getElem_cons_succ, List.getElem_cons_zero, Act.put, List.setIfInBounds_toArray, List.set_cons_zero, List.set_cons_succ]
          refine wpAnyS_take (i := 12) (v := .bool false) rfl (by kernel_rfl) (by kernel_rfl) (by kernel_rfl) (fun _ _ _ h => h) (fun _ _ => Iff.rfl) hc (by first | rfl | simp [Region.wanted]) (fun wx hx => ?_) S0 (fun hc S0 => ?_)
          · go_simp
          try simp only [List.getElem_toArray, List.getElem_cons_succ, List.getElem_cons_zero, Act.put, List.setIfInBounds_toArray, List.set_cons_zero, List.set_cons_succ]
          refine wpAnyS_take (i := 13) (v := .agg #[.slice aa a.length ca]) rfl (by kernel_rfl) (by kernel_rfl) (by kernel_rfl) (fun _ _ _ h => h) (fun _ _ => Iff.rfl) hc (by first | rfl | simp [Region.wanted]) (fun wx hx => ?_) S0 (fun hc S0 => ?_)
          · have g := (hx.still.cell (p := ⟨w.heap.size, 0, none⟩) z9).trans c9
            go_simp
          try simp only [List.getElem_toArray, List.getElem_cons_succ, List.getElem_cons_zero, Act.put, List.setIfInBounds_toArray, List.set_cons_zero, List.set_cons_succ]
          refine wpAnyS_one (i := 14) rfl (by kernel_rfl) (by rfl) hc (fun K' hK => ?_)
          go_simp
          refine (HC1.out _ hT1).mono ?_
          rintro e v2 ⟨rfl, hT2⟩
          refine hK.out _ _ hT2 (fun hc => ?_)
          clear hK K'
          have S0 : StillAt W9 #[] v2 := hT2
          try simp only [List.getElem_toArray, List.getElem_cons_succ, List.getElem_cons_zero, Act.put, List.setIfInBounds_toArray, List.set_cons_zero, List.set_cons_succ]
          refine wpAnyS_take (i := 15) (v := .bool false) rfl (by kernel_rfl) (by kernel_rfl) (by kernel_rfl) (fun _ _ _ h => h) (fun _ _ => Iff.rfl) hc (by first | rfl | simp [Region.wanted]) (fun wx hx => ?_) S0 (fun hc S0 => ?_)
          · go_simp
          try simp only [List.getElem_toArray, List.getElem_cons_succ, List.getElem_cons_zero, Act.put, List.setIfInBounds_toArray, List.set_cons_zero, List.set_cons_succ]
          refine wpAnyS_skip (i := 16) rfl (by kernel_rfl) (by kernel_rfl) (by kernel_rfl) (fun _ _ _ h => h) (fun _ _ => Iff.rfl) hc (by rfl) S0 (fun hc S0 => ?_)
          try simp only [List.getElem_toArray, List.getElem_cons_succ, List.getElem_cons_zero, Act.put, List.setIfInBounds_toArray, List.set_cons_zero, List.set_cons_succ]
          refine wpAnyS_skip (i := 17) rfl (by kernel_rfl) (by kernel_rfl) (by kernel_rfl) (fun _ _ _ h => h) (fun _ _ => Iff.rfl) hc (by rfl) S0 (fun hc S0 => ?_)
          try simp only [List.getElem_toArray, List.getElem_cons_succ, List.getElem_cons_zero, Act.put, List.setIfInBounds_toArray, List.set_cons_zero, List.set_cons_succ]
          refine wpAnyS_take (i := 18) (v := .bool false) rfl (by kernel_rfl) (by kernel_rfl) (by kernel_rfl) (fun _ _ _ h => h) (fun _ _ => Iff.rfl) hc (by first | rfl | simp [Region.wanted]) (fun wx hx => ?_) S0 (fun hc S0 => ?_)
          · go_simp
          try simp only [List.getElem_toArray, List.getElem_cons_succ, List.getElem_cons_zero, Act.put, List.setIfInBounds_toArray, List.set_cons_zero, List.set_cons_succ]
          refine wpAnyS_take (i := 19) (v := .bool false) rfl (by kernel_rfl) (by kernel_rfl) (by kernel_rfl) (fun _ _ _ h => h) (fun _ _ => Iff.rfl) hc (by first | rfl | simp [Region.wanted]) (fun wx hx => ?_) S0 (fun hc S0 => ?_)
          · go_simp
          try simp only [List.getElem_toArray, List.getElem_cons_succ, List.getElem_cons_zero, Act.put, List.setIfInBounds_toArray, List.set_cons_zero, List.set_cons_succ]
          refine wpAnyS_skip (i := 20) rfl (by kernel_rfl) (by kernel_rfl) (by kernel_rfl) (fun _ _ _ h => h) (fun _ _ => Iff.rfl) hc (by rfl) S0 (fun hc S0 => ?_)
          try simp only [List.getElem_toArray, List.getElem_cons_succ, List.getElem_cons_zero, Act.put, List.setIfInBounds_toArray, List.set_cons_zero, List.set_cons_succ]
          refine wpAnyS_skip (i := 21) rfl (by kernel_rfl) (by kernel_rfl) (by kernel_rfl) (fun _ _ _ h => h) (fun _ _ => Iff.rfl) hc (by rfl) S0 (fun hc S0 => ?_)
          try simp only [List.getElem_toArray, List.getElem_cons_succ, List.getElem_cons_zero, Act.put, List.setIfInBounds_toArray, List.set_cons_zero, List.set_cons_succ]
          refine wpAnyS_skip (i := 22) rfl (by kernel_rfl) (by kernel_rfl) (by kernel_rfl) (fun _ _ _ h => h) (fun _ _ => Iff.rfl) hc (by rfl) S0 (fun hc S0 => ?_)
          try simp only [List.getElem_toArray, List.getElem_cons_succ, List.getElem_cons_zero, Act.put, List.setIfInBounds_toArray, List.set_cons_zero, List.set_cons_succ]
          refine wpAnyS_skip (i := 23) rfl (by kernel_rfl) (by kernel_rfl) (by kernel_rfl) (fun _ _ _ h => h) (fun _ _ => Iff.rfl) hc (by rfl) S0 (fun hc S0 => ?_)
          try simp only [List.getElem_toArray, List.getElem_cons_succ, List.getElem_cons_zero, Act.put, List.setIfInBounds_toArray, List.set_cons_zero, List.set_cons_succ]
          refine wpAnyS_skip (i := 24) rfl (by kernel_rfl) (by kernel_rfl) (by kernel_rfl) (fun _ _ _ h => h) (fun _ _ => Iff.rfl) hc (by rfl) S0 (fun hc S0 => ?_)
          try simp only [List.getElem_toArray, List.getElem_cons_succ, List.getElem_cons_zero, Act.put, List.setIfInBounds_toArray, List.set_cons_zero, List.set_cons_succ]
          refine wpAnyS_skip (i := 25) rfl (by kernel_rfl) (by kernel_rfl) (by kernel_rfl) (fun _ _ _ h => h) (fun _ _ => Iff.rfl) hc (by rfl) S0 (fun hc S0 => ?_)
          try simp only [List.getElem_toArray, List.getElem_cons_succ, List.getElem_cons_zero, Act.put, List.setIfInBounds_toArray, List.set_cons_zero, List.set_cons_succ]
          refine wpAnyS_skip (i := 26) rfl (by kernel_rfl) (by kernel_rfl) (by kernel_rfl) (fun _ _ _ h => h) (fun _ _ => Iff.rfl) hc (by rfl) S0 (fun hc S0 => ?_)
          try simp only [List.getElem_toArray, List.getElem_cons_succ, List.getElem_cons_zero, Act.put, List.setIfInBounds_toArray, List.set_cons_zero, List.set_cons_succ]
          refine wpAnyS_skip (i := 27) rfl (by kernel_rfl) (by kernel_rfl) (by kernel_rfl) (fun _ _ _ h => h) (fun _ _ => Iff.rfl) hc (by rfl) S0 (fun hc S0 => ?_)
          try simp only [List.getElem_toArray, List.getElem_cons_succ, List.getElem_cons_zero, Act.put, List.setIfInBounds_toArray, List.set_cons_zero, List.set_cons_succ]
          refine wpAnyS_take (i := 28) (v := .bool false) rfl (by kernel_rfl) (by kernel_rfl) (by kernel_rfl) (fun _ _ _ h => h) (fun _ _ => Iff.rfl) hc (by first | rfl | simp [Region.wanted]) (fun wx hx => ?_) S0 (fun hc S0 => ?_)
          · go_simp
          try simp only [List.getElem_toArray, List.getElem_cons_succ, List.getElem_cons_zero, Act.put, List.setIfInBounds_toArray, List.set_cons_zero, List.set_cons_succ]
          refine wpAnyS_take (i := 29) (v := .bool false) rfl (by kernel_rfl) (by kernel_rfl) (by kernel_rfl) (fun _ _ _ h => h) (fun _ _ => Iff.rfl) hc (by first | rfl | simp [Region.wanted]) (fun wx hx => ?_) S0 (fun hc S0 => ?_)
          · go_simp
          try simp only [List.getElem_toArray, List.getElem_cons_succ, List.getElem_cons_zero, Act.put, List.setIfInBounds_toArray, List.set_cons_zero, List.set_cons_succ]
          refine wpAnyS_done (by kernel_rfl) ?_ _
          clear hc S0
          have H13 := hid (H9.out.step hT2)
          clear hT1 hT2 c9 z9
          have ct := H13.out.one.cell
          rcases hr : Fa.parse s with ⟨c, er, p⟩
          have ho := Fa.parse_out (s := s) (by have := HSZ.out; omega)
          rw [hr] at ho
          have HO := hid ho
          have HPC := hid (parse_any s v2 (by have := HSZ.out; omega))
          rw [hr] at HPC
          clear hr ho ct
          by_cases he : er = 0
          · subst he
            have HO2 := hid (HO.out.2 rfl)
            obtain rfl : p = 0 := HO2.out.2
            have hv2 := Fa.valid_parts' HO2.out.1
            go_wp2_with fail
            refine (HPC.out).mono ?_
            rintro e wa hp
            obtain ⟨va8, rfl, hsa0, hba⟩ := hp
            obtain ⟨aa8, ka8, rfl⟩ := hsa0.slice
            have HTa := hid (H13.out.step hba)
            obtain ⟨WX, hWX⟩ : ∃ WX, WX = wa.alloc (.cells #[.slice aa8 c.length ka8] 24) := ⟨_, rfl⟩
            have hbx : Below wa.heap.size wa WX := by rw [hWX]; exact below_new _ _
            have HX := hid (HTa.out.step hbx)
            have HSX := hid (hsa0.slOf.below hbx)
            have cx : One WX wa.heap.size 24 (.slice aa8 c.length ka8) := by rw [hWX]; exact One.new _ _ _
            have c8 := cx.cell
            have z8 := cx.lt
            clear hsa0 hba hbx cx
            go_upto_region 11 with (fail)
            rw [← hWX]
            clear hWX
            go_wp2_with fail
            refine (factValid_any c _ WX HSX.out hv2.1 hv2.2).mono ?_
            rw [HO2.out.1]
            rintro e wb ⟨rfl, hbb⟩
            go_wp2_with fail
            go_ret
            exact ⟨rfl, Below.step HX.out.below hbb⟩
          · have hne : (er != 0) = true := by rw [bne_iff_ne]; exact he
            obtain ⟨q1, q2⟩ := HO.out.1 he
            obtain rfl : c = [] := q1
            have q3 : decide (p ≤ ((bs s).size : Int)) = true := decide_eq_true (by have := HSZ.out; have q4 : p ≤ (s.length : Int) := q2; omega)
            clear he
            go_wp2_with fail
            refine (HPC.out).mono ?_
            rintro e wa hp
            obtain ⟨va8, rfl, hsa0, hba⟩ := hp
            obtain ⟨aa8, ka8, rfl⟩ := hsa0.slice
            have HBa := hid (Below.step H13.out.below hba)
            clear hsa0 hba
            go_wp2_with fail
            go_ret
            exact ⟨rfl, Below.step HBa.out (below_new _ _)⟩
        | true =>
          have hpt := Fa.parse_text hva
          rw [hva] at HVA
          have HV := hid hva
          obtain ⟨q, hq⟩ : ∃ q, q = decide (a.length = 0) := ⟨_, rfl⟩
          have hte : (bs (Fa.text a)).toList.isEmpty = q := by
            rw [hq, Bool.eq_iff_iff]
            simp only [List.isEmpty_iff, decide_eq_true_eq]
            rw [ByteArray.toList_eq]
            exact text_empty hva
          have hae : ((a.length : Int) == 0) = q := by
            rw [hq, Bool.eq_iff_iff, beq_iff_eq, decide_eq_true_eq]
            omega
          have hqq : (q != q) = false := by cases q <;> rfl
          clear hq hva
          have HPA := hid (fun W => parse_any (Fa.text a) W (by have := HTL.out; omega))
          rw [hpt] at HPA
          clear hpt
          go_wp2_with fail
          refine (HVA.out w6 H6.out).mono ?_
          rintro e w7 ⟨rfl, hb7⟩
          have H7 := hid (H6.out.step hb7)
          have G7 := hid (G6.out.step hb7)
          clear hb7 c6 z6
          have c7 := H7.out.one.cell
          have z7 := H7.out.one.lt
          go_wp2_with fail
          refine (HPA.out w7).mono ?_
          rintro e w8 hp
          obtain ⟨v8, rfl, hs8, hb8⟩ := hp
          obtain ⟨a8, k8, rfl⟩ := hs8.slice
          obtain ⟨W9, hW9⟩ : ∃ W9, W9 = w8.alloc (.cells #[.slice a8 a.length k8] 24) := ⟨_, rfl⟩
          have hbx : Below w8.heap.size w8 W9 := by rw [hW9]; exact below_new _ _
          have H9 := hid ((H7.out.step hb8).step hbx)
          have G9 := hid ((G7.out.step hb8).step hbx)
          have X9 := hid (show HdW' w8 W9 w8.heap.size (.slice a8 a.length k8) a from ⟨by rw [hW9]; exact One.new _ _ _, hs8.slOf.below hbx, H9.out.tab, hbx⟩)
          clear hs8 hb8 hbx c7 z7
          have HKP : Hid (∀ W, Below W9.heap.size W9 W → W.cell? ⟨w.heap.size, 0, none⟩ = some (.slice aa a.length ca) ∧ W.cell? ⟨w.heap.size + 1, 0, none⟩ = some (.slice ab b.length cb) ∧ W.cell? ⟨w8.heap.size, 0, none⟩ = some (.slice a8 a.length k8)) := fun W hW => ⟨(H9.out.one.below hW).cell, (G9.out.one.below hW).cell, (X9.out.one.below hW).cell⟩
          have HC1 : Hid (∀ W, Below W9.heap.size W9 W → Calls Tryd.prog 11 #[.agg #[.slice aa a.length ca]] W (Upon W9 (.bool true))) := fun W hW => upon (HVA.out W (H9.out.step hW)) hW
          have HC2 : Hid (∀ W, Below W9.heap.size W9 W → Calls Tryd.prog 13 #[.agg #[.slice a8 a.length k8], .agg #[.slice aa a.length ca]] W (Upon W9 (.bool true))) := fun W hW => by
            have h := same_any a a _ _ W (X9.out.step hW).sl (H9.out.step hW).sl
            rw [decide_eq_true rfl] at h
            exact upon h hW
          have HC3 : Hid (∀ W, Below W9.heap.size W9 W → Calls Tryd.prog 11 #[.agg #[.slice ab b.length cb]] W (Upon W9 (.bool (Fa.valid b)))) := fun W hW => upon (factValid_any b _ W (G9.out.step hW).sl HNB.out hb5) hW
          have HD := hid (show Below W9.heap.size W9 W9.drew from (Below.refl _ W9).drew)
          have c9 := H9.out.one.cell
          have z9 := H9.out.one.lt
          have d9 := G9.out.one.cell
          have y9 := G9.out.one.lt
          have x9 := X9.out.one.cell
          have t9 := X9.out.one.lt
          go_upto_region 8 with (fail)
          rw [← hW9]
          clear hW9 hae hqq
          cases hvb : Fa.valid b with
          | false =>
            rw [hvb] at HC3
            clear hte hvb
            refine wp_heldS (S := StillAt W9) (by kernel_rfl) ?_
            simp only [List.size_toArray, List.length_cons, List.length_nil, Nat.reduceAdd]
            intro hc
            have S0 : StillAt W9 (Array.replicate 30 false) W9.drew := HD.out
            refine wpAnyS_take (i := 0) (v := .agg #[.slice aa a.length ca]) rfl (by kernel_rfl) (by kernel_rfl) (by kernel_rfl) (fun _ _ _ h => h) (fun _ _ => Iff.rfl) hc (by first | rfl | simp [Region.wanted]) (fun wx hx => ?_) S0 (fun hc S0 => ?_)
            · have g := (hx.still.cell (p := ⟨w.heap.size, 0, none⟩) z9).trans c9
              go_simp
            try simp only [List.getElem_toArray, List.getElem_cons_zero, Act.put, List.setIfInBounds_toArray, List.set_cons_zero, List.set_cons_succ]
            refine wpAnyS_one (i := 1) rfl (by kernel_rfl) (by rfl) hc (fun K' hK => ?_)
            go_simp
            refine (HC1.out _ HD.out).mono ?_
            rintro e v1 ⟨rfl, hT1⟩
            refine hK.out _ _ hT1 (fun hc => ?_)
            clear hK K'
            have S0 : StillAt W9 #[] v1 := hT1
            try simp only [List.getElem_toArray, List.getElem_cons_succ, List.getElem_cons_zero, Act.put, List.setIfInBounds_toArray, List.set_cons_zero, List.set_cons_succ]
            refine wpAnyS_take (i := 2) (v := .bool true) rfl (by kernel_rfl) (by kernel_rfl) (by kernel_rfl) (fun _ _ _ h => h) (fun _ _ => Iff.rfl) hc (by first | rfl | simp [Region.wanted]) (fun wx hx => ?_) S0 (fun hc S0 => ?_)
            · go_simp
            try simp only [List.getElem_toArray, List.getElem_cons_succ, List.getElem_cons_zero, Act.put, List.setIfInBounds_toArray, List.set_cons_zero, List.set_cons_succ]
            refine wpAnyS_take (i := 3) (v := .int .i64 0) rfl (by kernel_rfl) (by kernel_rfl) (by kernel_rfl) (fun _ _ _ h => h) (fun _ _ => Iff.rfl) hc (by first | rfl | simp [Region.wanted]) (fun wx hx => ?_) S0 (fun hc S0 => ?_)
            · go_simp
            try simp only [List.getElem_toArray, List.getElem_cons_succ, List.getElem_cons_zero, Act.put, List.setIfInBounds_toArray, List.set_cons_zero, List.set_cons_succ]
            refine wpAnyS_take (i := 4) (v := .bool false) rfl (by kernel_rfl) (by kernel_rfl) (by kernel_rfl) (fun _ _ _ h => h) (fun _ _ => Iff.rfl) hc (by first | rfl | simp [Region.wanted]) (fun wx hx => ?_) S0 (fun hc S0 => ?_)
            · go_simp
            try simp only [List.getElem_toArray, List.getElem_cons_succ, List.getElem_cons_zero, Act.put, List.setIfInBounds_toArray, List.set_cons_zero, List.set_cons_succ]
            refine wpAnyS_take (i := 5) (v := .bool false) rfl (by kernel_rfl) (by kernel_rfl) (by kernel_rfl) (fun _ _ _ h => h) (fun _ _ => Iff.rfl) hc (by first | rfl | simp [Region.wanted]) (fun wx hx => ?_) S0 (fun hc S0 => ?_)
            · go_simp
            try simp only [List.getElem_toArray, List.getElem_cons_succ, List.getElem_cons_zero, Act.put, List.setIfInBounds_toArray, List.set_cons_zero, List.set_cons_succ]
            refine wpAnyS_take (i := 6) (v := .agg #[.slice a8 a.length k8]) rfl (by kernel_rfl) (by kernel_rfl) (by kernel_rfl) (fun _ _ _ h => h) (fun _ _ => Iff.rfl) hc (by first | rfl | simp [Region.wanted]) (fun wx hx => ?_) S0 (fun hc S0 => ?_)
            · have g := (hx.still.cell (p := ⟨w8.heap.size, 0, none⟩) t9).trans x9
              go_simp
            try simp only [List.getElem_toArray, List.getElem_cons_succ, List.getElem_cons_zero, Act.put, List.setIfInBounds_toArray, List.set_cons_zero, List.set_cons_succ]
            refine wpAnyS_take (i := 7) (v := .agg #[.slice aa a.length ca]) rfl (by kernel_rfl) (by kernel_rfl) (by kernel_rfl) (fun _ _ _ h => h) (fun _ _ => Iff.rfl) hc (by first | rfl | simp [Region.wanted]) (fun wx hx => ?_) S0 (fun hc S0 => ?_)
            · have g := (hx.still.cell (p := ⟨w.heap.size, 0, none⟩) z9).trans c9
              go_simp
            try simp only [List.getElem_toArray, List.getElem_cons_succ, List.getElem_cons_zero, Act.put, List.setIfInBounds_toArray, List.set_cons_zero, List.set_cons_succ]
            refine wpAnyS_one (i := 8) rfl (by kernel_rfl) (by rfl) hc (fun K' hK => ?_)
            go_simp
            refine (HC2.out _ hT1).mono ?_
            rintro e v2 ⟨rfl, hT2⟩
            refine hK.out _ _ hT2 (fun hc => ?_)
            clear hK K'
            have S0 : StillAt W9 #[] v2 := hT2
            try simp only [List.getElem_toArray, List.getElem_cons_succ, List.getElem_cons_zero, Act.put, List.setIfInBounds_toArray, List.set_cons_zero, List.set_cons_succ]
            refine wpAnyS_take (i := 9) (v := .bool false) rfl (by kernel_rfl) (by kernel_rfl) (by kernel_rfl) (fun _ _ _ h => h) (fun _ _ => Iff.rfl) hc (by first | rfl | simp [Region.wanted]) (fun wx hx => ?_) S0 (fun hc S0 => ?_)
            · go_simp
            try simp only [List.getElem_toArray, List.getElem_cons_succ, List.getElem_cons_zero, Act.put, List.setIfInBounds_toArray, List.set_cons_zero, List.set_cons_succ]
            refine wpAnyS_take (i := 10) (v := .bool false) rfl (by kernel_rfl) (by kernel_rfl) (by kernel_rfl) (fun _ _ _ h => h) (fun _ _ => Iff.rfl) hc (by first | rfl | simp [Region.wanted]) (fun wx hx => ?_) S0 (fun hc S0 => ?_)
            · go_simp
            try simp only [List.getElem_toArray, List.getElem_cons_succ, List.getElem_cons_zero, Act.put, List.setIfInBounds_toArray, List.set_cons_zero, List.set_cons_succ]
            refine wpAnyS_take (i := 11) (v := .bool false) rfl (by kernel_rfl) (by kernel_rfl) (by kernel_rfl) (fun _ _ _ h => h) (fun _ _ => Iff.rfl) hc (by first | rfl | simp [Region.wanted]) (fun wx hx => ?_) S0 (fun hc S0 => ?_)
            · go_simp
            try simp only [List.getElem_toArray, List.getElem_cons_succ, List.getElem_cons_zero, Act.put, List.setIfInBounds_toArray, List.set_cons_zero, List.set_cons_succ]
            refine wpAnyS_take (i := 12) (v := .bool false) rfl (by kernel_rfl) (by kernel_rfl) (by kernel_rfl) (fun _ _ _ h => h) (fun _ _ => Iff.rfl) hc (by first | rfl | simp [Region.wanted]) (fun wx hx => ?_) S0 (fun hc S0 => ?_)
            · go_simp
            try simp only [List.getElem_toArray, List.getElem_cons_succ, List.getElem_cons_zero, Act.put, List.setIfInBounds_toArray, List.set_cons_zero, List.set_cons_succ]
            refine wpAnyS_take (i := 13) (v := .agg #[.slice aa a.length ca]) rfl (by kernel_rfl) (by kernel_rfl) (by kernel_rfl) (fun _ _ _ h => h) (fun _ _ => Iff.rfl) hc (by first | rfl | simp [Region.wanted]) (fun wx hx => ?_) S0 (fun hc S0 => ?_)
            · have g := (hx.still.cell (p := ⟨w.heap.size, 0, none⟩) z9).trans c9
              go_simp
            try simp only [List.getElem_toArray, List.getElem_cons_succ, List.getElem_cons_zero, Act.put, List.setIfInBounds_toArray, List.set_cons_zero, List.set_cons_succ]
            refine wpAnyS_one (i := 14) rfl (by kernel_rfl) (by rfl) hc (fun K' hK => ?_)
            go_simp
            refine (HC1.out _ hT2).mono ?_
            rintro e v3 ⟨rfl, hT3⟩
            refine hK.out _ _ hT3 (fun hc => ?_)
            clear hK K'
            have S0 : StillAt W9 #[] v3 := hT3
            try simp only [List.getElem_toArray, List.getElem_cons_succ, List.getElem_cons_zero, Act.put, List.setIfInBounds_toArray, List.set_cons_zero, List.set_cons_succ]
            refine wpAnyS_take (i := 15) (v := .bool true) rfl (by kernel_rfl) (by kernel_rfl) (by kernel_rfl) (fun _ _ _ h => h) (fun _ _ => Iff.rfl) hc (by first | rfl | simp [Region.wanted]) (fun wx hx => ?_) S0 (fun hc S0 => ?_)
            · go_simp
            try simp only [List.getElem_toArray, List.getElem_cons_succ, List.getElem_cons_zero, Act.put, List.setIfInBounds_toArray, List.set_cons_zero, List.set_cons_succ]
            refine wpAnyS_take (i := 16) (v := .agg #[.slice ab b.length cb]) rfl (by kernel_rfl) (by kernel_rfl) (by kernel_rfl) (fun _ _ _ h => h) (fun _ _ => Iff.rfl) hc (by first | rfl | simp [Region.wanted]) (fun wx hx => ?_) S0 (fun hc S0 => ?_)
            · have g := (hx.still.cell (p := ⟨w.heap.size + 1, 0, none⟩) y9).trans d9
              go_simp
            try simp only [List.getElem_toArray, List.getElem_cons_succ, List.getElem_cons_zero, Act.put, List.setIfInBounds_toArray, List.set_cons_zero, List.set_cons_succ]
            refine wpAnyS_one (i := 17) rfl (by kernel_rfl) (by rfl) hc (fun K' hK => ?_)
            go_simp
            refine (HC3.out _ hT3).mono ?_
            rintro e v4 ⟨rfl, hT4⟩
            refine hK.out _ _ hT4 (fun hc => ?_)
            clear hK K'
            have S0 : StillAt W9 #[] v4 := hT4
            try simp only [List.getElem_toArray, List.getElem_cons_succ, List.getElem_cons_zero, Act.put, List.setIfInBounds_toArray, List.set_cons_zero, List.set_cons_succ]
            refine wpAnyS_take (i := 18) (v := .bool false) rfl (by kernel_rfl) (by kernel_rfl) (by kernel_rfl) (fun _ _ _ h => h) (fun _ _ => Iff.rfl) hc (by first | rfl | simp [Region.wanted]) (fun wx hx => ?_) S0 (fun hc S0 => ?_)
            · go_simp
            try simp only [List.getElem_toArray, List.getElem_cons_succ, List.getElem_cons_zero, Act.put, List.setIfInBounds_toArray, List.set_cons_zero, List.set_cons_succ]
            refine wpAnyS_take (i := 19) (v := .bool false) rfl (by kernel_rfl) (by kernel_rfl) (by kernel_rfl) (fun _ _ _ h => h) (fun _ _ => Iff.rfl) hc (by first | rfl | simp [Region.wanted]) (fun wx hx => ?_) S0 (fun hc S0 => ?_)
            · go_simp
            try simp only [List.getElem_toArray, List.getElem_cons_succ, List.getElem_cons_zero, Act.put, List.setIfInBounds_toArray, List.set_cons_zero, List.set_cons_succ]
            refine wpAnyS_skip (i := 20) rfl (by kernel_rfl) (by kernel_rfl) (by kernel_rfl) (fun _ _ _ h => h) (fun _ _ => Iff.rfl) hc (by rfl) S0 (fun hc S0 => ?_)
            try simp only [List.getElem_toArray, List.getElem_cons_succ, List.getElem_cons_zero, Act.put, List.setIfInBounds_toArray, List.set_cons_zero, List.set_cons_succ]
            refine wpAnyS_skip (i := 21) rfl (by kernel_rfl) (by kernel_rfl) (by kernel_rfl) (fun _ _ _ h => h) (fun _ _ => Iff.rfl) hc (by rfl) S0 (fun hc S0 => ?_)
            try simp only [List.getElem_toArray, List.getElem_cons_succ, List.getElem_cons_zero, Act.put, List.setIfInBounds_toArray, List.set_cons_zero, List.set_cons_succ]
            refine wpAnyS_skip (i := 22) rfl (by kernel_rfl) (by kernel_rfl) (by kernel_rfl) (fun _ _ _ h => h) (fun _ _ => Iff.rfl) hc (by rfl) S0 (fun hc S0 => ?_)
            try simp only [List.getElem_toArray, List.getElem_cons_succ, List.getElem_cons_zero, Act.put, List.setIfInBounds_toArray, List.set_cons_zero, List.set_cons_succ]
            refine wpAnyS_skip (i := 23) rfl (by kernel_rfl) (by kernel_rfl) (by kernel_rfl) (fun _ _ _ h => h) (fun _ _ => Iff.rfl) hc (by rfl) S0 (fun hc S0 => ?_)
            try simp only [List.getElem_toArray, List.getElem_cons_succ, List.getElem_cons_zero, Act.put, List.setIfInBounds_toArray, List.set_cons_zero, List.set_cons_succ]
            refine wpAnyS_skip (i := 24) rfl (by kernel_rfl) (by kernel_rfl) (by kernel_rfl) (fun _ _ _ h => h) (fun _ _ => Iff.rfl) hc (by rfl) S0 (fun hc S0 => ?_)
            try simp only [List.getElem_toArray, List.getElem_cons_succ, List.getElem_cons_zero, Act.put, List.setIfInBounds_toArray, List.set_cons_zero, List.set_cons_succ]
            refine wpAnyS_skip (i := 25) rfl (by kernel_rfl) (by kernel_rfl) (by kernel_rfl) (fun _ _ _ h => h) (fun _ _ => Iff.rfl) hc (by rfl) S0 (fun hc S0 => ?_)
            try simp only [List.getElem_toArray, List.getElem_cons_succ, List.getElem_cons_zero, Act.put, List.setIfInBounds_toArray, List.set_cons_zero, List.set_cons_succ]
            refine wpAnyS_skip (i := 26) rfl (by kernel_rfl) (by kernel_rfl) (by kernel_rfl) (fun _ _ _ h => h) (fun _ _ => Iff.rfl) hc (by rfl) S0 (fun hc S0 => ?_)
            try simp only [List.getElem_toArray, List.getElem_cons_succ, List.getElem_cons_zero, Act.put, List.setIfInBounds_toArray, List.set_cons_zero, List.set_cons_succ]
            refine wpAnyS_skip (i := 27) rfl (by kernel_rfl) (by kernel_rfl) (by kernel_rfl) (fun _ _ _ h => h) (fun _ _ => Iff.rfl) hc (by rfl) S0 (fun hc S0 => ?_)
            try simp only [List.getElem_toArray, List.getElem_cons_succ, List.getElem_cons_zero, Act.put, List.setIfInBounds_toArray, List.set_cons_zero, List.set_cons_succ]
            refine wpAnyS_take (i := 28) (v := .bool false) rfl (by kernel_rfl) (by kernel_rfl) (by kernel_rfl) (fun _ _ _ h => h) (fun _ _ => Iff.rfl) hc (by first | rfl | simp [Region.wanted]) (fun wx hx => ?_) S0 (fun hc S0 => ?_)
            · go_simp
            try simp only [List.getElem_toArray, List.getElem_cons_succ, List.getElem_cons_zero, Act.put, List.setIfInBounds_toArray, List.set_cons_zero, List.set_cons_succ]
            refine wpAnyS_take (i := 29) (v := .bool false) rfl (by kernel_rfl) (by kernel_rfl) (by kernel_rfl) (fun _ _ _ h => h) (fun _ _ => Iff.rfl) hc (by first | rfl | simp [Region.wanted]) (fun wx hx => ?_) S0 (fun hc S0 => ?_)
            · go_simp
            try simp only [List.getElem_toArray, List.getElem_cons_succ, List.getElem_cons_zero, Act.put, List.setIfInBounds_toArray, List.set_cons_zero, List.set_cons_succ]
            refine wpAnyS_done (by kernel_rfl) ?_ _
            clear hc S0
            have H14 := hid (H9.out.step hT4)
            clear hT1 hT2 hT3 hT4 c9 z9 d9 y9 x9 t9
            have ct := H14.out.one.cell
            rcases hr : Fa.parse s with ⟨c, er, p⟩
            have ho := Fa.parse_out (s := s) (by have := HSZ.out; omega)
            rw [hr] at ho
            have HO := hid ho
            have HPC := hid (parse_any s v4 (by have := HSZ.out; omega))
            rw [hr] at HPC
            clear hr ho ct
            by_cases he : er = 0
            · subst he
              have HO2 := hid (HO.out.2 rfl)
              obtain rfl : p = 0 := HO2.out.2
              have hv2 := Fa.valid_parts' HO2.out.1
              go_wp2_with fail
              refine (HPC.out).mono ?_
              rintro e wa hp
              obtain ⟨va8, rfl, hsa0, hba⟩ := hp
              obtain ⟨aa8, ka8, rfl⟩ := hsa0.slice
              have HTa := hid (H14.out.step hba)
              obtain ⟨WX, hWX⟩ : ∃ WX, WX = wa.alloc (.cells #[.slice aa8 c.length ka8] 24) := ⟨_, rfl⟩
              have hbx : Below wa.heap.size wa WX := by rw [hWX]; exact below_new _ _
              have HX := hid (HTa.out.step hbx)
              have HSX := hid (hsa0.slOf.below hbx)
              have cx : One WX wa.heap.size 24 (.slice aa8 c.length ka8) := by rw [hWX]; exact One.new _ _ _
              have c8 := cx.cell
              have z8 := cx.lt
              clear hsa0 hba hbx cx
              go_upto_region 11 with (fail)
              rw [← hWX]
              clear hWX
              go_wp2_with fail
              refine (factValid_any c _ WX HSX.out hv2.1 hv2.2).mono ?_
              rw [HO2.out.1]
              rintro e wb ⟨rfl, hbb⟩
              go_wp2_with fail
              go_ret
              exact ⟨rfl, Below.step HX.out.below hbb⟩
            · have hne : (er != 0) = true := by rw [bne_iff_ne]; exact he
              obtain ⟨q1, q2⟩ := HO.out.1 he
              obtain rfl : c = [] := q1
              have q3 : decide (p ≤ ((bs s).size : Int)) = true := decide_eq_true (by have := HSZ.out; have q4 : p ≤ (s.length : Int) := q2; omega)
              clear he
              go_wp2_with fail
              refine (HPC.out).mono ?_
              rintro e wa hp
              obtain ⟨va8, rfl, hsa0, hba⟩ := hp
              obtain ⟨aa8, ka8, rfl⟩ := hsa0.slice
              have HBa := hid (Below.step H14.out.below hba)
              clear hsa0 hba
              go_wp2_with fail
              go_ret
              exact ⟨rfl, Below.step HBa.out (below_new _ _)⟩
          | true =>
            rw [hvb] at HC3
            obtain ⟨u, hu⟩ : ∃ u, u = decide (a = b) := ⟨_, rfl⟩
            have hqt : ((bs (Fa.text a)).toList == (bs (Fa.text b)).toList) = u := by
              rw [name_beq, hu, decide_eq_decide]
              exact ⟨fun e => Fa.text_inj HV.out hvb e, fun e => by rw [e]⟩
            have HC4 : Hid (∀ W, Below W9.heap.size W9 W → Calls Tryd.prog 10 #[.agg #[.slice ab b.length cb]] W (Upon W9 (.string (bs (Fa.text b))))) := fun W hW => upon (factText_any b _ W (G9.out.step hW).sl HNB.out hb5 (G9.out.step hW).tab) hW
            have HC5 : Hid (∀ W, Below W9.heap.size W9 W → Calls Tryd.prog 13 #[.agg #[.slice aa a.length ca], .agg #[.slice ab b.length cb]] W (Upon W9 (.bool u))) := fun W hW => by
              rw [hu]
              exact upon (same_any a b _ _ W (H9.out.step hW).sl (G9.out.step hW).sl) hW
            have huu : (u != u) = false := by cases u <;> rfl
            clear hu hvb hte
            refine wp_heldS (S := StillAt W9) (by kernel_rfl) ?_
            simp only [List.size_toArray, List.length_cons, List.length_nil, Nat.reduceAdd]
            intro hc
            have S0 : StillAt W9 (Array.replicate 30 false) W9.drew := HD.out
            refine wpAnyS_take (i := 0) (v := .agg #[.slice aa a.length ca]) rfl (by kernel_rfl) (by kernel_rfl) (by kernel_rfl) (fun _ _ _ h => h) (fun _ _ => Iff.rfl) hc (by first | rfl | simp [Region.wanted]) (fun wx hx => ?_) S0 (fun hc S0 => ?_)
            · have g := (hx.still.cell (p := ⟨w.heap.size, 0, none⟩) z9).trans c9
              go_simp
            try simp only [List.getElem_toArray, List.getElem_cons_zero, Act.put, List.setIfInBounds_toArray, List.set_cons_zero, List.set_cons_succ]
            refine wpAnyS_one (i := 1) rfl (by kernel_rfl) (by rfl) hc (fun K' hK => ?_)
            go_simp
            refine (HC1.out _ HD.out).mono ?_
            rintro e v1 ⟨rfl, hT1⟩
            refine hK.out _ _ hT1 (fun hc => ?_)
            clear hK K'
            have S0 : StillAt W9 #[] v1 := hT1
            try simp only [List.getElem_toArray, List.getElem_cons_succ, List.getElem_cons_zero, Act.put, List.setIfInBounds_toArray, List.set_cons_zero, List.set_cons_succ]
            refine wpAnyS_take (i := 2) (v := .bool true) rfl (by kernel_rfl) (by kernel_rfl) (by kernel_rfl) (fun _ _ _ h => h) (fun _ _ => Iff.rfl) hc (by first | rfl | simp [Region.wanted]) (fun wx hx => ?_) S0 (fun hc S0 => ?_)
            · go_simp
            try simp only [List.getElem_toArray, List.getElem_cons_succ, List.getElem_cons_zero, Act.put, List.setIfInBounds_toArray, List.set_cons_zero, List.set_cons_succ]
            refine wpAnyS_take (i := 3) (v := .int .i64 0) rfl (by kernel_rfl) (by kernel_rfl) (by kernel_rfl) (fun _ _ _ h => h) (fun _ _ => Iff.rfl) hc (by first | rfl | simp [Region.wanted]) (fun wx hx => ?_) S0 (fun hc S0 => ?_)
            · go_simp
            try simp only [List.getElem_toArray, List.getElem_cons_succ, List.getElem_cons_zero, Act.put, List.setIfInBounds_toArray, List.set_cons_zero, List.set_cons_succ]
            refine wpAnyS_take (i := 4) (v := .bool false) rfl (by kernel_rfl) (by kernel_rfl) (by kernel_rfl) (fun _ _ _ h => h) (fun _ _ => Iff.rfl) hc (by first | rfl | simp [Region.wanted]) (fun wx hx => ?_) S0 (fun hc S0 => ?_)
            · go_simp
            try simp only [List.getElem_toArray, List.getElem_cons_succ, List.getElem_cons_zero, Act.put, List.setIfInBounds_toArray, List.set_cons_zero, List.set_cons_succ]
            refine wpAnyS_take (i := 5) (v := .bool false) rfl (by kernel_rfl) (by kernel_rfl) (by kernel_rfl) (fun _ _ _ h => h) (fun _ _ => Iff.rfl) hc (by first | rfl | simp [Region.wanted]) (fun wx hx => ?_) S0 (fun hc S0 => ?_)
            · go_simp
            try simp only [List.getElem_toArray, List.getElem_cons_succ, List.getElem_cons_zero, Act.put, List.setIfInBounds_toArray, List.set_cons_zero, List.set_cons_succ]
            refine wpAnyS_take (i := 6) (v := .agg #[.slice a8 a.length k8]) rfl (by kernel_rfl) (by kernel_rfl) (by kernel_rfl) (fun _ _ _ h => h) (fun _ _ => Iff.rfl) hc (by first | rfl | simp [Region.wanted]) (fun wx hx => ?_) S0 (fun hc S0 => ?_)
            · have g := (hx.still.cell (p := ⟨w8.heap.size, 0, none⟩) t9).trans x9
              go_simp
            try simp only [List.getElem_toArray, List.getElem_cons_succ, List.getElem_cons_zero, Act.put, List.setIfInBounds_toArray, List.set_cons_zero, List.set_cons_succ]
            refine wpAnyS_take (i := 7) (v := .agg #[.slice aa a.length ca]) rfl (by kernel_rfl) (by kernel_rfl) (by kernel_rfl) (fun _ _ _ h => h) (fun _ _ => Iff.rfl) hc (by first | rfl | simp [Region.wanted]) (fun wx hx => ?_) S0 (fun hc S0 => ?_)
            · have g := (hx.still.cell (p := ⟨w.heap.size, 0, none⟩) z9).trans c9
              go_simp
            try simp only [List.getElem_toArray, List.getElem_cons_succ, List.getElem_cons_zero, Act.put, List.setIfInBounds_toArray, List.set_cons_zero, List.set_cons_succ]
            refine wpAnyS_one (i := 8) rfl (by kernel_rfl) (by rfl) hc (fun K' hK => ?_)
            go_simp
            refine (HC2.out _ hT1).mono ?_
            rintro e v2 ⟨rfl, hT2⟩
            refine hK.out _ _ hT2 (fun hc => ?_)
            clear hK K'
            have S0 : StillAt W9 #[] v2 := hT2
            try simp only [List.getElem_toArray, List.getElem_cons_succ, List.getElem_cons_zero, Act.put, List.setIfInBounds_toArray, List.set_cons_zero, List.set_cons_succ]
            refine wpAnyS_take (i := 9) (v := .bool false) rfl (by kernel_rfl) (by kernel_rfl) (by kernel_rfl) (fun _ _ _ h => h) (fun _ _ => Iff.rfl) hc (by first | rfl | simp [Region.wanted]) (fun wx hx => ?_) S0 (fun hc S0 => ?_)
            · go_simp
            try simp only [List.getElem_toArray, List.getElem_cons_succ, List.getElem_cons_zero, Act.put, List.setIfInBounds_toArray, List.set_cons_zero, List.set_cons_succ]
            refine wpAnyS_take (i := 10) (v := .bool false) rfl (by kernel_rfl) (by kernel_rfl) (by kernel_rfl) (fun _ _ _ h => h) (fun _ _ => Iff.rfl) hc (by first | rfl | simp [Region.wanted]) (fun wx hx => ?_) S0 (fun hc S0 => ?_)
            · go_simp
            try simp only [List.getElem_toArray, List.getElem_cons_succ, List.getElem_cons_zero, Act.put, List.setIfInBounds_toArray, List.set_cons_zero, List.set_cons_succ]
            refine wpAnyS_take (i := 11) (v := .bool false) rfl (by kernel_rfl) (by kernel_rfl) (by kernel_rfl) (fun _ _ _ h => h) (fun _ _ => Iff.rfl) hc (by first | rfl | simp [Region.wanted]) (fun wx hx => ?_) S0 (fun hc S0 => ?_)
            · go_simp
            try simp only [List.getElem_toArray, List.getElem_cons_succ, List.getElem_cons_zero, Act.put, List.setIfInBounds_toArray, List.set_cons_zero, List.set_cons_succ]
            refine wpAnyS_take (i := 12) (v := .bool false) rfl (by kernel_rfl) (by kernel_rfl) (by kernel_rfl) (fun _ _ _ h => h) (fun _ _ => Iff.rfl) hc (by first | rfl | simp [Region.wanted]) (fun wx hx => ?_) S0 (fun hc S0 => ?_)
            · go_simp
            try simp only [List.getElem_toArray, List.getElem_cons_succ, List.getElem_cons_zero, Act.put, List.setIfInBounds_toArray, List.set_cons_zero, List.set_cons_succ]
            refine wpAnyS_take (i := 13) (v := .agg #[.slice aa a.length ca]) rfl (by kernel_rfl) (by kernel_rfl) (by kernel_rfl) (fun _ _ _ h => h) (fun _ _ => Iff.rfl) hc (by first | rfl | simp [Region.wanted]) (fun wx hx => ?_) S0 (fun hc S0 => ?_)
            · have g := (hx.still.cell (p := ⟨w.heap.size, 0, none⟩) z9).trans c9
              go_simp
            try simp only [List.getElem_toArray, List.getElem_cons_succ, List.getElem_cons_zero, Act.put, List.setIfInBounds_toArray, List.set_cons_zero, List.set_cons_succ]
            refine wpAnyS_one (i := 14) rfl (by kernel_rfl) (by rfl) hc (fun K' hK => ?_)
            go_simp
            refine (HC1.out _ hT2).mono ?_
            rintro e v3 ⟨rfl, hT3⟩
            refine hK.out _ _ hT3 (fun hc => ?_)
            clear hK K'
            have S0 : StillAt W9 #[] v3 := hT3
            try simp only [List.getElem_toArray, List.getElem_cons_succ, List.getElem_cons_zero, Act.put, List.setIfInBounds_toArray, List.set_cons_zero, List.set_cons_succ]
            refine wpAnyS_take (i := 15) (v := .bool true) rfl (by kernel_rfl) (by kernel_rfl) (by kernel_rfl) (fun _ _ _ h => h) (fun _ _ => Iff.rfl) hc (by first | rfl | simp [Region.wanted]) (fun wx hx => ?_) S0 (fun hc S0 => ?_)
            · go_simp
            try simp only [List.getElem_toArray, List.getElem_cons_succ, List.getElem_cons_zero, Act.put, List.setIfInBounds_toArray, List.set_cons_zero, List.set_cons_succ]
            refine wpAnyS_take (i := 16) (v := .agg #[.slice ab b.length cb]) rfl (by kernel_rfl) (by kernel_rfl) (by kernel_rfl) (fun _ _ _ h => h) (fun _ _ => Iff.rfl) hc (by first | rfl | simp [Region.wanted]) (fun wx hx => ?_) S0 (fun hc S0 => ?_)
            · have g := (hx.still.cell (p := ⟨w.heap.size + 1, 0, none⟩) y9).trans d9
              go_simp
            try simp only [List.getElem_toArray, List.getElem_cons_succ, List.getElem_cons_zero, Act.put, List.setIfInBounds_toArray, List.set_cons_zero, List.set_cons_succ]
            refine wpAnyS_one (i := 17) rfl (by kernel_rfl) (by rfl) hc (fun K' hK => ?_)
            go_simp
            refine (HC3.out _ hT3).mono ?_
            rintro e v4 ⟨rfl, hT4⟩
            refine hK.out _ _ hT4 (fun hc => ?_)
            clear hK K'
            have S0 : StillAt W9 #[] v4 := hT4
            try simp only [List.getElem_toArray, List.getElem_cons_succ, List.getElem_cons_zero, Act.put, List.setIfInBounds_toArray, List.set_cons_zero, List.set_cons_succ]
            refine wpAnyS_take (i := 18) (v := .bool true) rfl (by kernel_rfl) (by kernel_rfl) (by kernel_rfl) (fun _ _ _ h => h) (fun _ _ => Iff.rfl) hc (by first | rfl | simp [Region.wanted]) (fun wx hx => ?_) S0 (fun hc S0 => ?_)
            · go_simp
            try simp only [List.getElem_toArray, List.getElem_cons_succ, List.getElem_cons_zero, Act.put, List.setIfInBounds_toArray, List.set_cons_zero, List.set_cons_succ]
            refine wpAnyS_take (i := 19) (v := .bool true) rfl (by kernel_rfl) (by kernel_rfl) (by kernel_rfl) (fun _ _ _ h => h) (fun _ _ => Iff.rfl) hc (by first | rfl | simp [Region.wanted]) (fun wx hx => ?_) S0 (fun hc S0 => ?_)
            · go_simp
            try simp only [List.getElem_toArray, List.getElem_cons_succ, List.getElem_cons_zero, Act.put, List.setIfInBounds_toArray, List.set_cons_zero, List.set_cons_succ]
            refine wpAnyS_take (i := 20) (v := .string (bs (Fa.text a))) rfl (by kernel_rfl) (by kernel_rfl) (by kernel_rfl) (fun _ _ _ h => h) (fun _ _ => Iff.rfl) hc (by first | rfl | simp [Region.wanted]) (fun wx hx => ?_) S0 (fun hc S0 => ?_)
            · go_simp
            try simp only [List.getElem_toArray, List.getElem_cons_succ, List.getElem_cons_zero, Act.put, List.setIfInBounds_toArray, List.set_cons_zero, List.set_cons_succ]
            refine wpAnyS_take (i := 21) (v := .agg #[.slice ab b.length cb]) rfl (by kernel_rfl) (by kernel_rfl) (by kernel_rfl) (fun _ _ _ h => h) (fun _ _ => Iff.rfl) hc (by first | rfl | simp [Region.wanted]) (fun wx hx => ?_) S0 (fun hc S0 => ?_)
            · have g := (hx.still.cell (p := ⟨w.heap.size + 1, 0, none⟩) y9).trans d9
              go_simp
            try simp only [List.getElem_toArray, List.getElem_cons_succ, List.getElem_cons_zero, Act.put, List.setIfInBounds_toArray, List.set_cons_zero, List.set_cons_succ]
            refine wpAnyS_take (i := 24) (v := .agg #[.slice aa a.length ca]) rfl (by kernel_rfl) (by kernel_rfl) (by kernel_rfl) (fun _ _ _ h => h) (fun _ _ => Iff.rfl) hc (by first | rfl | simp [Region.wanted]) (fun wx hx => ?_) S0 (fun hc S0 => ?_)
            · have g := (hx.still.cell (p := ⟨w.heap.size, 0, none⟩) z9).trans c9
              go_simp
            try simp only [List.getElem_toArray, List.getElem_cons_succ, List.getElem_cons_zero, Act.put, List.setIfInBounds_toArray, List.set_cons_zero, List.set_cons_succ]
            refine wpAnyS_take (i := 25) (v := .agg #[.slice ab b.length cb]) rfl (by kernel_rfl) (by kernel_rfl) (by kernel_rfl) (fun _ _ _ h => h) (fun _ _ => Iff.rfl) hc (by first | rfl | simp [Region.wanted]) (fun wx hx => ?_) S0 (fun hc S0 => ?_)
            · have g := (hx.still.cell (p := ⟨w.heap.size + 1, 0, none⟩) y9).trans d9
              go_simp
            try simp only [List.getElem_toArray, List.getElem_cons_succ, List.getElem_cons_zero, Act.put, List.setIfInBounds_toArray, List.set_cons_zero, List.set_cons_succ]
            refine wpAnyS_one (i := 22) rfl (by kernel_rfl) (by rfl) hc (fun K' hK => ?_)
            go_simp
            refine (HC4.out _ hT4).mono ?_
            rintro e v5 ⟨rfl, hT5⟩
            refine hK.out _ _ hT5 (fun hc => ?_)
            clear hK K'
            have S0 : StillAt W9 #[] v5 := hT5
            try simp only [List.getElem_toArray, List.getElem_cons_succ, List.getElem_cons_zero, Act.put, List.setIfInBounds_toArray, List.set_cons_zero, List.set_cons_succ]
            refine wpAnyS_take (i := 23) (v := .bool u) rfl (by kernel_rfl) (by kernel_rfl) (by kernel_rfl) (fun _ _ _ h => h) (fun _ _ => Iff.rfl) hc (by first | rfl | simp [Region.wanted]) (fun wx hx => ?_) S0 (fun hc S0 => ?_)
            · go_simp
            try simp only [List.getElem_toArray, List.getElem_cons_succ, List.getElem_cons_zero, Act.put, List.setIfInBounds_toArray, List.set_cons_zero, List.set_cons_succ]
            refine wpAnyS_one (i := 26) rfl (by kernel_rfl) (by rfl) hc (fun K' hK => ?_)
            go_simp
            refine (HC5.out _ hT5).mono ?_
            rintro e v6 ⟨rfl, hT6⟩
            refine hK.out _ _ hT6 (fun hc => ?_)
            clear hK K'
            have S0 : StillAt W9 #[] v6 := hT6
            try simp only [List.getElem_toArray, List.getElem_cons_succ, List.getElem_cons_zero, Act.put, List.setIfInBounds_toArray, List.set_cons_zero, List.set_cons_succ]
            refine wpAnyS_take (i := 27) (v := .bool false) rfl (by kernel_rfl) (by kernel_rfl) (by kernel_rfl) (fun _ _ _ h => h) (fun _ _ => Iff.rfl) hc (by first | rfl | simp [Region.wanted]) (fun wx hx => ?_) S0 (fun hc S0 => ?_)
            · go_simp
            try simp only [List.getElem_toArray, List.getElem_cons_succ, List.getElem_cons_zero, Act.put, List.setIfInBounds_toArray, List.set_cons_zero, List.set_cons_succ]
            refine wpAnyS_take (i := 28) (v := .bool false) rfl (by kernel_rfl) (by kernel_rfl) (by kernel_rfl) (fun _ _ _ h => h) (fun _ _ => Iff.rfl) hc (by first | rfl | simp [Region.wanted]) (fun wx hx => ?_) S0 (fun hc S0 => ?_)
            · go_simp
            try simp only [List.getElem_toArray, List.getElem_cons_succ, List.getElem_cons_zero, Act.put, List.setIfInBounds_toArray, List.set_cons_zero, List.set_cons_succ]
            refine wpAnyS_take (i := 29) (v := .bool false) rfl (by kernel_rfl) (by kernel_rfl) (by kernel_rfl) (fun _ _ _ h => h) (fun _ _ => Iff.rfl) hc (by first | rfl | simp [Region.wanted]) (fun wx hx => ?_) S0 (fun hc S0 => ?_)
            · go_simp
            try simp only [List.getElem_toArray, List.getElem_cons_succ, List.getElem_cons_zero, Act.put, List.setIfInBounds_toArray, List.set_cons_zero, List.set_cons_succ]
            refine wpAnyS_done (by kernel_rfl) ?_ _
            clear hc S0
            have H16 := hid (H9.out.step hT6)
            clear hT1 hT2 hT3 hT4 hT5 hT6 c9 z9 d9 y9 x9 t9 hqt huu
            have ct := H16.out.one.cell
            rcases hr : Fa.parse s with ⟨c, er, p⟩
            have ho := Fa.parse_out (s := s) (by have := HSZ.out; omega)
            rw [hr] at ho
            have HO := hid ho
            have HPC := hid (parse_any s v6 (by have := HSZ.out; omega))
            rw [hr] at HPC
            clear hr ho ct
            by_cases he : er = 0
            · subst he
              have HO2 := hid (HO.out.2 rfl)
              obtain rfl : p = 0 := HO2.out.2
              have hv2 := Fa.valid_parts' HO2.out.1
              go_wp2_with fail
              refine (HPC.out).mono ?_
              rintro e wa hp
              obtain ⟨va8, rfl, hsa0, hba⟩ := hp
              obtain ⟨aa8, ka8, rfl⟩ := hsa0.slice
              have HTa := hid (H16.out.step hba)
              obtain ⟨WX, hWX⟩ : ∃ WX, WX = wa.alloc (.cells #[.slice aa8 c.length ka8] 24) := ⟨_, rfl⟩
              have hbx : Below wa.heap.size wa WX := by rw [hWX]; exact below_new _ _
              have HX := hid (HTa.out.step hbx)
              have HSX := hid (hsa0.slOf.below hbx)
              have cx : One WX wa.heap.size 24 (.slice aa8 c.length ka8) := by rw [hWX]; exact One.new _ _ _
              have c8 := cx.cell
              have z8 := cx.lt
              clear hsa0 hba hbx cx
              go_upto_region 11 with (fail)
              rw [← hWX]
              clear hWX
              go_wp2_with fail
              refine (factValid_any c _ WX HSX.out hv2.1 hv2.2).mono ?_
              rw [HO2.out.1]
              rintro e wb ⟨rfl, hbb⟩
              go_wp2_with fail
              go_ret
              exact ⟨rfl, Below.step HX.out.below hbb⟩
            · have hne : (er != 0) = true := by rw [bne_iff_ne]; exact he
              obtain ⟨q1, q2⟩ := HO.out.1 he
              obtain rfl : c = [] := q1
              have q3 : decide (p ≤ ((bs s).size : Int)) = true := decide_eq_true (by have := HSZ.out; have q4 : p ≤ (s.length : Int) := q2; omega)
              clear he
              go_wp2_with fail
              refine (HPC.out).mono ?_
              rintro e wa hp
              obtain ⟨va8, rfl, hsa0, hba⟩ := hp
              obtain ⟨aa8, ka8, rfl⟩ := hsa0.slice
              have HBa := hid (Below.step H16.out.below hba)
              clear hsa0 hba
              go_wp2_with fail
              go_ret
              exact ⟨rfl, Below.step HBa.out (below_new _ _)⟩
      · have d2 : decide ((3000 : Int) < ((bs s).size : Int)) = true := decide_eq_true (by omega)
        go_wp2_with fail
        go_ret
        exact ⟨rfl, H5.out.below⟩

end Go.Proofs.YteogmlgmodeajaaDoor
