/-
  FactMatchesReference: the statement's function returns true. Conditions: what can be read of its arguments; the table of powers.
-/
import Derived.Test.YteogmlgmodeajaaGreatDoorZFa16
import Derived.Test.YteogmlgmodeajaaGreatDoorZMFrB
namespace Go.Proofs.YteogmlgmodeajaaGreatDoor
open Go.RowKit Go.Lib Go.Maps

/-- it yields v; all that stood in A stands as it did -/
def Upon (A : World) (v : Value) (e : Ending) (w' : World) : Prop := e = .returned v ∧ Below A.heap.size A w'
theorem upon {P : Program} {f : FuncId} {xs : Array Value} {A w : World} {v : Value} (h : Calls P f xs w (Gives v w)) (hb : Below A.heap.size A w) : Calls P f xs w (Upon A v) :=
  h.mono fun _ _ ⟨h1, h2⟩ => ⟨h1, Below.step hb h2⟩
/-- it yields a slice of these numbers; all that stood in A stands as it did -/
def UponN (A W : World) (c : List Int) (e : Ending) (w' : World) : Prop := ∃ a k, e = .returned (.slice a c.length k) ∧ SlOf w' (.slice a c.length k) 1 numC c ∧ Below A.heap.size A w' ∧ Below W.heap.size W w'
theorem uponN {P : Program} {f : FuncId} {xs : Array Value} {A w : World} {c : List Int} (h : Calls P f xs w (NumsP c w)) (hb : Below A.heap.size A w) : Calls P f xs w (UponN A w c) :=
  h.mono fun _ _ h1 => by
    obtain ⟨a, k, rfl, h2, h3⟩ := h1.sl
    exact ⟨a, k, rfl, h2, Below.step hb h3, h3⟩
theorem NextP.both {w w' : World} {r : Option (List Int)} {e : Ending} (h : NextP r w e w') : ∃ a k, e = .returned (.tuple #[.slice a (r.getD []).length k, .bool r.isSome]) ∧ SlOf w' (.slice a (r.getD []).length k) 1 numC (r.getD []) ∧ Below w.heap.size w w' := by
  cases r with
  | none =>
    obtain ⟨rfl, hb⟩ := h
    exact ⟨none, 0, rfl, SlOf.nil _ _ _, hb⟩
  | some c =>
    obtain ⟨a, k, rfl, h1, h2⟩ := NextP.sl h
    exact ⟨a, k, rfl, h1, h2⟩

set_option maxRecDepth 100000 in
set_option maxHeartbeats 32000000 in
theorem reference_law (d : Fa.Dom) (c : List Int) (nm s t : List UInt8) (v vc : Value) (w : World) (h : SlOf w v 4 factC d) (hcs : SlOf w vc 1 numC c) (hn : nm.length ≤ maxLen) (hs : s.length ≤ maxLen) (ht : t.length ≤ maxLen) (hT : Tab10 w) :
    Calls Tryz.prog 3 #[.agg #[v], vc, .string (bs nm), .string (bs s), .string (bs t)] w (Gives (.bool true) w) := by
  obtain ⟨W2, hW2⟩ : ∃ W2, W2 = w.alloc (.cells #[v] 24) := ⟨_, rfl⟩
  have hb2 : Below w.heap.size w W2 := by rw [hW2]; exact below_new w _
  have H2 := hid (show HdW' w W2 w.heap.size v d from ⟨by rw [hW2]; exact One.new w _ _, h.below hb2, hT.below hb2, hb2⟩)
  have C2 := hid (hcs.below hb2)
  obtain ⟨vd, cap, rfl, k1, k2, -⟩ := h
  obtain ⟨va, cc, rfl, k3, k4, -⟩ := hcs
  have hl0 : d.length ≤ 9223372036854775807 := by unfold maxLen at k2; omega
  have hl1 : c.length ≤ 9223372036854775807 := by unfold maxLen at k4; omega
  have hl2 : (bs nm).size ≤ 9223372036854775807 := by rw [bs_size]; unfold maxLen at hn; omega
  have hl3 : (bs s).size ≤ 9223372036854775807 := by rw [bs_size]; unfold maxLen at hs; omega
  have hl4 : (bs t).size ≤ 9223372036854775807 := by rw [bs_size]; unfold maxLen at ht; omega
  clear hb2 hT k1 k2 k3 k4 hn hs ht
  go_enter Tryz.func3, Tryz.ntmps3
  go_upto_region 1 with (fail)
  rw [← hW2]
  clear hW2
  go_wp2_with fail
  refine (head_true W2 H2.out.tab).mono ?_
  rintro e w3 ⟨rfl, hb3⟩
  have H3 := hid (H2.out.step hb3)
  have C3 := hid (C2.out.below hb3)
  clear hb3
  have c3 := H3.out.one.cell
  have z3 := H3.out.one.lt
  go_wp2_with fail
  refine (few_any d c _ _ w3 H3.out.sl C3.out).mono ?_
  rintro e w4 ⟨rfl, hb4⟩
  have H4 := hid (H3.out.step hb4)
  have C4 := hid (C3.out.below hb4)
  clear hb4 c3 z3
  cases hfw : (fewD d && decide (c.length ≤ 70)) with
  | false =>
    go_wp2_with fail
    go_ret
    exact ⟨rfl, H4.out.below⟩
  | true =>
  have hfd : fewD d = true ∧ c.length ≤ 70 := by simpa using hfw
  obtain ⟨hd70, hn100⟩ := fewD_parts hfd.1
  clear hfw hfd
  have HN := hid (show ∀ f ∈ d, f.name.length ≤ 5000 from fun f hf => Nat.le_trans (hn100 f hf) (by decide))
  have hd5 : d.length ≤ 5000 := by omega
  clear hn100
  by_cases hnl : ¬ (bs nm).size ≤ 100
  · have d1 : decide ((100 : Int) < ((bs nm).size : Int)) = true := decide_eq_true (by omega)
    go_wp2_with fail
    go_ret
    exact ⟨rfl, H4.out.below⟩
  have d1 : decide ((100 : Int) < ((bs nm).size : Int)) = false := decide_eq_false (by omega)
  by_cases hsl : ¬ (bs s).size ≤ 3000
  · have d2 : decide ((3000 : Int) < ((bs s).size : Int)) = true := decide_eq_true (by omega)
    go_wp2_with fail
    go_ret
    exact ⟨rfl, H4.out.below⟩
  have d2 : decide ((3000 : Int) < ((bs s).size : Int)) = false := decide_eq_false (by omega)
  by_cases htl : ¬ (bs t).size ≤ 3000
  · have d3 : decide ((3000 : Int) < ((bs t).size : Int)) = true := decide_eq_true (by omega)
    go_wp2_with fail
    go_ret
    exact ⟨rfl, H4.out.below⟩
  have d3 : decide ((3000 : Int) < ((bs t).size : Int)) = false := decide_eq_false (by omega)
  have HS := hid (show s.length ≤ 3000 by rw [bs_size] at hsl; omega)
  have HT := hid (show t.length ≤ 3000 by rw [bs_size] at htl; omega)
  rcases hr1 : Fa.parse s with ⟨x1, g1, p1⟩
  have HP1 := hid (fun W => parse_any s W (by have := HS.out; omega))
  have HP2 := hid (fun W => rParse_any s W (by have := HS.out; omega))
  rw [hr1] at HP1 HP2
  rcases hr2 : Fa.parseCase d t with ⟨x2, g2, p2⟩
  have HQ1 := hid (fun W (hW : SlOf W (.slice vd d.length cap) 4 factC d) => parseCase_any d _ t W hW HN.out hd5 (by have := HT.out; omega))
  have HQ2 := hid (fun W (hW : SlOf W (.slice vd d.length cap) 4 factC d) => rParseCase_any d _ t W hW HN.out hd5 (by have := HT.out; omega))
  rw [hr2] at HQ1 HQ2
  obtain ⟨r, hr⟩ : ∃ r, r = Fa.next d c := ⟨_, rfl⟩
  have HN1 := hid (fun W (hW : SlOf W (.slice vd d.length cap) 4 factC d) (hC : SlOf W (.slice va c.length cc) 1 numC c) => factNext_any d c _ _ W hW hC HN.out hd5)
  have HN2 := hid (fun W (hW : SlOf W (.slice vd d.length cap) 4 factC d) (hC : SlOf W (.slice va c.length cc) 1 numC c) => rNext_any d c _ _ W hW hC HN.out hd5)
  rw [← hr] at HN1 HN2
  clear hr1 hr2 hr hnl hsl htl
  go_wp2_with fail
  refine (HP1.out w4).mono ?_
  rintro e w5 ⟨v5, rfl, hs5, hb5⟩
  obtain ⟨a5, k5, rfl⟩ := hs5.slice
  obtain ⟨W6, hW6⟩ : ∃ W6, W6 = w5.alloc (.cells #[.slice a5 x1.length k5] 24) := ⟨_, rfl⟩
  have hb6 : Below w5.heap.size w5 W6 := by rw [hW6]; exact below_new w5 _
  have H6 := hid ((H4.out.step hb5).step hb6)
  have C6 := hid ((C4.out.below hb5).below hb6)
  have X6 := hid (show HdW' w5 W6 w5.heap.size (.slice a5 x1.length k5) x1 from ⟨by rw [hW6]; exact One.new _ _ _, hs5.slOf.below hb6, H6.out.tab, hb6⟩)
  clear hs5 hb5 hb6
  go_upto_region 5 with (fail)
  rw [← hW6]
  clear hW6
  go_wp2_with fail
  refine (HP2.out W6).mono ?_
  rintro e w7 ⟨v7, rfl, hs7, hb7⟩
  obtain ⟨a7, k7, rfl⟩ := hs7.slice
  obtain ⟨W8, hW8⟩ : ∃ W8, W8 = w7.alloc (.cells #[.slice a7 x1.length k7] 24) := ⟨_, rfl⟩
  have hb8 : Below w7.heap.size w7 W8 := by rw [hW8]; exact below_new w7 _
  have H8 := hid ((H6.out.step hb7).step hb8)
  have C8 := hid ((C6.out.below hb7).below hb8)
  have X8 := hid ((X6.out.step hb7).step hb8)
  have Y8 := hid (show HdW' w7 W8 w7.heap.size (.slice a7 x1.length k7) x1 from ⟨by rw [hW8]; exact One.new _ _ _, hs7.slOf.below hb8, H8.out.tab, hb8⟩)
  clear hs7 hb7 hb8
  go_upto_region 6 with (fail)
  rw [← hW8]
  clear hW8
  have c8 := H8.out.one.cell
  have z8 := H8.out.one.lt
  go_wp2_with fail
  refine (HQ1.out W8 H8.out.sl).mono ?_
  rintro e w9 hp
  obtain ⟨a9, k9, rfl, hs9, hb9⟩ := hp.sl
  have H9 := hid (H8.out.step hb9)
  have C9 := hid (C8.out.below hb9)
  have X9 := hid (X8.out.step hb9)
  have Y9 := hid (Y8.out.step hb9)
  have P9 := hid (show SlOf w9 (.slice a9 x2.length k9) 1 numC x2 from hs9)
  clear hp hs9 hb9 c8 z8
  have c9 := H9.out.one.cell
  have z9 := H9.out.one.lt
  go_wp2_with fail
  refine (HQ2.out w9 H9.out.sl).mono ?_
  rintro e w10 hp
  obtain ⟨a10, k10, rfl, hs10, hb10⟩ := hp.sl
  have H10 := hid (H9.out.step hb10)
  have C10 := hid (C9.out.below hb10)
  have X10 := hid (X9.out.step hb10)
  have Y10 := hid (Y9.out.step hb10)
  have P10 := hid (P9.out.below hb10)
  have Q10 := hid (show SlOf w10 (.slice a10 x2.length k10) 1 numC x2 from hs10)
  clear hp hs10 hb10 c9 z9
  have c10 := H10.out.one.cell
  have z10 := H10.out.one.lt
  go_wp2_with fail
  refine (HN1.out w10 H10.out.sl C10.out).mono ?_
  rintro e w11 hp
  obtain ⟨a11, k11, rfl, hs11, hb11⟩ := hp.both
  have H11 := hid (H10.out.step hb11)
  have C11 := hid (C10.out.below hb11)
  have X11 := hid (X10.out.step hb11)
  have Y11 := hid (Y10.out.step hb11)
  have P11 := hid (P10.out.below hb11)
  have Q11 := hid (Q10.out.below hb11)
  have M11 := hid hs11
  clear hp hs11 hb11 c10 z10
  have c11 := H11.out.one.cell
  have z11 := H11.out.one.lt
  go_wp2_with fail
  refine (HN2.out w11 H11.out.sl C11.out).mono ?_
  rintro e w12 hp
  obtain ⟨a12, k12, rfl, hs12, hb12⟩ := hp.both
  have H12 := hid (H11.out.step hb12)
  have C12 := hid (C11.out.below hb12)
  have X12 := hid (X11.out.step hb12)
  have Y12 := hid (Y11.out.step hb12)
  have P12 := hid (P11.out.below hb12)
  have Q12 := hid (Q11.out.below hb12)
  have M12 := hid (M11.out.below hb12)
  have O12 := hid hs12
  clear hp hs12 hb12 c11 z11
  obtain ⟨rl, hrl⟩ : ∃ rl, rl = r.getD [] := ⟨_, rfl⟩
  obtain ⟨rb, hrb⟩ : ∃ rb, rb = r.isSome := ⟨_, rfl⟩
  rw [← hrl] at M12 O12
  rw [← hrl, ← hrb]
  clear hrl hrb HN1 HN2
  have c12 := H12.out.one.cell
  have z12 := H12.out.one.lt
  have HD := hid (show Below w12.heap.size w12 w12.drew from (Below.refl _ w12).drew)
  have K1 : Hid (∀ W, Below w12.heap.size w12 W → Calls Tryz.prog 12 #[.agg #[.slice vd d.length cap]] W (Upon w12 (.bool (Fa.valid d)))) := fun W hW => upon (factValid_any d _ W (H12.out.step hW).sl HN.out hd5) hW
  have K2 : Hid (∀ W, Below w12.heap.size w12 W → Calls Tryz.prog 13 #[.agg #[.slice vd d.length cap]] W (Upon w12 (.bool (Fa.valid d)))) := fun W hW => upon (rValid_any d _ W (H12.out.step hW).sl HN.out) hW
  have K3 : Hid (∀ W, Below w12.heap.size w12 W → Calls Tryz.prog 14 #[.agg #[.slice vd d.length cap], .slice va c.length cc] W (Upon w12 (.bool (Fa.fits d c)))) := fun W hW => upon (factFits_any d c _ _ W (H12.out.step hW).sl (C12.out.below hW) HN.out hd5) hW
  have K4 : Hid (∀ W, Below w12.heap.size w12 W → Calls Tryz.prog 15 #[.agg #[.slice vd d.length cap], .slice va c.length cc] W (Upon w12 (.bool (Fa.fits d c)))) := fun W hW => upon (rFits_any d c _ _ W (H12.out.step hW).sl (C12.out.below hW) HN.out) hW
  have K5 : Hid (∀ W, Below w12.heap.size w12 W → Calls Tryz.prog 16 #[.agg #[.slice vd d.length cap], .string (bs nm)] W (Upon w12 (.int .i64 (Fa.idx d nm)))) := fun W hW => upon (factAt_any d _ nm W (H12.out.step hW).sl) hW
  have K6 : Hid (∀ W, Below w12.heap.size w12 W → Calls Tryz.prog 17 #[.agg #[.slice vd d.length cap], .string (bs nm)] W (Upon w12 (.int .i64 (Fa.idx d nm)))) := fun W hW => upon (rIndex_any d _ nm W (H12.out.step hW).sl) hW
  have K7 : Hid (∀ W, Below w12.heap.size w12 W → Calls Tryz.prog 18 #[.agg #[.slice vd d.length cap]] W (Upon w12 (.string (bs (Fa.text d))))) := fun W hW => upon (factText_any d _ W (H12.out.step hW).sl HN.out hd5 (H12.out.step hW).tab) hW
  have K8 : Hid (∀ W, Below w12.heap.size w12 W → Calls Tryz.prog 19 #[.agg #[.slice vd d.length cap]] W (Upon w12 (.string (bs (Fa.text d))))) := fun W hW => upon (rText_any d _ W (H12.out.step hW).sl HN.out) hW
  have K9 : Hid (∀ W, Below w12.heap.size w12 W → Calls Tryz.prog 20 #[.agg #[.slice vd d.length cap], .slice va c.length cc] W (Upon w12 (.string (bs (Fa.caseText d c))))) := fun W hW => upon (factCaseText_any d c _ _ W (H12.out.step hW).sl (C12.out.below hW) HN.out hd5 (H12.out.step hW).tab) hW
  have K10 : Hid (∀ W, Below w12.heap.size w12 W → Calls Tryz.prog 21 #[.agg #[.slice vd d.length cap], .slice va c.length cc] W (Upon w12 (.string (bs (Fa.caseText d c))))) := fun W hW => upon (rCaseText_any d c _ _ W (H12.out.step hW).sl (C12.out.below hW) HN.out) hW
  go_upto_region 10 with (fail)
  refine wp_heldS (S := StillAt w12) (by kernel_rfl) ?_
  simp only [List.size_toArray, List.length_cons, List.length_nil, Nat.reduceAdd]
  intro hc
  have S0 : StillAt w12 (Array.replicate 40 false) w12.drew := HD.out
  refine wpAnyS_take (i := 0) (v := .agg #[.slice vd d.length cap]) rfl (by kernel_rfl) (by kernel_rfl) (by kernel_rfl) (fun _ _ _ h => h) (fun _ _ => Iff.rfl) hc (by first | rfl | simp [Region.wanted]) (fun wx hx => ?_) S0 (fun hc S0 => ?_)
  · have g := (hx.still.cell (p := ⟨w.heap.size, 0, none⟩) z12).trans c12
    go_simp
  try simp only [List.getElem_toArray, List.getElem_cons_zero, Act.put, List.setIfInBounds_toArray, List.set_cons_zero, List.set_cons_succ]
  refine wpAnyS_take (i := 2) (v := .agg #[.slice vd d.length cap]) rfl (by kernel_rfl) (by kernel_rfl) (by kernel_rfl) (fun _ _ _ h => h) (fun _ _ => Iff.rfl) hc (by first | rfl | simp [Region.wanted]) (fun wx hx => ?_) S0 (fun hc S0 => ?_)
  · have g := (hx.still.cell (p := ⟨w.heap.size, 0, none⟩) z12).trans c12
    go_simp
  try simp only [List.getElem_toArray, List.getElem_cons_succ, List.getElem_cons_zero, Act.put, List.setIfInBounds_toArray, List.set_cons_zero, List.set_cons_succ]
  refine wpAnyS_one (i := 1) rfl (by kernel_rfl) (by rfl) hc (fun K' hK => ?_)
  go_simp
  refine (K1.out _ HD.out).mono ?_
  rintro e v1 ⟨rfl, hT1⟩
  refine hK.out _ _ hT1 (fun hc => ?_)
  clear hK K'
  have S0 : StillAt w12 #[] v1 := hT1
  try simp only [List.getElem_toArray, List.getElem_cons_succ, List.getElem_cons_zero, Act.put, List.setIfInBounds_toArray, List.set_cons_zero, List.set_cons_succ]
  refine wpAnyS_one (i := 3) rfl (by kernel_rfl) (by rfl) hc (fun K' hK => ?_)
  go_simp
  refine (K2.out _ hT1).mono ?_
  rintro e v2 ⟨rfl, hT2⟩
  refine hK.out _ _ hT2 (fun hc => ?_)
  clear hK K'
  have S0 : StillAt w12 #[] v2 := hT2
  try simp only [List.getElem_toArray, List.getElem_cons_succ, List.getElem_cons_zero, Act.put, List.setIfInBounds_toArray, List.set_cons_zero, List.set_cons_succ]
  refine wpAnyS_take (i := 4) (v := .bool true) rfl (by kernel_rfl) (by kernel_rfl) (by kernel_rfl) (fun _ _ _ h => h) (fun _ _ => Iff.rfl) hc (by first | rfl | simp [Region.wanted]) (fun wx hx => ?_) S0 (fun hc S0 => ?_)
  · go_simp
  try simp only [List.getElem_toArray, List.getElem_cons_succ, List.getElem_cons_zero, Act.put, List.setIfInBounds_toArray, List.set_cons_zero, List.set_cons_succ]
  refine wpAnyS_take (i := 5) (v := .bool true) rfl (by kernel_rfl) (by kernel_rfl) (by kernel_rfl) (fun _ _ _ h => h) (fun _ _ => Iff.rfl) hc (by first | rfl | simp [Region.wanted]) (fun wx hx => ?_) S0 (fun hc S0 => ?_)
  · go_simp
  try simp only [List.getElem_toArray, List.getElem_cons_succ, List.getElem_cons_zero, Act.put, List.setIfInBounds_toArray, List.set_cons_zero, List.set_cons_succ]
  refine wpAnyS_take (i := 6) (v := .agg #[.slice vd d.length cap]) rfl (by kernel_rfl) (by kernel_rfl) (by kernel_rfl) (fun _ _ _ h => h) (fun _ _ => Iff.rfl) hc (by first | rfl | simp [Region.wanted]) (fun wx hx => ?_) S0 (fun hc S0 => ?_)
  · have g := (hx.still.cell (p := ⟨w.heap.size, 0, none⟩) z12).trans c12
    go_simp
  try simp only [List.getElem_toArray, List.getElem_cons_succ, List.getElem_cons_zero, Act.put, List.setIfInBounds_toArray, List.set_cons_zero, List.set_cons_succ]
  refine wpAnyS_take (i := 7) (v := .slice va c.length cc) rfl (by kernel_rfl) (by kernel_rfl) (by kernel_rfl) (fun _ _ _ h => h) (fun _ _ => Iff.rfl) hc (by first | rfl | simp [Region.wanted]) (fun wx hx => ?_) S0 (fun hc S0 => ?_)
  · go_simp
  try simp only [List.getElem_toArray, List.getElem_cons_succ, List.getElem_cons_zero, Act.put, List.setIfInBounds_toArray, List.set_cons_zero, List.set_cons_succ]
  refine wpAnyS_take (i := 9) (v := .agg #[.slice vd d.length cap]) rfl (by kernel_rfl) (by kernel_rfl) (by kernel_rfl) (fun _ _ _ h => h) (fun _ _ => Iff.rfl) hc (by first | rfl | simp [Region.wanted]) (fun wx hx => ?_) S0 (fun hc S0 => ?_)
  · have g := (hx.still.cell (p := ⟨w.heap.size, 0, none⟩) z12).trans c12
    go_simp
  try simp only [List.getElem_toArray, List.getElem_cons_succ, List.getElem_cons_zero, Act.put, List.setIfInBounds_toArray, List.set_cons_zero, List.set_cons_succ]
  refine wpAnyS_take (i := 10) (v := .slice va c.length cc) rfl (by kernel_rfl) (by kernel_rfl) (by kernel_rfl) (fun _ _ _ h => h) (fun _ _ => Iff.rfl) hc (by first | rfl | simp [Region.wanted]) (fun wx hx => ?_) S0 (fun hc S0 => ?_)
  · go_simp
  try simp only [List.getElem_toArray, List.getElem_cons_succ, List.getElem_cons_zero, Act.put, List.setIfInBounds_toArray, List.set_cons_zero, List.set_cons_succ]
  refine wpAnyS_one (i := 8) rfl (by kernel_rfl) (by rfl) hc (fun K' hK => ?_)
  go_simp
  refine (K3.out _ hT2).mono ?_
  rintro e v3 ⟨rfl, hT3⟩
  refine hK.out _ _ hT3 (fun hc => ?_)
  clear hK K'
  have S0 : StillAt w12 #[] v3 := hT3
  try simp only [List.getElem_toArray, List.getElem_cons_succ, List.getElem_cons_zero, Act.put, List.setIfInBounds_toArray, List.set_cons_zero, List.set_cons_succ]
  refine wpAnyS_one (i := 11) rfl (by kernel_rfl) (by rfl) hc (fun K' hK => ?_)
  go_simp
  refine (K4.out _ hT3).mono ?_
  rintro e v4 ⟨rfl, hT4⟩
  refine hK.out _ _ hT4 (fun hc => ?_)
  clear hK K'
  have S0 : StillAt w12 #[] v4 := hT4
  try simp only [List.getElem_toArray, List.getElem_cons_succ, List.getElem_cons_zero, Act.put, List.setIfInBounds_toArray, List.set_cons_zero, List.set_cons_succ]
  refine wpAnyS_take (i := 12) (v := .bool true) rfl (by kernel_rfl) (by kernel_rfl) (by kernel_rfl) (fun _ _ _ h => h) (fun _ _ => Iff.rfl) hc (by first | rfl | simp [Region.wanted]) (fun wx hx => ?_) S0 (fun hc S0 => ?_)
  · go_simp
  try simp only [List.getElem_toArray, List.getElem_cons_succ, List.getElem_cons_zero, Act.put, List.setIfInBounds_toArray, List.set_cons_zero, List.set_cons_succ]
  refine wpAnyS_take (i := 13) (v := .bool true) rfl (by kernel_rfl) (by kernel_rfl) (by kernel_rfl) (fun _ _ _ h => h) (fun _ _ => Iff.rfl) hc (by first | rfl | simp [Region.wanted]) (fun wx hx => ?_) S0 (fun hc S0 => ?_)
  · go_simp
  try simp only [List.getElem_toArray, List.getElem_cons_succ, List.getElem_cons_zero, Act.put, List.setIfInBounds_toArray, List.set_cons_zero, List.set_cons_succ]
  refine wpAnyS_take (i := 14) (v := .bool true) rfl (by kernel_rfl) (by kernel_rfl) (by kernel_rfl) (fun _ _ _ h => h) (fun _ _ => Iff.rfl) hc (by first | rfl | simp [Region.wanted]) (fun wx hx => ?_) S0 (fun hc S0 => ?_)
  · go_simp
  try simp only [List.getElem_toArray, List.getElem_cons_succ, List.getElem_cons_zero, Act.put, List.setIfInBounds_toArray, List.set_cons_zero, List.set_cons_succ]
  refine wpAnyS_take (i := 15) (v := .agg #[.slice vd d.length cap]) rfl (by kernel_rfl) (by kernel_rfl) (by kernel_rfl) (fun _ _ _ h => h) (fun _ _ => Iff.rfl) hc (by first | rfl | simp [Region.wanted]) (fun wx hx => ?_) S0 (fun hc S0 => ?_)
  · have g := (hx.still.cell (p := ⟨w.heap.size, 0, none⟩) z12).trans c12
    go_simp
  try simp only [List.getElem_toArray, List.getElem_cons_succ, List.getElem_cons_zero, Act.put, List.setIfInBounds_toArray, List.set_cons_zero, List.set_cons_succ]
  refine wpAnyS_take (i := 16) (v := .string (bs nm)) rfl (by kernel_rfl) (by kernel_rfl) (by kernel_rfl) (fun _ _ _ h => h) (fun _ _ => Iff.rfl) hc (by first | rfl | simp [Region.wanted]) (fun wx hx => ?_) S0 (fun hc S0 => ?_)
  · go_simp
  try simp only [List.getElem_toArray, List.getElem_cons_succ, List.getElem_cons_zero, Act.put, List.setIfInBounds_toArray, List.set_cons_zero, List.set_cons_succ]
  refine wpAnyS_take (i := 18) (v := .agg #[.slice vd d.length cap]) rfl (by kernel_rfl) (by kernel_rfl) (by kernel_rfl) (fun _ _ _ h => h) (fun _ _ => Iff.rfl) hc (by first | rfl | simp [Region.wanted]) (fun wx hx => ?_) S0 (fun hc S0 => ?_)
  · have g := (hx.still.cell (p := ⟨w.heap.size, 0, none⟩) z12).trans c12
    go_simp
  try simp only [List.getElem_toArray, List.getElem_cons_succ, List.getElem_cons_zero, Act.put, List.setIfInBounds_toArray, List.set_cons_zero, List.set_cons_succ]
  refine wpAnyS_take (i := 19) (v := .string (bs nm)) rfl (by kernel_rfl) (by kernel_rfl) (by kernel_rfl) (fun _ _ _ h => h) (fun _ _ => Iff.rfl) hc (by first | rfl | simp [Region.wanted]) (fun wx hx => ?_) S0 (fun hc S0 => ?_)
  · go_simp
  try simp only [List.getElem_toArray, List.getElem_cons_succ, List.getElem_cons_zero, Act.put, List.setIfInBounds_toArray, List.set_cons_zero, List.set_cons_succ]
  refine wpAnyS_one (i := 17) rfl (by kernel_rfl) (by rfl) hc (fun K' hK => ?_)
  go_simp
  refine (K5.out _ hT4).mono ?_
  rintro e v5 ⟨rfl, hT5⟩
  refine hK.out _ _ hT5 (fun hc => ?_)
  clear hK K'
  have S0 : StillAt w12 #[] v5 := hT5
  try simp only [List.getElem_toArray, List.getElem_cons_succ, List.getElem_cons_zero, Act.put, List.setIfInBounds_toArray, List.set_cons_zero, List.set_cons_succ]
  refine wpAnyS_one (i := 20) rfl (by kernel_rfl) (by rfl) hc (fun K' hK => ?_)
  go_simp
  refine (K6.out _ hT5).mono ?_
  rintro e v6 ⟨rfl, hT6⟩
  refine hK.out _ _ hT6 (fun hc => ?_)
  clear hK K'
  have S0 : StillAt w12 #[] v6 := hT6
  try simp only [List.getElem_toArray, List.getElem_cons_succ, List.getElem_cons_zero, Act.put, List.setIfInBounds_toArray, List.set_cons_zero, List.set_cons_succ]
  refine wpAnyS_take (i := 21) (v := .bool true) rfl (by kernel_rfl) (by kernel_rfl) (by kernel_rfl) (fun _ _ _ h => h) (fun _ _ => Iff.rfl) hc (by first | rfl | simp [Region.wanted]) (fun wx hx => ?_) S0 (fun hc S0 => ?_)
  · go_simp
  try simp only [List.getElem_toArray, List.getElem_cons_succ, List.getElem_cons_zero, Act.put, List.setIfInBounds_toArray, List.set_cons_zero, List.set_cons_succ]
  refine wpAnyS_take (i := 22) (v := .bool true) rfl (by kernel_rfl) (by kernel_rfl) (by kernel_rfl) (fun _ _ _ h => h) (fun _ _ => Iff.rfl) hc (by first | rfl | simp [Region.wanted]) (fun wx hx => ?_) S0 (fun hc S0 => ?_)
  · go_simp
  try simp only [List.getElem_toArray, List.getElem_cons_succ, List.getElem_cons_zero, Act.put, List.setIfInBounds_toArray, List.set_cons_zero, List.set_cons_succ]
  refine wpAnyS_take (i := 23) (v := .bool true) rfl (by kernel_rfl) (by kernel_rfl) (by kernel_rfl) (fun _ _ _ h => h) (fun _ _ => Iff.rfl) hc (by first | rfl | simp [Region.wanted]) (fun wx hx => ?_) S0 (fun hc S0 => ?_)
  · go_simp
  try simp only [List.getElem_toArray, List.getElem_cons_succ, List.getElem_cons_zero, Act.put, List.setIfInBounds_toArray, List.set_cons_zero, List.set_cons_succ]
  refine wpAnyS_take (i := 24) (v := .agg #[.slice vd d.length cap]) rfl (by kernel_rfl) (by kernel_rfl) (by kernel_rfl) (fun _ _ _ h => h) (fun _ _ => Iff.rfl) hc (by first | rfl | simp [Region.wanted]) (fun wx hx => ?_) S0 (fun hc S0 => ?_)
  · have g := (hx.still.cell (p := ⟨w.heap.size, 0, none⟩) z12).trans c12
    go_simp
  try simp only [List.getElem_toArray, List.getElem_cons_succ, List.getElem_cons_zero, Act.put, List.setIfInBounds_toArray, List.set_cons_zero, List.set_cons_succ]
  refine wpAnyS_take (i := 26) (v := .agg #[.slice vd d.length cap]) rfl (by kernel_rfl) (by kernel_rfl) (by kernel_rfl) (fun _ _ _ h => h) (fun _ _ => Iff.rfl) hc (by first | rfl | simp [Region.wanted]) (fun wx hx => ?_) S0 (fun hc S0 => ?_)
  · have g := (hx.still.cell (p := ⟨w.heap.size, 0, none⟩) z12).trans c12
    go_simp
  try simp only [List.getElem_toArray, List.getElem_cons_succ, List.getElem_cons_zero, Act.put, List.setIfInBounds_toArray, List.set_cons_zero, List.set_cons_succ]
  refine wpAnyS_one (i := 25) rfl (by kernel_rfl) (by rfl) hc (fun K' hK => ?_)
  go_simp
  refine (K7.out _ hT6).mono ?_
  rintro e v7 ⟨rfl, hT7⟩
  refine hK.out _ _ hT7 (fun hc => ?_)
  clear hK K'
  have S0 : StillAt w12 #[] v7 := hT7
  try simp only [List.getElem_toArray, List.getElem_cons_succ, List.getElem_cons_zero, Act.put, List.setIfInBounds_toArray, List.set_cons_zero, List.set_cons_succ]
  refine wpAnyS_one (i := 27) rfl (by kernel_rfl) (by rfl) hc (fun K' hK => ?_)
  go_simp
  refine (K8.out _ hT7).mono ?_
  rintro e v8 ⟨rfl, hT8⟩
  refine hK.out _ _ hT8 (fun hc => ?_)
  clear hK K'
  have S0 : StillAt w12 #[] v8 := hT8
  try simp only [List.getElem_toArray, List.getElem_cons_succ, List.getElem_cons_zero, Act.put, List.setIfInBounds_toArray, List.set_cons_zero, List.set_cons_succ]
  refine wpAnyS_take (i := 28) (v := .bool true) rfl (by kernel_rfl) (by kernel_rfl) (by kernel_rfl) (fun _ _ _ h => h) (fun _ _ => Iff.rfl) hc (by first | rfl | simp [Region.wanted]) (fun wx hx => ?_) S0 (fun hc S0 => ?_)
  · go_simp
  try simp only [List.getElem_toArray, List.getElem_cons_succ, List.getElem_cons_zero, Act.put, List.setIfInBounds_toArray, List.set_cons_zero, List.set_cons_succ]
  refine wpAnyS_take (i := 29) (v := .bool true) rfl (by kernel_rfl) (by kernel_rfl) (by kernel_rfl) (fun _ _ _ h => h) (fun _ _ => Iff.rfl) hc (by first | rfl | simp [Region.wanted]) (fun wx hx => ?_) S0 (fun hc S0 => ?_)
  · go_simp
  try simp only [List.getElem_toArray, List.getElem_cons_succ, List.getElem_cons_zero, Act.put, List.setIfInBounds_toArray, List.set_cons_zero, List.set_cons_succ]
  refine wpAnyS_take (i := 30) (v := .bool true) rfl (by kernel_rfl) (by kernel_rfl) (by kernel_rfl) (fun _ _ _ h => h) (fun _ _ => Iff.rfl) hc (by first | rfl | simp [Region.wanted]) (fun wx hx => ?_) S0 (fun hc S0 => ?_)
  · go_simp
  try simp only [List.getElem_toArray, List.getElem_cons_succ, List.getElem_cons_zero, Act.put, List.setIfInBounds_toArray, List.set_cons_zero, List.set_cons_succ]
  refine wpAnyS_take (i := 31) (v := .agg #[.slice vd d.length cap]) rfl (by kernel_rfl) (by kernel_rfl) (by kernel_rfl) (fun _ _ _ h => h) (fun _ _ => Iff.rfl) hc (by first | rfl | simp [Region.wanted]) (fun wx hx => ?_) S0 (fun hc S0 => ?_)
  · have g := (hx.still.cell (p := ⟨w.heap.size, 0, none⟩) z12).trans c12
    go_simp
  try simp only [List.getElem_toArray, List.getElem_cons_succ, List.getElem_cons_zero, Act.put, List.setIfInBounds_toArray, List.set_cons_zero, List.set_cons_succ]
  refine wpAnyS_take (i := 32) (v := .slice va c.length cc) rfl (by kernel_rfl) (by kernel_rfl) (by kernel_rfl) (fun _ _ _ h => h) (fun _ _ => Iff.rfl) hc (by first | rfl | simp [Region.wanted]) (fun wx hx => ?_) S0 (fun hc S0 => ?_)
  · go_simp
  try simp only [List.getElem_toArray, List.getElem_cons_succ, List.getElem_cons_zero, Act.put, List.setIfInBounds_toArray, List.set_cons_zero, List.set_cons_succ]
  refine wpAnyS_take (i := 34) (v := .agg #[.slice vd d.length cap]) rfl (by kernel_rfl) (by kernel_rfl) (by kernel_rfl) (fun _ _ _ h => h) (fun _ _ => Iff.rfl) hc (by first | rfl | simp [Region.wanted]) (fun wx hx => ?_) S0 (fun hc S0 => ?_)
  · have g := (hx.still.cell (p := ⟨w.heap.size, 0, none⟩) z12).trans c12
    go_simp
  try simp only [List.getElem_toArray, List.getElem_cons_succ, List.getElem_cons_zero, Act.put, List.setIfInBounds_toArray, List.set_cons_zero, List.set_cons_succ]
  refine wpAnyS_take (i := 35) (v := .slice va c.length cc) rfl (by kernel_rfl) (by kernel_rfl) (by kernel_rfl) (fun _ _ _ h => h) (fun _ _ => Iff.rfl) hc (by first | rfl | simp [Region.wanted]) (fun wx hx => ?_) S0 (fun hc S0 => ?_)
  · go_simp
  try simp only [List.getElem_toArray, List.getElem_cons_succ, List.getElem_cons_zero, Act.put, List.setIfInBounds_toArray, List.set_cons_zero, List.set_cons_succ]
  refine wpAnyS_one (i := 33) rfl (by kernel_rfl) (by rfl) hc (fun K' hK => ?_)
  go_simp
  refine (K9.out _ hT8).mono ?_
  rintro e v9 ⟨rfl, hT9⟩
  refine hK.out _ _ hT9 (fun hc => ?_)
  clear hK K'
  have S0 : StillAt w12 #[] v9 := hT9
  try simp only [List.getElem_toArray, List.getElem_cons_succ, List.getElem_cons_zero, Act.put, List.setIfInBounds_toArray, List.set_cons_zero, List.set_cons_succ]
  refine wpAnyS_one (i := 36) rfl (by kernel_rfl) (by rfl) hc (fun K' hK => ?_)
  go_simp
  refine (K10.out _ hT9).mono ?_
  rintro e v10 ⟨rfl, hT10⟩
  refine hK.out _ _ hT10 (fun hc => ?_)
  clear hK K'
  have S0 : StillAt w12 #[] v10 := hT10
  try simp only [List.getElem_toArray, List.getElem_cons_succ, List.getElem_cons_zero, Act.put, List.setIfInBounds_toArray, List.set_cons_zero, List.set_cons_succ]
  refine wpAnyS_take (i := 37) (v := .bool true) rfl (by kernel_rfl) (by kernel_rfl) (by kernel_rfl) (fun _ _ _ h => h) (fun _ _ => Iff.rfl) hc (by first | rfl | simp [Region.wanted]) (fun wx hx => ?_) S0 (fun hc S0 => ?_)
  · go_simp
  try simp only [List.getElem_toArray, List.getElem_cons_succ, List.getElem_cons_zero, Act.put, List.setIfInBounds_toArray, List.set_cons_zero, List.set_cons_succ]
  refine wpAnyS_take (i := 38) (v := .bool true) rfl (by kernel_rfl) (by kernel_rfl) (by kernel_rfl) (fun _ _ _ h => h) (fun _ _ => Iff.rfl) hc (by first | rfl | simp [Region.wanted]) (fun wx hx => ?_) S0 (fun hc S0 => ?_)
  · go_simp
  try simp only [List.getElem_toArray, List.getElem_cons_succ, List.getElem_cons_zero, Act.put, List.setIfInBounds_toArray, List.set_cons_zero, List.set_cons_succ]
  refine wpAnyS_take (i := 39) (v := .bool true) rfl (by kernel_rfl) (by kernel_rfl) (by kernel_rfl) (fun _ _ _ h => h) (fun _ _ => Iff.rfl) hc (by first | rfl | simp [Region.wanted]) (fun wx hx => ?_) S0 (fun hc S0 => ?_)
  · go_simp
  try simp only [List.getElem_toArray, List.getElem_cons_succ, List.getElem_cons_zero, Act.put, List.setIfInBounds_toArray, List.set_cons_zero, List.set_cons_succ]
  refine wpAnyS_done (by kernel_rfl) ?_ _
  clear hc S0
  clear K1 K2 K3 K4 K5 K6 K7 K8 K9 K10 c12 z12 hT1 hT2 hT3 hT4 hT5 hT6 hT7 hT8 hT9 HD
  have HB := hid hT10
  clear hT10
  have H13 := hid (H12.out.step HB.out)
  have X13 := hid (X12.out.step HB.out)
  have Y13 := hid (Y12.out.step HB.out)
  have P13 := hid (P12.out.below HB.out)
  have Q13 := hid (Q12.out.below HB.out)
  have M13 := hid (M12.out.below HB.out)
  have O13 := hid (O12.out.below HB.out)
  have c13 := H13.out.one.cell
  have z13 := H13.out.one.lt
  have x13 := X13.out.one.cell
  have t13 := X13.out.one.lt
  have y13 := Y13.out.one.cell
  have u13 := Y13.out.one.lt
  have HD := hid (show Below v10.heap.size v10 v10.drew from (Below.refl _ v10).drew)
  have L1 : Hid (∀ W, Below v10.heap.size v10 W → Calls Tryz.prog 22 #[.agg #[.slice a5 x1.length k5], .agg #[.slice a7 x1.length k7]] W (Upon v10 (.bool true))) := fun W hW => by
    have h := same_any x1 x1 _ _ W (X13.out.step hW).sl (Y13.out.step hW).sl
    rw [decide_eq_true rfl] at h
    exact upon h hW
  have L2 : Hid (∀ W, Below v10.heap.size v10 W → Calls Tryz.prog 23 #[.slice a9 x2.length k9, .slice a10 x2.length k10] W (Upon v10 (.bool true))) := fun W hW => by
    have h := equal_any x2 x2 _ _ W (P13.out.below hW) (Q13.out.below hW)
    rw [decide_eq_true rfl] at h
    exact upon h hW
  have L3 : Hid (∀ W, Below v10.heap.size v10 W → Calls Tryz.prog 23 #[.slice a11 rl.length k11, .slice a12 rl.length k12] W (Upon v10 (.bool true))) := fun W hW => by
    have h := equal_any rl rl _ _ W (M13.out.below hW) (O13.out.below hW)
    rw [decide_eq_true rfl] at h
    exact upon h hW
  have L4 : Hid (∀ W, Below v10.heap.size v10 W → Calls Tryz.prog 24 #[.agg #[.slice vd d.length cap]] W (UponN v10 W (Fa.least d))) := fun W hW => uponN (factLeast_any d _ W (H13.out.step hW).sl HN.out hd5) hW
  have L5 : Hid (∀ W, Below v10.heap.size v10 W → Calls Tryz.prog 25 #[.agg #[.slice vd d.length cap]] W (UponN v10 W (Fa.least d))) := fun W hW => uponN (rLeast_any d _ W (H13.out.step hW).sl HN.out hd5) hW
  go_upto_region 11 with (fail)
  refine wp_heldS (S := StillAt v10) (by kernel_rfl) ?_
  simp only [List.size_toArray, List.length_cons, List.length_nil, Nat.reduceAdd]
  intro hc
  have S0 : StillAt v10 (Array.replicate 52 false) v10.drew := HD.out
  refine wpAnyS_take (i := 0) (v := .bool true) rfl (by kernel_rfl) (by kernel_rfl) (by kernel_rfl) (fun _ _ _ h => h) (fun _ _ => Iff.rfl) hc (by first | rfl | simp [Region.wanted]) (fun wx hx => ?_) S0 (fun hc S0 => ?_)
  · go_simp
  try simp only [List.getElem_toArray, List.getElem_cons_zero, Act.put, List.setIfInBounds_toArray, List.set_cons_zero, List.set_cons_succ]
  refine wpAnyS_take (i := 1) (v := .bool true) rfl (by kernel_rfl) (by kernel_rfl) (by kernel_rfl) (fun _ _ _ h => h) (fun _ _ => Iff.rfl) hc (by first | rfl | simp [Region.wanted]) (fun wx hx => ?_) S0 (fun hc S0 => ?_)
  · go_simp
  try simp only [List.getElem_toArray, List.getElem_cons_succ, List.getElem_cons_zero, Act.put, List.setIfInBounds_toArray, List.set_cons_zero, List.set_cons_succ]
  refine wpAnyS_take (i := 2) (v := .bool true) rfl (by kernel_rfl) (by kernel_rfl) (by kernel_rfl) (fun _ _ _ h => h) (fun _ _ => Iff.rfl) hc (by first | rfl | simp [Region.wanted]) (fun wx hx => ?_) S0 (fun hc S0 => ?_)
  · go_simp
  try simp only [List.getElem_toArray, List.getElem_cons_succ, List.getElem_cons_zero, Act.put, List.setIfInBounds_toArray, List.set_cons_zero, List.set_cons_succ]
  refine wpAnyS_take (i := 3) (v := .bool true) rfl (by kernel_rfl) (by kernel_rfl) (by kernel_rfl) (fun _ _ _ h => h) (fun _ _ => Iff.rfl) hc (by first | rfl | simp [Region.wanted]) (fun wx hx => ?_) S0 (fun hc S0 => ?_)
  · go_simp
  try simp only [List.getElem_toArray, List.getElem_cons_succ, List.getElem_cons_zero, Act.put, List.setIfInBounds_toArray, List.set_cons_zero, List.set_cons_succ]
  refine wpAnyS_take (i := 4) (v := .bool true) rfl (by kernel_rfl) (by kernel_rfl) (by kernel_rfl) (fun _ _ _ h => h) (fun _ _ => Iff.rfl) hc (by first | rfl | simp [Region.wanted]) (fun wx hx => ?_) S0 (fun hc S0 => ?_)
  · go_simp
  try simp only [List.getElem_toArray, List.getElem_cons_succ, List.getElem_cons_zero, Act.put, List.setIfInBounds_toArray, List.set_cons_zero, List.set_cons_succ]
  refine wpAnyS_take (i := 5) (v := .int .i64 g1) rfl (by kernel_rfl) (by kernel_rfl) (by kernel_rfl) (fun _ _ _ h => h) (fun _ _ => Iff.rfl) hc (by first | rfl | simp [Region.wanted]) (fun wx hx => ?_) S0 (fun hc S0 => ?_)
  · go_simp
  try simp only [List.getElem_toArray, List.getElem_cons_succ, List.getElem_cons_zero, Act.put, List.setIfInBounds_toArray, List.set_cons_zero, List.set_cons_succ]
  refine wpAnyS_take (i := 6) (v := .int .i64 g1) rfl (by kernel_rfl) (by kernel_rfl) (by kernel_rfl) (fun _ _ _ h => h) (fun _ _ => Iff.rfl) hc (by first | rfl | simp [Region.wanted]) (fun wx hx => ?_) S0 (fun hc S0 => ?_)
  · go_simp
  try simp only [List.getElem_toArray, List.getElem_cons_succ, List.getElem_cons_zero, Act.put, List.setIfInBounds_toArray, List.set_cons_zero, List.set_cons_succ]
  refine wpAnyS_take (i := 7) (v := .bool true) rfl (by kernel_rfl) (by kernel_rfl) (by kernel_rfl) (fun _ _ _ h => h) (fun _ _ => Iff.rfl) hc (by first | rfl | simp [Region.wanted]) (fun wx hx => ?_) S0 (fun hc S0 => ?_)
  · go_simp
  try simp only [List.getElem_toArray, List.getElem_cons_succ, List.getElem_cons_zero, Act.put, List.setIfInBounds_toArray, List.set_cons_zero, List.set_cons_succ]
  refine wpAnyS_take (i := 8) (v := .bool true) rfl (by kernel_rfl) (by kernel_rfl) (by kernel_rfl) (fun _ _ _ h => h) (fun _ _ => Iff.rfl) hc (by first | rfl | simp [Region.wanted]) (fun wx hx => ?_) S0 (fun hc S0 => ?_)
  · go_simp
  try simp only [List.getElem_toArray, List.getElem_cons_succ, List.getElem_cons_zero, Act.put, List.setIfInBounds_toArray, List.set_cons_zero, List.set_cons_succ]
  refine wpAnyS_take (i := 9) (v := .bool true) rfl (by kernel_rfl) (by kernel_rfl) (by kernel_rfl) (fun _ _ _ h => h) (fun _ _ => Iff.rfl) hc (by first | rfl | simp [Region.wanted]) (fun wx hx => ?_) S0 (fun hc S0 => ?_)
  · go_simp
  try simp only [List.getElem_toArray, List.getElem_cons_succ, List.getElem_cons_zero, Act.put, List.setIfInBounds_toArray, List.set_cons_zero, List.set_cons_succ]
  refine wpAnyS_take (i := 10) (v := .int .i64 p1) rfl (by kernel_rfl) (by kernel_rfl) (by kernel_rfl) (fun _ _ _ h => h) (fun _ _ => Iff.rfl) hc (by first | rfl | simp [Region.wanted]) (fun wx hx => ?_) S0 (fun hc S0 => ?_)
  · go_simp
  try simp only [List.getElem_toArray, List.getElem_cons_succ, List.getElem_cons_zero, Act.put, List.setIfInBounds_toArray, List.set_cons_zero, List.set_cons_succ]
  refine wpAnyS_take (i := 11) (v := .int .i64 p1) rfl (by kernel_rfl) (by kernel_rfl) (by kernel_rfl) (fun _ _ _ h => h) (fun _ _ => Iff.rfl) hc (by first | rfl | simp [Region.wanted]) (fun wx hx => ?_) S0 (fun hc S0 => ?_)
  · go_simp
  try simp only [List.getElem_toArray, List.getElem_cons_succ, List.getElem_cons_zero, Act.put, List.setIfInBounds_toArray, List.set_cons_zero, List.set_cons_succ]
  refine wpAnyS_take (i := 12) (v := .bool true) rfl (by kernel_rfl) (by kernel_rfl) (by kernel_rfl) (fun _ _ _ h => h) (fun _ _ => Iff.rfl) hc (by first | rfl | simp [Region.wanted]) (fun wx hx => ?_) S0 (fun hc S0 => ?_)
  · go_simp
  try simp only [List.getElem_toArray, List.getElem_cons_succ, List.getElem_cons_zero, Act.put, List.setIfInBounds_toArray, List.set_cons_zero, List.set_cons_succ]
  refine wpAnyS_take (i := 13) (v := .bool true) rfl (by kernel_rfl) (by kernel_rfl) (by kernel_rfl) (fun _ _ _ h => h) (fun _ _ => Iff.rfl) hc (by first | rfl | simp [Region.wanted]) (fun wx hx => ?_) S0 (fun hc S0 => ?_)
  · go_simp
  try simp only [List.getElem_toArray, List.getElem_cons_succ, List.getElem_cons_zero, Act.put, List.setIfInBounds_toArray, List.set_cons_zero, List.set_cons_succ]
  refine wpAnyS_take (i := 14) (v := .bool true) rfl (by kernel_rfl) (by kernel_rfl) (by kernel_rfl) (fun _ _ _ h => h) (fun _ _ => Iff.rfl) hc (by first | rfl | simp [Region.wanted]) (fun wx hx => ?_) S0 (fun hc S0 => ?_)
  · go_simp
  try simp only [List.getElem_toArray, List.getElem_cons_succ, List.getElem_cons_zero, Act.put, List.setIfInBounds_toArray, List.set_cons_zero, List.set_cons_succ]
  refine wpAnyS_take (i := 15) (v := .agg #[.slice a5 x1.length k5]) rfl (by kernel_rfl) (by kernel_rfl) (by kernel_rfl) (fun _ _ _ h => h) (fun _ _ => Iff.rfl) hc (by first | rfl | simp [Region.wanted]) (fun wx hx => ?_) S0 (fun hc S0 => ?_)
  · have g := (hx.still.cell (p := ⟨w5.heap.size, 0, none⟩) t13).trans x13
    go_simp
  try simp only [List.getElem_toArray, List.getElem_cons_succ, List.getElem_cons_zero, Act.put, List.setIfInBounds_toArray, List.set_cons_zero, List.set_cons_succ]
  refine wpAnyS_take (i := 16) (v := .agg #[.slice a7 x1.length k7]) rfl (by kernel_rfl) (by kernel_rfl) (by kernel_rfl) (fun _ _ _ h => h) (fun _ _ => Iff.rfl) hc (by first | rfl | simp [Region.wanted]) (fun wx hx => ?_) S0 (fun hc S0 => ?_)
  · have g := (hx.still.cell (p := ⟨w7.heap.size, 0, none⟩) u13).trans y13
    go_simp
  try simp only [List.getElem_toArray, List.getElem_cons_succ, List.getElem_cons_zero, Act.put, List.setIfInBounds_toArray, List.set_cons_zero, List.set_cons_succ]
  refine wpAnyS_one (i := 17) rfl (by kernel_rfl) (by rfl) hc (fun K' hK => ?_)
  go_simp
  refine (L1.out _ HD.out).mono ?_
  rintro e u1 ⟨rfl, hU1⟩
  refine hK.out _ _ hU1 (fun hc => ?_)
  clear hK K'
  have S0 : StillAt v10 #[] u1 := hU1
  try simp only [List.getElem_toArray, List.getElem_cons_succ, List.getElem_cons_zero, Act.put, List.setIfInBounds_toArray, List.set_cons_zero, List.set_cons_succ]
  refine wpAnyS_take (i := 18) (v := .bool true) rfl (by kernel_rfl) (by kernel_rfl) (by kernel_rfl) (fun _ _ _ h => h) (fun _ _ => Iff.rfl) hc (by first | rfl | simp [Region.wanted]) (fun wx hx => ?_) S0 (fun hc S0 => ?_)
  · go_simp
  try simp only [List.getElem_toArray, List.getElem_cons_succ, List.getElem_cons_zero, Act.put, List.setIfInBounds_toArray, List.set_cons_zero, List.set_cons_succ]
  refine wpAnyS_take (i := 19) (v := .bool true) rfl (by kernel_rfl) (by kernel_rfl) (by kernel_rfl) (fun _ _ _ h => h) (fun _ _ => Iff.rfl) hc (by first | rfl | simp [Region.wanted]) (fun wx hx => ?_) S0 (fun hc S0 => ?_)
  · go_simp
  try simp only [List.getElem_toArray, List.getElem_cons_succ, List.getElem_cons_zero, Act.put, List.setIfInBounds_toArray, List.set_cons_zero, List.set_cons_succ]
  refine wpAnyS_take (i := 20) (v := .int .i64 g2) rfl (by kernel_rfl) (by kernel_rfl) (by kernel_rfl) (fun _ _ _ h => h) (fun _ _ => Iff.rfl) hc (by first | rfl | simp [Region.wanted]) (fun wx hx => ?_) S0 (fun hc S0 => ?_)
  · go_simp
  try simp only [List.getElem_toArray, List.getElem_cons_succ, List.getElem_cons_zero, Act.put, List.setIfInBounds_toArray, List.set_cons_zero, List.set_cons_succ]
  refine wpAnyS_take (i := 21) (v := .int .i64 g2) rfl (by kernel_rfl) (by kernel_rfl) (by kernel_rfl) (fun _ _ _ h => h) (fun _ _ => Iff.rfl) hc (by first | rfl | simp [Region.wanted]) (fun wx hx => ?_) S0 (fun hc S0 => ?_)
  · go_simp
  try simp only [List.getElem_toArray, List.getElem_cons_succ, List.getElem_cons_zero, Act.put, List.setIfInBounds_toArray, List.set_cons_zero, List.set_cons_succ]
  refine wpAnyS_take (i := 22) (v := .bool true) rfl (by kernel_rfl) (by kernel_rfl) (by kernel_rfl) (fun _ _ _ h => h) (fun _ _ => Iff.rfl) hc (by first | rfl | simp [Region.wanted]) (fun wx hx => ?_) S0 (fun hc S0 => ?_)
  · go_simp
  try simp only [List.getElem_toArray, List.getElem_cons_succ, List.getElem_cons_zero, Act.put, List.setIfInBounds_toArray, List.set_cons_zero, List.set_cons_succ]
  refine wpAnyS_take (i := 23) (v := .bool true) rfl (by kernel_rfl) (by kernel_rfl) (by kernel_rfl) (fun _ _ _ h => h) (fun _ _ => Iff.rfl) hc (by first | rfl | simp [Region.wanted]) (fun wx hx => ?_) S0 (fun hc S0 => ?_)
  · go_simp
  try simp only [List.getElem_toArray, List.getElem_cons_succ, List.getElem_cons_zero, Act.put, List.setIfInBounds_toArray, List.set_cons_zero, List.set_cons_succ]
  refine wpAnyS_take (i := 24) (v := .bool true) rfl (by kernel_rfl) (by kernel_rfl) (by kernel_rfl) (fun _ _ _ h => h) (fun _ _ => Iff.rfl) hc (by first | rfl | simp [Region.wanted]) (fun wx hx => ?_) S0 (fun hc S0 => ?_)
  · go_simp
  try simp only [List.getElem_toArray, List.getElem_cons_succ, List.getElem_cons_zero, Act.put, List.setIfInBounds_toArray, List.set_cons_zero, List.set_cons_succ]
  refine wpAnyS_take (i := 25) (v := .int .i64 p2) rfl (by kernel_rfl) (by kernel_rfl) (by kernel_rfl) (fun _ _ _ h => h) (fun _ _ => Iff.rfl) hc (by first | rfl | simp [Region.wanted]) (fun wx hx => ?_) S0 (fun hc S0 => ?_)
  · go_simp
  try simp only [List.getElem_toArray, List.getElem_cons_succ, List.getElem_cons_zero, Act.put, List.setIfInBounds_toArray, List.set_cons_zero, List.set_cons_succ]
  refine wpAnyS_take (i := 26) (v := .int .i64 p2) rfl (by kernel_rfl) (by kernel_rfl) (by kernel_rfl) (fun _ _ _ h => h) (fun _ _ => Iff.rfl) hc (by first | rfl | simp [Region.wanted]) (fun wx hx => ?_) S0 (fun hc S0 => ?_)
  · go_simp
  try simp only [List.getElem_toArray, List.getElem_cons_succ, List.getElem_cons_zero, Act.put, List.setIfInBounds_toArray, List.set_cons_zero, List.set_cons_succ]
  refine wpAnyS_take (i := 27) (v := .bool true) rfl (by kernel_rfl) (by kernel_rfl) (by kernel_rfl) (fun _ _ _ h => h) (fun _ _ => Iff.rfl) hc (by first | rfl | simp [Region.wanted]) (fun wx hx => ?_) S0 (fun hc S0 => ?_)
  · go_simp
  try simp only [List.getElem_toArray, List.getElem_cons_succ, List.getElem_cons_zero, Act.put, List.setIfInBounds_toArray, List.set_cons_zero, List.set_cons_succ]
  refine wpAnyS_take (i := 28) (v := .bool true) rfl (by kernel_rfl) (by kernel_rfl) (by kernel_rfl) (fun _ _ _ h => h) (fun _ _ => Iff.rfl) hc (by first | rfl | simp [Region.wanted]) (fun wx hx => ?_) S0 (fun hc S0 => ?_)
  · go_simp
  try simp only [List.getElem_toArray, List.getElem_cons_succ, List.getElem_cons_zero, Act.put, List.setIfInBounds_toArray, List.set_cons_zero, List.set_cons_succ]
  refine wpAnyS_take (i := 29) (v := .bool true) rfl (by kernel_rfl) (by kernel_rfl) (by kernel_rfl) (fun _ _ _ h => h) (fun _ _ => Iff.rfl) hc (by first | rfl | simp [Region.wanted]) (fun wx hx => ?_) S0 (fun hc S0 => ?_)
  · go_simp
  try simp only [List.getElem_toArray, List.getElem_cons_succ, List.getElem_cons_zero, Act.put, List.setIfInBounds_toArray, List.set_cons_zero, List.set_cons_succ]
  refine wpAnyS_take (i := 30) (v := .slice a9 x2.length k9) rfl (by kernel_rfl) (by kernel_rfl) (by kernel_rfl) (fun _ _ _ h => h) (fun _ _ => Iff.rfl) hc (by first | rfl | simp [Region.wanted]) (fun wx hx => ?_) S0 (fun hc S0 => ?_)
  · go_simp
  try simp only [List.getElem_toArray, List.getElem_cons_succ, List.getElem_cons_zero, Act.put, List.setIfInBounds_toArray, List.set_cons_zero, List.set_cons_succ]
  refine wpAnyS_take (i := 31) (v := .slice a10 x2.length k10) rfl (by kernel_rfl) (by kernel_rfl) (by kernel_rfl) (fun _ _ _ h => h) (fun _ _ => Iff.rfl) hc (by first | rfl | simp [Region.wanted]) (fun wx hx => ?_) S0 (fun hc S0 => ?_)
  · go_simp
  try simp only [List.getElem_toArray, List.getElem_cons_succ, List.getElem_cons_zero, Act.put, List.setIfInBounds_toArray, List.set_cons_zero, List.set_cons_succ]
  refine wpAnyS_one (i := 32) rfl (by kernel_rfl) (by rfl) hc (fun K' hK => ?_)
  go_simp
  refine (L2.out _ hU1).mono ?_
  rintro e u2 ⟨rfl, hU2⟩
  refine hK.out _ _ hU2 (fun hc => ?_)
  clear hK K'
  have S0 : StillAt v10 #[] u2 := hU2
  try simp only [List.getElem_toArray, List.getElem_cons_succ, List.getElem_cons_zero, Act.put, List.setIfInBounds_toArray, List.set_cons_zero, List.set_cons_succ]
  refine wpAnyS_take (i := 33) (v := .bool true) rfl (by kernel_rfl) (by kernel_rfl) (by kernel_rfl) (fun _ _ _ h => h) (fun _ _ => Iff.rfl) hc (by first | rfl | simp [Region.wanted]) (fun wx hx => ?_) S0 (fun hc S0 => ?_)
  · go_simp
  try simp only [List.getElem_toArray, List.getElem_cons_succ, List.getElem_cons_zero, Act.put, List.setIfInBounds_toArray, List.set_cons_zero, List.set_cons_succ]
  refine wpAnyS_take (i := 34) (v := .bool true) rfl (by kernel_rfl) (by kernel_rfl) (by kernel_rfl) (fun _ _ _ h => h) (fun _ _ => Iff.rfl) hc (by first | rfl | simp [Region.wanted]) (fun wx hx => ?_) S0 (fun hc S0 => ?_)
  · go_simp
  try simp only [List.getElem_toArray, List.getElem_cons_succ, List.getElem_cons_zero, Act.put, List.setIfInBounds_toArray, List.set_cons_zero, List.set_cons_succ]
  refine wpAnyS_take (i := 35) (v := .bool rb) rfl (by kernel_rfl) (by kernel_rfl) (by kernel_rfl) (fun _ _ _ h => h) (fun _ _ => Iff.rfl) hc (by first | rfl | simp [Region.wanted]) (fun wx hx => ?_) S0 (fun hc S0 => ?_)
  · go_simp
  try simp only [List.getElem_toArray, List.getElem_cons_succ, List.getElem_cons_zero, Act.put, List.setIfInBounds_toArray, List.set_cons_zero, List.set_cons_succ]
  refine wpAnyS_take (i := 36) (v := .bool rb) rfl (by kernel_rfl) (by kernel_rfl) (by kernel_rfl) (fun _ _ _ h => h) (fun _ _ => Iff.rfl) hc (by first | rfl | simp [Region.wanted]) (fun wx hx => ?_) S0 (fun hc S0 => ?_)
  · go_simp
  try simp only [List.getElem_toArray, List.getElem_cons_succ, List.getElem_cons_zero, Act.put, List.setIfInBounds_toArray, List.set_cons_zero, List.set_cons_succ]
  refine wpAnyS_take (i := 37) (v := .bool true) rfl (by kernel_rfl) (by kernel_rfl) (by kernel_rfl) (fun _ _ _ h => h) (fun _ _ => Iff.rfl) hc (by first | rfl | simp [Region.wanted]) (fun wx hx => ?_) S0 (fun hc S0 => ?_)
  · go_simp
  try simp only [List.getElem_toArray, List.getElem_cons_succ, List.getElem_cons_zero, Act.put, List.setIfInBounds_toArray, List.set_cons_zero, List.set_cons_succ]
  refine wpAnyS_take (i := 38) (v := .bool true) rfl (by kernel_rfl) (by kernel_rfl) (by kernel_rfl) (fun _ _ _ h => h) (fun _ _ => Iff.rfl) hc (by first | rfl | simp [Region.wanted]) (fun wx hx => ?_) S0 (fun hc S0 => ?_)
  · go_simp
  try simp only [List.getElem_toArray, List.getElem_cons_succ, List.getElem_cons_zero, Act.put, List.setIfInBounds_toArray, List.set_cons_zero, List.set_cons_succ]
  refine wpAnyS_take (i := 39) (v := .bool true) rfl (by kernel_rfl) (by kernel_rfl) (by kernel_rfl) (fun _ _ _ h => h) (fun _ _ => Iff.rfl) hc (by first | rfl | simp [Region.wanted]) (fun wx hx => ?_) S0 (fun hc S0 => ?_)
  · go_simp
  try simp only [List.getElem_toArray, List.getElem_cons_succ, List.getElem_cons_zero, Act.put, List.setIfInBounds_toArray, List.set_cons_zero, List.set_cons_succ]
  refine wpAnyS_take (i := 40) (v := .slice a11 rl.length k11) rfl (by kernel_rfl) (by kernel_rfl) (by kernel_rfl) (fun _ _ _ h => h) (fun _ _ => Iff.rfl) hc (by first | rfl | simp [Region.wanted]) (fun wx hx => ?_) S0 (fun hc S0 => ?_)
  · go_simp
  try simp only [List.getElem_toArray, List.getElem_cons_succ, List.getElem_cons_zero, Act.put, List.setIfInBounds_toArray, List.set_cons_zero, List.set_cons_succ]
  refine wpAnyS_take (i := 41) (v := .slice a12 rl.length k12) rfl (by kernel_rfl) (by kernel_rfl) (by kernel_rfl) (fun _ _ _ h => h) (fun _ _ => Iff.rfl) hc (by first | rfl | simp [Region.wanted]) (fun wx hx => ?_) S0 (fun hc S0 => ?_)
  · go_simp
  try simp only [List.getElem_toArray, List.getElem_cons_succ, List.getElem_cons_zero, Act.put, List.setIfInBounds_toArray, List.set_cons_zero, List.set_cons_succ]
  refine wpAnyS_one (i := 42) rfl (by kernel_rfl) (by rfl) hc (fun K' hK => ?_)
  go_simp
  refine (L3.out _ hU2).mono ?_
  rintro e u3 ⟨rfl, hU3⟩
  refine hK.out _ _ hU3 (fun hc => ?_)
  clear hK K'
  have S0 : StillAt v10 #[] u3 := hU3
  try simp only [List.getElem_toArray, List.getElem_cons_succ, List.getElem_cons_zero, Act.put, List.setIfInBounds_toArray, List.set_cons_zero, List.set_cons_succ]
  refine wpAnyS_take (i := 43) (v := .bool true) rfl (by kernel_rfl) (by kernel_rfl) (by kernel_rfl) (fun _ _ _ h => h) (fun _ _ => Iff.rfl) hc (by first | rfl | simp [Region.wanted]) (fun wx hx => ?_) S0 (fun hc S0 => ?_)
  · go_simp
  try simp only [List.getElem_toArray, List.getElem_cons_succ, List.getElem_cons_zero, Act.put, List.setIfInBounds_toArray, List.set_cons_zero, List.set_cons_succ]
  refine wpAnyS_take (i := 44) (v := .bool true) rfl (by kernel_rfl) (by kernel_rfl) (by kernel_rfl) (fun _ _ _ h => h) (fun _ _ => Iff.rfl) hc (by first | rfl | simp [Region.wanted]) (fun wx hx => ?_) S0 (fun hc S0 => ?_)
  · go_simp
  try simp only [List.getElem_toArray, List.getElem_cons_succ, List.getElem_cons_zero, Act.put, List.setIfInBounds_toArray, List.set_cons_zero, List.set_cons_succ]
  refine wpAnyS_take (i := 45) (v := .agg #[.slice vd d.length cap]) rfl (by kernel_rfl) (by kernel_rfl) (by kernel_rfl) (fun _ _ _ h => h) (fun _ _ => Iff.rfl) hc (by first | rfl | simp [Region.wanted]) (fun wx hx => ?_) S0 (fun hc S0 => ?_)
  · have g := (hx.still.cell (p := ⟨w.heap.size, 0, none⟩) z13).trans c13
    go_simp
  try simp only [List.getElem_toArray, List.getElem_cons_succ, List.getElem_cons_zero, Act.put, List.setIfInBounds_toArray, List.set_cons_zero, List.set_cons_succ]
  refine wpAnyS_take (i := 47) (v := .agg #[.slice vd d.length cap]) rfl (by kernel_rfl) (by kernel_rfl) (by kernel_rfl) (fun _ _ _ h => h) (fun _ _ => Iff.rfl) hc (by first | rfl | simp [Region.wanted]) (fun wx hx => ?_) S0 (fun hc S0 => ?_)
  · have g := (hx.still.cell (p := ⟨w.heap.size, 0, none⟩) z13).trans c13
    go_simp
  try simp only [List.getElem_toArray, List.getElem_cons_succ, List.getElem_cons_zero, Act.put, List.setIfInBounds_toArray, List.set_cons_zero, List.set_cons_succ]
  refine wpAnyS_one (i := 46) rfl (by kernel_rfl) (by rfl) hc (fun K' hK => ?_)
  go_simp
  refine (L4.out _ hU3).mono ?_
  rintro e u4 ⟨la, lk, rfl, hL4, hU4, -⟩
  refine hK.out _ _ hU4 (fun hc => ?_)
  clear hK K'
  have S0 : StillAt v10 #[] u4 := hU4
  try simp only [List.getElem_toArray, List.getElem_cons_succ, List.getElem_cons_zero, Act.put, List.setIfInBounds_toArray, List.set_cons_zero, List.set_cons_succ]
  refine wpAnyS_one (i := 48) rfl (by kernel_rfl) (by rfl) hc (fun K' hK => ?_)
  go_simp
  refine (L5.out _ hU4).mono ?_
  rintro e u5 ⟨ma, mk, rfl, hM5, hU5, hB45⟩
  refine hK.out _ _ hU5 (fun hc => ?_)
  clear hK K'
  have HL6 := hid (show Calls Tryz.prog 23 #[.slice la (Fa.least d).length lk, .slice ma (Fa.least d).length mk] u5 (Upon v10 (.bool true)) from by
    have h := equal_any (Fa.least d) (Fa.least d) _ _ u5 (hL4.below hB45) hM5
    rw [decide_eq_true rfl] at h
    exact upon h hU5)
  have S0 : StillAt v10 #[] u5 := hU5
  try simp only [List.getElem_toArray, List.getElem_cons_succ, List.getElem_cons_zero, Act.put, List.setIfInBounds_toArray, List.set_cons_zero, List.set_cons_succ]
  refine wpAnyS_one (i := 49) rfl (by kernel_rfl) (by rfl) hc (fun K' hK => ?_)
  go_simp
  refine (HL6.out).mono ?_
  rintro e u6 ⟨rfl, hU6⟩
  refine hK.out _ _ hU6 (fun hc => ?_)
  clear hK K'
  have S0 : StillAt v10 #[] u6 := hU6
  try simp only [List.getElem_toArray, List.getElem_cons_succ, List.getElem_cons_zero, Act.put, List.setIfInBounds_toArray, List.set_cons_zero, List.set_cons_succ]
  refine wpAnyS_take (i := 50) (v := .bool true) rfl (by kernel_rfl) (by kernel_rfl) (by kernel_rfl) (fun _ _ _ h => h) (fun _ _ => Iff.rfl) hc (by first | rfl | simp [Region.wanted]) (fun wx hx => ?_) S0 (fun hc S0 => ?_)
  · go_simp
  try simp only [List.getElem_toArray, List.getElem_cons_succ, List.getElem_cons_zero, Act.put, List.setIfInBounds_toArray, List.set_cons_zero, List.set_cons_succ]
  refine wpAnyS_take (i := 51) (v := .bool true) rfl (by kernel_rfl) (by kernel_rfl) (by kernel_rfl) (fun _ _ _ h => h) (fun _ _ => Iff.rfl) hc (by first | rfl | simp [Region.wanted]) (fun wx hx => ?_) S0 (fun hc S0 => ?_)
  · go_simp
  try simp only [List.getElem_toArray, List.getElem_cons_succ, List.getElem_cons_zero, Act.put, List.setIfInBounds_toArray, List.set_cons_zero, List.set_cons_succ]
  refine wpAnyS_done (by kernel_rfl) ?_ _
  clear hc S0
  go_wp2_with fail
  go_ret
  exact ⟨rfl, Below.step H13.out.below hU6⟩

end Go.Proofs.YteogmlgmodeajaaGreatDoor
