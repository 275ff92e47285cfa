/-
  FactCases: the statement's function returns true. Conditions: what can be read of its arguments; the table of powers.
-/
import Derived.Test.YteogmlgmodeajaaDoorZFa15
import Derived.OwnWalk
namespace Go.Proofs.YteogmlgmodeajaaDoor
open Go.RowKit Go.Lib Go.Maps

set_option maxRecDepth 100000 in
set_option maxHeartbeats 8000000 in
theorem cases_law (d : Fa.Dom) (a b : List Int) (s : List UInt8) (v va vb : Value) (w : World) (h : SlOf w v 4 factC d) (has : SlOf w va 1 numC a) (hbs : SlOf w vb 1 numC b) (hs : s.length ≤ maxLen) (hT : Tab10 w) : Calls Tryd.prog 4 #[.agg #[v], va, vb, .string (bs s)] w (Gives (.bool true) w) := by
  obtain ⟨W2, hW2⟩ : ∃ W2, W2 = w.alloc (.cells #[v] 24) := ⟨_, rfl⟩
  have hb2 : Below w.heap.size w W2 := by rw [hW2]; exact (Below.refl _ w).alloc (Nat.le_refl _) _
  have H2 := hid (show HdW' w W2 w.heap.size v d from ⟨by rw [hW2]; exact One.new w _ _, h.below hb2, hT.below hb2, hb2⟩)
  have HA2 := hid (has.below hb2)
  have HB2 := hid (hbs.below hb2)
  obtain ⟨vd, cap, rfl, k1, k2, -⟩ := h
  obtain ⟨aa, ca, rfl, k3, k4, -⟩ := has
  obtain ⟨ab, cb, rfl, k5, k6, -⟩ := hbs
  have hl1 : a.length ≤ 9223372036854775807 := by unfold maxLen at k4; omega
  have hl2 : b.length ≤ 9223372036854775807 := by unfold maxLen at k6; omega
  have hl3 : (bs s).size ≤ 9223372036854775807 := by rw [bs_size]; unfold maxLen at hs; omega
  have HSZ := hid (bs_size s)
  clear hb2 hT k1 k2 k3 k4 k5 k6 hs
  go_enter Tryd.func4, Tryd.ntmps4
  go_upto_region 1 with (fail)
  rw [← hW2]
  clear hW2
  go_wp2_with fail
  refine (head_true W2 H2.out.tab).mono ?_
  rintro e w3 ⟨rfl, hb3⟩
  have H3 := hid (H2.out.step hb3)
  have HA3 := hid (HA2.out.below hb3)
  have HB3 := hid (HB2.out.below hb3)
  clear hb3
  have c3 := H3.out.one.cell
  have z3 := H3.out.one.lt
  go_wp2_with fail
  refine (few_any d a _ _ w3 H3.out.sl HA3.out).mono ?_
  rintro e w4 ⟨rfl, hb4⟩
  have H4 := hid (H3.out.step hb4)
  have HA4 := hid (HA3.out.below hb4)
  have HB4 := hid (HB3.out.below hb4)
  clear hb4 c3 z3
  cases hfw : (fewD d && decide (a.length ≤ 70)) with
  | false =>
    go_wp2_with fail
    go_ret
    exact ⟨rfl, H4.out.below⟩
  | true =>
    have hfd : fewD d = true ∧ a.length ≤ 70 := by simpa using hfw
    obtain ⟨hd70, hn100⟩ := fewD_parts hfd.1
    have ha70 := hfd.2
    clear hfw hfd
    have HN := hid (show ∀ f ∈ d, f.name.length ≤ 5000 from fun f hf => Nat.le_trans (hn100 f hf) (by decide))
    have hd5 : d.length ≤ 5000 := by omega
    clear hn100
    have c4 := H4.out.one.cell
    have z4 := H4.out.one.lt
    by_cases hbl : b.length ≤ 70
    · have d1 : decide ((70 : Int) < (b.length : Int)) = false := decide_eq_false (by omega)
      by_cases hsl : (bs s).size ≤ 3000
      · have d2 : decide ((3000 : Int) < ((bs s).size : Int)) = false := decide_eq_false (by omega)
        go_wp2_with fail
        refine (factCaseText_any d a _ _ w4 H4.out.sl HA4.out HN.out hd5 H4.out.tab).mono ?_
        rintro e w5 ⟨rfl, hb5⟩
        have H5 := hid (H4.out.step hb5)
        have HA5 := hid (HA4.out.below hb5)
        have HB5 := hid (HB4.out.below hb5)
        clear hb5 c4 z4
        have c5 := H5.out.one.cell
        have z5 := H5.out.one.lt
        have HTL := Fa.caseText_len d a
        have HPA := hid (parseCase_any d (.slice vd d.length cap) (Fa.caseText d a) w5 H5.out.sl HN.out hd5 (by omega))
        have HFA := hid (fun w' (H : HdW' w w' w.heap.size (.slice vd d.length cap) d) (HA : SlOf w' (.slice aa a.length ca) 1 numC a) => factFits_any d a _ _ w' H.sl HA HN.out hd5)
        clear HTL
        cases hft : Fa.fits d a with
        | true =>
          rw [hft] at HFA
          rw [Fa.parse_caseText hft] at HPA
          have HF := hid hft
          clear hft
          go_wp2_with fail
          refine (HPA.out).mono ?_
          rintro e w6 hp
          obtain ⟨a6, k6, rfl, hs6, hb6⟩ := hp.sl
          have H6 := hid (H5.out.step hb6)
          have HA6 := hid (HA5.out.below hb6)
          have HB6 := hid (HB5.out.below hb6)
          have HS6 := hid (show SlOf w6 (.slice a6 a.length k6) 1 numC a from hs6)
          clear hp hs6 hb6 c5 z5
          have c6 := H6.out.one.cell
          have z6 := H6.out.one.lt
          go_wp2_with fail
          refine (HFA.out w6 H6.out HA6.out).mono ?_
          rintro e w7 ⟨rfl, hb7⟩
          have H7 := hid (H6.out.step hb7)
          have HA7 := hid (HA6.out.below hb7)
          have HB7 := hid (HB6.out.below hb7)
          have HS7 := hid (HS6.out.below hb7)
          clear hb7 c6 z6
          go_wp2_with fail
          refine (equal_any a a _ _ w7 HS7.out HA7.out).mono ?_
          rw [decide_eq_true rfl]
          rintro e w8 ⟨rfl, hb8⟩
          have H8 := hid (H7.out.step hb8)
          have HA8 := hid (HA7.out.below hb8)
          have HB8 := hid (HB7.out.below hb8)
          clear hb8
          have c8 := H8.out.one.cell
          have z8 := H8.out.one.lt
          go_wp2_with fail
          refine (HFA.out w8 H8.out HA8.out).mono ?_
          rintro e w9 ⟨rfl, hb9⟩
          have H9 := hid (H8.out.step hb9)
          have HA9 := hid (HA8.out.below hb9)
          have HB9 := hid (HB8.out.below hb9)
          clear hb9 c8 z8
          have c9 := H9.out.one.cell
          have z9 := H9.out.one.lt
          go_wp2_with fail
          refine (factFits_any d b _ _ w9 H9.out.sl HB9.out HN.out hd5).mono ?_
          rintro e w10 ⟨rfl, hb10⟩
          have H10 := hid (H9.out.step hb10)
          have HA10 := hid (HA9.out.below hb10)
          have HB10 := hid (HB9.out.below hb10)
          clear hb10 c9 z9
          have c10 := H10.out.one.cell
          have z10 := H10.out.one.lt
          cases hfb : Fa.fits d b with
          | false =>
            go_wp2_with fail
            refine (HFA.out w10 H10.out HA10.out).mono ?_
            rintro e w13 ⟨rfl, hb13⟩
            have H13 := hid (H10.out.step hb13)
            clear hb13 c10 z10
            have ct := H13.out.one.cell
            have zt := H13.out.one.lt
            rcases hr : Fa.parseCase d s with ⟨c, er, p⟩
            have ho := Fa.parseCase_out (d := d) (s := s) (by have := HSZ.out; omega)
            rw [hr] at ho
            have HO := hid ho
            have HPC := hid (parseCase_any d _ s w13 H13.out.sl HN.out hd5 (by have := HSZ.out; omega))
            rw [hr] at HPC
            clear hr ho
            by_cases he : er = 0
            · subst he
              have HO2 := hid (HO.out.2 rfl)
              obtain rfl : p = 0 := HO2.out.2
              go_wp2_with fail
              refine (HPC.out).mono ?_
              rintro e wa hp
              obtain ⟨aa8, ka8, rfl, hsa, hba⟩ := hp.sl
              have HTa := hid (H13.out.step hba)
              have HSa := hid (show SlOf wa (.slice aa8 c.length ka8) 1 numC c from hsa)
              clear hp hsa hba ct zt
              have ct := HTa.out.one.cell
              have zt := HTa.out.one.lt
              go_wp2_with fail
              refine (factFits_any d c _ _ wa HTa.out.sl HSa.out HN.out hd5).mono ?_
              rw [show Fa.fits d c = true from HO2.out.1]
              rintro e wb ⟨rfl, hbb⟩
              go_wp2_with fail
              go_ret
              exact ⟨rfl, Below.step HTa.out.below hbb⟩
            · have hne : (er != 0) = true := by rw [bne_iff_ne]; exact he
              obtain ⟨q1, q2⟩ := HO.out.1 he
              obtain rfl : c = [] := q1
              have q3 : decide (p ≤ ((bs s).size : Int)) = true := decide_eq_true (by have := HSZ.out; have q4 : p ≤ (s.length : Int) := q2; omega)
              clear he
              go_wp2_with fail
              refine (HPC.out).mono ?_
              rintro e wa hp
              obtain ⟨aa8, ka8, rfl, hsa, hba⟩ := hp.sl
              have HBa := hid (Below.step H13.out.below hba)
              clear hp hsa hba ct zt
              go_wp2_with fail
              go_ret
              exact ⟨rfl, HBa.out⟩
          | true =>
            go_wp2_with fail
            refine (factCaseText_any d b _ _ w10 H10.out.sl HB10.out HN.out hd5 H10.out.tab).mono ?_
            rintro e w11 ⟨rfl, hb11⟩
            have H11 := hid (H10.out.step hb11)
            have HA11 := hid (HA10.out.below hb11)
            have HB11 := hid (HB10.out.below hb11)
            clear hb11 c10 z10
            obtain ⟨q, hq⟩ : ∃ q, q = decide (a = b) := ⟨_, rfl⟩
            have hqt : ((bs (Fa.caseText d a)).toList == (bs (Fa.caseText d b)).toList) = q := by
              rw [name_beq, hq, decide_eq_decide]
              exact ⟨fun e => Fa.caseText_inj HF.out hfb e, fun e => by rw [e]⟩
            have HQ := hid hq
            clear hq
            go_wp2_with fail
            refine (equal_any a b _ _ w11 HA11.out HB11.out).mono ?_
            rw [← HQ.out]
            rintro e w12 ⟨rfl, hb12⟩
            have H12 := hid (H11.out.step hb12)
            have HA12 := hid (HA11.out.below hb12)
            clear hb12
            have c12 := H12.out.one.cell
            have z12 := H12.out.one.lt
            have hqq : (q != q) = false := by cases q <;> rfl
            go_wp2_with fail
            refine (HFA.out w12 H12.out HA12.out).mono ?_
            rintro e w13 ⟨rfl, hb13⟩
            have H13 := hid (H12.out.step hb13)
            clear hb13 c12 z12 hqt hqq
            have ct := H13.out.one.cell
            have zt := H13.out.one.lt
            rcases hr : Fa.parseCase d s with ⟨c, er, p⟩
            have ho := Fa.parseCase_out (d := d) (s := s) (by have := HSZ.out; omega)
            rw [hr] at ho
            have HO := hid ho
            have HPC := hid (parseCase_any d _ s w13 H13.out.sl HN.out hd5 (by have := HSZ.out; omega))
            rw [hr] at HPC
            clear hr ho
            by_cases he : er = 0
            · subst he
              have HO2 := hid (HO.out.2 rfl)
              obtain rfl : p = 0 := HO2.out.2
              go_wp2_with fail
              refine (HPC.out).mono ?_
              rintro e wa hp
              obtain ⟨aa8, ka8, rfl, hsa, hba⟩ := hp.sl
              have HTa := hid (H13.out.step hba)
              have HSa := hid (show SlOf wa (.slice aa8 c.length ka8) 1 numC c from hsa)
              clear hp hsa hba ct zt
              have ct := HTa.out.one.cell
              have zt := HTa.out.one.lt
              go_wp2_with fail
              refine (factFits_any d c _ _ wa HTa.out.sl HSa.out HN.out hd5).mono ?_
              rw [show Fa.fits d c = true from HO2.out.1]
              rintro e wb ⟨rfl, hbb⟩
              go_wp2_with fail
              go_ret
              exact ⟨rfl, Below.step HTa.out.below hbb⟩
            · have hne : (er != 0) = true := by rw [bne_iff_ne]; exact he
              obtain ⟨q1, q2⟩ := HO.out.1 he
              obtain rfl : c = [] := q1
              have q3 : decide (p ≤ ((bs s).size : Int)) = true := decide_eq_true (by have := HSZ.out; have q4 : p ≤ (s.length : Int) := q2; omega)
              clear he
              go_wp2_with fail
              refine (HPC.out).mono ?_
              rintro e wa hp
              obtain ⟨aa8, ka8, rfl, hsa, hba⟩ := hp.sl
              have HBa := hid (Below.step H13.out.below hba)
              clear hp hsa hba ct zt
              go_wp2_with fail
              go_ret
              exact ⟨rfl, HBa.out⟩
        | false =>
          rw [hft] at HFA
          have htx : bs (Fa.caseText d a) = ⟨#[]⟩ := by rw [caseText_not hft]; rfl
          rw [htx]
          clear hft
          rcases hr0 : Fa.parseCase d (Fa.caseText d a) with ⟨c0, er0, p0⟩
          rw [hr0, htx] at HPA
          clear hr0 htx
          go_wp2_with fail
          refine (HPA.out).mono ?_
          rintro e w6 hp
          obtain ⟨a6, k6, rfl, hs6, hb6⟩ := hp.sl
          have H6 := hid (H5.out.step hb6)
          have HA6 := hid (HA5.out.below hb6)
          clear hp hs6 hb6 c5 z5
          have c6 := H6.out.one.cell
          have z6 := H6.out.one.lt
          go_wp2_with fail
          refine (HFA.out w6 H6.out HA6.out).mono ?_
          rintro e w7 ⟨rfl, hb7⟩
          have H7 := hid (H6.out.step hb7)
          have HA7 := hid (HA6.out.below hb7)
          clear hb7 c6 z6
          have c7 := H7.out.one.cell
          have z7 := H7.out.one.lt
          go_wp2_with fail
          refine (HFA.out w7 H7.out HA7.out).mono ?_
          rintro e w8 ⟨rfl, hb8⟩
          have H8 := hid (H7.out.step hb8)
          have HA8 := hid (HA7.out.below hb8)
          clear hb8 c7 z7
          have c8 := H8.out.one.cell
          have z8 := H8.out.one.lt
          go_wp2_with fail
          refine (HFA.out w8 H8.out HA8.out).mono ?_
          rintro e w13 ⟨rfl, hb13⟩
          have H13 := hid (H8.out.step hb13)
          clear hb13 c8 z8
          have ct := H13.out.one.cell
          have zt := H13.out.one.lt
          rcases hr : Fa.parseCase d s with ⟨c, er, p⟩
          have ho := Fa.parseCase_out (d := d) (s := s) (by have := HSZ.out; omega)
          rw [hr] at ho
          have HO := hid ho
          have HPC := hid (parseCase_any d _ s w13 H13.out.sl HN.out hd5 (by have := HSZ.out; omega))
          rw [hr] at HPC
          clear hr ho
          by_cases he : er = 0
          · subst he
            have HO2 := hid (HO.out.2 rfl)
            obtain rfl : p = 0 := HO2.out.2
            go_wp2_with fail
            refine (HPC.out).mono ?_
            rintro e wa hp
            obtain ⟨aa8, ka8, rfl, hsa, hba⟩ := hp.sl
            have HTa := hid (H13.out.step hba)
            have HSa := hid (show SlOf wa (.slice aa8 c.length ka8) 1 numC c from hsa)
            clear hp hsa hba ct zt
            have ct := HTa.out.one.cell
            have zt := HTa.out.one.lt
            go_wp2_with fail
            refine (factFits_any d c _ _ wa HTa.out.sl HSa.out HN.out hd5).mono ?_
            rw [show Fa.fits d c = true from HO2.out.1]
            rintro e wb ⟨rfl, hbb⟩
            go_wp2_with fail
            go_ret
            exact ⟨rfl, Below.step HTa.out.below hbb⟩
          · have hne : (er != 0) = true := by rw [bne_iff_ne]; exact he
            obtain ⟨q1, q2⟩ := HO.out.1 he
            obtain rfl : c = [] := q1
            have q3 : decide (p ≤ ((bs s).size : Int)) = true := decide_eq_true (by have := HSZ.out; have q4 : p ≤ (s.length : Int) := q2; omega)
            clear he
            go_wp2_with fail
            refine (HPC.out).mono ?_
            rintro e wa hp
            obtain ⟨aa8, ka8, rfl, hsa, hba⟩ := hp.sl
            have HBa := hid (Below.step H13.out.below hba)
            clear hp hsa hba ct zt
            go_wp2_with fail
            go_ret
            exact ⟨rfl, HBa.out⟩
      · have d2 : decide ((3000 : Int) < ((bs s).size : Int)) = true := decide_eq_true (by omega)
        go_wp2_with fail
        go_ret
        exact ⟨rfl, H4.out.below⟩
    · have d1 : decide ((70 : Int) < (b.length : Int)) = true := decide_eq_true (by omega)
      go_wp2_with fail
      go_ret
      exact ⟨rfl, H4.out.below⟩

end Go.Proofs.YteogmlgmodeajaaDoor
