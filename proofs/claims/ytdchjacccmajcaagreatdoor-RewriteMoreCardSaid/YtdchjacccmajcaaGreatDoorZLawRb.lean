/-
  RewriteMore: the statement's function returns true. Conditions: what can be read of its arguments.
-/
import Derived.Test.YtdchjacccmajcaaGreatDoorZRn8
namespace Fo
theorem max_wrap {most more : Int} (h1 : most ≤ 100000) (h2 : 0 ≤ more) (h3 : more ≤ 255) : Go.IntKind.i64.wrap (max most (-1000) + more) = max most (-1000) + more := Go.IntWalk.i64_in _ (by omega)
end Fo
namespace Go.Proofs.YtdchjacccmajcaaGreatDoor
open Go.RowKit Go.Lib Go.Maps

theorem Tryz.infoStrM : (Tryz.prog.info? 9).map (fun i => (i.zero, i.size, i.bytes)) = some (some (.string ⟨#[]⟩), 1, 16) := by kernel_rfl
theorem Tryz.infoIntM : (Tryz.prog.info? 3).map (fun i => (i.zero, i.size, i.bytes)) = some (some (.int .i64 0), 1, 8) := by kernel_rfl
/-- a row of another type is kept -/
theorem ownsRow_other {w w' : World} {B B2 : Nat} {e1 e2 : TypeId} {s1 s2 n1 n2 : Nat} {v1 v2 : Value} {x1 x2 : List Value} (h1 : w.ownsRow B e1 s1 v1 n1 x1) (h2 : w.ownsRow B2 e2 s2 v2 n2 x2) (he : e1 ≠ e2) (hg : w.grownBy w' v2.ownBlock) : w'.ownsRow B e1 s1 v1 n1 x1 := by
  refine h1.kept hg ?_
  cases hv : v1.ownBlock with
  | none => exact .inl rfl
  | some q =>
    refine .inr fun e => ?_
    obtain ⟨_, c1, k1⟩ := own_cells h1 hv
    obtain ⟨_, c2, k2⟩ := own_cells h2 e.symm
    rw [k1] at k2
    cases k2
    exact he rfl

set_option maxRecDepth 100000 in
set_option maxHeartbeats 20000000 in
theorem more_law (t : Rw.Table) (tv : Value) (k : Int) (word : List UInt8) (most more : Int) (W : World) (ht : TableRaw W t tv) (hT : Tabs W) (h10 : Tab10 W) (hx : word.length ≤ maxLen) (hm0 : 0 ≤ more) (hm1 : more ≤ 255) :
    Calls Tryz.prog 5 #[tv, .int .i64 k, .string (bs word), .int .i64 most, .int .u8 more] W (Gives (.bool true) W) := by
  have HT := hid ht
  have HTT := hid hT
  have H10 := hid h10
  obtain ⟨⟨vr, vd, ve, rfl, ⟨ar, cr, rfl, -⟩, ⟨ad, cd, rfl, -⟩, ⟨ae, ce, rfl, -⟩⟩, -, -, -⟩ := ht
  clear hT h10
  obtain ⟨W1, hW1⟩ : ∃ W1, W1 = W.alloc (.cells #[.slice ar t.rules.length cr, .slice ad t.drops.length cd, .slice ae t.ends.length ce, .int .i64 t.drop, .int .i64 t.order, .int .i64 t.initial] 25) := ⟨_, rfl⟩
  have hb1 : Below W.heap.size W W1 := by rw [hW1]; exact (Below.refl _ W).alloc (Nat.le_refl _) _
  have T1 := hid (show Blk W1 W.heap.size 25 [.slice ar t.rules.length cr, .slice ad t.drops.length cd, .slice ae t.ends.length ce, .int .i64 t.drop, .int .i64 t.order, .int .i64 t.initial] by rw [hW1]; exact Blk.new W _ _)
  have HH := hid (head_true W1 (HTT.out.below hb1) (H10.out.below hb1))
  have B1 := hid hb1
  clear hb1
  go_enter Tryz.func5, Tryz.ntmps5
  go_upto_region 1 with (fail)
  rw [← hW1]
  clear hW1
  go_wp2_with fail
  refine (HH.out).mono ?_
  rintro e W2 ⟨rfl, hb2⟩
  have B2 := hid (Below.step B1.out hb2)
  have T2 := hid (T1.out.below hb2)
  clear hb2 HH
  have t0 := T2.out.cell (j := 0) rfl
  have t1 := T2.out.cell (j := 1) rfl
  have t2 := T2.out.cell (j := 2) rfl
  have t3 := T2.out.cell (j := 3) rfl
  have t4 := T2.out.cell (j := 4) rfl
  have t5 := T2.out.cell (j := 5) rfl
  have tl := T2.out.lt
  have HF := hid (few10_any t _ W2 (HT.out.below B2.out))
  go_wp2_with fail
  refine (HF.out).mono ?_
  rintro e W3 ⟨rfl, hbf⟩
  have B3 := hid (Below.step B2.out hbf)
  have T3 := hid (T2.out.below hbf)
  clear hbf HF t0 t1 t2 t3 t4 t5 tl
  cases hfew : Rw.fewB t with
  | false =>
    go_wp2_with fail
    go_ret
    exact ⟨rfl, B3.out⟩
  | true =>
  have TA := hid (HT.out.few10 hfew)
  clear hfew
  have hsz : (bs word).size = word.length := bs_len word
  by_cases h60 : word.length ≤ 60
  rotate_left
  · have g60 : decide ((60 : Int) < ((bs word).size : Int)) = true := decide_eq_true (by omega)
    have hmx : (bs word).size ≤ 9223372036854775807 := by unfold maxLen at hx; omega
    clear h60 hsz
    have t0 := T3.out.cell (j := 0) rfl
    have t1 := T3.out.cell (j := 1) rfl
    have t2 := T3.out.cell (j := 2) rfl
    have t3 := T3.out.cell (j := 3) rfl
    have t4 := T3.out.cell (j := 4) rfl
    have t5 := T3.out.cell (j := 5) rfl
    have tl := T3.out.lt
    go_wp2_with fail
    go_ret
    exact ⟨rfl, B3.out⟩
  have g60 : decide ((60 : Int) < ((bs word).size : Int)) = false := decide_eq_false (by omega)
  have hmx : (bs word).size ≤ 9223372036854775807 := by omega
  have H60 := hid h60
  clear h60 hsz
  have t0 := T3.out.cell (j := 0) rfl
  have t1 := T3.out.cell (j := 1) rfl
  have t2 := T3.out.cell (j := 2) rfl
  have t3 := T3.out.cell (j := 3) rfl
  have t4 := T3.out.cell (j := 4) rfl
  have t5 := T3.out.cell (j := 5) rfl
  have tl := T3.out.lt
  have HV := hid (valid_any t _ W3 (TA.out.below B3.out) (HTT.out.below B3.out))
  go_wp2_with fail
  refine (HV.out).mono ?_
  rintro e W4 ⟨rfl, hbf⟩
  have B4 := hid (Below.step B3.out hbf)
  have T4 := hid (T3.out.below hbf)
  clear hbf HV t0 t1 t2 t3 t4 t5 tl
  cases hv : Rw.valid t with
  | false =>
    clear hv
    go_wp2_with fail
    go_ret
    exact ⟨rfl, B4.out⟩
  | true =>
  have HVV := hid hv
  clear hv
  by_cases hmm : most ≤ 100000
  rotate_left
  · have gm : decide ((100000 : Int) < most) = true := decide_eq_true (by omega)
    clear hmm
    go_wp2_with fail
    go_ret
    exact ⟨rfl, B4.out⟩
  have gm : decide ((100000 : Int) < most) = false := decide_eq_false (by omega)
  have hb60 : (bs word).size ≤ 1000000 := by rw [bs_len]; have := H60.out; omega
  have HMW := hid (Fo.max_wrap hmm hm0 hm1)
  obtain ⟨m', hm'⟩ : ∃ m', m' = max most (-1000) + more := ⟨_, rfl⟩
  have HMP := hid hm'
  have hle : most ≤ m' := by omega
  have hwr : IntKind.i64.wrap (max most (-1000) + more) = m' := by rw [HMW.out, hm']
  have HLE := hid hle
  have hu8 : IntKind.i64.wrap more = more := IntWalk.i64_in _ (by omega)
  clear hm' hle
  by_cases hl : Fo.letters k word = []
  · have HL := hid hl
    clear hl
    have t0 := T4.out.cell (j := 0) rfl
    have t1 := T4.out.cell (j := 1) rfl
    have t2 := T4.out.cell (j := 2) rfl
    have t3 := T4.out.cell (j := 3) rfl
    have t4 := T4.out.cell (j := 4) rfl
    have t5 := T4.out.cell (j := 5) rfl
    have tl := T4.out.lt
    have C4 := hid (forms_no (k := k) (word := bs word) (most := most) (TA.out.below B4.out) (HTT.out.below B4.out) hb60 (.inl (by rw [bs_list]; exact HL.out)))
    go_wp2_with fail
    refine (C4.out).mono ?_
    rintro e W5 ⟨rfl, hb⟩
    have B5 := hid (Below.step B4.out hb)
    have T5 := hid (T4.out.below hb)
    clear hb t0 t1 t2 t3 t4 t5 tl
    have t0 := T5.out.cell (j := 0) rfl
    have t1 := T5.out.cell (j := 1) rfl
    have t2 := T5.out.cell (j := 2) rfl
    have t3 := T5.out.cell (j := 3) rfl
    have t4 := T5.out.cell (j := 4) rfl
    have t5 := T5.out.cell (j := 5) rfl
    have tl := T5.out.lt
    have C5 := hid (forms_no (k := k) (word := bs word) (most := m') (TA.out.below B5.out) (HTT.out.below B5.out) hb60 (.inl (by rw [bs_list]; exact HL.out)))
    go_wp2_with fail
    refine (C5.out).mono ?_
    rintro e W6 ⟨rfl, hb⟩
    have B6 := hid (Below.step B5.out hb)
    clear hb
    go_wp2_with fail
    go_ret
    exact ⟨rfl, B6.out⟩
  · obtain ⟨L, hL⟩ : ∃ L, L = Fo.letters k word := ⟨_, rfl⟩
    have HLL := hid (show Fo.letters k word = L ∧ L ≠ [] from ⟨hL.symm, by rw [hL]; exact hl⟩)
    clear hL hl
    have t0 := T4.out.cell (j := 0) rfl
    have t1 := T4.out.cell (j := 1) rfl
    have t2 := T4.out.cell (j := 2) rfl
    have t3 := T4.out.cell (j := 3) rfl
    have t4 := T4.out.cell (j := 4) rfl
    have t5 := T4.out.cell (j := 5) rfl
    have tl := T4.out.lt
    have C4 := hid (forms_ans (k := k) (word := bs word) most (TA.out.below B4.out) (HTT.out.below B4.out) hb60 HVV.out (by rw [bs_list]; exact HLL.out.1) HLL.out.2)
    go_wp2_with fail
    refine (C4.out).mono ?_
    rintro e W5 ⟨a, m, e1, xa, xc, ya, yc, rfl, h1, h2, h3, hb⟩
    have B5 := hid (Below.step B4.out hb)
    have T5 := hid (T4.out.below hb)
    have HA := hid (And.intro h1 (And.intro h2 h3))
    clear C4 h1 h2 h3 hb t0 t1 t2 t3 t4 t5 tl
    have t0 := T5.out.cell (j := 0) rfl
    have t1 := T5.out.cell (j := 1) rfl
    have t2 := T5.out.cell (j := 2) rfl
    have t3 := T5.out.cell (j := 3) rfl
    have t4 := T5.out.cell (j := 4) rfl
    have t5 := T5.out.cell (j := 5) rfl
    have tl := T5.out.lt
    have C5 := hid (forms_ans (k := k) (word := bs word) m' (TA.out.below B5.out) (HTT.out.below B5.out) hb60 HVV.out (by rw [bs_list]; exact HLL.out.1) HLL.out.2)
    go_wp2_with fail
    refine (C5.out).mono ?_
    rintro e W6 ⟨b, n, e2, za, zc, wa, wc, rfl, h1, h2, h3, hb⟩
    have B6 := hid (Below.step B5.out hb)
    have T6 := hid (T5.out.below hb)
    have HB := hid (And.intro h1 (And.intro h2 h3))
    have HA := hid (And.intro (HA.out.1.below hb) (And.intro (HA.out.2.1.below hb) HA.out.2.2))
    clear C5 h1 h2 h3 hb t0 t1 t2 t3 t4 t5 tl
    have hlb := HB.out.2.2.len
    rcases hlb.2.2 with rfl | rfl
    rotate_left
    · clear hlb
      go_wp2_with fail
      go_ret
      exact ⟨rfl, B6.out⟩
    · have HFB := hid (show Fo.Forms Fo.lt L (Al.rulesFrom k 0 t.rules) m' b n by
        have h := HB.out.2.2
        generalize he : (0 : Int) = z at h
        cases h with
        | many _ => cases he
        | ok h => exact h)
      have HFA := hid (show e1 = 0 ∧ Fo.Forms Fo.lt L (Al.rulesFrom k 0 t.rules) most a m by
        have h := HA.out.2.2
        cases h with
        | many h => exact absurd (h.mono HLE.out) HFB.out.not_many
        | ok h => exact ⟨rfl, h⟩)
      obtain ⟨rfl, -⟩ := HFA.out
      have HUP := hid (Fo.forms_two HVV.out HFA.out.2 HFB.out HLE.out)
      have hb1k := HFB.out.few
      have hlen := HFB.out.len
      obtain ⟨nb, hnb⟩ : ∃ q, q = b.length := ⟨_, rfl⟩
      obtain ⟨na, hna⟩ : ∃ q, q = a.length := ⟨_, rfl⟩
      have HNE := hid (show most < 0 → na = 0 from fun h => by rw [hna, HFA.out.2.none_ (Fo.good_rules HVV.out k) h]; rfl)
      rw [hlen]
      rw [← hnb] at hlen hb1k ⊢
      rw [← hna]
      have HNB := hid (And.intro hnb (And.intro hlen hna))
      have g1 : ((nb : Int) != (nb : Int)) = false := by simp
      obtain ⟨i1, hi1, hz1, hs1, hy1⟩ := info_parts Tryz.infoStrM
      obtain ⟨i2, hi2, hz2, hs2, hy2⟩ := info_parts Tryz.infoIntM
      clear hlb hlen hna hnb
      have hloop : True := trivial
      by_cases hneg : most < 0
      · have g2 : decide (most < 0) = true := decide_eq_true hneg
        have hna0 := HNE.out hneg
        have g3 : decide (0 < na) = false := decide_eq_false (by omega)
        have g4 : decide ((0 : Int) < (na : Int)) = false := decide_eq_false (by omega)
        clear hneg hna0
        go_wp2_with fail
        go_loopw [18, 19, 20] (fun cv kv iv wr => ∃ (i : Nat) (cv' kv' : Value), i ≤ nb ∧ iv = .int .i64 i ∧ cv' = cv ∧ kv' = kv ∧ Hid (wr.ownsRow W6.heap.size 9 1 cv' (Fo.upTo most (b.take i) (n.take i)).1.length ((Fo.upTo most (b.take i) (n.take i)).1.flatMap strC) ∧ wr.ownsRow W6.heap.size 3 1 kv' (Fo.upTo most (b.take i) (n.take i)).2.length ((Fo.upTo most (b.take i) (n.take i)).2.flatMap numC)) ∧ Hid (Below W6.heap.size W6 wr)) (fun _ _ iv _ => nb - (RowKit.intOf iv).toNat)
        case atStart => exact ⟨0, _, _, Nat.zero_le _, rfl, rfl, rfl, hid ⟨by rw [List.take_zero, Fo.upTo_nil]; exact World.ownsRow_nil _ _ _ _, by rw [List.take_zero, Fo.upTo_nil]; exact World.ownsRow_nil _ _ _ _⟩, Below.refl _ _⟩
        case round =>
          obtain ⟨i, cv, kv, hi, rfl, rfl, rfl, HO, HR⟩ := hrel
          obtain ⟨ca, cc, rfl⟩ := ownsRow_slice HO.out.1
          obtain ⟨ka, kc, rfl⟩ := ownsRow_slice HO.out.2
          by_cases hlt : i < nb
          · obtain ⟨f, hf⟩ : ∃ f, b[i]? = some f := ⟨_, List.getElem?_eq_getElem (by rw [← HNB.out.1]; exact hlt)⟩
            obtain ⟨c, hc⟩ : ∃ c, n[i]? = some c := ⟨_, List.getElem?_eq_getElem (by rw [HNB.out.2.1]; exact hlt)⟩
            have HUS := hid (Fo.upTo_step (b := most) hf hc)
            have HLU := hid (show (Fo.upTo most (b.take i) (n.take i)).1.length ≤ 1000 ∧ (Fo.upTo most (b.take i) (n.take i)).2.length = (Fo.upTo most (b.take i) (n.take i)).1.length from ⟨by
              have := (Fo.upTo_sub most (b.take i) (n.take i)).length_le
              rw [List.length_take] at this
              omega, Fo.upTo_len _ _ _⟩)
            obtain ⟨C, hC⟩ : ∃ C, C = (Fo.upTo most (b.take i) (n.take i)).1 := ⟨_, rfl⟩
            obtain ⟨K, hK⟩ : ∃ K, K = (Fo.upTo most (b.take i) (n.take i)).2 := ⟨_, rfl⟩
            rw [← hC, ← hK] at HO HLU
            rw [← hC, ← hK]
            obtain ⟨lc, hlc⟩ : ∃ q, q = C.length := ⟨_, rfl⟩
            have hlk : K.length = lc := by rw [HLU.out.2, hlc]
            have hlc1 : lc ≤ 1000 := by rw [hlc]; exact HLU.out.1
            rw [← hlc, hlk] at HO ⊢
            have HLC := hid (And.intro hlc hlk)
            have HCK := hid (And.intro hC hK)
            clear hC hK hlc hlk
            obtain ⟨gz, oz, rfl, z1, y1⟩ := rn_cell1 (f := fun x => Value.string (bs x)) (HB.out.1.below HR.out) hf
            obtain ⟨gw, ow, rfl, z2, y2⟩ := rn_cell1 (f := fun x => Value.int .i64 x) (HB.out.2.1.below HR.out) hc
            have i0 : (0 : Int) ≤ (i : Int) := by omega
            have i1' : (i : Int) < (nb : Int) := by omega
            have HFC := hid (And.intro hf hc)
            clear hf hc
            by_cases hcm : c ≤ most
            · have gc : decide (c ≤ most) = true := decide_eq_true hcm
              have HUS2 := hid (show (Fo.upTo most (b.take (i + 1)) (n.take (i + 1))) = (C ++ [f], K ++ [c]) by rw [HUS.out, if_pos hcm, ← HCK.out.1, ← HCK.out.2])
              clear hcm
              obtain ⟨Y1, hY1⟩ : ∃ Y, Y = wr.alloc (.cells #[.string (bs f)] 9) := ⟨_, rfl⟩
              have HBY1 := hid (show Below wr.heap.size wr Y1 by rw [hY1]; exact (Below.refl _ wr).alloc (Nat.le_refl _) _)
              have hn1 : ∀ j u, ([.string (bs f)] : List Value)[j]? = some u → Y1.cell? ((⟨wr.heap.size, 0, none⟩ : Addr).add j) = some u := by rw [hY1]; exact cells_new rfl
              have ho1 := ownsRow_below HO.out.1 HBY1.out
              have HOK := hid (ownsRow_below HO.out.2 HBY1.out)
              have hz6 := HR.out.size
              have hz7 := HBY1.out.size
              rw [hY1] at hn1 ho1 hz7
              have HY1 := hid hY1
              clear hY1
              go_upto_region 17 with (at_builtin; refine wpList_append_own _ rfl _ _ 28 rfl W6.heap.size 9 i1 (.string ⟨#[]⟩) 1 16 Tryz.underlying28 hi1 hz1 hs1 hy1 rfl (by decide) _ _ _ rfl ho1 ⟨wr.heap.size, 0, none⟩ 1 1 [.string (bs f)] rfl rfl hn1 (by simp [Value.oneCell']) (by unfold maxLen; omega) (by omega) (by omega) ?_; intro v1 Z1 hp1 hq1 _; rw [← HY1.out] at hq1)
              obtain ⟨va1, vc1, rfl⟩ := ownsRow_slice hp1
              have HOK1 := hid (ownsRow_other HOK.out (by have := ho1; rw [← HY1.out] at this; exact this) (by decide) hq1)
              have HRZ1 := hid (show Below W6.heap.size W6 Z1 from Below.appended (HR.out.trans (HBY1.out.mono hz6)) hq1 (by have := HBY1.out.size; omega) (by have := ho1; rw [← HY1.out] at this; exact this))
              obtain ⟨z3, y3⟩ : gw < Z1.heap.size ∧ Z1.cell? ⟨gw, ow + i, none⟩ = some (.int .i64 c) := by
                obtain ⟨g', o', e', h1', h'⟩ := rn_cell1 (f := fun x => Value.int .i64 x) (HB.out.2.1.below HRZ1.out) HFC.out.2
                cases e'
                exact ⟨h1', h'⟩
              have HP1 := hid hp1
              obtain ⟨Y2, hY2⟩ : ∃ Y, Y = Z1.alloc (.cells #[.int .i64 c] 3) := ⟨_, rfl⟩
              have HBY2 := hid (show Below Z1.heap.size Z1 Y2 by rw [hY2]; exact (Below.refl _ Z1).alloc (Nat.le_refl _) _)
              have hn2 : ∀ j u, ([.int .i64 c] : List Value)[j]? = some u → Y2.cell? ((⟨Z1.heap.size, 0, none⟩ : Addr).add j) = some u := by rw [hY2]; exact cells_new rfl
              have ho2 := ownsRow_below HOK1.out HBY2.out
              have hz8 := HRZ1.out.size
              have hz9 := HBY2.out.size
              rw [hY2] at hn2 ho2 hz9
              have HY2 := hid hY2
              clear hY2 hp1 hq1 ho1 hn1 hz7 y1 y2
              go_wp2_with (at_builtin; refine wpList_append_own _ rfl _ _ 35 rfl W6.heap.size 3 i2 (.int .i64 0) 1 8 Tryz.underlying35 hi2 hz2 hs2 hy2 rfl (by decide) _ _ _ rfl ho2 ⟨Z1.heap.size, 0, none⟩ 1 1 [.int .i64 c] rfl rfl hn2 (by simp [Value.oneCell']) (by unfold maxLen; omega) (by omega) (by omega) ?_; intro v2 Z2 hp2 hq2 _; rw [← HY2.out] at hq2)
              have hoY : Y2.ownsRow W6.heap.size 3 1 (.slice ka lc kc) lc (K.flatMap numC) := by rw [HY2.out]; exact ho2
              have HRZ2 := hid (show Below W6.heap.size W6 Z2 from Below.appended (HRZ1.out.trans (HBY2.out.mono hz8)) hq2 (by have := HBY2.out.size; omega) hoY)
              have HC2 := hid (ownsRow_other (ownsRow_below HP1.out HBY2.out) hoY (by decide) hq2)
              have HK2 := hid hp2
              clear hp2 hq2 ho2 hn2 hz8 hz9 hoY
              go_roundw
              case rel => exact ⟨i + 1, _, _, by omega, by go_num, rfl, rfl, hid ⟨by rw [HUS2.out, List.length_append, List.flatMap_append, ← HLC.out.1]; exact HC2.out, by rw [HUS2.out, List.length_append, List.flatMap_append, HLC.out.2]; exact HK2.out⟩, HRZ2⟩
              case measure => simp [RowKit.intOf]; omega
            · have gc : decide (c ≤ most) = false := decide_eq_false hcm
              have HUS2 := hid (show (Fo.upTo most (b.take (i + 1)) (n.take (i + 1))) = (C, K) by rw [HUS.out, if_neg hcm]; exact Prod.ext HCK.out.1.symm HCK.out.2.symm)
              clear hcm
              go_wp2_with fail
              go_roundw
              case rel => exact ⟨i + 1, _, _, by omega, by go_num, rfl, rfl, hid ⟨by rw [HUS2.out, ← HLC.out.1]; exact HO.out.1, by rw [HUS2.out, HLC.out.2]; exact HO.out.2⟩, HR⟩
              case measure => simp [RowKit.intOf]; omega
          · have hie : i = nb := by omega
            have i1' : ¬ (i : Int) < (nb : Int) := by omega
            have HEQ := hid (show a = (Fo.upTo most (b.take i) (n.take i)).1 ∧ m = (Fo.upTo most (b.take i) (n.take i)).2 from by
              have hb' : b.take i = b := List.take_of_length_le (by rw [← HNB.out.1]; omega)
              have hn' : n.take i = n := List.take_of_length_le (by rw [HNB.out.2.1]; omega)
              rw [hb', hn']
              exact HUP.out)
            obtain ⟨C, hC⟩ : ∃ C, C = (Fo.upTo most (b.take i) (n.take i)).1 := ⟨_, rfl⟩
            obtain ⟨K, hK⟩ : ∃ K, K = (Fo.upTo most (b.take i) (n.take i)).2 := ⟨_, rfl⟩
            rw [← hC, ← hK] at HO HEQ
            rw [← hC, ← hK]
            have HAL := hid (HA.out.2.2.len.1)
            have HSF := hid (sameForms_any a m C K _ _ _ _ wr (HA.out.1.below HR.out) (HA.out.2.1.below HR.out) (SlOf.own HO.out.1 (fun _ _ => rfl)) (SlOf.own HO.out.2 (fun _ _ => rfl)))
            rw [sameForms_yes HEQ.out.1 HEQ.out.2 HAL.out, ← HNB.out.2.2] at HSF
            clear hie hC hK
            go_wp2_with fail
            refine (HSF.out).mono ?_
            rintro e W8 ⟨rfl, hb⟩
            have B8 := hid (B6.out.trans ((Below.step HR.out hb).mono B6.out.size))
            clear hb
            go_wp2_with fail
            go_ret
            exact ⟨rfl, B8.out⟩
      · have g2 : decide (most < 0) = false := decide_eq_false hneg
        clear hneg
        go_wp2_with fail
        go_loopw [18, 19, 20] (fun cv kv iv wr => ∃ (i : Nat) (cv' kv' : Value), i ≤ nb ∧ iv = .int .i64 i ∧ cv' = cv ∧ kv' = kv ∧ Hid (wr.ownsRow W6.heap.size 9 1 cv' (Fo.upTo most (b.take i) (n.take i)).1.length ((Fo.upTo most (b.take i) (n.take i)).1.flatMap strC) ∧ wr.ownsRow W6.heap.size 3 1 kv' (Fo.upTo most (b.take i) (n.take i)).2.length ((Fo.upTo most (b.take i) (n.take i)).2.flatMap numC)) ∧ Hid (Below W6.heap.size W6 wr)) (fun _ _ iv _ => nb - (RowKit.intOf iv).toNat)
        case atStart => exact ⟨0, _, _, Nat.zero_le _, rfl, rfl, rfl, hid ⟨by rw [List.take_zero, Fo.upTo_nil]; exact World.ownsRow_nil _ _ _ _, by rw [List.take_zero, Fo.upTo_nil]; exact World.ownsRow_nil _ _ _ _⟩, Below.refl _ _⟩
        case round =>
          obtain ⟨i, cv, kv, hi, rfl, rfl, rfl, HO, HR⟩ := hrel
          obtain ⟨ca, cc, rfl⟩ := ownsRow_slice HO.out.1
          obtain ⟨ka, kc, rfl⟩ := ownsRow_slice HO.out.2
          by_cases hlt : i < nb
          · obtain ⟨f, hf⟩ : ∃ f, b[i]? = some f := ⟨_, List.getElem?_eq_getElem (by rw [← HNB.out.1]; exact hlt)⟩
            obtain ⟨c, hc⟩ : ∃ c, n[i]? = some c := ⟨_, List.getElem?_eq_getElem (by rw [HNB.out.2.1]; exact hlt)⟩
            have HUS := hid (Fo.upTo_step (b := most) hf hc)
            have HLU := hid (show (Fo.upTo most (b.take i) (n.take i)).1.length ≤ 1000 ∧ (Fo.upTo most (b.take i) (n.take i)).2.length = (Fo.upTo most (b.take i) (n.take i)).1.length from ⟨by
              have := (Fo.upTo_sub most (b.take i) (n.take i)).length_le
              rw [List.length_take] at this
              omega, Fo.upTo_len _ _ _⟩)
            obtain ⟨C, hC⟩ : ∃ C, C = (Fo.upTo most (b.take i) (n.take i)).1 := ⟨_, rfl⟩
            obtain ⟨K, hK⟩ : ∃ K, K = (Fo.upTo most (b.take i) (n.take i)).2 := ⟨_, rfl⟩
            rw [← hC, ← hK] at HO HLU
            rw [← hC, ← hK]
            obtain ⟨lc, hlc⟩ : ∃ q, q = C.length := ⟨_, rfl⟩
            have hlk : K.length = lc := by rw [HLU.out.2, hlc]
            have hlc1 : lc ≤ 1000 := by rw [hlc]; exact HLU.out.1
            rw [← hlc, hlk] at HO ⊢
            have HLC := hid (And.intro hlc hlk)
            have HCK := hid (And.intro hC hK)
            clear hC hK hlc hlk
            obtain ⟨gz, oz, rfl, z1, y1⟩ := rn_cell1 (f := fun x => Value.string (bs x)) (HB.out.1.below HR.out) hf
            obtain ⟨gw, ow, rfl, z2, y2⟩ := rn_cell1 (f := fun x => Value.int .i64 x) (HB.out.2.1.below HR.out) hc
            have i0 : (0 : Int) ≤ (i : Int) := by omega
            have i1' : (i : Int) < (nb : Int) := by omega
            have HFC := hid (And.intro hf hc)
            clear hf hc
            by_cases hcm : c ≤ most
            · have gc : decide (c ≤ most) = true := decide_eq_true hcm
              have HUS2 := hid (show (Fo.upTo most (b.take (i + 1)) (n.take (i + 1))) = (C ++ [f], K ++ [c]) by rw [HUS.out, if_pos hcm, ← HCK.out.1, ← HCK.out.2])
              clear hcm
              obtain ⟨Y1, hY1⟩ : ∃ Y, Y = wr.alloc (.cells #[.string (bs f)] 9) := ⟨_, rfl⟩
              have HBY1 := hid (show Below wr.heap.size wr Y1 by rw [hY1]; exact (Below.refl _ wr).alloc (Nat.le_refl _) _)
              have hn1 : ∀ j u, ([.string (bs f)] : List Value)[j]? = some u → Y1.cell? ((⟨wr.heap.size, 0, none⟩ : Addr).add j) = some u := by rw [hY1]; exact cells_new rfl
              have ho1 := ownsRow_below HO.out.1 HBY1.out
              have HOK := hid (ownsRow_below HO.out.2 HBY1.out)
              have hz6 := HR.out.size
              have hz7 := HBY1.out.size
              rw [hY1] at hn1 ho1 hz7
              have HY1 := hid hY1
              clear hY1
              go_upto_region 17 with (at_builtin; refine wpList_append_own _ rfl _ _ 28 rfl W6.heap.size 9 i1 (.string ⟨#[]⟩) 1 16 Tryz.underlying28 hi1 hz1 hs1 hy1 rfl (by decide) _ _ _ rfl ho1 ⟨wr.heap.size, 0, none⟩ 1 1 [.string (bs f)] rfl rfl hn1 (by simp [Value.oneCell']) (by unfold maxLen; omega) (by omega) (by omega) ?_; intro v1 Z1 hp1 hq1 _; rw [← HY1.out] at hq1)
              obtain ⟨va1, vc1, rfl⟩ := ownsRow_slice hp1
              have HOK1 := hid (ownsRow_other HOK.out (by have := ho1; rw [← HY1.out] at this; exact this) (by decide) hq1)
              have HRZ1 := hid (show Below W6.heap.size W6 Z1 from Below.appended (HR.out.trans (HBY1.out.mono hz6)) hq1 (by have := HBY1.out.size; omega) (by have := ho1; rw [← HY1.out] at this; exact this))
              obtain ⟨z3, y3⟩ : gw < Z1.heap.size ∧ Z1.cell? ⟨gw, ow + i, none⟩ = some (.int .i64 c) := by
                obtain ⟨g', o', e', h1', h'⟩ := rn_cell1 (f := fun x => Value.int .i64 x) (HB.out.2.1.below HRZ1.out) HFC.out.2
                cases e'
                exact ⟨h1', h'⟩
              have HP1 := hid hp1
              obtain ⟨Y2, hY2⟩ : ∃ Y, Y = Z1.alloc (.cells #[.int .i64 c] 3) := ⟨_, rfl⟩
              have HBY2 := hid (show Below Z1.heap.size Z1 Y2 by rw [hY2]; exact (Below.refl _ Z1).alloc (Nat.le_refl _) _)
              have hn2 : ∀ j u, ([.int .i64 c] : List Value)[j]? = some u → Y2.cell? ((⟨Z1.heap.size, 0, none⟩ : Addr).add j) = some u := by rw [hY2]; exact cells_new rfl
              have ho2 := ownsRow_below HOK1.out HBY2.out
              have hz8 := HRZ1.out.size
              have hz9 := HBY2.out.size
              rw [hY2] at hn2 ho2 hz9
              have HY2 := hid hY2
              clear hY2 hp1 hq1 ho1 hn1 hz7 y1 y2
              go_wp2_with (at_builtin; refine wpList_append_own _ rfl _ _ 35 rfl W6.heap.size 3 i2 (.int .i64 0) 1 8 Tryz.underlying35 hi2 hz2 hs2 hy2 rfl (by decide) _ _ _ rfl ho2 ⟨Z1.heap.size, 0, none⟩ 1 1 [.int .i64 c] rfl rfl hn2 (by simp [Value.oneCell']) (by unfold maxLen; omega) (by omega) (by omega) ?_; intro v2 Z2 hp2 hq2 _; rw [← HY2.out] at hq2)
              have hoY : Y2.ownsRow W6.heap.size 3 1 (.slice ka lc kc) lc (K.flatMap numC) := by rw [HY2.out]; exact ho2
              have HRZ2 := hid (show Below W6.heap.size W6 Z2 from Below.appended (HRZ1.out.trans (HBY2.out.mono hz8)) hq2 (by have := HBY2.out.size; omega) hoY)
              have HC2 := hid (ownsRow_other (ownsRow_below HP1.out HBY2.out) hoY (by decide) hq2)
              have HK2 := hid hp2
              clear hp2 hq2 ho2 hn2 hz8 hz9 hoY
              go_roundw
              case rel => exact ⟨i + 1, _, _, by omega, by go_num, rfl, rfl, hid ⟨by rw [HUS2.out, List.length_append, List.flatMap_append, ← HLC.out.1]; exact HC2.out, by rw [HUS2.out, List.length_append, List.flatMap_append, HLC.out.2]; exact HK2.out⟩, HRZ2⟩
              case measure => simp [RowKit.intOf]; omega
            · have gc : decide (c ≤ most) = false := decide_eq_false hcm
              have HUS2 := hid (show (Fo.upTo most (b.take (i + 1)) (n.take (i + 1))) = (C, K) by rw [HUS.out, if_neg hcm]; exact Prod.ext HCK.out.1.symm HCK.out.2.symm)
              clear hcm
              go_wp2_with fail
              go_roundw
              case rel => exact ⟨i + 1, _, _, by omega, by go_num, rfl, rfl, hid ⟨by rw [HUS2.out, ← HLC.out.1]; exact HO.out.1, by rw [HUS2.out, HLC.out.2]; exact HO.out.2⟩, HR⟩
              case measure => simp [RowKit.intOf]; omega
          · have hie : i = nb := by omega
            have i1' : ¬ (i : Int) < (nb : Int) := by omega
            have HEQ := hid (show a = (Fo.upTo most (b.take i) (n.take i)).1 ∧ m = (Fo.upTo most (b.take i) (n.take i)).2 from by
              have hb' : b.take i = b := List.take_of_length_le (by rw [← HNB.out.1]; omega)
              have hn' : n.take i = n := List.take_of_length_le (by rw [HNB.out.2.1]; omega)
              rw [hb', hn']
              exact HUP.out)
            obtain ⟨C, hC⟩ : ∃ C, C = (Fo.upTo most (b.take i) (n.take i)).1 := ⟨_, rfl⟩
            obtain ⟨K, hK⟩ : ∃ K, K = (Fo.upTo most (b.take i) (n.take i)).2 := ⟨_, rfl⟩
            rw [← hC, ← hK] at HO HEQ
            rw [← hC, ← hK]
            have HAL := hid (HA.out.2.2.len.1)
            have HSF := hid (sameForms_any a m C K _ _ _ _ wr (HA.out.1.below HR.out) (HA.out.2.1.below HR.out) (SlOf.own HO.out.1 (fun _ _ => rfl)) (SlOf.own HO.out.2 (fun _ _ => rfl)))
            rw [sameForms_yes HEQ.out.1 HEQ.out.2 HAL.out, ← HNB.out.2.2] at HSF
            clear hie hC hK
            go_wp2_with fail
            refine (HSF.out).mono ?_
            rintro e W8 ⟨rfl, hb⟩
            have B8 := hid (B6.out.trans ((Below.step HR.out hb).mono B6.out.size))
            clear hb
            go_wp2_with fail
            go_ret
            exact ⟨rfl, B8.out⟩

end Go.Proofs.YtdchjacccmajcaaGreatDoor
