/-
  The reference's Forms of layer 10. Conditions: lengths.
-/
import Derived.Test.YtdchjacccmajcaaGreatDoorZMRt
import Derived.Test.YtdchjacccmajcaaGreatDoorZMRr
import Derived.Test.YtdchjacccmajcaaGreatDoorZFormF
import Derived.Sort.OwnSorted
namespace Go.Proofs.YtdchjacccmajcaaGreatDoor
open Go.RowKit Go.Lib Go.Maps

theorem Tryz.infoRuleT : (Tryz.prog.info? 34).map (fun i => (i.zero, i.size, i.bytes)) = some (some (.agg #[.int .i64 0, .string ⟨#[]⟩, .string ⟨#[]⟩, .int .i64 0]), 4, 48) := by kernel_rfl
theorem Tryz.infoStrsT : (Tryz.prog.info? 28).map (fun i => (i.zero, i.size, i.bytes)) = some (some (.slice none 0 0), 1, 24) := by kernel_rfl
theorem Tryz.infoStT : (Tryz.prog.info? 9).map (fun i => (i.zero, i.size, i.bytes)) = some (some (.string ⟨#[]⟩), 1, 16) := by kernel_rfl

set_option maxRecDepth 100000 in
/-- sort.Strings of a slice of the call's own -/
theorem sortS_own {base : Nat} (v : Value) (ss : List (List UInt8)) (w : World) (h : w.ownsRow base 9 1 v ss.length (ss.flatMap strC)) (hl : ss.length ≤ 1000000) :
    Calls Tryz.prog 48 #[v] w fun e w' => e = .returned (.tuple #[]) ∧ w'.ownsRow base 9 1 v ss.length ((ss.mergeSort (fun x y => decide (x ≤ y))).flatMap strC) ∧ w.grownBy w' v.ownBlock := by
  have hfl : ∀ l : List (List UInt8), l.flatMap strC = l.map encStr := fun l => flat_str l
  rw [hfl] at h
  have HO := hid h
  rcases h.2 with ⟨rfl, hz⟩ | ⟨g, cap, cur, rfl, hbase, hb, h1, h2, h3, h4⟩
  · have hss : ss = [] := List.length_eq_zero_iff.1 hz
    subst hss
    have HS := hid (AnyM.slices_Sort_string_none Tryz.sort73 none 0 w)
    go_enter Tryz.func48, Tryz.ntmps48
    go_wp2_with fail
    refine (HS.out).mono ?_
    rintro e w' ⟨rfl, rfl⟩
    go_wp2_with fail
    go_end0
    exact ⟨rfl, by rw [List.mergeSort_nil]; exact World.ownsRow_nil _ _ _ _, Below.grows (Below.refl _ w') _⟩
  · have HS := hid (AnyM.slices_Sort_string Tryz.sort73 g 0 cap ss w (holds_of_block hb (by simpa using h4)) (Array.getElem?_eq_some_iff.1 hb).1 (by omega))
    have HZ := hid (fun n os => And.intro (ownsRow_sorted (n := n) (os := os) (ts := ss.mergeSort fun x y => decide (x ≤ y)) (by simp) hbase hb h1 h2 h3) (grownBy_sorted (w := w) (g := g) (n := n) (os := os) (ss.mergeSort fun x y => decide (x ≤ y)).toArray))
    clear hb h4
    go_enter Tryz.func48, Tryz.ntmps48
    go_wp2_with fail
    refine (HS.out).mono ?_
    rintro e w' ⟨rfl, n, os, rfl⟩
    go_wp2_with fail
    go_end0
    obtain ⟨q1, q2⟩ := HZ.out n os
    exact ⟨rfl, by rw [hfl]; exact q1, q2⟩

set_option maxRecDepth 100000 in
set_option maxHeartbeats 20000000 in
theorem rforms_any (t : Rw.Table) (tv : Value) (k : Int) (word : List UInt8) (most : Int) (W : World) (ht : TableAt W t tv) (hw : word.length ≤ 1000000) : Calls Tryz.prog 26 #[tv, .int .i64 k, .string (bs word), .int .i64 most] W (FormsP t k word most W) := by
  have HTA := hid ht
  obtain ⟨⟨vr, vd, ve, rfl, ⟨ar, cr, rfl, -, -, h3⟩, ⟨ad, cd, rfl, -⟩, ⟨ae, ce, rfl, -⟩⟩, fr, -, -, hl1, hl2, hl3⟩ := ht
  have hR := hid h3
  have hF := hid fr
  clear h3 fr
  obtain ⟨W1, hW1⟩ : ∃ W1, W1 = W.alloc (.cells #[.slice ar t.rules.length cr, .slice ad t.drops.length cd, .slice ae t.ends.length ce, .int .i64 t.drop, .int .i64 t.order, .int .i64 t.initial] 25) := ⟨_, rfl⟩
  have HT1 := hid (show Blk W1 W.heap.size 25 [.slice ar t.rules.length cr, .slice ad t.drops.length cd, .slice ae t.ends.length ce, .int .i64 t.drop, .int .i64 t.order, .int .i64 t.initial] by rw [hW1]; exact Blk.new W _ _)
  have HB1 := hid (show Below W.heap.size W W1 by rw [hW1]; exact (Below.refl _ W).alloc (Nat.le_refl _) _)
  have HLW := hid (rletters10_w k word W1 hw)
  obtain ⟨L, hL⟩ : ∃ L, L = Fo.letters k word := ⟨_, rfl⟩
  have hL12 := Fo.letters_len k word
  rw [← hL] at hL12
  unfold LetWP at HLW
  unfold FormsP
  rw [← hL] at HLW ⊢
  clear hL
  go_enter Tryz.func26, Tryz.ntmps26
  go_upto_region 1 with (fail)
  rw [← hW1]
  clear hW1
  go_wp2_with fail
  refine (HLW.out).mono ?_
  rintro e W2 ⟨lv, rfl, hown, hb2⟩
  obtain ⟨la, lc, rfl⟩ := ownsRow_slice hown
  have HB2 := hid (Below.step HB1.out hb2)
  have HT2 := hid (HT1.out.below hb2)
  have HLS := hid (show SlOf W2 (.slice la L.length lc) 1 strC L from SlOf.own hown (fun _ _ => rfl))
  have hz2 := HT2.out.lt
  have y0 := HT2.out.cell (j := 0) rfl
  have y1 := HT2.out.cell (j := 1) rfl
  have y2 := HT2.out.cell (j := 2) rfl
  have y3 := HT2.out.cell (j := 3) rfl
  have y4 := HT2.out.cell (j := 4) rfl
  have y5 := HT2.out.cell (j := 5) rfl
  obtain ⟨n, hn⟩ : ∃ n, n = L.length := ⟨_, rfl⟩
  have HN := hid hn
  rw [← hn] at hL12 HLS ⊢
  clear hown hb2 HLW hn
  have HV := hid (rvalid10_any t _ W2 (HTA.out.below HB2.out))
  go_wp2_with fail
  refine (HV.out).mono ?_
  rintro e W3 ⟨rfl, hb3⟩
  have HB3 := hid (Below.step HB2.out hb3)
  have HT3 := hid (HT2.out.below hb3)
  have HL3 := hid (HLS.out.below hb3)
  clear hb3 y0 y1 y2 y3 y4 y5 hz2 HV HLS HT2 HT1
  cases hv : Rw.valid t with
  | false =>
    go_wp2_with fail
    go_ret3
    exact ⟨HB3.out, .inl ⟨.inr hv, rfl⟩⟩
  | true =>
    by_cases h0 : n = 0
    · have g0 : ((n : Int) == 0) = true := by rw [h0]; rfl
      have HE := hid (show L = [] by have := HN.out; exact List.length_eq_zero_iff.1 (by omega))
      clear h0
      go_wp2_with fail
      go_ret3
      exact ⟨HB3.out, .inl ⟨.inl HE.out, rfl⟩⟩
    · have g0 : ((n : Int) == 0) = false := by rw [beq_eq_false_iff_ne]; omega
      have HNE := hid (show L ≠ [] from fun e => h0 (by rw [HN.out, e]; rfl))
      have HG := hid (Fo.good_rules hv k)
      have HVR := hid (Rw.valid_rules hv)
      have hr80 := HVR.out.1
      have HVV := hid hv
      have HTS := hid (Fo.to_short hv k)
      clear hv
      obtain ⟨rs, hrs⟩ : ∃ rs, rs = Al.rulesFrom k 0 t.rules := ⟨_, rfl⟩
      have HRS := hid hrs
      rw [← hrs] at HG HTS
      clear hrs
      go_wp2_with fail
      clear g0
      go_loopw [12, 13, 14] (fun ou of_ iv wr => ∃ (j : Nat) (uv fv : Value) (us : List (Rw.Rule × Al.R)) (vs : List Value), j ≤ t.rules.length ∧ iv = .int .i64 j ∧ uv = ou ∧ fv = of_ ∧ Hid (UInv W3 t k j uv fv us vs wr)) (fun _ _ iv _ => t.rules.length - (RowKit.intOf iv).toNat)
      case atStart => exact ⟨0, _, _, [], [], Nat.zero_le _, rfl, rfl, rfl, UInv.start W3 t k⟩
      case round =>
        obtain ⟨j, uv, fv, us, vs, hj, rfl, rfl, rfl, HU⟩ := hrel
        have HT4 := hid (HT3.out.below HU.out.below)
        have y0 := HT4.out.cell (j := 0) rfl
        have hz4 := HT4.out.lt
        by_cases hjt : j < t.rules.length
        · obtain ⟨g, o, rfl, hr⟩ := hR.out (by omega)
          obtain ⟨d, hd⟩ : ∃ d, t.rules[j]? = some d := ⟨_, List.getElem?_eq_getElem hjt⟩
          have hbW := Below.step HB3.out HU.out.below
          have hc := (hr.below hbW).2 j d hd
          have e0 := hc 0 _ rfl
          have e1 := hc 1 _ rfl
          have e2 := hc 2 _ rfl
          have e3 := hc 3 _ rfl
          rw [Nat.add_zero] at e0
          have hg := (hr.below hbW).1
          have HRW := hid hr
          have j0 : (0 : Int) ≤ (j : Int) := by omega
          have j1 : (j : Int) < (t.rules.length : Int) := by omega
          have HD := hid hd
          have HOK := hid (HVR.out.2 d (List.mem_of_getElem? hd))
          have HFD := hid (hF.out d (List.mem_of_getElem? hd))
          clear hc hr hd hbW
          by_cases hsc : d.script = k
          rotate_left
          · have hne : ((d.script : Int) == k) = false := by rw [beq_eq_false_iff_ne]; exact hsc
            have HUP := hid (HU.out.pass HD.out hsc (Below.refl _ wr))
            clear hsc
            go_wp2_with fail
            go_roundw
            case rel => exact ⟨j + 1, _, _, us, vs, by omega, by go_num, rfl, rfl, HUP⟩
            case measure => simp [RowKit.intOf]; omega
          as_aux_lemma =>
            subst hsc
            have hne : ((d.script : Int) == d.script) = true := by simp
            obtain ⟨f, hlf, hfl, hfne, hf3, hc0, hc1⟩ := Fo.letters_rule HOK.out
            have HFF := hid (And.intro hlf (And.intro hfl hfne))
            clear hlf hfl hfne
            obtain ⟨ua, uc, rfl⟩ := ownsRow_slice HU.out.u
            obtain ⟨fa, fc, rfl⟩ := ownsRow_slice HU.out.f
            have hul : us.length ≤ 80 := by
              have h1 := congrArg List.length HU.out.rs
              rw [List.length_map] at h1
              have h2 := Al.rulesFrom_len d.script (t.rules.take j) 0
              rw [List.length_take] at h2
              omega
            obtain ⟨i1, hi1, hz1, hs1, hy1⟩ := info_parts Tryz.infoRuleT
            obtain ⟨i2, hi2, hzi2, hs2, hy2⟩ := info_parts Tryz.infoStrsT
            have hown := HU.out.u.alloc (.cells #[.int .i64 d.script, .string (bs d.from_), .string (bs d.to_), .int .i64 d.cost] 34)
            have hbU := HU.out.below
            have hzU := hbU.size
            go_upto_region 11 with (at_builtin; refine wpList_append_own _ rfl _ _ 22 rfl W3.heap.size 34 i1 (.agg #[.int .i64 0, .string ⟨#[]⟩, .string ⟨#[]⟩, .int .i64 0]) 4 48 Tryz.underlying22 hi1 hz1 hs1 hy1 rfl (by decide) _ _ _ rfl hown ⟨wr.heap.size, 0, none⟩ 1 1 [.int .i64 d.script, .string (bs d.from_), .string (bs d.to_), .int .i64 d.cost] rfl rfl (cells_new rfl) (by simp [Value.oneCell']) (by unfold maxLen; omega) (by omega) (by simp; omega) ?_; intro u4 w4 ho4 hg4 _)
            have HB4 := hid (Below.appended (hbU.alloc hzU _) hg4 (by simp; omega) hown)
            have HT5 := hid (HT3.out.below HB4.out)
            have y0 := HT5.out.cell (j := 0) rfl
            have hz5 := HT5.out.lt
            have hrw4 := HRW.out.below (Below.step HB3.out HB4.out)
            have hg := hrw4.1
            have e1 := hrw4.2 j d HD.out 1 _ rfl
            have HLE := hid (rletters10_w d.script d.from_ w4 (by have := HFD.out.2; omega))
            unfold LetWP at HLE
            rw [HFF.out.2.1] at HLE
            have HG4 := hid (And.intro hg4 ho4)
            have HOW := hid hown
            clear hrw4 hg4 ho4 hown hbU hzU e0 e2 e3 hi1 hz1 hs1 hy1 hz4
            go_wp2_with fail
            refine (HLE.out).mono ?_
            rintro e A2 ⟨lv, rfl, hof, hb2⟩
            obtain ⟨af, cf, rfl⟩ := ownsRow_slice hof
            have hX : Below wr.heap.size wr (wr.alloc (.cells #[.int .i64 d.script, .string (bs d.from_), .string (bs d.to_), .int .i64 d.cost] 34)) := (Below.refl _ wr).alloc (Nat.le_refl _) _
            have hf4 := ownsRow_typed (ownsRow_below HU.out.f hX) HG4.out.1 (row_other HOW.out (by decide))
            have hown2 := (ownsRow_below hf4 hb2).alloc (.cells #[.slice af f.length cf] 28)
            have hb4A := Below.step HB4.out hb2
            have hzA := hb4A.size
            clear hf4 y0 e1 hz5 hg
            go_wp2_with (at_builtin; refine wpList_append_own _ rfl _ _ 90 rfl W3.heap.size 28 i2 (.slice none 0 0) 1 24 Tryz.underlying90 hi2 hzi2 hs2 hy2 rfl (by decide) _ _ _ rfl hown2 ⟨A2.heap.size, 0, none⟩ 1 1 [.slice af f.length cf] rfl rfl (cells_new rfl) (by simp [Value.oneCell']) (by unfold maxLen; omega) (by omega) (by simp; omega) ?_; intro f6 w6 ho6 hg6 _)
            have HST := hid (HU.out.step HD.out HFF.out.1 hX HG4.out.1 HG4.out.2 (hb2.alloc (hb2.size) (.cells #[.slice af f.length cf] 28)) ((ownsRow_base hof HB4.out.size).alloc _) hg6 ho6 (Below.appended (hb4A.alloc hzA _) hg6 (by simp; omega) hown2))
            go_roundw
            case rel => exact ⟨j + 1, _, _, _, _, by omega, by go_num, rfl, rfl, HST.out⟩
            case measure => simp [RowKit.intOf]; omega
        · have hjn : j = t.rules.length := by omega
          have j1 : ¬ (j : Int) < (t.rules.length : Int) := by omega
          rename World => Wu
          have HRU := hid (show us.map Prod.snd = rs by rw [HRS.out, HU.out.rs, hjn, List.take_length])
          have HSM := hid HU.out.same
          obtain ⟨ua, uc, rfl⟩ := ownsRow_slice HU.out.u
          obtain ⟨fa, fc, rfl⟩ := ownsRow_slice HU.out.f
          have HUA := hid HU.out.use
          have HBU := hid HU.out.below
          have HRL := hid (show rs.length = us.length by rw [← HRU.out, List.length_map])
          have hul : us.length ≤ 80 := by
            rw [← HRL.out, HRS.out]
            exact Nat.le_trans (Al.rulesFrom_len _ _ _) hr80
          clear HU hjn
          obtain ⟨i2, hi2, hz2, hs2, hy2⟩ := info_parts Tryz.infoIntF
          have hmk2 : ∀ X : World, (Instr.makeSlice 35 (.int .i64 ((n : Int) + 1)) (.int .i64 ((n : Int) + 1))).run Tryz.prog X = .ok (.slice (some ⟨X.heap.size, 0, none⟩) (n + 1) (n + 1)) (X.alloc (.cells (Array.replicate (n + 1) (.int .i64 0)) 3)) :=
            fun X => make_one 35 3 i2 _ Tryz.underlying35 hi2 hz2 hs2 rfl (n + 1) (by rw [hy2]; omega) (by unfold maxLen; omega) X
          obtain ⟨W6, hW6⟩ : ∃ W6, W6 = Wu.alloc (.cells (Array.replicate (n + 1) (.int .i64 0)) 3) := ⟨_, rfl⟩
          have HRI := hid (show RInv Wu L rs n (List.replicate (n + 1) 0) W6 by
            rw [HN.out]
            exact RInv.start HG.out (by rw [hW6, HN.out]; exact Blk.rep Wu _ _ _) (by rw [hW6]; exact (Below.refl _ Wu).alloc (Nat.le_refl _) _))
          clear hi2 hz2 hs2 hy2
          go_wp2_with fail
          rw [← hW6]
          clear hW6 hmk2 y0 hz4
          go_loopw [16] (fun iv wx => ∃ (q : Nat) (v : Int) (B : List Int), q ≤ n ∧ iv = .int .i64 v ∧ v = (q : Int) - 1 ∧ Hid (RInv Wu L rs q B wx)) (fun iv _ => (RowKit.intOf iv + 1).toNat)
          case atStart => exact ⟨n, _, _, Nat.le_refl _, rfl, rfl, HRI.out⟩
          case round =>
            clear HRI
            obtain ⟨q, v, B, hq, rfl, hvq, HR⟩ := hrel
            rename World => Wr
            by_cases hq0 : 0 < q
            · obtain ⟨i, rfl⟩ : ∃ i, q = i + 1 := ⟨q - 1, by omega⟩
              obtain rfl : v = (i : Int) := by omega
              have i0 : (0 : Int) ≤ (i : Int) := by omega
              have i1 : (i : Int) < (n : Int) + 1 := by omega
              obtain ⟨b0, hb0⟩ : ∃ b, B[i]? = some b := ⟨_, List.getElem?_eq_getElem (by rw [HR.out.len, ← HN.out]; omega)⟩
              have c0 := HR.out.b.cell (intV_get hb0)
              have c1 := HR.out.b.frozen i
              have c2 := HR.out.b.lt
              obtain ⟨Wt, hWt⟩ : ∃ Wt, Wt = Wr.setCell ⟨Wu.heap.size, i, none⟩ (.int .i64 (-1)) := ⟨_, rfl⟩
              have HSI := hid (show SInv Wu L rs i B 0 (-1) Wt by rw [hWt]; exact HR.out.begin_)
              clear hb0 hvq
              go_wp2_with fail
              rw [← hWt]
              clear hWt c0 c1 c2
              go_loopw [17] (fun iv wx => ∃ (m : Nat) (c : Int), m ≤ us.length ∧ iv = .int .i64 m ∧ Hid (SInv Wu L rs i B m c wx)) (fun iv _ => us.length - (RowKit.intOf iv).toNat)
              case atStart => exact ⟨0, -1, Nat.zero_le _, rfl, HSI.out⟩
              case round =>
                clear HSI
                obtain ⟨m, c, hm, rfl, HS⟩ := hrel
                rename World => Ws
                by_cases hmt : m < us.length
                · as_aux_lemma =>
                    obtain ⟨⟨d, r⟩, hp⟩ : ∃ p, us[m]? = some p := ⟨_, List.getElem?_eq_getElem hmt⟩
                    have hr : rs[m]? = some r := by rw [← HRU.out, List.getElem?_map, hp]; rfl
                    obtain ⟨g, o, g2, o2, a, cc, eu, ef, hru, hg2, hcf, hsf⟩ := (HUA.out.below HS.out.below).get hp
                    subst eu ef
                    have e3 := hru.2 m d (by rw [List.getElem?_map, hp]; rfl) 3 _ rfl
                    have hgl := hru.1
                    obtain ⟨hsc, -⟩ := HSM.out (d, r) (List.mem_of_getElem? hp)
                    simp only at hsc
                    rw [hsc] at e3
                    have hrm := List.mem_of_getElem? hr
                    have hfp := (HTS.out r hrm).1
                    have hcost := HG.out.cost r hrm
                    obtain ⟨f, hf⟩ : ∃ f, f = r.from_ := ⟨_, rfl⟩
                    obtain ⟨cst, hcst⟩ : ∃ c, c = r.cost := ⟨_, rfl⟩
                    rw [← hf] at hcf hsf hfp
                    rw [← hcst] at e3 hcost
                    have HFE := hid (And.intro hf hcst)
                    have HRM := hid (And.intro hr hrm)
                    have hf12 : f.length ≤ 1000000 := by
                      obtain ⟨⟨q, -, -, -, e3⟩, -⟩ := Al.rulesFrom_mem k _ _ r (by rw [← HRS.out]; exact hrm)
                      have := (Sc.lets_len e3).2
                      rw [hf]
                      omega
                    have HAT := hid (rat10_any L f (.slice la n lc) (.slice a f.length cc) i Ws (HL3.out.below (Below.step HBU.out HS.out.below)) hsf (by rw [← HN.out]; omega) hf12 (by omega))
                    obtain ⟨fb, hfb⟩ : ∃ fb, fb = Rw.atL L i f := ⟨_, rfl⟩
                    rw [← hfb] at HAT
                    have HFB := hid (show Al.fits L r i = fb by rw [hfb, hf]; rfl)
                    have m0 : (0 : Int) ≤ (m : Int) := by omega
                    have m1 : (m : Int) < (us.length : Int) := by omega
                    have hvl : vs.length = us.length := HUA.out.len
                    clear hp hr hru hsc hrm hf hcst hfb hsf
                    go_wp2_with fail
                    refine (HAT.out).mono ?_
                    rintro e W5 ⟨rfl, hb5⟩
                    have HS5 := hid (HS.out.below' hb5)
                    have hcf := (hb5.cell (p := ⟨g2, o2 + m, none⟩) hg2).trans hcf
                    have hg2 := Nat.lt_of_lt_of_le hg2 hb5.size
                    have e3 := (hb5.cell (p := ⟨g, o + m * 4 + 3, none⟩) hgl).trans e3
                    have hgl := Nat.lt_of_lt_of_le hgl hb5.size
                    have HB5 := hid hb5
                    clear hb5 HAT
                    cases fb with
                    | false =>
                      have HSK := hid (HS.out.skip HRM.out.1 (fun h => by rw [HFB.out] at h; cases h) HB5.out)
                      go_wp2_with fail
                      go_roundw
                      case rel => exact ⟨m + 1, c, by omega, by go_num, HSK.out⟩
                      case measure => simp [RowKit.intOf]; omega
                    | true =>
                      have hle : i + f.length ≤ n := by have := Al.fits_le HFB.out; rw [HFE.out.1, HN.out]; exact this
                      obtain ⟨b2, hb2⟩ : ∃ b, B[i + f.length]? = some b := ⟨_, List.getElem?_eq_getElem (by rw [HR.out.len, ← HN.out]; omega)⟩
                      have HRO := hid (HR.out.ok (i + f.length) b2 (by omega) hb2)
                      obtain ⟨bl0, bl1⟩ := HRO.out.bound HG.out (by rw [← HN.out]; omega)
                      obtain ⟨cl0, cl1⟩ := HS.out.h.bound HG.out (by rw [← HN.out]; omega) (fun r hr => List.mem_of_mem_take hr)
                      have k2 := HS5.out.b.cell (intV_get (show (B.set i c)[i + f.length]? = some b2 by rw [List.getElem?_set_ne (by omega)]; exact hb2))
                      have k0 := HS5.out.b.cell (intV_get (show (B.set i c)[i]? = some c by rw [List.getElem?_set_self (by rw [HR.out.len, ← HN.out]; omega)]))
                      have kf := HS5.out.b.frozen i
                      have kz := HS5.out.b.lt
                      have s0 : (0 : Int) ≤ (i : Int) + (f.length : Int) := by omega
                      have s1 : (i : Int) + (f.length : Int) < (n : Int) + 1 := by omega
                      have s2 : ((i : Int) + (f.length : Int)).toNat = i + f.length := by omega
                      clear hb2
                      by_cases hb0 : (0 : Int) ≤ b2
                      rotate_left
                      · have gb : decide ((0 : Int) ≤ b2) = false := decide_eq_false hb0
                        have HSK := hid (HS.out.skip HRM.out.1 (fun _ f' d' => by rw [← HFE.out.1]; exact HRO.out.neg HG.out (by omega) f' d') HB5.out)
                        go_wp2_with fail
                        go_roundw
                        case rel => exact ⟨m + 1, c, by omega, by go_num, HSK.out⟩
                        case measure => simp [RowKit.intOf]; omega
                      have gb : decide ((0 : Int) ≤ b2) = true := decide_eq_true hb0
                      have w1 : IntKind.i64.wrap (cst + b2) = cst + b2 := IntWalk.i64_in _ (by omega)
                      have HLF := hid (show Fo.LeastFrom L rs (i + r.from_.length) b2 by rw [← HFE.out.1]; exact HRO.out.pos hb0)
                      go_upto_region 21 with (fail)
                      go_region
                      have x2 := (Below.refl _ W5).drew.cell (p := ⟨Wu.heap.size, i, none⟩) kz |>.trans k0
                      have HSD := hid (Below.step HB5.out (Below.refl _ W5).drew)
                      have kf2 := (HS5.out.below' (Below.refl _ W5).drew).b.frozen i
                      have kz2 := (HS5.out.below' (Below.refl _ W5).drew).b.lt
                      obtain ⟨W6, hW6⟩ : ∃ W6, W6 = W5.drew := ⟨_, rfl⟩
                      rw [← hW6] at x2 HSD kf2 kz2 ⊢
                      clear hW6
                      by_cases hc0 : c < 0
                      · have gc : decide (c < 0) = true := decide_eq_true hc0
                        have HPU := hid (HS.out.put HRM.out.1 HFB.out HLF.out (by rw [← HFE.out.2]; omega) (.inl hc0) HSD.out)
                        rw [← HFE.out.2] at HPU
                        clear hc0
                        go_wp2_with fail
                        go_roundw
                        case rel => exact ⟨m + 1, cst + b2, by omega, by go_num, HPU.out⟩
                        case measure => simp [RowKit.intOf]; omega
                      have gc : decide (c < 0) = false := decide_eq_false hc0
                      by_cases hc1 : cst + b2 < c
                      · have gc1 : decide (cst + b2 < c) = true := decide_eq_true hc1
                        have HPU := hid (HS.out.put HRM.out.1 HFB.out HLF.out (by rw [← HFE.out.2]; omega) (.inr (by rw [← HFE.out.2]; exact hc1)) HSD.out)
                        rw [← HFE.out.2] at HPU
                        clear hc0 hc1
                        go_wp2_with fail
                        go_roundw
                        case rel => exact ⟨m + 1, cst + b2, by omega, by go_num, HPU.out⟩
                        case measure => simp [RowKit.intOf]; omega
                      have gc1 : decide (cst + b2 < c) = false := decide_eq_false hc1
                      have HKE := hid (HS.out.keep HRM.out.1 HFB.out HLF.out (by rw [← HFE.out.2]; omega) (by rw [← HFE.out.2]; omega) HSD.out)
                      clear hc0 hc1
                      go_wp2_with fail
                      go_roundw
                      case rel => exact ⟨m + 1, c, by omega, by go_num, HKE.out⟩
                      case measure => simp [RowKit.intOf]; omega
                · have m1 : ¬ (m : Int) < (us.length : Int) := by omega
                  have HE := hid (HS.out)
                  rw [show m = rs.length by rw [HRL.out]; omega] at HE
                  have HRX := hid (HE.out.end_ HR.out (by rw [← HN.out]; omega))
                  clear HE
                  go_wp2_with fail
                  go_roundw
                  case rel => exact ⟨i, (i : Int) - 1, _, by omega, by go_num, rfl, HRX.out⟩
                  case measure => simp [RowKit.intOf]
            · obtain rfl : q = 0 := by omega
              obtain rfl : v = -1 := by omega
              have hnl := HN.out
              obtain ⟨b0, hb0⟩ : ∃ b, B[0]? = some b := ⟨_, List.getElem?_eq_getElem (by rw [HR.out.len]; omega)⟩
              have HR0 := hid (HR.out.ok 0 b0 (Nat.le_refl _) hb0)
              obtain ⟨bl0, bl1⟩ := HR0.out.bound HG.out (by omega)
              have c0 := HR.out.b.cell (intV_get hb0)
              have c2 := HR.out.b.lt
              have n1 : (0 : Int) < (n : Int) + 1 := by omega
              have HBR := hid (Below.step HB3.out (Below.step HBU.out HR.out.below))
              have HB0 := hid hb0
              clear hb0 hnl hvq hq0
              by_cases hb00 : b0 < 0
              · have g1 : decide (b0 < 0) = true := decide_eq_true hb00
                have HNF := hid (show Fo.Forms Fo.lt L rs most [] [] from HR0.out.none_ HG.out (.inl hb00))
                clear hb00
                go_wp2_with fail
                go_ret3
                exact ⟨HBR.out, .inr ⟨HNE.out, HVV.out, .inr ⟨_, _, [], [], rfl, SlOf.nil _ _ _, SlOf.nil _ _ _, by rw [← HRS.out]; exact HNF.out⟩⟩⟩
              have g1 : decide (b0 < 0) = false := decide_eq_false hb00
              by_cases hbm : most < b0
              · have g2 : decide (most < b0) = true := decide_eq_true hbm
                have HNF := hid (show Fo.Forms Fo.lt L rs most [] [] from HR0.out.none_ HG.out (.inr hbm))
                clear hb00 hbm
                go_wp2_with fail
                go_ret3
                exact ⟨HBR.out, .inr ⟨HNE.out, HVV.out, .inr ⟨_, _, [], [], rfl, SlOf.nil _ _ _, SlOf.nil _ _ _, by rw [← HRS.out]; exact HNF.out⟩⟩⟩
              have g2 : decide (most < b0) = false := decide_eq_false hbm
              obtain ⟨rest, hrest⟩ : ∃ rest : Nat → Int, rest = fun j => B.getD j 0 := ⟨_, rfl⟩
              have HRT := hid (show ∀ j, j ≤ L.length → B[j]? = some (rest j) from fun j hj => by
                rw [hrest]
                have hlt : j < B.length := by rw [HR.out.len]; omega
                simp [List.getD, List.getElem?_eq_getElem hlt])
              have HRK := hid (show ∀ j, j ≤ L.length → Fo.RestOk L rs j (rest j) from fun j hj => HR.out.ok j (rest j) (Nat.zero_le _) (HRT.out j hj))
              have HZZ := hid (show 0 ≤ rest 0 ∧ rest 0 ≤ most by
                have h1 := HRT.out 0 (Nat.zero_le _)
                rw [HB0.out] at h1
                have := Option.some.inj h1
                omega)
              have HRZ := hid (show rest L.length = 0 by
                have h1 := HRT.out L.length (Nat.le_refl _)
                rw [HR.out.last] at h1
                exact (Option.some.inj h1).symm)
              have HRB := hid HR.out.b
              have HBW := hid (Below.step HBU.out HR.out.below)
              have HBV := hid HR.out.below
              clear hrest
              obtain ⟨i5, hi5, hz5, hs5, hy5⟩ := info_parts Tryz.infoMapI
              have hmk3 : ∀ X : World, (Instr.makeSlice 79 (.int .i64 ((n : Int) + 1)) (.int .i64 ((n : Int) + 1))).run Tryz.prog X = .ok (.slice (some ⟨X.heap.size, 0, none⟩) (n + 1) (n + 1)) (X.alloc (.cells (Array.replicate (n + 1) (.map none)) 80)) :=
                fun X => make_one 79 80 i5 _ Tryz.underlying79 hi5 hz5 hs5 rfl (n + 1) (by rw [hy5]; omega) (by unfold maxLen; omega) X
              obtain ⟨W7, hW7⟩ : ∃ W7, W7 = Wr.alloc (.cells (Array.replicate (n + 1) (.map none)) 80) := ⟨_, rfl⟩
              have HM7 := hid (show MkI L Wr.heap.size (List.replicate (n + 1) (.map none)) 0 W7 ∧ Below Wr.heap.size Wr W7 by
                refine ⟨?_, by rw [hW7]; exact (Below.refl _ Wr).alloc (Nat.le_refl _) _⟩
                rw [HN.out]
                exact MkI.start (by rw [hW7, HN.out]; exact Blk.rep Wr _ _ _))
              clear hi5 hz5 hs5 hy5 HB0 hb00 hbm
              go_wp2_with fail
              rw [← hW7]
              clear hW7 hmk3 c0 c2 g1 g2
              have hmm := @run_makeMap Tryz.prog
              go_loopw [20] (fun iv wx => ∃ (q : Nat) (ms : List Value), q ≤ n + 1 ∧ iv = .int .i64 q ∧ Hid (MkI L Wr.heap.size ms q wx ∧ Below Wr.heap.size Wr wx)) (fun iv _ => n + 1 - (RowKit.intOf iv).toNat)
              case atStart => exact ⟨0, _, Nat.zero_le _, rfl, HM7.out⟩
              case round =>
                clear HM7
                obtain ⟨q, ms, hq, rfl, HM⟩ := hrel
                rename World => Wm
                by_cases hqn : q ≤ n
                · have q1 : (q : Int) ≤ (n : Int) := by omega
                  have q0 : (0 : Int) ≤ (q : Int) := by omega
                  have q2 : (q : Int) < (n : Int) + 1 := by omega
                  have hbA : Below Wm.heap.size Wm (Wm.alloc (.map #[] 0)) := (Below.refl _ Wm).alloc (Nat.le_refl _) _
                  have bE1 := HM.out.1.e.below hbA
                  obtain ⟨mv, hmv⟩ : ∃ mv, ms[q]? = some mv := ⟨_, List.getElem?_eq_getElem (by rw [HM.out.1.ml, ← HN.out]; omega)⟩
                  have z1 := bE1.cell hmv
                  have z2 := bE1.frozen q
                  have z3 := bE1.lt
                  have HMS := hid (And.intro (HM.out.1.step (by rw [← HN.out]; exact hqn)) ((HM.out.2.alloc HM.out.2.size (.map #[] 0)).setCell (p := ⟨Wr.heap.size, q, none⟩) (Nat.le_refl _) (.map (some Wm.heap.size))))
                  clear bE1 hbA hmv
                  go_wp2_with fail
                  go_roundw
                  case rel => exact ⟨q + 1, _, by omega, by go_num, HMS.out⟩
                  case measure => simp [RowKit.intOf]; omega
                · have q1 : ¬ (q : Int) ≤ (n : Int) := by omega
                  have hqe : q = L.length + 1 := by rw [← HN.out]; omega
                  have HM0 := hid (show MkI L Wr.heap.size ms (L.length + 1) Wm by rw [← hqe]; exact HM.out.1)
                  obtain ⟨m0, hm0, hMF0, hlt0⟩ := HM0.out.maps 0 (Nat.zero_lt_succ _)
                  obtain ⟨Wz, hput, hMz, hgz⟩ := hMF0.put strF_keyed Tryz.underlying80 (by unfold maxLen; omega) (strF_key (s := bs []) (by unfold maxLen; simp [bs, ByteArray.size])) (putE_same (fun _ => none) [] 0) (putE_other (fun _ => none) [] 0)
                  have HAZ := hid (show AtI L Wr.heap.size ms Fo.start0 Wz ∧ Fo.Beg L rs most rest 0 (fun _ _ => False) Fo.start0 ∧ Below Wr.heap.size Wr Wz from
                    ⟨HM0.out.all.start hm0 hgz hMz (by omega), Fo.Beg.start, HM.out.2.grown hgz HM.out.2.size (fun r e => by cases e; omega)⟩)
                  have c0 := HM.out.1.e.cell hm0
                  have c2 := HM.out.1.e.lt
                  have n1 : (0 : Int) < (n : Int) + 1 := by omega
                  have hput' : (Instr.mapUpdate 80 (.map (some m0)) (.string ⟨#[]⟩) (.int .i64 0)).run Tryz.prog Wm = .ok () Wz := hput
                  clear hput hm0 hMF0 hlt0 hMz hgz hqe HM HM0 hmm
                  go_wp2_with fail
                  clear hput' c0 c2
                  go_loopw [21] (fun iv wx => ∃ (i : Nat) (F : Nat → List UInt8 → Option Int), i ≤ n ∧ iv = .int .i64 i ∧ Hid (AtI L Wr.heap.size ms F wx ∧ Fo.Beg L rs most rest i (fun _ _ => False) F ∧ Below Wr.heap.size Wr wx)) (fun iv _ => n - (RowKit.intOf iv).toNat)
                  case atStart => exact ⟨0, _, Nat.zero_le _, rfl, HAZ.out⟩
                  case round =>
                    clear HAZ
                    obtain ⟨i, F, hi, rfl, HA⟩ := hrel
                    rename World => Wa
                    by_cases hin : i < n
                    · as_aux_lemma =>
                        have hil : i ≤ L.length := by rw [← HN.out]; omega
                        obtain ⟨mi, ni, hmi, hMI, hni, hmi4⟩ := HA.out.1.maps i hil
                        have c0 := HA.out.1.e.cell hmi
                        have c2 := HA.out.1.e.lt
                        have i0 : (0 : Int) ≤ (i : Int) := by omega
                        have i1 : (i : Int) < (n : Int) := by omega
                        have i2 : (i : Int) < (n : Int) + 1 := by omega
                        have HMI := hid hMI
                        have HMB := hid (And.intro hmi (And.intro hni hmi4))
                        have HNR := hid (show Wa.heap.size ≠ Wr.heap.size ∧ ∀ j, j ≤ L.length → ms[j]? ≠ some (.map (some Wa.heap.size)) from ⟨by omega, fun j hj h => by
                          obtain ⟨m', n', k1, k2, -⟩ := HA.out.1.maps j hj
                          rw [h] at k1
                          cases k1
                          have := k2.lt
                          omega⟩)
                        clear hmi hMI hni hmi4
                        go_wp2_with (at_range; refine wpList_rangeN _ rfl _ 80 rfl 3 strF_keyed Tryz.underlying80 rfl HMI.out ?_; intro W9 lf0 cnt0 hcnt hR9 hlf hg9 hz9)
                        try go_frame
                        have HR0B := hid (show Wr.heap.size ≤ Wa.heap.size from HA.out.2.2.size)
                        obtain ⟨R0, hRR⟩ : ∃ R0, R0 = Wa.heap.size := ⟨_, rfl⟩
                        rw [← hRR] at hR9 HNR HR0B ⊢
                        have HRR := hid hRR
                        have HR9 := hid hR9
                        have HA9 := hid (show AtI L Wr.heap.size ms F W9 ∧ Fo.Beg L rs most rest i (fun g _ => doneL lf0 g = true) F ∧ Below Wr.heap.size Wr W9 ∧ F i = F i from
                          ⟨HA.out.1.kept hg9 (fun r e => by cases e), HA.out.2.1.same (fun g r d hgd hr => by
                            have hsh := (HA.out.2.1.short HG.out HZZ.out HTS.out (by have := HN.out; omega) hil hgd).1
                            have h7 := hlf (.string (bs g)) _ (strF_key (by rw [bs_len]; unfold maxLen; omega)) (by rw [numF_isSome, hgd]; rfl)
                            unfold doneL
                            rw [h7]
                            simp), HA.out.2.2.grown hg9 HA.out.2.2.size (fun r e => by cases e), rfl⟩)
                        clear hR9 hlf hg9 hz9 hcnt hRR c0 c2
                        go_loopw [] (fun wx => ∃ (lf : Value → Bool) (cnt : Nat) (F' : Nat → List UInt8 → Option Int), Hid (MapR wx Tryz.prog 9 mi R0 ni (numF (F i)) lf cnt) ∧ Hid (AtI L Wr.heap.size ms F' wx ∧ Fo.Beg L rs most rest i (fun g _ => doneL lf g = true) F' ∧ Below Wr.heap.size Wr wx ∧ F' i = F i)) (fun wx => wx.rangeLeft mi R0)
                        case atStart => exact ⟨lf0, cnt0, F, HR9, HA9⟩
                        case round =>
                          rename World => wd
                          clear HR9 HA9
                          obtain ⟨lf, cnt, F', HRG, HD⟩ := hrel
                          have hle := HRG.out.left_eq
                          go_wp2_with (at_next; refine wpList_nextM _ rfl _ rfl strF_keyed Value.string (fun _ _ h => strF_inv h) rfl HRG.out ?_ ?_)
                          · intro hl0
                            have HNX := hid (show AtI L Wr.heap.size ms F' wd ∧ Fo.Beg L rs most rest (i + 1) (fun _ _ => False) F' ∧ Below Wr.heap.size Wr wd from ⟨HD.out.1, HD.out.2.1.next (fun g r d hgd hr => by
                              have hsh := (HD.out.2.1.short HG.out HZZ.out HTS.out (by have := HN.out; omega) hil hgd).1
                              unfold doneL
                              rw [hl0 _ _ (strF_key (by rw [bs_len]; unfold maxLen; omega))]
                              rfl), HD.out.2.2.1⟩)
                            clear hl0
                            go_wp2_with fail
                            go_roundw
                            case rel => exact ⟨i + 1, F', by omega, by go_num, HNX.out⟩
                            case measure => simp [RowKit.intOf]; omega
                          · intro x c kl wy cnt' hkl hlx hfx hmr hlt hgy hsy hen
                            obtain ⟨d, hd, rfl⟩ : ∃ d, F i x.data.toList = some d ∧ c = .int .i64 d := by
                              obtain ⟨d, h1, h2⟩ := Option.map_eq_some_iff.1 (show (F i x.data.toList).map (fun c => Value.int .i64 c) = some c from hfx)
                              exact ⟨d, h1, h2.symm⟩
                            obtain ⟨hxs, hd0, hd1⟩ := HD.out.2.1.short HG.out HZZ.out HTS.out (by have := HN.out; omega) hil (show F' i x.data.toList = some d by rw [HD.out.2.2.2]; exact hd)
                            have hxz : x.size ≤ 3000 := hxs
                            have HDD := hid hd
                            have HNXT := hid (show MapR wy Tryz.prog 9 mi R0 ni (numF (F i)) (dropL lf (.string x)) cnt' ∧ AtI L Wr.heap.size ms F' wy ∧ Fo.Beg L rs most rest i (fun g r => doneL lf g = true ∨ (g = x.data.toList ∧ r ∈ rs.take 0)) F' ∧ Below Wr.heap.size Wr wy ∧ F' i = F i from
                              ⟨hmr (dropL lf (.string x)) (dropL_same _ _) (fun _ h => dropL_other h), HD.out.1.kept hgy (fun r e => by cases e; exact .inr HNR.out), HD.out.2.1.same (fun g r d hgd hr => by simp), HD.out.2.2.1.grown hgy HD.out.2.2.1.size (fun r e => by cases e; exact HR0B.out), HD.out.2.2.2⟩)
                            have HLT := hid hlt
                            clear hmr hkl hlx hfx hgy hd hxs hlt
                            go_wp2_with fail
                            clear hen
                            go_loopw [24] (fun iv wz => ∃ (q : Nat) (F2 : Nat → List UInt8 → Option Int), q ≤ us.length ∧ iv = .int .i64 q ∧ Hid (MapR wz Tryz.prog 9 mi R0 ni (numF (F i)) (dropL lf (.string x)) cnt' ∧ AtI L Wr.heap.size ms F2 wz ∧ Fo.Beg L rs most rest i (fun g r => doneL lf g = true ∨ (g = x.data.toList ∧ r ∈ rs.take q)) F2 ∧ Below Wr.heap.size Wr wz ∧ F2 i = F i)) (fun iv _ => us.length - (RowKit.intOf iv).toNat)
                            case atStart => exact ⟨0, F', Nat.zero_le _, rfl, HNXT.out⟩
                            case round =>
                              clear HNXT
                              obtain ⟨q, F2, hq, rfl, HS⟩ := hrel
                              rename World => Ws
                              by_cases hqt : q < us.length
                              · obtain ⟨⟨dd, r⟩, hp⟩ : ∃ p, us[q]? = some p := ⟨_, List.getElem?_eq_getElem hqt⟩
                                have hr : rs[q]? = some r := by rw [← HRU.out, List.getElem?_map, hp]; rfl
                                obtain ⟨g, o, g2, o2, a, cc, eu, ef, hru, hg2, hcf, hsf⟩ := (HUA.out.below (Below.step HBV.out HS.out.2.2.2.1)).get hp
                                subst eu ef
                                have hcx := hru.2 q dd (by rw [List.getElem?_map, hp]; rfl)
                                have e2 := hcx 2 _ rfl
                                have e3 := hcx 3 _ rfl
                                have hgl := hru.1
                                obtain ⟨hsc, hst⟩ := HSM.out (dd, r) (List.mem_of_getElem? hp)
                                simp only at hsc hst
                                rw [hsc] at e3
                                rw [hst] at e2
                                have hrm := List.mem_of_getElem? hr
                                have hfp := (HTS.out r hrm).1
                                have ht3 := (HTS.out r hrm).2
                                have hcost := HG.out.cost r hrm
                                obtain ⟨f, hf⟩ : ∃ f, f = r.from_ := ⟨_, rfl⟩
                                obtain ⟨cst, hcst⟩ : ∃ c, c = r.cost := ⟨_, rfl⟩
                                obtain ⟨tz, hto⟩ : ∃ c, c = r.to_ := ⟨_, rfl⟩
                                rw [← hf] at hcf hsf hfp
                                rw [← hcst] at e3 hcost
                                rw [← hto] at e2 ht3
                                have hf12 : f.length ≤ 12 := by
                                  obtain ⟨⟨q', -, -, -, e3⟩, -⟩ := Al.rulesFrom_mem k _ _ r (by rw [← HRS.out]; exact hrm)
                                  have := (Sc.lets_len e3).2
                                  rw [hf]
                                  omega
                                have HFE := hid (And.intro hf (And.intro hcst hto))
                                have HRM := hid (And.intro hr hrm)
                                have HD3 := hid (show ∀ g r', (doneL lf g = true ∨ (g = x.data.toList ∧ r' ∈ rs.take (q + 1))) ↔ (doneL lf g = true ∨ (g = x.data.toList ∧ r' ∈ rs.take q)) ∨ (g = x.data.toList ∧ r' = r) from fun g r' => by
                                  rw [take_next hr, List.mem_append, List.mem_singleton]
                                  constructor
                                  · rintro (h | ⟨h1, h2 | h2⟩)
                                    · exact .inl (.inl h)
                                    · exact .inl (.inr ⟨h1, h2⟩)
                                    · exact .inr ⟨h1, h2⟩
                                  · rintro ((h | ⟨h1, h2⟩) | ⟨h1, h2⟩)
                                    · exact .inl h
                                    · exact .inr ⟨h1, .inl h2⟩
                                    · exact .inr ⟨h1, .inr h2⟩)
                                have HAT := hid (rat10_any L f (.slice la n lc) (.slice a f.length cc) i Ws.drew (HL3.out.below (Below.step HBW.out HS.out.2.2.2.1.drew)) (hsf.below (Below.refl _ _).drew) (by rw [← HN.out]; omega) (by omega) (by omega))
                                obtain ⟨fb, hfb⟩ : ∃ fb, fb = Rw.atL L i f := ⟨_, rfl⟩
                                rw [← hfb] at HAT
                                have HFB := hid (show Al.fits L r i = fb by rw [hfb, hf]; rfl)
                                have HXF := hid (show F2 i x.data.toList = some d by rw [HS.out.2.2.2.2]; exact HDD.out)
                                have q0 : (0 : Int) ≤ (q : Int) := by omega
                                have q1 : (q : Int) < (us.length : Int) := by omega
                                have hvl : vs.length = us.length := HUA.out.len
                                have kz := Nat.lt_of_lt_of_le HRB.out.lt HS.out.2.2.2.1.size
                                clear hp hr hru hsc hst hcx hrm hf hcst hto hfb hsf
                                go_upto_region 42 with (fail)
                                refine wp_heldS (S := StillAt Ws) (by kernel_rfl) ?_
                                simp only [List.size_toArray, List.length_cons, List.length_nil, Nat.reduceAdd]
                                intro hc
                                have S0 : StillAt Ws (Array.replicate 31 false) Ws.drew := (Below.refl _ _).drew
                                refine wpAnyS_take (i := 0) (v := .slice la n lc) rfl (by kernel_rfl) (by kernel_rfl) (by kernel_rfl) (fun _ _ _ h => h) (fun _ _ => Iff.rfl) hc (by first | rfl | simp [Region.wanted]) (fun wx hx => ?_) S0 (fun hc S0 => ?_)
                                · go_simp
                                try simp only [List.getElem_toArray, List.getElem_cons_zero, Act.put, List.setIfInBounds_toArray, List.set_cons_zero, List.set_cons_succ]
                                refine wpAnyS_take (i := 1) (v := .int .i64 i) rfl (by kernel_rfl) (by kernel_rfl) (by kernel_rfl) (fun _ _ _ h => h) (fun _ _ => Iff.rfl) hc (by first | rfl | simp [Region.wanted]) (fun wx hx => ?_) S0 (fun hc S0 => ?_)
                                · go_simp
                                try simp only [List.getElem_toArray, List.getElem_cons_succ, List.getElem_cons_zero, Act.put, List.setIfInBounds_toArray, List.set_cons_zero, List.set_cons_succ]
                                refine wpAnyS_take (i := 2) (v := .slice (some ⟨g2, o2, none⟩) us.length fc) rfl (by kernel_rfl) (by kernel_rfl) (by kernel_rfl) (fun _ _ _ h => h) (fun _ _ => Iff.rfl) hc (by first | rfl | simp [Region.wanted]) (fun wx hx => ?_) S0 (fun hc S0 => ?_)
                                · go_simp
                                try simp only [List.getElem_toArray, List.getElem_cons_succ, List.getElem_cons_zero, Act.put, List.setIfInBounds_toArray, List.set_cons_zero, List.set_cons_succ]
                                refine wpAnyS_take (i := 3) (v := .int .i64 q) rfl (by kernel_rfl) (by kernel_rfl) (by kernel_rfl) (fun _ _ _ h => h) (fun _ _ => Iff.rfl) hc (by first | rfl | simp [Region.wanted]) (fun wx hx => ?_) S0 (fun hc S0 => ?_)
                                · go_simp
                                try simp only [List.getElem_toArray, List.getElem_cons_succ, List.getElem_cons_zero, Act.put, List.setIfInBounds_toArray, List.set_cons_zero, List.set_cons_succ]
                                refine wpAnyS_take (i := 4) (v := .pointer (some ⟨g2, o2 + q, none⟩)) rfl (by kernel_rfl) (by kernel_rfl) (by kernel_rfl) (fun _ _ _ h => h) (fun _ _ => Iff.rfl) hc (by first | rfl | simp [Region.wanted]) (fun wx hx => ?_) S0 (fun hc S0 => ?_)
                                · go_simp
                                try simp only [List.getElem_toArray, List.getElem_cons_succ, List.getElem_cons_zero, Act.put, List.setIfInBounds_toArray, List.set_cons_zero, List.set_cons_succ]
                                refine wpAnyS_take (i := 5) (v := .slice a f.length cc) rfl (by kernel_rfl) (by kernel_rfl) (by kernel_rfl) (fun _ _ _ h => h) (fun _ _ => Iff.rfl) hc (by first | rfl | simp [Region.wanted]) (fun wx hx => ?_) S0 (fun hc S0 => ?_)
                                · have q := (hx.still.cell (p := ⟨g2, o2 + q, none⟩) hg2).trans hcf
                                  go_simp
                                try simp only [List.getElem_toArray, List.getElem_cons_succ, List.getElem_cons_zero, Act.put, List.setIfInBounds_toArray, List.set_cons_zero, List.set_cons_succ]
                                refine wpAnyS_one (i := 6) rfl (by kernel_rfl) (by rfl) hc (fun K' hK => ?_)
                                go_simp
                                refine (HAT.out).mono ?_
                                rintro e A2 ⟨rfl, hbA⟩
                                have HBJ := hid (show Below Ws.heap.size Ws A2 from Below.step (Below.refl _ Ws).drew hbA)
                                clear hbA
                                refine hK.out _ _ HBJ.out (fun hc => ?_)
                                clear hK K'
                                have S0 : StillAt Ws #[] A2 := HBJ.out
                                try simp only [List.getElem_toArray, List.getElem_cons_succ, List.getElem_cons_zero, Act.put, List.setIfInBounds_toArray, List.set_cons_zero, List.set_cons_succ]
                                cases fb with
                                | false =>
                                  as_aux_lemma =>
                                    have HSK := hid (HS.out.2.2.1.skip HXF.out HD3.out (fun h => by rw [HFB.out] at h; cases h.1))
                                    refine wpAnyS_take (i := 7) (v := .bool true) rfl (by kernel_rfl) (by kernel_rfl) (by kernel_rfl) (fun _ _ _ h => h) (fun _ _ => Iff.rfl) hc (by first | rfl | simp [Region.wanted]) (fun wx hx => ?_) S0 (fun hc S0 => ?_)
                                    · go_simp
                                    try simp only [List.getElem_toArray, List.getElem_cons_succ, List.getElem_cons_zero, Act.put, List.setIfInBounds_toArray, List.set_cons_zero, List.set_cons_succ]
                                    refine wpAnyS_take (i := 8) (v := .bool true) rfl (by kernel_rfl) (by kernel_rfl) (by kernel_rfl) (fun _ _ _ h => h) (fun _ _ => Iff.rfl) hc (by first | rfl | simp [Region.wanted]) (fun wx hx => ?_) S0 (fun hc S0 => ?_)
                                    · go_simp
                                    try simp only [List.getElem_toArray, List.getElem_cons_succ, List.getElem_cons_zero, Act.put, List.setIfInBounds_toArray, List.set_cons_zero, List.set_cons_succ]
                                    refine wpAnyS_skip (i := 9) rfl (by kernel_rfl) (by kernel_rfl) (by kernel_rfl) (fun _ _ _ h => h) (fun _ _ => Iff.rfl) hc (by rfl) S0 (fun hc S0 => ?_)
                                    try simp only [List.getElem_toArray, List.getElem_cons_succ, List.getElem_cons_zero, Act.put, List.setIfInBounds_toArray, List.set_cons_zero, List.set_cons_succ]
                                    refine wpAnyS_skip (i := 10) rfl (by kernel_rfl) (by kernel_rfl) (by kernel_rfl) (fun _ _ _ h => h) (fun _ _ => Iff.rfl) hc (by rfl) S0 (fun hc S0 => ?_)
                                    try simp only [List.getElem_toArray, List.getElem_cons_succ, List.getElem_cons_zero, Act.put, List.setIfInBounds_toArray, List.set_cons_zero, List.set_cons_succ]
                                    refine wpAnyS_skip (i := 11) rfl (by kernel_rfl) (by kernel_rfl) (by kernel_rfl) (fun _ _ _ h => h) (fun _ _ => Iff.rfl) hc (by rfl) S0 (fun hc S0 => ?_)
                                    try simp only [List.getElem_toArray, List.getElem_cons_succ, List.getElem_cons_zero, Act.put, List.setIfInBounds_toArray, List.set_cons_zero, List.set_cons_succ]
                                    refine wpAnyS_skip (i := 12) rfl (by kernel_rfl) (by kernel_rfl) (by kernel_rfl) (fun _ _ _ h => h) (fun _ _ => Iff.rfl) hc (by rfl) S0 (fun hc S0 => ?_)
                                    try simp only [List.getElem_toArray, List.getElem_cons_succ, List.getElem_cons_zero, Act.put, List.setIfInBounds_toArray, List.set_cons_zero, List.set_cons_succ]
                                    refine wpAnyS_skip (i := 13) rfl (by kernel_rfl) (by kernel_rfl) (by kernel_rfl) (fun _ _ _ h => h) (fun _ _ => Iff.rfl) hc (by rfl) S0 (fun hc S0 => ?_)
                                    try simp only [List.getElem_toArray, List.getElem_cons_succ, List.getElem_cons_zero, Act.put, List.setIfInBounds_toArray, List.set_cons_zero, List.set_cons_succ]
                                    refine wpAnyS_take (i := 14) (v := .bool true) rfl (by kernel_rfl) (by kernel_rfl) (by kernel_rfl) (fun _ _ _ h => h) (fun _ _ => Iff.rfl) hc (by first | rfl | simp [Region.wanted]) (fun wx hx => ?_) S0 (fun hc S0 => ?_)
                                    · go_simp
                                    try simp only [List.getElem_toArray, List.getElem_cons_succ, List.getElem_cons_zero, Act.put, List.setIfInBounds_toArray, List.set_cons_zero, List.set_cons_succ]
                                    refine wpAnyS_take (i := 15) (v := .bool true) rfl (by kernel_rfl) (by kernel_rfl) (by kernel_rfl) (fun _ _ _ h => h) (fun _ _ => Iff.rfl) hc (by first | rfl | simp [Region.wanted]) (fun wx hx => ?_) S0 (fun hc S0 => ?_)
                                    · go_simp
                                    try simp only [List.getElem_toArray, List.getElem_cons_succ, List.getElem_cons_zero, Act.put, List.setIfInBounds_toArray, List.set_cons_zero, List.set_cons_succ]
                                    refine wpAnyS_skip (i := 16) rfl (by kernel_rfl) (by kernel_rfl) (by kernel_rfl) (fun _ _ _ h => h) (fun _ _ => Iff.rfl) hc (by rfl) S0 (fun hc S0 => ?_)
                                    try simp only [List.getElem_toArray, List.getElem_cons_succ, List.getElem_cons_zero, Act.put, List.setIfInBounds_toArray, List.set_cons_zero, List.set_cons_succ]
                                    refine wpAnyS_skip (i := 17) rfl (by kernel_rfl) (by kernel_rfl) (by kernel_rfl) (fun _ _ _ h => h) (fun _ _ => Iff.rfl) hc (by rfl) S0 (fun hc S0 => ?_)
                                    try simp only [List.getElem_toArray, List.getElem_cons_succ, List.getElem_cons_zero, Act.put, List.setIfInBounds_toArray, List.set_cons_zero, List.set_cons_succ]
                                    refine wpAnyS_skip (i := 18) rfl (by kernel_rfl) (by kernel_rfl) (by kernel_rfl) (fun _ _ _ h => h) (fun _ _ => Iff.rfl) hc (by rfl) S0 (fun hc S0 => ?_)
                                    try simp only [List.getElem_toArray, List.getElem_cons_succ, List.getElem_cons_zero, Act.put, List.setIfInBounds_toArray, List.set_cons_zero, List.set_cons_succ]
                                    refine wpAnyS_skip (i := 19) rfl (by kernel_rfl) (by kernel_rfl) (by kernel_rfl) (fun _ _ _ h => h) (fun _ _ => Iff.rfl) hc (by rfl) S0 (fun hc S0 => ?_)
                                    try simp only [List.getElem_toArray, List.getElem_cons_succ, List.getElem_cons_zero, Act.put, List.setIfInBounds_toArray, List.set_cons_zero, List.set_cons_succ]
                                    refine wpAnyS_skip (i := 20) rfl (by kernel_rfl) (by kernel_rfl) (by kernel_rfl) (fun _ _ _ h => h) (fun _ _ => Iff.rfl) hc (by rfl) S0 (fun hc S0 => ?_)
                                    try simp only [List.getElem_toArray, List.getElem_cons_succ, List.getElem_cons_zero, Act.put, List.setIfInBounds_toArray, List.set_cons_zero, List.set_cons_succ]
                                    refine wpAnyS_skip (i := 21) rfl (by kernel_rfl) (by kernel_rfl) (by kernel_rfl) (fun _ _ _ h => h) (fun _ _ => Iff.rfl) hc (by rfl) S0 (fun hc S0 => ?_)
                                    try simp only [List.getElem_toArray, List.getElem_cons_succ, List.getElem_cons_zero, Act.put, List.setIfInBounds_toArray, List.set_cons_zero, List.set_cons_succ]
                                    refine wpAnyS_skip (i := 22) rfl (by kernel_rfl) (by kernel_rfl) (by kernel_rfl) (fun _ _ _ h => h) (fun _ _ => Iff.rfl) hc (by rfl) S0 (fun hc S0 => ?_)
                                    try simp only [List.getElem_toArray, List.getElem_cons_succ, List.getElem_cons_zero, Act.put, List.setIfInBounds_toArray, List.set_cons_zero, List.set_cons_succ]
                                    refine wpAnyS_skip (i := 23) rfl (by kernel_rfl) (by kernel_rfl) (by kernel_rfl) (fun _ _ _ h => h) (fun _ _ => Iff.rfl) hc (by rfl) S0 (fun hc S0 => ?_)
                                    try simp only [List.getElem_toArray, List.getElem_cons_succ, List.getElem_cons_zero, Act.put, List.setIfInBounds_toArray, List.set_cons_zero, List.set_cons_succ]
                                    refine wpAnyS_skip (i := 24) rfl (by kernel_rfl) (by kernel_rfl) (by kernel_rfl) (fun _ _ _ h => h) (fun _ _ => Iff.rfl) hc (by rfl) S0 (fun hc S0 => ?_)
                                    try simp only [List.getElem_toArray, List.getElem_cons_succ, List.getElem_cons_zero, Act.put, List.setIfInBounds_toArray, List.set_cons_zero, List.set_cons_succ]
                                    refine wpAnyS_skip (i := 25) rfl (by kernel_rfl) (by kernel_rfl) (by kernel_rfl) (fun _ _ _ h => h) (fun _ _ => Iff.rfl) hc (by rfl) S0 (fun hc S0 => ?_)
                                    try simp only [List.getElem_toArray, List.getElem_cons_succ, List.getElem_cons_zero, Act.put, List.setIfInBounds_toArray, List.set_cons_zero, List.set_cons_succ]
                                    refine wpAnyS_skip (i := 26) rfl (by kernel_rfl) (by kernel_rfl) (by kernel_rfl) (fun _ _ _ h => h) (fun _ _ => Iff.rfl) hc (by rfl) S0 (fun hc S0 => ?_)
                                    try simp only [List.getElem_toArray, List.getElem_cons_succ, List.getElem_cons_zero, Act.put, List.setIfInBounds_toArray, List.set_cons_zero, List.set_cons_succ]
                                    refine wpAnyS_skip (i := 27) rfl (by kernel_rfl) (by kernel_rfl) (by kernel_rfl) (fun _ _ _ h => h) (fun _ _ => Iff.rfl) hc (by rfl) S0 (fun hc S0 => ?_)
                                    try simp only [List.getElem_toArray, List.getElem_cons_succ, List.getElem_cons_zero, Act.put, List.setIfInBounds_toArray, List.set_cons_zero, List.set_cons_succ]
                                    refine wpAnyS_skip (i := 28) rfl (by kernel_rfl) (by kernel_rfl) (by kernel_rfl) (fun _ _ _ h => h) (fun _ _ => Iff.rfl) hc (by rfl) S0 (fun hc S0 => ?_)
                                    try simp only [List.getElem_toArray, List.getElem_cons_succ, List.getElem_cons_zero, Act.put, List.setIfInBounds_toArray, List.set_cons_zero, List.set_cons_succ]
                                    refine wpAnyS_skip (i := 29) rfl (by kernel_rfl) (by kernel_rfl) (by kernel_rfl) (fun _ _ _ h => h) (fun _ _ => Iff.rfl) hc (by rfl) S0 (fun hc S0 => ?_)
                                    try simp only [List.getElem_toArray, List.getElem_cons_succ, List.getElem_cons_zero, Act.put, List.setIfInBounds_toArray, List.set_cons_zero, List.set_cons_succ]
                                    refine wpAnyS_take (i := 30) (v := .bool true) rfl (by kernel_rfl) (by kernel_rfl) (by kernel_rfl) (fun _ _ _ h => h) (fun _ _ => Iff.rfl) hc (by first | rfl | simp [Region.wanted]) (fun wx hx => ?_) S0 (fun hc S0 => ?_)
                                    · go_simp
                                    try simp only [List.getElem_toArray, List.getElem_cons_succ, List.getElem_cons_zero, Act.put, List.setIfInBounds_toArray, List.set_cons_zero, List.set_cons_succ]
                                    refine wpAnyS_done (by kernel_rfl) ?_ _
                                    clear hc S0
                                    have HNX := hid (show MapR A2 Tryz.prog 9 mi R0 ni (numF (F i)) (dropL lf (.string x)) cnt' ∧ AtI L Wr.heap.size ms F2 A2 ∧ Fo.Beg L rs most rest i (fun g r => doneL lf g = true ∨ (g = x.data.toList ∧ r ∈ rs.take (q + 1))) F2 ∧ Below Wr.heap.size Wr A2 ∧ F2 i = F i from ⟨HS.out.1.kept (Below.grows HBJ.out none) (by simp) (by simp), HS.out.2.1.below HBJ.out, HSK.out, Below.step HS.out.2.2.2.1 HBJ.out, HS.out.2.2.2.2⟩)
                                    go_wp2_with fail
                                    go_roundw
                                    case rel => exact ⟨q + 1, _, by omega, by go_num, HNX.out⟩
                                    case measure => simp [RowKit.intOf]; omega
                                | true =>
                                  have hnn : i + f.length ≤ n := by have := Al.fits_le HFB.out; rw [HFE.out.1, HN.out]; exact this
                                  have hrt := HRT.out (i + f.length) (by rw [← HN.out]; exact hnn)
                                  have HRO := hid (HRK.out (i + f.length) (by rw [← HN.out]; exact hnn))
                                  obtain ⟨b2, hb2⟩ : ∃ b, b = rest (i + f.length) := ⟨_, rfl⟩
                                  rw [← hb2] at hrt HRO
                                  obtain ⟨bl0, bl1⟩ := HRO.out.bound HG.out (by rw [← HN.out]; omega)
                                  have HB2 := hid hb2
                                  have k2 := (HRB.out.below HS.out.2.2.2.1).cell (intV_get hrt)
                                  have s0 : (0 : Int) ≤ (i : Int) + (f.length : Int) := by omega
                                  have s1 : (i : Int) + (f.length : Int) < (n : Int) + 1 := by omega
                                  have s2 : ((i : Int) + (f.length : Int)).toNat = i + f.length := by omega
                                  have w1 : IntKind.i64.wrap (d + cst) = d + cst := IntWalk.i64_in _ (by omega)
                                  have w2 : IntKind.i64.wrap (d + cst + b2) = d + cst + b2 := IntWalk.i64_in _ (by omega)
                                  clear hb2 hrt
                                  refine wpAnyS_take (i := 7) (v := .bool false) rfl (by kernel_rfl) (by kernel_rfl) (by kernel_rfl) (fun _ _ _ h => h) (fun _ _ => Iff.rfl) hc (by first | rfl | simp [Region.wanted]) (fun wx hx => ?_) S0 (fun hc S0 => ?_)
                                  · go_simp
                                  try simp only [List.getElem_toArray, List.getElem_cons_succ, List.getElem_cons_zero, Act.put, List.setIfInBounds_toArray, List.set_cons_zero, List.set_cons_succ]
                                  refine wpAnyS_take (i := 8) (v := .bool false) rfl (by kernel_rfl) (by kernel_rfl) (by kernel_rfl) (fun _ _ _ h => h) (fun _ _ => Iff.rfl) hc (by first | rfl | simp [Region.wanted]) (fun wx hx => ?_) S0 (fun hc S0 => ?_)
                                  · go_simp
                                  try simp only [List.getElem_toArray, List.getElem_cons_succ, List.getElem_cons_zero, Act.put, List.setIfInBounds_toArray, List.set_cons_zero, List.set_cons_succ]
                                  refine wpAnyS_take (i := 9) (v := .slice (some ⟨Wu.heap.size, 0, none⟩) (n + 1) (n + 1)) rfl (by kernel_rfl) (by kernel_rfl) (by kernel_rfl) (fun _ _ _ h => h) (fun _ _ => Iff.rfl) hc (by first | rfl | simp [Region.wanted]) (fun wx hx => ?_) S0 (fun hc S0 => ?_)
                                  · go_simp
                                  try simp only [List.getElem_toArray, List.getElem_cons_succ, List.getElem_cons_zero, Act.put, List.setIfInBounds_toArray, List.set_cons_zero, List.set_cons_succ]
                                  refine wpAnyS_take (i := 10) (v := .int .i64 (i + f.length)) rfl (by kernel_rfl) (by kernel_rfl) (by kernel_rfl) (fun _ _ _ h => h) (fun _ _ => Iff.rfl) hc (by first | rfl | simp [Region.wanted]) (fun wx hx => ?_) S0 (fun hc S0 => ?_)
                                  · go_simp
                                  try simp only [List.getElem_toArray, List.getElem_cons_succ, List.getElem_cons_zero, Act.put, List.setIfInBounds_toArray, List.set_cons_zero, List.set_cons_succ]
                                  refine wpAnyS_take (i := 11) (v := .pointer (some ⟨Wu.heap.size, i + f.length, none⟩)) rfl (by kernel_rfl) (by kernel_rfl) (by kernel_rfl) (fun _ _ _ h => h) (fun _ _ => Iff.rfl) hc (by first | rfl | simp [Region.wanted]) (fun wx hx => ?_) S0 (fun hc S0 => ?_)
                                  · go_simp
                                  try simp only [List.getElem_toArray, List.getElem_cons_succ, List.getElem_cons_zero, Act.put, List.setIfInBounds_toArray, List.set_cons_zero, List.set_cons_succ]
                                  refine wpAnyS_take (i := 12) (v := .int .i64 b2) rfl (by kernel_rfl) (by kernel_rfl) (by kernel_rfl) (fun _ _ _ h => h) (fun _ _ => Iff.rfl) hc (by first | rfl | simp [Region.wanted]) (fun wx hx => ?_) S0 (fun hc S0 => ?_)
                                  · have q := (hx.still.cell (p := ⟨Wu.heap.size, i + f.length, none⟩) kz).trans k2
                                    go_simp
                                  try simp only [List.getElem_toArray, List.getElem_cons_succ, List.getElem_cons_zero, Act.put, List.setIfInBounds_toArray, List.set_cons_zero, List.set_cons_succ]
                                  by_cases hb0 : b2 < 0
                                  · as_aux_lemma =>
                                      have gb : decide (b2 < 0) = true := decide_eq_true hb0
                                      have HSK := hid (HS.out.2.2.1.skip HXF.out HD3.out (fun h => by have := h.2.1; rw [← HFE.out.1, ← HB2.out] at this; omega))
                                      refine wpAnyS_take (i := 13) (v := .bool true) rfl (by kernel_rfl) (by kernel_rfl) (by kernel_rfl) (fun _ _ _ h => h) (fun _ _ => Iff.rfl) hc (by first | rfl | simp [Region.wanted]) (fun wx hx => ?_) S0 (fun hc S0 => ?_)
                                      · go_simp
                                      try simp only [List.getElem_toArray, List.getElem_cons_succ, List.getElem_cons_zero, Act.put, List.setIfInBounds_toArray, List.set_cons_zero, List.set_cons_succ]
                                      refine wpAnyS_take (i := 14) (v := .bool true) rfl (by kernel_rfl) (by kernel_rfl) (by kernel_rfl) (fun _ _ _ h => h) (fun _ _ => Iff.rfl) hc (by first | rfl | simp [Region.wanted]) (fun wx hx => ?_) S0 (fun hc S0 => ?_)
                                      · go_simp
                                      try simp only [List.getElem_toArray, List.getElem_cons_succ, List.getElem_cons_zero, Act.put, List.setIfInBounds_toArray, List.set_cons_zero, List.set_cons_succ]
                                      refine wpAnyS_take (i := 15) (v := .bool true) rfl (by kernel_rfl) (by kernel_rfl) (by kernel_rfl) (fun _ _ _ h => h) (fun _ _ => Iff.rfl) hc (by first | rfl | simp [Region.wanted]) (fun wx hx => ?_) S0 (fun hc S0 => ?_)
                                      · go_simp
                                      try simp only [List.getElem_toArray, List.getElem_cons_succ, List.getElem_cons_zero, Act.put, List.setIfInBounds_toArray, List.set_cons_zero, List.set_cons_succ]
                                      refine wpAnyS_skip (i := 16) rfl (by kernel_rfl) (by kernel_rfl) (by kernel_rfl) (fun _ _ _ h => h) (fun _ _ => Iff.rfl) hc (by rfl) S0 (fun hc S0 => ?_)
                                      try simp only [List.getElem_toArray, List.getElem_cons_succ, List.getElem_cons_zero, Act.put, List.setIfInBounds_toArray, List.set_cons_zero, List.set_cons_succ]
                                      refine wpAnyS_skip (i := 17) rfl (by kernel_rfl) (by kernel_rfl) (by kernel_rfl) (fun _ _ _ h => h) (fun _ _ => Iff.rfl) hc (by rfl) S0 (fun hc S0 => ?_)
                                      try simp only [List.getElem_toArray, List.getElem_cons_succ, List.getElem_cons_zero, Act.put, List.setIfInBounds_toArray, List.set_cons_zero, List.set_cons_succ]
                                      refine wpAnyS_skip (i := 18) rfl (by kernel_rfl) (by kernel_rfl) (by kernel_rfl) (fun _ _ _ h => h) (fun _ _ => Iff.rfl) hc (by rfl) S0 (fun hc S0 => ?_)
                                      try simp only [List.getElem_toArray, List.getElem_cons_succ, List.getElem_cons_zero, Act.put, List.setIfInBounds_toArray, List.set_cons_zero, List.set_cons_succ]
                                      refine wpAnyS_skip (i := 19) rfl (by kernel_rfl) (by kernel_rfl) (by kernel_rfl) (fun _ _ _ h => h) (fun _ _ => Iff.rfl) hc (by rfl) S0 (fun hc S0 => ?_)
                                      try simp only [List.getElem_toArray, List.getElem_cons_succ, List.getElem_cons_zero, Act.put, List.setIfInBounds_toArray, List.set_cons_zero, List.set_cons_succ]
                                      refine wpAnyS_skip (i := 20) rfl (by kernel_rfl) (by kernel_rfl) (by kernel_rfl) (fun _ _ _ h => h) (fun _ _ => Iff.rfl) hc (by rfl) S0 (fun hc S0 => ?_)
                                      try simp only [List.getElem_toArray, List.getElem_cons_succ, List.getElem_cons_zero, Act.put, List.setIfInBounds_toArray, List.set_cons_zero, List.set_cons_succ]
                                      refine wpAnyS_skip (i := 21) rfl (by kernel_rfl) (by kernel_rfl) (by kernel_rfl) (fun _ _ _ h => h) (fun _ _ => Iff.rfl) hc (by rfl) S0 (fun hc S0 => ?_)
                                      try simp only [List.getElem_toArray, List.getElem_cons_succ, List.getElem_cons_zero, Act.put, List.setIfInBounds_toArray, List.set_cons_zero, List.set_cons_succ]
                                      refine wpAnyS_skip (i := 22) rfl (by kernel_rfl) (by kernel_rfl) (by kernel_rfl) (fun _ _ _ h => h) (fun _ _ => Iff.rfl) hc (by rfl) S0 (fun hc S0 => ?_)
                                      try simp only [List.getElem_toArray, List.getElem_cons_succ, List.getElem_cons_zero, Act.put, List.setIfInBounds_toArray, List.set_cons_zero, List.set_cons_succ]
                                      refine wpAnyS_skip (i := 23) rfl (by kernel_rfl) (by kernel_rfl) (by kernel_rfl) (fun _ _ _ h => h) (fun _ _ => Iff.rfl) hc (by rfl) S0 (fun hc S0 => ?_)
                                      try simp only [List.getElem_toArray, List.getElem_cons_succ, List.getElem_cons_zero, Act.put, List.setIfInBounds_toArray, List.set_cons_zero, List.set_cons_succ]
                                      refine wpAnyS_skip (i := 24) rfl (by kernel_rfl) (by kernel_rfl) (by kernel_rfl) (fun _ _ _ h => h) (fun _ _ => Iff.rfl) hc (by rfl) S0 (fun hc S0 => ?_)
                                      try simp only [List.getElem_toArray, List.getElem_cons_succ, List.getElem_cons_zero, Act.put, List.setIfInBounds_toArray, List.set_cons_zero, List.set_cons_succ]
                                      refine wpAnyS_skip (i := 25) rfl (by kernel_rfl) (by kernel_rfl) (by kernel_rfl) (fun _ _ _ h => h) (fun _ _ => Iff.rfl) hc (by rfl) S0 (fun hc S0 => ?_)
                                      try simp only [List.getElem_toArray, List.getElem_cons_succ, List.getElem_cons_zero, Act.put, List.setIfInBounds_toArray, List.set_cons_zero, List.set_cons_succ]
                                      refine wpAnyS_skip (i := 26) rfl (by kernel_rfl) (by kernel_rfl) (by kernel_rfl) (fun _ _ _ h => h) (fun _ _ => Iff.rfl) hc (by rfl) S0 (fun hc S0 => ?_)
                                      try simp only [List.getElem_toArray, List.getElem_cons_succ, List.getElem_cons_zero, Act.put, List.setIfInBounds_toArray, List.set_cons_zero, List.set_cons_succ]
                                      refine wpAnyS_skip (i := 27) rfl (by kernel_rfl) (by kernel_rfl) (by kernel_rfl) (fun _ _ _ h => h) (fun _ _ => Iff.rfl) hc (by rfl) S0 (fun hc S0 => ?_)
                                      try simp only [List.getElem_toArray, List.getElem_cons_succ, List.getElem_cons_zero, Act.put, List.setIfInBounds_toArray, List.set_cons_zero, List.set_cons_succ]
                                      refine wpAnyS_skip (i := 28) rfl (by kernel_rfl) (by kernel_rfl) (by kernel_rfl) (fun _ _ _ h => h) (fun _ _ => Iff.rfl) hc (by rfl) S0 (fun hc S0 => ?_)
                                      try simp only [List.getElem_toArray, List.getElem_cons_succ, List.getElem_cons_zero, Act.put, List.setIfInBounds_toArray, List.set_cons_zero, List.set_cons_succ]
                                      refine wpAnyS_skip (i := 29) rfl (by kernel_rfl) (by kernel_rfl) (by kernel_rfl) (fun _ _ _ h => h) (fun _ _ => Iff.rfl) hc (by rfl) S0 (fun hc S0 => ?_)
                                      try simp only [List.getElem_toArray, List.getElem_cons_succ, List.getElem_cons_zero, Act.put, List.setIfInBounds_toArray, List.set_cons_zero, List.set_cons_succ]
                                      refine wpAnyS_take (i := 30) (v := .bool true) rfl (by kernel_rfl) (by kernel_rfl) (by kernel_rfl) (fun _ _ _ h => h) (fun _ _ => Iff.rfl) hc (by first | rfl | simp [Region.wanted]) (fun wx hx => ?_) S0 (fun hc S0 => ?_)
                                      · go_simp
                                      try simp only [List.getElem_toArray, List.getElem_cons_succ, List.getElem_cons_zero, Act.put, List.setIfInBounds_toArray, List.set_cons_zero, List.set_cons_succ]
                                      refine wpAnyS_done (by kernel_rfl) ?_ _
                                      clear hc S0
                                      have HNX := hid (show MapR A2 Tryz.prog 9 mi R0 ni (numF (F i)) (dropL lf (.string x)) cnt' ∧ AtI L Wr.heap.size ms F2 A2 ∧ Fo.Beg L rs most rest i (fun g r => doneL lf g = true ∨ (g = x.data.toList ∧ r ∈ rs.take (q + 1))) F2 ∧ Below Wr.heap.size Wr A2 ∧ F2 i = F i from ⟨HS.out.1.kept (Below.grows HBJ.out none) (by simp) (by simp), HS.out.2.1.below HBJ.out, HSK.out, Below.step HS.out.2.2.2.1 HBJ.out, HS.out.2.2.2.2⟩)
                                      go_wp2_with fail
                                      go_roundw
                                      case rel => exact ⟨q + 1, _, by omega, by go_num, HNX.out⟩
                                      case measure => simp [RowKit.intOf]; omega
                                  have gb : decide (b2 < 0) = false := decide_eq_false hb0
                                  refine wpAnyS_take (i := 13) (v := .bool false) rfl (by kernel_rfl) (by kernel_rfl) (by kernel_rfl) (fun _ _ _ h => h) (fun _ _ => Iff.rfl) hc (by first | rfl | simp [Region.wanted]) (fun wx hx => ?_) S0 (fun hc S0 => ?_)
                                  · go_simp
                                  try simp only [List.getElem_toArray, List.getElem_cons_succ, List.getElem_cons_zero, Act.put, List.setIfInBounds_toArray, List.set_cons_zero, List.set_cons_succ]
                                  refine wpAnyS_take (i := 14) (v := .bool false) rfl (by kernel_rfl) (by kernel_rfl) (by kernel_rfl) (fun _ _ _ h => h) (fun _ _ => Iff.rfl) hc (by first | rfl | simp [Region.wanted]) (fun wx hx => ?_) S0 (fun hc S0 => ?_)
                                  · go_simp
                                  try simp only [List.getElem_toArray, List.getElem_cons_succ, List.getElem_cons_zero, Act.put, List.setIfInBounds_toArray, List.set_cons_zero, List.set_cons_succ]
                                  refine wpAnyS_take (i := 15) (v := .bool false) rfl (by kernel_rfl) (by kernel_rfl) (by kernel_rfl) (fun _ _ _ h => h) (fun _ _ => Iff.rfl) hc (by first | rfl | simp [Region.wanted]) (fun wx hx => ?_) S0 (fun hc S0 => ?_)
                                  · go_simp
                                  try simp only [List.getElem_toArray, List.getElem_cons_succ, List.getElem_cons_zero, Act.put, List.setIfInBounds_toArray, List.set_cons_zero, List.set_cons_succ]
                                  refine wpAnyS_take (i := 16) (v := .int .i64 d) rfl (by kernel_rfl) (by kernel_rfl) (by kernel_rfl) (fun _ _ _ h => h) (fun _ _ => Iff.rfl) hc (by first | rfl | simp [Region.wanted]) (fun wx hx => ?_) S0 (fun hc S0 => ?_)
                                  · go_simp
                                  try simp only [List.getElem_toArray, List.getElem_cons_succ, List.getElem_cons_zero, Act.put, List.setIfInBounds_toArray, List.set_cons_zero, List.set_cons_succ]
                                  refine wpAnyS_take (i := 17) (v := .slice (some ⟨g, o, none⟩) us.length uc) rfl (by kernel_rfl) (by kernel_rfl) (by kernel_rfl) (fun _ _ _ h => h) (fun _ _ => Iff.rfl) hc (by first | rfl | simp [Region.wanted]) (fun wx hx => ?_) S0 (fun hc S0 => ?_)
                                  · go_simp
                                  try simp only [List.getElem_toArray, List.getElem_cons_succ, List.getElem_cons_zero, Act.put, List.setIfInBounds_toArray, List.set_cons_zero, List.set_cons_succ]
                                  refine wpAnyS_take (i := 18) (v := .int .i64 q) rfl (by kernel_rfl) (by kernel_rfl) (by kernel_rfl) (fun _ _ _ h => h) (fun _ _ => Iff.rfl) hc (by first | rfl | simp [Region.wanted]) (fun wx hx => ?_) S0 (fun hc S0 => ?_)
                                  · go_simp
                                  try simp only [List.getElem_toArray, List.getElem_cons_succ, List.getElem_cons_zero, Act.put, List.setIfInBounds_toArray, List.set_cons_zero, List.set_cons_succ]
                                  refine wpAnyS_take (i := 19) (v := .pointer (some ⟨g, o + q * 4, none⟩)) rfl (by kernel_rfl) (by kernel_rfl) (by kernel_rfl) (fun _ _ _ h => h) (fun _ _ => Iff.rfl) hc (by first | rfl | simp [Region.wanted]) (fun wx hx => ?_) S0 (fun hc S0 => ?_)
                                  · go_simp
                                  try simp only [List.getElem_toArray, List.getElem_cons_succ, List.getElem_cons_zero, Act.put, List.setIfInBounds_toArray, List.set_cons_zero, List.set_cons_succ]
                                  refine wpAnyS_take (i := 20) (v := .pointer (some ⟨g, o + q * 4 + 3, none⟩)) rfl (by kernel_rfl) (by kernel_rfl) (by kernel_rfl) (fun _ _ _ h => h) (fun _ _ => Iff.rfl) hc (by first | rfl | simp [Region.wanted]) (fun wx hx => ?_) S0 (fun hc S0 => ?_)
                                  · go_simp
                                  try simp only [List.getElem_toArray, List.getElem_cons_succ, List.getElem_cons_zero, Act.put, List.setIfInBounds_toArray, List.set_cons_zero, List.set_cons_succ]
                                  refine wpAnyS_take (i := 21) (v := .int .i64 cst) rfl (by kernel_rfl) (by kernel_rfl) (by kernel_rfl) (fun _ _ _ h => h) (fun _ _ => Iff.rfl) hc (by first | rfl | simp [Region.wanted]) (fun wx hx => ?_) S0 (fun hc S0 => ?_)
                                  · have q := (hx.still.cell (p := ⟨g, o + q * 4 + 3, none⟩) hgl).trans e3
                                    go_simp
                                  try simp only [List.getElem_toArray, List.getElem_cons_succ, List.getElem_cons_zero, Act.put, List.setIfInBounds_toArray, List.set_cons_zero, List.set_cons_succ]
                                  refine wpAnyS_take (i := 22) (v := .int .i64 (d + cst)) rfl (by kernel_rfl) (by kernel_rfl) (by kernel_rfl) (fun _ _ _ h => h) (fun _ _ => Iff.rfl) hc (by first | rfl | simp [Region.wanted]) (fun wx hx => ?_) S0 (fun hc S0 => ?_)
                                  · go_simp
                                  try simp only [List.getElem_toArray, List.getElem_cons_succ, List.getElem_cons_zero, Act.put, List.setIfInBounds_toArray, List.set_cons_zero, List.set_cons_succ]
                                  refine wpAnyS_take (i := 23) (v := .slice (some ⟨Wu.heap.size, 0, none⟩) (n + 1) (n + 1)) rfl (by kernel_rfl) (by kernel_rfl) (by kernel_rfl) (fun _ _ _ h => h) (fun _ _ => Iff.rfl) hc (by first | rfl | simp [Region.wanted]) (fun wx hx => ?_) S0 (fun hc S0 => ?_)
                                  · go_simp
                                  try simp only [List.getElem_toArray, List.getElem_cons_succ, List.getElem_cons_zero, Act.put, List.setIfInBounds_toArray, List.set_cons_zero, List.set_cons_succ]
                                  refine wpAnyS_take (i := 24) (v := .int .i64 (i + f.length)) rfl (by kernel_rfl) (by kernel_rfl) (by kernel_rfl) (fun _ _ _ h => h) (fun _ _ => Iff.rfl) hc (by first | rfl | simp [Region.wanted]) (fun wx hx => ?_) S0 (fun hc S0 => ?_)
                                  · go_simp
                                  try simp only [List.getElem_toArray, List.getElem_cons_succ, List.getElem_cons_zero, Act.put, List.setIfInBounds_toArray, List.set_cons_zero, List.set_cons_succ]
                                  refine wpAnyS_take (i := 25) (v := .pointer (some ⟨Wu.heap.size, i + f.length, none⟩)) rfl (by kernel_rfl) (by kernel_rfl) (by kernel_rfl) (fun _ _ _ h => h) (fun _ _ => Iff.rfl) hc (by first | rfl | simp [Region.wanted]) (fun wx hx => ?_) S0 (fun hc S0 => ?_)
                                  · go_simp
                                  try simp only [List.getElem_toArray, List.getElem_cons_succ, List.getElem_cons_zero, Act.put, List.setIfInBounds_toArray, List.set_cons_zero, List.set_cons_succ]
                                  refine wpAnyS_take (i := 26) (v := .int .i64 b2) rfl (by kernel_rfl) (by kernel_rfl) (by kernel_rfl) (fun _ _ _ h => h) (fun _ _ => Iff.rfl) hc (by first | rfl | simp [Region.wanted]) (fun wx hx => ?_) S0 (fun hc S0 => ?_)
                                  · have q := (hx.still.cell (p := ⟨Wu.heap.size, i + f.length, none⟩) kz).trans k2
                                    go_simp
                                  try simp only [List.getElem_toArray, List.getElem_cons_succ, List.getElem_cons_zero, Act.put, List.setIfInBounds_toArray, List.set_cons_zero, List.set_cons_succ]
                                  refine wpAnyS_take (i := 27) (v := .int .i64 (d + cst + b2)) rfl (by kernel_rfl) (by kernel_rfl) (by kernel_rfl) (fun _ _ _ h => h) (fun _ _ => Iff.rfl) hc (by first | rfl | simp [Region.wanted]) (fun wx hx => ?_) S0 (fun hc S0 => ?_)
                                  · go_simp
                                  try simp only [List.getElem_toArray, List.getElem_cons_succ, List.getElem_cons_zero, Act.put, List.setIfInBounds_toArray, List.set_cons_zero, List.set_cons_succ]
                                  refine wpAnyS_take (i := 28) (v := .int .i64 most) rfl (by kernel_rfl) (by kernel_rfl) (by kernel_rfl) (fun _ _ _ h => h) (fun _ _ => Iff.rfl) hc (by first | rfl | simp [Region.wanted]) (fun wx hx => ?_) S0 (fun hc S0 => ?_)
                                  · go_simp
                                  try simp only [List.getElem_toArray, List.getElem_cons_succ, List.getElem_cons_zero, Act.put, List.setIfInBounds_toArray, List.set_cons_zero, List.set_cons_succ]
                                  by_cases hmo : most < d + cst + b2
                                  · as_aux_lemma =>
                                      have gm : decide (most < d + cst + b2) = true := decide_eq_true hmo
                                      have HSK := hid (HS.out.2.2.1.skip HXF.out HD3.out (fun h => by have := h.2.2; rw [← HFE.out.1, ← HFE.out.2.1, ← HB2.out] at this; omega))
                                      refine wpAnyS_take (i := 29) (v := .bool true) rfl (by kernel_rfl) (by kernel_rfl) (by kernel_rfl) (fun _ _ _ h => h) (fun _ _ => Iff.rfl) hc (by first | rfl | simp [Region.wanted]) (fun wx hx => ?_) S0 (fun hc S0 => ?_)
                                      · go_simp
                                      try simp only [List.getElem_toArray, List.getElem_cons_succ, List.getElem_cons_zero, Act.put, List.setIfInBounds_toArray, List.set_cons_zero, List.set_cons_succ]
                                      refine wpAnyS_take (i := 30) (v := .bool true) rfl (by kernel_rfl) (by kernel_rfl) (by kernel_rfl) (fun _ _ _ h => h) (fun _ _ => Iff.rfl) hc (by first | rfl | simp [Region.wanted]) (fun wx hx => ?_) S0 (fun hc S0 => ?_)
                                      · go_simp
                                      try simp only [List.getElem_toArray, List.getElem_cons_succ, List.getElem_cons_zero, Act.put, List.setIfInBounds_toArray, List.set_cons_zero, List.set_cons_succ]
                                      refine wpAnyS_done (by kernel_rfl) ?_ _
                                      clear hc S0
                                      have HNX := hid (show MapR A2 Tryz.prog 9 mi R0 ni (numF (F i)) (dropL lf (.string x)) cnt' ∧ AtI L Wr.heap.size ms F2 A2 ∧ Fo.Beg L rs most rest i (fun g r => doneL lf g = true ∨ (g = x.data.toList ∧ r ∈ rs.take (q + 1))) F2 ∧ Below Wr.heap.size Wr A2 ∧ F2 i = F i from ⟨HS.out.1.kept (Below.grows HBJ.out none) (by simp) (by simp), HS.out.2.1.below HBJ.out, HSK.out, Below.step HS.out.2.2.2.1 HBJ.out, HS.out.2.2.2.2⟩)
                                      go_wp2_with fail
                                      go_roundw
                                      case rel => exact ⟨q + 1, _, by omega, by go_num, HNX.out⟩
                                      case measure => simp [RowKit.intOf]; omega
                                  have gm : decide (most < d + cst + b2) = false := decide_eq_false hmo
                                  refine wpAnyS_take (i := 29) (v := .bool false) rfl (by kernel_rfl) (by kernel_rfl) (by kernel_rfl) (fun _ _ _ h => h) (fun _ _ => Iff.rfl) hc (by first | rfl | simp [Region.wanted]) (fun wx hx => ?_) S0 (fun hc S0 => ?_)
                                  · go_simp
                                  try simp only [List.getElem_toArray, List.getElem_cons_succ, List.getElem_cons_zero, Act.put, List.setIfInBounds_toArray, List.set_cons_zero, List.set_cons_succ]
                                  refine wpAnyS_take (i := 30) (v := .bool false) rfl (by kernel_rfl) (by kernel_rfl) (by kernel_rfl) (fun _ _ _ h => h) (fun _ _ => Iff.rfl) hc (by first | rfl | simp [Region.wanted]) (fun wx hx => ?_) S0 (fun hc S0 => ?_)
                                  · go_simp
                                  try simp only [List.getElem_toArray, List.getElem_cons_succ, List.getElem_cons_zero, Act.put, List.setIfInBounds_toArray, List.set_cons_zero, List.set_cons_succ]
                                  refine wpAnyS_done (by kernel_rfl) ?_ _
                                  clear hc S0
                                  have hbJ := HBJ.out
                                  have HNEW := hid (fun hn => HS.out.2.2.1.new HG.out HZZ.out HXF.out HD3.out HRM.out.2 HFB.out (by rw [← HFE.out.1, ← HB2.out]; omega) (by rw [← HFE.out.1, ← HFE.out.2.1, ← HB2.out]; omega) hn)
                                  rw [← HFE.out.1, ← HFE.out.2.1, ← HFE.out.2.2] at HNEW
                                  obtain ⟨mn, n2, hmn, hMN, hn2, hmn4⟩ := (HS.out.2.1.below hbJ).maps (i + f.length) (by rw [← HN.out]; exact hnn)
                                  have hAJ := HS.out.2.1.below hbJ
                                  have m0 := hAJ.e.cell hmn
                                  have mzz := hAJ.e.lt
                                  have e2 := (hbJ.cell (p := ⟨g, o + q * 4 + 2, none⟩) hgl).trans e2
                                  have e3 := (hbJ.cell (p := ⟨g, o + q * 4 + 3, none⟩) hgl).trans e3
                                  have hgl := Nat.lt_of_lt_of_le hgl hbJ.size
                                  have hbdr : Below A2.heap.size A2 A2.drew := (Below.refl _ A2).drew
                                  have HAD := hid (hAJ.below hbdr)
                                  have HMM := hid hmn
                                  have HMD := hid (hMN.below hbdr)
                                  have HRD := hid (show MapR A2.drew Tryz.prog 9 mi R0 ni (numF (F i)) (dropL lf (.string x)) cnt' from (HS.out.1.kept (Below.grows hbJ none) (by simp) (by simp)).kept (Below.grows hbdr none) (by simp) (by simp))
                                  have HBD := hid (Below.step (Below.step HS.out.2.2.2.1 hbJ) hbdr)
                                  have m0d := HAD.out.e.cell hmn
                                  have mzd := HAD.out.e.lt
                                  have e2d := (hbdr.cell (p := ⟨g, o + q * 4 + 2, none⟩) hgl).trans e2
                                  have e3d := (hbdr.cell (p := ⟨g, o + q * 4 + 3, none⟩) hgl).trans e3
                                  have hgld := Nat.lt_of_lt_of_le hgl hbdr.size
                                  have hkx : x ++ bs tz = bs (x.data.toList ++ tz) := by rw [← bs_appF, bs_toList]
                                  have hs3 : (bs tz).size ≤ 3 := by rw [bs_len]; exact ht3
                                  have hks : (bs (x.data.toList ++ tz)).size ≤ maxLen := by
                                    rw [← hkx, ByteArray.size_append]
                                    unfold maxLen
                                    omega
                                  have hsum : ¬ 9223372036854775807 < x.size + (bs tz).size := by omega
                                  have hsum2 : x.size + (bs tz).size ≤ 9223372036854775807 := by omega
                                  have hget := HMD.out.getOk strF_keyed Tryz.underlying80 (zero_int A2.drew) (strF_key (s := bs (x.data.toList ++ tz)) hks)
                                  rw [numF_bs] at hget
                                  have HN1 := hid (show mi ≠ mn from fun e => by
                                    have := HS.out.2.1.apart i (i + f.length) mi hil (by rw [← HN.out]; exact hnn) HMB.out.1 (by rw [e]; exact hmn)
                                    omega)
                                  have HN2 := hid (show R0 ≠ mn from fun e => HNR.out.2 (i + f.length) (by rw [← HN.out]; exact hnn) (by rw [e]; exact hmn))
                                  have HPUT := hid (show (∀ o, F2 (i + f.length) (x.data.toList ++ tz) = some o → d + cst < o) → ∃ wz, (Instr.mapUpdate 80 (.map (some mn)) (.string (bs (x.data.toList ++ tz))) (.int .i64 (d + cst))).run Tryz.prog A2.drew.drew = .ok () wz ∧
                                      Hid (MapR wz Tryz.prog 9 mi R0 ni (numF (F i)) (dropL lf (.string x)) cnt' ∧ MapF wz Tryz.prog 9 mn (n2 + 1) (numF (putE (F2 (i + f.length)) (x.data.toList ++ tz) (d + cst))) ∧ (wz.cell? ⟨Wr.heap.size, i + f.length, none⟩ = some (.map (some mn)) ∧ Wr.heap.size < wz.heap.size) ∧
                                        Fo.Beg L rs most rest i (fun g r => doneL lf g = true ∨ (g = x.data.toList ∧ r ∈ rs.take (q + 1))) (fun j => if j = i + f.length then putE (F2 (i + f.length)) (x.data.toList ++ tz) (d + cst) else F2 j) ∧ Below Wr.heap.size Wr wz ∧
                                        ∀ N, MapF wz Tryz.prog 9 mn N (numF (putE (F2 (i + f.length)) (x.data.toList ++ tz) (d + cst))) → N ≤ 40000 → MapR wz Tryz.prog 9 mi R0 ni (numF (F i)) (dropL lf (.string x)) cnt' ∧ AtI L Wr.heap.size ms (fun j => if j = i + f.length then putE (F2 (i + f.length)) (x.data.toList ++ tz) (d + cst) else F2 j) wz ∧
                                          Fo.Beg L rs most rest i (fun g r => doneL lf g = true ∨ (g = x.data.toList ∧ r ∈ rs.take (q + 1))) (fun j => if j = i + f.length then putE (F2 (i + f.length)) (x.data.toList ++ tz) (d + cst) else F2 j) ∧ Below Wr.heap.size Wr wz ∧ (fun j => if j = i + f.length then putE (F2 (i + f.length)) (x.data.toList ++ tz) (d + cst) else F2 j) i = F i) from fun hn => by
                                    have hbd : Below A2.drew.heap.size A2.drew A2.drew.drew := (Below.refl _ _).drew
                                    obtain ⟨wz, hput, hMz, hgz⟩ := (HMD.out.below hbd).put strF_keyed Tryz.underlying80 (by unfold maxLen; omega) (strF_key (s := bs (x.data.toList ++ tz)) hks) (putE_same (F2 (i + f.length)) (x.data.toList ++ tz) (d + cst)) (putE_other (F2 (i + f.length)) (x.data.toList ++ tz) (d + cst))
                                    have hA3 := HAD.out.below hbd
                                    have hR3 : MapR wz Tryz.prog 9 mi R0 ni (numF (F i)) (dropL lf (.string x)) cnt' := (HRD.out.kept (Below.grows hbd none) (by simp) (by simp)).kept hgz (fun e => HN1.out (Option.some.inj e)) (fun e => HN2.out (Option.some.inj e))
                                    have hB3 : Below Wr.heap.size Wr wz := (Below.step HBD.out hbd).grown hgz (Below.step HBD.out hbd).size (fun r e => by cases e; omega)
                                    have hE3 := hA3.e.kept hgz (fun e => by have := Option.some.inj e; omega)
                                    refine ⟨wz, hput, hid ⟨hR3, hMz, ⟨hE3.cell hmn, hE3.lt⟩, HNEW.out hn, hB3, fun N hM hN => ⟨hR3, hA3.put (by rw [← HN.out]; exact hnn) hmn hgz hM hN, HNEW.out hn, hB3, ?_⟩⟩⟩
                                    simp only
                                    rw [if_neg (by omega)]
                                    exact HS.out.2.2.2.2)
                                  clear hAJ hbdr hbJ hMN
                                  cases hF : F2 (i + f.length) (x.data.toList ++ tz) with
                                  | none =>
                                    as_aux_lemma =>
                                      rw [hF] at hget
                                      simp only [Option.map_none, Option.getD_none, Option.isSome_none] at hget
                                      have HF := hid hF
                                      clear hF
                                      have HNW := hid (show ∀ o, F2 (i + f.length) (x.data.toList ++ tz) = some o → d + cst < o from fun o ho => by rw [HF.out] at ho; cases ho)
                                      obtain ⟨WZ, hput, HWZ⟩ := HPUT.out HNW.out
                                      go_upto_region 43 with (fail)
                                      go_region
                                      go_upto_region 45 with (fail)
                                      go_region
                                      clear hput hget
                                      have HMFZ := hid HWZ.out.2.1
                                      have HBEG := hid HWZ.out.2.2.2.1
                                      have HSO := hid (show ∀ f', (putE (F2 (i + f.length)) (x.data.toList ++ tz) (d + cst) f').isSome = true → ((fun j => if j = i + f.length then putE (F2 (i + f.length)) (x.data.toList ++ tz) (d + cst) else F2 j) (i + f.length) f').isSome = true from fun f' h => by simp only [if_true]; exact h)
                                      have HBZ := hid HWZ.out.2.2.2.2.1
                                      have HAF := hid (HWZ.out.2.2.2.2.2)
                                      have mz := HWZ.out.2.2.1.1
                                      have mzl := HWZ.out.2.2.1.2
                                      obtain ⟨ksl, hks, hnd, hsm, hlen⟩ := HMFZ.out.lenEq strF_keyed Tryz.underlying9 Tryz.underlying80 (zero_int WZ)
                                      by_cases h40 : 40000 < ksl.length
                                      · have g1 : (40000 : Int) < (ksl.length : Int) := by omega
                                        have g2 : decide ((40000 : Int) < (ksl.length : Int)) = true := decide_eq_true g1
                                        have HMA := hid (show Fo.Many L rs most from HBEG.out.many HG.out HZZ.out (HRK.out _ (by rw [← HN.out]; exact hnn)) (by rw [← HN.out]; exact hnn) hnd (by omega) (fun f' hf' => by have := hsm f' hf'; rw [numF_isSome] at this; exact HSO.out f' this))
                                        have HBX := hid (Below.step HBR.out HBZ.out)
                                        clear hks hnd hsm
                                        go_wp2_with fail
                                        go_ret3
                                        exact ⟨HBX.out, .inr ⟨HNE.out, HVV.out, .inl ⟨by rw [← HRS.out]; exact HMA.out, rfl⟩⟩⟩
                                      · have g1 : ¬ (40000 : Int) < (ksl.length : Int) := by omega
                                        have g2 : decide ((40000 : Int) < (ksl.length : Int)) = false := decide_eq_false g1
                                        have HFIN := hid (HAF.out ksl.length hks (by omega))
                                        clear hks hnd hsm
                                        go_wp2_with fail
                                        go_roundw
                                        case rel => exact ⟨q + 1, _, by omega, by go_num, HFIN.out⟩
                                        case measure => simp [RowKit.intOf]; omega
                                  | some o' =>
                                    rw [hF] at hget
                                    simp only [Option.map_some, Option.getD_some, Option.isSome_some] at hget
                                    have HF := hid hF
                                    clear hF
                                    by_cases hlt2 : d + cst < o'
                                    · as_aux_lemma =>
                                        have g3 : decide (d + cst < o') = true := decide_eq_true hlt2
                                        have HNW := hid (show ∀ o, F2 (i + f.length) (x.data.toList ++ tz) = some o → d + cst < o from fun o ho => by rw [HF.out] at ho; cases ho; exact hlt2)
                                        obtain ⟨WZ, hput, HWZ⟩ := HPUT.out HNW.out
                                        go_upto_region 43 with (fail)
                                        go_region
                                        go_upto_region 45 with (fail)
                                        go_region
                                        clear hput hget
                                        have HMFZ := hid HWZ.out.2.1
                                        have HBEG := hid HWZ.out.2.2.2.1
                                        have HSO := hid (show ∀ f', (putE (F2 (i + f.length)) (x.data.toList ++ tz) (d + cst) f').isSome = true → ((fun j => if j = i + f.length then putE (F2 (i + f.length)) (x.data.toList ++ tz) (d + cst) else F2 j) (i + f.length) f').isSome = true from fun f' h => by simp only [if_true]; exact h)
                                        have HBZ := hid HWZ.out.2.2.2.2.1
                                        have HAF := hid (HWZ.out.2.2.2.2.2)
                                        have mz := HWZ.out.2.2.1.1
                                        have mzl := HWZ.out.2.2.1.2
                                        obtain ⟨ksl, hks, hnd, hsm, hlen⟩ := HMFZ.out.lenEq strF_keyed Tryz.underlying9 Tryz.underlying80 (zero_int WZ)
                                        by_cases h40 : 40000 < ksl.length
                                        · have g1 : (40000 : Int) < (ksl.length : Int) := by omega
                                          have g2 : decide ((40000 : Int) < (ksl.length : Int)) = true := decide_eq_true g1
                                          have HMA := hid (show Fo.Many L rs most from HBEG.out.many HG.out HZZ.out (HRK.out _ (by rw [← HN.out]; exact hnn)) (by rw [← HN.out]; exact hnn) hnd (by omega) (fun f' hf' => by have := hsm f' hf'; rw [numF_isSome] at this; exact HSO.out f' this))
                                          have HBX := hid (Below.step HBR.out HBZ.out)
                                          clear hks hnd hsm
                                          go_wp2_with fail
                                          go_ret3
                                          exact ⟨HBX.out, .inr ⟨HNE.out, HVV.out, .inl ⟨by rw [← HRS.out]; exact HMA.out, rfl⟩⟩⟩
                                        · have g1 : ¬ (40000 : Int) < (ksl.length : Int) := by omega
                                          have g2 : decide ((40000 : Int) < (ksl.length : Int)) = false := decide_eq_false g1
                                          have HFIN := hid (HAF.out ksl.length hks (by omega))
                                          clear hks hnd hsm
                                          go_wp2_with fail
                                          go_roundw
                                          case rel => exact ⟨q + 1, _, by omega, by go_num, HFIN.out⟩
                                          case measure => simp [RowKit.intOf]; omega
                                    · as_aux_lemma =>
                                        have g3 : decide (d + cst < o') = false := decide_eq_false hlt2
                                        have HOLD := HS.out.2.2.1.old HXF.out HD3.out HRM.out.2 HFB.out (by rw [← HFE.out.1, ← HB2.out]; omega) (by rw [← HFE.out.1, ← HFE.out.2.1, ← HB2.out]; omega) (o := o') (by rw [← HFE.out.1, ← HFE.out.2.2]; exact HF.out) (by rw [← HFE.out.2.1]; omega)
                                        go_upto_region 43 with (fail)
                                        go_region
                                        clear hget
                                        go_upto_region 46 with (fail)
                                        obtain ⟨WZ, hWZ⟩ : ∃ WZ, WZ = A2.drew := ⟨_, rfl⟩
                                        have HMFZ := hid (show MapF WZ Tryz.prog 9 mn n2 (numF (F2 (i + f.length))) by rw [hWZ]; exact HMD.out)
                                        have HBEG := hid HOLD
                                        have HSO := hid (show ∀ f', (F2 (i + f.length) f').isSome = true → (F2 (i + f.length) f').isSome = true from fun f' h => h)
                                        have HBZ := hid (show Below Wr.heap.size Wr WZ by rw [hWZ]; exact HBD.out)
                                        have HAF := hid (show ∀ N, MapF WZ Tryz.prog 9 mn N (numF (F2 (i + f.length))) → N ≤ 40000 → MapR WZ Tryz.prog 9 mi R0 ni (numF (F i)) (dropL lf (.string x)) cnt' ∧ AtI L Wr.heap.size ms F2 WZ ∧ Fo.Beg L rs most rest i (fun g r => doneL lf g = true ∨ (g = x.data.toList ∧ r ∈ rs.take (q + 1))) F2 ∧ Below Wr.heap.size Wr WZ ∧ F2 i = F i from fun N _ _ => by
                                          rw [hWZ]
                                          exact ⟨HRD.out, HAD.out, HBEG.out, HBD.out, HS.out.2.2.2.2⟩)
                                        have mz : WZ.cell? ⟨Wr.heap.size, i + f.length, none⟩ = some (.map (some mn)) := by rw [hWZ]; exact HAD.out.e.cell HMM.out
                                        have mzl : Wr.heap.size < WZ.heap.size := by rw [hWZ]; exact HAD.out.e.lt
                                        rw [← hWZ]
                                        clear hWZ
                                        obtain ⟨ksl, hks, hnd, hsm, hlen⟩ := HMFZ.out.lenEq strF_keyed Tryz.underlying9 Tryz.underlying80 (zero_int WZ)
                                        by_cases h40 : 40000 < ksl.length
                                        · have g1 : (40000 : Int) < (ksl.length : Int) := by omega
                                          have g2 : decide ((40000 : Int) < (ksl.length : Int)) = true := decide_eq_true g1
                                          have HMA := hid (show Fo.Many L rs most from HBEG.out.many HG.out HZZ.out (HRK.out _ (by rw [← HN.out]; exact hnn)) (by rw [← HN.out]; exact hnn) hnd (by omega) (fun f' hf' => by have := hsm f' hf'; rw [numF_isSome] at this; exact HSO.out f' this))
                                          have HBX := hid (Below.step HBR.out HBZ.out)
                                          clear hks hnd hsm
                                          go_wp2_with fail
                                          go_ret3
                                          exact ⟨HBX.out, .inr ⟨HNE.out, HVV.out, .inl ⟨by rw [← HRS.out]; exact HMA.out, rfl⟩⟩⟩
                                        · have g1 : ¬ (40000 : Int) < (ksl.length : Int) := by omega
                                          have g2 : decide ((40000 : Int) < (ksl.length : Int)) = false := decide_eq_false g1
                                          have HFIN := hid (HAF.out ksl.length hks (by omega))
                                          clear hks hnd hsm
                                          go_wp2_with fail
                                          go_roundw
                                          case rel => exact ⟨q + 1, _, by omega, by go_num, HFIN.out⟩
                                          case measure => simp [RowKit.intOf]; omega
                              · have q1 : ¬ (q : Int) < (us.length : Int) := by omega
                                have HFE := hid (show Hid (MapR Ws Tryz.prog 9 mi R0 ni (numF (F i)) (dropL lf (.string x)) cnt') ∧ Hid (AtI L Wr.heap.size ms F2 Ws ∧ Fo.Beg L rs most rest i (fun g _ => doneL (dropL lf (.string x)) g = true) F2 ∧ Below Wr.heap.size Wr Ws ∧ F2 i = F i) from
                                  ⟨HS.out.1, HS.out.2.1, HS.out.2.2.1.same (fun g r d hgd hr => by
                                    by_cases hgx : g = x.data.toList
                                    · rw [hgx, doneL_same]
                                      exact ⟨fun _ => .inr ⟨rfl, by rw [List.take_of_length_le (by rw [HRL.out]; omega)]; exact hr⟩, fun _ => rfl⟩
                                    · rw [doneL_other lf x g hgx]
                                      constructor
                                      · exact .inl
                                      · rintro (h | h)
                                        · exact h
                                        · exact absurd h.1 hgx), HS.out.2.2.2.1, HS.out.2.2.2.2⟩)
                                have hlt := HLT.out
                                go_wp2_with fail
                                go_roundw
                                case rel => exact ⟨_, cnt', F2, HFE.out.1, HFE.out.2⟩
                                case measure => rw [HFE.out.1.out.left_eq, hle]; omega
                    · as_aux_lemma =>
                        have hie : i = L.length := by rw [← HN.out]; omega
                        have i1 : ¬ (i : Int) < (n : Int) := by omega
                        have HBE := hid (show Fo.Beg L rs most rest L.length (fun _ _ => False) F by rw [← hie]; exact HA.out.2.1)
                        have h0L : 0 < L.length := List.length_pos_iff.2 HNE.out
                        have HEN := hid (HBE.out.ends HG.out HZZ.out HRK.out HRZ.out h0L)
                        obtain ⟨mn, n2, hmn, hMN, hn2, hmn4⟩ := HA.out.1.maps L.length (Nat.le_refl _)
                        have c0 := HA.out.1.e.cell hmn
                        rw [← HN.out] at c0
                        have c2 := HA.out.1.e.lt
                        have HEB := hid HA.out.1.e
                        have n0 : (0 : Int) ≤ (n : Int) := by omega
                        have n1 : (n : Int) < (n : Int) + 1 := by omega
                        obtain ⟨ksl, hks, hnd, hsm, hlen⟩ := hMN.lenEq strF_keyed Tryz.underlying9 Tryz.underlying80 (zero_int Wa)
                        have HBZ := hid (Below.step HBR.out HA.out.2.2)
                        have HMM := hid (And.intro hmn hmn4)
                        have hmnw := hMN.lt
                        clear hie hMN hn2 hmn hmn4
                        by_cases h1k : 1000 < ksl.length
                        · have g1 : (1000 : Int) < (ksl.length : Int) := by omega
                          have g2 : decide ((1000 : Int) < (ksl.length : Int)) = true := decide_eq_true g1
                          have HMA := hid (show Fo.Many L rs most from HBE.out.many HG.out HZZ.out (HRK.out _ (Nat.le_refl _)) (Nat.le_refl _) hnd h1k (fun f hf => by have := hsm f hf; rwa [numF_isSome] at this))
                          clear hks hnd hsm
                          go_wp2_with fail
                          go_ret3
                          exact ⟨HBZ.out, .inr ⟨HNE.out, HVV.out, .inl ⟨by rw [← HRS.out]; exact HMA.out, rfl⟩⟩⟩
                        have g1 : ¬ (1000 : Int) < (ksl.length : Int) := by omega
                        have g2 : decide ((1000 : Int) < (ksl.length : Int)) = false := decide_eq_false g1
                        have HKS := hid hks
                        obtain ⟨kn, hkn⟩ : ∃ kn, kn = ksl.length := ⟨_, rfl⟩
                        rw [← hkn] at HKS hlen h1k g1 g2
                        have HSH := hid (show ∀ f, (F L.length f).isSome = true → f.length ≤ 3000 from fun f hf => by
                          obtain ⟨c, hc⟩ := Option.isSome_iff_exists.1 hf
                          exact (HBE.out.short HG.out HZZ.out HTS.out (by have := HN.out; omega) (Nat.le_refl _) hc).1)
                        have HKEY := hid (show ∀ f, (F L.length f).isSome = true → keyOf Tryz.prog 9 (.string (bs f)) = some (.string (bs f).data.toList) from fun f hf => strF_key (by rw [bs_len]; have := HSH.out f hf; unfold maxLen; omega))
                        clear hks hnd hsm hkn
                        go_wp2_with (at_range; refine wpList_rangeN _ rfl _ 80 rfl 3 strF_keyed Tryz.underlying80 rfl HKS.out ?_; intro W9 lf0 cnt0 hcnt hR9 hlf hg9 hz9)
                        try go_frame
                        have HZ9 := hid (And.intro hz9 hmnw)
                        obtain ⟨R0, hRR⟩ : ∃ R0, R0 = Wa.heap.size := ⟨_, rfl⟩
                        rw [← hRR] at hR9 ⊢
                        have HRR := hid hRR
                        have HI9 := hid (show MapR W9 Tryz.prog 9 mn R0 kn (numF (F L.length)) lf0 cnt0 ∧ W9.ownsRow W9.heap.size 9 1 (.slice none 0 0) ([] : List (List UInt8)).length (([] : List (List UInt8)).flatMap strC) ∧ ([] : List (List UInt8)).Nodup ∧ (∀ f, f ∈ ([] : List (List UInt8)) ↔ ((F L.length f).isSome = true ∧ lf0 (.string (bs f)) = false)) ∧ ([] : List (List UInt8)).length + cnt0 ≤ kn ∧ Below Wa.heap.size Wa W9 ∧ W9.heap.size ≤ W9.heap.size from
                          ⟨hR9, World.ownsRow_nil _ _ _ _, List.nodup_nil, fun f => ⟨fun h => (by cases h), fun h => by
                            have h7 := hlf (.string (bs f)) _ (HKEY.out f h.1) (by rw [numF_isSome]; exact h.1)
                            rw [h7] at h
                            cases h.2⟩, by simpa using hcnt, (Below.refl _ Wa).grown hg9 (Nat.le_refl _) (fun r e => by cases e), Nat.le_refl _⟩)
                        clear hR9 hlf hg9 hz9 hcnt hRR c0 c2 hmnw hlen g1 g2
                        go_loopw [28] (fun ov wx => ∃ (lf : Value → Bool) (cnt : Nat) (mv : Value) (os : List (List UInt8)), mv = ov ∧ Hid (MapR wx Tryz.prog 9 mn R0 kn (numF (F L.length)) lf cnt ∧ wx.ownsRow W9.heap.size 9 1 mv os.length (os.flatMap strC) ∧ os.Nodup ∧ (∀ f, f ∈ os ↔ ((F L.length f).isSome = true ∧ lf (.string (bs f)) = false)) ∧ os.length + cnt ≤ kn ∧ Below Wa.heap.size Wa wx ∧ W9.heap.size ≤ wx.heap.size)) (fun _ wx => wx.rangeLeft mn R0)
                        case atStart => exact ⟨lf0, cnt0, _, [], rfl, HI9.out⟩
                        case round =>
                          rename World => wd
                          clear HI9
                          obtain ⟨lf, cnt, ov, os, rfl, HD⟩ := hrel
                          obtain ⟨oa, oc, rfl⟩ := ownsRow_slice HD.out.2.1
                          have HRG := hid HD.out.1
                          have hle := HRG.out.left_eq
                          go_wp2_with (at_next; refine wpList_nextM _ rfl _ rfl strF_keyed Value.string (fun _ _ h => strF_inv h) rfl HRG.out ?_ ?_)
                          · as_aux_lemma =>
                              intro hl0
                              have HALL := hid (show ∀ f, f ∈ os ↔ (F L.length f).isSome = true from fun f => (HD.out.2.2.2.1 f).trans ⟨fun h => h.1, fun h => ⟨h, hl0 _ _ (HKEY.out f h)⟩⟩)
                              have hol : os.length ≤ 1000 := by have := HD.out.2.2.2.2.1; omega
                              have HSS := hid (sortS_own (.slice oa os.length oc) os wd HD.out.2.1 (by omega))
                              clear hl0
                              go_wp2_with fail
                              refine (HSS.out).mono ?_
                              rintro e V2 ⟨rfl, hrow, hgs⟩
                              obtain ⟨out, hout⟩ : ∃ out, out = os.mergeSort (fun x y => decide (x ≤ y)) := ⟨_, rfl⟩
                              have hlo : out.length = os.length := by rw [hout]; exact Fo.sorted_len os
                              have HLT := hid (show out.Pairwise Fo.lt by rw [hout]; exact Fo.sorted_lt HD.out.2.2.1)
                              have HMEM := hid (show ∀ f, f ∈ out ↔ (F L.length f).isSome = true from fun f => by rw [hout, Fo.sorted_mem]; exact HALL.out f)
                              rw [← hout, ← hlo] at hrow
                              rw [← hlo] at hol hgs ⊢
                              have hbl := fun r e => (HD.out.2.1.lt r e).1
                              rw [← hlo] at hbl
                              have HSO := hid (show SlOf V2 (.slice oa out.length oc) 1 strC out from SlOf.own hrow (fun _ _ => rfl))
                              have HBV := hid (show Below Wa.heap.size Wa V2 from HD.out.2.2.2.2.2.1.grown hgs HD.out.2.2.2.2.2.1.size (fun r e => by have := hbl r e; have := HZ9.out.1; omega))
                              have HM2 := hid (show MapF V2 Tryz.prog 9 mn kn (numF (F L.length)) from HRG.out.mapF.kept hgs (fun e => by have := hbl mn e.symm; have := HZ9.out; omega))
                              have HE2 := hid (HEB.out.below HBV.out)
                              have HLO := hid hlo
                              clear hrow hgs hout hbl HSS hlo
                              obtain ⟨i6, hi6, hz6, hs6, hy6⟩ := info_parts Tryz.infoIntF
                              go_wp2_with fail
                              go_loopw [30, 31] (fun ov iv wx => ∃ (q : Nat) (mv : Value) (cs : List Int), q ≤ out.length ∧ iv = .int .i64 q ∧ mv = ov ∧ cs.length = q ∧ Hid (wx.ownsRow V2.heap.size 3 1 mv cs.length (cs.flatMap numC) ∧ (∀ (j : Nat) (f : List UInt8), j < q → out[j]? = some f → cs[j]? = F L.length f) ∧ Below V2.heap.size V2 wx)) (fun _ iv _ => out.length - (RowKit.intOf iv).toNat)
                              case atStart => exact ⟨0, _, [], Nat.zero_le _, rfl, rfl, rfl, World.ownsRow_nil _ _ _ _, fun j f h => by omega, Below.refl _ _⟩
                              case round =>
                                obtain ⟨q0', ov, cs, hq, rfl, rfl, hcl, HC⟩ := hrel
                                subst hcl
                                rename World => wc
                                obtain ⟨ua', uc', rfl⟩ := ownsRow_slice HC.out.1
                                by_cases hqt : cs.length < out.length
                                · obtain ⟨f, hf⟩ : ∃ f, out[cs.length]? = some f := ⟨_, List.getElem?_eq_getElem hqt⟩
                                  have hfi := (HMEM.out f).1 (List.mem_of_getElem? hf)
                                  obtain ⟨c, hc⟩ := Option.isSome_iff_exists.1 hfi
                                  have hkf := HKEY.out f hfi
                                  obtain ⟨oa', oc', eo, -, -, ko⟩ := HSO.out.below HC.out.2.2
                                  cases eo
                                  obtain ⟨g, o, rfl, hrw⟩ := ko (by omega)
                                  have e0 := hrw.2 cs.length f hf 0 _ rfl
                                  rw [Nat.mul_one, Nat.add_zero] at e0
                                  have hg := hrw.1
                                  have qz : (0 : Int) ≤ (cs.length : Int) := by omega
                                  have q1 : (cs.length : Int) < (out.length : Int) := by omega
                                  have m1 := (HE2.out.below HC.out.2.2).cell HMM.out.1
                                  rw [← HN.out] at m1
                                  have mz := (HE2.out.below HC.out.2.2).lt
                                  have HMW := hid (HM2.out.below HC.out.2.2)
                                  have hown := HC.out.1.drew
                                  have hz2' := HC.out.2.2.size
                                  have HFC := hid (And.intro hf hc)
                                  have hlo2 : ∀ b, (Value.slice ua' cs.length uc').ownBlock = some b → V2.heap.size ≤ b := fun b e => (HC.out.1.lt b e).1
                                  have hgv : g < V2.heap.size := by
                                    obtain ⟨a1, c1, e1, -, -, k1⟩ := HSO.out
                                    cases e1
                                    obtain ⟨g', o', e2, r2⟩ := k1 (by omega)
                                    cases e2
                                    exact r2.1
                                  have hmv : mn < V2.heap.size := HM2.out.lt
                                  have hev : Wr.heap.size < V2.heap.size := HE2.out.lt
                                  have hmo : ¬ ((Value.slice ua' cs.length uc').ownBlock = some mn) := fun e => by have := hlo2 mn e; omega
                                  have hko : keyOf Tryz.prog 9 (.string (bs f)) = some (.string (bs f).data.toList) := hkf
                                  clear hf hc hkf hrw
                                  go_upto_region 60 with (fail)
                                  refine wp_heldS (S := StillT (fun b => (Value.slice ua' cs.length uc').ownBlock = some b) wc) (by kernel_rfl) ?_
                                  simp only [List.size_toArray, List.length_cons, List.length_nil, Nat.reduceAdd]
                                  intro hc
                                  have S0 : StillT (fun b => (Value.slice ua' cs.length uc').ownBlock = some b) wc (Array.replicate 14 false) wc.drew := (Tch.refl (fun b => (Value.slice ua' cs.length uc').ownBlock = some b) wc).step (Below.refl _ _).drew
                                  refine wpAnyS_take (i := 0) (v := .slice ua' cs.length uc') rfl (by kernel_rfl) (by kernel_rfl) (by kernel_rfl) (fun _ _ _ h => h) (fun _ _ => Iff.rfl) hc (by first | rfl | simp [Region.wanted]) (fun wx hx => ?_) S0 (fun hc S0 => ?_)
                                  · go_simp
                                  try simp only [List.getElem_toArray, List.getElem_cons_zero, Act.put, List.setIfInBounds_toArray, List.set_cons_zero, List.set_cons_succ]
                                  refine wpAnyS_take (i := 1) (v := .slice (some ⟨Wr.heap.size, 0, none⟩) (n + 1) (n + 1)) rfl (by kernel_rfl) (by kernel_rfl) (by kernel_rfl) (fun _ _ _ h => h) (fun _ _ => Iff.rfl) hc (by first | rfl | simp [Region.wanted]) (fun wx hx => ?_) S0 (fun hc S0 => ?_)
                                  · go_simp
                                  try simp only [List.getElem_toArray, List.getElem_cons_succ, List.getElem_cons_zero, Act.put, List.setIfInBounds_toArray, List.set_cons_zero, List.set_cons_succ]
                                  refine wpAnyS_take (i := 2) (v := .slice la n lc) rfl (by kernel_rfl) (by kernel_rfl) (by kernel_rfl) (fun _ _ _ h => h) (fun _ _ => Iff.rfl) hc (by first | rfl | simp [Region.wanted]) (fun wx hx => ?_) S0 (fun hc S0 => ?_)
                                  · go_simp
                                  try simp only [List.getElem_toArray, List.getElem_cons_succ, List.getElem_cons_zero, Act.put, List.setIfInBounds_toArray, List.set_cons_zero, List.set_cons_succ]
                                  refine wpAnyS_take (i := 3) (v := .int .i64 n) rfl (by kernel_rfl) (by kernel_rfl) (by kernel_rfl) (fun _ _ _ h => h) (fun _ _ => Iff.rfl) hc (by first | rfl | simp [Region.wanted]) (fun wx hx => ?_) S0 (fun hc S0 => ?_)
                                  · go_simp
                                  try simp only [List.getElem_toArray, List.getElem_cons_succ, List.getElem_cons_zero, Act.put, List.setIfInBounds_toArray, List.set_cons_zero, List.set_cons_succ]
                                  refine wpAnyS_take (i := 4) (v := .pointer (some ⟨Wr.heap.size, n, none⟩)) rfl (by kernel_rfl) (by kernel_rfl) (by kernel_rfl) (fun _ _ _ h => h) (fun _ _ => Iff.rfl) hc (by first | rfl | simp [Region.wanted]) (fun wx hx => ?_) S0 (fun hc S0 => ?_)
                                  · go_simp
                                  try simp only [List.getElem_toArray, List.getElem_cons_succ, List.getElem_cons_zero, Act.put, List.setIfInBounds_toArray, List.set_cons_zero, List.set_cons_succ]
                                  refine wpAnyS_take (i := 5) (v := .map (some mn)) rfl (by kernel_rfl) (by kernel_rfl) (by kernel_rfl) (fun _ _ _ h => h) (fun _ _ => Iff.rfl) hc (by first | rfl | simp [Region.wanted]) (fun wx hx => ?_) S0 (fun hc S0 => ?_)
                                  · have y := (World.cell?_of_block (a := ⟨Wr.heap.size, n, none⟩) (hx.stillT.block _ mz (fun e => absurd (hlo2 _ e) (Nat.not_le.2 hev)))).trans m1
                                    go_simp
                                  try simp only [List.getElem_toArray, List.getElem_cons_succ, List.getElem_cons_zero, Act.put, List.setIfInBounds_toArray, List.set_cons_zero, List.set_cons_succ]
                                  refine wpAnyS_take (i := 6) (v := .slice (some ⟨g, o, none⟩) out.length oc) rfl (by kernel_rfl) (by kernel_rfl) (by kernel_rfl) (fun _ _ _ h => h) (fun _ _ => Iff.rfl) hc (by first | rfl | simp [Region.wanted]) (fun wx hx => ?_) S0 (fun hc S0 => ?_)
                                  · go_simp
                                  try simp only [List.getElem_toArray, List.getElem_cons_succ, List.getElem_cons_zero, Act.put, List.setIfInBounds_toArray, List.set_cons_zero, List.set_cons_succ]
                                  refine wpAnyS_take (i := 7) (v := .int .i64 cs.length) rfl (by kernel_rfl) (by kernel_rfl) (by kernel_rfl) (fun _ _ _ h => h) (fun _ _ => Iff.rfl) hc (by first | rfl | simp [Region.wanted]) (fun wx hx => ?_) S0 (fun hc S0 => ?_)
                                  · go_simp
                                  try simp only [List.getElem_toArray, List.getElem_cons_succ, List.getElem_cons_zero, Act.put, List.setIfInBounds_toArray, List.set_cons_zero, List.set_cons_succ]
                                  refine wpAnyS_take (i := 8) (v := .pointer (some ⟨g, o + cs.length, none⟩)) rfl (by kernel_rfl) (by kernel_rfl) (by kernel_rfl) (fun _ _ _ h => h) (fun _ _ => Iff.rfl) hc (by first | rfl | simp [Region.wanted]) (fun wx hx => ?_) S0 (fun hc S0 => ?_)
                                  · go_simp
                                  try simp only [List.getElem_toArray, List.getElem_cons_succ, List.getElem_cons_zero, Act.put, List.setIfInBounds_toArray, List.set_cons_zero, List.set_cons_succ]
                                  refine wpAnyS_take (i := 9) (v := .string (bs f)) rfl (by kernel_rfl) (by kernel_rfl) (by kernel_rfl) (fun _ _ _ h => h) (fun _ _ => Iff.rfl) hc (by first | rfl | simp [Region.wanted]) (fun wx hx => ?_) S0 (fun hc S0 => ?_)
                                  · have y := (World.cell?_of_block (a := ⟨g, o + cs.length, none⟩) (hx.stillT.block _ hg (fun e => absurd (hlo2 _ e) (Nat.not_le.2 hgv)))).trans e0
                                    go_simp
                                  try simp only [List.getElem_toArray, List.getElem_cons_succ, List.getElem_cons_zero, Act.put, List.setIfInBounds_toArray, List.set_cons_zero, List.set_cons_succ]
                                  refine wpAnyS_take (i := 10) (v := .int .i64 c) rfl (by kernel_rfl) (by kernel_rfl) (by kernel_rfl) (fun _ _ _ h => h) (fun _ _ => Iff.rfl) hc (by first | rfl | simp [Region.wanted]) (fun wx hx => ?_) S0 (fun hc S0 => ?_)
                                  · have y := (HMW.out.tch hx.stillT hmo).get strF_keyed Tryz.underlying80 (zero_int _) hko; rw [numF_bs, HFC.out.2] at y; simp only [Option.map_some, Option.getD_some] at y
                                    go_simp
                                  try simp only [List.getElem_toArray, List.getElem_cons_succ, List.getElem_cons_zero, Act.put, List.setIfInBounds_toArray, List.set_cons_zero, List.set_cons_succ]
                                  refine wpAnyS_one (i := 11) rfl (by kernel_rfl) (by rfl) hc (fun K' hK => ?_)
                                  go_simp
                                  have hb7 : Below wc.heap.size wc (wc.drew.alloc (.cells #[.int .i64 c] 3)) := (Below.refl _ wc).drew.alloc (Nat.le_refl _) _
                                  refine hK.out _ _ (Tch.of_below hb7 _) (fun hc => ?_)
                                  clear hK K'
                                  try simp only [List.getElem_toArray, List.getElem_cons_succ, List.getElem_cons_zero, Act.put, List.setIfInBounds_toArray, List.set_cons_zero, List.set_cons_succ]
                                  have hown7 := hown.alloc (.cells #[.int .i64 c] 3)
                                  refine wpAnyS_one (i := 12) rfl (by kernel_rfl) (by rfl) hc (fun K' hK => ?_)
                                  refine wp_append_own _ _ _ 35 rfl V2.heap.size 3 i6 (.int .i64 0) 1 8 Tryz.underlying35 hi6 hz6 hs6 hy6 rfl (by decide) _ _ _ rfl hown7 ⟨wc.heap.size, 0, none⟩ 1 1 [.int .i64 c] rfl rfl (cells_new rfl) (by simp [Value.oneCell']) (by unfold maxLen; omega) (by omega) (by simp; omega) ?_
                                  intro v' w8 ho8 hg8 _
                                  refine hK.out _ _ ((Tch.of_below hb7 _).grown hg8 fun r e => .inl e) (fun hc => ?_)
                                  clear hK K'
                                  try simp only [List.getElem_toArray, List.getElem_cons_succ, List.getElem_cons_zero, Act.put, List.setIfInBounds_toArray, List.set_cons_zero, List.set_cons_succ]
                                  refine wpAnyS_one (i := 13) rfl (by kernel_rfl) (by rfl) hc (fun K' hK => ?_)
                                  go_simp
                                  refine hK.out _ _ ((Tch.of_below hb7 _).grown hg8 fun r e => .inl e) (fun hc => ?_)
                                  clear hK K'
                                  try simp only [List.getElem_toArray, List.getElem_cons_succ, List.getElem_cons_zero, Act.put, List.setIfInBounds_toArray, List.set_cons_zero, List.set_cons_succ]
                                  refine wpAnyS_done (by kernel_rfl) ?_ _
                                  have HFI := hid (show w8.ownsRow V2.heap.size 3 1 v' (cs ++ [c]).length ((cs ++ [c]).flatMap numC) ∧ (∀ (j : Nat) (f : List UInt8), j < cs.length + 1 → out[j]? = some f → (cs ++ [c])[j]? = F L.length f) ∧ Below V2.heap.size V2 w8 from
                                    ⟨by rw [List.length_append, List.flatMap_append]; exact ho8, fun j f' hj hf' => by
                                      by_cases hjq : j < cs.length
                                      · rw [List.getElem?_append_left (by omega)]
                                        exact HC.out.2.1 j f' hjq hf'
                                      · obtain rfl : j = cs.length := by omega
                                        rw [HFC.out.1] at hf'
                                        cases hf'
                                        rw [List.getElem?_append_right (by omega), Nat.sub_self, HFC.out.2]
                                        rfl, Below.appended (HC.out.2.2.trans (hb7.mono HC.out.2.2.size)) hg8 (by simp; omega) hown7⟩)
                                  have hcl2 : (cs ++ [c]).length = cs.length + 1 := by rw [List.length_append]; rfl
                                  clear hc S0 ho8 hg8 hown7 hb7
                                  go_wp2_with fail
                                  go_roundw
                                  case rel => exact ⟨cs.length + 1, _, cs ++ [c], by omega, by go_num, rfl, hcl2, HFI.out⟩
                                  case measure => simp [RowKit.intOf]; omega
                                · have q1 : ¬ (cs.length : Int) < (out.length : Int) := by omega
                                  have HFO := hid (show Fo.Forms Fo.lt L rs most out cs from Fo.forms_of HG.out h0L HEN.out HLT.out HMEM.out (by omega) (by omega) (fun j f hf => HC.out.2.1 j f (by have := (List.getElem?_eq_some_iff.1 hf).1; omega) hf))
                                  have HS1 := hid (HSO.out.below HC.out.2.2)
                                  have HS2 := hid (show SlOf wc (.slice ua' cs.length uc') 1 numC cs from SlOf.own HC.out.1 (fun _ _ => rfl))
                                  have HS3 := HS2
                                  have HBY := hid (Below.step HBZ.out (HBV.out.trans (HC.out.2.2.mono HBV.out.size)))
                                  clear hi6 hz6 hs6 hy6
                                  go_wp2_with fail
                                  go_ret3
                                  exact ⟨HBY.out, .inr ⟨HNE.out, HVV.out, .inr ⟨.slice oa out.length oc, .slice ua' cs.length uc', rfl, out, HS1.out, cs, HS3.out, by rw [← HRS.out]; exact HFO.out⟩⟩⟩
                          · as_aux_lemma =>
                              intro x c kl wy cnt' hkl hlx hfx hmr hlt hgy hsy hen
                              have hxi : (F L.length x.data.toList).isSome = true := by
                                have h1 : (numF (F L.length) (.string x)).isSome = true := by rw [hfx]; rfl
                                rw [← numF_isSome]
                                exact h1
                              have hbl := fun r e => (HD.out.2.1.lt r e).1
                              have hwy : W9.heap.size ≤ wy.heap.size := by have := HD.out.2.2.2.2.2.2; omega
                              have hR0 : R0 + 1 = W9.heap.size := by have := HRR.out; have := HZ9.out.1; omega
                              have hown0 : wy.ownsRow W9.heap.size 9 1 (.slice oa os.length oc) os.length (os.flatMap strC) := by
                                refine HD.out.2.1.kept hgy ?_
                                cases hb : (Value.slice oa os.length oc).ownBlock with
                                | none => exact .inl rfl
                                | some b =>
                                  refine .inr fun e => ?_
                                  have := hbl b hb
                                  have := Option.some.inj e
                                  omega
                              have hown := hown0.alloc (.cells #[.string x] 9)
                              have hbw : Below wy.heap.size wy (wy.alloc (.cells #[.string x] 9)) := (Below.refl _ wy).alloc (Nat.le_refl _) _
                              have hol : os.length ≤ 1000 := by have := HD.out.2.2.2.2.1; omega
                              have hza := hbw.size
                              obtain ⟨i7, hi7, hz7, hs7, hy7⟩ := info_parts Tryz.infoStT
                              have HMR := hid (show MapR (wy.alloc (.cells #[.string x] 9)) Tryz.prog 9 mn R0 kn (numF (F L.length)) (dropL lf (.string x)) cnt' from (hmr (dropL lf (.string x)) (dropL_same _ _) (fun _ h => dropL_other h)).kept (Below.grows hbw none) (by simp) (by simp))
                              have HBY := hid (show Below Wa.heap.size Wa (wy.alloc (.cells #[.string x] 9)) from (HD.out.2.2.2.2.2.1.grown hgy HD.out.2.2.2.2.2.1.size (fun r e => by cases e; have := HRR.out; omega)).trans (hbw.mono (by have := HD.out.2.2.2.2.2.1.size; omega)))
                              have HNI := hid (show x.data.toList ∉ os from fun h => by
                                have h2 := ((HD.out.2.2.2.1 _).1 h).2
                                rw [bs_toList, hlx] at h2
                                cases h2)
                              have HLT := hid hlt
                              have HXI := hid hxi
                              have HBL := hid hbl
                              have HR0 := hid hR0
                              have HZA := hid hza
                              clear hmr hkl hlx hfx hgy hxi hbl hown0 hlt hsy hR0
                              go_wp2_with (at_builtin; refine wpList_append_own _ rfl _ _ 28 rfl W9.heap.size 9 i7 (.string ⟨#[]⟩) 1 16 Tryz.underlying28 hi7 hz7 hs7 hy7 rfl (by decide) _ _ _ rfl hown ⟨wy.heap.size, 0, none⟩ 1 1 [.string x] rfl rfl (cells_new rfl) (by simp [Value.oneCell']) (by unfold maxLen; omega) (by omega) (by simp; omega) ?_; intro v' w4 ho4 hg4 _)
                              have HFI := hid (show MapR w4 Tryz.prog 9 mn R0 kn (numF (F L.length)) (dropL lf (.string x)) cnt' ∧ w4.ownsRow W9.heap.size 9 1 v' (os ++ [x.data.toList]).length ((os ++ [x.data.toList]).flatMap strC) ∧ (os ++ [x.data.toList]).Nodup ∧ (∀ f, f ∈ os ++ [x.data.toList] ↔ ((F L.length f).isSome = true ∧ dropL lf (.string x) (.string (bs f)) = false)) ∧ (os ++ [x.data.toList]).length + cnt' ≤ kn ∧ Below Wa.heap.size Wa w4 ∧ W9.heap.size ≤ w4.heap.size by
                                refine ⟨HMR.out.kept hg4 (fun e => by have := HBL.out mn e.symm; have := HZ9.out; omega) (fun e => by have := HBL.out R0 e.symm; have := HR0.out; omega), ?_, ?_, fun f => ?_, ?_, HBY.out.grown hg4 HBY.out.size (fun r e => by have := HBL.out r e; have := HZ9.out.1; omega), ?_⟩
                                · rw [List.length_append, List.flatMap_append]
                                  exact ho4
                                · refine List.nodup_append.2 ⟨HD.out.2.2.1, List.nodup_cons.2 ⟨by simp, List.nodup_nil⟩, fun a ha b hb e => ?_⟩
                                  rw [List.mem_singleton.1 hb] at e
                                  rw [e] at ha
                                  exact HNI.out ha
                                · rw [List.mem_append, List.mem_singleton, HD.out.2.2.2.1 f]
                                  by_cases hfx : f = x.data.toList
                                  · rw [hfx, bs_toList, dropL_same]
                                    exact ⟨fun _ => ⟨HXI.out, rfl⟩, fun _ => .inr rfl⟩
                                  · rw [dropL_other (fun e => hfx (by cases e; rfl))]
                                    exact ⟨fun h => by
                                      rcases h with h | h
                                      · exact h
                                      · exact absurd h hfx, .inl⟩
                                · rw [List.length_append, List.length_singleton]
                                  have := HD.out.2.2.2.2.1
                                  have := HLT.out
                                  omega
                                · have := hg4.size
                                  omega)
                              have hlt := HLT.out
                              clear hi7 hz7 hs7 hy7 ho4 hg4 hown
                              go_roundw
                              case rel => exact ⟨_, cnt', v', _, rfl, HFI.out⟩
                              case measure => rw [HFI.out.1.left_eq, hle]; omega

end Go.Proofs.YtdchjacccmajcaaGreatDoor
