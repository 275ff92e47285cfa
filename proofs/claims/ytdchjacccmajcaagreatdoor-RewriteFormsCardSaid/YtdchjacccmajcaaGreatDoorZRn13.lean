/-
  The law file's least: the walk. Conditions: lengths; the library's tables.
-/
import Derived.Test.YtdchjacccmajcaaGreatDoorZRn12
namespace Go.Proofs.YtdchjacccmajcaaGreatDoor
open Go.RowKit Go.Lib Go.Maps

theorem Tryz.infoIntsL : (Tryz.prog.info? 35).map (fun i => (i.zero, i.size, i.bytes)) = some (some (.slice none 0 0), 1, 24) := by kernel_rfl
theorem Tryz.infoIntL : (Tryz.prog.info? 3).map (fun i => (i.zero, i.size, i.bytes)) = some (some (.int .i64 0), 1, 8) := by kernel_rfl
/-- a row made and put -/
theorem GrM.more {W0 X : World} {b0 n m q : Nat} {B : Nat → Nat → Int} (h : GrM W0 b0 n m q B X) (h0 : W0.heap.size ≤ b0) (hs : X.heap.size = b0 + 1 + q) (hB : ∀ k < m, B q k = 0) :
    GrM W0 b0 n m (q + 1) B ((X.alloc (.cells (Array.replicate m (.int .i64 0)) 3)).setCell ⟨b0, q, none⟩ (.slice (some ⟨X.heap.size, 0, none⟩) m m)) ∧ ((X.alloc (.cells (Array.replicate m (.int .i64 0)) 3)).setCell ⟨b0, q, none⟩ (.slice (some ⟨X.heap.size, 0, none⟩) m m)).heap.size = b0 + 1 + (q + 1) := by
  have hb : Below X.heap.size X (X.alloc (.cells (Array.replicate m (.int .i64 0)) 3)) := (Below.refl _ X).alloc (Nat.le_refl _) _
  have hn := Blk.rep X 3 m (.int .i64 0)
  rw [hs] at hn ⊢
  refine ⟨⟨?_, fun j hj => ?_, ?_⟩, ?_⟩
  · rw [← slV_set]
    exact (h.outer.below hb).set q _
  · by_cases hjq : j = q
    · subst hjq
      have : rowV B j m = List.replicate m (.int .i64 0) := by rw [← rowV_zero m j]; exact rowV_congr hB
      rw [this]
      exact hn.other (by omega) _
    · exact ((h.rows j (by omega)).below hb).other (by omega) _
  · exact (Below.step h.below hb).setCell (p := ⟨b0, q, none⟩) h0 _
  · simp [World.setCell, World.size_alloc, hs]; omega

set_option maxRecDepth 100000 in
set_option maxHeartbeats 40000000 in
theorem least_any (t : Rw.Table) (tv : Value) (k : Int) (L : List (List UInt8)) (v : Value) (form : List UInt8) (c : Int) (W : World) (ht : TableAt W t tv) (hT : Tabs W) (hv : Rw.valid t = true) (hLs : SlOf W v 1 strC L) (h12 : L.length ≤ 12) (hform : form.length ≤ 1000) (hc : Fo.LeastAt L (Al.rulesFrom k 0 t.rules) 0 form c) :
    Calls Tryz.prog 18 #[tv, .int .i64 k, v, .string (bs form)] W (Gives (.int .i64 c) W) := by
  have HTA := hid ht
  have HTT := hid hT
  have HVV := hid hv
  have HLS := hid hLs
  have HCC := hid hc
  have HG := hid (Fo.good_rules hv k)
  obtain ⟨la, lc, rfl, -⟩ := hLs
  obtain ⟨⟨vr, vd, ve, rfl, ⟨ar, cr, rfl, -, -, hR0⟩, ⟨ad, cd, rfl, -⟩, ⟨ae, ce, rfl, -⟩⟩, -⟩ := ht
  have hR := hid hR0
  have hRp := Rw.valid_pos hv
  have hR80 := Rw.valid_80 hv
  clear hT hR0 hc hv
  obtain ⟨W1, hW1⟩ : ∃ W1, W1 = W.alloc (.cells #[.slice ar t.rules.length cr, .slice ad t.drops.length cd, .slice ae t.ends.length ce, .int .i64 t.drop, .int .i64 t.order, .int .i64 t.initial] 25) := ⟨_, rfl⟩
  have T1 := hid (show Blk W1 W.heap.size 25 [.slice ar t.rules.length cr, .slice ad t.drops.length cd, .slice ae t.ends.length ce, .int .i64 t.drop, .int .i64 t.order, .int .i64 t.initial] by rw [hW1]; exact Blk.new W _ _)
  have B1 := hid (show Below W.heap.size W W1 by rw [hW1]; exact (Below.refl _ W).alloc (Nat.le_refl _) _)
  obtain ⟨n, hn⟩ : ∃ n, n = L.length := ⟨_, rfl⟩
  obtain ⟨m, hm⟩ : ∃ m, m = form.length := ⟨_, rfl⟩
  have hsz : (bs form).size = m := by rw [bs_len, hm]
  rw [← hn] at h12 HLS ⊢
  rw [← hm] at hform
  have HN := hid hn
  have HM := hid hm
  obtain ⟨i1, hi1, hz1, hs1, hy1⟩ := info_parts Tryz.infoIntsL
  obtain ⟨i2, hi2, hz2, hs2, hy2⟩ := info_parts Tryz.infoIntL
  have hmk1 : ∀ X : World, (Instr.makeSlice 86 (.int .i64 ((n : Int) + 1)) (.int .i64 ((n : Int) + 1))).run Tryz.prog X = .ok (.slice (some ⟨X.heap.size, 0, none⟩) (n + 1) (n + 1)) (X.alloc (.cells (Array.replicate (n + 1) (.slice none 0 0)) 35)) :=
    fun X => make_one 86 35 i1 _ Tryz.underlying86 hi1 hz1 hs1 rfl (n + 1) (by rw [hy1]; omega) (by unfold maxLen; omega) X
  have hmk2 : ∀ X : World, (Instr.makeSlice 35 (.int .i64 ((m : Int) + 1)) (.int .i64 ((m : Int) + 1))).run Tryz.prog X = .ok (.slice (some ⟨X.heap.size, 0, none⟩) (m + 1) (m + 1)) (X.alloc (.cells (Array.replicate (m + 1) (.int .i64 0)) 3)) :=
    fun X => make_one 35 3 i2 _ Tryz.underlying35 hi2 hz2 hs2 rfl (m + 1) (by rw [hy2]; omega) (by unfold maxLen; omega) X
  obtain ⟨W2, hW2⟩ : ∃ W2, W2 = W1.alloc (.cells (Array.replicate (n + 1) (.slice none 0 0)) 35) := ⟨_, rfl⟩
  have HG2 := hid (show GrM W1 W1.heap.size (n + 1) (m + 1) 0 (Bi 0 0) W2 ∧ W2.heap.size = W1.heap.size + 1 + 0 by
    rw [hW2]
    refine ⟨⟨?_, fun j hj => absurd hj (Nat.not_lt_zero j), (Below.refl _ W1).alloc (Nat.le_refl _) _⟩, by rw [World.size_alloc]⟩
    rw [slV_zero]
    exact Blk.rep W1 _ _ _)
  clear hn hm hi1 hz1 hs1 hy1 hi2 hz2 hs2 hy2
  go_enter Tryz.func18, Tryz.ntmps18
  go_upto_region 1 with (fail)
  rw [← hW1]
  clear hW1
  go_upto_region 2 with (fail)
  rw [← hW2]
  clear hW2 hmk1
  go_wp2_with fail
  go_loopw [25] (fun jv wr => ∃ j : Nat, j ≤ n + 1 ∧ jv = .int .i64 j ∧ Hid (GrM W1 W1.heap.size (n + 1) (m + 1) j (Bi j 0) wr ∧ wr.heap.size = W1.heap.size + 1 + j)) (fun jv _ => n + 1 - (RowKit.intOf jv).toNat)
  case atStart => exact ⟨0, Nat.zero_le _, rfl, HG2⟩
  case round =>
    obtain ⟨j, hj, rfl, HGJ⟩ := hrel
    by_cases hjn : j < n + 1
    · have j0 : (0 : Int) ≤ (j : Int) := by omega
      have j1 : (j : Int) < (n : Int) + 1 := by omega
      have o0 := (HGJ.out.1.outer.below ((Below.refl _ wr).alloc (Nat.le_refl _) (.cells (Array.replicate (m + 1) (.int .i64 0)) 3))).cell (slV_nil hjn (Nat.lt_irrefl j))
      have ol := (HGJ.out.1.outer.below ((Below.refl _ wr).alloc (Nat.le_refl _) (.cells (Array.replicate (m + 1) (.int .i64 0)) 3))).lt
      have of_ := (HGJ.out.1.outer.below ((Below.refl _ wr).alloc (Nat.le_refl _) (.cells (Array.replicate (m + 1) (.int .i64 0)) 3))).frozen j
      obtain ⟨X2, hX2⟩ : ∃ X2, X2 = (wr.alloc (.cells (Array.replicate (m + 1) (.int .i64 0)) 3)).setCell ⟨W1.heap.size, j, none⟩ (.slice (some ⟨wr.heap.size, 0, none⟩) (m + 1) (m + 1)) := ⟨_, rfl⟩
      have HGX := hid (show GrM W1 W1.heap.size (n + 1) (m + 1) (j + 1) (Bi j 0) X2 ∧ X2.heap.size = W1.heap.size + 1 + (j + 1) by
        rw [hX2]
        exact HGJ.out.1.more (Nat.le_refl _) HGJ.out.2 (fun k hk => by unfold Bi; rw [if_neg (by omega)]))
      go_upto_region 6 with (fail)
      rw [← hX2]
      clear hX2 o0 ol of_
      obtain ⟨c0, cl, -, -, -⟩ := HGX.out.1.get (j := j) (k := 0) (by omega) (by omega) (by omega)
      go_wp2_with fail
      go_loopw [40] (fun kv wr => ∃ q : Nat, q ≤ m + 1 ∧ kv = .int .i64 q ∧ Hid (GrM W1 W1.heap.size (n + 1) (m + 1) (j + 1) (Bi j q) wr ∧ wr.heap.size = W1.heap.size + 1 + (j + 1))) (fun kv _ => m + 1 - (RowKit.intOf kv).toNat)
      case atStart => exact ⟨0, Nat.zero_le _, rfl, HGX⟩
      case round =>
        clear c0 cl
        obtain ⟨q, hq, rfl, HGQ⟩ := hrel
        by_cases hqm : q < m + 1
        · have q0 : (0 : Int) ≤ (q : Int) := by omega
          have q1 : (q : Int) < (m : Int) + 1 := by omega
          obtain ⟨c0, cl, c1, cl1, cf⟩ := HGQ.out.1.get (j := j) (k := q) (by omega) (by omega) hqm
          have HGN := hid (show GrM W1 W1.heap.size (n + 1) (m + 1) (j + 1) (Bi j (q + 1)) (wr.setCell ⟨W1.heap.size + 1 + j, q, none⟩ (.int .i64 (-1))) ∧ (wr.setCell ⟨W1.heap.size + 1 + j, q, none⟩ (.int .i64 (-1))).heap.size = W1.heap.size + 1 + (j + 1) from
            ⟨(HGQ.out.1.put (Nat.le_refl _) (j := j) (k := q) (by omega) (-1)).congr (fun a ha b hb => by
              unfold Fo.put2 Bi
              by_cases h1 : a = j ∧ b = q
              · rw [if_pos h1, if_pos (by omega)]
              · rw [if_neg h1]
                by_cases h2 : a < j ∨ (a = j ∧ b < q)
                · rw [if_pos h2, if_pos (by omega)]
                · rw [if_neg h2, if_neg (by omega)]), by simp [World.setCell]; exact HGQ.out.2⟩)
          go_wp2_with fail
          go_roundw
          case rel => exact ⟨q + 1, by omega, by go_num, HGN⟩
          case measure => simp [RowKit.intOf]; omega
        · have q1 : ¬ (q : Int) < (m : Int) + 1 := by omega
          have HGN := hid (show GrM W1 W1.heap.size (n + 1) (m + 1) (j + 1) (Bi (j + 1) 0) wr ∧ wr.heap.size = W1.heap.size + 1 + (j + 1) from
            ⟨HGQ.out.1.congr (fun a ha b hb => by
              unfold Bi
              rw [if_pos (by omega), if_pos (by omega)]), HGQ.out.2⟩)
          go_wp2_with fail
          go_roundw
          case rel => exact ⟨j + 1, by omega, by go_num, HGN⟩
          case measure => simp [RowKit.intOf]; omega
    · have hje : j = n + 1 := by omega
      have j1 : ¬ (j : Int) < (n : Int) + 1 := by omega
      have HGZ := hid (show GrM W1 W1.heap.size (n + 1) (m + 1) (n + 1) (fun _ _ => -1) wr from by
        have h := HGJ.out.1
        rw [hje] at h
        exact h.congr (fun a ha b hb => by unfold Bi; rw [if_pos (by omega)]))
      clear hje
      obtain ⟨c0, cl, c1, cl1, cf⟩ := HGZ.out.get (j := 0) (k := 0) (by omega) (by omega) (by omega)
      rw [Nat.add_zero] at c1 cl1 cf c0
      obtain ⟨X3, hX3⟩ : ∃ X3, X3 = wr.setCell ⟨W1.heap.size + 1, 0, none⟩ (.int .i64 0) := ⟨_, rfl⟩
      have HG3 := hid (show GrM W1 W1.heap.size (n + 1) (m + 1) (n + 1) (fun j m => if j = 0 ∧ m = 0 then 0 else -1) X3 from by
        rw [hX3]
        exact (HGZ.out.put (Nat.le_refl _) (j := 0) (k := 0) (by omega) 0).congr (fun a _ b _ => by unfold Fo.put2; rfl))
      go_upto_region 13 with (fail)
      rw [← hX3]
      clear hX3 c0 cl c1 cl1 cf hmk2
      go_wp2_with fail
      go_loopw [12] (fun iv wr => ∃ (i : Nat) (B : Nat → Nat → Int), i ≤ n ∧ iv = .int .i64 i ∧ Hid (GrM W1 W1.heap.size (n + 1) (m + 1) (n + 1) B wr ∧ Fo.Grd L (Al.rulesFrom k 0 t.rules) form (Fo.Dn1 k t.rules i 0) B)) (fun iv _ => n - (RowKit.intOf iv).toNat)
      case atStart => exact ⟨0, _, Nat.zero_le _, rfl, hid ⟨HG3.out, Fo.Grd.begin⟩⟩
      case round =>
        obtain ⟨i, B, hi, rfl, HI⟩ := hrel
        by_cases hin : i < n
        · have i1 : (i : Int) < (n : Int) := by omega
          go_wp2_with fail
          go_loopw [13] (fun xv wr => ∃ (x : Nat) (B : Nat → Nat → Int), x ≤ t.rules.length ∧ xv = .int .i64 x ∧ Hid (GrM W1 W1.heap.size (n + 1) (m + 1) (n + 1) B wr ∧ Fo.Grd L (Al.rulesFrom k 0 t.rules) form (Fo.Dn1 k t.rules i x) B)) (fun xv _ => t.rules.length - (RowKit.intOf xv).toNat)
          case atStart => exact ⟨0, B, Nat.zero_le _, rfl, HI⟩
          case round =>
            obtain ⟨x, B, hx, rfl, HX⟩ := hrel
            have T7 := T1.out.below HX.out.1.below
            have t0 := T7.cell (j := 0) rfl
            have tl0 := T7.lt
            clear T7
            by_cases hxr : x < t.rules.length
            · obtain ⟨g, o, rfl, hr⟩ := hR.out (by omega)
              obtain ⟨r, hd⟩ : ∃ r, t.rules[x]? = some r := ⟨_, List.getElem?_eq_getElem hxr⟩
              have hbW := Below.step B1.out HX.out.1.below
              have hc := (hr.below hbW).2 x r hd
              have e0 := hc 0 _ rfl
              have e1 := hc 1 _ rfl
              have e2 := hc 2 _ rfl
              have e3 := hc 3 _ rfl
              rw [Nat.add_zero] at e0
              have hg := (hr.below hbW).1
              have x0 : (0 : Int) ≤ (x : Int) := by omega
              have x1 : (x : Int) < (t.rules.length : Int) := by omega
              have HOK := hid (Rw.valid_all HVV.out r (List.mem_of_getElem? hd))
              obtain ⟨f, hlf, -, -, -, hc0, hc1⟩ := Fo.letters_rule HOK.out
              have HLF := hid hlf
              have HD := hid hd
              have hf12 := (Sc.lets_len hlf).2
              have HFT := hid (fits10_any r f k L _ i wr hlf (HTA.out.rules r (List.mem_of_getElem? hd)).2.1 (show SlOf wr (.slice la L.length lc) 1 strC L by rw [← HN.out]; exact HLS.out.below hbW) (by rw [← HN.out]; exact h12) (by omega) (HTT.out.below hbW))
              rw [← HN.out] at HFT
              obtain ⟨ok, hok⟩ : ∃ ok, ok = (decide (r.script = k) && atB L i f) := ⟨_, rfl⟩
              rw [← hok] at HFT
              have HKK := hid hok
              clear hc hr hd hbW hlf hok
              go_wp2_with fail
              refine (HFT.out).mono ?_
              rintro e W8 ⟨rfl, hb⟩
              have HX8 := hid (And.intro (HX.out.1.step hb) HX.out.2)
              have p0 := (hb.cell (p := ⟨W.heap.size, 0, none⟩) tl0).trans t0
              have pl := Nat.lt_of_lt_of_le tl0 hb.size
              have pe2 := (hb.cell (p := ⟨g, o + x * 4 + 2, none⟩) hg).trans e2
              have pg := Nat.lt_of_lt_of_le hg hb.size
              clear hb HFT t0 tl0 e0 e1 e2 e3 hg
              obtain ⟨tl, htl⟩ : ∃ tl, tl = r.to_.length := ⟨_, rfl⟩
              have hts : (bs r.to_).size = tl := by rw [bs_len, htl]
              have hto3 : tl ≤ 3 := by
                have hok := HOK.out
                unfold Rw.ruleOk Rw.isForm at hok
                simp only [Bool.and_eq_true, decide_eq_true_eq] at hok
                rw [htl]
                exact hok.1.2.1
              have HTL := hid htl
              clear htl
              cases ok with
              | false =>
                have HNX := hid (show Fo.Grd L (Al.rulesFrom k 0 t.rules) form (Fo.Dn1 k t.rules i (x + 1)) B from by
                  by_cases hk : r.script = k
                  · refine HX8.out.2.unfit HD.out HLF.out hk ?_
                    have h := HKK.out
                    rw [decide_eq_true hk, Bool.true_and] at h
                    unfold Al.fits
                    unfold atB at h
                    exact h.symm
                  · exact HX8.out.2.other HD.out hk)
                go_wp2_with fail
                go_loopw [17] (fun kv wr => kv = .int .i64 0 ∧ Hid (GrM W1 W1.heap.size (n + 1) (m + 1) (n + 1) B wr)) (fun _ _ => 0)
                case atStart => exact ⟨rfl, HX8.out.1⟩
                case round =>
                  obtain ⟨rfl, HGW⟩ := hrel
                  go_wp2_with fail
                  go_roundw
                  case rel => exact ⟨x + 1, B, by omega, by go_num, hid ⟨HGW.out, HNX.out⟩⟩
                  case measure => simp [RowKit.intOf]; omega
              | true =>
                have HOK2 := hid (show r.script = k ∧ Al.fits L ⟨x, r.cost, f, r.to_⟩ i = true from by
                  have h := HKK.out.symm
                  rw [Bool.and_eq_true, decide_eq_true_eq] at h
                  exact ⟨h.1, h.2⟩)
                have HMEM := hid (Fo.rule_here HD.out HLF.out HOK2.out.1)
                have hif : i + f.length ≤ n := by rw [HN.out]; exact Fo.fits_le HOK2.out.2
                go_wp2_with fail
                go_loopw [17] (fun kv wr => ∃ (kk : Nat) (B : Nat → Nat → Int), kk ≤ m + 1 ∧ kv = .int .i64 kk ∧ Hid (GrM W1 W1.heap.size (n + 1) (m + 1) (n + 1) B wr ∧ Fo.Grd L (Al.rulesFrom k 0 t.rules) form (Fo.Dn2 k t.rules i x ⟨x, r.cost, f, r.to_⟩ kk) B)) (fun kv _ => m + 1 - (RowKit.intOf kv).toNat)
                case atStart => exact ⟨0, B, Nat.zero_le _, rfl, hid ⟨HX8.out.1, HX8.out.2.in_⟩⟩
                case round =>
                  clear p0 pl pe2 pg
                  obtain ⟨kk, B, hkk, rfl, HQ⟩ := hrel
                  have hwk : IntKind.i64.wrap ((kk : Int) + (tl : Int)) = (kk : Int) + (tl : Int) := IntWalk.i64_in _ (by omega)
                  by_cases hle : kk + tl ≤ m
                  · have gle : decide ((kk : Int) + (tl : Int) ≤ (m : Int)) = true := decide_eq_true (by omega)
                    have gle' : decide (kk + tl ≤ m) = true := decide_eq_true hle
                    obtain ⟨c0, cl, c1, cl1, -⟩ := HQ.out.1.get (j := i) (k := kk) (by omega) (by omega) (by omega)
                    have r0 : (0 : Int) ≤ (i : Int) := by omega
                    have r1 : (i : Int) < (n : Int) + 1 := by omega
                    have r2 : (0 : Int) ≤ (kk : Int) := by omega
                    have r3 : (kk : Int) < (m : Int) + 1 := by omega
                    have HBD := hid (HQ.out.2.bound HG.out (by rw [← HN.out]; exact h12) (Fo.Dn2.upto HMEM.out).1 (j := i) (m := kk) (by rw [← HN.out]; omega) (by rw [← HM.out]; omega))
                    obtain ⟨bv, hbv⟩ : ∃ bv, bv = B i kk := ⟨_, rfl⟩
                    have HBV := hid hbv
                    rw [← hbv] at c1 HBD
                    have HPASS := hid (show bv < 0 ∨ ¬ (form.drop kk).take r.to_.length = r.to_ → Hid (GrM W1 W1.heap.size (n + 1) (m + 1) (n + 1) B wr ∧ Fo.Grd L (Al.rulesFrom k 0 t.rules) form (Fo.Dn2 k t.rules i x ⟨x, r.cost, f, r.to_⟩ (kk + 1)) B) from fun h =>
                      ⟨HQ.out.1, (HQ.out.2.pass HG.out (by rw [← HN.out]; omega) (Fo.Dn2.upto HMEM.out) (by rw [HBV.out] at h; exact h)).tick⟩)
                    clear hbv
                    by_cases hb0 : bv < 0
                    · have gb : decide (bv < 0) = true := decide_eq_true hb0
                      have HP2 := HPASS.out (.inl hb0)
                      clear hb0
                      go_wp2_with fail
                      go_roundw
                      case rel => exact ⟨kk + 1, _, by omega, by go_num, HP2⟩
                      case measure => simp [RowKit.intOf]; omega
                    have gb : decide (bv < 0) = false := decide_eq_false hb0
                    have hex : (bs form).extract kk (kk + tl) = bs ((form.drop kk).take tl) := by rw [extract_bs, Nat.add_sub_cancel_left]; rfl
                    have s1 : (0 : Int) ≤ (kk : Int) + (tl : Int) ∧ (kk : Int) + (tl : Int) ≤ (m : Int) := by omega
                    have s2 : (kk : Int) ≤ (kk : Int) + (tl : Int) := by omega
                    have s3 : ((kk : Int) + (tl : Int)).toNat = kk + tl := by omega
                    have s4 : kk ≤ kk + tl := by omega
                    have s5 : (0 : Int) ≤ (kk : Int) + (tl : Int) := by omega
                    have s6 : (kk : Int) + (tl : Int) ≤ (m : Int) := by omega
                    by_cases hto : (form.drop kk).take tl = r.to_
                    rotate_left
                    · have gt : ((bs ((form.drop kk).take tl)).toList == (bs r.to_).toList) = false := by rw [str_beq, decide_eq_false hto]
                      have HP2 := HPASS.out (.inr (by rw [← HTL.out]; exact hto))
                      clear hto
                      go_wp2_with fail
                      go_roundw
                      case rel => exact ⟨kk + 1, _, by omega, by go_num, HP2⟩
                      case measure => simp [RowKit.intOf]; omega
                    have gt : ((bs ((form.drop kk).take tl)).toList == (bs r.to_).toList) = true := by rw [str_beq, decide_eq_true hto]
                    have HST := hid (HQ.out.2.step HG.out (Fo.Dn2.upto HMEM.out) HMEM.out HOK2.out.2 (by rw [← HBV.out]; exact hb0) (show kk + r.to_.length ≤ form.length by rw [← HTL.out, ← HM.out]; exact hle) (show (form.drop kk).take r.to_.length = r.to_ by rw [← HTL.out]; exact hto))
                    simp only [← HTL.out, ← HBV.out] at HST
                    clear hto hb0
                    go_upto_region 25 with (fail)
                    have T7 := T1.out.below HQ.out.1.below
                    have t0 := T7.cell (j := 0) rfl
                    have tl0 := T7.lt
                    have hbW := Below.step B1.out HQ.out.1.below
                    obtain ⟨g', o', eg, hr⟩ := hR.out (by omega)
                    cases eg
                    have e3 := (hr.below hbW).2 x r HD.out 3 _ rfl
                    have hg := (hr.below hbW).1
                    have hwc : IntKind.i64.wrap (bv + r.cost) = bv + r.cost := IntWalk.i64_in _ (by have := HBD.out; omega)
                    clear T7 hbW hr
                    go_wp2_with fail
                    go_quiet (fail)
                    obtain ⟨wq, hwq⟩ : ∃ w, w = wr.drewN nq := ⟨_, rfl⟩
                    have HQ2 := hid (show GrM W1 W1.heap.size (n + 1) (m + 1) (n + 1) B wq by rw [hwq]; exact HQ.out.1.step (Below.drewQ _ _))
                    rw [← hwq]
                    clear hwq c0 cl c1 cl1 t0 tl0 e3 hg s1 s2 s3 s4 s5 s6 hex gt gb gle gle'
                    obtain ⟨c0, cl, c1, cl1, cf⟩ := HQ2.out.get (j := i + f.length) (k := kk + tl) (by omega) (by omega) (by omega)
                    obtain ⟨v2, hv2⟩ : ∃ v2, v2 = B (i + f.length) (kk + tl) := ⟨_, rfl⟩
                    rw [← hv2] at c1 HST
                    have hwi : IntKind.i64.wrap ((i : Int) + (f.length : Int)) = (i : Int) + (f.length : Int) := IntWalk.i64_in _ (by omega)
                    have u1 : (0 : Int) ≤ (i : Int) + (f.length : Int) := by omega
                    have u2 : (i : Int) + (f.length : Int) < (n : Int) + 1 := by omega
                    have u3 : ((i : Int) + (f.length : Int)).toNat = i + f.length := by omega
                    have u4 : (0 : Int) ≤ (kk : Int) + (tl : Int) := by omega
                    have u5 : (kk : Int) + (tl : Int) < (m : Int) + 1 := by omega
                    have u6 : ((kk : Int) + (tl : Int)).toNat = kk + tl := by omega
                    clear hv2
                    by_cases h1 : v2 < 0
                    · have g1 : decide (v2 < 0) = true := decide_eq_true h1
                      rw [if_pos (.inl h1)] at HST
                      have HNW := hid (And.intro (HQ2.out.put (Nat.le_refl _) (j := i + f.length) (k := kk + tl) (by omega) (bv + r.cost)) HST.out.tick)
                      clear h1 HST
                      go_wp2_with fail
                      go_roundw
                      case rel => exact ⟨kk + 1, _, by omega, by go_num, HNW⟩
                      case measure => simp [RowKit.intOf]; omega
                    have g1 : decide (v2 < 0) = false := decide_eq_false h1
                    by_cases h2 : bv + r.cost < v2
                    · have g2 : decide (bv + r.cost < v2) = true := decide_eq_true h2
                      rw [if_pos (.inr h2)] at HST
                      have HNW := hid (And.intro (HQ2.out.put (Nat.le_refl _) (j := i + f.length) (k := kk + tl) (by omega) (bv + r.cost)) HST.out.tick)
                      clear h1 h2 HST
                      go_wp2_with fail
                      go_roundw
                      case rel => exact ⟨kk + 1, _, by omega, by go_num, HNW⟩
                      case measure => simp [RowKit.intOf]; omega
                    · have g2 : decide (bv + r.cost < v2) = false := decide_eq_false h2
                      rw [if_neg (by omega)] at HST
                      have HNW := hid (And.intro HQ2.out HST.out.tick)
                      clear h1 h2 HST
                      go_wp2_with fail
                      go_roundw
                      case rel => exact ⟨kk + 1, _, by omega, by go_num, HNW⟩
                      case measure => simp [RowKit.intOf]; omega
                  · have gle : decide ((kk : Int) + (tl : Int) ≤ (m : Int)) = false := decide_eq_false (by omega)
                    have gle' : decide (kk + tl ≤ m) = false := decide_eq_false hle
                    have HNX := hid (HQ.out.2.out_ HD.out HLF.out HOK2.out.1 (by rw [← HTL.out, ← HM.out]; exact hle))
                    go_wp2_with fail
                    go_roundw
                    case rel => exact ⟨x + 1, B, by omega, by go_num, hid ⟨HQ.out.1, HNX.out⟩⟩
                    case measure => simp [RowKit.intOf]; omega
            · have hxe : x = t.rules.length := by omega
              have x1 : ¬ (x : Int) < (t.rules.length : Int) := by omega
              have HNX := hid (show Fo.Grd L (Al.rulesFrom k 0 t.rules) form (Fo.Dn1 k t.rules (i + 1) 0) B from Fo.Grd.row (by have h := HX.out.2; rw [hxe] at h; exact h))
              clear hxe
              go_wp2_with fail
              go_roundw
              case rel => exact ⟨i + 1, B, by omega, by go_num, hid ⟨HX.out.1, HNX.out⟩⟩
              case measure => simp [RowKit.intOf]; omega
        · have hie : i = n := by omega
          have i1 : ¬ (i : Int) < (n : Int) := by omega
          obtain ⟨c0, cl, c1, cl1, -⟩ := HI.out.1.get (j := n) (k := m) (by omega) (by omega) (by omega)
          have HEQ := hid (show B n m = c from by
            have h := HI.out.2
            rw [hie, HN.out] at h
            rw [HN.out, HM.out]
            exact h.done HG.out Fo.Dn1.upto HCC.out)
          have d0 : (n : Int) < (n : Int) + 1 := by omega
          have d1 : (m : Int) < (m : Int) + 1 := by omega
          have d2 : (0 : Int) ≤ (n : Int) := by omega
          have d3 : (0 : Int) ≤ (m : Int) := by omega
          have HBE := hid (Below.step B1.out HI.out.1.below)
          clear hie
          go_wp2_with fail
          go_ret
          rw [HEQ.out]
          exact ⟨rfl, HBE.out⟩

end Go.Proofs.YtdchjacccmajcaaGreatDoor
