/-
 rewrite.Forms. Conditions: lengths; the library's tables.
-/
import Derived.Test.YtdchjacccmajcaaGreatDoorZMFm
import Derived.Test.YtdchjacccmajcaaGreatDoorZMRew
import Derived.IntWalk
namespace Go.Proofs.YtdchjacccmajcaaGreatDoor
open Go.RowKit Go.Lib Go.Maps

theorem Tryz.infoSteps : (Tryz.prog.info? 76).map (fun i => (i.zero, i.size, i.bytes)) = some (some (.slice none 0 0), 1, 24) := by kernel_rfl
theorem Tryz.infoIntF : (Tryz.prog.info? 3).map (fun i => (i.zero, i.size, i.bytes)) = some (some (.int .i64 0), 1, 8) := by kernel_rfl
theorem Tryz.infoMapI : (Tryz.prog.info? 80).map (fun i => (i.zero, i.size, i.bytes)) = some (some (.map none), 1, 8) := by kernel_rfl
theorem Tryz.infoStep : (Tryz.prog.info? 78).map (fun i => (i.zero, i.size, i.bytes)) = some (some (.agg #[.string ⟨#[]⟩, .int .i64 0, .int .i64 0]), 3, 32) := by kernel_rfl

/-- a number as cells -/
def numC (n : Int) : List Value := [.int .i64 n]
/-- what Forms ends in -/
def FormsP (t : Rw.Table) (k : Int) (s : List UInt8) (most : Int) (W : World) (e : Ending) (W' : World) : Prop :=
 Below W.heap.size W W' ∧
 (((Fo.letters k s = [] ∨ Rw.valid t = false) ∧ e = .returned (.tuple #[.slice none 0 0, .slice none 0 0, .int .i64 1])) ∨
  (Fo.letters k s ≠ [] ∧ Rw.valid t = true ∧
  ((Fo.Many (Fo.letters k s) (Al.rulesFrom k 0 t.rules) most ∧ e = .returned (.tuple #[.slice none 0 0, .slice none 0 0, .int .i64 2])) ∨
   ∃ (v u : Value) (out : List (List UInt8)) (costs : List Int), e = .returned (.tuple #[v, u, .int .i64 0]) ∧ SlOf W' v 1 strC out ∧ SlOf W' u 1 numC costs ∧ Fo.Forms Fo.lt (Fo.letters k s) (Al.rulesFrom k 0 t.rules) most out costs)))

set_option maxRecDepth 100000 in
set_option maxHeartbeats 20000000 in
theorem forms_any (t : Rw.Table) (tv : Value) (k : Int) (word : ByteArray) (most : Int) (W : World) (ht : TableAt W t tv) (hT : Tabs W) (hw : word.size ≤ 1000000) : Calls Tryz.prog 17 #[tv, .int .i64 k, .string word, .int .i64 most] W (FormsP t k word.data.toList most W) := by
 have HTA := hid ht
 have HTT := hid hT
 obtain ⟨⟨vr, vd, ve, rfl, ⟨a, cap, rfl, h1, h2, h3⟩, ⟨ad, cd, rfl, -⟩, ⟨ae, ce, rfl, -⟩⟩, fr, -, -, hl1, -, -⟩ := ht
 have hR := hid h3
 have hF := hid fr
 clear h3 fr hT h1 h2
 obtain ⟨W1, hW1⟩ : ∃ W1, W1 = W.alloc (.cells #[.slice a t.rules.length cap, .slice ad t.drops.length cd, .slice ae t.ends.length ce, .int .i64 t.drop, .int .i64 t.order, .int .i64 t.initial] 25) := ⟨_, rfl⟩
 have HT1 := hid (show Blk W1 W.heap.size 25 [.slice a t.rules.length cap, .slice ad t.drops.length cd, .slice ae t.ends.length ce, .int .i64 t.drop, .int .i64 t.order, .int .i64 t.initial] by rw [hW1]; exact Blk.new W _ _)
 have HB1 := hid (show Below W.heap.size W W1 by rw [hW1]; exact (Below.refl _ W).alloc (Nat.le_refl _) _)
 have HLW := hid (letters_w k word W1 hw (HTT.out.below HB1.out))
 obtain ⟨L, hL⟩ : ∃ L, L = Fo.letters k word.data.toList := ⟨_, rfl⟩
 have hL12 := Fo.letters_len k word.data.toList
 rw [← hL] at hL12
 unfold LetWP at HLW
 unfold FormsP
 rw [← hL] at HLW ⊢
 clear hL
 go_enter Tryz.func17, Tryz.ntmps17
 go_upto_region 1 with (fail)
 rw [← hW1]
 clear hW1
 go_wp2_with fail
 refine (HLW.out).mono ?_
 rintro e W2 ⟨lv, rfl, hown, hb2⟩
 obtain ⟨la, lc, rfl⟩ := ownsRow_slice hown
 have HB2 := hid (Below.step HB1.out hb2)
 have HT2 := hid (HT1.out.below hb2)
 have HLS := hid (show SlOf W2 (.slice la L.length lc) 1 strC L from SlOf.own hown (fun _ _ => rfl))
 have hz2 := HT2.out.lt
 have y0 := HT2.out.cell (j := 0) rfl
 have y1 := HT2.out.cell (j := 1) rfl
 have y2 := HT2.out.cell (j := 2) rfl
 have y3 := HT2.out.cell (j := 3) rfl
 have y4 := HT2.out.cell (j := 4) rfl
 have y5 := HT2.out.cell (j := 5) rfl
 obtain ⟨n, hn⟩ : ∃ n, n = L.length := ⟨_, rfl⟩
 have HN := hid hn
 rw [← hn] at hL12 HLS ⊢
 clear hown hb2 HLW hn
 by_cases h0 : n = 0
 ·have g0 : ((n : Int) == 0) = true := by rw [h0]; rfl
  have HE := hid (show L = [] by have := HN.out; exact List.length_eq_zero_iff.1 (by omega))
  clear h0
  go_wp2_with fail
  go_ret3
  exact ⟨HB2.out, .inl ⟨.inl HE.out, rfl⟩⟩
 ·have g0 : ((n : Int) == 0) = false := by rw [beq_eq_false_iff_ne]; omega
  have HV := hid (valid_any t _ W2 (HTA.out.below HB2.out) (HTT.out.below HB2.out))
  have HNE := hid (show L ≠ [] from fun e => h0 (by rw [HN.out, e]; rfl))
  go_wp2_with fail
  refine (HV.out).mono ?_
  rintro e W3 ⟨rfl, hb3⟩
  have HB3 := hid (Below.step HB2.out hb3)
  have HT3 := hid (HT2.out.below hb3)
  have HL3 := hid (HLS.out.below hb3)
  clear hb3 y0 y1 y2 y3 y4 y5 hz2 HV HLS HT2 HT1
  cases hv : Rw.valid t with
  | false =>
   go_wp2_with fail
   go_ret3
   exact ⟨HB3.out, .inl ⟨.inr hv, rfl⟩⟩
  | true =>
   have HG := hid (Fo.good_rules hv k)
   have HVR := hid (Rw.valid_rules hv)
   have hr80 := HVR.out.1
   have HVV := hid hv
   clear hv
   obtain ⟨rs, hrs⟩ : ∃ rs, rs = Al.rulesFrom k 0 t.rules := ⟨_, rfl⟩
   have HRS := hid hrs
   rw [← hrs] at HG
   clear hrs
   obtain ⟨i1, hi1, hz1, hs1, hy1⟩ := info_parts Tryz.infoSteps
   obtain ⟨i2, hi2, hz2, hs2, hy2⟩ := info_parts Tryz.infoIntF
   have hmk1 : ∀ X : World, (Instr.makeSlice 74 (.int .i64 (n : Int)) (.int .i64 (n : Int))).run Tryz.prog X = .ok (.slice (some ⟨X.heap.size, 0, none⟩) n n) (X.alloc (.cells (Array.replicate n (.slice none 0 0)) 76)) :=
    fun X => make_one 74 76 i1 _ Tryz.underlying74 hi1 hz1 hs1 rfl n (by rw [hy1]; omega) (by unfold maxLen; omega) X
   have hmk2 : ∀ X : World, (Instr.makeSlice 35 (.int .i64 ((n : Int) + 1)) (.int .i64 ((n : Int) + 1))).run Tryz.prog X = .ok (.slice (some ⟨X.heap.size, 0, none⟩) (n + 1) (n + 1)) (X.alloc (.cells (Array.replicate (n + 1) (.int .i64 0)) 3)) :=
    fun X => make_one 35 3 i2 _ Tryz.underlying35 hi2 hz2 hs2 rfl (n + 1) (by rw [hy2]; omega) (by unfold maxLen; omega) X
   obtain ⟨W5, hW5⟩ : ∃ W5, W5 = (W3.alloc (.cells (Array.replicate n (.slice none 0 0)) 76)).alloc (.cells (Array.replicate (n + 1) (.int .i64 0)) 3) := ⟨_, rfl⟩
   have HA5 := hid (show Blk W5 W3.heap.size 76 (List.replicate n (.slice none 0 0)) ∧ Blk W5 (W3.heap.size + 1) 3 (intV (initB n 0)) ∧ Below W3.heap.size W3 W5 by
    have hz : (W3.alloc (.cells (Array.replicate n (.slice none 0 0)) 76)).heap.size = W3.heap.size + 1 := World.size_alloc _ _
    have k1 := Blk.rep W3 76 n (.slice none 0 0)
    have k2 := Blk.rep (W3.alloc (.cells (Array.replicate n (.slice none 0 0)) 76)) 3 (n + 1) (.int .i64 0)
    rw [hz, ← hW5, initB_zero] at k2
    refine ⟨?_, k2, ?_⟩
    ·rw [hW5]
     exact k1.below ((Below.refl _ _).alloc (Nat.le_refl _) _)
    ·rw [hW5]
     exact ((Below.refl _ W3).alloc (Nat.le_refl _) _).alloc (by rw [hz]; omega) _)
   clear hi1 hz1 hs1 hy1 hi2 hz2 hs2 hy2
   go_wp2_with fail
   rw [← hW5]
   clear hW5 hmk1 hmk2
   go_loopw [52] (fun iv wr => ∃ j : Nat, j ≤ n ∧ iv = .int .i64 j ∧ Hid (Blk wr W3.heap.size 76 (List.replicate n (.slice none 0 0)) ∧ Blk wr (W3.heap.size + 1) 3 (intV (initB n j)) ∧ Below W3.heap.size W3 wr)) (fun iv _ => n - (RowKit.intOf iv).toNat)
   case atStart => exact ⟨0, Nat.zero_le _, rfl, HA5.out⟩
   case round =>
    obtain ⟨j, hj, rfl, HA⟩ := hrel
    by_cases hlt : j < n
    ·have j1 : (j : Int) < (n : Int) := by omega
     have j0 : (0 : Int) ≤ (j : Int) := by omega
     have j2 : (0 : Int) ≤ (j : Int) + 1 := by omega
     have j3 : (j : Int) + 1 < (n : Int) + 1 := by omega
     obtain ⟨b, hb⟩ : ∃ b, (initB n j)[j + 1]? = some b := ⟨_, List.getElem?_eq_getElem (by rw [initB_len (by omega)]; omega)⟩
     have c0 := HA.out.2.1.cell (intV_get hb)
     have c1 := HA.out.2.1.frozen (j + 1)
     have c2 := HA.out.2.1.lt
     have c3 : ((j : Int) + 1).toNat = j + 1 := by omega
     clear hb
     go_wp2_with fail
     go_roundw
     case rel =>
      obtain ⟨q1, q2, q3⟩ := HA.out
      have q4 := q2.set (j + 1) (.int .i64 Fo.inf)
      rw [intV_set, initB_set hlt] at q4
      exact ⟨j + 1, by omega, by go_num, q1.other (by omega) _, q4, q3.setCell (p := ⟨W3.heap.size + 1, j + 1, none⟩) (by show W3.heap.size ≤ W3.heap.size + 1; omega) _⟩
     case measure => simp [RowKit.intOf]; omega
    ·have j1 : ¬ (j : Int) < (n : Int) := by omega
     have hjn : j = n := by omega
     have HA0 := hid (show AInv W3 L rs 0 [] (List.replicate n (.slice none 0 0)) (List.replicate n []) (initB n n) wr by
      obtain ⟨q1, q2, q3⟩ := HA.out
      refine ⟨q1, Grid.start _ _ _ _ _ _, by rw [List.length_replicate]; exact HN.out, fun j ts hj => ?_, by rw [← hjn] at *; exact q2, by rw [initB_all, HN.out]; exact Fo.Bef.start, q3⟩
      rw [List.getElem?_replicate] at hj
      split at hj
      ·cases hj
       rw [if_neg (by omega)]
       split
       ·rfl
       ·rfl
      ·cases hj)
     clear HA HA5 hjn
     go_wp2_with fail
     go_loopw [62] (fun iv wr => ∃ (i : Nat) (vs : List Value) (tss : List (List Fo.Stp)) (B : List Int), i ≤ n ∧ iv = .int .i64 i ∧ Hid (AInv W3 L rs i [] vs tss B wr)) (fun iv _ => n - (RowKit.intOf iv).toNat)
     case atStart => exact ⟨0, _, _, _, Nat.zero_le _, rfl, HA0.out⟩
     case round =>
      clear HA0
      obtain ⟨i, vs, tss, B, hi, rfl, HA⟩ := hrel
      by_cases hlt : i < n
      ·have i1 : (i : Int) < (n : Int) := by omega
       have i0 : (0 : Int) ≤ (i : Int) := by omega
       have HT4 := HT3.out.below HA.out.below
       have t0 := HT4.cell (j := 0) rfl
       have tz := HT4.lt
       have HA1 := hid (show AInv W3 L rs i (Al.rulesFrom k 0 (t.rules.take 0)) vs tss B wr from HA.out)
       have hrl : t.rules.length ≤ 80 := hr80
       clear HT4 HA
       go_wp2_with fail
       go_loopw [68] (fun iv wr => ∃ (q : Nat) (vs : List Value) (tss : List (List Fo.Stp)) (B : List Int), q ≤ t.rules.length ∧ iv = .int .i64 q ∧ Hid (AInv W3 L rs i (Al.rulesFrom k 0 (t.rules.take q)) vs tss B wr)) (fun iv _ => t.rules.length - (RowKit.intOf iv).toNat)
       case atStart => exact ⟨0, _, _, _, Nat.zero_le _, rfl, HA1.out⟩
       case round =>
        clear HA1 t0 tz
        obtain ⟨q, vs, tss, B, hq, rfl, HA⟩ := hrel
        by_cases hqt : q < t.rules.length
        ·obtain ⟨g, o, rfl, hr⟩ := hR.out (by omega)
         obtain ⟨d, hd⟩ : ∃ d, t.rules[q]? = some d := ⟨_, List.getElem?_eq_getElem hqt⟩
         have hbW := Below.step HB3.out HA.out.below
         have hc := (hr.below hbW).2 q d hd
         have e0 := hc 0 _ rfl
         have e1 := hc 1 _ rfl
         have e2 := hc 2 _ rfl
         have e3 := hc 3 _ rfl
         rw [Nat.add_zero] at e0
         have hg := (hr.below hbW).1
         have q0 : (0 : Int) ≤ (q : Int) := by omega
         have q1 : (q : Int) < (t.rules.length : Int) := by omega
         have HD := hid hd
         have HOK := hid (HVR.out.2 d (List.mem_of_getElem? hd))
         have HBW := hid hbW
         obtain ⟨A1, hA1⟩ : ∃ A1, A1 = wr.alloc (.cells #[.int .i64 d.script, .string (bs d.from_), .string (bs d.to_), .int .i64 d.cost] 34) := ⟨_, rfl⟩
         have hbA : Below wr.heap.size wr A1 := by rw [hA1]; exact (Below.refl _ wr).alloc (Nat.le_refl _) _
         have HX1 := hid (show Blk A1 wr.heap.size 34 [.int .i64 d.script, .string (bs d.from_), .string (bs d.to_), .int .i64 d.cost] by rw [hA1]; exact Blk.new wr _ _)
         have HAA := hid (HA.out.step hbA)
         have HBA := hid (Below.step hbW hbA)
         have x0 := HX1.out.cell (j := 0) rfl
         have x1 := HX1.out.cell (j := 1) rfl
         have xz := HX1.out.lt
         clear hc hr hd hbW hbA
         by_cases hsc : d.script = k
         ·subst hsc
          have hne : ((d.script : Int) != d.script) = false := by simp
          have hfd := hF.out d (List.mem_of_getElem? HD.out)
          have hwl : (bs d.from_).size ≤ 1000000 := by rw [bs_len]; have := hfd.2.1; omega
          have HLE := hid (letters_w d.script (bs d.from_) A1 hwl (HTT.out.below HBA.out))
          obtain ⟨f, hlf, hfl, hfne, hf3, hc0, hc1⟩ := Fo.letters_rule HOK.out
          unfold LetWP at HLE
          rw [bs_list, hfl] at HLE
          have HFF := hid (And.intro hlf hfne)
          clear hfd hwl hfl hlf hfne
          go_upto_region 17 with (fail)
          rw [← hA1]
          clear hA1 e0 e1 e2 e3
          go_wp2_with fail
          refine (HLE.out).mono ?_
          rintro e A2 ⟨fv, rfl, hof, hb2⟩
          obtain ⟨af, cf, rfl⟩ := ownsRow_slice hof
          have HA2 := hid (HAA.out.step hb2)
          have HX2 := hid (HX1.out.below hb2)
          have HBA2 := hid (Below.step HBA.out hb2)
          have hSF : SlOf A2 (.slice af f.length cf) 1 strC f := SlOf.own hof (fun _ _ => rfl)
          have HTK := hid (Fo.rules_step HD.out HFF.out.1)
          have HRM := hid (show (⟨q, d.cost, f, d.to_⟩ : Al.R) ∈ rs by
           rw [HRS.out]
           exact Fo.rules_sub (n := q + 1) _ (by rw [HTK.out]; exact List.mem_append_right _ List.mem_cons_self))
          have hfp : 0 < f.length := List.length_pos_iff.2 HFF.out.2
          have HSF := hid hSF
          obtain ⟨af', cf', ef, -, -, kf⟩ := hSF
          cases ef
          obtain ⟨g2, o2, rfl, hr2⟩ := kf hfp
          have HR2 := hid hr2
          clear hof hb2 x0 x1 xz kf hr2 HLE
          by_cases hle : i + f.length ≤ n
          ·have gl : decide ((n : Int) < (i : Int) + (f.length : Int)) = false := decide_eq_false (by omega)
           have hSL := HL3.out.below (Below.step HA2.out.below (Below.refl _ _))
           obtain ⟨la', lc', el, kl1, kl2, kl3⟩ := hSL
           obtain ⟨ela, -, elc⟩ : la = la' ∧ n = L.length ∧ lc = lc' := by simpa using el
           subst ela
           subst elc
           clear el
           obtain ⟨g3, o3, rfl, hr3⟩ := kl3 (by rw [← HN.out]; omega)
           rw [← HN.out] at kl1
           have s1 : (0 : Int) ≤ (i : Int) + (f.length : Int) ∧ (i : Int) + (f.length : Int) ≤ (lc : Int) := by omega
           have s2 : (i : Int) ≤ (i : Int) + (f.length : Int) := by omega
           have s3 : ¬ lc = i := by omega
           have s4 : ((i : Int) + (f.length : Int)).toNat - i = f.length := by omega
           have EQ := hid (fun cap => equal_part2 (cap := cap) (c2 := cf) hr3 HR2.out (k := i) (n := f.length) (by rw [← HN.out]; exact hle) rfl (by omega))
           obtain ⟨fb, hfb⟩ : ∃ fb, fb = decide ((L.drop i).take f.length = f) := ⟨_, rfl⟩
           rw [← hfb] at EQ
           have HFB := hid (show Al.fits L ⟨q, d.cost, f, d.to_⟩ i = fb by
            unfold Al.fits
            rw [hfb, decide_eq_true (show i + f.length ≤ L.length by rw [← HN.out]; exact hle), Bool.true_and])
           clear hr3 kl2 kl3 hfb
           go_wp2_with fail
           refine (EQ.out _).mono ?_
           rintro e A3 ⟨rfl, hb3⟩
           have HA3 := hid (HA2.out.step hb3)
           have HX3 := hid (HX2.out.below hb3)
           clear hb3 EQ HA2 HX2 s1 s2 s3 s4 gl
           cases fb with
           | false =>
            go_wp2_with fail
            go_roundw
            case rel => exact ⟨q + 1, vs, tss, B, by omega, by go_num, by rw [HTK.out]; exact HA3.out.nofit HRM.out HFB.out⟩
            case measure => simp [RowKit.intOf]; omega
           | true =>
            obtain ⟨v, hv, hts, how⟩ := HA3.out.row (by rw [← HN.out]; exact hlt)
            obtain ⟨va, vc, rfl⟩ := ownsRow_slice how
            obtain ⟨sl, hsl⟩ : ∃ sl, sl = (Fo.steps L (Al.rulesFrom d.script 0 (t.rules.take q)) i).length := ⟨_, rfl⟩
            have hsl2 : sl ≤ 80 := by
             rw [hsl]
             unfold Fo.steps
             rw [List.length_map]
             exact Nat.le_trans (List.length_filter_le _ _) (Nat.le_trans (Al.rulesFrom_len _ _ _) (by rw [List.length_take]; omega))
            have HSL := hid hsl
            rw [← hsl] at hv how
            have HOW := hid how
            have HV := hid hv
            have cS := HA3.out.s.cell hv
            have cz := HA3.out.s.lt
            have x2 := HX3.out.cell (j := 2) rfl
            have x3 := HX3.out.cell (j := 3) rfl
            have xz := HX3.out.lt
            obtain ⟨b, hb⟩ : ∃ b, B[i]? = some b := ⟨_, List.getElem?_eq_getElem (by rw [HA3.out.bef.len, ← HN.out]; omega)⟩
            obtain ⟨b2, hb2⟩ : ∃ b2, B[i + f.length]? = some b2 := ⟨_, List.getElem?_eq_getElem (by rw [HA3.out.bef.len, ← HN.out]; omega)⟩
            obtain ⟨bl0, bl1⟩ := HA3.out.bef.bound HG.out (by rw [← HN.out]; omega) hb
            have HBB := hid (And.intro hb hb2)
            obtain ⟨i4, hi4, hz4, hs4, hy4⟩ := info_parts Tryz.infoStep
            have hcell : stpC (Fo.stp i ⟨q, d.cost, f, d.to_⟩) = [.string (bs d.to_), .int .i64 d.cost, .int .i64 ((i : Int) + (f.length : Int))] := by unfold stpC Fo.stp; simp
            have HCELL := hid hcell
            clear hsl hv how hts hcell hb hb2
            go_upto_region 21 with (fail)
            refine wp_heldS (S := TwoS 15 15 (fun X => X.cell? ⟨W3.heap.size, i, none⟩ = some (.slice va sl vc)) (fun X => X.cell? ⟨wr.heap.size, 2, none⟩ = some (.string (bs d.to_)) ∧ X.cell? ⟨wr.heap.size, 3, none⟩ = some (.int .i64 d.cost))) (by kernel_rfl) ?_
            simp only [List.size_toArray, List.length_cons, List.length_nil, Nat.reduceAdd]
            intro hc
            have S0 : TwoS 15 15 (fun X => X.cell? ⟨W3.heap.size, i, none⟩ = some (.slice va sl vc)) (fun X => X.cell? ⟨wr.heap.size, 2, none⟩ = some (.string (bs d.to_)) ∧ X.cell? ⟨wr.heap.size, 3, none⟩ = some (.int .i64 d.cost)) (Array.replicate 16 false) A3.drew := ⟨.inr cS, .inr ⟨x2, x3⟩⟩
            refine wpAnyS_take (i := 0) (v := .slice (some ⟨W3.heap.size, 0, none⟩) n n) rfl (by kernel_rfl) (by kernel_rfl) (by kernel_rfl) (fun _ _ _ h => h) (fun _ _ => TwoS.set_ (by decide) (by decide) _ _) hc (by first | rfl | simp [Region.wanted]) (fun wx hx => ?_) S0 (fun hc S0 => ?_)
            ·go_simp
            try simp only [tk1, tk3, Act.put, tk4, tk5, tk6]
            refine wpAnyS_take (i := 1) (v := .int .i64 i) rfl (by kernel_rfl) (by kernel_rfl) (by kernel_rfl) (fun _ _ _ h => h) (fun _ _ => TwoS.set_ (by decide) (by decide) _ _) hc (by first | rfl | simp [Region.wanted]) (fun wx hx => ?_) S0 (fun hc S0 => ?_)
            ·go_simp
            try simp only [tk1, tk2, tk3, Act.put, tk4, tk5, tk6]
            refine wpAnyS_take (i := 2) (v := .slice (some ⟨W3.heap.size, 0, none⟩) n n) rfl (by kernel_rfl) (by kernel_rfl) (by kernel_rfl) (fun _ _ _ h => h) (fun _ _ => TwoS.set_ (by decide) (by decide) _ _) hc (by first | rfl | simp [Region.wanted]) (fun wx hx => ?_) S0 (fun hc S0 => ?_)
            ·go_simp
            try simp only [tk1, tk2, tk3, Act.put, tk4, tk5, tk6]
            refine wpAnyS_take (i := 3) (v := .int .i64 i) rfl (by kernel_rfl) (by kernel_rfl) (by kernel_rfl) (fun _ _ _ h => h) (fun _ _ => TwoS.set_ (by decide) (by decide) _ _) hc (by first | rfl | simp [Region.wanted]) (fun wx hx => ?_) S0 (fun hc S0 => ?_)
            ·go_simp
            try simp only [tk1, tk2, tk3, Act.put, tk4, tk5, tk6]
            refine wpAnyS_take (i := 4) (v := .pointer (some ⟨W3.heap.size, i, none⟩)) rfl (by kernel_rfl) (by kernel_rfl) (by kernel_rfl) (fun _ _ _ h => h) (fun _ _ => TwoS.set_ (by decide) (by decide) _ _) hc (by first | rfl | simp [Region.wanted]) (fun wx hx => ?_) S0 (fun hc S0 => ?_)
            ·go_simp
            try simp only [tk1, tk2, tk3, Act.put, tk4, tk5, tk6]
            refine wpAnyS_take (i := 5) (v := .slice va sl vc) rfl (by kernel_rfl) (by kernel_rfl) (by kernel_rfl) (fun _ _ _ h => h) (fun _ _ => TwoS.set_ (by decide) (by decide) _ _) hc (by first | rfl | simp [Region.wanted]) (fun wx hx => ?_) S0 (fun hc S0 => ?_)
            ·have y1 := hx.left (by kernel_rfl)
             go_simp
            try simp only [tk1, tk2, tk3, Act.put, tk4, tk5, tk6]
            refine wpAnyS_take (i := 6) (v := .pointer (some ⟨wr.heap.size, 2, none⟩)) rfl (by kernel_rfl) (by kernel_rfl) (by kernel_rfl) (fun _ _ _ h => h) (fun _ _ => TwoS.set_ (by decide) (by decide) _ _) hc (by first | rfl | simp [Region.wanted]) (fun wx hx => ?_) S0 (fun hc S0 => ?_)
            ·go_simp
            try simp only [tk1, tk2, tk3, Act.put, tk4, tk5, tk6]
            refine wpAnyS_take (i := 7) (v := .string (bs d.to_)) rfl (by kernel_rfl) (by kernel_rfl) (by kernel_rfl) (fun _ _ _ h => h) (fun _ _ => TwoS.set_ (by decide) (by decide) _ _) hc (by first | rfl | simp [Region.wanted]) (fun wx hx => ?_) S0 (fun hc S0 => ?_)
            ·obtain ⟨y1, y2⟩ := hx.right (by kernel_rfl)
             go_simp
            try simp only [tk1, tk2, tk3, Act.put, tk4, tk5, tk6]
            refine wpAnyS_take (i := 8) (v := .pointer (some ⟨wr.heap.size, 3, none⟩)) rfl (by kernel_rfl) (by kernel_rfl) (by kernel_rfl) (fun _ _ _ h => h) (fun _ _ => TwoS.set_ (by decide) (by decide) _ _) hc (by first | rfl | simp [Region.wanted]) (fun wx hx => ?_) S0 (fun hc S0 => ?_)
            ·go_simp
            try simp only [tk1, tk2, tk3, Act.put, tk4, tk5, tk6]
            refine wpAnyS_take (i := 9) (v := .int .i64 d.cost) rfl (by kernel_rfl) (by kernel_rfl) (by kernel_rfl) (fun _ _ _ h => h) (fun _ _ => TwoS.set_ (by decide) (by decide) _ _) hc (by first | rfl | simp [Region.wanted]) (fun wx hx => ?_) S0 (fun hc S0 => ?_)
            ·obtain ⟨y1, y2⟩ := hx.right (by kernel_rfl)
             go_simp
            try simp only [tk1, tk2, tk3, Act.put, tk4, tk5, tk6]
            refine wpAnyS_take (i := 10) (v := .int .i64 ((i : Int) + (f.length : Int))) rfl (by kernel_rfl) (by kernel_rfl) (by kernel_rfl) (fun _ _ _ h => h) (fun _ _ => TwoS.set_ (by decide) (by decide) _ _) hc (by first | rfl | simp [Region.wanted]) (fun wx hx => ?_) S0 (fun hc S0 => ?_)
            ·go_simp
            try simp only [tk1, tk2, tk3, Act.put, tk4, tk5, tk6]
            refine wpAnyS_take (i := 11) (v := .agg #[.string (bs d.to_), .int .i64 d.cost, .int .i64 ((i : Int) + (f.length : Int))]) rfl (by kernel_rfl) (by kernel_rfl) (by kernel_rfl) (fun _ _ _ h => h) (fun _ _ => TwoS.set_ (by decide) (by decide) _ _) hc (by first | rfl | simp [Region.wanted]) (fun wx hx => ?_) S0 (fun hc S0 => ?_)
            ·go_simp
            try simp only [tk1, tk2, tk3, Act.put, tk4, tk5, tk6]
            refine wpAnyS_one (i := 12) rfl (by kernel_rfl) (by rfl) hc (fun K' hK => ?_)
            go_simp
            have r1 := (World.cell?_alloc_lt A3 (.cells #[.string (bs d.to_), .int .i64 d.cost, .int .i64 ((i : Int) + (f.length : Int))] 78) ⟨W3.heap.size, i, none⟩ cz).trans cS
            have r2 := (World.cell?_alloc_lt A3 (.cells #[.string (bs d.to_), .int .i64 d.cost, .int .i64 ((i : Int) + (f.length : Int))] 78) ⟨wr.heap.size, 2, none⟩ xz).trans x2
            have r3 := (World.cell?_alloc_lt A3 (.cells #[.string (bs d.to_), .int .i64 d.cost, .int .i64 ((i : Int) + (f.length : Int))] 78) ⟨wr.heap.size, 3, none⟩ xz).trans x3
            refine hK.out _ _ ⟨.inr r1, .inr ⟨r2, r3⟩⟩ (fun hc => ?_)
            clear hK K'
            try simp only [tk1, tk2, tk3, Act.put, tk4, tk5, tk6]
            have hown := (HOW.out.alloc (.cells #[.string (bs d.to_), .int .i64 d.cost, .int .i64 ((i : Int) + (f.length : Int))] 78)).drew
            refine wpAnyS_one (i := 13) rfl (by kernel_rfl) (by rfl) hc (fun K' hK => ?_)
            refine wp_append_at _ _ 76 rfl (W3.heap.size + 2) 78 i4 (.agg #[.string ⟨#[]⟩, .int .i64 0, .int .i64 0]) 3 32 Tryz.underlying76 hi4 hz4 hs4 hy4 rfl (by decide) _ _ _ rfl hown ⟨A3.heap.size, 0, none⟩ 1 1 [.string (bs d.to_), .int .i64 d.cost, .int .i64 ((i : Int) + (f.length : Int))] rfl rfl (cells_new rfl) (by simp [Value.oneCell']) (by unfold maxLen; omega) (by omega) (by have := HA3.out.b.lt; show _ ≤ (A3.alloc _).heap.size; rw [World.size_alloc]; omega) ?_
            intro v' w8 ho8 hg8 hn8
            obtain ⟨v8, c8, rfl⟩ := ownsRow_slice ho8
            have hX8 : Below A3.heap.size A3 (A3.alloc (.cells #[.string (bs d.to_), .int .i64 d.cost, .int .i64 ((i : Int) + (f.length : Int))] 78)).drew := ((Below.refl _ A3).alloc (Nat.le_refl _) _).drew
            have hkeep : ∀ (x : Nat) (oo : Obj), A3.heap[x]? = some oo → (∀ cs, oo ≠ .cells cs 78 (0, 0)) → w8.heap[x]? = some oo := fun x oo ho hn => by
             have h1 := (hX8.block x (Array.getElem?_eq_some_iff.1 ho).1).trans ho
             refine (hg8.block x (Array.getElem?_eq_some_iff.1 h1).1 (fun e => ?_)).trans h1
             obtain ⟨_, cs, h3⟩ := own_cells (ownsRow_below HOW.out hX8) e.symm
             rw [h1] at h3
             cases h3
             exact hn cs rfl
            have kS : Blk w8 W3.heap.size 76 vs := hkeep _ _ HA3.out.s (fun cs e => by cases e)
            have kB : Blk w8 (W3.heap.size + 1) 3 (intV B) := hkeep _ _ HA3.out.b (fun cs e => by cases e)
            have kX : Blk w8 wr.heap.size 34 [.int .i64 d.script, .string (bs d.from_), .string (bs d.to_), .int .i64 d.cost] := hkeep _ _ HX3.out (fun cs e => by cases e)
            have HFIT := hid (HA3.out.fit (v' := .slice v8 (sl + 1) c8) HG.out (by rw [← HN.out]; omega) HRM.out HFB.out (by rw [← HN.out]; exact hlt) HV.out hX8 hg8 (by
             rw [List.length_append, List.flatMap_append, ← HSL.out, List.flatMap_cons, HCELL.out, List.flatMap_nil, List.append_nil]
             exact ho8) hn8 HBB.out.1 HBB.out.2)
            have kc := kS.cell HV.out
            have kf := kS.frozen i
            have kz := kS.lt
            have HK8 := hid (And.intro kS (And.intro kB kX))
            clear hown ho8 hg8 hn8 hkeep kS kB kX r1 r2 r3
            have k2 := HK8.out.2.2.cell (j := 2) rfl
            have k3 := HK8.out.2.2.cell (j := 3) rfl
            refine hK.out _ _ ⟨.inr kc, .inr ⟨k2, k3⟩⟩ (fun hc => ?_)
            clear hK K'
            try simp only [tk1, tk2, tk3, Act.put, tk4, tk5, tk6]
            refine wpAnyS_one (i := 14) rfl (by kernel_rfl) (by rfl) hc (fun K' hK => ?_)
            go_simp
            refine hK.out _ _ ⟨.inr kc, .inr ⟨k2, k3⟩⟩ (fun hc => ?_)
            clear hK K'
            try simp only [tk1, tk2, tk3, Act.put, tk4, tk5, tk6]
            refine wpAnyS_one (i := 15) rfl (by kernel_rfl) (by rfl) hc (fun K' hK => ?_)
            go_simp
            refine hK.out _ _ ⟨.inl rfl, .inl rfl⟩ (fun hc => ?_)
            clear hK K'
            try simp only [tk1, tk2, tk3, Act.put, tk4, tk5, tk6]
            refine wpAnyS_done (by kernel_rfl) ?_ _
            clear hc S0 cS cz x2 x3 xz kc kf kz k2 k3 hi4 hz4 hs4 hy4
            obtain ⟨Y, hY⟩ : ∃ Y, Y = w8.setCell ⟨W3.heap.size, i, none⟩ (.slice v8 (sl + 1) c8) := ⟨_, rfl⟩
            have yB := hid (show Blk Y (W3.heap.size + 1) 3 (intV B) by rw [hY]; exact HK8.out.2.1.other (by omega) _)
            have yX := hid (show Blk Y wr.heap.size 34 [.int .i64 d.script, .string (bs d.from_), .string (bs d.to_), .int .i64 d.cost] by rw [hY]; exact HK8.out.2.2.other (by have := HA.out.s.lt; omega) _)
            have HFY := hid hY
            rw [← hY]
            have yc := yB.out.cell (intV_get HBB.out.1)
            have yc2 := yB.out.cell (intV_get HBB.out.2)
            have yf := yB.out.frozen (i + f.length)
            have yz := yB.out.lt
            have y3 := yX.out.cell (j := 3) rfl
            have ywz := yX.out.lt
            have s5 : ((i : Int) + (f.length : Int)).toNat = i + f.length := by omega
            have s6 : (0 : Int) ≤ (i : Int) + (f.length : Int) := by omega
            have s7 : (i : Int) + (f.length : Int) < (n : Int) + 1 := by omega
            have s8 : (i : Int) < (n : Int) + 1 := by omega
            have s9 : IntKind.i64.wrap (b + d.cost) = b + d.cost := IntWalk.i64_in _ (by unfold Fo.inf at bl1; omega)
            clear hY
            go_upto_region 22 with (fail)
            refine wp_heldS (S := TwoS 15 15 (fun X => X.cell? ⟨W3.heap.size + 1, i + f.length, none⟩ = some (.int .i64 b2) ∧ X.cell? ⟨W3.heap.size + 1, i, none⟩ = some (.int .i64 b)) (fun X => X.cell? ⟨wr.heap.size, 3, none⟩ = some (.int .i64 d.cost))) (by kernel_rfl) ?_
            simp only [List.size_toArray, List.length_cons, List.length_nil, Nat.reduceAdd]
            intro hc
            have S0 : TwoS 15 15 (fun X => X.cell? ⟨W3.heap.size + 1, i + f.length, none⟩ = some (.int .i64 b2) ∧ X.cell? ⟨W3.heap.size + 1, i, none⟩ = some (.int .i64 b)) (fun X => X.cell? ⟨wr.heap.size, 3, none⟩ = some (.int .i64 d.cost)) (Array.replicate 16 false) Y.drew := ⟨.inr ⟨yc2, yc⟩, .inr y3⟩
            refine wpAnyS_take (i := 0) (v := .slice (some ⟨W3.heap.size + 1, 0, none⟩) (n + 1) (n + 1)) rfl (by kernel_rfl) (by kernel_rfl) (by kernel_rfl) (fun _ _ _ h => h) (fun _ _ => TwoS.set_ (by decide) (by decide) _ _) hc (by first | rfl | simp [Region.wanted]) (fun wx hx => ?_) S0 (fun hc S0 => ?_)
            ·go_simp
            try simp only [tk1, tk3, Act.put, tk4, tk5, tk6]
            refine wpAnyS_take (i := 1) (v := .int .i64 ((i : Int) + (f.length : Int))) rfl (by kernel_rfl) (by kernel_rfl) (by kernel_rfl) (fun _ _ _ h => h) (fun _ _ => TwoS.set_ (by decide) (by decide) _ _) hc (by first | rfl | simp [Region.wanted]) (fun wx hx => ?_) S0 (fun hc S0 => ?_)
            ·go_simp
            try simp only [tk1, tk2, tk3, Act.put, tk4, tk5, tk6]
            refine wpAnyS_take (i := 2) (v := .slice (some ⟨W3.heap.size + 1, 0, none⟩) (n + 1) (n + 1)) rfl (by kernel_rfl) (by kernel_rfl) (by kernel_rfl) (fun _ _ _ h => h) (fun _ _ => TwoS.set_ (by decide) (by decide) _ _) hc (by first | rfl | simp [Region.wanted]) (fun wx hx => ?_) S0 (fun hc S0 => ?_)
            ·go_simp
            try simp only [tk1, tk2, tk3, Act.put, tk4, tk5, tk6]
            refine wpAnyS_take (i := 3) (v := .int .i64 ((i : Int) + (f.length : Int))) rfl (by kernel_rfl) (by kernel_rfl) (by kernel_rfl) (fun _ _ _ h => h) (fun _ _ => TwoS.set_ (by decide) (by decide) _ _) hc (by first | rfl | simp [Region.wanted]) (fun wx hx => ?_) S0 (fun hc S0 => ?_)
            ·go_simp
            try simp only [tk1, tk2, tk3, Act.put, tk4, tk5, tk6]
            refine wpAnyS_take (i := 4) (v := .pointer (some ⟨W3.heap.size + 1, i + f.length, none⟩)) rfl (by kernel_rfl) (by kernel_rfl) (by kernel_rfl) (fun _ _ _ h => h) (fun _ _ => TwoS.set_ (by decide) (by decide) _ _) hc (by first | rfl | simp [Region.wanted]) (fun wx hx => ?_) S0 (fun hc S0 => ?_)
            ·go_simp
            try simp only [tk1, tk2, tk3, Act.put, tk4, tk5, tk6]
            refine wpAnyS_take (i := 5) (v := .int .i64 b2) rfl (by kernel_rfl) (by kernel_rfl) (by kernel_rfl) (fun _ _ _ h => h) (fun _ _ => TwoS.set_ (by decide) (by decide) _ _) hc (by first | rfl | simp [Region.wanted]) (fun wx hx => ?_) S0 (fun hc S0 => ?_)
            ·obtain ⟨y1, y2⟩ := hx.left (by kernel_rfl)
             go_simp
            try simp only [tk1, tk2, tk3, Act.put, tk4, tk5, tk6]
            refine wpAnyS_take (i := 6) (v := .slice (some ⟨W3.heap.size + 1, 0, none⟩) (n + 1) (n + 1)) rfl (by kernel_rfl) (by kernel_rfl) (by kernel_rfl) (fun _ _ _ h => h) (fun _ _ => TwoS.set_ (by decide) (by decide) _ _) hc (by first | rfl | simp [Region.wanted]) (fun wx hx => ?_) S0 (fun hc S0 => ?_)
            ·go_simp
            try simp only [tk1, tk2, tk3, Act.put, tk4, tk5, tk6]
            refine wpAnyS_take (i := 7) (v := .int .i64 i) rfl (by kernel_rfl) (by kernel_rfl) (by kernel_rfl) (fun _ _ _ h => h) (fun _ _ => TwoS.set_ (by decide) (by decide) _ _) hc (by first | rfl | simp [Region.wanted]) (fun wx hx => ?_) S0 (fun hc S0 => ?_)
            ·go_simp
            try simp only [tk1, tk2, tk3, Act.put, tk4, tk5, tk6]
            refine wpAnyS_take (i := 8) (v := .pointer (some ⟨W3.heap.size + 1, i, none⟩)) rfl (by kernel_rfl) (by kernel_rfl) (by kernel_rfl) (fun _ _ _ h => h) (fun _ _ => TwoS.set_ (by decide) (by decide) _ _) hc (by first | rfl | simp [Region.wanted]) (fun wx hx => ?_) S0 (fun hc S0 => ?_)
            ·go_simp
            try simp only [tk1, tk2, tk3, Act.put, tk4, tk5, tk6]
            refine wpAnyS_take (i := 9) (v := .int .i64 b) rfl (by kernel_rfl) (by kernel_rfl) (by kernel_rfl) (fun _ _ _ h => h) (fun _ _ => TwoS.set_ (by decide) (by decide) _ _) hc (by first | rfl | simp [Region.wanted]) (fun wx hx => ?_) S0 (fun hc S0 => ?_)
            ·obtain ⟨y1, y2⟩ := hx.left (by kernel_rfl)
             go_simp
            try simp only [tk1, tk2, tk3, Act.put, tk4, tk5, tk6]
            refine wpAnyS_take (i := 10) (v := .pointer (some ⟨wr.heap.size, 3, none⟩)) rfl (by kernel_rfl) (by kernel_rfl) (by kernel_rfl) (fun _ _ _ h => h) (fun _ _ => TwoS.set_ (by decide) (by decide) _ _) hc (by first | rfl | simp [Region.wanted]) (fun wx hx => ?_) S0 (fun hc S0 => ?_)
            ·go_simp
            try simp only [tk1, tk2, tk3, Act.put, tk4, tk5, tk6]
            refine wpAnyS_take (i := 11) (v := .int .i64 d.cost) rfl (by kernel_rfl) (by kernel_rfl) (by kernel_rfl) (fun _ _ _ h => h) (fun _ _ => TwoS.set_ (by decide) (by decide) _ _) hc (by first | rfl | simp [Region.wanted]) (fun wx hx => ?_) S0 (fun hc S0 => ?_)
            ·have y1 := hx.right (by kernel_rfl)
             go_simp
            try simp only [tk1, tk2, tk3, Act.put, tk4, tk5, tk6]
            refine wpAnyS_take (i := 12) (v := .int .i64 (b + d.cost)) rfl (by kernel_rfl) (by kernel_rfl) (by kernel_rfl) (fun _ _ _ h => h) (fun _ _ => TwoS.set_ (by decide) (by decide) _ _) hc (by first | rfl | simp [Region.wanted]) (fun wx hx => ?_) S0 (fun hc S0 => ?_)
            ·go_simp
            try simp only [tk1, tk2, tk3, Act.put, tk4, tk5, tk6]
            refine wpAnyS_take (i := 13) (v := .int .i64 (min b2 (b + d.cost))) rfl (by kernel_rfl) (by kernel_rfl) (by kernel_rfl) (fun _ _ _ h => h) (fun _ _ => TwoS.set_ (by decide) (by decide) _ _) hc (by first | rfl | simp [Region.wanted]) (fun wx hx => ?_) S0 (fun hc S0 => ?_)
            ·go_simp
            try simp only [tk1, tk2, tk3, Act.put, tk4, tk5, tk6]
            refine wpAnyS_take (i := 14) (v := .pointer (some ⟨W3.heap.size + 1, i + f.length, none⟩)) rfl (by kernel_rfl) (by kernel_rfl) (by kernel_rfl) (fun _ _ _ h => h) (fun _ _ => TwoS.set_ (by decide) (by decide) _ _) hc (by first | rfl | simp [Region.wanted]) (fun wx hx => ?_) S0 (fun hc S0 => ?_)
            ·go_simp
            try simp only [tk1, tk2, tk3, Act.put, tk4, tk5, tk6]
            refine wpAnyS_one (i := 15) rfl (by kernel_rfl) (by rfl) hc (fun K' hK => ?_)
            go_simp
            refine hK.out _ _ ⟨.inl rfl, .inl rfl⟩ (fun hc => ?_)
            clear hK K'
            try simp only [tk1, tk2, tk3, Act.put, tk4, tk5, tk6]
            refine wpAnyS_done (by kernel_rfl) ?_ _
            clear hc S0
            go_wp2_with fail
            go_roundw
            case rel =>
             obtain ⟨vs', tss', hfin⟩ := HFIT.out
             rw [← HFY.out, ← HTK.out] at hfin
             exact ⟨q + 1, vs', tss', _, by omega, by go_num, hfin.step (Below.refl _ _).drew⟩
            case measure => simp [RowKit.intOf]; omega
          ·have gl : decide ((n : Int) < (i : Int) + (f.length : Int)) = true := decide_eq_true (by omega)
           have HFB := hid (show Al.fits L ⟨q, d.cost, f, d.to_⟩ i = false by
            unfold Al.fits
            rw [decide_eq_false (show ¬ i + f.length ≤ L.length by rw [← HN.out]; exact hle), Bool.false_and])
           go_wp2_with fail
           go_roundw
           case rel => exact ⟨q + 1, vs, tss, B, by omega, by go_num, by rw [HTK.out]; exact HA2.out.nofit HRM.out HFB.out⟩
           case measure => simp [RowKit.intOf]; omega
         ·have hne : ((d.script : Int) != k) = true := by simpa using hsc
          have HPS := hid (Fo.rules_pass HD.out hsc)
          clear hsc
          go_upto_region 17 with (fail)
          rw [← hA1]
          clear hA1 e0 e1 e2 e3
          go_wp2_with fail
          go_roundw
          case rel => exact ⟨q + 1, vs, tss, B, by omega, by go_num, by rw [HPS.out]; exact HAA.out⟩
          case measure => simp [RowKit.intOf]; omega
        ·have q1 : ¬ (q : Int) < (t.rules.length : Int) := by omega
         have HA2 := hid (show AInv W3 L rs (i + 1) [] vs tss B wr by
          have h := HA.out
          rw [List.take_of_length_le (by omega), ← HRS.out] at h
          exact h.next)
         go_wp2_with fail
         go_roundw
         case rel => exact ⟨i + 1, vs, tss, B, by omega, by go_num, HA2.out⟩
         case measure => simp [RowKit.intOf]; omega
      ·rename World => W4
       have i1 : ¬ (i : Int) < (n : Int) := by omega
       have HAE := hid (show AInv W3 L rs L.length [] vs tss B W4 by rw [← HN.out, show n = i by omega]; exact HA.out)
       have HBF := hid (Below.step HB3.out HA.out.below)
       obtain ⟨i5, hi5, hz5, hs5, hy5⟩ := info_parts Tryz.infoMapI
       have hmk3 : ∀ X : World, (Instr.makeSlice 79 (.int .i64 ((n : Int) + 1)) (.int .i64 ((n : Int) + 1))).run Tryz.prog X = .ok (.slice (some ⟨X.heap.size, 0, none⟩) (n + 1) (n + 1)) (X.alloc (.cells (Array.replicate (n + 1) (.map none)) 80)) :=
        fun X => make_one 79 80 i5 _ Tryz.underlying79 hi5 hz5 hs5 rfl (n + 1) (by rw [hy5]; omega) (by unfold maxLen; omega) X
       have hmm := @run_makeMap Tryz.prog
       obtain ⟨W6, hW6⟩ : ∃ W6, W6 = W4.alloc (.cells (Array.replicate (n + 1) (.map none)) 80) := ⟨_, rfl⟩
       have hz6 : W6.heap.size = W4.heap.size + 1 := by rw [hW6, World.size_alloc]
       have hE6 : Blk W6 W4.heap.size 80 (List.replicate (n + 1) (.map none)) := by rw [hW6]; exact Blk.rep W4 _ _ _
       have hb6 : Below W4.heap.size W4 W6 := by rw [hW6]; exact (Below.refl _ W4).alloc (Nat.le_refl _) _
       have hM6 : MapF (W6.alloc (.map #[] 0)) Tryz.prog 9 W6.heap.size 0 (numF fun _ => none) := by rw [numF_none]; exact MapF.made W6 _ _
       obtain ⟨W7, hput, hM7, hg7⟩ := hM6.put strF_keyed Tryz.underlying80 (by unfold maxLen; omega) (strF_key (s := bs []) (by unfold maxLen; simp [bs, ByteArray.size])) (putE_same (fun _ => none) [] 0) (putE_other (fun _ => none) [] 0)
       have hE7 : Blk W7 W4.heap.size 80 (List.replicate (n + 1) (.map none)) := (hE6.below ((Below.refl _ W6).alloc (Nat.le_refl _) _)).kept hg7 (fun e => by have := Option.some.inj e; omega)
       have hb7 : Below W4.heap.size W4 W7 := (hb6.alloc hb6.size (.map #[] 0)).grown hg7 (by rw [World.size_alloc]; omega) (fun r e => by cases e; omega)
       have hBI := hid (show BInv W4 L rs most L.length ((List.replicate (n + 1) (.map none)).set n (.map (some W6.heap.size))) (fun _ => Fo.lastE) (W7.setCell ⟨W4.heap.size, n, none⟩ (.map (some W6.heap.size))) by
        have hgs := grown_set W7 W4.heap.size n (.map (some W6.heap.size))
        refine ⟨hE7.set n _, by simp [HN.out], fun j h1 h2 => ?_, fun j h1 h2 => ?_, hb7.setCell (p := ⟨W4.heap.size, n, none⟩) (Nat.le_refl _) _⟩
        ·obtain rfl : j = n := by have := HN.out; omega
         refine ⟨W6.heap.size, 1, by rw [List.getElem?_set_self (by simp)], ?_, by omega, by omega⟩
         have h3 := hM7.kept hgs (fun e => by have := Option.some.inj e; omega)
         exact h3.congr fun x kl _ => by
          show numF Fo.lastE x = _
          have e : Fo.lastE = putE (fun _ => none) [] 0 := rfl
          rw [e]
        ·obtain rfl : j = L.length := by omega
         exact Fo.lastE_ok most)
       have e7c : W7.cell? ⟨W4.heap.size, n, none⟩ = some (.map none) := hE7.cell (by rw [List.getElem?_replicate, if_pos (by omega)])
       have e7f := hE7.frozen n
       have e7z := hE7.lt
       have n0 : (0 : Int) ≤ (n : Int) := by omega
       have n1 : (n : Int) < (n : Int) + 1 := by omega
       have HTS := hid (Fo.to_short HVV.out k)
       rw [← HRS.out] at HTS
       clear hi5 hz5 hs5 hy5 hE6 hb6 hM6 hM7 hg7 hE7 hb7 HA hz6
       have hput' : (Instr.mapUpdate 80 (.map (some W6.heap.size)) (.string ⟨#[]⟩) (.int .i64 0)).run Tryz.prog (W6.alloc (.map #[] 0)) = .ok () W7 := hput
       clear hput
       go_upto_region 26 with (fail)
       rw [← hW6]
       clear hmk3 hW6 i1
       go_wp2_with fail
       obtain ⟨W8, hW8⟩ : ∃ W8, W8 = W7.setCell ⟨W4.heap.size, n, none⟩ (.map (some W6.heap.size)) := ⟨_, rfl⟩
       have HBI := hid (show BInv W4 L rs most L.length ((List.replicate (n + 1) (.map none)).set n (.map (some W6.heap.size))) (fun _ => Fo.lastE) W8 by rw [hW8]; exact hBI.out)
       rw [← hW8]
       clear hBI hW8 hput' e7c e7f e7z
       go_loopw [21] (fun iv wx => ∃ (q : Nat) (v : Int) (ms : List Value) (E : Nat → List UInt8 → Option Int), q ≤ L.length ∧ iv = .int .i64 v ∧ v = (q : Int) - 1 ∧ Hid (BInv W4 L rs most q ms E wx)) (fun iv _ => (RowKit.intOf iv + 1).toNat)
       case atStart => exact ⟨L.length, _, _, _, Nat.le_refl _, rfl, by rw [HN.out], HBI.out⟩
       case round =>
        clear HBI
        obtain ⟨q, v, ms, E, hq, rfl, hvq, HB⟩ := hrel
        by_cases hq0 : 0 < q
        ·obtain ⟨p, rfl⟩ : ∃ p, q = p + 1 := ⟨q - 1, by omega⟩
         obtain rfl : v = (p : Int) := by omega
         rename World => Wb
         have hpl : p < L.length := hq
         have hnl := HN.out
         have p0 : (0 : Int) ≤ (p : Int) := by omega
         have p1 : (p : Int) < (n : Int) + 1 := by omega
         have p2 : (p : Int) < (n : Int) := by omega
         have HBG := hid (HB.out.begin_ hpl)
         have hbA : Below Wb.heap.size Wb (Wb.alloc (.map #[] 0)) := (Below.refl _ Wb).alloc (Nat.le_refl _) _
         have bE1 := HB.out.e.below hbA
         obtain ⟨mv, hmv⟩ : ∃ mv, ms[p]? = some mv := ⟨_, List.getElem?_eq_getElem (by rw [HB.out.ml]; omega)⟩
         have z1 := bE1.cell hmv
         have z2 := bE1.frozen p
         have z3 := bE1.lt
         clear bE1 hmv hbA hvq hnl
         go_upto_region 31 with (fail)
         obtain ⟨X2, hX2⟩ : ∃ X2, X2 = (Wb.alloc (.map #[] 0)).setCell ⟨W4.heap.size, p, none⟩ (.map (some Wb.heap.size)) := ⟨_, rfl⟩
         rw [← hX2] at HBG ⊢
         have HX2 := hid hX2
         clear hX2 z1 z2 z3
         obtain ⟨ts, hts⟩ : ∃ ts, tss[p]? = some ts := ⟨_, List.getElem?_eq_getElem (by rw [HAE.out.tl]; exact hpl)⟩
         obtain ⟨vp, hvp⟩ : ∃ vp, vs[p]? = some vp := ⟨_, List.getElem?_eq_getElem (by rw [HAE.out.g.len, HAE.out.tl]; exact hpl)⟩
         have hte := HAE.out.ts p ts hts
         rw [if_pos hpl] at hte
         have how := HAE.out.g.own p vp ts hvp hts
         obtain ⟨sa, sc, rfl⟩ := ownsRow_slice how
         have HSS := hid (show SlOf W4 (.slice sa ts.length sc) 3 stpC ts from SlOf.own how (fun _ _ => rfl))
         have HTE := hid hte
         have sS := (HAE.out.s.below HBG.out.1.below)
         have z1 := sS.cell hvp
         have z2 := sS.lt
         have htl80 : ts.length ≤ 80 := by
          rw [hte]
          unfold Fo.steps
          rw [List.length_map, HRS.out]
          exact Nat.le_trans (List.length_filter_le _ _) (Nat.le_trans (Al.rulesFrom_len _ _ _) hr80)
         obtain ⟨b, hb⟩ : ∃ b, B[p]? = some b := ⟨_, List.getElem?_eq_getElem (by rw [HAE.out.bef.len]; omega)⟩
         obtain ⟨bl0, bl1⟩ := HAE.out.bef.bound HG.out (by have := HN.out; omega) hb
         have HBA := hid (HAE.out.bef.all HG.out (by omega) hb)
         have HBV := hid hb
         clear hts hvp hte how sS hb
         go_wp2_with fail
         go_loopw [155] (fun iv wx => ∃ (r : Nat) (F : List UInt8 → Option Int) (nn : Nat), r ≤ ts.length ∧ iv = .int .i64 r ∧ Hid (CInv X2 Wb.heap.size (Fo.Cand E most b (ts.take r)) F nn wx)) (fun iv _ => ts.length - (RowKit.intOf iv).toNat)
         case atStart => exact ⟨0, fun _ => none, 0, Nat.zero_le _, rfl, HBG.out.2.1, by omega, holds_nil _ _ _ _, Tch.refl _ _⟩
         case round =>
          clear z1 z2
          obtain ⟨r, F, nn, hr, rfl, HC⟩ := hrel
          have HBW := hid (show Below W4.heap.size W4 wr from HBG.out.1.below.trans (HC.out.tch.below HBG.out.1.below.size (fun x (e : x = Wb.heap.size) => by have := HB.out.below.size; omega)))
          by_cases hrt : r < ts.length
          ·obtain ⟨s, hs⟩ : ∃ s, ts[r]? = some s := ⟨_, List.getElem?_eq_getElem hrt⟩
           have hsm : s ∈ Fo.steps L rs p := by rw [← HTE.out]; exact List.mem_of_getElem? hs
           obtain ⟨sf1, sf2, sf3, sf4⟩ := Fo.steps_fits HG.out hsm
           have HSM := hid (And.intro hs hsm)
           obtain ⟨sa', sc', es, -, -, ks⟩ := HSS.out.below HBW.out
           obtain ⟨g, o, rfl, hrow⟩ : ∃ g o, sa = some ⟨g, o, none⟩ ∧ RowOf wr g o 3 stpC ts := by
            have e1 : sa = sa' := by simpa using congrArg (fun v => match v with | Value.slice a _ _ => a | _ => none) es
            rw [e1]
            exact ks (by omega)
           have hc := hrow.2 r s hs
           have e0 := hc 0 _ rfl
           have e1 := hc 1 _ rfl
           have e2 := hc 2 _ rfl
           rw [Nat.add_zero] at e0
           have hg := hrow.1
           have r0 : (0 : Int) ≤ (r : Int) := by omega
           have r1 : (r : Int) < (ts.length : Int) := by omega
           obtain ⟨Y1, hY1⟩ : ∃ Y1, Y1 = wr.alloc (.cells #[.string (bs s.to_), .int .i64 s.cost, .int .i64 (s.next : Int)] 78) := ⟨_, rfl⟩
           have hbY : Below wr.heap.size wr Y1 := by rw [hY1]; exact (Below.refl _ wr).alloc (Nat.le_refl _) _
           have hzY : Y1.heap.size = wr.heap.size + 1 := by rw [hY1, World.size_alloc]
           have HXY := hid (show Blk Y1 wr.heap.size 78 [.string (bs s.to_), .int .i64 s.cost, .int .i64 (s.next : Int)] by rw [hY1]; exact Blk.new wr _ _)
           have HCY := hid (HC.out.step hbY)
           have HBY := hid (HBW.out.trans (hbY.mono HBW.out.size))
           have hmsz : W4.heap.size < Wb.heap.size := HB.out.e.lt
           have hwz : Wb.heap.size < wr.heap.size := HC.out.m.lt
           have HZZ := hid (And.intro hmsz (And.intro hwz hzY))
           obtain ⟨mn, n2, hmn, hMN, hn2, hmn4⟩ := HBG.out.1.maps s.next (by omega) sf2
           have hmnb := HBG.out.2.2 s.next mn (by omega) sf2 hmn
           have HMN := hid (show MapF Y1 Tryz.prog 9 mn n2 (numF (E s.next)) from (hMN.tch HC.out.tch (by show ¬ mn = Wb.heap.size; omega)).below hbY)
           have HEB := hid (show Blk Y1 W4.heap.size 80 (ms.set p (.map (some Wb.heap.size))) from (HBG.out.1.e.tch HC.out.tch (by show ¬ W4.heap.size = Wb.heap.size; omega)).below hbY)
           have HOK := hid (HBG.out.1.ok s.next (by omega) sf2)
           have HMB := hid (And.intro hmnb hmn4)
           have y1 := HXY.out.cell (j := 1) rfl
           have y2 := HXY.out.cell (j := 2) rfl
           have yz := HXY.out.lt
           have m0 := HEB.out.cell hmn
           have mz := HEB.out.lt
           have s0 : (0 : Int) ≤ (s.next : Int) := by omega
           have s1 : (s.next : Int) < (n : Int) + 1 := by have := HN.out; omega
           clear hc hrow hs hsm es ks hbY hMN hmn hmnb hmn4 hmsz hwz hzY
           go_upto_region 34 with (fail)
           rw [← hY1]
           clear hY1 e0 e1 e2 hg
           go_wp2_with (at_range; refine wpList_rangeN _ rfl _ 80 rfl 3 strF_keyed Tryz.underlying80 rfl HMN.out ?_; intro W9 lf0 cnt0 hcnt hR9 hlf hg9 hz9)
           try go_frame
           have hR0 : W4.heap.size < Y1.heap.size := by have := HZZ.out; omega
           obtain ⟨R0, hRR⟩ : ∃ R0, R0 = Y1.heap.size := ⟨_, rfl⟩
           rw [← hRR] at hR9 ⊢
           have HRR := hid hRR
           have HR9 := hid hR9
           have HLF := hid hlf
           have HD9 := hid (show DInv Y1 Wb.heap.size R0 (Fo.CandW E most b (ts.take r) s (doneL lf0)) F nn cnt0 W9 by
            refine ⟨HCY.out.m.kept hg9 (by simp), by have := HCY.out.le; omega, HCY.out.h.congr fun f c => ?_, Tch.of_grown hg9 (fun r e => by cases e)⟩
            constructor
            ·rintro (h | ⟨h1, y, e, h4, h5, h6⟩)
             ·exact h
             ·exfalso
              have hsh := (HOK.out.short HG.out HTS.out (by have := HN.out; omega) h5).1
              have h7 := HLF.out (.string (bs y)) _ (strF_key (by rw [bs_len]; unfold maxLen; omega)) (by rw [numF_isSome, h5]; rfl)
              unfold doneL at h4
              rw [h7] at h4
              cases h4
            ·exact fun h => .inl h)
           clear hR9 hlf hg9 hz9 hcnt hRR y1 y2 yz m0 mz s0 s1
           go_loopw [24] (fun _ wx => ∃ (lf : Value → Bool) (cnt : Nat) (F : List UInt8 → Option Int) (nn : Nat), MapR wx Tryz.prog 9 mn R0 n2 (numF (E s.next)) lf cnt ∧ Hid (DInv Y1 Wb.heap.size R0 (Fo.CandW E most b (ts.take r) s (doneL lf)) F nn cnt wx)) (fun _ wx => wx.rangeLeft mn R0)
           case atStart => exact ⟨lf0, cnt0, F, nn, HR9.out, HD9.out⟩
           case round =>
            rename World => wd
            clear HR9 HD9 HLF
            obtain ⟨lf, cnt, F', nn', hR, HD⟩ := hrel
            have HR := hid hR
            have hle := hR.left_eq
            clear hR
            have HBD := hid (show Below W4.heap.size W4 wd from HBY.out.trans (HD.out.tch.below HBY.out.size (fun x h => by rcases h with h | h; (have := HZZ.out; omega); (have := HRR.out; have := HZZ.out; omega))))
            go_wp2_with (at_next; refine wpList_nextM _ rfl _ rfl strF_keyed Value.string (fun _ _ h => strF_inv h) rfl HR.out ?_ ?_)
            ·intro hl0
             have HCD := hid (show Fo.Holds (Fo.Cand E most b (ts.take (r + 1))) F' by
              rw [take_next HSM.out.1]
              refine HD.out.h.congr fun f c => (Fo.candW_end (fun g d hgd => ?_) f c).symm
              have hsh := (HOK.out.short HG.out HTS.out (by have := HN.out; omega) hgd).1
              unfold doneL
              rw [hl0 _ _ (strF_key (by rw [bs_len]; unfold maxLen; omega))]
              rfl)
             have HTD := hid (show Tch (fun x => x = Wb.heap.size) X2 wd from HCY.out.tch.trans HD.out.tch (fun k hk hlt => by
              rcases hk with hk | hk
              ·exact hk
              ·have := HRR.out
               have := HCY.out.tch.size
               omega))
             have hE2 := HEB.out.tch HD.out.tch (by show ¬ (W4.heap.size = Wb.heap.size ∨ W4.heap.size = R0); have := HZZ.out; have := HRR.out; omega)
             have mc := hE2.cell (show (ms.set p (.map (some Wb.heap.size)))[p]? = some (.map (some Wb.heap.size)) by rw [List.getElem?_set_self (by rw [HB.out.ml]; omega)])
             have mz := hE2.lt
             have HMM := hid HD.out.m
             clear hE2 hl0
             obtain ⟨ksl, hks, hnd, hsm, hlen⟩ := HMM.out.lenEq strF_keyed Tryz.underlying9 Tryz.underlying80 (zero_int wd)
             by_cases h40 : 40000 < ksl.length
             ·have g1 : (40000 : Int) < (ksl.length : Int) := by omega
              have g2 : decide ((40000 : Int) < (ksl.length : Int)) = true := decide_eq_true g1
              have HMA := hid (show Fo.Many L rs most from Fo.many_ends HG.out HBA.out (fun f c h => ⟨h.1, Fo.cand_re HG.out (fun j h1 h2 => HBG.out.1.ok j (by omega) h2) (fun z hz => by rw [← HTE.out]; exact List.mem_of_mem_take hz) h⟩) HCD.out hnd (by omega) (fun f hf => by have := hsm f hf; rwa [numF_isSome] at this))
              clear hks hnd hsm
              go_wp2_with fail
              go_ret3
              exact ⟨Below.step HBF.out HBD.out, .inr ⟨HNE.out, HVV.out, .inl ⟨by rw [← HRS.out]; exact HMA.out, rfl⟩⟩⟩
             ·have g1 : ¬ (40000 : Int) < (ksl.length : Int) := by omega
              have g2 : decide ((40000 : Int) < (ksl.length : Int)) = false := decide_eq_false g1
              have HCI := hid (show CInv X2 Wb.heap.size (Fo.Cand E most b (ts.take (r + 1))) F' ksl.length wd from ⟨hks, by omega, HCD.out, HTD.out⟩)
              clear hks hnd hsm
              go_wp2_with fail
              go_roundw
              case rel => exact ⟨r + 1, F', _, by omega, by go_num, HCI.out⟩
              case measure => simp [RowKit.intOf]; omega
            ·intro x c kl wy cnt' hkl hlx hfx hmr hlt hgy hsy hen
             obtain ⟨d, hd, rfl⟩ : ∃ d, E s.next x.data.toList = some d ∧ c = .int .i64 d := by
              obtain ⟨d, h1, h2⟩ := Option.map_eq_some_iff.1 (show (E s.next x.data.toList).map (fun c => Value.int .i64 c) = some c from hfx)
              exact ⟨d, h1, h2.symm⟩
             obtain ⟨hxs, hd0, hd1⟩ := HOK.out.short HG.out HTS.out (by have := HN.out; omega) hd
             have hxz : x.size ≤ 3000 := hxs
             have HMR := hid (hmr (dropL lf (.string x)) (dropL_same _ _) (fun _ h => dropL_other h))
             have hmi : Wb.heap.size ≠ R0 := by have := HZZ.out; have := HRR.out; omega
             have HDY := hid (show DInv Y1 Wb.heap.size R0 (Fo.CandW E most b (ts.take r) s (doneL lf)) F' nn' cnt wy from
              ⟨HD.out.m.kept hgy (fun e => hmi (Option.some.inj e)), HD.out.le, HD.out.h, HD.out.tch.grown hgy (fun q e => by cases e; exact .inl (.inr rfl))⟩)
             have HBYy := hid (show Below W4.heap.size W4 wy from HBY.out.trans (HDY.out.tch.below HBY.out.size (fun x h => by rcases h with h | h; (have := HZZ.out; omega); (have := HRR.out; have := HZZ.out; omega))))
             have hXw := HXY.out.tch HDY.out.tch (by show ¬ (wr.heap.size = Wb.heap.size ∨ wr.heap.size = R0); have := HZZ.out; have := HRR.out; omega)
             have hEw := HEB.out.tch HDY.out.tch (by show ¬ (W4.heap.size = Wb.heap.size ∨ W4.heap.size = R0); have := HZZ.out; have := HRR.out; omega)
             have hBw := HAE.out.b.below HBYy.out
             have y0 := hXw.cell (j := 0) rfl
             have y1 := hXw.cell (j := 1) rfl
             have yz := hXw.lt
             have bc := hBw.cell (intV_get HBV.out)
             have bz := hBw.lt
             have mc := hEw.cell (show (ms.set p (.map (some Wb.heap.size)))[p]? = some (.map (some Wb.heap.size)) by rw [List.getElem?_set_self (by rw [HB.out.ml]; omega)])
             have mz := hEw.lt
             have HEW := hid hEw
             have w1 : IntKind.i64.wrap (d + s.cost) = d + s.cost := IntWalk.i64_in _ (by omega)
             have HSAME := hid (doneL_same lf x)
             have HOTH := hid (fun y h => doneL_other lf x y h)
             have HDD := hid hd
             have hbi : b ≤ 2147483647 := bl1
             clear hmr hkl hlx hfx hgy hXw hEw hBw hd
             by_cases hinf : (2147483647 : Int) ≤ b
             ·have g1 : decide ((2147483647 : Int) ≤ b) = true := decide_eq_true hinf
              have HFIN := hid (show DInv Y1 Wb.heap.size R0 (Fo.CandW E most b (ts.take r) s (doneL (dropL lf (.string x)))) F' nn' cnt' wy from
               ⟨HDY.out.m, by have := HDY.out.le; omega, HDY.out.h.congr (fun f c => Fo.candW_dear HDD.out (fun h => by have := h.1; unfold Fo.inf at this; omega) HSAME.out HOTH.out f c), HDY.out.tch⟩)
              clear hinf
              go_wp2_with fail
              go_roundw
              case rel => exact ⟨_, cnt', F', nn', HMR.out, HFIN.out⟩
              case measure => rw [HMR.out.left_eq, hle]; omega
             ·have g1 : decide ((2147483647 : Int) ≤ b) = false := decide_eq_false hinf
              have w2 : IntKind.i64.wrap (b + (d + s.cost)) = b + (d + s.cost) := IntWalk.i64_in _ (by omega)
              by_cases hmost : most < b + (d + s.cost)
              ·have g2 : decide (most < b + (d + s.cost)) = true := decide_eq_true hmost
               have HFIN := hid (show DInv Y1 Wb.heap.size R0 (Fo.CandW E most b (ts.take r) s (doneL (dropL lf (.string x)))) F' nn' cnt' wy from
                ⟨HDY.out.m, by have := HDY.out.le; omega, HDY.out.h.congr (fun f c => Fo.candW_dear HDD.out (fun h => by have := h.2; omega) HSAME.out HOTH.out f c), HDY.out.tch⟩)
               clear hinf hmost
               go_wp2_with fail
               go_roundw
               case rel => exact ⟨_, cnt', F', nn', HMR.out, HFIN.out⟩
               case measure => rw [HMR.out.left_eq, hle]; omega
              ·have g2 : decide (most < b + (d + s.cost)) = false := decide_eq_false hmost
               have HMORE := hid (fun f c => Fo.candW_more (ss := ts.take r) (most := most) HDD.out (show b < Fo.inf by unfold Fo.inf; omega) (by omega) HSAME.out HOTH.out f c)
               have hkx : bs s.to_ ++ x = bs (s.to_ ++ x.data.toList) := by rw [← bs_appF, bs_toList]
               have hst := (HTS.out : ∀ r ∈ rs, 0 < r.from_.length ∧ r.to_.length ≤ 3)
               have hs3 : (bs s.to_).size ≤ 3 := by
                obtain ⟨r', h1, h2, h3⟩ := Fo.steps_mem HSM.out.2
                rw [bs_len, h3]
                exact (hst r' h1).2
               have hks : (bs (s.to_ ++ x.data.toList)).size ≤ maxLen := by
                rw [← hkx, ByteArray.size_append]
                unfold maxLen
                omega
               have hsum : ¬ 9223372036854775807 < (bs s.to_).size + x.size := by omega
               have hsum2 : (bs s.to_).size + x.size ≤ 9223372036854775807 := by omega
               have hget := (show MapF wy.drew Tryz.prog 9 Wb.heap.size nn' (numF F') from HDY.out.m.below (Below.refl _ _).drew).getOk strF_keyed Tryz.underlying80 (zero_int wy.drew) (strF_key (s := bs (s.to_ ++ x.data.toList)) hks)
               have hval : numF F' (.string (bs (s.to_ ++ x.data.toList))) = (F' (s.to_ ++ x.data.toList)).map fun c => .int .i64 c := by rw [numF_bs]
               rw [hval] at hget
               clear hval hinf hmost hst hs3
               have HPUT := hid (show (∀ o, F' (s.to_ ++ x.data.toList) = some o → d + s.cost < o) → ∃ wz, (Instr.mapUpdate 80 (.map (some Wb.heap.size)) (.string (bs (s.to_ ++ x.data.toList))) (.int .i64 (d + s.cost))).run Tryz.prog wy.drew.drew = .ok () wz ∧ MapR wz Tryz.prog 9 mn R0 n2 (numF (E s.next)) (dropL lf (.string x)) cnt' ∧
                 DInv Y1 Wb.heap.size R0 (Fo.CandW E most b (ts.take r) s (doneL (dropL lf (.string x)))) (putE F' (s.to_ ++ x.data.toList) (d + s.cost)) (nn' + 1) cnt' wz from fun hn => by
                have hbd : Below wy.heap.size wy wy.drew.drew := (Below.refl _ wy).drew.drew
                obtain ⟨wz, hput, hMz, hgz⟩ := (show MapF wy.drew.drew Tryz.prog 9 Wb.heap.size nn' (numF F') from HDY.out.m.below hbd).put strF_keyed Tryz.underlying80 (by have := HDY.out.le; unfold maxLen; omega) (strF_key (s := bs (s.to_ ++ x.data.toList)) hks) (putE_same F' (s.to_ ++ x.data.toList) (d + s.cost)) (putE_other F' (s.to_ ++ x.data.toList) (d + s.cost))
                have hmb := HMB.out
                have hzz := HZZ.out
                have hrr := HRR.out
                refine ⟨wz, hput, ((HMR.out.kept (Below.grows hbd none) (by simp) (by simp) : MapR wy.drew.drew _ _ _ _ _ _ _ _)).kept hgz (fun e => by have := Option.some.inj e; omega) (fun e => by have := Option.some.inj e; omega), hMz, by have := HDY.out.le; omega, ?_, (HDY.out.tch.step hbd).grown hgz (fun q e => by cases e; exact .inl (.inl rfl))⟩
                refine (HDY.out.h.add_new (fun f c hc => (Fo.CandW.short HG.out HTS.out (by have := HN.out; omega) (fun j h1 h2 => HBG.out.1.ok j (by omega) h2) (fun z hz => by rw [← HTE.out]; exact List.mem_of_mem_take hz) HSM.out.2 hc).2.1) hn (by unfold putE; rw [if_pos rfl]) (fun f hf => by unfold putE; rw [if_neg hf])).congr HMORE.out)
               cases hF : F' (s.to_ ++ x.data.toList) with
               | none =>
                rw [hF] at hget
                simp only [Option.map_none, Option.getD_none, Option.isSome_none] at hget
                obtain ⟨wz, hput, hMRz, hDz⟩ := HPUT.out (fun o ho => by rw [hF] at ho; cases ho)
                have HFZ := hid (And.intro hMRz hDz)
                clear hF hMRz hDz
                go_upto_region 39 with (fail)
                go_region
                go_upto_region 41 with (fail)
                go_region
                go_wp2_with fail
                go_roundw
                case rel => exact ⟨_, cnt', _, _, HFZ.out.1, HFZ.out.2⟩
                case measure => rw [HFZ.out.1.left_eq, hle]; omega
               | some o' =>
                rw [hF] at hget
                simp only [Option.map_some, Option.getD_some, Option.isSome_some] at hget
                by_cases hlt2 : d + s.cost < o'
                ·have g3 : decide (d + s.cost < o') = true := decide_eq_true hlt2
                 obtain ⟨wz, hput, hMRz, hDz⟩ := HPUT.out (fun o ho => by rw [hF] at ho; cases ho; exact hlt2)
                 have HFZ := hid (And.intro hMRz hDz)
                 clear hF hMRz hDz hlt2
                 go_upto_region 39 with (fail)
                 go_region
                 go_upto_region 41 with (fail)
                 go_region
                 go_wp2_with fail
                 go_roundw
                 case rel => exact ⟨_, cnt', _, _, HFZ.out.1, HFZ.out.2⟩
                 case measure => rw [HFZ.out.1.left_eq, hle]; omega
                ·have g3 : decide (d + s.cost < o') = false := decide_eq_false hlt2
                 have HFIN := hid (show DInv Y1 Wb.heap.size R0 (Fo.CandW E most b (ts.take r) s (doneL (dropL lf (.string x)))) F' nn' cnt' wy.drew from
                  ⟨HDY.out.m.below (Below.refl _ _).drew, by have := HDY.out.le; omega, (HDY.out.h.add_old hF (by omega)).congr HMORE.out, HDY.out.tch.step (Below.refl _ _).drew⟩)
                 have HMR2 := hid (show MapR wy.drew Tryz.prog 9 mn R0 n2 (numF (E s.next)) (dropL lf (.string x)) cnt' from HMR.out.kept (Below.grows (Below.refl wy.heap.size wy).drew none) (by simp) (by simp))
                 clear hF hlt2
                 go_upto_region 39 with (fail)
                 go_region
                 go_wp2_with fail
                 go_roundw
                 case rel => exact ⟨_, cnt', F', nn', HMR2.out, HFIN.out⟩
                 case measure => rw [HMR2.out.left_eq, hle]; omega
          ·have r1 : ¬ (r : Int) < (ts.length : Int) := by omega
           have HNX := hid (show BInv W4 L rs most p (ms.set p (.map (some Wb.heap.size))) (fun j => if j = p then F else E j) wr by
            refine HBG.out.1.end_ HC.out (by rw [List.getElem?_set_self (by rw [HB.out.ml]; omega)]) (by have := HB.out.e.lt; omega) (fun j m h1 h2 hm => by have := HBG.out.2.2 j m h1 h2 hm; omega) ?_
            have h := HC.out.h
            rw [List.take_of_length_le (by omega), HTE.out] at h
            exact Fo.ends_ok HG.out (by have := HN.out; omega) hpl (fun j h1 h2 => HB.out.ok j h1 h2) HBA.out h)
           go_wp2_with fail
           go_roundw
           case rel => exact ⟨p, (p : Int) - 1, _, _, by omega, by go_num, rfl, HNX.out⟩
           case measure => simp [RowKit.intOf]
        ·obtain rfl : q = 0 := by omega
         obtain rfl : v = -1 := by omega
         obtain ⟨m0, n2, hm0, hMF, hn2, -⟩ := HB.out.maps 0 (Nat.le_refl _) (Nat.zero_le _)
         have h0L : 0 < L.length := List.length_pos_iff.2 HNE.out
         have HOK0 := hid (HB.out.ok 0 (Nat.le_refl _) (Nat.zero_le _))
         obtain ⟨D, hD1, hD2, hD3, hD4, hD5, hD6⟩ := hMF.keys strF_keyed Tryz.underlying9 Tryz.underlying80 (zero_int wr)
         have hsz := hD1.size_le
         have m1 := HB.out.e.cell hm0
         have mz := HB.out.e.lt
         have n1 : (0 : Int) < (n : Int) + 1 := by omega
         have HSK := hid (sorted_keys m0 n2 D readV wr hD1 (by unfold maxLen; omega) (by omega))
         have HDD := hid (And.intro hD3 (And.intro hD4 (And.intro hD5 hD6)))
         have HM0 := hid (And.intro hMF hm0)
         have HSZ := hid hsz
         clear hD1 hD2 hD3 hD4 hD5 hD6 hMF hm0 hvq hq hsz
         go_wp2_with fail
         refine (maps_keys _ _).mono ?_
         rintro e V1 ⟨rfl, rfl⟩
         go_wp2_with fail
         refine (HSK.out).mono ?_
         rintro e V2 ⟨v, ss, rfl, hperm, hrow, -, hb⟩
         obtain ⟨oa, oc, rfl⟩ := ownsRow_slice hrow
         have HBV2 := hid (show Below wr.heap.size wr V2 from ((Below.refl _ wr).alloc (Nat.le_refl _) _).trans (hb.mono (by rw [World.size_alloc]; omega)))
         obtain ⟨out, hout⟩ : ∃ out, out = ss.mergeSort (fun x y => decide (x ≤ y)) := ⟨_, rfl⟩
         have hol : out.length = ss.length := by rw [hout]; exact Fo.sorted_len ss
         have hssn : ss.Nodup := (hperm.nodup_iff).2 HDD.out.1
         have HLT := hid (show out.Pairwise Fo.lt by rw [hout]; exact Fo.sorted_lt hssn)
         have HND := hid (show out.Nodup by rw [hout]; exact ((List.mergeSort_perm ss _).nodup_iff).2 hssn)
         have HMEM := hid (show ∀ f, f ∈ out ↔ (E 0 f).isSome = true by
          intro f
          rw [hout, Fo.sorted_mem, hperm.mem_iff]
          by_cases hfl : f.length ≤ maxLen
          ·rw [HDD.out.2.2.2 f hfl, numF_isSome]
          ·constructor
           ·intro h
            exact absurd (HDD.out.2.2.1 f h) hfl
           ·intro h
            obtain ⟨c, hc⟩ := Option.isSome_iff_exists.1 h
            have := (HOK0.out.short HG.out HTS.out (by have := HN.out; omega) hc).1
            exfalso
            unfold maxLen at hfl
            omega)
         have hrow2 : V2.ownsRow (wr.alloc (.cells #[.map (some m0)] 80)).heap.size 9 1 (.slice oa ss.length oc) ss.length (out.flatMap strC) := by
          rw [hout, flat_str]
          exact hrow
         have hs4 : ss.length ≤ 40000 := by
          have h1 := hperm.length_eq
          rw [HDD.out.2.1] at h1
          have := HSZ.out
          omega
         rw [← hol] at hrow2 hs4 ⊢
         have HSO := hid (show SlOf V2 (.slice oa out.length oc) 1 strC out from SlOf.own hrow2 (fun _ _ => rfl))
         have HBW2 := hid (show Below W4.heap.size W4 V2 from HB.out.below.trans (HBV2.out.mono HB.out.below.size))
         have HM2 := hid (HM0.out.1.below HBV2.out)
         have HE2 := hid (HB.out.e.below HBV2.out)
         clear hrow hb hperm hssn hout hrow2 HSK m1 mz
         by_cases h1k : 1000 < out.length
         ·have g1 : (1000 : Int) < (out.length : Int) := by omega
          have HMA := hid (show Fo.Many L rs most from Fo.many_out HG.out h0L HOK0.out HND.out HMEM.out h1k)
          go_wp2_with fail
          go_ret3
          exact ⟨Below.step HBF.out HBW2.out, .inr ⟨HNE.out, HVV.out, .inl ⟨by rw [← HRS.out]; exact HMA.out, rfl⟩⟩⟩
         ·have g1 : ¬ (1000 : Int) < (out.length : Int) := by omega
          obtain ⟨i6, hi6, hz6, hs6, hy6⟩ := info_parts Tryz.infoIntF
          go_wp2_with fail
          go_loopw [29, 234] (fun ov iv wx => ∃ (q : Nat) (mv : Value) (cs : List Int), q ≤ out.length ∧ iv = .int .i64 q ∧ mv = ov ∧ cs.length = q ∧ Hid (wx.ownsRow V2.heap.size 3 1 mv cs.length (cs.flatMap numC) ∧ (∀ (j : Nat) (f : List UInt8), j < q → out[j]? = some f → cs[j]? = E 0 f) ∧ Below V2.heap.size V2 wx)) (fun _ iv _ => out.length - (RowKit.intOf iv).toNat)
          case atStart => exact ⟨0, _, [], Nat.zero_le _, rfl, rfl, rfl, World.ownsRow_nil _ _ _ _, fun j f h => by omega, Below.refl _ _⟩
          case round =>
           obtain ⟨q, ov, cs, hq, rfl, rfl, hcl, HC⟩ := hrel
           rename World => wc
           obtain ⟨ua, uc, rfl⟩ := ownsRow_slice HC.out.1
           by_cases hqt : q < out.length
           ·obtain ⟨f, hf⟩ : ∃ f, out[q]? = some f := ⟨_, List.getElem?_eq_getElem hqt⟩
            obtain ⟨c, hc⟩ := Option.isSome_iff_exists.1 ((HMEM.out f).1 (List.mem_of_getElem? hf))
            have hfs := (HOK0.out.short HG.out HTS.out (by have := HN.out; omega) hc).1
            obtain ⟨oa', oc', eo, -, -, ko⟩ := HSO.out.below HC.out.2.2
            obtain ⟨g, o, rfl, hrw⟩ : ∃ g o, oa = some ⟨g, o, none⟩ ∧ RowOf wc g o 1 strC out := by
             have e1 : oa = oa' := by simpa using congrArg (fun v => match v with | Value.slice a _ _ => a | _ => none) eo
             rw [e1]
             exact ko (by omega)
            have e0 := hrw.2 q f hf 0 _ rfl
            rw [Nat.mul_one, Nat.add_zero] at e0
            have hg := hrw.1
            have q0 : (0 : Int) ≤ (q : Int) := by omega
            have q1 : (q : Int) < (out.length : Int) := by omega
            have m1 := (HE2.out.below HC.out.2.2).cell HM0.out.2
            have mz := (HE2.out.below HC.out.2.2).lt
            have hget := (HM2.out.below HC.out.2.2).get strF_keyed Tryz.underlying80 (zero_int wc) (strF_key (s := bs f) (by rw [bs_len]; unfold maxLen; omega))
            rw [numF_bs, hc] at hget
            simp only [Option.map_some, Option.getD_some] at hget
            have hown2 := HC.out.1.alloc (.cells #[.int .i64 c] 3)
            have hz2' := HC.out.2.2.size
            have HFC := hid (And.intro hf hc)
            clear hf hc eo ko hrw
            go_wp2_with (at_builtin; refine wpList_append_own _ rfl _ _ 35 rfl V2.heap.size 3 i6 (.int .i64 0) 1 8 Tryz.underlying35 hi6 hz6 hs6 hy6 rfl (by decide) _ _ _ rfl hown2 ⟨wc.heap.size, 0, none⟩ 1 1 [.int .i64 c] rfl rfl (cells_new rfl) (by simp [Value.oneCell']) (by unfold maxLen; omega) (by omega) (by simp; omega) ?_; intro v' w4 ho4 hg4 _)
            go_roundw
            case rel =>
             refine ⟨q + 1, _, cs ++ [c], by omega, by go_num, rfl, by rw [List.length_append, hcl]; rfl, ?_, fun j f' hj hf' => ?_, Below.appended (HC.out.2.2.alloc hz2' _) hg4 (by simp; omega) hown2⟩
             ·rw [List.length_append, List.flatMap_append]
              exact ho4
             ·by_cases hjq : j < q
              ·rw [List.getElem?_append_left (by omega)]
               exact HC.out.2.1 j f' hjq hf'
              ·obtain rfl : j = q := by omega
               rw [HFC.out.1] at hf'
               cases hf'
               rw [List.getElem?_append_right (by omega), hcl, Nat.sub_self, HFC.out.2]
               rfl
            case measure => simp [RowKit.intOf]; omega
           ·have q1 : ¬ (q : Int) < (out.length : Int) := by omega
            have HFO := hid (show Fo.Forms Fo.lt L rs most out cs from Fo.forms_of HG.out h0L HOK0.out HLT.out HMEM.out (by omega) (by omega) (fun j f hf => HC.out.2.1 j f (by have := (List.getElem?_eq_some_iff.1 hf).1; omega) hf))
            have HS1 := hid (HSO.out.below HC.out.2.2)
            have HS2 := hid (show SlOf wc (.slice ua cs.length uc) 1 numC cs from SlOf.own HC.out.1 (fun _ _ => rfl))
            have HBZ := hid (Below.step HBF.out (Below.step HBW2.out HC.out.2.2))
            clear hi6 hz6 hs6 hy6
            go_wp2_with fail
            go_ret3
            exact ⟨HBZ.out, .inr ⟨HNE.out, HVV.out, .inr ⟨_, _, rfl, out, by rw [← hol]; exact HS1.out, cs, by rw [← hcl]; exact HS2.out, by rw [← HRS.out]; exact HFO.out⟩⟩⟩

end Go.Proofs.YtdchjacccmajcaaGreatDoor
