/-
  rewrite.Valid. Conditions: lengths; the library's tables.
-/
import Derived.Test.YtdchjacccmajcaaGreatDoorZRew2
namespace Go.Proofs.YtdchjacccmajcaaGreatDoor
open Go.RowKit Go.Lib Go.Maps

def ruleCells (r : Rw.Rule) : List Value := [.int .i64 r.script, .string (bs r.from_), .string (bs r.to_), .int .i64 r.cost]
def RuleFits (r : Rw.Rule) : Prop := (Lit.int .i64 r.script).wf = true ∧ r.from_.length ≤ 1000 ∧ r.to_.length ≤ 1000

/-- a table's value, its slices in memory -/
structure TableAt (w : World) (t : Rw.Table) (v : Value) : Prop where
  at_ : ∃ vr vd ve, v = .agg #[vr, vd, ve, .int .i64 t.drop, .int .i64 t.order, .int .i64 t.initial] ∧ SlOf w vr 4 ruleCells t.rules ∧ SlOf w vd 3 dropCells t.drops ∧ SlOf w ve 3 dropCells t.ends
  rules : ∀ r ∈ t.rules, RuleFits r
  drops : ∀ d ∈ t.drops, DropFits d
  ends : ∀ d ∈ t.ends, DropFits d
  few : t.rules.length ≤ 1000000 ∧ t.drops.length ≤ 1000000 ∧ t.ends.length ≤ 1000000

theorem TableAt.below {w w' : World} {t : Rw.Table} {v : Value} (h : TableAt w t v) (hb : Below w.heap.size w w') : TableAt w' t v := by
  obtain ⟨⟨vr, vd, ve, e, h1, h2, h3⟩, h4, h5, h6, h7⟩ := h
  exact ⟨⟨vr, vd, ve, e, h1.below hb, h2.below hb, h3.below hb⟩, h4, h5, h6, h7⟩

set_option maxRecDepth 100000 in
set_option maxHeartbeats 4000000 in
theorem valid_any (t : Rw.Table) (v : Value) (w : World) (ht : TableAt w t v) (hT : Tabs w) : Calls Tryz.prog 15 #[v] w (Gives (.bool (Rw.valid t)) w) := by
  obtain ⟨⟨vr, vd, ve, rfl, sr, sd, se⟩, fr, fd, fe, hl1, hl2, hl3⟩ := ht
  obtain ⟨a, cap, rfl, h1, h2, h3⟩ := sr
  have hR := hid h3
  have hF := hid fr
  have hD := hid (And.intro sd fd)
  have hE := hid (And.intro se fe)
  have hTT := hid hT
  have hmm := @run_makeMap Tryz.prog
  clear h3 fr sd fd se fe hT
  obtain ⟨w1, hw1⟩ : ∃ w1, w1 = w.alloc (.cells #[.slice a t.rules.length cap, vd, ve, .int .i64 t.drop, .int .i64 t.order, .int .i64 t.initial] 25) := ⟨_, rfl⟩
  have hb1 : Below w.heap.size w w1 := by rw [hw1]; exact (Below.refl _ w).alloc (Nat.le_refl _) _
  have X : ∀ j u, ([.slice a t.rules.length cap, vd, ve, .int .i64 t.drop, .int .i64 t.order, .int .i64 t.initial] : List Value)[j]? = some u → w1.cell? ⟨w.heap.size, j, none⟩ = some u := fun j u hu => by
    have h := cells_new (w := w) (n := w.heap.size) (t := 25) rfl j u hu
    rw [addr_at] at h
    rw [hw1]; exact h
  have hn1 : w.heap.size < w1.heap.size := by rw [hw1]; simp
  have x0 := X 0 _ rfl
  have x1 := X 1 _ rfl
  have x2 := X 2 _ rfl
  have x3 := X 3 _ rfl
  have x4 := X 4 _ rfl
  have x5 := X 5 _ rfl
  have HX := hid X
  clear X
  by_cases z0 : t.rules.length = 0
  · have hno := hid (show Rw.valid t = false by unfold Rw.valid; rw [decide_eq_false (by simpa using List.length_eq_zero_iff.1 z0)]; rfl)
    rw [z0] at *
    go_enter Tryz.func15, Tryz.ntmps15
    go_wp2
    go_ret
    exact ⟨ret_bool hno.out.symm, (Below.refl _ w).alloc (Nat.le_refl _) _⟩
  have z0' : (0 : Int) < (t.rules.length : Int) := by omega
  have hne := hid (show t.rules ≠ [] from fun e => z0 (by rw [e]; rfl))
  by_cases z1 : t.rules.length ≤ 80
  case neg =>
    have hno := hid (show Rw.valid t = false by unfold Rw.valid; rw [decide_eq_false z1]; simp)
    have z1' : (80 : Int) < (t.rules.length : Int) := by omega
    go_enter Tryz.func15, Tryz.ntmps15
    go_wp2
    go_ret
    rw [← hw1]
    exact ⟨ret_bool hno.out.symm, hb1⟩
  have z1' : (t.rules.length : Int) ≤ 80 := by omega
  have z1h := hid z1
  have z2' : ((t.rules.length : Int) == 0) = false := by rw [beq_eq_false_iff_ne]; omega
  have z3' : ¬ (80 : Int) < (t.rules.length : Int) := by omega
  cases c1 : Rw.isCost t.drop with
  | false =>
    have hno := hid (show Rw.valid t = false by unfold Rw.valid; rw [c1]; simp)
    have HC := hid (isCost_any t.drop w1)
    rw [c1] at HC
    go_enter Tryz.func15, Tryz.ntmps15
    go_wp2_with fail
    rw [← hw1]
    have HW1 := hid hw1
    clear hw1
    refine (HC.out).mono ?_
    rintro e w2 ⟨rfl, rfl⟩
    go_wp2
    go_ret
    exact ⟨ret_bool hno.out.symm, hb1⟩
  | true =>
  cases c2 : Rw.isCost t.order with
  | false =>
    have hno := hid (show Rw.valid t = false by unfold Rw.valid; rw [c2]; simp)
    have HC := hid (isCost_any t.drop w1)
    rw [c1] at HC
    have HC2 := hid (isCost_any t.order w1)
    rw [c2] at HC2
    go_enter Tryz.func15, Tryz.ntmps15
    go_wp2_with fail
    rw [← hw1]
    have HW1 := hid hw1
    clear hw1
    refine (HC.out).mono ?_
    rintro e w2 ⟨rfl, rfl⟩
    go_wp2_with fail
    refine (HC2.out).mono ?_
    rintro e w2 ⟨rfl, rfl⟩
    go_wp2
    go_ret
    exact ⟨ret_bool hno.out.symm, hb1⟩
  | true =>
  cases c3 : Rw.isCost t.initial with
  | false =>
    have hno := hid (show Rw.valid t = false by unfold Rw.valid; rw [c3]; simp)
    have HC := hid (isCost_any t.drop w1)
    rw [c1] at HC
    have HC2 := hid (isCost_any t.order w1)
    rw [c2] at HC2
    have HC3 := hid (isCost_any t.initial w1)
    rw [c3] at HC3
    go_enter Tryz.func15, Tryz.ntmps15
    go_wp2_with fail
    rw [← hw1]
    have HW1 := hid hw1
    clear hw1
    refine (HC.out).mono ?_
    rintro e w2 ⟨rfl, rfl⟩
    go_wp2_with fail
    refine (HC2.out).mono ?_
    rintro e w2 ⟨rfl, rfl⟩
    go_wp2_with fail
    refine (HC3.out).mono ?_
    rintro e w2 ⟨rfl, rfl⟩
    go_wp2
    go_ret
    exact ⟨ret_bool hno.out.symm, hb1⟩
  | true =>
  have hv0 := hid (show Rw.valid t = (Rw.allOk Rw.ruleOk Rw.Rule.key t.rules [] && Rw.dropsOk t.drops 12 && Rw.dropsOk t.ends 4) by
    unfold Rw.valid; rw [c1, c2, c3, decide_eq_true hne.out, decide_eq_true z1]; simp)
  have HC := hid (isCost_any t.drop w1)
  rw [c1] at HC
  have HC2 := hid (isCost_any t.order w1)
  rw [c2] at HC2
  have HC3 := hid (isCost_any t.initial w1)
  rw [c3] at HC3
  clear c1 c2 c3
  go_enter Tryz.func15, Tryz.ntmps15
  go_wp2_with fail
  rw [← hw1]
  have HW1 := hid hw1
  clear hw1
  refine (HC.out).mono ?_
  rintro e w2 ⟨rfl, rfl⟩
  go_wp2_with fail
  refine (HC2.out).mono ?_
  rintro e w2 ⟨rfl, rfl⟩
  go_wp2_with fail
  refine (HC3.out).mono ?_
  rintro e w2 ⟨rfl, rfl⟩
  go_wp2
  have hM0 := (MapF.made w1 Tryz.prog 70)
  go_loopw [39] (fun i wr => ∃ k : Nat, k ≤ t.rules.length ∧ i = .int .i64 k ∧ Hid (MapF wr Tryz.prog 70 w1.heap.size k (seenF ((t.rules.take k).map Rw.Rule.key))) ∧ Below w1.heap.size w1 wr ∧ Hid (Rw.allOk Rw.ruleOk Rw.Rule.key (t.rules.take k) [] = true)) (fun i _ => t.rules.length - (intOf i).toNat)
  case atStart => exact ⟨0, Nat.zero_le _, rfl, hM0.congr (fun x _ _ => by simp [seenF]), (Below.refl _ _).alloc (Nat.le_refl _) _, rfl⟩
  case round =>
    obtain ⟨k, hk, rfl, hM, hbr, hA⟩ := hrel
    by_cases hlt : k < t.rules.length
    · obtain ⟨g, o, rfl, hr⟩ := hR.out (by omega)
      obtain ⟨d, hd⟩ : ∃ d, t.rules[k]? = some d := ⟨_, List.getElem?_eq_getElem hlt⟩
      have hb0r := hb1.trans (hbr.mono hb1.size)
      have hc := (hr.below hb0r).2 k d hd
      have c0 := hc 0 _ rfl
      have c1 := hc 1 _ rfl
      have c2 := hc 2 _ rfl
      have c3 := hc 3 _ rfl
      rw [Nat.add_zero] at c0
      have hg := (hr.below hb0r).1
      have hk0 : (0 : Int) ≤ (k : Int) := by omega
      have hk1 : (k : Int) < (t.rules.length : Int) := by omega
      have hfd := hF.out d (List.mem_of_getElem? hd)
      have hwl : (bs d.from_).size ≤ 1000000 := by rw [bs_len]; have := hfd.2.1; omega
      have htl : (bs d.to_).size ≤ 1000000 := by rw [bs_len]; have := hfd.2.2; omega
      obtain ⟨kl, hkl⟩ := key_some d.script (bs d.from_) (bs d.to_) hfd.1 (by unfold maxLen; omega) (by unfold maxLen; omega)
      obtain ⟨W2, hW2⟩ : ∃ W2, W2 = (wr.alloc (.cells #[.int .i64 d.script, .string (bs d.from_), .string (bs d.to_), .int .i64 d.cost] 34)).alloc (.cells #[.int .i64 d.script, .string (bs d.from_), .string (bs d.to_)] 70) := ⟨_, rfl⟩
      have hb2 : Below wr.heap.size wr W2 := by rw [hW2]; exact ((Below.refl _ wr).alloc (Nat.le_refl _) _).alloc (by simp) _
      have hM2 := hid (hM.out.below hb2)
      have hget := hM2.out.get key_keyed Tryz.underlying68 (zero_bool W2) hkl
      rw [show (Value.agg #[.int .i64 d.script, .string (bs d.from_), .string (bs d.to_)]) = keyV d.key from rfl, seenF_get, hW2] at hget
      have hstep := hid (Rw.allOk_take Rw.ruleOk Rw.Rule.key hd)
      have HB := hid (hb0r.trans (hb2.mono hb0r.size))
      cases hs : ((t.rules.take k).map Rw.Rule.key).contains d.key with
      | true =>
        have hno := hid (show Rw.valid t = false by
          rw [hv0.out, Rw.allOk_false _ _ (k := k + 1) (by rw [hstep.out, hs]; simp)]; rfl)
        rw [hs] at hget
        have hget' : (Instr.lookup 68 (.map (some w1.heap.size)) (.agg #[.int .i64 d.script, .string (bs d.from_), .string (bs d.to_)]) false).run Tryz.prog ((wr.alloc (.cells #[.int .i64 d.script, .string (bs d.from_), .string (bs d.to_), .int .i64 d.cost] 34)).alloc (.cells #[.int .i64 d.script, .string (bs d.from_), .string (bs d.to_)] 70)) = .ok (.bool true) ((wr.alloc (.cells #[.int .i64 d.script, .string (bs d.from_), .string (bs d.to_), .int .i64 d.cost] 34)).alloc (.cells #[.int .i64 d.script, .string (bs d.from_), .string (bs d.to_)] 70)) := hget
        clear hc hr hs hget hkl hd hb0r
        go_wp2
        go_ret
        rw [← hW2]
        exact ⟨ret_bool hno.out.symm, HB.out⟩
      | false =>
        rw [hs] at hget
        have hget' : (Instr.lookup 68 (.map (some w1.heap.size)) (.agg #[.int .i64 d.script, .string (bs d.from_), .string (bs d.to_)]) false).run Tryz.prog ((wr.alloc (.cells #[.int .i64 d.script, .string (bs d.from_), .string (bs d.to_), .int .i64 d.cost] 34)).alloc (.cells #[.int .i64 d.script, .string (bs d.from_), .string (bs d.to_)] 70)) = .ok (.bool false) ((wr.alloc (.cells #[.int .i64 d.script, .string (bs d.from_), .string (bs d.to_), .int .i64 d.cost] 34)).alloc (.cells #[.int .i64 d.script, .string (bs d.from_), .string (bs d.to_)] 70)) := hget
        have hT2 := hid ((hTT.out.below hb0r).below hb2)
        have HS := hid hs
        have HB1 := hid (hbr.trans (hb2.mono hbr.size))
        have D0 : ∀ j u, (ruleCells d)[j]? = some u → W2.cell? ⟨wr.heap.size, j, none⟩ = some u := fun j u hu => by
          rw [hW2]
          have h := cells_new (w := wr) (n := wr.heap.size) (t := 34) rfl j u hu
          rw [addr_at] at h
          exact (World.cell?_alloc_lt _ _ _ (by simp)).trans h
        have D1 : ∀ j u, ([.int .i64 d.script, .string (bs d.from_), .string (bs d.to_)] : List Value)[j]? = some u → W2.cell? ⟨wr.heap.size + 1, j, none⟩ = some u := fun j u hu => by
          rw [hW2]
          have h := cells_new (w := wr.alloc (.cells #[.int .i64 d.script, .string (bs d.from_), .string (bs d.to_), .int .i64 d.cost] 34)) (n := wr.heap.size + 1) (t := 70) (by simp) j u hu
          rw [addr_at] at h
          exact h
        have hn0 : wr.heap.size < W2.heap.size := by rw [hW2, World.size_alloc, World.size_alloc]; omega
        have hn1' : wr.heap.size + 1 < W2.heap.size := by rw [hW2, World.size_alloc, World.size_alloc]; omega
        have HD := hid (And.intro D0 D1)
        have HK := hid hkl
        have HDD := hid hd
        have HFO := hid (folded_any d.script (bs d.from_) 3 W2 hwl hT2.out)
        rw [show (bs d.from_).data.toList = d.from_ from rfl] at HFO
        clear hc hr hget hkl hd hs D0 D1 hb0r
        go_wp2_with fail
        rw [← hW2]
        have HW2 := hid hW2
        clear hW2 hget'
        cases hfo : Rw.folded d.script d.from_ 3 with
        | false =>
          have hno := hid (show Rw.valid t = false by
            rw [hv0.out, Rw.allOk_false _ _ (k := k + 1) (by rw [hstep.out]; simp [Rw.ruleOk, hfo])]; rfl)
          rw [hfo] at HFO
          clear hfo
          refine (HFO.out).mono ?_
          rintro e w3 ⟨rfl, hb3⟩
          go_wp2
          go_ret
          exact ⟨ret_bool hno.out.symm, HB.out.trans (hb3.mono HB.out.size)⟩
        | true =>
          rw [hfo] at HFO
          have HFT := hid hfo
          clear hfo
          refine (HFO.out).mono ?_
          rintro e w3 ⟨rfl, hb3⟩
          have B3 := hid (HB.out.trans (hb3.mono HB.out.size))
          have B31 := hid (HB1.out.trans (hb3.mono HB1.out.size))
          have hM3 := hid (hM2.out.below hb3)
          have x2' : w3.cell? ⟨wr.heap.size, 2, none⟩ = some (.string (bs d.to_)) := (hb3.cell (p := ⟨wr.heap.size, 2, none⟩) hn0).trans (HD.out.1 2 _ rfl)
          have x3' : w3.cell? ⟨wr.heap.size, 3, none⟩ = some (.int .i64 d.cost) := (hb3.cell (p := ⟨wr.heap.size, 3, none⟩) hn0).trans (HD.out.1 3 _ rfl)
          have y0 : w3.cell? ⟨wr.heap.size + 1, 0, none⟩ = some (.int .i64 d.script) := (hb3.cell (p := ⟨wr.heap.size + 1, 0, none⟩) hn1').trans (HD.out.2 0 _ rfl)
          have y1 : w3.cell? ⟨wr.heap.size + 1, 1, none⟩ = some (.string (bs d.from_)) := (hb3.cell (p := ⟨wr.heap.size + 1, 1, none⟩) hn1').trans (HD.out.2 1 _ rfl)
          have y2 : w3.cell? ⟨wr.heap.size + 1, 2, none⟩ = some (.string (bs d.to_)) := (hb3.cell (p := ⟨wr.heap.size + 1, 2, none⟩) hn1').trans (HD.out.2 2 _ rfl)
          have HI := hid (isForm_any (bs d.to_) w3 htl)
          rw [show (bs d.to_).data.toList = d.to_ from rfl] at HI
          have hn03 := Nat.lt_of_lt_of_le hn0 hb3.size
          have hn13 := Nat.lt_of_lt_of_le hn1' hb3.size
          clear hb3
          cases hfm : Rw.isForm d.to_ with
          | false =>
            have hno := hid (show Rw.valid t = false by
              rw [hv0.out, Rw.allOk_false _ _ (k := k + 1) (by rw [hstep.out]; simp [Rw.ruleOk, hfm])]; rfl)
            rw [hfm] at HI
            clear hfm
            go_wp2_with fail
            refine (HI.out).mono ?_
            rintro e w4 ⟨rfl, hb4⟩
            go_wp2
            go_ret
            exact ⟨ret_bool hno.out.symm, B3.out.trans (hb4.mono B3.out.size)⟩
          | true =>
          rw [hfm] at HI
          have HFM := hid hfm
          clear hfm
          go_wp2_with fail
          refine (HI.out).mono ?_
          rintro e w4 ⟨rfl, hb4⟩
          have B4 := hid (B3.out.trans (hb4.mono B3.out.size))
          have B41 := hid (B31.out.trans (hb4.mono B31.out.size))
          have hM4 := hid (hM3.out.below hb4)
          have x3'' := (hb4.cell (p := ⟨wr.heap.size, 3, none⟩) hn03).trans x3'
          have y0' := (hb4.cell (p := ⟨wr.heap.size + 1, 0, none⟩) hn13).trans y0
          have y1' := (hb4.cell (p := ⟨wr.heap.size + 1, 1, none⟩) hn13).trans y1
          have y2' := (hb4.cell (p := ⟨wr.heap.size + 1, 2, none⟩) hn13).trans y2
          clear hb4 x2' x3' y0 y1 y2
          cases hco : Rw.isCost d.cost with
          | false =>
            have hno := hid (show Rw.valid t = false by
              rw [hv0.out, Rw.allOk_false _ _ (k := k + 1) (by rw [hstep.out]; simp [Rw.ruleOk, hco])]; rfl)
            have HCO := hid (isCost_any d.cost w4)
            rw [hco] at HCO
            clear hco
            go_wp2_with fail
            refine (HCO.out).mono ?_
            rintro e w5 ⟨rfl, rfl⟩
            go_wp2
            go_ret
            exact ⟨ret_bool hno.out.symm, B4.out⟩
          | true =>
            have hyes := hid (show Rw.allOk Rw.ruleOk Rw.Rule.key (t.rules.take (k + 1)) [] = true by
              rw [hstep.out, hA.out, HS.out]; simp [Rw.ruleOk, hco, HFT.out, HFM.out])
            have HCO := hid (isCost_any d.cost w4)
            rw [hco] at HCO
            clear hco
            go_wp2_with fail
            refine (HCO.out).mono ?_
            rintro e w5 ⟨rfl, rfl⟩
            go_wp2_with (at_mapUpdate; refine wpList_put _ rfl _ _ _ 68 4 rfl key_keyed Tryz.underlying68 rfl hM4.out (by unfold maxLen; omega) _ _ kl rfl rfl HK.out (seenF ((t.rules.take k).map Rw.Rule.key ++ [d.key])) (seenF_snoc _ d.key).1 (seenF_snoc _ d.key).2 ?_; intro w6 hM6 hg6)
            go_roundw
            case rel =>
              refine ⟨k + 1, by omega, by go_num, ?_, B41.out.grown hg6 B41.out.size (fun r e => by cases e; exact Nat.le_refl _), hyes⟩
              have e : (t.rules.take (k + 1)).map Rw.Rule.key = (t.rules.take k).map Rw.Rule.key ++ [d.key] := by
                obtain ⟨hk', he⟩ := List.getElem?_eq_some_iff.1 HDD.out
                rw [List.take_succ_eq_append_getElem hk', he]; simp
              rw [e]; exact hM6
            case measure => simp [intOf]; omega
    · have hks : k = t.rules.length := by omega
      subst hks
      have hend := hid (show Rw.valid t = (Rw.dropsOk t.drops 12 && Rw.dropsOk t.ends 4) by
        have h := hA.out
        rw [List.take_length] at h
        rw [hv0.out, h]; rfl)
      have b0 := hid (hb1.trans (hbr.mono hb1.size))
      have HC4 := hid (check_any t.drops vd 12 wr (hD.out.1.below b0.out) hl2 hD.out.2 (hTT.out.below b0.out))
      have q1 := (hbr.cell (p := ⟨w.heap.size, 1, none⟩) hn1).trans x1
      have q2 := (hbr.cell (p := ⟨w.heap.size, 2, none⟩) hn1).trans x2
      have hn2 := Nat.lt_of_lt_of_le hn1 hbr.size
      clear hbr
      cases hd1 : Rw.dropsOk t.drops 12 with
      | false =>
        have hno := hid (show Rw.valid t = false by rw [hend.out, hd1]; rfl)
        rw [hd1] at HC4
        clear hd1
        go_wp2_with fail
        refine (HC4.out).mono ?_
        rintro e w3 ⟨rfl, hb3⟩
        go_wp2
        go_ret
        exact ⟨ret_bool hno.out.symm, b0.out.trans (hb3.mono b0.out.size)⟩
      | true =>
        have hye := hid (show Rw.valid t = Rw.dropsOk t.ends 4 by rw [hend.out, hd1]; rfl)
        rw [hd1] at HC4
        clear hd1
        go_wp2_with fail
        refine (HC4.out).mono ?_
        rintro e w3 ⟨rfl, hb3⟩
        have b3 := hid (b0.out.trans (hb3.mono b0.out.size))
        have q2' := (hb3.cell (p := ⟨w.heap.size, 2, none⟩) hn2).trans q2
        clear hb3
        go_wp2_with fail
        refine (check_any t.ends ve 4 w3 (hE.out.1.below b3.out) hl3 hE.out.2 (hTT.out.below b3.out)).mono ?_
        rintro e w4 ⟨rfl, hb4⟩
        go_wp2
        go_ret
        exact ⟨ret_bool hye.out.symm, b3.out.trans (hb4.mono b3.out.size)⟩

end Go.Proofs.YtdchjacccmajcaaGreatDoor
