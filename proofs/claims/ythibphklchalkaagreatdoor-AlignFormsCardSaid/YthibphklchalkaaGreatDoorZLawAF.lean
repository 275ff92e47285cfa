/-
  AlignForms: the statement's function returns true. Conditions: what can be read of its arguments.
-/
import Derived.Test.YthibphklchalkaaGreatDoorZLawAI
import Derived.Test.YthibphklchalkaaGreatDoorZMLiB
import Derived.Sort.Walk0
namespace Go.Proofs.YthibphklchalkaaGreatDoor
open Go.RowKit Go.Lib Go.Maps

theorem FormsP.shape {t : Rw.Table} {k : Int} {s : List UInt8} {most : Int} {W W' : World} {e : Ending} (h : FormsP t k s most W e W') : ∃ (v u : Value) (z : Int), e = .returned (.tuple #[v, u, .int .i64 z]) := by
  obtain ⟨-, ⟨-, rfl⟩ | ⟨-, -, ⟨-, rfl⟩ | ⟨v, u, -, -, rfl, -⟩⟩⟩ := h
  · exact ⟨_, _, _, rfl⟩
  · exact ⟨_, _, _, rfl⟩
  · exact ⟨_, _, _, rfl⟩
/-- texts in a row -/
theorem str_cell {w : World} {v : Value} {l : List (List UInt8)} (h : SlOf w v 1 strC l) (h0 : 0 < l.length) : ∃ g o c, v = .slice (some ⟨g, o, none⟩) l.length c ∧ g < w.heap.size ∧ ∀ (i : Nat) (x : List UInt8), l[i]? = some x → w.cell? ⟨g, o + i, none⟩ = some (.string (bs x)) := by
  obtain ⟨a, c, rfl, -, -, k⟩ := h
  obtain ⟨g, o, rfl, hr⟩ := k h0
  refine ⟨g, o, c, rfl, hr.1, fun i x hi => ?_⟩
  have := hr.2 i x hi 0 _ rfl
  simpa using this
theorem bs_beq (a b : List UInt8) : ((bs a).toList == (bs b).toList) = decide (a = b) := by
  have h : ∀ x : List UInt8, (bs x).toList = x := fun x => by rw [ByteArray.toList_eq]; rfl
  rw [h, h]
  by_cases e : a = b
  · rw [decide_eq_true e, e]; simp
  · rw [decide_eq_false e]; simpa using e
theorem bs_less (a b : List UInt8) : Op.bytesLess (bs a).toList (bs b).toList = decide (a < b) := by
  have h : ∀ x : List UInt8, (bs x).toList = x := fun x => by rw [ByteArray.toList_eq]; rfl
  rw [h, h]
  exact bytesLess_eq a b

set_option maxRecDepth 100000 in
set_option maxHeartbeats 16000000 in
theorem forms_law (t : Rw.Table) (tv : Value) (a : Int) (x : List UInt8) (b : Int) (y : List UInt8) (raw : Int) (W : World) (ht : TableRaw W t tv) (hT : Tabs W) (hx : x.length ≤ maxLen) (hy : y.length ≤ maxLen) (hraw : 0 ≤ raw ∧ raw ≤ 255) :
    Calls Tryz.prog 4 #[tv, .int .i64 a, .string (bs x), .int .i64 b, .string (bs y), .int .u8 raw] W (Gives (.bool true) W) := by
  have HT := hid ht
  have HTT := hid hT
  obtain ⟨⟨vr, vd, ve, rfl, ⟨ar, cr, rfl, -⟩, ⟨ad, cd, rfl, -⟩, ⟨ae, ce, rfl, -⟩⟩, -, -, -⟩ := ht
  clear hT
  obtain ⟨W1, hW1⟩ : ∃ W1, W1 = W.alloc (.cells #[.slice ar t.rules.length cr, .slice ad t.drops.length cd, .slice ae t.ends.length ce, .int .i64 t.drop, .int .i64 t.order, .int .i64 t.initial] 25) := ⟨_, rfl⟩
  have hb1 : Below W.heap.size W W1 := by rw [hW1]; exact (Below.refl _ W).alloc (Nat.le_refl _) _
  have TB1 := hid (show Blk W1 W.heap.size 25 [.slice ar t.rules.length cr, .slice ad t.drops.length cd, .slice ae t.ends.length ce, .int .i64 t.drop, .int .i64 t.order, .int .i64 t.initial] by rw [hW1]; exact Blk.new W _ _)
  have HH := hid (head_true W1 (HTT.out.below hb1))
  have B1 := hid hb1
  have hr0 : (0 : Int) ≤ raw := hraw.1
  have hr1 : raw ≤ 255 := hraw.2
  have hw0 : IntKind.i64.wrap raw = raw := IntWalk.i64_in _ (by omega)
  clear hb1 hraw
  go_enter Tryz.func4, Tryz.ntmps4
  go_wp2_with fail
  rw [← hW1]
  clear hW1
  refine (HH.out).mono ?_
  rintro e W2 ⟨rfl, hb2⟩
  have TB2 := hid (TB1.out.below hb2)
  have B2 := hid (Below.step B1.out hb2)
  clear hb2
  have t0 := TB2.out.cell (j := 0) rfl
  have t1 := TB2.out.cell (j := 1) rfl
  have t2 := TB2.out.cell (j := 2) rfl
  have t3 := TB2.out.cell (j := 3) rfl
  have t4 := TB2.out.cell (j := 4) rfl
  have t5 := TB2.out.cell (j := 5) rfl
  have tl := TB2.out.lt
  obtain ⟨W3, hW3⟩ : ∃ W3, W3 = W2.alloc (.cells #[.string (bs x), .string (bs y)] 9) := ⟨_, rfl⟩
  have hb3 : Below W2.heap.size W2 W3 := by rw [hW3]; exact (Below.refl _ W2).alloc (Nat.le_refl _) _
  have hw3 : W3.heap[W2.heap.size]? = some (.cells #[.string (bs x), .string (bs y)] 9 (0, 0)) := by rw [hW3]; exact Blk.new W2 9 [.string (bs x), .string (bs y)]
  have B3 := hid (Below.step B2.out hb3)
  have TB3 := hid (TB2.out.below hb3)
  have HF := hid (fewL_any t _ _ [x, y] W3 (HT.out.below B3.out) (SlOf.block (sz := 1) (cells := strC) (n := 2) hw3 rfl (fun _ _ => rfl) rfl (by decide)) (fun z hz => by
    simp at hz; rcases hz with rfl | rfl
    · exact hx
    · exact hy))
  clear hb3 hw3
  go_upto_region 3 with (fail)
  obtain ⟨most, hmost⟩ : ∃ most, most = raw % 12 := ⟨_, rfl⟩
  rw [← hmost]
  clear hmost
  go_wp2_with fail
  rw [← hW3]
  clear hW3
  refine (HF.out).mono ?_
  rintro e W4 ⟨rfl, hb4⟩
  have TB4 := hid (TB3.out.below hb4)
  have B4 := hid (Below.step B3.out hb4)
  clear hb4
  clear t0 t1 t2 t3 t4 t5 tl
  have t0 := TB4.out.cell (j := 0) rfl
  have t1 := TB4.out.cell (j := 1) rfl
  have t2 := TB4.out.cell (j := 2) rfl
  have t3 := TB4.out.cell (j := 3) rfl
  have t4 := TB4.out.cell (j := 4) rfl
  have t5 := TB4.out.cell (j := 5) rfl
  have tl := TB4.out.lt
  cases hfew : Al.fewB t [x, y] with
  | false =>
    go_wp2_with fail
    go_ret
    exact ⟨rfl, B4.out⟩
  | true =>
    have hxy : x.length ≤ 30 ∧ y.length ≤ 30 := by
      unfold Al.fewB at hfew
      simp only [Bool.and_eq_true, List.all_cons, decide_eq_true_eq] at hfew
      exact ⟨hfew.2.1, hfew.2.2.1⟩
    have TA := hid (HT.out.few hfew)
    have HFO := hid (forms_any t _ a (bs x) most W4 (TA.out.below B4.out) (HTT.out.below B4.out) (by rw [bs_len]; omega))
    rw [bs_list] at HFO
    clear hfew
    go_wp2_with fail
    refine (HFO.out).mono ?_
    rintro e W5 ⟨hb5, h5⟩
    have TB5 := hid (TB4.out.below hb5)
    have B5 := hid (Below.step B4.out hb5)
    have HFP := hid (forms_any t _ b (bs y) most W5 (TA.out.below B5.out) (HTT.out.below B5.out) (by rw [bs_len]; omega))
    rw [bs_list] at HFP
    clear hb5 HFO HF HH
    clear t0 t1 t2 t3 t4 t5 tl
    have t0 := TB5.out.cell (j := 0) rfl
    have t1 := TB5.out.cell (j := 1) rfl
    have t2 := TB5.out.cell (j := 2) rfl
    have t3 := TB5.out.cell (j := 3) rfl
    have t4 := TB5.out.cell (j := 4) rfl
    have t5 := TB5.out.cell (j := 5) rfl
    have tl := TB5.out.lt
    have HNOT := hid (show ∀ (v u : Value) (z : Int), z ≠ 0 → True from fun _ _ _ _ => trivial)
    clear HNOT
    rcases h5 with ⟨hno, rfl⟩ | ⟨hne, hv, ⟨-, rfl⟩ | ⟨v, u, l, m, rfl, hs1, hs2, hfo⟩⟩
    · clear hno
      go_wp2_with fail
      refine (HFP.out).mono ?_
      rintro e W6 h6
      have B6 := hid (Below.step B5.out h6.1)
      obtain ⟨v2, u2, z2, rfl⟩ := h6.shape
      clear h6
      go_wp2_with fail
      go_ret
      exact ⟨rfl, B6.out⟩
    · clear hne hv
      go_wp2_with fail
      refine (HFP.out).mono ?_
      rintro e W6 h6
      have B6 := hid (Below.step B5.out h6.1)
      obtain ⟨v2, u2, z2, rfl⟩ := h6.shape
      clear h6
      go_wp2_with fail
      go_ret
      exact ⟨rfl, B6.out⟩
    · go_wp2_with fail
      refine (HFP.out).mono ?_
      rintro e W6 ⟨hb6, h6⟩
      have TB6 := hid (TB5.out.below hb6)
      have B6 := hid (Below.step B5.out hb6)
      have S1 := hid (hs1.below hb6)
      have S2 := hid (hs2.below hb6)
      have HN1 := hid (And.intro hne (And.intro hv hfo))
      clear hb6 hs1 hs2 hne hv hfo
      clear t0 t1 t2 t3 t4 t5 tl
      have t0 := TB6.out.cell (j := 0) rfl
      have t1 := TB6.out.cell (j := 1) rfl
      have t2 := TB6.out.cell (j := 2) rfl
      have t3 := TB6.out.cell (j := 3) rfl
      have t4 := TB6.out.cell (j := 4) rfl
      have t5 := TB6.out.cell (j := 5) rfl
      have tl := TB6.out.lt
      rcases h6 with ⟨hno, rfl⟩ | ⟨hne, hv, ⟨-, rfl⟩ | ⟨v2, u2, k, n, rfl, hs3, hs4, hfo2⟩⟩
      · clear hno
        go_wp2_with fail
        go_ret
        exact ⟨rfl, B6.out⟩
      · clear hne hv
        go_wp2_with fail
        go_ret
        exact ⟨rfl, B6.out⟩
      · have HN2 := hid (And.intro hne hfo2)
        have S3 := hid hs3
        have S4 := hid hs4
        clear hne hv hs3 hs4 hfo2
        obtain ⟨a1, c1, rfl, ka1, kb1, -⟩ := id S1.out
        obtain ⟨a2, c2, rfl, ka2, kb2, -⟩ := id S2.out
        obtain ⟨a3, c3, rfl, ka3, kb3, -⟩ := id S3.out
        obtain ⟨a4, c4, rfl, ka4, kb4, -⟩ := id S4.out
        obtain ⟨n1, hn1⟩ : ∃ n1, n1 = l.length := ⟨_, rfl⟩
        obtain ⟨n2, hn2⟩ : ∃ n2, n2 = k.length := ⟨_, rfl⟩
        have hm1 : m.length = n1 := by rw [HN1.out.2.2.len, hn1]
        have hm2 : n.length = n2 := by rw [HN2.out.2.len, hn2]
        have HNN := hid (And.intro hn1 (And.intro hn2 (And.intro hm1 hm2)))
        rw [← hn1, ← hn2, hm1, hm2]
        rw [← hn1] at S1
        rw [hm1] at S2
        rw [← hn2] at S3
        rw [hm2] at S4
        have hn1k : n1 ≤ 1000 := by rw [hn1]; exact HN1.out.2.2.few
        have hn2k : n2 ≤ 1000 := by rw [hn2]; exact HN2.out.2.few
        have HBE := hid (best_any t _ a b (bs x) (bs y) W6 (TA.out.below B6.out) (HTT.out.below B6.out) (by rw [bs_len]; omega) (by rw [bs_len]; omega))
        rw [bs_list, bs_list] at HBE
        obtain ⟨r, hr⟩ : ∃ r, r = Al.bestOf t a x b y := ⟨_, rfl⟩
        rw [← hr] at HBE
        have HR := hid hr
        clear hr hn1 hn2 hm1 hm2 ka1 kb1 ka2 kb2 ka3 kb3 ka4 kb4
        go_wp2_with fail
        refine (HBE.out).mono ?_
        rintro e W7 h7
        obtain ⟨x1, m1, k1, x2, m2, k2, rfl, hda, hb7⟩ := h7.get
        obtain ⟨W8, hW8⟩ : ∃ W8, W8 = W7.alloc (.cells #[.int .i64 r.1.cost, .slice x1 m1 k1, .slice x2 m2 k2, .string (bs r.1.form)] 28) := ⟨_, rfl⟩
        have hb8 : Below W7.heap.size W7 W8 := by rw [hW8]; exact (Below.refl _ W7).alloc (Nat.le_refl _) _
        have hb68 := Below.step hb7 hb8
        have B8 := hid (Below.step B6.out hb68)
        have P8 := hid (show Blk W8 W7.heap.size 28 [.int .i64 r.1.cost, .slice x1 m1 k1, .slice x2 m2 k2, .string (bs r.1.form)] by rw [hW8]; exact Blk.new W7 _ _)
        replace S1 := hid (S1.out.below hb68)
        replace S2 := hid (S2.out.below hb68)
        replace S3 := hid (S3.out.below hb68)
        replace S4 := hid (S4.out.below hb68)
        clear hda hb7 hb8 hb68 h7
        clear t0 t1 t2 t3 t4 t5 tl
        go_upto_region 10 with (fail)
        rw [← hW8]
        clear hW8
        go_wp2_with fail
        go_loopw [23, 24, 25] (fun lv iv jv wr => ∃ (i j : Nat) (least : Int), i ≤ n1 ∧ j ≤ n2 ∧ iv = .int .i64 i ∧ jv = .int .i64 j ∧ lv = .int .i64 least ∧ Hid (Fo.Two l k m n i j least) ∧ Hid (Below W8.heap.size W8 wr)) (fun _ iv jv _ => (n1 - (RowKit.intOf iv).toNat) + (n2 - (RowKit.intOf jv).toNat))
        case atStart => exact ⟨0, 0, -1, Nat.zero_le _, Nat.zero_le _, rfl, rfl, rfl, Fo.Two.start, Below.refl _ _⟩
        case round =>
          obtain ⟨i, j, least, hi, hj, rfl, rfl, rfl, HTW, HBR⟩ := hrel
          have i0 : (0 : Int) ≤ (i : Int) := by omega
          have j0 : (0 : Int) ≤ (j : Int) := by omega
          by_cases hgo : i < n1 ∧ j < n2
          · have i1 : (i : Int) < (n1 : Int) := by omega
            have j1 : (j : Int) < (n2 : Int) := by omega
            obtain ⟨f, hf⟩ : ∃ f, l[i]? = some f := ⟨_, List.getElem?_eq_getElem (by rw [← HNN.out.1]; exact hgo.1)⟩
            obtain ⟨g, hg⟩ : ∃ g, k[j]? = some g := ⟨_, List.getElem?_eq_getElem (by rw [← HNN.out.2.1]; exact hgo.2)⟩
            obtain ⟨p, hp⟩ : ∃ p, m[i]? = some p := ⟨_, List.getElem?_eq_getElem (by rw [HNN.out.2.2.1]; exact hgo.1)⟩
            obtain ⟨q, hq⟩ : ∃ q, n[j]? = some q := ⟨_, List.getElem?_eq_getElem (by rw [HNN.out.2.2.2]; exact hgo.2)⟩
            have hpc := Fo.forms_cost (Fo.good_rules HN1.out.2.1 a) (Fo.letters_len a x) HN1.out.2.2 hp
            have hqc := Fo.forms_cost (Fo.good_rules HN1.out.2.1 b) (Fo.letters_len b y) HN2.out.2 hq
            obtain ⟨g1, o1, d1, e1, z1, w1⟩ := str_cell (S1.out.below HBR.out) (by rw [← HNN.out.1]; omega)
            obtain ⟨g2, o2, d2, e2, z2, w2⟩ := num_cell (S2.out.below HBR.out) (by rw [HNN.out.2.2.1]; omega)
            obtain ⟨g3, o3, d3, e3, z3, w3⟩ := str_cell (S3.out.below HBR.out) (by rw [← HNN.out.2.1]; omega)
            obtain ⟨g4, o4, d4, e4, z4, w4⟩ := num_cell (S4.out.below HBR.out) (by rw [HNN.out.2.2.2]; omega)
            rw [← HNN.out.1] at e1
            rw [HNN.out.2.2.1] at e2
            rw [← HNN.out.2.1] at e3
            rw [HNN.out.2.2.2] at e4
            cases e1
            cases e2
            cases e3
            cases e4
            have v1 := w1 i f hf
            have v2 := w2 i p hp
            have v3 := w3 j g hg
            have v4 := w4 j q hq
            have HFG := hid (And.intro hf (And.intro hg (And.intro hp hq)))
            have hnb := bs_beq f g
            clear w1 w2 w3 w4 hf hg hp hq
            obtain ⟨eb, heb⟩ : ∃ eb, eb = decide (f = g) := ⟨_, rfl⟩
            rw [← heb] at hnb
            have HEB := hid heb
            clear heb
            go_upto_region 13 with (fail)
            refine wp_heldS (S := StillAt wr) (by kernel_rfl) ?_
            simp only [List.size_toArray, List.length_cons, List.length_nil, Nat.reduceAdd]
            intro hc
            have S0 : StillAt wr (Array.replicate 9 false) wr.drew := (Below.refl _ _).drew
            refine wpAnyS_take (i := 0) (v := .slice (some ⟨g1, o1, none⟩) n1 c1) rfl (by kernel_rfl) (by kernel_rfl) (by kernel_rfl) (fun _ _ _ h => h) (fun _ _ => Iff.rfl) hc (by first | rfl | simp [Region.wanted]) (fun wx hx => ?_) S0 (fun hc S0 => ?_)
            · go_simp
            try simp only [List.getElem_toArray, List.getElem_cons_zero, Act.put, List.setIfInBounds_toArray, List.set_cons_zero, List.set_cons_succ]
            refine wpAnyS_take (i := 1) (v := .int .i64 i) rfl (by kernel_rfl) (by kernel_rfl) (by kernel_rfl) (fun _ _ _ h => h) (fun _ _ => Iff.rfl) hc (by first | rfl | simp [Region.wanted]) (fun wx hx => ?_) S0 (fun hc S0 => ?_)
            · go_simp
            try simp only [List.getElem_toArray, List.getElem_cons_succ, List.getElem_cons_zero, Act.put, List.setIfInBounds_toArray, List.set_cons_zero, List.set_cons_succ]
            refine wpAnyS_take (i := 2) (v := .pointer (some ⟨g1, o1 + i, none⟩)) rfl (by kernel_rfl) (by kernel_rfl) (by kernel_rfl) (fun _ _ _ h => h) (fun _ _ => Iff.rfl) hc (by first | rfl | simp [Region.wanted]) (fun wx hx => ?_) S0 (fun hc S0 => ?_)
            · go_simp
            try simp only [List.getElem_toArray, List.getElem_cons_succ, List.getElem_cons_zero, Act.put, List.setIfInBounds_toArray, List.set_cons_zero, List.set_cons_succ]
            refine wpAnyS_take (i := 3) (v := .string (bs f)) rfl (by kernel_rfl) (by kernel_rfl) (by kernel_rfl) (fun _ _ _ h => h) (fun _ _ => Iff.rfl) hc (by first | rfl | simp [Region.wanted]) (fun wx hx => ?_) S0 (fun hc S0 => ?_)
            · have q := (hx.still.cell (p := ⟨g1, o1 + i, none⟩) z1).trans v1
              go_simp
            try simp only [List.getElem_toArray, List.getElem_cons_succ, List.getElem_cons_zero, Act.put, List.setIfInBounds_toArray, List.set_cons_zero, List.set_cons_succ]
            refine wpAnyS_take (i := 4) (v := .slice (some ⟨g3, o3, none⟩) n2 c3) rfl (by kernel_rfl) (by kernel_rfl) (by kernel_rfl) (fun _ _ _ h => h) (fun _ _ => Iff.rfl) hc (by first | rfl | simp [Region.wanted]) (fun wx hx => ?_) S0 (fun hc S0 => ?_)
            · go_simp
            try simp only [List.getElem_toArray, List.getElem_cons_succ, List.getElem_cons_zero, Act.put, List.setIfInBounds_toArray, List.set_cons_zero, List.set_cons_succ]
            refine wpAnyS_take (i := 5) (v := .int .i64 j) rfl (by kernel_rfl) (by kernel_rfl) (by kernel_rfl) (fun _ _ _ h => h) (fun _ _ => Iff.rfl) hc (by first | rfl | simp [Region.wanted]) (fun wx hx => ?_) S0 (fun hc S0 => ?_)
            · go_simp
            try simp only [List.getElem_toArray, List.getElem_cons_succ, List.getElem_cons_zero, Act.put, List.setIfInBounds_toArray, List.set_cons_zero, List.set_cons_succ]
            refine wpAnyS_take (i := 6) (v := .pointer (some ⟨g3, o3 + j, none⟩)) rfl (by kernel_rfl) (by kernel_rfl) (by kernel_rfl) (fun _ _ _ h => h) (fun _ _ => Iff.rfl) hc (by first | rfl | simp [Region.wanted]) (fun wx hx => ?_) S0 (fun hc S0 => ?_)
            · go_simp
            try simp only [List.getElem_toArray, List.getElem_cons_succ, List.getElem_cons_zero, Act.put, List.setIfInBounds_toArray, List.set_cons_zero, List.set_cons_succ]
            refine wpAnyS_take (i := 7) (v := .string (bs g)) rfl (by kernel_rfl) (by kernel_rfl) (by kernel_rfl) (fun _ _ _ h => h) (fun _ _ => Iff.rfl) hc (by first | rfl | simp [Region.wanted]) (fun wx hx => ?_) S0 (fun hc S0 => ?_)
            · have q := (hx.still.cell (p := ⟨g3, o3 + j, none⟩) z3).trans v3
              go_simp
            try simp only [List.getElem_toArray, List.getElem_cons_succ, List.getElem_cons_zero, Act.put, List.setIfInBounds_toArray, List.set_cons_zero, List.set_cons_succ]
            refine wpAnyS_one (i := 8) rfl (by kernel_rfl) (by rfl) hc (fun K' hK => ?_)
            go_simp
            refine hK.out _ _ (Below.refl _ _).drew (fun hc => ?_)
            clear hK K'
            have S0 : StillAt wr #[] wr.drew := (Below.refl _ _).drew
            try simp only [List.getElem_toArray, List.getElem_cons_succ, List.getElem_cons_zero, Act.put, List.setIfInBounds_toArray, List.set_cons_zero, List.set_cons_succ]
            refine wpAnyS_done (by kernel_rfl) ?_ _
            clear hc S0
            obtain ⟨X1, hX1⟩ : ∃ X1, X1 = wr.drew := ⟨_, rfl⟩
            have hd1 : Below wr.heap.size wr X1 := by rw [hX1]; exact (Below.refl _ _).drew
            have HB1 := hid (Below.step HBR.out hd1)
            have HD1 := hid hd1
            rw [← hX1]
            clear hX1 hd1
            cases eb with
            | false =>
              have hls := bs_less f g
              obtain ⟨lb, hlb⟩ : ∃ lb, lb = decide (f < g) := ⟨_, rfl⟩
              rw [← hlb] at hls
              have HLB := hid hlb
              have y1 := (HD1.out.cell (p := ⟨g1, o1 + i, none⟩) z1).trans v1
              have y3 := (HD1.out.cell (p := ⟨g3, o3 + j, none⟩) z3).trans v3
              have z1' := Nat.lt_of_lt_of_le z1 HD1.out.size
              have z3' := Nat.lt_of_lt_of_le z3 HD1.out.size
              clear hlb v1 v2 v3 v4 z1 z2 z3 z4
              go_upto_region 18 with (fail)
              refine wp_heldS (S := StillAt X1) (by kernel_rfl) ?_
              simp only [List.size_toArray, List.length_cons, List.length_nil, Nat.reduceAdd]
              intro hc
              have S0 : StillAt X1 (Array.replicate 9 false) X1.drew := (Below.refl _ _).drew
              refine wpAnyS_take (i := 0) (v := .slice (some ⟨g1, o1, none⟩) n1 c1) rfl (by kernel_rfl) (by kernel_rfl) (by kernel_rfl) (fun _ _ _ h => h) (fun _ _ => Iff.rfl) hc (by first | rfl | simp [Region.wanted]) (fun wx hx => ?_) S0 (fun hc S0 => ?_)
              · go_simp
              try simp only [List.getElem_toArray, List.getElem_cons_zero, Act.put, List.setIfInBounds_toArray, List.set_cons_zero, List.set_cons_succ]
              refine wpAnyS_take (i := 1) (v := .int .i64 i) rfl (by kernel_rfl) (by kernel_rfl) (by kernel_rfl) (fun _ _ _ h => h) (fun _ _ => Iff.rfl) hc (by first | rfl | simp [Region.wanted]) (fun wx hx => ?_) S0 (fun hc S0 => ?_)
              · go_simp
              try simp only [List.getElem_toArray, List.getElem_cons_succ, List.getElem_cons_zero, Act.put, List.setIfInBounds_toArray, List.set_cons_zero, List.set_cons_succ]
              refine wpAnyS_take (i := 2) (v := .pointer (some ⟨g1, o1 + i, none⟩)) rfl (by kernel_rfl) (by kernel_rfl) (by kernel_rfl) (fun _ _ _ h => h) (fun _ _ => Iff.rfl) hc (by first | rfl | simp [Region.wanted]) (fun wx hx => ?_) S0 (fun hc S0 => ?_)
              · go_simp
              try simp only [List.getElem_toArray, List.getElem_cons_succ, List.getElem_cons_zero, Act.put, List.setIfInBounds_toArray, List.set_cons_zero, List.set_cons_succ]
              refine wpAnyS_take (i := 3) (v := .string (bs f)) rfl (by kernel_rfl) (by kernel_rfl) (by kernel_rfl) (fun _ _ _ h => h) (fun _ _ => Iff.rfl) hc (by first | rfl | simp [Region.wanted]) (fun wx hx => ?_) S0 (fun hc S0 => ?_)
              · have q := (hx.still.cell (p := ⟨g1, o1 + i, none⟩) z1').trans y1
                go_simp
              try simp only [List.getElem_toArray, List.getElem_cons_succ, List.getElem_cons_zero, Act.put, List.setIfInBounds_toArray, List.set_cons_zero, List.set_cons_succ]
              refine wpAnyS_take (i := 4) (v := .slice (some ⟨g3, o3, none⟩) n2 c3) rfl (by kernel_rfl) (by kernel_rfl) (by kernel_rfl) (fun _ _ _ h => h) (fun _ _ => Iff.rfl) hc (by first | rfl | simp [Region.wanted]) (fun wx hx => ?_) S0 (fun hc S0 => ?_)
              · go_simp
              try simp only [List.getElem_toArray, List.getElem_cons_succ, List.getElem_cons_zero, Act.put, List.setIfInBounds_toArray, List.set_cons_zero, List.set_cons_succ]
              refine wpAnyS_take (i := 5) (v := .int .i64 j) rfl (by kernel_rfl) (by kernel_rfl) (by kernel_rfl) (fun _ _ _ h => h) (fun _ _ => Iff.rfl) hc (by first | rfl | simp [Region.wanted]) (fun wx hx => ?_) S0 (fun hc S0 => ?_)
              · go_simp
              try simp only [List.getElem_toArray, List.getElem_cons_succ, List.getElem_cons_zero, Act.put, List.setIfInBounds_toArray, List.set_cons_zero, List.set_cons_succ]
              refine wpAnyS_take (i := 6) (v := .pointer (some ⟨g3, o3 + j, none⟩)) rfl (by kernel_rfl) (by kernel_rfl) (by kernel_rfl) (fun _ _ _ h => h) (fun _ _ => Iff.rfl) hc (by first | rfl | simp [Region.wanted]) (fun wx hx => ?_) S0 (fun hc S0 => ?_)
              · go_simp
              try simp only [List.getElem_toArray, List.getElem_cons_succ, List.getElem_cons_zero, Act.put, List.setIfInBounds_toArray, List.set_cons_zero, List.set_cons_succ]
              refine wpAnyS_take (i := 7) (v := .string (bs g)) rfl (by kernel_rfl) (by kernel_rfl) (by kernel_rfl) (fun _ _ _ h => h) (fun _ _ => Iff.rfl) hc (by first | rfl | simp [Region.wanted]) (fun wx hx => ?_) S0 (fun hc S0 => ?_)
              · have q := (hx.still.cell (p := ⟨g3, o3 + j, none⟩) z3').trans y3
                go_simp
              try simp only [List.getElem_toArray, List.getElem_cons_succ, List.getElem_cons_zero, Act.put, List.setIfInBounds_toArray, List.set_cons_zero, List.set_cons_succ]
              refine wpAnyS_one (i := 8) rfl (by kernel_rfl) (by rfl) hc (fun K' hK => ?_)
              go_simp
              refine hK.out _ _ (Below.refl _ _).drew (fun hc => ?_)
              clear hK K'
              have S0 : StillAt X1 #[] X1.drew := (Below.refl _ _).drew
              try simp only [List.getElem_toArray, List.getElem_cons_succ, List.getElem_cons_zero, Act.put, List.setIfInBounds_toArray, List.set_cons_zero, List.set_cons_succ]
              refine wpAnyS_done (by kernel_rfl) ?_ _
              clear hc S0
              have HB2 := hid (HB1.out.drew)
              cases lb with
              | true =>
                have HNX := hid (HTW.out.left Fo.lt_irrefl Fo.lt_trans HN2.out.2.order HFG.out.1 HFG.out.2.1 (show f < g from of_decide_eq_true HLB.out.symm))
                go_wp2_with fail
                go_roundw
                case rel => exact ⟨i + 1, j, least, by omega, by omega, by go_num, rfl, rfl, HNX.out, HB2.out⟩
                case measure => simp [RowKit.intOf]; omega
              | false =>
                have HNX := hid (HTW.out.right Fo.lt_irrefl Fo.lt_trans HN1.out.2.2.order HFG.out.1 HFG.out.2.1 (Fo.lt_other (of_decide_eq_false HEB.out.symm) (of_decide_eq_false HLB.out.symm)))
                go_wp2_with fail
                go_roundw
                case rel => exact ⟨i, j + 1, least, by omega, by omega, rfl, by go_num, rfl, HNX.out, HB2.out⟩
                case measure => simp [RowKit.intOf]; omega
            | true =>
              have hfg : f = g := of_decide_eq_true HEB.out.symm
              have HSM := hid (HTW.out.same Fo.lt_irrefl HN1.out.2.2.order HN2.out.2.order HFG.out.1 (by rw [hfg]; exact HFG.out.2.1) HFG.out.2.2.1 HFG.out.2.2.2 (by omega))
              have y2 := (HD1.out.cell (p := ⟨g2, o2 + i, none⟩) z2).trans v2
              have y4 := (HD1.out.cell (p := ⟨g4, o4 + j, none⟩) z4).trans v4
              have z2' := Nat.lt_of_lt_of_le z2 HD1.out.size
              have z4' := Nat.lt_of_lt_of_le z4 HD1.out.size
              have wq : IntKind.i64.wrap (p + q) = p + q := IntWalk.i64_in _ (by omega)
              clear hfg v1 v2 v3 v4 z1 z2 z3 z4
              go_upto_region 14 with (fail)
              by_cases hl0 : least < 0
              · have gl : decide (least < 0) = true := decide_eq_true hl0
                rw [if_pos (.inl hl0)] at HSM
                clear hl0
                refine wp_heldS (S := StillAt X1) (by kernel_rfl) ?_
                simp only [List.size_toArray, List.length_cons, List.length_nil, Nat.reduceAdd]
                intro hc
                have S0 : StillAt X1 (Array.replicate 15 false) X1.drew := (Below.refl _ _).drew
                refine wpAnyS_take (i := 0) (v := .int .i64 least) rfl (by kernel_rfl) (by kernel_rfl) (by kernel_rfl) (fun _ _ _ h => h) (fun _ _ => Iff.rfl) hc (by first | rfl | simp [Region.wanted]) (fun wx hx => ?_) S0 (fun hc S0 => ?_)
                · go_simp
                try simp only [List.getElem_toArray, List.getElem_cons_zero, Act.put, List.setIfInBounds_toArray, List.set_cons_zero, List.set_cons_succ]
                refine wpAnyS_take (i := 1) (v := .bool true) rfl (by kernel_rfl) (by kernel_rfl) (by kernel_rfl) (fun _ _ _ h => h) (fun _ _ => Iff.rfl) hc (by first | rfl | simp [Region.wanted]) (fun wx hx => ?_) S0 (fun hc S0 => ?_)
                · go_simp
                try simp only [List.getElem_toArray, List.getElem_cons_succ, List.getElem_cons_zero, Act.put, List.setIfInBounds_toArray, List.set_cons_zero, List.set_cons_succ]
                refine wpAnyS_take (i := 2) (v := .bool true) rfl (by kernel_rfl) (by kernel_rfl) (by kernel_rfl) (fun _ _ _ h => h) (fun _ _ => Iff.rfl) hc (by first | rfl | simp [Region.wanted]) (fun wx hx => ?_) S0 (fun hc S0 => ?_)
                · go_simp
                try simp only [List.getElem_toArray, List.getElem_cons_succ, List.getElem_cons_zero, Act.put, List.setIfInBounds_toArray, List.set_cons_zero, List.set_cons_succ]
                refine wpAnyS_skip (i := 3) rfl (by kernel_rfl) (by kernel_rfl) (by kernel_rfl) (fun _ _ _ h => h) (fun _ _ => Iff.rfl) hc (by rfl) S0 (fun hc S0 => ?_)
                try simp only [List.getElem_toArray, List.getElem_cons_succ, List.getElem_cons_zero, Act.put, List.setIfInBounds_toArray, List.set_cons_zero, List.set_cons_succ]
                refine wpAnyS_skip (i := 4) rfl (by kernel_rfl) (by kernel_rfl) (by kernel_rfl) (fun _ _ _ h => h) (fun _ _ => Iff.rfl) hc (by rfl) S0 (fun hc S0 => ?_)
                try simp only [List.getElem_toArray, List.getElem_cons_succ, List.getElem_cons_zero, Act.put, List.setIfInBounds_toArray, List.set_cons_zero, List.set_cons_succ]
                refine wpAnyS_skip (i := 5) rfl (by kernel_rfl) (by kernel_rfl) (by kernel_rfl) (fun _ _ _ h => h) (fun _ _ => Iff.rfl) hc (by rfl) S0 (fun hc S0 => ?_)
                try simp only [List.getElem_toArray, List.getElem_cons_succ, List.getElem_cons_zero, Act.put, List.setIfInBounds_toArray, List.set_cons_zero, List.set_cons_succ]
                refine wpAnyS_skip (i := 6) rfl (by kernel_rfl) (by kernel_rfl) (by kernel_rfl) (fun _ _ _ h => h) (fun _ _ => Iff.rfl) hc (by rfl) S0 (fun hc S0 => ?_)
                try simp only [List.getElem_toArray, List.getElem_cons_succ, List.getElem_cons_zero, Act.put, List.setIfInBounds_toArray, List.set_cons_zero, List.set_cons_succ]
                refine wpAnyS_skip (i := 7) rfl (by kernel_rfl) (by kernel_rfl) (by kernel_rfl) (fun _ _ _ h => h) (fun _ _ => Iff.rfl) hc (by rfl) S0 (fun hc S0 => ?_)
                try simp only [List.getElem_toArray, List.getElem_cons_succ, List.getElem_cons_zero, Act.put, List.setIfInBounds_toArray, List.set_cons_zero, List.set_cons_succ]
                refine wpAnyS_skip (i := 8) rfl (by kernel_rfl) (by kernel_rfl) (by kernel_rfl) (fun _ _ _ h => h) (fun _ _ => Iff.rfl) hc (by rfl) S0 (fun hc S0 => ?_)
                try simp only [List.getElem_toArray, List.getElem_cons_succ, List.getElem_cons_zero, Act.put, List.setIfInBounds_toArray, List.set_cons_zero, List.set_cons_succ]
                refine wpAnyS_skip (i := 9) rfl (by kernel_rfl) (by kernel_rfl) (by kernel_rfl) (fun _ _ _ h => h) (fun _ _ => Iff.rfl) hc (by rfl) S0 (fun hc S0 => ?_)
                try simp only [List.getElem_toArray, List.getElem_cons_succ, List.getElem_cons_zero, Act.put, List.setIfInBounds_toArray, List.set_cons_zero, List.set_cons_succ]
                refine wpAnyS_skip (i := 10) rfl (by kernel_rfl) (by kernel_rfl) (by kernel_rfl) (fun _ _ _ h => h) (fun _ _ => Iff.rfl) hc (by rfl) S0 (fun hc S0 => ?_)
                try simp only [List.getElem_toArray, List.getElem_cons_succ, List.getElem_cons_zero, Act.put, List.setIfInBounds_toArray, List.set_cons_zero, List.set_cons_succ]
                refine wpAnyS_skip (i := 11) rfl (by kernel_rfl) (by kernel_rfl) (by kernel_rfl) (fun _ _ _ h => h) (fun _ _ => Iff.rfl) hc (by rfl) S0 (fun hc S0 => ?_)
                try simp only [List.getElem_toArray, List.getElem_cons_succ, List.getElem_cons_zero, Act.put, List.setIfInBounds_toArray, List.set_cons_zero, List.set_cons_succ]
                refine wpAnyS_skip (i := 12) rfl (by kernel_rfl) (by kernel_rfl) (by kernel_rfl) (fun _ _ _ h => h) (fun _ _ => Iff.rfl) hc (by rfl) S0 (fun hc S0 => ?_)
                try simp only [List.getElem_toArray, List.getElem_cons_succ, List.getElem_cons_zero, Act.put, List.setIfInBounds_toArray, List.set_cons_zero, List.set_cons_succ]
                refine wpAnyS_skip (i := 13) rfl (by kernel_rfl) (by kernel_rfl) (by kernel_rfl) (fun _ _ _ h => h) (fun _ _ => Iff.rfl) hc (by rfl) S0 (fun hc S0 => ?_)
                try simp only [List.getElem_toArray, List.getElem_cons_succ, List.getElem_cons_zero, Act.put, List.setIfInBounds_toArray, List.set_cons_zero, List.set_cons_succ]
                refine wpAnyS_one (i := 14) rfl (by kernel_rfl) (by rfl) hc (fun K' hK => ?_)
                go_simp
                refine hK.out _ _ (Below.refl _ _).drew (fun hc => ?_)
                clear hK K'
                have S0 : StillAt X1 #[] X1.drew := (Below.refl _ _).drew
                try simp only [List.getElem_toArray, List.getElem_cons_succ, List.getElem_cons_zero, Act.put, List.setIfInBounds_toArray, List.set_cons_zero, List.set_cons_succ]
                refine wpAnyS_done (by kernel_rfl) ?_ _
                clear hc S0
                have HB2 := hid (HB1.out.drew)
                have HD2 := hid (show Below X1.heap.size X1 X1.drew from (Below.refl _ _).drew)
                have u2 := (HD2.out.cell (p := ⟨g2, o2 + i, none⟩) z2').trans y2
                have u4 := (HD2.out.cell (p := ⟨g4, o4 + j, none⟩) z4').trans y4
                have s2 := Nat.lt_of_lt_of_le z2' HD2.out.size
                have s4 := Nat.lt_of_lt_of_le z4' HD2.out.size
                go_upto_region 15 with (fail)
                refine wp_heldS (S := StillAt X1.drew) (by kernel_rfl) ?_
                simp only [List.size_toArray, List.length_cons, List.length_nil, Nat.reduceAdd]
                intro hc
                have S0 : StillAt X1.drew (Array.replicate 10 false) X1.drew.drew := (Below.refl _ _).drew
                refine wpAnyS_take (i := 0) (v := .slice (some ⟨g2, o2, none⟩) n1 c2) rfl (by kernel_rfl) (by kernel_rfl) (by kernel_rfl) (fun _ _ _ h => h) (fun _ _ => Iff.rfl) hc (by first | rfl | simp [Region.wanted]) (fun wx hx => ?_) S0 (fun hc S0 => ?_)
                · go_simp
                try simp only [List.getElem_toArray, List.getElem_cons_zero, Act.put, List.setIfInBounds_toArray, List.set_cons_zero, List.set_cons_succ]
                refine wpAnyS_take (i := 1) (v := .int .i64 i) rfl (by kernel_rfl) (by kernel_rfl) (by kernel_rfl) (fun _ _ _ h => h) (fun _ _ => Iff.rfl) hc (by first | rfl | simp [Region.wanted]) (fun wx hx => ?_) S0 (fun hc S0 => ?_)
                · go_simp
                try simp only [List.getElem_toArray, List.getElem_cons_succ, List.getElem_cons_zero, Act.put, List.setIfInBounds_toArray, List.set_cons_zero, List.set_cons_succ]
                refine wpAnyS_take (i := 2) (v := .pointer (some ⟨g2, o2 + i, none⟩)) rfl (by kernel_rfl) (by kernel_rfl) (by kernel_rfl) (fun _ _ _ h => h) (fun _ _ => Iff.rfl) hc (by first | rfl | simp [Region.wanted]) (fun wx hx => ?_) S0 (fun hc S0 => ?_)
                · go_simp
                try simp only [List.getElem_toArray, List.getElem_cons_succ, List.getElem_cons_zero, Act.put, List.setIfInBounds_toArray, List.set_cons_zero, List.set_cons_succ]
                refine wpAnyS_take (i := 3) (v := .int .i64 p) rfl (by kernel_rfl) (by kernel_rfl) (by kernel_rfl) (fun _ _ _ h => h) (fun _ _ => Iff.rfl) hc (by first | rfl | simp [Region.wanted]) (fun wx hx => ?_) S0 (fun hc S0 => ?_)
                · have q := (hx.still.cell (p := ⟨g2, o2 + i, none⟩) s2).trans u2
                  go_simp
                try simp only [List.getElem_toArray, List.getElem_cons_succ, List.getElem_cons_zero, Act.put, List.setIfInBounds_toArray, List.set_cons_zero, List.set_cons_succ]
                refine wpAnyS_take (i := 4) (v := .slice (some ⟨g4, o4, none⟩) n2 c4) rfl (by kernel_rfl) (by kernel_rfl) (by kernel_rfl) (fun _ _ _ h => h) (fun _ _ => Iff.rfl) hc (by first | rfl | simp [Region.wanted]) (fun wx hx => ?_) S0 (fun hc S0 => ?_)
                · go_simp
                try simp only [List.getElem_toArray, List.getElem_cons_succ, List.getElem_cons_zero, Act.put, List.setIfInBounds_toArray, List.set_cons_zero, List.set_cons_succ]
                refine wpAnyS_take (i := 5) (v := .int .i64 j) rfl (by kernel_rfl) (by kernel_rfl) (by kernel_rfl) (fun _ _ _ h => h) (fun _ _ => Iff.rfl) hc (by first | rfl | simp [Region.wanted]) (fun wx hx => ?_) S0 (fun hc S0 => ?_)
                · go_simp
                try simp only [List.getElem_toArray, List.getElem_cons_succ, List.getElem_cons_zero, Act.put, List.setIfInBounds_toArray, List.set_cons_zero, List.set_cons_succ]
                refine wpAnyS_take (i := 6) (v := .pointer (some ⟨g4, o4 + j, none⟩)) rfl (by kernel_rfl) (by kernel_rfl) (by kernel_rfl) (fun _ _ _ h => h) (fun _ _ => Iff.rfl) hc (by first | rfl | simp [Region.wanted]) (fun wx hx => ?_) S0 (fun hc S0 => ?_)
                · go_simp
                try simp only [List.getElem_toArray, List.getElem_cons_succ, List.getElem_cons_zero, Act.put, List.setIfInBounds_toArray, List.set_cons_zero, List.set_cons_succ]
                refine wpAnyS_take (i := 7) (v := .int .i64 q) rfl (by kernel_rfl) (by kernel_rfl) (by kernel_rfl) (fun _ _ _ h => h) (fun _ _ => Iff.rfl) hc (by first | rfl | simp [Region.wanted]) (fun wx hx => ?_) S0 (fun hc S0 => ?_)
                · have q' := (hx.still.cell (p := ⟨g4, o4 + j, none⟩) s4).trans u4
                  go_simp
                try simp only [List.getElem_toArray, List.getElem_cons_succ, List.getElem_cons_zero, Act.put, List.setIfInBounds_toArray, List.set_cons_zero, List.set_cons_succ]
                refine wpAnyS_take (i := 8) (v := .int .i64 (p + q)) rfl (by kernel_rfl) (by kernel_rfl) (by kernel_rfl) (fun _ _ _ h => h) (fun _ _ => Iff.rfl) hc (by first | rfl | simp [Region.wanted]) (fun wx hx => ?_) S0 (fun hc S0 => ?_)
                · go_simp
                try simp only [List.getElem_toArray, List.getElem_cons_succ, List.getElem_cons_zero, Act.put, List.setIfInBounds_toArray, List.set_cons_zero, List.set_cons_succ]
                refine wpAnyS_one (i := 9) rfl (by kernel_rfl) (by rfl) hc (fun K' hK => ?_)
                go_simp
                refine hK.out _ _ (Below.refl _ _).drew (fun hc => ?_)
                clear hK K'
                have S0 : StillAt X1.drew #[] X1.drew.drew := (Below.refl _ _).drew
                try simp only [List.getElem_toArray, List.getElem_cons_succ, List.getElem_cons_zero, Act.put, List.setIfInBounds_toArray, List.set_cons_zero, List.set_cons_succ]
                refine wpAnyS_done (by kernel_rfl) ?_ _
                clear hc S0
                have HB3 := hid (HB2.out.drew)
                go_wp2_with fail
                go_roundw
                case rel => exact ⟨i + 1, j + 1, p + q, by omega, by omega, by go_num, by go_num, rfl, HSM.out, HB3.out⟩
                case measure => simp [RowKit.intOf]; omega
              · have gl : decide (least < 0) = false := decide_eq_false hl0
                obtain ⟨ob, hob⟩ : ∃ ob, ob = decide (p + q < least) := ⟨_, rfl⟩
                have HOB := hid hob
                clear hob
                refine wp_heldS (S := StillAt X1) (by kernel_rfl) ?_
                simp only [List.size_toArray, List.length_cons, List.length_nil, Nat.reduceAdd]
                intro hc
                have S0 : StillAt X1 (Array.replicate 15 false) X1.drew := (Below.refl _ _).drew
                refine wpAnyS_take (i := 0) (v := .int .i64 least) rfl (by kernel_rfl) (by kernel_rfl) (by kernel_rfl) (fun _ _ _ h => h) (fun _ _ => Iff.rfl) hc (by first | rfl | simp [Region.wanted]) (fun wx hx => ?_) S0 (fun hc S0 => ?_)
                · go_simp
                try simp only [List.getElem_toArray, List.getElem_cons_zero, Act.put, List.setIfInBounds_toArray, List.set_cons_zero, List.set_cons_succ]
                refine wpAnyS_take (i := 1) (v := .bool false) rfl (by kernel_rfl) (by kernel_rfl) (by kernel_rfl) (fun _ _ _ h => h) (fun _ _ => Iff.rfl) hc (by first | rfl | simp [Region.wanted]) (fun wx hx => ?_) S0 (fun hc S0 => ?_)
                · go_simp
                try simp only [List.getElem_toArray, List.getElem_cons_succ, List.getElem_cons_zero, Act.put, List.setIfInBounds_toArray, List.set_cons_zero, List.set_cons_succ]
                refine wpAnyS_take (i := 2) (v := .bool false) rfl (by kernel_rfl) (by kernel_rfl) (by kernel_rfl) (fun _ _ _ h => h) (fun _ _ => Iff.rfl) hc (by first | rfl | simp [Region.wanted]) (fun wx hx => ?_) S0 (fun hc S0 => ?_)
                · go_simp
                try simp only [List.getElem_toArray, List.getElem_cons_succ, List.getElem_cons_zero, Act.put, List.setIfInBounds_toArray, List.set_cons_zero, List.set_cons_succ]
                refine wpAnyS_take (i := 3) (v := .slice (some ⟨g2, o2, none⟩) n1 c2) rfl (by kernel_rfl) (by kernel_rfl) (by kernel_rfl) (fun _ _ _ h => h) (fun _ _ => Iff.rfl) hc (by first | rfl | simp [Region.wanted]) (fun wx hx => ?_) S0 (fun hc S0 => ?_)
                · go_simp
                try simp only [List.getElem_toArray, List.getElem_cons_succ, List.getElem_cons_zero, Act.put, List.setIfInBounds_toArray, List.set_cons_zero, List.set_cons_succ]
                refine wpAnyS_take (i := 4) (v := .int .i64 i) rfl (by kernel_rfl) (by kernel_rfl) (by kernel_rfl) (fun _ _ _ h => h) (fun _ _ => Iff.rfl) hc (by first | rfl | simp [Region.wanted]) (fun wx hx => ?_) S0 (fun hc S0 => ?_)
                · go_simp
                try simp only [List.getElem_toArray, List.getElem_cons_succ, List.getElem_cons_zero, Act.put, List.setIfInBounds_toArray, List.set_cons_zero, List.set_cons_succ]
                refine wpAnyS_take (i := 5) (v := .pointer (some ⟨g2, o2 + i, none⟩)) rfl (by kernel_rfl) (by kernel_rfl) (by kernel_rfl) (fun _ _ _ h => h) (fun _ _ => Iff.rfl) hc (by first | rfl | simp [Region.wanted]) (fun wx hx => ?_) S0 (fun hc S0 => ?_)
                · go_simp
                try simp only [List.getElem_toArray, List.getElem_cons_succ, List.getElem_cons_zero, Act.put, List.setIfInBounds_toArray, List.set_cons_zero, List.set_cons_succ]
                refine wpAnyS_take (i := 6) (v := .int .i64 p) rfl (by kernel_rfl) (by kernel_rfl) (by kernel_rfl) (fun _ _ _ h => h) (fun _ _ => Iff.rfl) hc (by first | rfl | simp [Region.wanted]) (fun wx hx => ?_) S0 (fun hc S0 => ?_)
                · have q := (hx.still.cell (p := ⟨g2, o2 + i, none⟩) z2').trans y2
                  go_simp
                try simp only [List.getElem_toArray, List.getElem_cons_succ, List.getElem_cons_zero, Act.put, List.setIfInBounds_toArray, List.set_cons_zero, List.set_cons_succ]
                refine wpAnyS_take (i := 7) (v := .slice (some ⟨g4, o4, none⟩) n2 c4) rfl (by kernel_rfl) (by kernel_rfl) (by kernel_rfl) (fun _ _ _ h => h) (fun _ _ => Iff.rfl) hc (by first | rfl | simp [Region.wanted]) (fun wx hx => ?_) S0 (fun hc S0 => ?_)
                · go_simp
                try simp only [List.getElem_toArray, List.getElem_cons_succ, List.getElem_cons_zero, Act.put, List.setIfInBounds_toArray, List.set_cons_zero, List.set_cons_succ]
                refine wpAnyS_take (i := 8) (v := .int .i64 j) rfl (by kernel_rfl) (by kernel_rfl) (by kernel_rfl) (fun _ _ _ h => h) (fun _ _ => Iff.rfl) hc (by first | rfl | simp [Region.wanted]) (fun wx hx => ?_) S0 (fun hc S0 => ?_)
                · go_simp
                try simp only [List.getElem_toArray, List.getElem_cons_succ, List.getElem_cons_zero, Act.put, List.setIfInBounds_toArray, List.set_cons_zero, List.set_cons_succ]
                refine wpAnyS_take (i := 9) (v := .pointer (some ⟨g4, o4 + j, none⟩)) rfl (by kernel_rfl) (by kernel_rfl) (by kernel_rfl) (fun _ _ _ h => h) (fun _ _ => Iff.rfl) hc (by first | rfl | simp [Region.wanted]) (fun wx hx => ?_) S0 (fun hc S0 => ?_)
                · go_simp
                try simp only [List.getElem_toArray, List.getElem_cons_succ, List.getElem_cons_zero, Act.put, List.setIfInBounds_toArray, List.set_cons_zero, List.set_cons_succ]
                refine wpAnyS_take (i := 10) (v := .int .i64 q) rfl (by kernel_rfl) (by kernel_rfl) (by kernel_rfl) (fun _ _ _ h => h) (fun _ _ => Iff.rfl) hc (by first | rfl | simp [Region.wanted]) (fun wx hx => ?_) S0 (fun hc S0 => ?_)
                · have q' := (hx.still.cell (p := ⟨g4, o4 + j, none⟩) z4').trans y4
                  go_simp
                try simp only [List.getElem_toArray, List.getElem_cons_succ, List.getElem_cons_zero, Act.put, List.setIfInBounds_toArray, List.set_cons_zero, List.set_cons_succ]
                refine wpAnyS_take (i := 11) (v := .int .i64 (p + q)) rfl (by kernel_rfl) (by kernel_rfl) (by kernel_rfl) (fun _ _ _ h => h) (fun _ _ => Iff.rfl) hc (by first | rfl | simp [Region.wanted]) (fun wx hx => ?_) S0 (fun hc S0 => ?_)
                · go_simp
                try simp only [List.getElem_toArray, List.getElem_cons_succ, List.getElem_cons_zero, Act.put, List.setIfInBounds_toArray, List.set_cons_zero, List.set_cons_succ]
                refine wpAnyS_take (i := 12) (v := .int .i64 least) rfl (by kernel_rfl) (by kernel_rfl) (by kernel_rfl) (fun _ _ _ h => h) (fun _ _ => Iff.rfl) hc (by first | rfl | simp [Region.wanted]) (fun wx hx => ?_) S0 (fun hc S0 => ?_)
                · go_simp
                try simp only [List.getElem_toArray, List.getElem_cons_succ, List.getElem_cons_zero, Act.put, List.setIfInBounds_toArray, List.set_cons_zero, List.set_cons_succ]
                refine wpAnyS_take (i := 13) (v := .bool ob) rfl (by kernel_rfl) (by kernel_rfl) (by kernel_rfl) (fun _ _ _ h => h) (fun _ _ => Iff.rfl) hc (by first | rfl | simp [Region.wanted]) (fun wx hx => ?_) S0 (fun hc S0 => ?_)
                · rw [HOB.out]
                  go_simp
                try simp only [List.getElem_toArray, List.getElem_cons_succ, List.getElem_cons_zero, Act.put, List.setIfInBounds_toArray, List.set_cons_zero, List.set_cons_succ]
                refine wpAnyS_one (i := 14) rfl (by kernel_rfl) (by rfl) hc (fun K' hK => ?_)
                go_simp
                refine hK.out _ _ (Below.refl _ _).drew (fun hc => ?_)
                clear hK K'
                have S0 : StillAt X1 #[] X1.drew := (Below.refl _ _).drew
                try simp only [List.getElem_toArray, List.getElem_cons_succ, List.getElem_cons_zero, Act.put, List.setIfInBounds_toArray, List.set_cons_zero, List.set_cons_succ]
                refine wpAnyS_done (by kernel_rfl) ?_ _
                clear hc S0
                have HB2 := hid (HB1.out.drew)
                have HD2 := hid (show Below X1.heap.size X1 X1.drew from (Below.refl _ _).drew)
                cases ob with
                | true =>
                  rw [if_pos (.inr (of_decide_eq_true HOB.out.symm))] at HSM
                  have u2 := (HD2.out.cell (p := ⟨g2, o2 + i, none⟩) z2').trans y2
                  have u4 := (HD2.out.cell (p := ⟨g4, o4 + j, none⟩) z4').trans y4
                  have s2 := Nat.lt_of_lt_of_le z2' HD2.out.size
                  have s4 := Nat.lt_of_lt_of_le z4' HD2.out.size
                  go_upto_region 15 with (fail)
                  refine wp_heldS (S := StillAt X1.drew) (by kernel_rfl) ?_
                  simp only [List.size_toArray, List.length_cons, List.length_nil, Nat.reduceAdd]
                  intro hc
                  have S0 : StillAt X1.drew (Array.replicate 10 false) X1.drew.drew := (Below.refl _ _).drew
                  refine wpAnyS_take (i := 0) (v := .slice (some ⟨g2, o2, none⟩) n1 c2) rfl (by kernel_rfl) (by kernel_rfl) (by kernel_rfl) (fun _ _ _ h => h) (fun _ _ => Iff.rfl) hc (by first | rfl | simp [Region.wanted]) (fun wx hx => ?_) S0 (fun hc S0 => ?_)
                  · go_simp
                  try simp only [List.getElem_toArray, List.getElem_cons_zero, Act.put, List.setIfInBounds_toArray, List.set_cons_zero, List.set_cons_succ]
                  refine wpAnyS_take (i := 1) (v := .int .i64 i) rfl (by kernel_rfl) (by kernel_rfl) (by kernel_rfl) (fun _ _ _ h => h) (fun _ _ => Iff.rfl) hc (by first | rfl | simp [Region.wanted]) (fun wx hx => ?_) S0 (fun hc S0 => ?_)
                  · go_simp
                  try simp only [List.getElem_toArray, List.getElem_cons_succ, List.getElem_cons_zero, Act.put, List.setIfInBounds_toArray, List.set_cons_zero, List.set_cons_succ]
                  refine wpAnyS_take (i := 2) (v := .pointer (some ⟨g2, o2 + i, none⟩)) rfl (by kernel_rfl) (by kernel_rfl) (by kernel_rfl) (fun _ _ _ h => h) (fun _ _ => Iff.rfl) hc (by first | rfl | simp [Region.wanted]) (fun wx hx => ?_) S0 (fun hc S0 => ?_)
                  · go_simp
                  try simp only [List.getElem_toArray, List.getElem_cons_succ, List.getElem_cons_zero, Act.put, List.setIfInBounds_toArray, List.set_cons_zero, List.set_cons_succ]
                  refine wpAnyS_take (i := 3) (v := .int .i64 p) rfl (by kernel_rfl) (by kernel_rfl) (by kernel_rfl) (fun _ _ _ h => h) (fun _ _ => Iff.rfl) hc (by first | rfl | simp [Region.wanted]) (fun wx hx => ?_) S0 (fun hc S0 => ?_)
                  · have q := (hx.still.cell (p := ⟨g2, o2 + i, none⟩) s2).trans u2
                    go_simp
                  try simp only [List.getElem_toArray, List.getElem_cons_succ, List.getElem_cons_zero, Act.put, List.setIfInBounds_toArray, List.set_cons_zero, List.set_cons_succ]
                  refine wpAnyS_take (i := 4) (v := .slice (some ⟨g4, o4, none⟩) n2 c4) rfl (by kernel_rfl) (by kernel_rfl) (by kernel_rfl) (fun _ _ _ h => h) (fun _ _ => Iff.rfl) hc (by first | rfl | simp [Region.wanted]) (fun wx hx => ?_) S0 (fun hc S0 => ?_)
                  · go_simp
                  try simp only [List.getElem_toArray, List.getElem_cons_succ, List.getElem_cons_zero, Act.put, List.setIfInBounds_toArray, List.set_cons_zero, List.set_cons_succ]
                  refine wpAnyS_take (i := 5) (v := .int .i64 j) rfl (by kernel_rfl) (by kernel_rfl) (by kernel_rfl) (fun _ _ _ h => h) (fun _ _ => Iff.rfl) hc (by first | rfl | simp [Region.wanted]) (fun wx hx => ?_) S0 (fun hc S0 => ?_)
                  · go_simp
                  try simp only [List.getElem_toArray, List.getElem_cons_succ, List.getElem_cons_zero, Act.put, List.setIfInBounds_toArray, List.set_cons_zero, List.set_cons_succ]
                  refine wpAnyS_take (i := 6) (v := .pointer (some ⟨g4, o4 + j, none⟩)) rfl (by kernel_rfl) (by kernel_rfl) (by kernel_rfl) (fun _ _ _ h => h) (fun _ _ => Iff.rfl) hc (by first | rfl | simp [Region.wanted]) (fun wx hx => ?_) S0 (fun hc S0 => ?_)
                  · go_simp
                  try simp only [List.getElem_toArray, List.getElem_cons_succ, List.getElem_cons_zero, Act.put, List.setIfInBounds_toArray, List.set_cons_zero, List.set_cons_succ]
                  refine wpAnyS_take (i := 7) (v := .int .i64 q) rfl (by kernel_rfl) (by kernel_rfl) (by kernel_rfl) (fun _ _ _ h => h) (fun _ _ => Iff.rfl) hc (by first | rfl | simp [Region.wanted]) (fun wx hx => ?_) S0 (fun hc S0 => ?_)
                  · have q' := (hx.still.cell (p := ⟨g4, o4 + j, none⟩) s4).trans u4
                    go_simp
                  try simp only [List.getElem_toArray, List.getElem_cons_succ, List.getElem_cons_zero, Act.put, List.setIfInBounds_toArray, List.set_cons_zero, List.set_cons_succ]
                  refine wpAnyS_take (i := 8) (v := .int .i64 (p + q)) rfl (by kernel_rfl) (by kernel_rfl) (by kernel_rfl) (fun _ _ _ h => h) (fun _ _ => Iff.rfl) hc (by first | rfl | simp [Region.wanted]) (fun wx hx => ?_) S0 (fun hc S0 => ?_)
                  · go_simp
                  try simp only [List.getElem_toArray, List.getElem_cons_succ, List.getElem_cons_zero, Act.put, List.setIfInBounds_toArray, List.set_cons_zero, List.set_cons_succ]
                  refine wpAnyS_one (i := 9) rfl (by kernel_rfl) (by rfl) hc (fun K' hK => ?_)
                  go_simp
                  refine hK.out _ _ (Below.refl _ _).drew (fun hc => ?_)
                  clear hK K'
                  have S0 : StillAt X1.drew #[] X1.drew.drew := (Below.refl _ _).drew
                  try simp only [List.getElem_toArray, List.getElem_cons_succ, List.getElem_cons_zero, Act.put, List.setIfInBounds_toArray, List.set_cons_zero, List.set_cons_succ]
                  refine wpAnyS_done (by kernel_rfl) ?_ _
                  clear hc S0
                  have HB3 := hid (HB2.out.drew)
                  go_wp2_with fail
                  go_roundw
                  case rel => exact ⟨i + 1, j + 1, p + q, by omega, by omega, by go_num, by go_num, rfl, HSM.out, HB3.out⟩
                  case measure => simp [RowKit.intOf]; omega
                | false =>
                  rw [if_neg (by rintro (h | h); exact hl0 h; exact (of_decide_eq_false HOB.out.symm) h)] at HSM
                  go_wp2_with fail
                  go_roundw
                  case rel => exact ⟨i + 1, j + 1, least, by omega, by omega, by go_num, by go_num, rfl, HSM.out, HB2.out⟩
                  case measure => simp [RowKit.intOf]; omega
          · have HD := HTW.out.done (by have := HNN.out; omega)
            obtain ⟨q1, q2⟩ := Fo.forms_plain HN1.out.1 HN2.out.1 HN1.out.2.1 HN1.out.2.2 HN2.out.2 HD
            rw [← HR.out] at q1 q2
            have hge : decide (i < n1) = false ∨ decide (j < n2) = false := by
              by_cases h1 : i < n1
              · exact .inr (decide_eq_false (fun h2 => hgo ⟨h1, h2⟩))
              · exact .inl (decide_eq_false h1)
            have p0 := (P8.out.below HBR.out).cell (j := 0) rfl
            have pl := (P8.out.below HBR.out).lt
            have HQ1 := hid q1
            have HQ2 := hid q2
            have BF := hid (Below.step B8.out HBR.out)
            clear HD q1 q2
            obtain ⟨rc, hrc⟩ : ∃ rc, rc = r.1.cost := ⟨_, rfl⟩
            obtain ⟨re, hre⟩ : ∃ re, re = r.2 := ⟨_, rfl⟩
            rw [← hrc, ← hre] at HQ1 HQ2
            rw [← hrc] at p0
            rw [← hre]
            clear hrc hre
            by_cases h1 : i < n1
            · have i1 : (i : Int) < (n1 : Int) := by omega
              have j1 : ¬ (j : Int) < (n2 : Int) := by omega
              clear hgo hge
              by_cases hl0 : 0 ≤ least
              · obtain ⟨e0, hle⟩ := HQ1.out hl0
                have gl : decide (0 ≤ least) = true := decide_eq_true hl0
                subst e0
                have gc : decide (least < rc) = false := decide_eq_false (by omega)
                by_cases hm : most < rc
                · have gm : decide (most < rc) = true := decide_eq_true hm
                  go_wp2_with fail
                  go_ret
                  exact ⟨rfl, BF.out⟩
                · have gm : decide (most < rc) = false := decide_eq_false hm
                  have ge : (least == rc) = true := by rw [beq_iff_eq]; exact HQ2.out rfl (by omega)
                  go_wp2_with fail
                  go_ret
                  exact ⟨rfl, BF.out⟩
              · have gl : decide (0 ≤ least) = false := decide_eq_false hl0
                by_cases hre : re = 0
                · subst hre
                  by_cases hm : most < rc
                  · have gm : decide (most < rc) = true := decide_eq_true hm
                    go_wp2_with fail
                    go_ret
                    exact ⟨rfl, BF.out⟩
                  · have gm : decide (most < rc) = false := decide_eq_false hm
                    have ge : (least == rc) = true := by rw [beq_iff_eq]; exact HQ2.out rfl (by omega)
                    go_wp2_with fail
                    go_ret
                    exact ⟨rfl, BF.out⟩
                · have gr : (re != 0) = true := by rw [bne_iff_ne]; exact hre
                  go_wp2_with fail
                  go_ret
                  exact ⟨rfl, BF.out⟩
            · have i1 : ¬ (i : Int) < (n1 : Int) := by omega
              clear hgo hge
              by_cases hl0 : 0 ≤ least
              · obtain ⟨e0, hle⟩ := HQ1.out hl0
                have gl : decide (0 ≤ least) = true := decide_eq_true hl0
                subst e0
                have gc : decide (least < rc) = false := decide_eq_false (by omega)
                by_cases hm : most < rc
                · have gm : decide (most < rc) = true := decide_eq_true hm
                  go_wp2_with fail
                  go_ret
                  exact ⟨rfl, BF.out⟩
                · have gm : decide (most < rc) = false := decide_eq_false hm
                  have ge : (least == rc) = true := by rw [beq_iff_eq]; exact HQ2.out rfl (by omega)
                  go_wp2_with fail
                  go_ret
                  exact ⟨rfl, BF.out⟩
              · have gl : decide (0 ≤ least) = false := decide_eq_false hl0
                by_cases hre : re = 0
                · subst hre
                  by_cases hm : most < rc
                  · have gm : decide (most < rc) = true := decide_eq_true hm
                    go_wp2_with fail
                    go_ret
                    exact ⟨rfl, BF.out⟩
                  · have gm : decide (most < rc) = false := decide_eq_false hm
                    have ge : (least == rc) = true := by rw [beq_iff_eq]; exact HQ2.out rfl (by omega)
                    go_wp2_with fail
                    go_ret
                    exact ⟨rfl, BF.out⟩
                · have gr : (re != 0) = true := by rw [bne_iff_ne]; exact hre
                  go_wp2_with fail
                  go_ret
                  exact ⟨rfl, BF.out⟩

end Go.Proofs.YthibphklchalkaaGreatDoor
