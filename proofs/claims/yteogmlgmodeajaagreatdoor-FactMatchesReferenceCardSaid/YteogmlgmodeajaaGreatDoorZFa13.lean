/-
  fact.CaseText. Conditions: lengths; the table of powers lies where it was laid.
-/
import Derived.Test.YteogmlgmodeajaaGreatDoorZFa12
import Derived.Test.YteogmlgmodeajaaGreatDoorZStillAt
import Derived.Test.YteogmlgmodeajaaGreatDoorZMBase
namespace Go.Proofs.YteogmlgmodeajaaGreatDoor
open Go.RowKit Go.Maps Go.Lib

/-- all blocks but some are as they were -/
def StillT (O : Nat → Prop) (A : World) (_ : Array Bool) (X : World) : Prop := Tch O A X
theorem AtS.stillT {md : Region.Mode} {ops : Array Oper} {O : Nat → Prop} {A X : World} {i : Nat} (h : AtS md ops (StillT O A) i X) : Tch O A X := by
  obtain ⟨_, _, _, h⟩ := h
  exact h

def stC (x : List UInt8) : List Value := [.string (bs x)]
theorem Tryz.infoStr : (Tryz.prog.info? 9).map (fun i => (i.zero, i.size, i.bytes)) = some (some (.string ⟨#[]⟩), 1, 16) := by kernel_rfl

theorem joined_join (l : List (List UInt8)) : Fa.joined l = join l [44, 32] := by
  cases l with
  | nil => rfl
  | cons x l => rw [join_lists]; rfl
theorem caseText_not {d : Fa.Dom} {c : List Int} (h : Fa.fits d c = false) : Fa.caseText d c = [] := by unfold Fa.caseText; rw [h]; rfl
theorem caseText_yes {d : Fa.Dom} {c : List Int} (h : Fa.fits d c = true) : Fa.caseText d c = join ((d.zip c).map Fa.pairText) [44, 32] := by unfold Fa.caseText; rw [if_pos h, joined_join]
/-- the texts of the pairs so far -/
def prTo (d : Fa.Dom) (c : List Int) (k : Nat) : List (List UInt8) := ((d.zip c).take k).map Fa.pairText
theorem prTo_step {d : Fa.Dom} {c : List Int} {k : Nat} {f : Fa.Fact} {x : Int} (hf : d[k]? = some f) (hx : c[k]? = some x) : (prTo d c (k + 1)).flatMap stC = (prTo d c k).flatMap stC ++ [.string (bs (Fa.pairText (f, x)))] := by
  unfold prTo
  rw [take_snoc (x := (f, x)) (by rw [List.getElem?_zip_eq_some]; exact ⟨hf, hx⟩)]
  simp [stC]

theorem pair_bs (f : Fa.Fact) (x : Int) : bs f.name ++ ⟨#[32, 61, 32]⟩ ++ bs (Lx.dec x.toNat) = bs (Fa.pairText (f, x)) := by
  refine bs_ext ?_
  simp [ByteArray.data_append, bs, Fa.pairText]

set_option maxRecDepth 100000 in
set_option maxHeartbeats 4000000 in
theorem factCaseText_any (d : Fa.Dom) (c : List Int) (v vc : Value) (w : World) (h : SlOf w v 4 factC d) (hcs : SlOf w vc 1 numC c) (hn : ∀ f ∈ d, f.name.length ≤ 5000) (hd : d.length ≤ 5000) (hT : Tab10 w) :
    Calls Tryz.prog 20 #[.agg #[v], vc] w (Gives (.string (bs (Fa.caseText d c))) w) := by
  obtain ⟨i0, hi, hz0, hz1, hz2⟩ := info_parts Tryz.infoStr
  have HS := hid h
  have HC := hid hcs
  have HT := hid hT
  obtain ⟨W1, hW1⟩ : ∃ W1, W1 = w.alloc (.cells #[v] 24) := ⟨_, rfl⟩
  have hb1 : Below w.heap.size w W1 := by rw [hW1]; exact (Below.refl _ w).alloc (Nat.le_refl _) _
  have hs1 : W1.heap[w.heap.size]? = some (.cells #[v] 24 (0, 0)) := by rw [hW1]; exact alloc_new w _
  have HVC := hid (factFits_any d c v vc W1 (h.below hb1) (hcs.below hb1) hn hd)
  obtain ⟨va, cap, rfl, k1, k2, -⟩ := h
  obtain ⟨vd, cap2, rfl, k3, k4, -⟩ := hcs
  have HB1 := hid hb1
  have hd2 : d.length ≤ 9223372036854775807 := by omega
  have hd5 : d.length ≤ 5000 := hd
  have c1 : W1.cell? ⟨w.heap.size, 0, none⟩ = some (.slice va d.length cap) := by simp [World.cell?, hs1]
  have hz1' : w.heap.size < W1.heap.size := (Array.getElem?_eq_some_iff.1 hs1).1
  have HC1 := hid c1
  clear hb1 hs1 hn hd hT
  go_enter Tryz.func20, Tryz.ntmps20
  go_wp2_with fail
  rw [← hW1]
  clear hW1
  refine (HVC.out).mono ?_
  rintro e w2 ⟨rfl, hb2⟩
  clear c1
  have c2 : w2.cell? ⟨w.heap.size, 0, none⟩ = some (.slice va d.length cap) := (hb2.cell (p := ⟨w.heap.size, 0, none⟩) hz1').trans HC1.out
  have hz2' : w.heap.size < w2.heap.size := Nat.lt_of_lt_of_le hz1' hb2.size
  have HB2 := hid (Below.step HB1.out hb2)
  have HC2 := hid c2
  clear hb2
  cases hv : Fa.fits d c with
  | false =>
    have HE := hid (caseText_not hv)
    clear hv
    go_wp2_with fail
    go_ret
    rw [HE.out]
    exact ⟨rfl, HB2.out⟩
  | true =>
    have HV := hid hv
    have HE := hid (caseText_yes hv)
    have HL := hid (Fa.fits_parts hv).2.1
    clear hv
    go_wp2_with fail
    go_loopw [5, 15] (fun vo iv wr => ∃ k : Nat, k ≤ d.length ∧ iv = .int .i64 k ∧ Hid (wr.ownsRow (w.heap.size + 1) 9 1 vo k ((prTo d c k).flatMap stC)) ∧ Hid (Below (w.heap.size + 1) w2 wr)) (fun _ iv _ => d.length - (RowKit.intOf iv).toNat)
    case atStart => exact ⟨0, Nat.zero_le _, rfl, World.ownsRow_nil _ _ _ _, Below.refl _ _⟩
    case round =>
      obtain ⟨k, hk, rfl, HO, HR⟩ := hrel
      have HBR := hid (HB2.out.trans (HR.out.mono (by omega)))
      clear c2
      have c2 : wr.cell? ⟨w.heap.size, 0, none⟩ = some (.slice va d.length cap) := (HR.out.cell (p := ⟨w.heap.size, 0, none⟩) (Nat.lt_succ_self _)).trans HC2.out
      have hzr : w.heap.size < wr.heap.size := Nat.lt_of_lt_of_le hz2' HR.out.size
      by_cases hlt : k < d.length
      · obtain ⟨f, hf⟩ : ∃ f, d[k]? = some f := ⟨_, List.getElem?_eq_getElem hlt⟩
        obtain ⟨x, hx⟩ : ∃ x, c[k]? = some x := ⟨_, List.getElem?_eq_getElem (by rw [HL.out]; exact hlt)⟩
        obtain ⟨lva, lcap, rfl⟩ := ownsRow_slice HO.out
        obtain ⟨g, o, rfl, hg, e0, e1, e2, e3⟩ := fact_cells HS.out hf HBR.out
        obtain ⟨g2, o2, rfl, hg2, y0⟩ := num_cell HC.out hx HBR.out
        have hg2w : g2 < w.heap.size := by
          obtain ⟨g', o', e', hg', -⟩ := num_cell HC.out hx (Below.refl _ w)
          cases e'
          exact hg'
        have hk0 : (0 : Int) ≤ (k : Int) := by omega
        have hk1 : (k : Int) < (d.length : Int) := by omega
        have hk2 : (k : Int) < (c.length : Int) := by have := HL.out; omega
        have hin := Fa.in_of_fits HV.out (f, x) (by rw [List.mem_iff_getElem?]; exact ⟨k, by rw [List.getElem?_zip_eq_some]; exact ⟨hf, hx⟩⟩)
        have hokp := (Fa.Fit.ok (Fa.fits_parts HV.out).1 (p := (f, x)) ⟨List.mem_of_getElem? hf, (Fa.fits_parts HV.out).2.2 _ (by rw [List.mem_iff_getElem?]; exact ⟨k, by rw [List.getElem?_zip_eq_some]; exact ⟨hf, hx⟩⟩)⟩).1
        have hx0 : 0 ≤ x := hokp.2.1
        have hx1 : x ≤ 1000000 := hokp.2.2
        have hpl := Fa.pair_len hokp
        have HPS := hid (prTo_step hf hx)
        obtain ⟨W5, hW5⟩ : ∃ W5, W5 = wr.alloc (.cells #[.string (bs f.name), .int .i64 f.kind, .int .i64 f.lo, .int .i64 f.hi] 62) := ⟨_, rfl⟩
        have hb5 : Below wr.heap.size wr W5 := by rw [hW5]; exact (Below.refl _ wr).alloc (Nat.le_refl _) _
        have hs5 : W5.heap[wr.heap.size]? = some (.cells #[.string (bs f.name), .int .i64 f.kind, .int .i64 f.lo, .int .i64 f.hi] 62 (0, 0)) := by rw [hW5]; exact alloc_new wr _
        have x0 : W5.cell? ⟨wr.heap.size, 0, none⟩ = some (.string (bs f.name)) := by simp [World.cell?, hs5]
        have xz5 : wr.heap.size < W5.heap.size := (Array.getElem?_eq_some_iff.1 hs5).1
        have hy5 : W5.cell? ⟨g2, o2 + k, none⟩ = some (.int .i64 x) := (hb5.cell (p := ⟨g2, o2 + k, none⟩) hg2).trans y0
        have hown5 := ownsRow_below HO.out hb5
        have hg25 : g2 < W5.heap.size := Nat.lt_of_lt_of_le hg2 hb5.size
        have hT5 := HT.out.below (Below.step HBR.out hb5)
        have hR5 := HR.out.trans (hb5.mono (by omega))
        have hlo : ∀ q, (Value.slice lva k lcap).ownBlock = some q → w.heap.size + 1 ≤ q ∧ q < wr.heap.size := fun q e => HO.out.lt q e
        have hnm := Fa.nm_len hokp.1
        have hdl := Fa.dec_len (n := x.toNat) 7 (by decide) (by omega)
        have hn1 : (bs f.name).size ≤ 24 := by rw [bs_size]; exact hnm.2
        have hn2 : (bs (Lx.dec x.toNat)).size ≤ 7 := by rw [bs_size]; exact hdl
        have hn3 : (bs f.name).size ≤ 9223372036854775804 := by omega
        have hn4 : ¬ 9223372036854775807 < (bs f.name).size + 3 + (bs (Lx.dec x.toNat)).size := by omega
        have hn5 : (bs f.name).size + 3 + (bs (Lx.dec x.toNat)).size ≤ 9223372036854775807 := by omega
        clear hf hx hb5 hs5 hokp hin y0
        go_upto_region 7 with (fail)
        rw [← hW5]
        clear hW5 e0 e1 e2 e3
        refine wp_heldS (S := StillT (fun b => (Value.slice lva k lcap).ownBlock = some b) W5) (by kernel_rfl) ?_
        simp only [List.size_toArray, List.length_cons, List.length_nil, Nat.reduceAdd]
        intro hc
        have S0 : StillT (fun b => (Value.slice lva k lcap).ownBlock = some b) W5 (Array.replicate 13 false) W5.drew := (Tch.refl (fun b => (Value.slice lva k lcap).ownBlock = some b) W5).step (Below.refl _ _).drew
        refine wpAnyS_take (i := 0) (v := .slice lva k lcap) rfl (by kernel_rfl) (by kernel_rfl) (by kernel_rfl) (fun _ _ _ h => h) (fun _ _ => Iff.rfl) hc (by rfl) (fun wx hx => ?_) S0 (fun hc S0 => ?_)
        · go_simp
        try simp only [List.getElem_toArray, List.getElem_cons_zero, Act.put, List.setIfInBounds_toArray, List.set_cons_zero, List.set_cons_succ]
        refine wpAnyS_take (i := 1) (v := .pointer (some ⟨wr.heap.size, 0, none⟩)) rfl (by kernel_rfl) (by kernel_rfl) (by kernel_rfl) (fun _ _ _ h => h) (fun _ _ => Iff.rfl) hc (by rfl) (fun wx hx => ?_) S0 (fun hc S0 => ?_)
        · go_simp
        try simp only [List.getElem_toArray, List.getElem_cons_succ, List.getElem_cons_zero, Act.put, List.setIfInBounds_toArray, List.set_cons_zero, List.set_cons_succ]
        refine wpAnyS_take (i := 2) (v := .string (bs f.name)) rfl (by kernel_rfl) (by kernel_rfl) (by kernel_rfl) (fun _ _ _ h => h) (fun _ _ => Iff.rfl) hc (by rfl) (fun wx hx => ?_) S0 (fun hc S0 => ?_)
        · have g := (World.cell?_of_block (a := ⟨wr.heap.size, 0, none⟩) (hx.stillT.block _ xz5 (fun e => absurd (hlo _ e).2 (Nat.lt_irrefl _)))).trans x0
          go_simp
        try simp only [List.getElem_toArray, List.getElem_cons_succ, List.getElem_cons_zero, Act.put, List.setIfInBounds_toArray, List.set_cons_zero, List.set_cons_succ]
        refine wpAnyS_take (i := 3) (v := .string (bs f.name ++ ⟨#[32, 61, 32]⟩)) rfl (by kernel_rfl) (by kernel_rfl) (by kernel_rfl) (fun _ _ _ h => h) (fun _ _ => Iff.rfl) hc (by rfl) (fun wx hx => ?_) S0 (fun hc S0 => ?_)
        · go_simp
        try simp only [List.getElem_toArray, List.getElem_cons_succ, List.getElem_cons_zero, Act.put, List.setIfInBounds_toArray, List.set_cons_zero, List.set_cons_succ]
        refine wpAnyS_take (i := 4) (v := .slice (some ⟨g2, o2, none⟩) c.length cap2) rfl (by kernel_rfl) (by kernel_rfl) (by kernel_rfl) (fun _ _ _ h => h) (fun _ _ => Iff.rfl) hc (by rfl) (fun wx hx => ?_) S0 (fun hc S0 => ?_)
        · go_simp
        try simp only [List.getElem_toArray, List.getElem_cons_succ, List.getElem_cons_zero, Act.put, List.setIfInBounds_toArray, List.set_cons_zero, List.set_cons_succ]
        refine wpAnyS_take (i := 5) (v := .int .i64 k) rfl (by kernel_rfl) (by kernel_rfl) (by kernel_rfl) (fun _ _ _ h => h) (fun _ _ => Iff.rfl) hc (by rfl) (fun wx hx => ?_) S0 (fun hc S0 => ?_)
        · go_simp
        try simp only [List.getElem_toArray, List.getElem_cons_succ, List.getElem_cons_zero, Act.put, List.setIfInBounds_toArray, List.set_cons_zero, List.set_cons_succ]
        refine wpAnyS_take (i := 6) (v := .pointer (some ⟨g2, o2 + k, none⟩)) rfl (by kernel_rfl) (by kernel_rfl) (by kernel_rfl) (fun _ _ _ h => h) (fun _ _ => Iff.rfl) hc (by rfl) (fun wx hx => ?_) S0 (fun hc S0 => ?_)
        · go_simp
        try simp only [List.getElem_toArray, List.getElem_cons_succ, List.getElem_cons_zero, Act.put, List.setIfInBounds_toArray, List.set_cons_zero, List.set_cons_succ]
        refine wpAnyS_take (i := 7) (v := .int .i64 x) rfl (by kernel_rfl) (by kernel_rfl) (by kernel_rfl) (fun _ _ _ h => h) (fun _ _ => Iff.rfl) hc (by rfl) (fun wx hx => ?_) S0 (fun hc S0 => ?_)
        · have g := (World.cell?_of_block (a := ⟨g2, o2 + k, none⟩) (hx.stillT.block _ hg25 (fun e => absurd (Nat.lt_of_succ_le (hlo _ e).1) (Nat.not_lt.2 (Nat.le_of_lt hg2w))))).trans hy5
          go_simp
        try simp only [List.getElem_toArray, List.getElem_cons_succ, List.getElem_cons_zero, Act.put, List.setIfInBounds_toArray, List.set_cons_zero, List.set_cons_succ]
        refine wpAnyS_one (i := 8) rfl (by kernel_rfl) (by rfl) hc (fun K' hK => ?_)
        go_simp
        refine (itoa_any x hx0 (by omega) W5.drew (hT5.below (Below.refl _ _).drew)).mono ?_
        rintro e w6 ⟨rfl, hb6⟩
        have hb56 : Below W5.heap.size W5 w6 := Below.step (Below.refl _ _).drew hb6
        refine hK.out _ _ (Tch.of_below hb56 _) (fun hc => ?_)
        clear hK K'
        refine wpAnyS_one (i := 9) rfl (by kernel_rfl) (by rfl) hc (fun K' hK => ?_)
        go_simp
        rw [pair_bs]
        refine hK.out _ _ (Tch.of_below hb56 _) (fun hc => ?_)
        clear hK K'
        refine wpAnyS_one (i := 10) rfl (by kernel_rfl) (by rfl) hc (fun K' hK => ?_)
        go_simp
        have hb7 : Below W5.heap.size W5 (w6.alloc (.cells #[.string (bs (Fa.pairText (f, x)))] 9)) := Below.step hb56 ((Below.refl _ w6).alloc (Nat.le_refl _) _)
        refine hK.out _ _ (Tch.of_below hb7 _) (fun hc => ?_)
        clear hK K'
        have hown7 := (ownsRow_below hown5 hb56).alloc (.cells #[.string (bs (Fa.pairText (f, x)))] 9)
        have hz56 := hb56.size
        refine wpAnyS_one (i := 11) rfl (by kernel_rfl) (by rfl) hc (fun K' hK => ?_)
        refine wp_append_own _ _ _ 79 rfl (w.heap.size + 1) 9 i0 (.string ⟨#[]⟩) 1 16 Tryz.underlying79 hi hz0 hz1 hz2 rfl (by decide) _ _ _ rfl hown7 ⟨w6.heap.size, 0, none⟩ 1 1 [.string (bs (Fa.pairText (f, x)))] rfl rfl (cell_one_new _ _ _) (by simp [Value.oneCell']) (by unfold maxLen; omega) (by omega) (by simp; omega) ?_
        intro v' w8 ho8 hg8 _
        refine hK.out _ _ ((Tch.of_below hb7 _).grown hg8 fun r e => .inl e) (fun hc => ?_)
        clear hK K'
        try simp only [List.getElem_toArray, List.getElem_cons_succ, List.getElem_cons_zero, Act.put, List.setIfInBounds_toArray, List.set_cons_zero, List.set_cons_succ]
        refine wpAnyS_one (i := 12) rfl (by kernel_rfl) (by rfl) hc (fun K' hK => ?_)
        go_simp
        refine hK.out _ _ ((Tch.of_below hb7 _).grown hg8 fun r e => .inl e) (fun hc => ?_)
        clear hK K'
        refine wpAnyS_done (by kernel_rfl) ?_ _
        have HO8 := hid (show w8.ownsRow (w.heap.size + 1) 9 1 v' (k + 1) ((prTo d c (k + 1)).flatMap stC) by rw [HPS.out]; exact ho8)
        have HR8 := hid (Below.appended (hR5.trans (hb7.mono (by omega))) hg8 (by simp; omega) hown7)
        clear hc S0 ho8 hg8 hown7 hb7 hb6 hb56 hown5 hT5 hR5 hlo hn3 hn4 hn5 hn1 hn2
        go_wp2_with fail
        go_roundw
        case rel => exact ⟨k + 1, by omega, by go_num, HO8, HR8⟩
        case measure => simp [RowKit.intOf]; omega
      · have hke : k = d.length := by omega
        subst hke
        have hpr : prTo d c d.length = (d.zip c).map Fa.pairText := by unfold prTo; rw [List.take_of_length_le (by simp; omega)]
        obtain ⟨lva, lcap, rfl⟩ := ownsRow_slice HO.out
        have hzl : (d.zip c).length = d.length := by have := HL.out; simp; omega
        have hjl := Fa.caseText_len d c
        rw [HE.out] at hjl
        by_cases hd0 : d.length = 0
        · have hxs : (d.zip c).map Fa.pairText = [] := by rw [List.map_eq_nil_iff]; exact List.length_eq_zero_iff.1 (by omega)
          have HN := hid (show Fa.caseText d c = [] by rw [HE.out, hxs]; rfl)
          have HJ := hid (Tryz.strings_Join_none lva lcap ⟨#[44, 32]⟩ wr)
          clear hxs hzl hjl hpr
          go_wp2_with fail
          refine (HJ.out).mono ?_
          rintro e w' ⟨rfl, rfl⟩
          go_wp2_with fail
          go_ret
          rw [HN.out]
          exact ⟨rfl, HBR.out⟩
        · have hown : wr.ownsRow (w.heap.size + 1) 9 1 (.slice lva d.length lcap) (prTo d c d.length).length ((prTo d c d.length).flatMap stC) := by
            have : (prTo d c d.length).length = d.length := by rw [hpr, List.length_map]; exact hzl
            rw [this]; exact HO.out
          obtain ⟨a', cap', ea, hcp, -, h4⟩ := SlOf.own hown fun x _ => rfl
          have hpl : (prTo d c d.length).length = d.length := by rw [hpr, List.length_map]; exact hzl
          rw [hpl] at ea hcp h4
          have ea1 := (Value.slice.inj ea).1
          have ea2 := (Value.slice.inj ea).2.2
          obtain ⟨gs, os, hg, hr⟩ := h4 (by omega)
          rw [← ea1] at hg
          subst hg
          have HJ : Hid (Calls Tryz.prog 48 #[.slice (some ⟨gs, os, none⟩) d.length lcap, .string ⟨#[44, 32]⟩] wr (Gives (.string (bs (join ((d.zip c).map Fa.pairText) [44, 32]))) wr)) := by
            have h := join_any gs os lcap (prTo d c d.length) [44, 32] wr (fun j x hj => by
              have := hr.2 j x hj 0 _ rfl
              rw [Nat.mul_one, Nat.add_zero] at this
              exact this) hr.1 (by rw [hpl]; omega) (by rw [hpl, ea2]; exact hcp) (by rw [hpr]; omega)
            rw [hpl, hpr] at h
            exact h
          clear hown ea hcp h4 ea1 ea2 hr hpl hpr hzl hjl hd0
          go_wp2_with fail
          refine (HJ.out).mono ?_
          rintro e w' ⟨rfl, hb'⟩
          have HB' := hid (Below.step HBR.out hb')
          clear hb'
          go_wp2_with fail
          go_ret
          rw [HE.out]
          exact ⟨rfl, HB'.out⟩

end Go.Proofs.YteogmlgmodeajaaGreatDoor
