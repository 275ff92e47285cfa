/-
  The statement LedgerCopies as the program computes it. Conditions: sizes that arguments can have.
-/
import Derived.Test.YtfkcphflcmpenaaDoorZLaw37b
import Derived.Test.YtfkcphflcmpenaaDoorZLed14
import Derived.BigQuiet
namespace Go.Proofs.YtfkcphflcmpenaaDoor
open Go.RowKit Go.Lib Go.Maps

set_option maxRecDepth 100000 in
set_option maxHeartbeats 8000000 in
theorem copies_law (w : World) (va vl : Value) (c : Nat) (ns : List ByteArray) (bs : List (Lg.Bk × Value)) (x : Lg.Bk × Value) (h : ArgsMore w va vl ns bs x) (hc : c < 65536) :
    Calls Tryd.prog 8 #[va, .int .u16 c, vl, bookV x] w (Gives (.bool true) w) := by
  have HA := hid h
  obtain ⟨i0, hi, hz0, hz1, hz2⟩ := info_parts Tryd.infoBk
  obtain ⟨aa, ca, rfl, a1, a2, a3⟩ := h.a
  obtain ⟨la, lc, rfl, l1, l2, l3⟩ := h.l
  obtain ⟨xa, xc, hxv, x1, x2, x3⟩ := h.x
  have HN := hid (h.none_ _ _ _ rfl)
  have hroom := h.room
  have HXV := hid hxv
  clear h a3 l3 x3
  unfold bookV
  rw [hxv]
  clear hxv
  obtain ⟨W0, hW0⟩ : ∃ W0, W0 = w.alloc (.cells #[.string x.1.id, .int .i64 x.1.at_, .slice xa x.1.posts.length xc] 36) := ⟨_, rfl⟩
  have hb0 : Below w.heap.size w W0 := by rw [hW0]; exact (Below.refl _ w).alloc (Nat.le_refl _) _
  have hs0 : W0.heap[w.heap.size]? = some (.cells #[.string x.1.id, .int .i64 x.1.at_, .slice xa x.1.posts.length xc] 36 (0, 0)) := by rw [hW0]; exact alloc_new w _
  have H0 := hid (And.intro hb0 hs0)
  have HHD := hid (head_true W0)
  clear hb0 hs0
  go_enter Tryd.func8, Tryd.ntmps8
  go_wp2_with fail
  rw [← hW0]
  clear hW0
  refine (HHD.out).mono ?_
  rintro e w1 ⟨rfl, hb1⟩
  have hB1 := Below.step H0.out.1 hb1
  have hs1 := (hb1.block _ (Array.getElem?_eq_some_iff.1 H0.out.2).1).trans H0.out.2
  have hq1 : w.heap.size < w1.heap.size := (Array.getElem?_eq_some_iff.1 hs1).1
  have q0 : w1.cell? ⟨w.heap.size, 0, none⟩ = some (.string x.1.id) := by simp [World.cell?, hs1]
  have q1 : w1.cell? ⟨w.heap.size, 1, none⟩ = some (.int .i64 x.1.at_) := by simp [World.cell?, hs1]
  have q2 : w1.cell? ⟨w.heap.size, 2, none⟩ = some (.slice xa x.1.posts.length xc) := by simp [World.cell?, hs1]
  have hown : (w1.alloc (.cells #[.string x.1.id, .int .i64 x.1.at_, .slice xa x.1.posts.length xc] 36)).ownsRow w1.heap.size 36 3 (.slice (some ⟨w1.heap.size, 0, none⟩) 1 1) 1 [.string x.1.id, .int .i64 x.1.at_, .slice xa x.1.posts.length xc] := World.ownsRow_lit w1 _ 1 (Nat.le_refl _) (by unfold maxLen; omega) rfl
  have hba : Below w1.heap.size w1 (w1.alloc (.cells #[.string x.1.id, .int .i64 x.1.at_, .slice xa x.1.posts.length xc] 36)) := (Below.refl _ w1).alloc (Nat.le_refl _) _
  have hnews : ∀ b, la = some b → ∀ j u, (bs.flatMap bookC)[j]? = some u → (w1.alloc (.cells #[.string x.1.id, .int .i64 x.1.at_, .slice xa x.1.posts.length xc] 36)).cell? (b.add j) = some u := by
    intro b hb j u hu
    have hl := (HA.out.l.below hB1).below hba
    obtain ⟨a', cap', e', _, _, h4⟩ := hl
    cases e'
    have hpos : 0 < bs.length := by
      cases bs with
      | nil => simp at hu
      | cons y l => simp
    obtain ⟨g, o, e2, hr⟩ := h4 hpos
    rw [hb] at e2
    cases e2
    exact flat_cells (cells := bookC) (sz := 3) (fun _ => rfl) hr j u hu
  have hone : ∀ u ∈ bs.flatMap bookC, u.oneCell' = true := book_one bs (fun q hq => by
    obtain ⟨a, k, e, _⟩ := HA.out.p q hq
    rw [e]; rfl)
  have HNW := hid hnews
  have HON := hid hone
  have HS1 := hid hs1
  have HB1 := hid hB1
  have HLN := hid (flat_len (cells := bookC) (sz := 3) bs (fun _ => rfl))
  clear hnews hone hs1 hb1 hB1
  go_wp2_with (at_builtin; refine wpList_append_join _ rfl _ _ 24 rfl w1.heap.size 36 i0 (.agg #[.string ⟨#[]⟩, .int .i64 0, .slice none 0 0]) 3 48 Tryd.underlying24 hi hz0 hz1 hz2 rfl (by decide) _ _ _ rfl hown la bs.length lc (bs.flatMap bookC) rfl HLN.out HN.out HNW.out HON.out (by unfold maxLen at l2 ⊢; omega) (by omega) (by simp) ?_; intro vj W2 hj hgj)
  have hB2 : Below w.heap.size w W2 := (HB1.out.trans (hba.mono HB1.out.size)).grown hgj (by simp; omega) (fun r e => by have e' : w1.heap.size = r := Option.some.inj e; omega)
  have hs2 : W2.heap[w.heap.size]? = some (.cells #[.string x.1.id, .int .i64 x.1.at_, .slice xa x.1.posts.length xc] 36 (0, 0)) :=
    (hgj.block _ (by simp; omega) (fun e => by have e' : w.heap.size = w1.heap.size := Option.some.inj e; omega)).trans ((Below.heap_alloc w1 _ _ hq1).trans HS1.out)
  have hsj := joined_sl (x := (x.1, .slice xa x.1.posts.length xc)) rfl hj
  have HFW := hid (few_any W2 _ vj ns ((x.1, .slice xa x.1.posts.length xc) :: bs) (HA.out.a.below hB2) hsj (fun q hq => by
    rcases List.mem_cons.1 hq with rfl | hq
    · have := HA.out.x.below hB2
      rw [HXV.out] at this
      exact this
    · exact (HA.out.p q hq).below hB2))
  have HB2 := hid hB2
  have HS2 := hid hs2
  have HAA := hid (ArgsAt.below HA.out.toArgsAt hB2)
  clear hj hgj hB2 hs2 hsj hown hba q0 q1 q2
  refine (HFW.out).mono ?_
  rintro e w2' ⟨rfl, rfl⟩
  rw [List.map_cons]
  cases hf : Lg.fewB ns (x.1 :: bs.map Prod.fst) with
  | false =>
    clear hf
    go_wp2_with fail
    go_ret
    exact ⟨rfl, HB2.out⟩
  | true =>
    obtain ⟨hf2, hxi, hxp⟩ := few_tail hf
    obtain ⟨f1, f2, f3, f4⟩ := Lg.fewB_posts hf
    have hpl := (f2 x.1 List.mem_cons_self).2.1
    have HFI := hid (filled_any w2' _ _ c ns bs HAA.out.a HAA.out.l HAA.out.p hf2 hc)
    have HF1 := hid f1
    have hbl : bs.length ≤ 39 := by simp at f4; omega
    clear hf hf2 f1 f2 f4
    go_wp2_with fail
    refine (HFI.out).mono ?_
    rintro e w3 ⟨p, O, rfl, hL, hb3, hO⟩
    obtain ⟨S, hS⟩ : ∃ S, S = Lg.filled ns (bitB c) (bs.map Prod.fst) := ⟨_, rfl⟩
    rw [← hS] at hL
    have hfl : S.books.length ≤ 39 := by
      have := Lg.filled_len ns (bitB c) (bs.map Prod.fst)
      rw [← hS, List.length_map] at this
      omega
    have HI := hid hL.inv
    have hb3' := Below.step HB2.out hb3
    have hs3 := (hb3.block _ (Array.getElem?_eq_some_iff.1 HS2.out).1).trans HS2.out
    have hq : w.heap.size < w3.heap.size := (Array.getElem?_eq_some_iff.1 hs3).1
    have q0 : w3.cell? ⟨w.heap.size, 0, none⟩ = some (.string x.1.id) := by simp [World.cell?, hs3]
    have q1 : w3.cell? ⟨w.heap.size, 1, none⟩ = some (.int .i64 x.1.at_) := by simp [World.cell?, hs3]
    have q2 : w3.cell? ⟨w.heap.size, 2, none⟩ = some (.slice xa x.1.posts.length xc) := by simp [World.cell?, hs3]
    have HCO := hid (copy_any w3 x (HA.out.x.below hb3') (by omega))
    unfold bookV at HCO
    rw [HXV.out] at HCO
    have HL := hid (And.intro hL hO)
    have HB3 := hid hb3'
    have HS3 := hid hs3
    clear hL hb3 hb3' hO hS hs3
    go_wp2_with fail
    refine (HCO.out).mono ?_
    rintro e w4 ⟨vm, rfl, hom, hb4⟩
    obtain ⟨ma, mc, rfl⟩ := (SlIn.own hom (fun _ _ => rfl)).slice
    have HOM := hid hom
    have HB4 := hid hb4
    unfold bookV
    clear hom hb4 q0 q1 q2
    go_wp2_with fail
    obtain ⟨w5, hw5⟩ : ∃ w5, w5 = w4.alloc (.cells #[.string x.1.id, .int .i64 x.1.at_, .slice ma x.1.posts.length mc] 36) := ⟨_, rfl⟩
    have hb5 : Below w4.heap.size w4 w5 := by rw [hw5]; exact (Below.refl _ w4).alloc (Nat.le_refl _) _
    have hs5 : w5.heap[w4.heap.size]? = some (.cells #[.string x.1.id, .int .i64 x.1.at_, .slice ma x.1.posts.length mc] 36 (0, 0)) := by rw [hw5]; exact alloc_new w4 _
    have hq4 : w4.heap.size < w5.heap.size := (Array.getElem?_eq_some_iff.1 hs5).1
    have HL5 := hid ((HL.out.1.below HB4.out).below hb5)
    have HOM5 := hid (ownsRow_below HOM.out hb5)
    have HBK : Hid (Calls Tryd.prog 15 #[.pointer (some ⟨p, 0, none⟩), .agg #[.string x.1.id, .int .i64 x.1.at_, .slice ma x.1.posts.length mc]] w5 (LPost p O w5 (.int .i64 (Lg.code S x.1)) (Lg.book S x.1))) := hid (book_any w5 p S O x.1 (.slice ma x.1.posts.length mc) HL5.out (SlOf.own HOM5.out (fun _ _ => rfl)) (by omega) (fun q hq => by have := hxp q hq; omega) (by omega))
    rw [← hw5]
    have HB5 := hid (Below.step (Below.step HB3.out HB4.out) hb5)
    have HS5 := hid hs5
    have HSX := hid ((Below.step HB4.out hb5).block _ (Array.getElem?_eq_some_iff.1 HS3.out).1 |>.trans HS3.out)
    have HZ5 : w3.heap.size ≤ w4.heap.size := HB4.out.size
    clear hw5 hb5 hs5
    refine (HBK.out).mono ?_
    rintro e w6 ⟨rfl, O2, hL6, hT6, hO6⟩
    obtain ⟨S2, hS2⟩ : ∃ S2, S2 = Lg.book S x.1 := ⟨_, rfl⟩
    obtain ⟨cd, hcd⟩ : ∃ cd, cd = Lg.code S x.1 := ⟨_, rfl⟩
    rw [← hS2] at hL6
    rw [← hcd]
    have hO3 : ∀ y, O y → y < w3.heap.size := fun y hy => HL.out.1.lt hy
    have hOw : ∀ y, O y → w.heap.size < y := fun y hy => by
      have h1 := HL.out.2 y hy
      have h2 := (Array.getElem?_eq_some_iff.1 HS2.out).1
      omega
    have hB6 : Below w.heap.size w w6 := HB5.out.trans (hT6.below HB5.out.size (fun y hy => by have := hOw y hy; omega))
    have HOM6 := hid (ownsRow_tch HOM5.out hT6 (fun k hk e => by have h1 := hO3 k e; have h2 := (HOM.out.lt k hk).1; omega))
    have HS6 := hid ((hT6.block _ hq4 (fun e => by have := hO3 _ e; omega)).trans HS5.out)
    have HSX6 := hid ((hT6.block _ (Array.getElem?_eq_some_iff.1 HSX.out).1 (fun e => by have := hOw _ e; omega)).trans HSX.out)
    have HO2 : Hid (∀ y, O2 y → w.heap.size < y ∧ (y < w3.heap.size ∨ w5.heap.size ≤ y)) := fun y hy => by
      rcases hO6 y hy with h | h
      · exact ⟨hOw y h, .inl (hO3 y h)⟩
      · exact ⟨by have := (Array.getElem?_eq_some_iff.1 HSX.out).1; omega, .inr h⟩
    have hz6 : w5.heap.size ≤ w6.heap.size := hT6.size
    have HLL := hid (list_any w6 p S2 O2 hL6)
    have HL6 := hid hL6
    have HB6 := hid hB6
    clear hS2 hcd hL6 hT6 hO6 hO3 hOw hB6 HBK HL5 HOM5 HS5 HSX
    go_wp2_with fail
    refine (HLL.out).mono ?_
    intro e w7 hLP
    obtain ⟨vbef, rfl, hbef, hb7⟩ := hLP.sl
    have HBA := hid (balances_any w7 p S2 O2 _ ns 144001439 (HL6.out.below hb7) (HA.out.a.below (Below.step HB6.out hb7)) HF1.out f3)
    have HB7 := hid hb7
    have HBEF := hid hbef
    obtain ⟨ya, yn, yc, hye⟩ : ∃ ya yn yc, vbef = .slice ya yn yc := by
      obtain ⟨cs, _, h2, _⟩ := hbef
      obtain ⟨a, c, e⟩ := h2.slice
      exact ⟨a, _, c, e⟩
    subst hye
    clear hLP hb7 hbef
    go_wp2_with fail
    refine (HBA.out).mono ?_
    rintro e w8 ⟨vn, rfl, ho, hb8⟩
    have hlo := ho.lt
    have hsn := (bals_sl ho)
    obtain ⟨na, nc, hvn, n1, n2, n3⟩ := hsn.slOf
    rw [List.length_map] at hvn n1 n3
    have HSN := hid (hsn.mono (Q' := fun k => w7.heap.size ≤ k) (fun k hk _ => (hlo k hk).1))
    subst hvn
    have HB68 := hid (Below.step HB7.out hb8)
    have HB78 := hid hb8
    have hz8 : w5.heap.size ≤ w8.heap.size := Nat.le_trans hz6 HB68.out.size
    have hz7 : w6.heap.size ≤ w7.heap.size := HB7.out.size
    have HOM8 := hid (ownsRow_below HOM6.out HB68.out)
    have HS8 := hid ((HB68.out.block _ (Array.getElem?_eq_some_iff.1 HS6.out).1).trans HS6.out)
    clear ho hlo hsn n3 hb8
    go_wp2_with fail
    obtain ⟨OM, hOM⟩ : ∃ OM : Nat → Prop, OM = fun k => (Value.slice ma x.1.posts.length mc).ownBlock = some k := ⟨_, rfl⟩
    have HMO : Hid (∀ k, OM k → w3.heap.size ≤ k ∧ k < w4.heap.size) := fun k hk => by rw [hOM] at hk; exact HOM.out.lt k hk
    have HM0 : Hid (0 < x.1.posts.length → ∃ gm c, ma = some ⟨gm, 0, none⟩ ∧ OM gm ∧ w8.heap[gm]? = some (.cells c 47 (0, 0)) ∧ x.1.posts.length * 2 ≤ c.size) := by
      intro h0
      rcases HOM8.out.2 with ⟨_, h1⟩ | ⟨g, cap, cur, h1, _, hh, hn, _, hs, _⟩
      · omega
      · cases h1
        exact ⟨g, cur, rfl, by rw [hOM]; rfl, hh, by omega⟩
    clear hOM
    go_loopw [14] (fun iv wx => ∃ k : Nat, k ≤ x.1.posts.length ∧ iv = .int .i64 k ∧ Hid (Tch OM w8 wx ∧ (0 < x.1.posts.length → ∃ gm c, ma = some ⟨gm, 0, none⟩ ∧ OM gm ∧ wx.heap[gm]? = some (.cells c 47 (0, 0)) ∧ x.1.posts.length * 2 ≤ c.size))) (fun iv _ => x.1.posts.length - (RowKit.intOf iv).toNat)
    case atStart => exact ⟨0, Nat.zero_le _, rfl, Tch.refl _ _, HM0.out⟩
    case round =>
      obtain ⟨k, hk, rfl, HT⟩ := hrel
      have hsx := (HT.out.1.block _ (Array.getElem?_eq_some_iff.1 HS8.out).1 (fun e => by have := (HMO.out _ e).2; omega)).trans HS8.out
      have hgx := (Array.getElem?_eq_some_iff.1 hsx).1
      have m2 : wr.cell? ⟨w4.heap.size, 2, none⟩ = some (.slice ma x.1.posts.length mc) := by simp [World.cell?, hsx]
      have HSXR := hid hsx
      clear hsx
      by_cases hlt : k < x.1.posts.length
      · obtain ⟨gm, c, rfl, hom, hh, hcs⟩ := HT.out.2 (by omega)
        obtain ⟨u0, hu0⟩ : ∃ u, c[k * 2]? = some u := ⟨_, Array.getElem?_eq_getElem (by omega)⟩
        obtain ⟨u1, hu1⟩ : ∃ u, c[k * 2 + 1]? = some u := ⟨_, Array.getElem?_eq_getElem (by omega)⟩
        have c0 : wr.cell? ⟨gm, k * 2, none⟩ = some u0 := by simp [World.cell?, hh, hu0]
        have c1 : wr.cell? ⟨gm, k * 2 + 1, none⟩ = some u1 := by simp [World.cell?, hh, hu1]
        have e0 : wr.frozen? ⟨gm, k * 2, none⟩ = false := by simp [World.frozen?, hh]
        have e1 : wr.frozen? ⟨gm, k * 2 + 1, none⟩ = false := by simp [World.frozen?, hh]
        have hgm : gm < wr.heap.size := (Array.getElem?_eq_some_iff.1 hh).1
        have hk0 : (0 : Int) ≤ (k : Int) := by omega
        have hk1 : (k : Int) < (x.1.posts.length : Int) := by omega
        have HHH := hid (And.intro hom (And.intro hh hcs))
        clear hom hh hcs hu0 hu1
        go_wp2_with fail
        go_roundw
        case rel =>
          refine ⟨k + 1, by omega, by go_num, (HT.out.1.setCell (a := ⟨gm, k * 2, none⟩) (.inl HHH.out.1) _).setCell (a := ⟨gm, k * 2 + 1, none⟩) (.inl HHH.out.1) _, fun _ => ⟨gm, _, rfl, HHH.out.1, blk_set (blk_set HHH.out.2.1 _ _) _ _, by simpa using HHH.out.2.2⟩⟩
        case measure => simp [RowKit.intOf]; omega
      · have hT8 := HT.out.1
        have HT9 := hid hT8
        clear hT8
        go_wp2_with fail
        obtain ⟨w9, hw9⟩ : ∃ w9, w9 = wr := ⟨_, rfl⟩
        rw [← hw9] at HT9 HSXR ⊢
        have HL9 := hid (((HL6.out.below HB68.out)).tch HT9.out (fun y hy e => by have h1 := HO2.out y hy; have h2 := HMO.out y e; omega))
        have HLO := hid (list_own w9 p S2 O2 HL9.out)
        have HBEF9 := hid ((HBEF.out.below HB78.out).tch HT9.out (fun y hy e => by have h2 := HMO.out y e; omega))
        have HSN9 := hid (HSN.out.below (Below.refl _ _) |>.tch HT9.out (fun y hy e => by have h2 := HMO.out y e; omega))
        have HB9 := hid ((Below.step HB6.out HB68.out).trans (HT9.out.below (Below.step HB6.out HB68.out).size (fun y e => by have h2 := HMO.out y e; have := (Array.getElem?_eq_some_iff.1 HS2.out).1; have := HB3.out.size; omega)))
        have HSX9 := hid ((HT9.out.block _ (by have := (Array.getElem?_eq_some_iff.1 (HSX6.out)).1; have := HB68.out.size; omega) (fun e => by have h2 := HMO.out _ e; have := HB3.out.size; omega)).trans ((HB68.out.block _ (Array.getElem?_eq_some_iff.1 HSX6.out).1).trans HSX6.out))
        clear hw9 m2 hgx
        refine (HLO.out).mono ?_
        rintro e w10 ⟨vs, bs2, rfl, hb2, ho2, hp2, hb10⟩
        obtain ⟨sa, sc, rfl⟩ := (SlIn.own ho2 (fun _ _ => rfl)).slice
        have HSH : Hid (Below w9.heap.size w9 w10 ∧ (0 < bs2.length → ∃ g, sa = some ⟨g, 0, none⟩ ∧ w9.heap.size ≤ g ∧ Shown w9.heap.size g sc bs2 w10)) := by
          refine ⟨hb10, fun h0 => ?_⟩
          rcases ho2.2 with ⟨_, h1⟩ | ⟨g, cap, cur, h1, hg, _⟩
          · omega
          · cases h1
            exact ⟨g, rfl, hg, Shown.new ho2 hp2⟩
        have HB2L := hid hb2
        have hbl2 : bs2.length ≤ 1000000 := by
          have h1 := congrArg List.length hb2
          rw [List.length_map] at h1
          have h2 := HL6.out.inv.fewB
          omega
        have HPL : Hid (∀ q ∈ bs2, q.1.posts.length ≤ 12) := fun q hq => (Lg.formed_len (HL6.out.inv.formed q.1 (by rw [← hb2]; exact List.mem_map_of_mem hq))).2
        clear hb2 ho2 hp2 hb10
        go_wp2_with fail
        go_loopw [16, 17] (fun iv _ wx => ∃ k : Nat, k ≤ bs2.length ∧ iv = .int .i64 k ∧ Hid (Below w9.heap.size w9 wx ∧ (0 < bs2.length → ∃ g, sa = some ⟨g, 0, none⟩ ∧ w9.heap.size ≤ g ∧ Shown w9.heap.size g sc bs2 wx))) (fun iv _ _ => bs2.length - (RowKit.intOf iv).toNat)
        case atStart => exact ⟨0, Nat.zero_le _, rfl, HSH.out⟩
        case round =>
          obtain ⟨k, hk, rfl, HU⟩ := hrel
          by_cases hlt : k < bs2.length
          · obtain ⟨g, rfl, hg9, hsh⟩ := HU.out.2 (by omega)
            obtain ⟨q, hq⟩ : ∃ q, bs2[k]? = some q := ⟨_, List.getElem?_eq_getElem hlt⟩
            obtain ⟨⟨c, k1, k2, k3⟩, k4⟩ := id hsh
            obtain ⟨gq, cq, ci, p1, p2, p3, p4, p5⟩ := k4 q (List.mem_of_getElem? hq)
            obtain ⟨u0, hu0⟩ : ∃ u, c[k * 3]? = some u := ⟨_, Array.getElem?_eq_getElem (by omega)⟩
            have c0 : wr.cell? ⟨g, k * 3, none⟩ = some u0 := by simp [World.cell?, k1, hu0]
            have e0 : wr.frozen? ⟨g, k * 3, none⟩ = false := by simp [World.frozen?, k1]
            have hgl : g < wr.heap.size := (Array.getElem?_eq_some_iff.1 k1).1
            have hk0 : (0 : Int) ≤ (k : Int) := by omega
            have hk1 : (k : Int) < (bs2.length : Int) := by omega
            have HSHK := hid hsh
            have HP1 := hid p1
            have HQ := hid hq
            have hql : q.1.posts.length ≤ 12 := HPL.out q (List.mem_of_getElem? hq)
            have hgq : g ≠ gq := fun e => p3 (by rw [← e]; rfl)
            clear hsh k1 k2 k3 k4 p1 p3 p4 p5 hu0
            go_wp2_with fail
            go_loopw [17] (fun jv wx => ∃ j : Nat, j ≤ q.1.posts.length ∧ jv = .int .i64 j ∧ Hid (Below w9.heap.size w9 wx ∧ Shown w9.heap.size g sc bs2 wx)) (fun jv _ => q.1.posts.length - (RowKit.intOf jv).toNat)
            case atStart => exact ⟨0, Nat.zero_le _, rfl, HU.out.1.setCell (p := ⟨g, k * 3, none⟩) hg9 _, HSHK.out.id_ k _⟩
            case round =>
              obtain ⟨j, hj, rfl, HV⟩ := hrel
              obtain ⟨⟨c, k1, k2, k3⟩, k4⟩ := id HV.out.2
              obtain ⟨gq', cq', ci, p1, p2, p3, p4, p5⟩ := k4 q (List.mem_of_getElem? HQ.out)
              rw [HP1.out] at p1
              cases p1
              have d2 : wr.cell? ⟨g, k * 3 + 2, none⟩ = some (.slice (some ⟨gq, 0, none⟩) q.1.posts.length cq) := by
                have := k3 k q HQ.out
                rw [HP1.out] at this
                simp [World.cell?, k1, this]
              have hgl : g < wr.heap.size := (Array.getElem?_eq_some_iff.1 k1).1
              have hgql : gq < wr.heap.size := (Array.getElem?_eq_some_iff.1 p4).1
              by_cases hjl : j < q.1.posts.length
              · obtain ⟨u1, hu1⟩ : ∃ u, ci[j * 2 + 1]? = some u := ⟨_, Array.getElem?_eq_getElem (by omega)⟩
                have d3 : wr.cell? ⟨gq, j * 2 + 1, none⟩ = some u1 := by simp [World.cell?, p4, hu1]
                have d4 : wr.frozen? ⟨gq, j * 2 + 1, none⟩ = false := by simp [World.frozen?, p4]
                have hj0 : (0 : Int) ≤ (j : Int) := by omega
                have hj1 : (j : Int) < (q.1.posts.length : Int) := by omega
                clear k1 k2 k3 k4 p3 p4 p5 hu1
                go_wp2_with fail
                go_roundw
                case rel => exact ⟨j + 1, by omega, by go_num, HV.out.1.setCell (p := ⟨gq, j * 2 + 1, none⟩) p2 _, HV.out.2.post_ (Ne.symm hgq) _ _⟩
                case measure => simp [RowKit.intOf]; omega
              · clear k1 k2 k3 k4 p3 p4 p5
                go_wp2_with fail
                go_roundw
                case rel => exact ⟨k + 1, by omega, by go_num, HV.out.1, fun _ => ⟨g, rfl, hg9, HV.out.2⟩⟩
                case measure => simp [RowKit.intOf]; omega
          · have HU1 := hid HU.out.1
            have HBA2 := hid (balances_any wr p S2 O2 _ ns 144001439 (HL9.out.below HU1.out) (HA.out.a.below (Below.step HB9.out HU1.out)) HF1.out f3)
            go_wp2_with fail
            refine (HBA2.out).mono ?_
            rintro e w11 ⟨vm, rfl, ho, hb11⟩
            obtain ⟨ma2, mc2, hmv, m1, m2, m3⟩ := (bals_sl ho).slOf
            rw [List.length_map] at hmv m1 m3
            subst hmv
            have HM3 := hid m3
            have HB911 := hid (Below.step HU1.out hb11)
            have HSN11 := hid (HSN9.out.below HB911.out)
            clear ho hb11 m3
            go_wp2_with fail
            go_loopw [19] (fun iv wx => ∃ k : Nat, k ≤ ns.length ∧ iv = .int .i64 k ∧ Hid (Below w11.heap.size w11 wx)) (fun iv _ => ns.length - (RowKit.intOf iv).toNat)
            case atStart => exact ⟨0, Nat.zero_le _, rfl, Below.refl _ _⟩
            case round =>
              obtain ⟨k, hk, rfl, HBX⟩ := hrel
              by_cases hlt : k < ns.length
              · obtain ⟨a, ha⟩ : ∃ a, ns[k]? = some a := ⟨_, List.getElem?_eq_getElem hlt⟩
                have hmx : (ns.map fun a => Lg.balAt S2 a 144001439)[k]? = some (Lg.balAt S2 a 144001439) := by rw [List.getElem?_map, ha]; rfl
                obtain ⟨bv, hbv⟩ : ∃ bv, bv = Lg.balAt S2 a 144001439 := ⟨_, rfl⟩
                rw [← hbv] at hmx
                obtain ⟨g2, o2, hnv, hr2⟩ := HM3.out (by omega)
                subst hnv
                have c0 := (hr2.below HBX.out).2 k bv hmx 0 _ rfl
                rw [Nat.add_zero, Nat.mul_one] at c0
                have hg := (hr2.below HBX.out).1
                obtain ⟨a', cap', e', _, _, h4⟩ := HSN11.out.below HBX.out
                rw [List.length_map] at e' h4
                cases e'
                obtain ⟨g4, o4, hnv4, -, hr4⟩ := h4 (by omega)
                subst hnv4
                have d0 := hr4.2 k bv hmx 0 _ rfl
                rw [Nat.add_zero, Nat.mul_one] at d0
                have hg4 := hr4.1
                have hk0 : (0 : Int) ≤ (k : Int) := by omega
                have hk1 : (k : Int) < (ns.length : Int) := by omega
                have hne : (bv != bv) = false := by simp
                clear hr2 hr4 h4 hmx ha hbv
                go_wp2_with fail
                go_region
                go_wp2_with fail
                go_roundw
                case rel => exact ⟨k + 1, by omega, by go_num, HBX.out.drew⟩
                case measure => simp [RowKit.intOf]; omega
              · have HB9R := hid (Below.step HB911.out HBX.out)
                go_wp2_with fail
                refine (balance_nil _ _).mono ?_
                rintro e w12 ⟨rfl, hb12⟩
                have HB12 := hid (Below.step HB9R.out hb12)
                clear hb12
                go_wp2_with fail
                refine (at_nil _ _ _).mono ?_
                rintro e w13 ⟨rfl, hb13⟩
                have HB13 := hid (Below.step HB12.out hb13)
                clear hb13
                have HLF := hid (list_any w13 p S2 O2 (HL9.out.below HB13.out))
                go_wp2_with fail
                refine (HLF.out).mono ?_
                intro e w14 hLP
                obtain ⟨vL, rfl, hL14, hb14⟩ := hLP.sl
                have HSA := hid (same_bk (l := S2.books) hL14 ((HBEF9.out.below HB13.out).below hb14))
                have HB14 := hid (Below.step HB13.out hb14)
                clear hLP hL14 hb14
                go_wp2_with fail
                refine (HSA.out).mono ?_
                rintro e w15 ⟨rfl, hb15⟩
                have HB15 := hid (Below.step HB14.out hb15)
                clear hb15
                go_wp2_with fail
                refine (open_nil _ _ _).mono ?_
                rintro e w16 ⟨rfl, hb16⟩
                have HB16 := hid (Below.step HB15.out hb16)
                have hs16 := (HB16.out.block _ (Array.getElem?_eq_some_iff.1 HSX9.out).1).trans HSX9.out
                have q0 : w16.cell? ⟨w.heap.size, 0, none⟩ = some (.string x.1.id) := by simp [World.cell?, hs16]
                have q1 : w16.cell? ⟨w.heap.size, 1, none⟩ = some (.int .i64 x.1.at_) := by simp [World.cell?, hs16]
                have q2 : w16.cell? ⟨w.heap.size, 2, none⟩ = some (.slice xa x.1.posts.length xc) := by simp [World.cell?, hs16]
                have hq16 := (Array.getElem?_eq_some_iff.1 hs16).1
                clear hb16 hs16
                go_wp2_with fail
                refine (book_nil _ _ _ _ _).mono ?_
                rintro e w17 ⟨rfl, hb17⟩
                have HB17 := hid (Below.step HB16.out hb17)
                clear hb17 q0 q1 q2 hq16
                go_wp2_with fail
                refine (list_nil _).mono ?_
                rintro e w18 ⟨rfl, hb18⟩
                have HB18 := hid (Below.step HB9.out (Below.step HB17.out hb18))
                clear hb18
                go_wp2_with fail
                go_ret
                exact ⟨rfl, HB18.out⟩

end Go.Proofs.YtfkcphflcmpenaaDoor
