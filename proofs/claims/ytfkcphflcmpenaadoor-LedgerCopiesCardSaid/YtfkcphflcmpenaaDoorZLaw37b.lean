/-
  The statement LedgerHistory as the program computes it. Conditions: sizes that arguments can have.
-/
import Derived.Test.YtfkcphflcmpenaaDoorZLaw37a
import Derived.Test.YtfkcphflcmpenaaDoorZMBase
namespace Go.Proofs.YtfkcphflcmpenaaDoor
open Go.RowKit Go.Lib Go.Maps

/-- the further booking joined to the others, in memory -/
theorem joined_sl {w : World} {B m : Nat} {v : Value} {x : Lg.Bk × Value} {bs : List (Lg.Bk × Value)} (hm : m = bs.length) (h : w.ownsRow B 36 3 v (1 + m) ([.string x.1.id, .int .i64 x.1.at_, x.2] ++ bs.flatMap bookC)) : SlOf w v 3 bookC (x :: bs) := by
  subst hm
  refine SlOf.own (B := B) (e := 36) ?_ (fun _ _ => rfl)
  rw [List.length_cons, Nat.add_comm, List.flatMap_cons]
  exact h

theorem few_tail {ns : List ByteArray} {x : Lg.Bk} {l : List Lg.Bk} (h : Lg.fewB ns (x :: l) = true) : Lg.fewB ns l = true ∧ x.id.size ≤ 60 ∧ (∀ p ∈ x.posts, p.1.size ≤ 60) := by
  obtain ⟨h1, h2, h3, h4⟩ := Lg.fewB_posts h
  refine ⟨?_, (h2 x List.mem_cons_self).1, (h2 x List.mem_cons_self).2.2⟩
  unfold Lg.fewB
  simp only [Bool.and_eq_true, List.all_eq_true, decide_eq_true_eq]
  refine ⟨⟨⟨h1, fun b hb => ?_⟩, h3⟩, by simp at h4; omega⟩
  unfold Lg.fewB at h
  simp only [Bool.and_eq_true, List.all_eq_true] at h
  exact h.1.1.2 b (List.mem_cons_of_mem _ hb)

/-- the arguments of a statement with a further booking -/
structure ArgsMore (w : World) (va vl : Value) (ns : List ByteArray) (bs : List (Lg.Bk × Value)) (x : Lg.Bk × Value) : Prop extends ArgsAt w va vl ns bs where
  x : SlOf w x.2 2 postC x.1.posts
  none_ : ∀ a n k, vl = .slice a n k → a = none → n = 0 ∧ k = 0
  room : bs.length * 48 ≤ 140737488351232

set_option maxRecDepth 100000 in
set_option maxHeartbeats 8000000 in
theorem history_law (w : World) (va vl : Value) (c : Nat) (ns : List ByteArray) (bs : List (Lg.Bk × Value)) (x : Lg.Bk × Value) (t : Int) (h : ArgsMore w va vl ns bs x) (hc : c < 65536) :
    Calls Tryd.prog 6 #[va, .int .u16 c, vl, bookV x, .int .i64 t] w (Gives (.bool true) w) := by
  have HA := hid h
  obtain ⟨i0, hi, hz0, hz1, hz2⟩ := info_parts Tryd.infoBk
  obtain ⟨aa, ca, rfl, a1, a2, a3⟩ := h.a
  obtain ⟨la, lc, rfl, l1, l2, l3⟩ := h.l
  obtain ⟨xa, xc, hxv, x1, x2, x3⟩ := h.x
  have HN := hid (h.none_ _ _ _ rfl)
  have hroom := h.room
  have HXV := hid hxv
  clear h a3 l3 x3
  unfold bookV
  rw [hxv]
  clear hxv
  obtain ⟨W0, hW0⟩ : ∃ W0, W0 = w.alloc (.cells #[.string x.1.id, .int .i64 x.1.at_, .slice xa x.1.posts.length xc] 36) := ⟨_, rfl⟩
  have hb0 : Below w.heap.size w W0 := by rw [hW0]; exact (Below.refl _ w).alloc (Nat.le_refl _) _
  have hs0 : W0.heap[w.heap.size]? = some (.cells #[.string x.1.id, .int .i64 x.1.at_, .slice xa x.1.posts.length xc] 36 (0, 0)) := by rw [hW0]; exact alloc_new w _
  have H0 := hid (And.intro hb0 hs0)
  have HHD := hid (head_true W0)
  clear hb0 hs0
  go_enter Tryd.func6, Tryd.ntmps6
  go_wp2_with fail
  rw [← hW0]
  clear hW0
  refine (HHD.out).mono ?_
  rintro e w1 ⟨rfl, hb1⟩
  have hB1 := Below.step H0.out.1 hb1
  have hs1 := (hb1.block _ (Array.getElem?_eq_some_iff.1 H0.out.2).1).trans H0.out.2
  have hq1 : w.heap.size < w1.heap.size := (Array.getElem?_eq_some_iff.1 hs1).1
  have q0 : w1.cell? ⟨w.heap.size, 0, none⟩ = some (.string x.1.id) := by simp [World.cell?, hs1]
  have q1 : w1.cell? ⟨w.heap.size, 1, none⟩ = some (.int .i64 x.1.at_) := by simp [World.cell?, hs1]
  have q2 : w1.cell? ⟨w.heap.size, 2, none⟩ = some (.slice xa x.1.posts.length xc) := by simp [World.cell?, hs1]
  have hown : (w1.alloc (.cells #[.string x.1.id, .int .i64 x.1.at_, .slice xa x.1.posts.length xc] 36)).ownsRow w1.heap.size 36 3 (.slice (some ⟨w1.heap.size, 0, none⟩) 1 1) 1 [.string x.1.id, .int .i64 x.1.at_, .slice xa x.1.posts.length xc] := World.ownsRow_lit w1 _ 1 (Nat.le_refl _) (by unfold maxLen; omega) rfl
  have hba : Below w1.heap.size w1 (w1.alloc (.cells #[.string x.1.id, .int .i64 x.1.at_, .slice xa x.1.posts.length xc] 36)) := (Below.refl _ w1).alloc (Nat.le_refl _) _
  have hnews : ∀ b, la = some b → ∀ j u, (bs.flatMap bookC)[j]? = some u → (w1.alloc (.cells #[.string x.1.id, .int .i64 x.1.at_, .slice xa x.1.posts.length xc] 36)).cell? (b.add j) = some u := by
    intro b hb j u hu
    have hl := (HA.out.l.below hB1).below hba
    obtain ⟨a', cap', e', _, _, h4⟩ := hl
    cases e'
    have hpos : 0 < bs.length := by
      cases bs with
      | nil => simp at hu
      | cons y l => simp
    obtain ⟨g, o, e2, hr⟩ := h4 hpos
    rw [hb] at e2
    cases e2
    exact flat_cells (cells := bookC) (sz := 3) (fun _ => rfl) hr j u hu
  have hone : ∀ u ∈ bs.flatMap bookC, u.oneCell' = true := book_one bs (fun q hq => by
    obtain ⟨a, k, e, _⟩ := HA.out.p q hq
    rw [e]; rfl)
  have HNW := hid hnews
  have HON := hid hone
  have HS1 := hid hs1
  have HB1 := hid hB1
  have HLN := hid (flat_len (cells := bookC) (sz := 3) bs (fun _ => rfl))
  clear hnews hone hs1 hb1 hB1
  go_wp2_with (at_builtin; refine wpList_append_join _ rfl _ _ 24 rfl w1.heap.size 36 i0 (.agg #[.string ⟨#[]⟩, .int .i64 0, .slice none 0 0]) 3 48 Tryd.underlying24 hi hz0 hz1 hz2 rfl (by decide) _ _ _ rfl hown la bs.length lc (bs.flatMap bookC) rfl HLN.out HN.out HNW.out HON.out (by unfold maxLen at l2 ⊢; omega) (by omega) (by simp) ?_; intro vj W2 hj hgj)
  have hB2 : Below w.heap.size w W2 := (HB1.out.trans (hba.mono HB1.out.size)).grown hgj (by simp; omega) (fun r e => by have e' : w1.heap.size = r := Option.some.inj e; omega)
  have hs2 : W2.heap[w.heap.size]? = some (.cells #[.string x.1.id, .int .i64 x.1.at_, .slice xa x.1.posts.length xc] 36 (0, 0)) :=
    (hgj.block _ (by simp; omega) (fun e => by have e' : w.heap.size = w1.heap.size := Option.some.inj e; omega)).trans ((Below.heap_alloc w1 _ _ hq1).trans HS1.out)
  have hsj := joined_sl (x := (x.1, .slice xa x.1.posts.length xc)) rfl hj
  have HFW := hid (few_any W2 _ vj ns ((x.1, .slice xa x.1.posts.length xc) :: bs) (HA.out.a.below hB2) hsj (fun q hq => by
    rcases List.mem_cons.1 hq with rfl | hq
    · have := HA.out.x.below hB2
      rw [HXV.out] at this
      exact this
    · exact (HA.out.p q hq).below hB2))
  have HB2 := hid hB2
  have HS2 := hid hs2
  have HAA := hid (ArgsAt.below HA.out.toArgsAt hB2)
  clear hj hgj hB2 hs2 hsj hown hba q0 q1 q2
  refine (HFW.out).mono ?_
  rintro e w2' ⟨rfl, rfl⟩
  rw [List.map_cons]
  cases hf : Lg.fewB ns (x.1 :: bs.map Prod.fst) with
  | false =>
    clear hf
    go_wp2_with fail
    go_ret
    exact ⟨rfl, HB2.out⟩
  | true =>
    obtain ⟨hf2, hxi, hxp⟩ := few_tail hf
    obtain ⟨f1, f2, f3, f4⟩ := Lg.fewB_posts hf
    have HFI := hid (filled_any w2' _ _ c ns bs HAA.out.a HAA.out.l HAA.out.p hf2 hc)
    have HF1 := hid f1
    have hbl : bs.length ≤ 39 := by simp at f4; omega
    clear hf hf2 f1 f2 f4
    go_wp2_with fail
    refine (HFI.out).mono ?_
    rintro e w3 ⟨p, O, rfl, hL, hb3, hO⟩
    obtain ⟨S, hS⟩ : ∃ S, S = Lg.filled ns (bitB c) (bs.map Prod.fst) := ⟨_, rfl⟩
    rw [← hS] at hL
    have hfl : S.books.length ≤ 39 := by
      have := Lg.filled_len ns (bitB c) (bs.map Prod.fst)
      rw [← hS, List.length_map] at this
      omega
    have HI := hid hL.inv
    have hLl := list_any w3 p S O hL
    have HL := hid (And.intro hL (And.intro hb3 hO))
    have HLL := hid hLl
    clear hL hb3 hO hS hLl
    go_wp2_with fail
    refine (HLL.out).mono ?_
    rintro e w4 ⟨vall, cs, rfl, hcs, hrow, -, hb4⟩
    have hcl : cs.length = S.books.length := by rw [← hcs, List.length_map]
    have hsl := (SlIn.own hrow (fun _ _ => rfl)).slOf
    obtain ⟨ya, yc, hye, y1, y2, y3⟩ := hsl
    subst hye
    have HY3 := hid y3
    have HBA := hid (balances_any w4 p S O _ ns t (HL.out.1.below hb4) ((HAA.out.a.below HL.out.2.1).below hb4) HF1.out f3)
    have HB4 := hid hb4
    have HCS := hid hcs
    obtain ⟨m, hm⟩ : ∃ m, m = cs.length := ⟨_, rfl⟩
    rw [← hm] at hcl y1 y3 ⊢
    have HM := hid hm
    have hml : m ≤ 39 := by omega
    have HCL := hid hcl
    clear hcs hrow hb4 y3 hm hcl
    go_wp2_with fail
    refine (HBA.out).mono ?_
    rintro e w5 ⟨vn, rfl, ho, hb5⟩
    have hlo := ho.lt
    have hsn := (bals_sl ho)
    obtain ⟨na, nc, hvn, n1, n2, n3⟩ := hsn.slOf
    rw [List.length_map] at hvn n1 n3
    have HSN := hid (hsn.mono (Q' := fun k => w4.heap.size ≤ k) (fun k hk _ => (hlo k hk).1))
    subst hvn
    have HN3 := hid n3
    have hB35 := Below.step HB4.out hb5
    have hB5 := Below.step (Below.step HB2.out HL.out.2.1) hB35
    have HB35 := hid hB35
    have HB5 := hid hB5
    have hs5 := ((Below.step HL.out.2.1 hB35).block _ (Array.getElem?_eq_some_iff.1 HS2.out).1).trans HS2.out
    have HS5 := hid hs5
    have HB45 := hid hb5
    clear ho hb5 n3 hlo hsn hB35 hB5 hs5
    go_wp2_with fail
    go_loopw [15, 16, 17] (fun iv _ _ wr => ∃ k : Nat, k ≤ ns.length ∧ iv = .int .i64 k ∧ Hid (Below w5.heap.size w5 wr)) (fun iv _ _ _ => ns.length - (RowKit.intOf iv).toNat)
    case atStart => exact ⟨0, Nat.zero_le _, rfl, Below.refl _ _⟩
    case round =>
      obtain ⟨k, hk, rfl, HBR⟩ := hrel
      by_cases hlt : k < ns.length
      · obtain ⟨g, o, hav, hr⟩ : ∃ g o, aa = some ⟨g, o, none⟩ ∧ RowOf w g o 1 strC ns := by
          obtain ⟨a', cap', e', _, _, h4⟩ := HA.out.a
          cases e'
          exact h4 (by omega)
        subst hav
        obtain ⟨g2, o2, hnv, hr2⟩ := HN3.out (by omega)
        subst hnv
        obtain ⟨a, ha⟩ : ∃ a, ns[k]? = some a := ⟨_, List.getElem?_eq_getElem hlt⟩
        have hk0 : (0 : Int) ≤ (k : Int) := by omega
        have hk1 : (k : Int) < (ns.length : Int) := by omega
        have hwr := hid (HB5.out.trans (HBR.out.mono HB5.out.size))
        have c0 := (hr.below hwr.out).2 k a ha 0 _ rfl
        rw [Nat.add_zero, Nat.mul_one] at c0
        have hg := (hr.below hwr.out).1
        have hmx : (ns.map fun a => Lg.balAt S a t)[k]? = some (Lg.balAt S a t) := by rw [List.getElem?_map, ha]; rfl
        have hsa := HF1.out a (List.mem_of_getElem? ha)
        have HBL := hid (balance_any wr p S O a ((HL.out.1.below HB35.out).below HBR.out) (by unfold maxLen; omega))
        have HR2 := hid hr2
        have HMX := hid hmx
        clear hr hr2 hmx ha hsa
        go_wp2_with fail
        refine (HBL.out).mono ?_
        rintro e w6 ⟨rfl, hb6⟩
        have hB56 := Below.step HBR.out hb6
        have d0 := (HR2.out.below hB56).2 k _ HMX.out 0 _ rfl
        rw [Nat.add_zero, Nat.mul_one] at d0
        have hg2 := (HR2.out.below hB56).1
        have HB6 := hid hB56
        clear c0 hg hb6 hB56 HBL
        rcases Nat.eq_zero_or_pos m with h0 | h0
        · subst h0
          have hbz : Lg.bal S a = 0 := Lg.bal_none (List.length_eq_zero_iff.1 HCL.out.symm) a
          rw [hbz]
          clear hbz d0
          go_wp2_with fail
          go_roundw
          case rel => exact ⟨k + 1, by omega, by go_num, HB6.out⟩
          case measure => simp [RowKit.intOf]; omega
        · obtain ⟨j, hj⟩ : ∃ j, m = j + 1 := ⟨m - 1, by omega⟩
          obtain ⟨g3, o3, hyv, hr3⟩ := HY3.out (by rw [← HM.out]; exact h0)
          subst hyv
          have hjl : j < cs.length := by rw [← HM.out]; omega
          obtain ⟨⟨z, vz⟩, hz⟩ : ∃ q, cs[j]? = some q := ⟨_, List.getElem?_eq_getElem hjl⟩
          have hb46 := hid (Below.step HB45.out HB6.out)
          have e1 := (hr3.below hb46.out).2 j _ hz 1 _ rfl
          have hg3 := (hr3.below hb46.out).1
          have hw : IntKind.i64.wrap ((m : Int) - 1) = (j : Int) := by rw [IntWalk.i64_in _ (by omega)]; omega
          have hj0 : (0 : Int) ≤ (j : Int) := by omega
          have hj1 : (j : Int) < (m : Int) := by omega
          have hm0 : (0 : Int) < (m : Int) := by omega
          have hme : ((m : Int) == 0) = false := by rw [beq_eq_false_iff_ne]; omega
          have hlast : S.books.getLast? = some z := by
            rw [List.getLast?_eq_getElem?, ← HCL.out, ← HCS.out, hj, show j + 1 - 1 = j by omega, List.getElem?_map, hz]; rfl
          by_cases hzt : z.at_ ≤ t
          · have hbe := Lg.bal_after HI.out hlast hzt a
            rw [hbe] at d0
            obtain ⟨bv, hbv⟩ : ∃ bv, bv = Lg.bal S a := ⟨_, rfl⟩
            rw [← hbv] at d0 ⊢
            have hne : (bv != bv) = false := by simp
            clear hbe hbv hj hr3 hz hlast
            go_wp2_with fail
            go_roundw
            case rel => exact ⟨k + 1, by omega, by go_num, HB6.out⟩
            case measure => simp [RowKit.intOf]; omega
          · clear hj hr3 hz hlast
            go_wp2_with fail
            go_roundw
            case rel => exact ⟨k + 1, by omega, by go_num, HB6.out⟩
            case measure => simp [RowKit.intOf]; omega
      · have hsr := (HBR.out.block _ (Array.getElem?_eq_some_iff.1 HS5.out).1).trans HS5.out
        have hq : w.heap.size < wr.heap.size := (Array.getElem?_eq_some_iff.1 hsr).1
        have q0 : wr.cell? ⟨w.heap.size, 0, none⟩ = some (.string x.1.id) := by simp [World.cell?, hsr]
        have q1 : wr.cell? ⟨w.heap.size, 1, none⟩ = some (.int .i64 x.1.at_) := by simp [World.cell?, hsr]
        have q2 : wr.cell? ⟨w.heap.size, 2, none⟩ = some (.slice xa x.1.posts.length xc) := by simp [World.cell?, hsr]
        have hwr := HB5.out.trans (HBR.out.mono HB5.out.size)
        have HBK := hid (book_any wr p S O x.1 x.2 ((HL.out.1.below HB35.out).below HBR.out) (HA.out.x.below hwr) (by omega) (fun q hq => by have := hxp q hq; omega) (by omega))
        unfold bookV at HBK
        rw [HXV.out] at HBK
        have HWR := hid hwr
        have HSR := hid hsr
        clear hsr hwr
        go_wp2_with fail
        refine (HBK.out).mono ?_
        rintro e w6 ⟨rfl, O2, hL2, hT2, hO2⟩
        have hOw : ∀ y, O y → w.heap.size ≤ y := fun y hy => by
          have := HL.out.2.2 y hy
          have := HB2.out.size
          omega
        have hB6 : Below w.heap.size w w6 := HWR.out.trans (hT2.below HWR.out.size hOw)
        have hs6 : w6.cell? ⟨w.heap.size, 1, none⟩ = some (.int .i64 x.1.at_) := by
          have hnO : ¬ O w.heap.size := fun e => by
            have := HL.out.2.2 _ e
            have := (Array.getElem?_eq_some_iff.1 HS2.out).1
            omega
          have := (hT2.block _ hq hnO).trans HSR.out
          simp [World.cell?, this]
        have hq6 : w.heap.size < w6.heap.size := Nat.lt_of_lt_of_le hq hT2.size
        have H6 := hid (And.intro hL2 (And.intro hT2 (And.intro hO2 hB6)))
        clear hL2 hT2 hO2 hB6 hOw q0 q1 q2 HBK
        by_cases hcz : Lg.code S x.1 = 0
        · rw [hcz]
          by_cases hta : x.1.at_ ≤ t
          · clear hcz
            go_wp2_with fail
            go_ret
            exact ⟨rfl, H6.out.2.2.2⟩
          · have HBA2 := hid (balances_any w6 p _ O2 _ ns t H6.out.1 (HA.out.a.below H6.out.2.2.2) HF1.out f3)
            have HCZ := hid hcz
            have HTA := hid hta
            clear hcz
            go_wp2_with fail
            refine (HBA2.out).mono ?_
            rintro e w7 ⟨vm, rfl, ho, hb7⟩
            have hsm := (bals_sl ho).slOf
            obtain ⟨ma, mc, hmv, m1, m2, m3⟩ := hsm
            rw [List.length_map] at hmv m1 m3
            subst hmv
            have HM3 := hid m3
            have hB7 := H6.out.2.2.2.trans (hb7.mono H6.out.2.2.2.size)
            have HB7 := hid hB7
            have HB67 := hid hb7
            have HE := hid (show (ns.map fun a => Lg.balAt (Lg.book S x.1) a t) = ns.map fun a => Lg.balAt S a t from List.map_congr_left fun a _ => Lg.bal_before HI.out HCZ.out a (by have := HTA.out; omega))
            clear ho hb7 m3 hB7
            go_wp2_with fail
            go_loopw [19] (fun iv wx => ∃ k : Nat, k ≤ ns.length ∧ iv = .int .i64 k ∧ Hid (Below w7.heap.size w7 wx)) (fun iv _ => ns.length - (RowKit.intOf iv).toNat)
            case atStart => exact ⟨0, Nat.zero_le _, rfl, Below.refl _ _⟩
            case round =>
              obtain ⟨k, hk, rfl, HBX⟩ := hrel
              by_cases hlt : k < ns.length
              · obtain ⟨a, ha⟩ : ∃ a, ns[k]? = some a := ⟨_, List.getElem?_eq_getElem hlt⟩
                have hmx : (ns.map fun a => Lg.balAt S a t)[k]? = some (Lg.balAt S a t) := by rw [List.getElem?_map, ha]; rfl
                obtain ⟨bv, hbv⟩ : ∃ bv, bv = Lg.balAt S a t := ⟨_, rfl⟩
                rw [← hbv] at hmx
                obtain ⟨g2, o2, hnv, hr2⟩ := HM3.out (by omega)
                subst hnv
                have c0 := (hr2.below HBX.out).2 k bv (by rw [HE.out]; exact hmx) 0 _ rfl
                rw [Nat.add_zero, Nat.mul_one] at c0
                have hg := (hr2.below HBX.out).1
                have hold := ((HSN.out.below HBR.out).tch H6.out.2.1 (fun y hy e => by
                  have := HL.out.1.lt e
                  have := HB4.out.size
                  omega)).below (HB67.out.trans (HBX.out.mono HB67.out.size))
                obtain ⟨a', cap', e', _, _, h4⟩ := hold
                rw [List.length_map] at e' h4
                cases e'
                obtain ⟨g4, o4, hnv4, -, hr4⟩ := h4 (by omega)
                subst hnv4
                have d0 := hr4.2 k bv hmx 0 _ rfl
                rw [Nat.add_zero, Nat.mul_one] at d0
                have hg4 := hr4.1
                have hk0 : (0 : Int) ≤ (k : Int) := by omega
                have hk1 : (k : Int) < (ns.length : Int) := by omega
                have hne : (bv != bv) = false := by simp
                clear hr2 hr4 h4 hmx ha hbv
                go_wp2_with fail
                go_region
                go_wp2_with fail
                go_roundw
                case rel => exact ⟨k + 1, by omega, by go_num, HBX.out.drew⟩
                case measure => simp [RowKit.intOf]; omega
              · go_wp2_with fail
                go_ret
                exact ⟨rfl, HB7.out.trans (HBX.out.mono HB7.out.size)⟩
        · have hcb : (Lg.code S x.1 != 0) = true := by simpa using hcz
          clear hcz
          go_wp2_with fail
          go_ret
          exact ⟨rfl, H6.out.2.2.2⟩

end Go.Proofs.YtfkcphflcmpenaaDoor
