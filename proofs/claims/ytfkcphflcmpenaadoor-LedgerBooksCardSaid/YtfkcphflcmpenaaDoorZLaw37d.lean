/-
  The statement LedgerBooks as the program computes it. Conditions: sizes that arguments can have.
-/
import Derived.Test.YtfkcphflcmpenaaDoorZLaw37b
import Derived.Test.YtfkcphflcmpenaaDoorZLed12
import Derived.Test.YtfkcphflcmpenaaDoorZMBase
import Derived.BigQuiet
namespace Go.Proofs.YtfkcphflcmpenaaDoor
open Go.RowKit Go.Lib Go.Maps

set_option maxRecDepth 100000 in
set_option maxHeartbeats 8000000 in
theorem books_law (w : World) (va vl : Value) (c : Nat) (ns : List ByteArray) (bs : List (Lg.Bk × Value)) (x : Lg.Bk × Value) (h : ArgsMore w va vl ns bs x) (hc : c < 65536) :
    Calls Tryd.prog 5 #[va, .int .u16 c, vl, bookV x] w (Gives (.bool true) w) := by
  have HA := hid h
  obtain ⟨i0, hi, hz0, hz1, hz2⟩ := info_parts Tryd.infoBk
  obtain ⟨aa, ca, rfl, a1, a2, a3⟩ := h.a
  obtain ⟨la, lc, rfl, l1, l2, l3⟩ := h.l
  obtain ⟨xa, xc, hxv, x1, x2, x3⟩ := h.x
  have HN := hid (h.none_ _ _ _ rfl)
  have hroom := h.room
  have HXV := hid hxv
  clear h a3 l3 x3
  unfold bookV
  rw [hxv]
  clear hxv
  obtain ⟨W0, hW0⟩ : ∃ W0, W0 = w.alloc (.cells #[.string x.1.id, .int .i64 x.1.at_, .slice xa x.1.posts.length xc] 36) := ⟨_, rfl⟩
  have hb0 : Below w.heap.size w W0 := by rw [hW0]; exact (Below.refl _ w).alloc (Nat.le_refl _) _
  have hs0 : W0.heap[w.heap.size]? = some (.cells #[.string x.1.id, .int .i64 x.1.at_, .slice xa x.1.posts.length xc] 36 (0, 0)) := by rw [hW0]; exact alloc_new w _
  have H0 := hid (And.intro hb0 hs0)
  have HHD := hid (head_true W0)
  clear hb0 hs0
  go_enter Tryd.func5, Tryd.ntmps5
  go_wp2_with fail
  rw [← hW0]
  clear hW0
  refine (HHD.out).mono ?_
  rintro e w1 ⟨rfl, hb1⟩
  have hB1 := Below.step H0.out.1 hb1
  have hs1 := (hb1.block _ (Array.getElem?_eq_some_iff.1 H0.out.2).1).trans H0.out.2
  have hq1 : w.heap.size < w1.heap.size := (Array.getElem?_eq_some_iff.1 hs1).1
  have q0 : w1.cell? ⟨w.heap.size, 0, none⟩ = some (.string x.1.id) := by simp [World.cell?, hs1]
  have q1 : w1.cell? ⟨w.heap.size, 1, none⟩ = some (.int .i64 x.1.at_) := by simp [World.cell?, hs1]
  have q2 : w1.cell? ⟨w.heap.size, 2, none⟩ = some (.slice xa x.1.posts.length xc) := by simp [World.cell?, hs1]
  have hown : (w1.alloc (.cells #[.string x.1.id, .int .i64 x.1.at_, .slice xa x.1.posts.length xc] 36)).ownsRow w1.heap.size 36 3 (.slice (some ⟨w1.heap.size, 0, none⟩) 1 1) 1 [.string x.1.id, .int .i64 x.1.at_, .slice xa x.1.posts.length xc] := World.ownsRow_lit w1 _ 1 (Nat.le_refl _) (by unfold maxLen; omega) rfl
  have hba : Below w1.heap.size w1 (w1.alloc (.cells #[.string x.1.id, .int .i64 x.1.at_, .slice xa x.1.posts.length xc] 36)) := (Below.refl _ w1).alloc (Nat.le_refl _) _
  have hnews : ∀ b, la = some b → ∀ j u, (bs.flatMap bookC)[j]? = some u → (w1.alloc (.cells #[.string x.1.id, .int .i64 x.1.at_, .slice xa x.1.posts.length xc] 36)).cell? (b.add j) = some u := by
    intro b hb j u hu
    have hl := (HA.out.l.below hB1).below hba
    obtain ⟨a', cap', e', _, _, h4⟩ := hl
    cases e'
    have hpos : 0 < bs.length := by
      cases bs with
      | nil => simp at hu
      | cons y l => simp
    obtain ⟨g, o, e2, hr⟩ := h4 hpos
    rw [hb] at e2
    cases e2
    exact flat_cells (cells := bookC) (sz := 3) (fun _ => rfl) hr j u hu
  have hone : ∀ u ∈ bs.flatMap bookC, u.oneCell' = true := book_one bs (fun q hq => by
    obtain ⟨a, k, e, _⟩ := HA.out.p q hq
    rw [e]; rfl)
  have HNW := hid hnews
  have HON := hid hone
  have HS1 := hid hs1
  have HB1 := hid hB1
  have HLN := hid (flat_len (cells := bookC) (sz := 3) bs (fun _ => rfl))
  clear hnews hone hs1 hb1 hB1
  go_wp2_with (at_builtin; refine wpList_append_join _ rfl _ _ 24 rfl w1.heap.size 36 i0 (.agg #[.string ⟨#[]⟩, .int .i64 0, .slice none 0 0]) 3 48 Tryd.underlying24 hi hz0 hz1 hz2 rfl (by decide) _ _ _ rfl hown la bs.length lc (bs.flatMap bookC) rfl HLN.out HN.out HNW.out HON.out (by unfold maxLen at l2 ⊢; omega) (by omega) (by simp) ?_; intro vj W2 hj hgj)
  have hB2 : Below w.heap.size w W2 := (HB1.out.trans (hba.mono HB1.out.size)).grown hgj (by simp; omega) (fun r e => by have e' : w1.heap.size = r := Option.some.inj e; omega)
  have hs2 : W2.heap[w.heap.size]? = some (.cells #[.string x.1.id, .int .i64 x.1.at_, .slice xa x.1.posts.length xc] 36 (0, 0)) :=
    (hgj.block _ (by simp; omega) (fun e => by have e' : w.heap.size = w1.heap.size := Option.some.inj e; omega)).trans ((Below.heap_alloc w1 _ _ hq1).trans HS1.out)
  have hsj := joined_sl (x := (x.1, .slice xa x.1.posts.length xc)) rfl hj
  have HFW := hid (few_any W2 _ vj ns ((x.1, .slice xa x.1.posts.length xc) :: bs) (HA.out.a.below hB2) hsj (fun q hq => by
    rcases List.mem_cons.1 hq with rfl | hq
    · have := HA.out.x.below hB2
      rw [HXV.out] at this
      exact this
    · exact (HA.out.p q hq).below hB2))
  have HB2 := hid hB2
  have HS2 := hid hs2
  have HAA := hid (ArgsAt.below HA.out.toArgsAt hB2)
  clear hj hgj hB2 hs2 hsj hown hba q0 q1 q2
  refine (HFW.out).mono ?_
  rintro e w2' ⟨rfl, rfl⟩
  rw [List.map_cons]
  cases hf : Lg.fewB ns (x.1 :: bs.map Prod.fst) with
  | false =>
    clear hf
    go_wp2_with fail
    go_ret
    exact ⟨rfl, HB2.out⟩
  | true =>
    obtain ⟨hf2, hxi, hxp⟩ := few_tail hf
    obtain ⟨f1, f2, f3, f4⟩ := Lg.fewB_posts hf
    have HFI := hid (filled_any w2' _ _ c ns bs HAA.out.a HAA.out.l HAA.out.p hf2 hc)
    have HF1 := hid f1
    have hbl : bs.length ≤ 39 := by simp at f4; omega
    clear hf hf2 f1 f2 f4
    go_wp2_with fail
    refine (HFI.out).mono ?_
    rintro e w3 ⟨p, O, rfl, hL, hb3, hO⟩
    obtain ⟨S, hS⟩ : ∃ S, S = Lg.filled ns (bitB c) (bs.map Prod.fst) := ⟨_, rfl⟩
    rw [← hS] at hL
    have hfl : S.books.length ≤ 39 := by
      have := Lg.filled_len ns (bitB c) (bs.map Prod.fst)
      rw [← hS, List.length_map] at this
      omega
    have HI := hid hL.inv
    have HLL := hid (list_any w3 p S O hL)
    have HL := hid (And.intro hL (And.intro hb3 hO))
    clear hL hb3 hO hS
    go_wp2_with fail
    refine (HLL.out).mono ?_
    intro e w4 hLP
    obtain ⟨vall, rfl, hall, hb4⟩ := hLP.sl
    have HALL4 := hid hall
    have hsl : ∃ ya yc, vall = .slice ya S.books.length yc ∧ (ya = none → S.books.length = 0 ∧ yc = 0) := by
      obtain ⟨v', cs', e', h1, h2, _⟩ := hLP
      cases e'
      have hcl : cs'.length = S.books.length := by rw [← h1, List.length_map]
      rw [← hcl]
      rcases h2.2 with ⟨hv, h0⟩ | ⟨g, cap, cur, hv, _⟩
      · exact ⟨none, 0, by rw [hv, h0], fun _ => ⟨h0, rfl⟩⟩
      · exact ⟨_, cap, hv, fun h => by cases h⟩
    obtain ⟨ya, yc, hye, hyn⟩ := hsl
    have HBA := hid (balances_any w4 p S O _ ns 144001439 (HL.out.1.below hb4) ((HAA.out.a.below HL.out.2.1).below hb4) HF1.out f3)
    have HB4 := hid hb4
    have HYE := hid hye
    have HYN := hid hyn
    clear hLP hall hb4 hye hyn
    go_wp2_with fail
    refine (HBA.out).mono ?_
    rintro e w5 ⟨vn, rfl, ho, hb5⟩
    have hlo := ho.lt
    have hsn := (bals_sl ho)
    obtain ⟨na, nc, hvn, n1, n2, n3⟩ := hsn.slOf
    rw [List.length_map] at hvn n1 n3
    have HSN := hid (hsn.mono (Q' := fun k => w3.heap.size ≤ k) (fun k hk _ => by have := (hlo k hk).1; have := HB4.out.size; omega))
    subst hvn
    have hB35 := Below.step HB4.out hb5
    have hB5 := Below.step (Below.step HB2.out HL.out.2.1) hB35
    have hs5 := ((Below.step HL.out.2.1 hB35).block _ (Array.getElem?_eq_some_iff.1 HS2.out).1).trans HS2.out
    have hq : w.heap.size < w5.heap.size := (Array.getElem?_eq_some_iff.1 hs5).1
    have q0 : w5.cell? ⟨w.heap.size, 0, none⟩ = some (.string x.1.id) := by simp [World.cell?, hs5]
    have q1 : w5.cell? ⟨w.heap.size, 1, none⟩ = some (.int .i64 x.1.at_) := by simp [World.cell?, hs5]
    have q2 : w5.cell? ⟨w.heap.size, 2, none⟩ = some (.slice xa x.1.posts.length xc) := by simp [World.cell?, hs5]
    have HBK := hid (book_any w5 p S O x.1 x.2 (HL.out.1.below hB35) (HA.out.x.below hB5) (by omega) (fun q hq => by have := hxp q hq; omega) (by omega))
    unfold bookV at HBK
    rw [HXV.out] at HBK
    have HALL5 := hid (HALL4.out.below hb5)
    have HS5 := hid hs5
    have HB35 := hid hB35
    have HB5 := hid hB5
    clear ho hlo hsn n3 hb5 hB35 hB5 hs5 HALL4
    go_wp2_with fail
    refine (HBK.out).mono ?_
    rintro e w6 ⟨rfl, O2, hL2, hT2, hO2⟩
    have hOw : ∀ y, O y → w.heap.size < y := fun y hy => by
      have h1 := HL.out.2.2 y hy
      have h2 := (Array.getElem?_eq_some_iff.1 HS2.out).1
      omega
    have hO3 : ∀ y, O y → y < w3.heap.size := fun y hy => HL.out.1.lt hy
    have hB6 : Below w.heap.size w w6 := HB5.out.trans (hT2.below HB5.out.size (fun y hy => by have := hOw y hy; omega))
    have hs6 := (hT2.block _ hq (fun e => by have := hOw _ e; omega)).trans HS5.out
    have HALL6 := hid (HALL5.out.tch hT2 (fun k hk e => by have := hO3 k e; omega))
    have HSN6 := hid (HSN.out.tch hT2 (fun k hk e => by have := hO3 k e; omega))
    have HL6 := hid hL2
    have HO2 : Hid (∀ y, O2 y → w.heap.size < y) := fun y hy => by
      rcases hO2 y hy with h | h
      · exact hOw y h
      · have := (Array.getElem?_eq_some_iff.1 HS5.out).1; omega
    have HBA2 := hid (balances_any w6 p _ O2 _ ns 144001439 hL2 (HA.out.a.below hB6) HF1.out f3)
    have HB6 := hid hB6
    have HS6 := hid hs6
    clear q0 q1 q2 hq hL2 hT2 hO2 hB6 hs6 HBK HALL5 HSN
    go_wp2_with fail
    refine (HBA2.out).mono ?_
    rintro e w7 ⟨vm, rfl, ho, hb7⟩
    obtain ⟨ma, mc, hmv, m1, m2, m3⟩ := (bals_sl ho).slOf
    rw [List.length_map] at hmv m1 m3
    subst hmv
    have HM3 := hid m3
    have HB7 := hid (Below.step HB6.out hb7)
    have HS7 := hid ((hb7.block _ (Array.getElem?_eq_some_iff.1 HS6.out).1).trans HS6.out)
    have HALL7 := hid (HALL6.out.below hb7)
    have HSN7 := hid (HSN6.out.below hb7)
    have HL7 := hid (HL6.out.below hb7)
    clear ho hb7 m3
    by_cases hcz : Lg.code S x.1 = 0
    · rw [hcz]
      have HCZ := hid hcz
      clear hcz
      have hpl := Lg.formed_len (Lg.code_zero HCZ.out).1
      have hun := Lg.formed_units (Lg.code_zero HCZ.out).1
      have HUN := hid hun
      clear hun
      go_wp2_with fail
      go_loopw [16, 17, 18] (fun iv _ _ wx => ∃ k : Nat, k ≤ ns.length ∧ iv = .int .i64 k ∧ Hid (Below w7.heap.size w7 wx)) (fun iv _ _ _ => ns.length - (RowKit.intOf iv).toNat)
      case atStart => exact ⟨0, Nat.zero_le _, rfl, Below.refl _ _⟩
      case round =>
        obtain ⟨k, hk, rfl, HBX⟩ := hrel
        by_cases hlt : k < ns.length
        · obtain ⟨a, ha⟩ : ∃ a, ns[k]? = some a := ⟨_, List.getElem?_eq_getElem hlt⟩
          have hmx : (ns.map fun a => Lg.balAt S a 144001439)[k]? = some (Lg.balAt S a 144001439) := by rw [List.getElem?_map, ha]; rfl
          have hmx2 : (ns.map fun a => Lg.balAt (Lg.book S x.1) a 144001439)[k]? = some (Lg.balAt S a 144001439 + Lg.sumP x.1.posts a) := by rw [List.getElem?_map, ha, ← Lg.bal_book_max HI.out HCZ.out]; rfl
          have hbd := Lg.balAt_bound HI.out a 144001439
          obtain ⟨bo, hbo⟩ : ∃ bo, bo = Lg.balAt S a 144001439 := ⟨_, rfl⟩
          rw [← hbo] at hmx hmx2 hbd
          obtain ⟨a', cap', e', _, _, h4⟩ := HSN7.out.below HBX.out
          rw [List.length_map] at e' h4
          cases e'
          obtain ⟨g4, o4, hnv4, -, hr4⟩ := h4 (by omega)
          subst hnv4
          have d0 := hr4.2 k bo hmx 0 _ rfl
          rw [Nat.add_zero, Nat.mul_one] at d0
          have hg4 := hr4.1
          obtain ⟨g2, o2, hnv, hr2⟩ := HM3.out (by omega)
          subst hnv
          obtain ⟨g, o, hav, hr⟩ : ∃ g o, aa = some ⟨g, o, none⟩ ∧ RowOf w g o 1 strC ns := by
            obtain ⟨a', cap', e', _, _, h4⟩ := HA.out.a
            cases e'
            exact h4 (by omega)
          subst hav
          have hk0 : (0 : Int) ≤ (k : Int) := by omega
          have hk1 : (k : Int) < (ns.length : Int) := by omega
          have HKX : Hid (∀ W, Below w7.heap.size w7 W → W.cell? ⟨g2, o2 + k, none⟩ = some (.int .i64 (bo + Lg.sumP x.1.posts a)) ∧ W.cell? ⟨g, o + k, none⟩ = some (.string a) ∧ W.cell? ⟨w.heap.size, 2, none⟩ = some (.slice xa x.1.posts.length xc) ∧ g2 < W.heap.size ∧ g < W.heap.size ∧ w.heap.size < W.heap.size) := by
            intro W hW
            have h1 := (hr2.below hW).2 k _ hmx2 0 _ rfl
            have h2 := (hr.below (Below.step HB7.out hW)).2 k _ ha 0 _ rfl
            have h3 := (hW.block _ (Array.getElem?_eq_some_iff.1 HS7.out).1).trans HS7.out
            rw [Nat.add_zero, Nat.mul_one] at h1 h2
            exact ⟨h1, h2, by simp [World.cell?, h3], (hr2.below hW).1, (hr.below (Below.step HB7.out hW)).1, (Array.getElem?_eq_some_iff.1 h3).1⟩
          have HBD := hid hbd
          clear hr2 hr4 h4 hr hmx hmx2 ha hbo hbd
          go_wp2_with fail
          go_loopw [17, 18] (fun wv jv wx => ∃ j : Nat, j ≤ x.1.posts.length ∧ jv = .int .i64 j ∧ wv = .int .i64 (bo + Lg.sumP (x.1.posts.take j) a) ∧ Hid (Below w7.heap.size w7 wx)) (fun _ jv _ => x.1.posts.length - (RowKit.intOf jv).toNat)
          case atStart => exact ⟨0, Nat.zero_le _, rfl, by simp [Lg.sumP], HBX.out⟩
          case round =>
            obtain ⟨j, hj, rfl, rfl, HBY⟩ := hrel
            obtain ⟨c0, c1, c2, hg2, hg, hgx⟩ := HKX.out _ HBY.out
            by_cases hjl : j < x.1.posts.length
            · obtain ⟨g5, o5, hxa, hr5⟩ : ∃ g o, xa = some ⟨g, o, none⟩ ∧ RowOf w g o 2 postC x.1.posts := by
                have h1 := HA.out.x
                rw [HXV.out] at h1
                obtain ⟨a', cap', e', _, _, h4⟩ := h1
                cases e'
                exact h4 (by omega)
              subst hxa
              obtain ⟨u, hu⟩ : ∃ u, x.1.posts[j]? = some u := ⟨_, List.getElem?_eq_getElem hjl⟩
              have hr6 := hr5.below (Below.step HB7.out HBY.out)
              have p0 := hr6.2 j u hu 0 _ rfl
              have p1 := hr6.2 j u hu 1 _ rfl
              rw [Nat.add_zero] at p0
              have hg5 := hr6.1
              have hj0 : (0 : Int) ≤ (j : Int) := by omega
              have hj1 : (j : Int) < (x.1.posts.length : Int) := by omega
              have hlb := list_beq u.1 a
              have HST := hid (show Lg.sumP (x.1.posts.take (j + 1)) a = Lg.sumP (x.1.posts.take j) a + if u.1 = a then u.2 else 0 by
                rw [take_snoc hu, Lg.sumP_append]; simp [Lg.sumP])
              have hub := HUN.out.2 u (List.mem_of_getElem? hu)
              have hsb := Lg.sumP_bound (l := x.1.posts.take j) (fun p hp => ⟨(HUN.out.2 p (List.mem_of_mem_take hp)).1, (HUN.out.2 p (List.mem_of_mem_take hp)).2⟩) a
              have htl : (x.1.posts.take j).length ≤ 12 := by rw [List.length_take]; omega
              have hbd := HBD.out
              have hw : IntKind.i64.wrap (bo + Lg.sumP (x.1.posts.take j) a + u.2) = bo + Lg.sumP (x.1.posts.take j) a + u.2 := IntWalk.i64_in _ (by omega)
              clear hr5 hr6 hu hub hsb htl hbd
              by_cases hua : u.1 = a
              · rw [decide_eq_true hua] at hlb
                rw [if_pos hua] at HST
                clear hua
                go_wp2_with fail
                go_quiet (fail)
                go_wp2_with fail
                go_roundw
                case rel => exact ⟨j + 1, by omega, by go_num, by rw [HST.out, Int.add_assoc], below_drewN HBY.out _⟩
                case measure => simp [RowKit.intOf]; omega
              · rw [decide_eq_false hua] at hlb
                rw [if_neg hua, Int.add_zero] at HST
                clear hua
                go_wp2_with fail
                go_quiet (fail)
                go_wp2_with fail
                go_roundw
                case rel => exact ⟨j + 1, by omega, by go_num, by rw [HST.out], below_drewN HBY.out _⟩
                case measure => simp [RowKit.intOf]; omega
            · have hje : j = x.1.posts.length := by omega
              subst hje
              rw [List.take_length]
              obtain ⟨sv, hsv⟩ : ∃ sv, sv = bo + Lg.sumP x.1.posts a := ⟨_, rfl⟩
              rw [← hsv] at c0 ⊢
              have hne : (sv != sv) = false := by simp
              clear hsv
              go_wp2_with fail
              go_roundw
              case rel => exact ⟨k + 1, by omega, by go_num, HBY.out⟩
              case measure => simp [RowKit.intOf]; omega
        · have HD := hid (Below.step HB7.out HBX.out)
          have HLI : Hid (∀ W, Below wr.heap.size wr W → Calls Tryd.prog 22 #[.pointer (some ⟨p, 0, none⟩)] W (ListPost (Lg.book S x.1).books W)) := fun W hW => list_any W p _ O2 ((HL7.out.below HBX.out).below hW)
          have HQC : Hid (∀ W, Below wr.heap.size wr W → W.cell? ⟨w.heap.size, 0, none⟩ = some (.string x.1.id) ∧ W.cell? ⟨w.heap.size, 1, none⟩ = some (.int .i64 x.1.at_) ∧ W.cell? ⟨w.heap.size, 2, none⟩ = some (.slice xa x.1.posts.length xc)) := by
            intro W hW
            have h1 := (HBX.out.block _ (Array.getElem?_eq_some_iff.1 HS7.out).1).trans HS7.out
            have h3 := (hW.block _ (Array.getElem?_eq_some_iff.1 h1).1).trans h1
            exact ⟨by simp [World.cell?, h3], by simp [World.cell?, h3], by simp [World.cell?, h3]⟩
          obtain ⟨cs, hc1, hc2, hc3⟩ := HALL7.out.below HBX.out
          have HC := hid (And.intro hc1 (And.intro hc2 hc3))
          have hcl : cs.length = S.books.length := by rw [← hc1, List.length_map]
          clear hc1 hc2 hc3
          have hye := HYE.out
          subst hye
          have HFL := hid (show (cs.flatMap bookC).length = S.books.length * 3 by rw [flat_len (cells := bookC) (sz := 3) cs (fun _ => rfl), hcl])
          have HON2 := hid (show ∀ u ∈ cs.flatMap bookC, u.oneCell' = true from book_one cs (fun q hq => by
            obtain ⟨a, k, e, _⟩ := HC.out.2.2 q hq
            rw [e]; rfl))
          have HNB : Hid (∀ W, Below wr.heap.size wr W → ∀ b, ya = some b → ∀ j u, (cs.flatMap bookC)[j]? = some u → W.cell? (b.add j) = some u) := by
            intro W hW b hb j u hu
            have hl := HC.out.2.1.slOf.below hW
            obtain ⟨a', cap', e', _, _, h4⟩ := hl
            rw [hcl] at e'; cases e'
            have hpos : 0 < cs.length := by
              cases cs with
              | nil => simp at hu
              | cons y l => simp
            obtain ⟨g, o, e2, hr⟩ := h4 hpos
            rw [hb] at e2
            cases e2
            exact flat_cells (cells := bookC) (sz := 3) (fun _ => rfl) hr j u hu
          go_upto_region 27 with (fail)
          refine wp_heldS (S := fun _ wx => Below wr.heap.size wr wx) (by kernel_rfl) ?_
          simp only [List.size_toArray, List.length_cons, List.length_nil, Nat.reduceAdd]
          intro hc
          have S0 : Below wr.heap.size wr wr.drew := (Below.refl _ wr).drew
          refine wpAnyS_take (i := 0) (v := .bool true) rfl (by kernel_rfl) (by kernel_rfl) (by kernel_rfl) (fun _ _ _ h => h) (fun _ _ => Iff.rfl) hc (by rfl) (fun wx hx => ?_) S0 (fun hc S0 => ?_)
          · go_simp
          simp only [List.getElem_toArray, List.getElem_cons_succ, List.getElem_cons_zero, Act.put, List.setIfInBounds_toArray, List.set_cons_zero, List.set_cons_succ]
          refine wpAnyS_take (i := 1) (v := .bool true) rfl (by kernel_rfl) (by kernel_rfl) (by kernel_rfl) (fun _ _ _ h => h) (fun _ _ => Iff.rfl) hc (by rfl) (fun wx hx => ?_) S0 (fun hc S0 => ?_)
          · go_simp
          simp only [List.getElem_toArray, List.getElem_cons_succ, List.getElem_cons_zero, Act.put, List.setIfInBounds_toArray, List.set_cons_zero, List.set_cons_succ]
          refine wpAnyS_take (i := 2) (v := .pointer (some ⟨p, 0, none⟩)) rfl (by kernel_rfl) (by kernel_rfl) (by kernel_rfl) (fun _ _ _ h => h) (fun _ _ => Iff.rfl) hc (by rfl) (fun wx hx => ?_) S0 (fun hc S0 => ?_)
          · go_simp
          simp only [List.getElem_toArray, List.getElem_cons_succ, List.getElem_cons_zero, Act.put, List.setIfInBounds_toArray, List.set_cons_zero, List.set_cons_succ]
          refine wpAnyS_take (i := 5) (v := .slice ya S.books.length yc) rfl (by kernel_rfl) (by kernel_rfl) (by kernel_rfl) (fun _ _ _ h => h) (fun _ _ => Iff.rfl) hc (by rfl) (fun wx hx => ?_) S0 (fun hc S0 => ?_)
          · go_simp
          simp only [List.getElem_toArray, List.getElem_cons_succ, List.getElem_cons_zero, Act.put, List.setIfInBounds_toArray, List.set_cons_zero, List.set_cons_succ]
          refine wpAnyS_take (i := 7) (v := .agg #[.string x.1.id, .int .i64 x.1.at_, .slice xa x.1.posts.length xc]) rfl (by kernel_rfl) (by kernel_rfl) (by kernel_rfl) (fun _ _ _ h => h) (fun _ _ => Iff.rfl) hc (by rfl) (fun wx hx => ?_) S0 (fun hc S0 => ?_)
          · obtain ⟨_, _, _, hS⟩ := hx
            obtain ⟨g0, g1, g2⟩ := HQC.out _ hS
            go_simp
          simp only [List.getElem_toArray, List.getElem_cons_succ, List.getElem_cons_zero, Act.put, List.setIfInBounds_toArray, List.set_cons_zero, List.set_cons_succ]
          refine wpAnyS_as hc (fun C hC a0 ha0 => ?_)
          have A3468 : ∀ vL vE vX vB W, Below wr.heap.size wr W → BkSl W vL (fun k => vX.ownBlock ≠ some k) (Lg.book S x.1).books → W.ownsRow wr.heap.size 36 3 vX S.books.length (cs.flatMap bookC) → OneRow wr.heap.size #[.string x.1.id, .int .i64 x.1.at_, .slice xa x.1.posts.length xc] W vB → C 4 #[true, true, true, true, true, true, true, true, true, false, false, false, false] ((((a0.put (some 112) vL).put (some 113) vE).put (some 115) vX).put (some 117) vB) W := by
            intro vL vE vX vB W hW F3 F6 F8
            rw [hC, ha0]
            intro hc
            simp only [Act.put, List.setIfInBounds_toArray, List.set_cons_zero, List.set_cons_succ]
            refine wpAnyS_some (rs := [9]) (by kernel_rfl) (by simp) hc (fun i hi => ?_)
            simp only [List.mem_cons, List.not_mem_nil, or_false] at hi
            subst hi
            refine ⟨_, rfl, by rfl, fun K' hK => ?_⟩
            obtain ⟨gB, rfl, hgB, hgB2⟩ := F8
            refine wp_append_join (.tmp 115) (.tmp 117) 24 rfl wr.heap.size 36 i0 (.agg #[.string ⟨#[]⟩, .int .i64 0, .slice none 0 0]) 3 48 Tryd.underlying24 hi hz0 hz1 hz2 rfl (by decide) vX S.books.length _ rfl F6 (some ⟨gB, 0, none⟩) 1 1 [.string x.1.id, .int .i64 x.1.at_, .slice xa x.1.posts.length xc] rfl rfl (fun e => by cases e) (fun b e => by cases e; exact World.news_of_block hgB2) (by simp [Value.oneCell']) (by unfold maxLen; omega) (by omega) hW.size ?_
            intro vY w1 hown hgr hor
            have hW1 : Below wr.heap.size wr w1 := hW.grown hgr hW.size (fun k hk => (F6.lt k hk).1)
            have G3 : BkSl w1 vL (fun _ => True) (Lg.book S x.1).books := (F3.tch (Tch.of_grown (O := fun k => vX.ownBlock = some k) hgr (fun r e => e)) (fun k hk => hk)).mono fun _ _ _ => trivial
            have GY : BkSl w1 vY (fun _ => True) (Lg.book S x.1).books := by
              refine ⟨cs ++ [(x.1, .slice xa x.1.posts.length xc)], ?_, ?_, fun q hq => ?_⟩
              · rw [Lg.book_ok HCZ.out, List.map_append, HC.out.1]; rfl
              · refine (SlIn.own (B := wr.heap.size) (e := 36) (sz := 3) (cells := bookC) (l := cs ++ [(x.1, .slice xa x.1.posts.length xc)]) ?_ (fun _ _ => rfl)).mono (fun _ _ _ => trivial)
                rw [List.length_append, hcl, List.flatMap_append]
                exact hown
              · rcases List.mem_append.1 hq with hq | hq
                · exact ((HC.out.2.2 q hq).below hW1).mono (fun _ _ _ => trivial)
                · simp at hq; subst hq
                  have hx := HA.out.x
                  rw [HXV.out] at hx
                  exact (hx.below (Below.step HD.out hW1)).slIn.mono (fun _ _ _ => trivial)
            refine hK.out _ _ hW1 (fun hc => ?_)
            clear hK K'
            simp only [Act.put, List.setIfInBounds_toArray, List.set_cons_zero, List.set_cons_succ] at hc ⊢
            refine wpAnyS_some (rs := [10]) (by kernel_rfl) (by simp) hc (fun i hi => ?_)
            simp only [List.mem_cons, List.not_mem_nil, or_false] at hi
            subst hi
            refine ⟨_, rfl, by rfl, fun K' hK => ?_⟩
            have HSA := hid (same_bk G3 GY)
            clear G3 GY hown hgr hor F3 F6 hgB2
            go_simp
            go_at_call 21
            refine (HSA.out).mono ?_
            rintro e w2 ⟨rfl, hb2⟩
            try go_simp
            have hW2 := Below.step hW1 hb2
            refine hK.out _ _ hW2 (fun hc => ?_)
            clear hK K'
            simp only [Act.put, List.setIfInBounds_toArray, List.set_cons_zero, List.set_cons_succ] at hc ⊢
            refine wpAnyS_some (rs := [11]) (by kernel_rfl) (by simp) hc (fun i hi => ?_)
            simp only [List.mem_cons, List.not_mem_nil, or_false] at hi
            subst hi
            refine ⟨_, rfl, by rfl, fun K' hK => ?_⟩
            go_simp
            refine hK.out _ _ hW2 (fun hc => ?_)
            clear hK K'
            simp only [Act.put, List.setIfInBounds_toArray, List.set_cons_zero, List.set_cons_succ] at hc ⊢
            refine wpAnyS_some (rs := [12]) (by kernel_rfl) (by simp) hc (fun i hi => ?_)
            simp only [List.mem_cons, List.not_mem_nil, or_false] at hi
            subst hi
            refine ⟨_, rfl, by rfl, fun K' hK => ?_⟩
            go_simp
            refine hK.out _ _ hW2 (fun hc => ?_)
            clear hK K'
            refine wpAnyS_done (by kernel_rfl) ?_ _
            have HB9 := hid (Below.step HD.out hW2)
            clear hW2 hW1 hW hb2 HSA
            go_wp2_with fail
            go_ret
            exact ⟨rfl, HB9.out⟩
          have A348 : ∀ vL vE vB W, Below wr.heap.size wr W → BkSl W vL (fun _ => True) (Lg.book S x.1).books → EmptyRow wr.heap.size W vE → OneRow wr.heap.size #[.string x.1.id, .int .i64 x.1.at_, .slice xa x.1.posts.length xc] W vB → C 5 #[true, true, true, true, true, true, false, true, true, false, false, false, false] (((a0.put (some 112) vL).put (some 113) vE).put (some 117) vB) W := by
            intro vL vE vB W hW F3 F4 F8
            rw [hC, ha0]
            intro hc
            simp only [Act.put, List.setIfInBounds_toArray, List.set_cons_zero, List.set_cons_succ]
            refine wpAnyS_some (rs := [6]) (by kernel_rfl) (by simp) hc (fun i hi => ?_)
            simp only [List.mem_cons, List.not_mem_nil, or_false] at hi
            subst hi
            refine ⟨_, rfl, by rfl, fun K' hK => ?_⟩
            obtain ⟨gE, rfl, hgD, hgE⟩ := F4
            have hownE : W.ownsRow wr.heap.size 36 3 (.slice (some ⟨gE, 0, none⟩) 0 0) 0 [] := EmptyRow.owns ⟨gE, rfl, hgD, hgE⟩
            refine wp_append_join (.tmp 113) (.tmp 114) 24 rfl wr.heap.size 36 i0 (.agg #[.string ⟨#[]⟩, .int .i64 0, .slice none 0 0]) 3 48 Tryd.underlying24 hi hz0 hz1 hz2 rfl (by decide) (.slice (some ⟨gE, 0, none⟩) 0 0) 0 [] rfl hownE ya S.books.length yc (cs.flatMap bookC) rfl HFL.out HYN.out (HNB.out W hW) HON2.out (by unfold maxLen; omega) (by omega) hW.size ?_
            intro vX w1 hown hgr hor
            have hW1 : Below wr.heap.size wr w1 := hW.grown hgr hW.size (fun k hk => by cases hk; exact hgD)
            have G6 : w1.ownsRow wr.heap.size 36 3 vX S.books.length (cs.flatMap bookC) := by simpa using hown
            have G3 : BkSl w1 vL (fun k => vX.ownBlock ≠ some k) (Lg.book S x.1).books := (((F3.off_empty hgE).tch (Tch.of_grown (O := fun k => k = gE) hgr (fun r e => by cases e; rfl)) (fun k hk => hk.1)).mono fun k hk _ e => by
              rcases hor with h | h
              · rw [e] at h; cases h; exact hk.1 rfl
              · rw [e] at h; cases h; exact absurd hk.2 (Nat.lt_irrefl _))
            refine hK.out _ _ hW1 (fun hc => ?_)
            have t := A3468 vL (.slice (some ⟨gE, 0, none⟩) 0 0) vX vB w1 hW1 G3 G6 (F8.grown (by simp) hgE hgr)
            rw [hC, ha0] at t
            simp only [Act.put, List.setIfInBounds_toArray, List.set_cons_zero, List.set_cons_succ] at t
            simp only [Act.put, List.setIfInBounds_toArray, List.set_cons_zero, List.set_cons_succ] at hc ⊢
            exact t hc
          have A346 : ∀ vL vE vX W, Below wr.heap.size wr W → BkSl W vL (fun k => vX.ownBlock ≠ some k) (Lg.book S x.1).books → W.ownsRow wr.heap.size 36 3 vX S.books.length (cs.flatMap bookC) → C 5 #[true, true, true, true, true, true, true, true, false, false, false, false, false] (((a0.put (some 112) vL).put (some 113) vE).put (some 115) vX) W := by
            intro vL vE vX W hW F3 F6
            rw [hC, ha0]
            intro hc
            simp only [Act.put, List.setIfInBounds_toArray, List.set_cons_zero, List.set_cons_succ]
            refine wpAnyS_some (rs := [8]) (by kernel_rfl) (by simp) hc (fun i hi => ?_)
            simp only [List.mem_cons, List.not_mem_nil, or_false] at hi
            subst hi
            refine ⟨_, rfl, by rfl, fun K' hK => ?_⟩
            go_simp
            have bB : Below W.heap.size W (W.alloc (.cells #[.string x.1.id, .int .i64 x.1.at_, .slice xa x.1.posts.length xc] 36)) := (Below.refl _ W).alloc (Nat.le_refl _) _
            refine hK.out _ _ (Below.step hW bB) (fun hc => ?_)
            have t := A3468 vL vE vX (.slice (some ⟨W.heap.size, 0, none⟩) 1 1) (W.alloc (.cells #[.string x.1.id, .int .i64 x.1.at_, .slice xa x.1.posts.length xc] 36)) (Below.step hW bB) (F3.below bB) (ownsRow_below F6 bB) (OneRow.new hW.size)
            rw [hC, ha0] at t
            simp only [Act.put, List.setIfInBounds_toArray, List.set_cons_zero, List.set_cons_succ] at t
            simp only [Act.put, List.setIfInBounds_toArray, List.set_cons_zero, List.set_cons_succ] at hc ⊢
            exact t hc
          have A34 : ∀ vL vE W, Below wr.heap.size wr W → BkSl W vL (fun _ => True) (Lg.book S x.1).books → EmptyRow wr.heap.size W vE → C 6 #[true, true, true, true, true, true, false, true, false, false, false, false, false] ((a0.put (some 112) vL).put (some 113) vE) W := by
            intro vL vE W hW F3 F4
            rw [hC, ha0]
            intro hc
            simp only [Act.put, List.setIfInBounds_toArray, List.set_cons_zero, List.set_cons_succ]
            refine wpAnyS_some (rs := [6, 8]) (by kernel_rfl) (by simp) hc (fun i hi => ?_)
            simp only [List.mem_cons, List.not_mem_nil, or_false] at hi
            rcases hi with rfl | rfl
            · refine ⟨_, rfl, by rfl, fun K' hK => ?_⟩
              obtain ⟨gE, rfl, hgD, hgE⟩ := F4
              have hownE : W.ownsRow wr.heap.size 36 3 (.slice (some ⟨gE, 0, none⟩) 0 0) 0 [] := EmptyRow.owns ⟨gE, rfl, hgD, hgE⟩
              refine wp_append_join (.tmp 113) (.tmp 114) 24 rfl wr.heap.size 36 i0 (.agg #[.string ⟨#[]⟩, .int .i64 0, .slice none 0 0]) 3 48 Tryd.underlying24 hi hz0 hz1 hz2 rfl (by decide) (.slice (some ⟨gE, 0, none⟩) 0 0) 0 [] rfl hownE ya S.books.length yc (cs.flatMap bookC) rfl HFL.out HYN.out (HNB.out W hW) HON2.out (by unfold maxLen; omega) (by omega) hW.size ?_
              intro vX w1 hown hgr hor
              have hW1 : Below wr.heap.size wr w1 := hW.grown hgr hW.size (fun k hk => by cases hk; exact hgD)
              have G6 : w1.ownsRow wr.heap.size 36 3 vX S.books.length (cs.flatMap bookC) := by simpa using hown
              have G3 : BkSl w1 vL (fun k => vX.ownBlock ≠ some k) (Lg.book S x.1).books := (((F3.off_empty hgE).tch (Tch.of_grown (O := fun k => k = gE) hgr (fun r e => by cases e; rfl)) (fun k hk => hk.1)).mono fun k hk _ e => by
                rcases hor with h | h
                · rw [e] at h; cases h; exact hk.1 rfl
                · rw [e] at h; cases h; exact absurd hk.2 (Nat.lt_irrefl _))
              refine hK.out _ _ hW1 (fun hc => ?_)
              have t := A346 vL (.slice (some ⟨gE, 0, none⟩) 0 0) vX w1 hW1 G3 G6
              rw [hC, ha0] at t
              simp only [Act.put, List.setIfInBounds_toArray, List.set_cons_zero, List.set_cons_succ] at t
              simp only [Act.put, List.setIfInBounds_toArray, List.set_cons_zero, List.set_cons_succ] at hc ⊢
              exact t hc
            · refine ⟨_, rfl, by rfl, fun K' hK => ?_⟩
              go_simp
              have bB : Below W.heap.size W (W.alloc (.cells #[.string x.1.id, .int .i64 x.1.at_, .slice xa x.1.posts.length xc] 36)) := (Below.refl _ W).alloc (Nat.le_refl _) _
              refine hK.out _ _ (Below.step hW bB) (fun hc => ?_)
              have t := A348 vL vE (.slice (some ⟨W.heap.size, 0, none⟩) 1 1) (W.alloc (.cells #[.string x.1.id, .int .i64 x.1.at_, .slice xa x.1.posts.length xc] 36)) (Below.step hW bB) (F3.below bB) (F4.below bB) (OneRow.new hW.size)
              rw [hC, ha0] at t
              simp only [Act.put, List.setIfInBounds_toArray, List.set_cons_zero, List.set_cons_succ] at t
              simp only [Act.put, List.setIfInBounds_toArray, List.set_cons_zero, List.set_cons_succ] at hc ⊢
              exact t hc
          have A38 : ∀ vL vB W, Below wr.heap.size wr W → BkSl W vL (fun _ => True) (Lg.book S x.1).books → OneRow wr.heap.size #[.string x.1.id, .int .i64 x.1.at_, .slice xa x.1.posts.length xc] W vB → C 6 #[true, true, true, true, false, true, false, true, true, false, false, false, false] ((a0.put (some 112) vL).put (some 117) vB) W := by
            intro vL vB W hW F3 F8
            rw [hC, ha0]
            intro hc
            simp only [Act.put, List.setIfInBounds_toArray, List.set_cons_zero, List.set_cons_succ]
            refine wpAnyS_some (rs := [4]) (by kernel_rfl) (by simp) hc (fun i hi => ?_)
            simp only [List.mem_cons, List.not_mem_nil, or_false] at hi
            subst hi
            refine ⟨_, rfl, by rfl, fun K' hK => ?_⟩
            go_simp
            have bA : Below W.heap.size W (W.alloc (.cells #[] 36)) := (Below.refl _ W).alloc (Nat.le_refl _) _
            refine hK.out _ _ (Below.step hW bA) (fun hc => ?_)
            have t := A348 vL (.slice (some ⟨W.heap.size, 0, none⟩) 0 0) vB (W.alloc (.cells #[] 36)) (Below.step hW bA) (F3.below bA) (EmptyRow.new hW.size) (F8.below bA)
            rw [hC, ha0] at t
            simp only [Act.put, List.setIfInBounds_toArray, List.set_cons_zero, List.set_cons_succ] at t
            simp only [Act.put, List.setIfInBounds_toArray, List.set_cons_zero, List.set_cons_succ] at hc ⊢
            exact t hc
          have A48 : ∀ vE vB W, Below wr.heap.size wr W → EmptyRow wr.heap.size W vE → OneRow wr.heap.size #[.string x.1.id, .int .i64 x.1.at_, .slice xa x.1.posts.length xc] W vB → C 6 #[true, true, true, false, true, true, false, true, true, false, false, false, false] ((a0.put (some 113) vE).put (some 117) vB) W := by
            intro vE vB W hW F4 F8
            rw [hC, ha0]
            intro hc
            simp only [Act.put, List.setIfInBounds_toArray, List.set_cons_zero, List.set_cons_succ]
            refine wpAnyS_some (rs := [3]) (by kernel_rfl) (by simp) hc (fun i hi => ?_)
            simp only [List.mem_cons, List.not_mem_nil, or_false] at hi
            subst hi
            refine ⟨_, rfl, by rfl, fun K' hK => ?_⟩
            go_simp
            go_at_call 22
            refine (HLI.out W hW).mono ?_
            intro e w1 hLP
            obtain ⟨vL, rfl, hL, hb⟩ := hLP.sl
            try go_simp
            refine hK.out _ _ (Below.step hW hb) (fun hc => ?_)
            have t := A348 vL vE vB w1 (Below.step hW hb) (hL.mono fun _ _ _ => trivial) (F4.below hb) (F8.below hb)
            rw [hC, ha0] at t
            simp only [Act.put, List.setIfInBounds_toArray, List.set_cons_zero, List.set_cons_succ] at t
            simp only [Act.put, List.setIfInBounds_toArray, List.set_cons_zero, List.set_cons_succ] at hc ⊢
            exact t hc
          have A3 : ∀ vL W, Below wr.heap.size wr W → BkSl W vL (fun _ => True) (Lg.book S x.1).books → C 7 #[true, true, true, true, false, true, false, true, false, false, false, false, false] (a0.put (some 112) vL) W := by
            intro vL W hW F3
            rw [hC, ha0]
            intro hc
            simp only [Act.put, List.setIfInBounds_toArray, List.set_cons_zero, List.set_cons_succ]
            refine wpAnyS_some (rs := [4, 8]) (by kernel_rfl) (by simp) hc (fun i hi => ?_)
            simp only [List.mem_cons, List.not_mem_nil, or_false] at hi
            rcases hi with rfl | rfl
            · refine ⟨_, rfl, by rfl, fun K' hK => ?_⟩
              go_simp
              have bA : Below W.heap.size W (W.alloc (.cells #[] 36)) := (Below.refl _ W).alloc (Nat.le_refl _) _
              refine hK.out _ _ (Below.step hW bA) (fun hc => ?_)
              have t := A34 vL (.slice (some ⟨W.heap.size, 0, none⟩) 0 0) (W.alloc (.cells #[] 36)) (Below.step hW bA) (F3.below bA) (EmptyRow.new hW.size)
              rw [hC, ha0] at t
              simp only [Act.put, List.setIfInBounds_toArray, List.set_cons_zero, List.set_cons_succ] at t
              simp only [Act.put, List.setIfInBounds_toArray, List.set_cons_zero, List.set_cons_succ] at hc ⊢
              exact t hc
            · refine ⟨_, rfl, by rfl, fun K' hK => ?_⟩
              go_simp
              have bB : Below W.heap.size W (W.alloc (.cells #[.string x.1.id, .int .i64 x.1.at_, .slice xa x.1.posts.length xc] 36)) := (Below.refl _ W).alloc (Nat.le_refl _) _
              refine hK.out _ _ (Below.step hW bB) (fun hc => ?_)
              have t := A38 vL (.slice (some ⟨W.heap.size, 0, none⟩) 1 1) (W.alloc (.cells #[.string x.1.id, .int .i64 x.1.at_, .slice xa x.1.posts.length xc] 36)) (Below.step hW bB) (F3.below bB) (OneRow.new hW.size)
              rw [hC, ha0] at t
              simp only [Act.put, List.setIfInBounds_toArray, List.set_cons_zero, List.set_cons_succ] at t
              simp only [Act.put, List.setIfInBounds_toArray, List.set_cons_zero, List.set_cons_succ] at hc ⊢
              exact t hc
          have A4 : ∀ vE W, Below wr.heap.size wr W → EmptyRow wr.heap.size W vE → C 7 #[true, true, true, false, true, true, false, true, false, false, false, false, false] (a0.put (some 113) vE) W := by
            intro vE W hW F4
            rw [hC, ha0]
            intro hc
            simp only [Act.put, List.setIfInBounds_toArray, List.set_cons_zero, List.set_cons_succ]
            refine wpAnyS_some (rs := [3, 8]) (by kernel_rfl) (by simp) hc (fun i hi => ?_)
            simp only [List.mem_cons, List.not_mem_nil, or_false] at hi
            rcases hi with rfl | rfl
            · refine ⟨_, rfl, by rfl, fun K' hK => ?_⟩
              go_simp
              go_at_call 22
              refine (HLI.out W hW).mono ?_
              intro e w1 hLP
              obtain ⟨vL, rfl, hL, hb⟩ := hLP.sl
              try go_simp
              refine hK.out _ _ (Below.step hW hb) (fun hc => ?_)
              have t := A34 vL vE w1 (Below.step hW hb) (hL.mono fun _ _ _ => trivial) (F4.below hb)
              rw [hC, ha0] at t
              simp only [Act.put, List.setIfInBounds_toArray, List.set_cons_zero, List.set_cons_succ] at t
              simp only [Act.put, List.setIfInBounds_toArray, List.set_cons_zero, List.set_cons_succ] at hc ⊢
              exact t hc
            · refine ⟨_, rfl, by rfl, fun K' hK => ?_⟩
              go_simp
              have bB : Below W.heap.size W (W.alloc (.cells #[.string x.1.id, .int .i64 x.1.at_, .slice xa x.1.posts.length xc] 36)) := (Below.refl _ W).alloc (Nat.le_refl _) _
              refine hK.out _ _ (Below.step hW bB) (fun hc => ?_)
              have t := A48 vE (.slice (some ⟨W.heap.size, 0, none⟩) 1 1) (W.alloc (.cells #[.string x.1.id, .int .i64 x.1.at_, .slice xa x.1.posts.length xc] 36)) (Below.step hW bB) (F4.below bB) (OneRow.new hW.size)
              rw [hC, ha0] at t
              simp only [Act.put, List.setIfInBounds_toArray, List.set_cons_zero, List.set_cons_succ] at t
              simp only [Act.put, List.setIfInBounds_toArray, List.set_cons_zero, List.set_cons_succ] at hc ⊢
              exact t hc
          have A8 : ∀ vB W, Below wr.heap.size wr W → OneRow wr.heap.size #[.string x.1.id, .int .i64 x.1.at_, .slice xa x.1.posts.length xc] W vB → C 7 #[true, true, true, false, false, true, false, true, true, false, false, false, false] (a0.put (some 117) vB) W := by
            intro vB W hW F8
            rw [hC, ha0]
            intro hc
            simp only [Act.put, List.setIfInBounds_toArray, List.set_cons_zero, List.set_cons_succ]
            refine wpAnyS_some (rs := [3, 4]) (by kernel_rfl) (by simp) hc (fun i hi => ?_)
            simp only [List.mem_cons, List.not_mem_nil, or_false] at hi
            rcases hi with rfl | rfl
            · refine ⟨_, rfl, by rfl, fun K' hK => ?_⟩
              go_simp
              go_at_call 22
              refine (HLI.out W hW).mono ?_
              intro e w1 hLP
              obtain ⟨vL, rfl, hL, hb⟩ := hLP.sl
              try go_simp
              refine hK.out _ _ (Below.step hW hb) (fun hc => ?_)
              have t := A38 vL vB w1 (Below.step hW hb) (hL.mono fun _ _ _ => trivial) (F8.below hb)
              rw [hC, ha0] at t
              simp only [Act.put, List.setIfInBounds_toArray, List.set_cons_zero, List.set_cons_succ] at t
              simp only [Act.put, List.setIfInBounds_toArray, List.set_cons_zero, List.set_cons_succ] at hc ⊢
              exact t hc
            · refine ⟨_, rfl, by rfl, fun K' hK => ?_⟩
              go_simp
              have bA : Below W.heap.size W (W.alloc (.cells #[] 36)) := (Below.refl _ W).alloc (Nat.le_refl _) _
              refine hK.out _ _ (Below.step hW bA) (fun hc => ?_)
              have t := A48 (.slice (some ⟨W.heap.size, 0, none⟩) 0 0) vB (W.alloc (.cells #[] 36)) (Below.step hW bA) (EmptyRow.new hW.size) (F8.below bA)
              rw [hC, ha0] at t
              simp only [Act.put, List.setIfInBounds_toArray, List.set_cons_zero, List.set_cons_succ] at t
              simp only [Act.put, List.setIfInBounds_toArray, List.set_cons_zero, List.set_cons_succ] at hc ⊢
              exact t hc
          have A0 : ∀ W, Below wr.heap.size wr W → C 8 #[true, true, true, false, false, true, false, true, false, false, false, false, false] a0 W := by
            intro W hW
            rw [hC, ha0]
            intro hc
            try simp only [Act.put, List.setIfInBounds_toArray, List.set_cons_zero, List.set_cons_succ]
            refine wpAnyS_some (rs := [3, 4, 8]) (by kernel_rfl) (by simp) hc (fun i hi => ?_)
            simp only [List.mem_cons, List.not_mem_nil, or_false] at hi
            rcases hi with rfl | rfl | rfl
            · refine ⟨_, rfl, by rfl, fun K' hK => ?_⟩
              go_simp
              go_at_call 22
              refine (HLI.out W hW).mono ?_
              intro e w1 hLP
              obtain ⟨vL, rfl, hL, hb⟩ := hLP.sl
              try go_simp
              refine hK.out _ _ (Below.step hW hb) (fun hc => ?_)
              have t := A3 vL w1 (Below.step hW hb) (hL.mono fun _ _ _ => trivial)
              rw [hC, ha0] at t
              simp only [Act.put, List.setIfInBounds_toArray, List.set_cons_zero, List.set_cons_succ] at t
              simp only [Act.put, List.setIfInBounds_toArray, List.set_cons_zero, List.set_cons_succ] at hc ⊢
              exact t hc
            · refine ⟨_, rfl, by rfl, fun K' hK => ?_⟩
              go_simp
              have bA : Below W.heap.size W (W.alloc (.cells #[] 36)) := (Below.refl _ W).alloc (Nat.le_refl _) _
              refine hK.out _ _ (Below.step hW bA) (fun hc => ?_)
              have t := A4 (.slice (some ⟨W.heap.size, 0, none⟩) 0 0) (W.alloc (.cells #[] 36)) (Below.step hW bA) (EmptyRow.new hW.size)
              rw [hC, ha0] at t
              simp only [Act.put, List.setIfInBounds_toArray, List.set_cons_zero, List.set_cons_succ] at t
              simp only [Act.put, List.setIfInBounds_toArray, List.set_cons_zero, List.set_cons_succ] at hc ⊢
              exact t hc
            · refine ⟨_, rfl, by rfl, fun K' hK => ?_⟩
              go_simp
              have bB : Below W.heap.size W (W.alloc (.cells #[.string x.1.id, .int .i64 x.1.at_, .slice xa x.1.posts.length xc] 36)) := (Below.refl _ W).alloc (Nat.le_refl _) _
              refine hK.out _ _ (Below.step hW bB) (fun hc => ?_)
              have t := A8 (.slice (some ⟨W.heap.size, 0, none⟩) 1 1) (W.alloc (.cells #[.string x.1.id, .int .i64 x.1.at_, .slice xa x.1.posts.length xc] 36)) (Below.step hW bB) (OneRow.new hW.size)
              rw [hC, ha0] at t
              simp only [Act.put, List.setIfInBounds_toArray, List.set_cons_zero, List.set_cons_succ] at t
              simp only [Act.put, List.setIfInBounds_toArray, List.set_cons_zero, List.set_cons_succ] at hc ⊢
              exact t hc
          exact A0 wr.drew S0
    · have hcb : (Lg.code S x.1 != 0) = true := by simpa using hcz
      have HBS := hid (Lg.book_no hcz)
      have HE := hid (show (ns.map fun a => Lg.balAt (Lg.book S x.1) a 144001439) = ns.map fun a => Lg.balAt S a 144001439 by rw [HBS.out])
      clear hcz
      go_wp2_with fail
      go_loopw [15] (fun iv wx => ∃ k : Nat, k ≤ ns.length ∧ iv = .int .i64 k ∧ Hid (Below w7.heap.size w7 wx)) (fun iv _ => ns.length - (RowKit.intOf iv).toNat)
      case atStart => exact ⟨0, Nat.zero_le _, rfl, Below.refl _ _⟩
      case round =>
        obtain ⟨k, hk, rfl, HBX⟩ := hrel
        by_cases hlt : k < ns.length
        · obtain ⟨a, ha⟩ : ∃ a, ns[k]? = some a := ⟨_, List.getElem?_eq_getElem hlt⟩
          have hmx : (ns.map fun a => Lg.balAt S a 144001439)[k]? = some (Lg.balAt S a 144001439) := by rw [List.getElem?_map, ha]; rfl
          obtain ⟨bv, hbv⟩ : ∃ bv, bv = Lg.balAt S a 144001439 := ⟨_, rfl⟩
          rw [← hbv] at hmx
          obtain ⟨g2, o2, hnv, hr2⟩ := HM3.out (by omega)
          subst hnv
          have c0 := (hr2.below HBX.out).2 k bv (by rw [HE.out]; exact hmx) 0 _ rfl
          rw [Nat.add_zero, Nat.mul_one] at c0
          have hg := (hr2.below HBX.out).1
          obtain ⟨a', cap', e', _, _, h4⟩ := HSN7.out.below HBX.out
          rw [List.length_map] at e' h4
          cases e'
          obtain ⟨g4, o4, hnv4, -, hr4⟩ := h4 (by omega)
          subst hnv4
          have d0 := hr4.2 k bv hmx 0 _ rfl
          rw [Nat.add_zero, Nat.mul_one] at d0
          have hg4 := hr4.1
          have hk0 : (0 : Int) ≤ (k : Int) := by omega
          have hk1 : (k : Int) < (ns.length : Int) := by omega
          have hne : (bv != bv) = false := by simp
          clear hr2 hr4 h4 hmx ha hbv
          go_wp2_with fail
          go_region
          go_wp2_with fail
          go_roundw
          case rel => exact ⟨k + 1, by omega, by go_num, HBX.out.drew⟩
          case measure => simp [RowKit.intOf]; omega
        · have HLI := hid (list_any wr p _ O2 (HL7.out.below HBX.out))
          go_wp2_with fail
          refine (HLI.out).mono ?_
          intro e w8 hLP
          obtain ⟨vL, rfl, hL8, hb8⟩ := hLP.sl
          have HSA := hid (same_bk (l := S.books) (by rw [HBS.out] at hL8; exact hL8) ((HALL7.out.below HBX.out).below hb8))
          have HB8 := hid (Below.step (Below.step HB7.out HBX.out) hb8)
          clear hLP hL8 hb8
          go_wp2_with fail
          refine (HSA.out).mono ?_
          rintro e w9 ⟨rfl, hb9⟩
          have HB9 := hid (Below.step HB8.out hb9)
          clear hb9
          go_wp2_with fail
          go_ret
          exact ⟨rfl, HB9.out⟩

end Go.Proofs.YtfkcphflcmpenaaDoor
