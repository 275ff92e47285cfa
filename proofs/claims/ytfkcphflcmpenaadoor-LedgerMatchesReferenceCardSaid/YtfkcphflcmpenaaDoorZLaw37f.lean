/-
  The statement LedgerMatchesReference as the program computes it. Conditions: sizes that arguments can have.
-/
import Derived.Test.YtfkcphflcmpenaaDoorZLaw37a
import Derived.Test.YtfkcphflcmpenaaDoorZTwo
import Derived.Deep.RegionHeld3
namespace Lg
theorem err_none {s : S} (h : Inv s) : errOf s ⟨#[]⟩ = 11 := by
  unfold errOf
  cases hc : credit s ⟨#[]⟩ with
  | none => rfl
  | some d =>
    exfalso
    have h1 : (credit s ⟨#[]⟩).isSome = true := by rw [hc]; rfl
    rw [credit_isSome, List.mem_map] at h1
    obtain ⟨p, hp, he⟩ := h1
    have := h.namesOk p hp
    rw [he] at this
    exact absurd this (by decide)
theorem books_few (ns : List ByteArray) (f : Nat → Bool) (l : List Bk) (k : Nat) (hk : k < 100) : (bookN (openN ns f ns.length) l k).books.length < 1000 := by
  have h := bookN_len (openN ns f ns.length) l k
  rw [openN_books] at h
  simp at h
  omega
end Lg
namespace Go.Proofs.YtfkcphflcmpenaaDoor
open Go.RowKit Go.Lib Go.Maps

set_option maxRecDepth 100000 in
set_option maxHeartbeats 8000000 in
theorem matches_law (w : World) (va vl : Value) (c : Nat) (ns : List ByteArray) (bs : List (Lg.Bk × Value)) (t : Int) (h : ArgsAt w va vl ns bs) (hc : c < 65536) :
    Calls Tryd.prog 3 #[va, .int .u16 c, vl, .int .i64 t] w (Gives (.bool true) w) := by
  have HA := hid h
  obtain ⟨aa, ca, rfl, a1, a2, a3⟩ := h.a
  obtain ⟨la, lc, rfl, l1, l2, l3⟩ := h.l
  clear h a3 l3
  go_enter Tryd.func3, Tryd.ntmps3
  go_wp2_with fail
  refine (head_true w).mono ?_
  rintro e w1 ⟨rfl, hb1⟩
  have HB1 := hid hb1
  have HA1 := hid (HA.out.below hb1)
  have HFW := hid (few_any w1 _ _ ns bs HA1.out.a HA1.out.l HA1.out.p)
  clear hb1
  go_wp2_with fail
  refine (HFW.out).mono ?_
  rintro e w1' ⟨rfl, rfl⟩
  cases hf : Lg.fewB ns (bs.map Prod.fst) with
  | false =>
    clear hf
    go_wp2_with fail
    go_ret
    exact ⟨rfl, HB1.out⟩
  | true =>
    obtain ⟨f1, f2, f3, f4⟩ := Lg.fewB_posts hf
    rw [List.length_map] at f4
    have H1 := hid f1
    have H2 := hid f2
    clear hf f1 f2
    go_wp2_with fail
    refine (new_any w1').mono ?_
    rintro e w2 ⟨p, O, rfl, hL2, hb2, hO2⟩
    have HL2 := hid (And.intro hL2 (And.intro hb2 hO2))
    clear hL2 hb2 hO2
    go_wp2_with fail
    refine (rnew_any w2).mono ?_
    rintro e w3 ⟨q, R, rfl, hR3, hb3, hO3⟩
    have HT3 := hid (show Two w1' w3 p q Lg.empty Lg.empty from by
      obtain ⟨hL2, hb2, hO2⟩ := HL2.out
      exact ⟨O, R, hL2.below hb3, hR3, fun k hk hr => by have := hL2.lt hk; have := hO3 k hr; omega, Below.step hb2 hb3, hO2, fun k hk => Nat.le_trans hb2.size (hO3 k hk)⟩)
    clear hR3 hb3 hO3 HL2
    go_wp2_with fail
    go_loopw [12] (fun i wr => ∃ k : Nat, k ≤ ns.length ∧ i = .int .i64 k ∧ Hid (Two w1' wr p q (Lg.openN ns (bitB c) k) (Lg.openN ns (bitB c) k))) (fun i _ => ns.length - (RowKit.intOf i).toNat)
    case atStart => exact ⟨0, Nat.zero_le _, rfl, HT3⟩
    case round =>
      obtain ⟨k, hk, rfl, HK⟩ := hrel
      by_cases hlt : k < ns.length
      · obtain ⟨a', cap', ea, _, _, h4⟩ := HA1.out.a
        cases ea
        obtain ⟨g, o, rfl, hr⟩ := h4 (by omega)
        obtain ⟨x, hx⟩ : ∃ x, ns[k]? = some x := ⟨_, List.getElem?_eq_getElem hlt⟩
        have HK0 : Hid (∀ W, Below w1'.heap.size w1' W → W.cell? ⟨g, o + k, none⟩ = some (.string x)) := fun W hW => by
          have c0 := (hr.below hW).2 k x hx 0 _ rfl
          rwa [Nat.add_zero, Nat.mul_one] at c0
        have hg := (hr.below HK.out.base).1
        have HG : Hid (∀ W, Below w1'.heap.size w1' W → g < W.heap.size) := fun W hW => (hr.below hW).1
        have hk0 : (0 : Int) ≤ (k : Int) := by omega
        have hk1 : (k : Int) < (ns.length : Int) := by omega
        have hk16 : (k : Int) < 64 := by omega
        have HX := hid hx
        have hxs := H1.out x (List.mem_of_getElem? hx)
        have hn := Lg.openN_len ns (bitB c) k
        have HD := hid (HK.out.below (Below.refl _ wr).drew)
        clear hr hx h4
        go_wp2_with fail
        go_region_held3 (fun wx => Below w1'.heap.size w1' wx ∧ wx.cell? ⟨g, o + k, none⟩ = some (.string x))
          (first | assumption | exact ⟨HD.out.base, HK0.out _ HD.out.base⟩ | exact ⟨hTa.base, HK0.out _ hTa.base⟩ | exact ⟨hTb.base, HK0.out _ hTb.base⟩)
          (first | (go_at_call 13; refine (open_a HD.out (by omega) (by omega)).mono ?_; rintro e wa ⟨rfl, hTa⟩) | (go_at_call 13; refine (open_a hTb (by omega) (by omega)).mono ?_; rintro e wa ⟨rfl, hTa⟩) | (go_at_call 14; refine (open_b HD.out (by omega) (by omega)).mono ?_; rintro e wb ⟨rfl, hTb⟩) | (go_at_call 14; refine (open_b hTa (by omega) (by omega)).mono ?_; rintro e wb ⟨rfl, hTb⟩))
        have HN := hid (show Two w1' wb p q (Lg.openN ns (bitB c) (k + 1)) (Lg.openN ns (bitB c) (k + 1)) from by rw [Lg.openN_step HX.out]; exact hTb)
        have hne : ((Lg.open_ (Lg.openN ns (bitB c) k) x (bits BinOp.and IntKind.u16 ((c : Int) / 2 ^ k) 1 == 1)).1 != (Lg.open_ (Lg.openN ns (bitB c) k) x (bits BinOp.and IntKind.u16 ((c : Int) / 2 ^ k) 1 == 1)).1) = false := by simp
        clear hTa hTb
        go_wp2_with fail
        go_roundw
        case rel => exact ⟨k + 1, by omega, by go_num, HN⟩
        case measure => simp [RowKit.intOf]; omega
      · have hke : k = ns.length := by omega
        subst hke
        obtain ⟨S0, hS0⟩ : ∃ S0, S0 = Lg.openN ns (bitB c) ns.length := ⟨_, rfl⟩
        have HS0 := hid hS0
        have HK2 := hid (show Two w1' wr p q (Lg.bookN S0 (bs.map Prod.fst) 0) (Lg.bookN S0 (bs.map Prod.fst) 0) from by rw [hS0]; exact HK.out)
        clear hS0 hlt HK
        go_wp2_with fail
        go_loopw [13] (fun i wr => ∃ k : Nat, k ≤ bs.length ∧ i = .int .i64 k ∧ Hid (Two w1' wr p q (Lg.bookN S0 (bs.map Prod.fst) k) (Lg.bookN S0 (bs.map Prod.fst) k))) (fun i _ => bs.length - (RowKit.intOf i).toNat)
        case atStart => exact ⟨0, Nat.zero_le _, rfl, HK2⟩
        case round =>
          obtain ⟨k, hk, rfl, HK⟩ := hrel
          by_cases hlt : k < bs.length
          · obtain ⟨a', cap', ea, _, _, h4⟩ := HA1.out.l
            cases ea
            obtain ⟨g, o, rfl, hr⟩ := h4 (by omega)
            obtain ⟨⟨b, u⟩, hq⟩ : ∃ y, bs[k]? = some y := ⟨_, List.getElem?_eq_getElem hlt⟩
            have hqm := List.mem_of_getElem? hq
            have hbx : (bs.map Prod.fst)[k]? = some b := by rw [List.getElem?_map, hq]; rfl
            obtain ⟨ua, uc, huv, -, -, -⟩ := HA1.out.p _ hqm
            simp only at huv
            subst huv
            have HSV := hid (HA1.out.p _ hqm)
            simp only at HSV
            have HK0 : Hid (∀ W, Below w1'.heap.size w1' W → W.cell? ⟨g, o + k * 3, none⟩ = some (.string b.id) ∧ W.cell? ⟨g, o + k * 3 + 1, none⟩ = some (.int .i64 b.at_) ∧ W.cell? ⟨g, o + k * 3 + 2, none⟩ = some (.slice ua b.posts.length uc)) := fun W hW => by
              have hc := (hr.below hW).2 k _ hq
              have e0 := hc 0 _ rfl
              rw [Nat.add_zero] at e0
              exact ⟨e0, hc 1 _ rfl, hc 2 _ rfl⟩
            have HG : Hid (∀ W, Below w1'.heap.size w1' W → g < W.heap.size) := fun W hW => (hr.below hW).1
            have hg := HG.out _ HK.out.base
            have hk0 : (0 : Int) ≤ (k : Int) := by omega
            have hk1 : (k : Int) < (bs.length : Int) := by omega
            have HX := hid hbx
            obtain ⟨z1, -, z3⟩ := H2.out b (List.mem_map_of_mem (f := Prod.fst) hqm)
            have HZ : Hid (∀ x ∈ b.posts, x.1.size ≤ 5000) := fun x hx => by have := z3 x hx; omega
            have hbn : (Lg.bookN S0 (bs.map Prod.fst) k).books.length < 1000 := by rw [HS0.out]; exact Lg.books_few _ _ _ _ (by omega)
            have HD := hid (HK.out.below (Below.refl _ wr).drew)
            have HCA : Hid (∀ W S T, Two w1' W p q S T → S.books.length < 1000 → Calls Tryd.prog 15 #[.pointer (some ⟨p, 0, none⟩), .agg #[.string b.id, .int .i64 b.at_, .slice ua b.posts.length uc]] W (TPost w1' p q (.int .i64 (Lg.code S b)) (Lg.book S b) T)) := fun W S T h1 h2 => book_a h1 HSV.out (by omega) HZ.out h2
            have HCB : Hid (∀ W S T, Two w1' W p q S T → T.books.length < 1000 → Calls Tryd.prog 16 #[.pointer (some ⟨q, 0, none⟩), .agg #[.string b.id, .int .i64 b.at_, .slice ua b.posts.length uc]] W (TPost w1' p q (.int .i64 (Lg.code T b)) S (Lg.book T b))) := fun W S T h1 h2 => book_b h1 HSV.out (by omega) h2
            clear hr hq h4 hqm hbx z1 z3
            go_wp2_with fail
            go_region_held3 (fun wx => Below w1'.heap.size w1' wx ∧ wx.cell? ⟨g, o + k * 3, none⟩ = some (.string b.id) ∧ wx.cell? ⟨g, o + k * 3 + 1, none⟩ = some (.int .i64 b.at_) ∧ wx.cell? ⟨g, o + k * 3 + 2, none⟩ = some (.slice ua b.posts.length uc))
              (first | assumption | exact ⟨HD.out.base, HK0.out _ HD.out.base⟩ | exact ⟨hTa.base, HK0.out _ hTa.base⟩ | exact ⟨hTb.base, HK0.out _ hTb.base⟩)
              (first | (go_at_call 15; refine (HCA.out _ _ _ HD.out hbn).mono ?_; rintro e wa ⟨rfl, hTa⟩) | (go_at_call 16; refine (HCB.out _ _ _ hTa hbn).mono ?_; rintro e wb ⟨rfl, hTb⟩))
            have HN := hid (show Two w1' wb p q (Lg.bookN S0 (bs.map Prod.fst) (k + 1)) (Lg.bookN S0 (bs.map Prod.fst) (k + 1)) from by rw [Lg.bookN_step HX.out]; exact hTb)
            have hne : (Lg.code (Lg.bookN S0 (bs.map Prod.fst) k) b != Lg.code (Lg.bookN S0 (bs.map Prod.fst) k) b) = false := by simp
            clear hTa hTb
            go_wp2_with fail
            go_roundw
            case rel => exact ⟨k + 1, by omega, by go_num, HN⟩
            case measure => simp [RowKit.intOf]; omega
          · have hke : k = bs.length := by omega
            subst hke
            obtain ⟨S, hS⟩ : ∃ S, S = Lg.bookN S0 (bs.map Prod.fst) bs.length := ⟨_, rfl⟩
            have HK3 := hid (show Two w1' wr p q S S from by rw [hS]; exact HK.out)
            clear hS HK hlt HS0
            have HI := hid (show Lg.Inv S by obtain ⟨O, hO⟩ := HK3.out.left; exact hO.inv)
            go_wp2_with fail
            go_loopw [14] (fun i wr => ∃ k : Nat, k ≤ ns.length ∧ i = .int .i64 k ∧ Hid (Two w1' wr p q S S)) (fun i _ => ns.length - (RowKit.intOf i).toNat)
            case atStart => exact ⟨0, Nat.zero_le _, rfl, HK3⟩
            case round =>
              obtain ⟨k, hk, rfl, HK⟩ := hrel
              by_cases hlt : k < ns.length
              · obtain ⟨a', cap', ea, _, _, h4⟩ := HA1.out.a
                cases ea
                obtain ⟨g, o, rfl, hr⟩ := h4 (by omega)
                obtain ⟨x, hx⟩ : ∃ x, ns[k]? = some x := ⟨_, List.getElem?_eq_getElem hlt⟩
                have HK0 : Hid (∀ W, Below w1'.heap.size w1' W → W.cell? ⟨g, o + k, none⟩ = some (.string x) ∧ g < W.heap.size) := fun W hW => by
                  have c0 := (hr.below hW).2 k x hx 0 _ rfl
                  rw [Nat.add_zero, Nat.mul_one] at c0
                  exact ⟨c0, (hr.below hW).1⟩
                have hk0 : (0 : Int) ≤ (k : Int) := by omega
                have hk1 : (k : Int) < (ns.length : Int) := by omega
                have hxs := H1.out x (List.mem_of_getElem? hx)
                obtain ⟨b0, hb0⟩ : ∃ b0, b0 = Lg.bal S x := ⟨_, rfl⟩
                obtain ⟨b1, hb1⟩ : ∃ b1, b1 = Lg.balAt S x t := ⟨_, rfl⟩
                obtain ⟨e0, he0⟩ : ∃ e0, e0 = Lg.errOf S x := ⟨_, rfl⟩
                have hm : x.size ≤ maxLen := by unfold maxLen; omega
                have HC1 : Hid (∀ W, Two w1' W p q S S → Calls Tryd.prog 17 #[.pointer (some ⟨p, 0, none⟩), .string x] W (Gives (.tuple #[.int .i64 b0, .int .i64 e0]) W)) := fun W h => by
                  obtain ⟨O, hO⟩ := h.left
                  rw [hb0, he0]; exact balance_any W p S O x hO hm
                have HC2 : Hid (∀ W, Two w1' W p q S S → Calls Tryd.prog 18 #[.pointer (some ⟨q, 0, none⟩), .string x] W (Gives (.tuple #[.int .i64 b0, .int .i64 e0]) W)) := fun W h => by
                  obtain ⟨O, hO⟩ := h.right
                  rw [hb0, he0]; exact rbalance_any W q S O x hO
                have HC3 : Hid (∀ W, Two w1' W p q S S → Calls Tryd.prog 19 #[.pointer (some ⟨p, 0, none⟩), .string x, .int .i64 t] W (Gives (.tuple #[.int .i64 b1, .int .i64 e0]) W)) := fun W h => by
                  obtain ⟨O, hO⟩ := h.left
                  rw [hb1, he0]; exact ledAt_any W p S O x t hO hm
                have HC4 : Hid (∀ W, Two w1' W p q S S → Calls Tryd.prog 20 #[.pointer (some ⟨q, 0, none⟩), .string x, .int .i64 t] W (Gives (.tuple #[.int .i64 b1, .int .i64 e0]) W)) := fun W h => by
                  obtain ⟨O, hO⟩ := h.right
                  rw [hb1, he0]; exact rat_any W q S O x t hO
                clear hb0 hb1 he0 hr h4 hx hm
                have n0 : (b0 != b0) = false := by simp
                have n1 : (b1 != b1) = false := by simp
                have n2 : (e0 != e0) = false := by simp
                obtain ⟨c0, hg0⟩ := HK0.out _ HK.out.base
                go_wp2_with fail
                refine (HC1.out _ HK.out).mono ?_
                rintro e w4 ⟨rfl, hb4⟩
                have HK4 := hid (HK.out.below hb4)
                clear hb4 c0 hg0
                obtain ⟨c0, hg0⟩ := HK0.out _ HK4.out.base
                go_wp2_with fail
                refine (HC2.out _ HK4.out).mono ?_
                rintro e w5 ⟨rfl, hb5⟩
                have HK5 := hid (HK4.out.below hb5)
                clear hb5 c0 hg0
                obtain ⟨c0, hg0⟩ := HK0.out _ HK5.out.base
                go_wp2_with fail
                refine (HC3.out _ HK5.out).mono ?_
                rintro e w6 ⟨rfl, hb6⟩
                have HK6 := hid (HK5.out.below hb6)
                clear hb6 c0 hg0
                obtain ⟨c0, hg0⟩ := HK0.out _ HK6.out.base
                go_wp2_with fail
                refine (HC4.out _ HK6.out).mono ?_
                rintro e w7 ⟨rfl, hb7⟩
                have HK7 := hid (HK6.out.below hb7)
                clear hb7
                go_wp2_with fail
                go_roundw
                case rel => exact ⟨k + 1, by omega, by go_num, HK7⟩
                case measure => simp [RowKit.intOf]; omega
              · have hke : k = ns.length := by omega
                subst hke
                have HC1 := hid (show Calls Tryd.prog 17 #[.pointer (some ⟨p, 0, none⟩), .string ⟨#[]⟩] wr (Gives (.tuple #[.int .i64 (Lg.bal S ⟨#[]⟩), .int .i64 11]) wr) from by
                  obtain ⟨O, hO⟩ := HK.out.left
                  have h := balance_any wr p S O ⟨#[]⟩ hO (by decide)
                  rwa [Lg.err_none HI.out] at h)
                go_wp2_with fail
                refine (HC1.out).mono ?_
                rintro e w4 ⟨rfl, hb4⟩
                have HK4 := hid (HK.out.below hb4)
                have HC2 := hid (show Calls Tryd.prog 22 #[.pointer (some ⟨p, 0, none⟩)] w4 (ListPost S.books w4) from by
                  obtain ⟨O, hO⟩ := HK4.out.left
                  exact list_any w4 p S O hO)
                clear hb4
                go_wp2_with fail
                refine (HC2.out).mono ?_
                intro e w5 hl
                obtain ⟨v5, rfl, hs5, hb5⟩ := hl.sl
                have HK5 := hid (HK4.out.below hb5)
                have HC3 := hid (show Calls Tryd.prog 23 #[.pointer (some ⟨q, 0, none⟩)] w5 (ListPost S.books w5) from by
                  obtain ⟨O, hO⟩ := HK5.out.right
                  exact rlist_any w5 q S O hO)
                have HS5 := hid hs5
                clear hb5 hl hs5
                go_wp2_with fail
                refine (HC3.out).mono ?_
                intro e w6 hl
                obtain ⟨v6, rfl, hs6, hb6⟩ := hl.sl
                have HK6 := hid (HK5.out.below hb6)
                have HC4 := hid (same_bk (HS5.out.below hb6) hs6)
                clear hb6 hl hs6
                go_wp2_with fail
                refine (HC4.out).mono ?_
                rintro e w7 ⟨rfl, hb7⟩
                have HE := hid (HB1.out.trans ((HK6.out.below hb7).base.mono HB1.out.size))
                clear hb7
                go_wp2_with fail
                go_ret
                exact ⟨rfl, HE.out⟩

end Go.Proofs.YtfkcphflcmpenaaDoor
