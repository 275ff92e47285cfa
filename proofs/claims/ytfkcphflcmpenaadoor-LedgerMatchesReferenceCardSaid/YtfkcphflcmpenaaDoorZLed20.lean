/-
  The reference's Book, walked. Conditions: lengths; few bookings.
-/
import Derived.Test.YtfkcphflcmpenaaDoorZMRef
namespace Go.Proofs.YtfkcphflcmpenaaDoor
open Go.RowKit Go.Lib Go.Maps

set_option maxRecDepth 100000 in
set_option maxHeartbeats 16000000 in
theorem rbook_any (w : World) (p : Nat) (S : Lg.S) (O : Nat → Prop) (b : Lg.Bk) (vp : Value) (h : RLed w p S O) (hx : SlOf w vp 2 postC b.posts) (hs : b.id.size ≤ 5000) (hfb : S.books.length < 1000) :
    Calls Tryd.prog 16 #[.pointer (some ⟨p, 0, none⟩), bookV (b, vp)] w (RPost p O w (.int .i64 (Lg.code S b)) (Lg.book S b)) := by
  have HL := hid h
  have HV := hid hx
  obtain ⟨a, cap, rfl, h1, h2, -⟩ := hx
  obtain ⟨vn, vc, vb, bs, hA⟩ := h
  have HROW := hid (SlOf.own hA.row (fun _ _ => rfl))
  have HCR := hid (SlOf.own (cells := crC) hA.credit (fun _ _ => rfl))
  obtain ⟨va, vk, hvb, hvk1, hvk2, -⟩ := SlOf.own hA.row (fun _ _ => rfl)
  subst hvb
  obtain ⟨ca, cc, hcv, hcc1, hcc2, -⟩ := SlOf.own (cells := crC) hA.credit (fun _ _ => rfl)
  subst hcv
  have HA := hid hA
  have HBL := hid (show bs.length = S.books.length by rw [← hA.books, List.length_map])
  have hbl2 : bs.length < 1000 := by rw [HBL.out]; exact hfb
  have HII := hid hA.inv
  have HLP := hid (hA.lt p hA.op)
  obtain ⟨W1, hW1⟩ : ∃ W1, W1 = w.alloc (.cells #[.string b.id, .int .i64 b.at_, .slice a b.posts.length cap] 36) := ⟨_, rfl⟩
  have hb1 : Below w.heap.size w W1 := by rw [hW1]; exact (Below.refl _ w).alloc (Nat.le_refl _) _
  have hbw1 : RBW w W1 p vn (.slice ca S.names.length cc) (.slice va bs.length vk) (.slice a b.posts.length cap) b :=
    ⟨hb1, by rw [hW1]; exact alloc_new w _, (hb1.block p HLP.out).trans hA.hp, HLP.out⟩
  have HB1 := hid hbw1
  have HFD := hid (rformed_any b (.slice a b.posts.length cap) W1 (HV.out.below hb1) hs)
  unfold bookV at HFD ⊢
  simp only at HFD ⊢
  have HC := hid (show Lg.code S b = (if Lg.formed b = false then 1 else if S.books.any (fun z => decide (z.id = b.id)) then 9 else if Lg.early S b then 14 else if Lg.lacks S b.posts then 11
    else if 2000 ≤ S.books.length then 28 else if Lg.total b.posts ≠ 0 then 21 else if Lg.below S b.posts then 21 else 0) from rfl)
  have NO : Hid (∀ (W : World) (n : Int), Below w.heap.size w W → Lg.code S b = n → n ≠ 0 → RPost p O w (.int .i64 (Lg.code S b)) (Lg.book S b) (.returned (.int .i64 n)) W) := fun W n hW e hn =>
    ⟨by rw [e], O, by rw [Lg.book_no (by rw [e]; exact hn)]; exact HL.out.below hW, Tch.of_below hW O, fun k hk => .inl hk⟩
  obtain ⟨q0, q1, q2, c1, c2, hz1, hz2⟩ := hbw1.cells
  clear hA hb1 hbw1 hs hfb
  go_enter Tryd.func16, Tryd.ntmps16
  go_wp2_with fail
  rw [← hW1]
  clear hW1
  refine (HFD.out).mono ?_
  rintro e w2 ⟨rfl, hb2⟩
  have HB2 := hid (HB1.out.go hb2)
  clear q0 q1 q2 c1 c2 hz1 hz2 HFD hb2
  obtain ⟨q0, q1, q2, c1, c2, hz1, hz2⟩ := HB2.out.cells
  cases hfo : Lg.formed b with
  | false =>
    have HE := hid (show Lg.code S b = 1 by rw [HC.out, if_pos hfo])
    clear hfo
    go_wp2_with fail
    go_ret
    exact NO.out _ _ HB2.out.below HE.out (by decide)
  | true =>
    have HFO := hid hfo
    have hlen := Lg.formed_len hfo
    have HUN := hid (Lg.formed_units hfo)
    clear hfo
    go_wp2_with fail
    go_loopw [5] (fun i wr => ∃ k : Nat, k ≤ bs.length ∧ i = .int .i64 k ∧ Hid (∀ z ∈ S.books.take k, z.id ≠ b.id) ∧ Hid (RBW w wr p vn (.slice ca S.names.length cc) (.slice va bs.length vk) (.slice a b.posts.length cap) b)) (fun i _ => bs.length - (RowKit.intOf i).toNat)
    case atStart => exact ⟨0, Nat.zero_le _, rfl, hid (by simp), HB2⟩
    case round =>
      obtain ⟨k, hk, rfl, HI, HBR⟩ := hrel
      clear q0 q1 q2 c1 c2 hz1 hz2
      obtain ⟨q0, q1, q2, c1, c2, hz1, hz2⟩ := HBR.out.cells
      by_cases hlt : k < bs.length
      · obtain ⟨a', cap', ea, _, _, h4⟩ := HROW.out
        cases ea
        obtain ⟨g, o, rfl, hr⟩ := h4 (by omega)
        obtain ⟨q, hq⟩ : ∃ q, bs[k]? = some q := ⟨_, List.getElem?_eq_getElem hlt⟩
        have e0 := (hr.below HBR.out.below).2 k q hq 0 _ rfl
        rw [Nat.add_zero] at e0
        have hg := (hr.below HBR.out.below).1
        have hk0 : (0 : Int) ≤ (k : Int) := by omega
        have hk1 : (k : Int) < (bs.length : Int) := by omega
        have hbk : S.books[k]? = some q.1 := by rw [← HA.out.books, List.getElem?_map, hq]; rfl
        have hlb := list_beq q.1.id b.id
        by_cases hqb : q.1.id = b.id
        · have HE := hid (show Lg.code S b = 9 by
            rw [HC.out, if_neg (by rw [HFO.out]; simp), if_pos]
            rw [List.any_eq_true]
            exact ⟨q.1, List.mem_of_getElem? hbk, by simpa using hqb⟩)
          rw [decide_eq_true hqb] at hlb
          clear hqb hq hbk hr h4
          go_wp2_with fail
          go_quiet (fail)
          go_wp2_with fail
          go_ret
          exact NO.out _ _ (HBR.out.drewN _).below HE.out (by decide)
        · have HI2 := hid (show ∀ z ∈ S.books.take (k + 1), z.id ≠ b.id from fun z hz => by
            rw [Lg.take_snoc hbk] at hz
            rcases List.mem_append.1 hz with hz | hz
            · exact HI.out z hz
            · simp at hz; subst hz; exact hqb)
          rw [decide_eq_false hqb] at hlb
          clear hqb hq hbk hr h4
          go_wp2_with fail
          go_quiet (fail)
          go_wp2_with fail
          go_roundw
          case rel => exact ⟨k + 1, by omega, by go_num, HI2, HBR.out.drewN _⟩
          case measure => simp [RowKit.intOf]; omega
      · have hke : k = bs.length := by omega
        subst hke
        have HE9 := hid (show S.books.any (fun z => decide (z.id = b.id)) = false by
          have h := HI.out
          rw [HBL.out, List.take_length] at h
          rw [List.any_eq_false]
          intro z hz
          simpa using h z hz)
        obtain ⟨early, hearly⟩ : ∃ e, e = Lg.early S b := ⟨_, rfl⟩
        have HEA := hid hearly
        clear hearly
        go_upto_region 8 with (fail)
        go_cut [60] from 37 (fun v60 wx => v60 = .bool early ∧ Hid (RBW w wx p vn (.slice ca S.names.length cc) (.slice va bs.length vk) (.slice a b.posts.length cap) b))
        case first =>
          by_cases hn1 : bs.length = 0
          · have hd : decide ((0 : Int) < (bs.length : Int)) = false := by rw [hn1]; rfl
            have hd2 : decide (0 < bs.length) = false := by rw [hn1]; rfl
            have HE := hid (show early = false by
              rw [HEA.out]
              unfold Lg.early
              have : S.books = [] := List.length_eq_zero_iff.1 (by rw [← HBL.out]; exact hn1)
              rw [this]; rfl)
            clear hn1 hlt
            go_quiet (fail)
            go_wp2
            go_meet
            case rel => exact ⟨by rw [HE.out], HBR.out.drewN _⟩
          · obtain ⟨m, hm⟩ : ∃ m, bs.length = m + 1 := ⟨bs.length - 1, by omega⟩
            have hd : decide ((0 : Int) < (bs.length : Int)) = true := by rw [decide_eq_true_eq]; omega
            have hd2 : decide (0 < bs.length) = true := by rw [decide_eq_true_eq]; omega
            have hw : IntKind.i64.wrap ((bs.length : Int) - 1) = (m : Int) := by rw [IntWalk.i64_in _ (by omega)]; omega
            have hm0 : (0 : Int) ≤ (m : Int) := by omega
            have hm1 : (m : Int) < (bs.length : Int) := by omega
            have hml : m < bs.length := by omega
            obtain ⟨⟨z, vz⟩, hzm⟩ : ∃ q, bs[m]? = some q := ⟨_, List.getElem?_eq_getElem hml⟩
            obtain ⟨a', cap', ea, _, _, h4⟩ := HROW.out
            cases ea
            obtain ⟨g, o, rfl, hr⟩ := h4 (by omega)
            have e1 := (hr.below HBR.out.below).2 m _ hzm 1 _ rfl
            have hg := (hr.below HBR.out.below).1
            have HE := hid (show early = decide (b.at_ < z.at_) by
              rw [HEA.out]
              unfold Lg.early
              have : S.books.getLast? = some z := by
                rw [List.getLast?_eq_getElem?, ← HBL.out, ← HA.out.books, hm]
                rw [List.getElem?_map, show m + 1 - 1 = m by omega, hzm]; rfl
              rw [this])
            clear hm hn1 hr h4 hzm hlt
            go_quiet (fail)
            go_wp2
            go_meet
            case rel => exact ⟨by rw [HE.out], HBR.out.drewN _⟩
        case rest =>
        obtain ⟨rfl, HB4⟩ := hcut
        rename World => W4
        clear q0 q1 q2 c1 c2 hz1 hz2
        obtain ⟨q0, q1, q2, c1, c2, hz1, hz2⟩ := HB4.out.cells
        cases early with
        | true =>
          have HE := hid (show Lg.code S b = 14 by rw [HC.out, if_neg (by rw [HFO.out]; simp), if_neg (by rw [HE9.out]; simp), if_pos HEA.out.symm])
          go_wp2_with fail
          go_ret
          exact NO.out _ _ HB4.out.below HE.out (by decide)
        | false =>
          have HE14 := hid (show Lg.early S b = false from HEA.out.symm)
          obtain ⟨g2, o2, hav, hrow⟩ : ∃ g o, a = some ⟨g, o, none⟩ ∧ RowOf w g o 2 postC b.posts := by
            obtain ⟨a', cap', e, _, _, h3⟩ := HV.out
            cases e
            exact h3 (by omega)
          subst hav
          have HR := hid hrow
          clear hrow
          go_wp2_with fail
          go_loopw [6, 7] (fun tv iv wr => ∃ (k : Nat) (t : Int), k ≤ b.posts.length ∧ iv = .int .i64 k ∧ tv = .int .i64 t ∧ -13000000000000 ≤ t ∧ t ≤ 13000000000000 ∧ Hid (t = Lg.total (b.posts.take k)) ∧ Hid (Lg.lacks S (b.posts.take k) = false) ∧ Hid (RBW w wr p vn (.slice ca S.names.length cc) (.slice va bs.length vk) (.slice (some ⟨g2, o2, none⟩) b.posts.length cap) b)) (fun _ iv _ => b.posts.length - (RowKit.intOf iv).toNat)
          case atStart => exact ⟨0, 0, Nat.zero_le _, rfl, rfl, by omega, by omega, by simp [Hid, Lg.total], by simp [Hid, Lg.lacks], HB4⟩
          case round =>
            obtain ⟨k, t, hk, rfl, rfl, ht1, ht2, HT, HLK, HB5⟩ := hrel
            clear q0 q1 q2 c1 c2 hz1 hz2
            obtain ⟨q0, q1, q2, c1, c2, hz1, hz2⟩ := HB5.out.cells
            by_cases hlt : k < b.posts.length
            · obtain ⟨x, hx⟩ : ∃ x, b.posts[k]? = some x := ⟨_, List.getElem?_eq_getElem hlt⟩
              have hc := (HR.out.below HB5.out.below).2 k x hx
              have d0 := hc 0 _ rfl
              have d1 := hc 1 _ rfl
              rw [Nat.add_zero] at d0
              have hg := (HR.out.below HB5.out.below).1
              have hk0 : (0 : Int) ≤ (k : Int) := by omega
              have hk1 : (k : Int) < (b.posts.length : Int) := by omega
              have hxm := List.mem_of_getElem? hx
              have hxu := HUN.out.2 x hxm
              have hta : t + x.2 = Lg.total (b.posts.take (k + 1)) := by rw [Lg.take_snoc hx, Lg.total_append, HT.out]; simp [Lg.total]
              have htb := Lg.total_bound (l := b.posts.take (k + 1)) (fun q hq => HUN.out.2 q (List.mem_of_mem_take hq))
              have htl : ((b.posts.take (k + 1)).length : Int) ≤ 12 := by rw [List.length_take]; omega
              have ht3 : -13000000000000 ≤ t + x.2 := by omega
              have ht4 : t + x.2 ≤ 13000000000000 := by omega
              have HTA := hid hta
              have HX := hid hx
              have HFI := hid (find_any _ p S O x.1 (HL.out.below HB5.out.below))
              clear hc hx hta htb htl
              cases hcr : Lg.credit S x.1 with
              | none =>
                have HE := hid (show Lg.code S b = 11 by
                  rw [HC.out, if_neg (by rw [HFO.out]; simp), if_neg (by rw [HE9.out]; simp), if_neg (by rw [HE14.out]; simp), if_pos]
                  unfold Lg.lacks
                  rw [List.any_eq_true]
                  exact ⟨x, hxm, by rw [hcr]; rfl⟩)
                rw [Lg.idx_none hcr] at HFI
                clear hcr hxm
                go_wp2_with fail
                refine (HFI.out).mono ?_
                rintro e w6 ⟨rfl, rfl⟩
                go_wp2_with fail
                go_ret
                exact NO.out _ _ HB5.out.below HE.out (by decide)
              | some d =>
                have HLK2 := hid (show Lg.lacks S (b.posts.take (k + 1)) = false by
                  rw [Lg.take_snoc HX.out]
                  exact lacks_snoc HLK.out (by rw [hcr]; rfl))
                obtain ⟨i, y, i1, -, i2⟩ := Lg.idx_some hcr
                rw [i2] at HFI
                clear hcr i2 hxm
                go_wp2_with fail
                refine (HFI.out).mono ?_
                rintro e w6 ⟨rfl, rfl⟩
                go_wp2_with fail
                go_roundw
                case rel => exact ⟨k + 1, t + x.2, by omega, by go_num, rfl, ht3, ht4, HTA, HLK2, HB5⟩
                case measure => simp [RowKit.intOf]; omega
            · have hke : k = b.posts.length := by omega
              subst hke
              have HT2 := hid (show t = Lg.total b.posts by rw [HT.out, List.take_length])
              have HLA := hid (show Lg.lacks S b.posts = false by have := HLK.out; rw [List.take_length] at this; exact this)
              have h2000 : ((bs.length : Int) == 2000) = false := by rw [beq_eq_false_iff_ne]; omega
              by_cases ht0 : t = 0
              · have hbn : (t != 0) = false := by rw [ht0]; rfl
                have HT0 := hid ht0
                clear ht0
                go_wp2_with fail
                go_loopw [8] (fun iv wr => ∃ k : Nat, k ≤ b.posts.length ∧ iv = .int .i64 k ∧ Hid (Lg.below S (b.posts.take k) = false) ∧ Hid (RBW w wr p vn (.slice ca S.names.length cc) (.slice va bs.length vk) (.slice (some ⟨g2, o2, none⟩) b.posts.length cap) b)) (fun iv _ => b.posts.length - (RowKit.intOf iv).toNat)
                case atStart => exact ⟨0, Nat.zero_le _, rfl, by simp [Hid, Lg.below], HB5⟩
                case round =>
                  obtain ⟨k, hk, rfl, HBE, HB6⟩ := hrel
                  clear q0 q1 q2 c1 c2 hz1 hz2
                  obtain ⟨q0, q1, q2, c1, c2, hz1, hz2⟩ := HB6.out.cells
                  by_cases hlt : k < b.posts.length
                  · obtain ⟨x, hx⟩ : ∃ x, b.posts[k]? = some x := ⟨_, List.getElem?_eq_getElem hlt⟩
                    have hc := (HR.out.below HB6.out.below).2 k x hx
                    have d0 := hc 0 _ rfl
                    have d1 := hc 1 _ rfl
                    rw [Nat.add_zero] at d0
                    have hg := (HR.out.below HB6.out.below).1
                    have hk0 : (0 : Int) ≤ (k : Int) := by omega
                    have hk1 : (k : Int) < (b.posts.length : Int) := by omega
                    have hxm := List.mem_of_getElem? hx
                    have HX := hid hx
                    clear hc hx
                    go_upto_region 25 with (fail)
                    obtain ⟨W5, hW5⟩ : ∃ W5, W5 = wr.alloc (.cells #[.string x.1, .int .i64 x.2] 47) := ⟨_, rfl⟩
                    have hb5 : Below wr.heap.size wr W5 := by rw [hW5]; exact (Below.refl _ wr).alloc (Nat.le_refl _) _
                    have hs5 : W5.heap[wr.heap.size]? = some (.cells #[.string x.1, .int .i64 x.2] 47 (0, 0)) := by rw [hW5]; exact alloc_new wr _
                    have HB7 := hid (HB6.out.go hb5)
                    have x0 : W5.cell? ⟨wr.heap.size, 0, none⟩ = some (.string x.1) := by simp [World.cell?, hs5]
                    have x1 : W5.cell? ⟨wr.heap.size, 1, none⟩ = some (.int .i64 x.2) := by simp [World.cell?, hs5]
                    have hxz : wr.heap.size < W5.heap.size := (Array.getElem?_eq_some_iff.1 hs5).1
                    have hwbr : w.heap.size < wr.heap.size := hz1
                    rw [← hW5]
                    clear hW5 hb5 hs5 q0 q1 q2 c1 c2 hz1 hz2 d0 d1 hg
                    obtain ⟨q0, q1, q2, c1, c2, hz1, hz2⟩ := HB7.out.cells
                    obtain ⟨sv, hsv⟩ : ∃ sv, sv = Lg.sumB S.books x.1 := ⟨_, rfl⟩
                    have hbnd := Lg.sumB_bound (fun z hz => Lg.formed_units (HII.out.formed z hz)) x.1
                    rw [← hsv] at hbnd
                    have hfew := HII.out.fewB
                    have hxu := HUN.out.2 x hxm
                    have hsv1 : -24000000000000000 ≤ sv := by omega
                    have hsv2 : sv ≤ 24000000000000000 := by omega
                    have hw1 : IntKind.i64.wrap (sv + x.2) = sv + x.2 := IntWalk.i64_in _ (by omega)
                    have HSU : Hid (∀ n, Calls Tryd.prog 34 #[.slice va bs.length vk, .string x.1, .int .i64 144001439] (W5.drewN n) (Same (.int .i64 sv) (W5.drewN n))) := fun n => by
                      have h := sum_any (W5.drewN n) (.slice va bs.length vk) bs S.books x.1 144001439 (HROW.out.below (HB7.out.drewN n).below) (fun q hq => ((HA.out.posts q hq).below (HB7.out.drewN n).below).slOf) HA.out.books (fun b hb => Lg.formed_units (HII.out.formed b hb)) HII.out.fewB
                      rw [Lg.sumAt_all (fun b hb => (Lg.formed_at (HII.out.formed b hb)).2), ← hsv] at h
                      exact h
                    have HSV := hid hsv
                    clear hbnd hfew hsv
                    obtain ⟨d, hcr⟩ : ∃ d, Lg.credit S x.1 = some d := by
                      have := Lg.lacks_false HLA.out x hxm
                      cases h : Lg.credit S x.1 with
                      | none => rw [h] at this; cases this
                      | some d => exact ⟨d, rfl⟩
                    obtain ⟨i, y, i1, i2, i3⟩ := Lg.idx_some hcr
                    have HFI : Hid (∀ n, Calls Tryd.prog 30 #[.pointer (some ⟨p, 0, none⟩), .string x.1] (W5.drewN n) (Same (.int .i64 (i : Int)) (W5.drewN n))) := fun n => by
                      have h := find_any (W5.drewN n) p S O x.1 (HL.out.below (HB7.out.drewN n).below)
                      rw [i3] at h
                      exact h
                    obtain ⟨a', cap', ea, _, _, h4⟩ := HCR.out
                    cases ea
                    obtain ⟨gc, oc, rfl, hrc⟩ := h4 (by omega)
                    have e0 := (hrc.below HB7.out.below).2 i _ i2 0 _ rfl
                    rw [Nat.add_zero, Nat.mul_one] at e0
                    have hgc := (hrc.below HB7.out.below).1
                    have hi0 : (0 : Int) ≤ (i : Int) := by omega
                    have hi1 : (i : Int) < (S.names.length : Int) := by omega
                    have HCRE := hid hcr
                    have HXM := hid hxm
                    clear hcr i3 i2 h4 hrc hxm
                    cases d with
                    | true =>
                      have HBE2 := hid (show Lg.below S (b.posts.take (k + 1)) = false by
                        rw [Lg.take_snoc HX.out]
                        exact below_snoc HBE.out (by rw [HCRE.out]; rfl))
                      go_quiet ((go_at_call 30; exact Calls.quiet_of_same (HFI.out _)))
                      go_wp2_with fail
                      go_roundw
                      case rel => exact ⟨k + 1, by omega, by go_num, HBE2, HB7.out.drewN _⟩
                      case measure => simp [RowKit.intOf]; omega
                    | false =>
                      by_cases hneg : sv + x.2 < 0
                      · have HE := hid (show Lg.code S b = 21 by
                          rw [HC.out, if_neg (by rw [HFO.out]; simp), if_neg (by rw [HE9.out]; simp), if_neg (by rw [HE14.out]; simp), if_neg (by rw [HLA.out]; simp), if_neg (by rw [← HBL.out]; omega), if_neg (by rw [← HT2.out]; simpa using HT0.out), if_pos]
                          unfold Lg.below
                          rw [List.any_eq_true]
                          exact ⟨x, HXM.out, by rw [HCRE.out, ← HSV.out]; simpa using hneg⟩)
                        go_quiet ((first | (go_at_call 30; exact Calls.quiet_of_same (HFI.out _)) | (go_at_call 34; exact Calls.quiet_of_same (HSU.out _))))
                        go_wp2_with fail
                        go_ret
                        exact NO.out _ _ (HB7.out.drewN _).below HE.out (by decide)
                      · have HBE2 := hid (show Lg.below S (b.posts.take (k + 1)) = false by
                          rw [Lg.take_snoc HX.out]
                          exact below_snoc HBE.out (by rw [← HSV.out]; simp; intro _; omega))
                        go_quiet ((first | (go_at_call 30; exact Calls.quiet_of_same (HFI.out _)) | (go_at_call 34; exact Calls.quiet_of_same (HSU.out _))))
                        go_wp2_with fail
                        go_roundw
                        case rel => exact ⟨k + 1, by omega, by go_num, HBE2, HB7.out.drewN _⟩
                        case measure => simp [RowKit.intOf]; omega
                  · have hke : k = b.posts.length := by omega
                    subst hke
                    have HBF := hid (show Lg.below S b.posts = false by have := HBE.out; rw [List.take_length] at this; exact this)
                    have HE := hid (show Lg.code S b = 0 by
                      rw [HC.out, if_neg (by rw [HFO.out]; simp), if_neg (by rw [HE9.out]; simp), if_neg (by rw [HE14.out]; simp), if_neg (by rw [HLA.out]; simp), if_neg (by rw [← HBL.out]; omega), if_neg (by rw [← HT2.out]; simpa using HT0.out), if_neg (by rw [HBF.out]; simp)])
                    have HBO := hid (show Lg.book S b = ⟨S.names, S.books ++ [b]⟩ by unfold Lg.book; rw [if_pos HE.out])
                    have HIV := hid (show Lg.Inv ⟨S.names, S.books ++ [b]⟩ by have := Lg.inv_book HII.out b; rw [HBO.out] at this; exact this)
                    obtain ⟨i0, hi, hz0, hzz1, hzz2⟩ := info_parts Tryd.infoBk
                    go_upto_region 27 with (fail)
                    clear q0 q1 q2 c1 c2 hz1 hz2
                    refine wp_heldS (S := TwoS 8 6 (fun wx => wx.cell? ⟨p, 2, none⟩ = some (.slice va bs.length vk)) (fun wx => wx.cell? ⟨w.heap.size, 0, none⟩ = some (.string b.id) ∧ wx.cell? ⟨w.heap.size, 1, none⟩ = some (.int .i64 b.at_) ∧ wx.cell? ⟨w.heap.size, 2, none⟩ = some (.slice (some ⟨g2, o2, none⟩) b.posts.length cap))) (by kernel_rfl) ?_
                    simp only [List.size_toArray, List.length_cons, List.length_nil, Nat.reduceAdd]
                    intro hc
                    obtain ⟨wd, hwd⟩ : ∃ wd, wd = wr.drew := ⟨_, rfl⟩
                    have HB8 := hid (show RBW w wd p vn (.slice ca S.names.length cc) (.slice va bs.length vk) (.slice (some ⟨g2, o2, none⟩) b.posts.length cap) b by rw [hwd]; exact HB6.out.drewN 1)
                    rw [← hwd]
                    clear hwd
                    have S0 : TwoS 8 6 (fun wx => wx.cell? ⟨p, 2, none⟩ = some (.slice va bs.length vk)) (fun wx => wx.cell? ⟨w.heap.size, 0, none⟩ = some (.string b.id) ∧ wx.cell? ⟨w.heap.size, 1, none⟩ = some (.int .i64 b.at_) ∧ wx.cell? ⟨w.heap.size, 2, none⟩ = some (.slice (some ⟨g2, o2, none⟩) b.posts.length cap)) (Array.replicate 12 false) wd := by
                      obtain ⟨q0, q1, q2, c1, c2, hz1, hz2⟩ := HB8.out.cells
                      exact ⟨.inr c2, .inr ⟨q0, q1, q2⟩⟩
                    refine wpAnyS_take (i := 0) (v := .pointer (some ⟨p, 0, none⟩)) rfl (by kernel_rfl) (by kernel_rfl) (by kernel_rfl) (fun _ _ _ h => h) (fun _ _ => TwoS.set_ (by decide) (by decide) _ _) hc (by first | rfl | simp [Region.wanted]) (fun wx hx => ?_) S0 (fun hc S0 => ?_)
                    · go_simp
                    try simp only [List.getElem_toArray, List.getElem_cons_succ, List.getElem_cons_zero, Act.put, List.setIfInBounds_toArray, List.set_cons_zero, List.set_cons_succ]
                    refine wpAnyS_take (i := 1) (v := .pointer (some ⟨p, 0, none⟩)) rfl (by kernel_rfl) (by kernel_rfl) (by kernel_rfl) (fun _ _ _ h => h) (fun _ _ => TwoS.set_ (by decide) (by decide) _ _) hc (by first | rfl | simp [Region.wanted]) (fun wx hx => ?_) S0 (fun hc S0 => ?_)
                    · go_simp
                    try simp only [List.getElem_toArray, List.getElem_cons_succ, List.getElem_cons_zero, Act.put, List.setIfInBounds_toArray, List.set_cons_zero, List.set_cons_succ]
                    refine wpAnyS_take (i := 2) (v := .pointer (some ⟨p, 0, none⟩)) rfl (by kernel_rfl) (by kernel_rfl) (by kernel_rfl) (fun _ _ _ h => h) (fun _ _ => TwoS.set_ (by decide) (by decide) _ _) hc (by first | rfl | simp [Region.wanted]) (fun wx hx => ?_) S0 (fun hc S0 => ?_)
                    · go_simp
                    try simp only [List.getElem_toArray, List.getElem_cons_succ, List.getElem_cons_zero, Act.put, List.setIfInBounds_toArray, List.set_cons_zero, List.set_cons_succ]
                    refine wpAnyS_take (i := 3) (v := .pointer (some ⟨p, 2, none⟩)) rfl (by kernel_rfl) (by kernel_rfl) (by kernel_rfl) (fun _ _ _ h => h) (fun _ _ => TwoS.set_ (by decide) (by decide) _ _) hc (by first | rfl | simp [Region.wanted]) (fun wx hx => ?_) S0 (fun hc S0 => ?_)
                    · go_simp
                    try simp only [List.getElem_toArray, List.getElem_cons_succ, List.getElem_cons_zero, Act.put, List.setIfInBounds_toArray, List.set_cons_zero, List.set_cons_succ]
                    refine wpAnyS_take (i := 4) (v := .slice va bs.length vk) rfl (by kernel_rfl) (by kernel_rfl) (by kernel_rfl) (fun _ _ _ h => h) (fun _ _ => TwoS.set_ (by decide) (by decide) _ _) hc (by first | rfl | simp [Region.wanted]) (fun wx hx => ?_) S0 (fun hc S0 => ?_)
                    · have g1 := hx.left (by kernel_rfl)
                      go_simp
                    try simp only [List.getElem_toArray, List.getElem_cons_succ, List.getElem_cons_zero, Act.put, List.setIfInBounds_toArray, List.set_cons_zero, List.set_cons_succ]
                    refine wpAnyS_take (i := 5) (v := .agg #[.string b.id, .int .i64 b.at_, .slice (some ⟨g2, o2, none⟩) b.posts.length cap]) rfl (by kernel_rfl) (by kernel_rfl) (by kernel_rfl) (fun _ _ _ h => h) (fun _ _ => TwoS.set_ (by decide) (by decide) _ _) hc (by first | rfl | simp [Region.wanted]) (fun wx hx => ?_) S0 (fun hc S0 => ?_)
                    · obtain ⟨g1, g2', g3⟩ := hx.right (by kernel_rfl)
                      go_simp
                    try simp only [List.getElem_toArray, List.getElem_cons_succ, List.getElem_cons_zero, Act.put, List.setIfInBounds_toArray, List.set_cons_zero, List.set_cons_succ]
                    have HCP := hid (copy_any wd (b, .slice (some ⟨g2, o2, none⟩) b.posts.length cap) (HV.out.below HB8.out.below) (by simp only; omega))
                    unfold bookV at HCP
                    refine wpAnyS_one (i := 6) rfl (by kernel_rfl) (by rfl) hc (fun Kx hK => ?_)
                    go_simp
                    refine (HCP.out).mono ?_
                    rintro e w8 ⟨u, rfl, ho8, hb8⟩
                    have HB9 := hid (HB8.out.go hb8)
                    have H8 := hid (And.intro ho8 hb8)
                    obtain ⟨ua, uc, hue⟩ := ownsRow_slice ho8
                    subst hue
                    clear ho8 hb8
                    obtain ⟨q0, q1, q2, c1, c2, hz1, hz2⟩ := HB9.out.cells
                    unfold bookV
                    simp only
                    refine hK.out _ _ ⟨.inr c2, .inl rfl⟩ (fun hc => ?_)
                    clear hK Kx
                    refine wpAnyS_one (i := 7) rfl (by kernel_rfl) (by rfl) hc (fun Kx hK => ?_)
                    go_simp
                    obtain ⟨W9, hW9⟩ : ∃ W9, W9 = w8.alloc (.cells #[.string b.id, .int .i64 b.at_, .slice ua b.posts.length uc] 36) := ⟨_, rfl⟩
                    have hb9 : Below w8.heap.size w8 W9 := by rw [hW9]; exact (Below.refl _ w8).alloc (Nat.le_refl _) _
                    have hs9 : ∀ j y, (bookC (b, .slice ua b.posts.length uc))[j]? = some y → W9.cell? ((⟨w8.heap.size, 0, none⟩ : Addr).add j) = some y := by rw [hW9]; exact cells_new rfl
                    have c9 := (hb9.cell (p := ⟨p, 2, none⟩) hz2).trans c2
                    have hown := ownsRow_below (ownsRow_below HA.out.row HB9.out.below) (by exact hb9)
                    have hz9 : p < W9.heap.size := Nat.lt_of_lt_of_le hz2 hb9.size
                    have HP9 : Hid (∀ W, W9.grownBy W (Value.slice va bs.length vk).ownBlock → W.heap[p]? = some (.cells #[vn, .slice ca S.names.length cc, .slice va bs.length vk] 58 (0, 0))) := fun W hg =>
                      (hg.block p hz9 (fun e => (HA.out.ov p e.symm).2.1 rfl)).trans ((hb9.block p hz2).trans HB9.out.led)
                    have H9 := hid hW9
                    rw [← hW9]
                    clear hW9
                    refine hK.out _ _ ⟨.inr c9, .inl rfl⟩ (fun hc => ?_)
                    clear hK Kx
                    refine wpAnyS_one (i := 8) rfl (by kernel_rfl) (by rfl) hc (fun Kx hK => ?_)
                    refine wp_append_join (.tmp 133) (.tmp 136) 24 rfl 0 36 i0 (.agg #[.string ⟨#[]⟩, .int .i64 0, .slice none 0 0]) 3 48 Tryd.underlying24 hi hz0 hzz1 hzz2 rfl (by decide) (.slice va bs.length vk) bs.length (bs.flatMap bookC) rfl hown (some ⟨w8.heap.size, 0, none⟩) 1 1 (bookC (b, .slice ua b.posts.length uc)) rfl rfl (fun e => by cases e) (fun b' e => by cases e; exact hs9) (by simp [bookC, Value.oneCell']) (by unfold maxLen; omega) (by omega) (Nat.zero_le _) ?_
                    intro v' W10 ho10 hg10 hor10
                    obtain ⟨va2, vk2, hve2⟩ := ownsRow_slice ho10
                    subst hve2
                    have hp10 := HP9.out W10 hg10
                    have c10 : W10.cell? ⟨p, 2, none⟩ = some (.slice va bs.length vk) := by simp [World.cell?, hp10]
                    have f10 : W10.frozen? ⟨p, 2, none⟩ = false := by simp [World.frozen?, hp10]
                    have hz10 : p < W10.heap.size := (Array.getElem?_eq_some_iff.1 hp10).1
                    have H10 := hid (And.intro ho10 (And.intro hg10 hor10))
                    refine hK.out _ _ ⟨.inl rfl, .inl rfl⟩ (fun hc => ?_)
                    clear hK Kx ho10 hg10 hor10 hown hs9 hb9 q0 q1 q2 c1 c2 c9 hp10 HP9
                    try simp only [Act.put, List.setIfInBounds_toArray, List.set_cons_zero, List.set_cons_succ] at hc ⊢
                    refine wpAnyS_one (i := 9) rfl (by kernel_rfl) (by rfl) hc (fun Kx hK => ?_)
                    go_simp
                    refine hK.out _ _ ⟨.inl rfl, .inl rfl⟩ (fun hc => ?_)
                    clear hK Kx
                    refine wpAnyS_one (i := 10) rfl (by kernel_rfl) (by rfl) hc (fun Kx hK => ?_)
                    go_simp
                    refine hK.out _ _ ⟨.inl rfl, .inl rfl⟩ (fun hc => ?_)
                    clear hK Kx
                    refine wpAnyS_one (i := 11) rfl (by kernel_rfl) (by rfl) hc (fun Kx hK => ?_)
                    go_simp
                    refine hK.out _ _ ⟨.inl rfl, .inl rfl⟩ (fun hc => ?_)
                    clear hK Kx
                    refine wpAnyS_done (by kernel_rfl) ?_ _
                    go_wp2_with fail
                    go_ret
                    obtain ⟨ho10, hg10, hor10⟩ := H10.out
                    refine ⟨by rw [HE.out]; rfl, ?_⟩
                    rw [HBO.out]
                    exact booked HA.out HB8.out.below H8.out.1 H8.out.2 H9.out hg10 hor10 ho10 rfl HIV.out
              · have hbn : (t != 0) = true := by rw [bne_iff_ne]; exact ht0
                have HE := hid (show Lg.code S b = 21 by
                  rw [HC.out, if_neg (by rw [HFO.out]; simp), if_neg (by rw [HE9.out]; simp), if_neg (by rw [HE14.out]; simp), if_neg (by rw [HLA.out]; simp), if_neg (by rw [← HBL.out]; omega), if_pos (by rw [← HT2.out]; exact ht0)])
                clear ht0
                go_wp2_with fail
                go_ret
                exact NO.out _ _ HB5.out.below HE.out (by decide)

end Go.Proofs.YtfkcphflcmpenaaDoor
