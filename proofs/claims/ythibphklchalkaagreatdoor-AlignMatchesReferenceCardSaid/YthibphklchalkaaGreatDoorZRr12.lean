/-
  The reference's rewrites: the form and the cost of a list of rules. Conditions: lengths; the rules are those of a valid table.
-/
import Derived.Test.YthibphklchalkaaGreatDoorZRr10
import Derived.Test.YthibphklchalkaaGreatDoorZAl10
namespace Go.Proofs.YthibphklchalkaaGreatDoor
open Go.RowKit Go.Lib Go.Maps

set_option maxRecDepth 100000 in
set_option maxHeartbeats 8000000 in
theorem rwritten_any (t : Rw.Table) (tv : Value) (k : Int) (word : List UInt8) (lx : List (List UInt8)) (v : Value) (l : List Int) (S : Al.Side) (W : World) (ht : TableAt W t tv) (hx : word.length ≤ 1000000) (h1 : Sc.lets k word = some lx)
    (hSe : S = ⟨lx.map Sc.fold, Al.rulesFrom k 0 t.rules⟩) (hS : S.Good) (hlet : S.letters.length ≤ 12) (hsz : ∀ r ∈ S.rules, r.from_.length ≤ 12 ∧ r.to_.length ≤ 3) (h4 : SlOf W v 1 intC l) (hl : l.length ≤ 1000000) :
    Calls Tryz.prog 27 #[tv, .int .i64 k, .string (bs word), v] W (WrittenPost S l W) := by
  have HB := hid (fun (k k' : Nat) (f : List UInt8) (c : Int) (hk : k ≤ S.letters.length) (l : List Int) => Al.walkW_bounds hS (fun r hr => by have := (hsz r hr).2; omega) l k k' f c hk)
  have HH1 := hid h1
  have HSE := hid hSe
  have HSL := hid (show lx.map Sc.fold = S.letters by rw [hSe])
  have HSG := hid (And.intro hS hsz)
  clear h1 hSe hS hsz
  obtain ⟨⟨vr, vd, ve, rfl, str, ⟨ad, cd, rfl, -⟩, ⟨ae, ce, rfl, -⟩⟩, fr, -, -, hfew, -⟩ := ht
  have HTR := hid str
  obtain ⟨ar, cr, rfl, -⟩ := str
  have HFR := hid fr
  have HV := hid h4
  obtain ⟨av, cv, rfl, -⟩ := h4
  clear fr
  obtain ⟨W1, hW1⟩ : ∃ W1, W1 = W.alloc (.cells #[.slice ar t.rules.length cr, .slice ad t.drops.length cd, .slice ae t.ends.length ce, .int .i64 t.drop, .int .i64 t.order, .int .i64 t.initial] 25) := ⟨_, rfl⟩
  have HB1 := hid (show Below W.heap.size W W1 by rw [hW1]; exact (Below.refl _ W).alloc (Nat.le_refl _) _)
  have HT1 := hid (show Blk W1 W.heap.size 25 [.slice ar t.rules.length cr, .slice ad t.drops.length cd, .slice ae t.ends.length ce, .int .i64 t.drop, .int .i64 t.order, .int .i64 t.initial] by rw [hW1]; exact Blk.new W _ _)
  have HL1 := hid (rletters11_any k word W1 hx)
  go_enter Tryz.func27, Tryz.ntmps27
  go_upto_region 1 with (fail)
  rw [← hW1]
  clear hW1
  go_wp2_with fail
  refine (HL1.out).mono ?_
  intro e W2 h2
  obtain ⟨va, vc, rfl, hs2, hb2⟩ := h2.some_ HH1.out
  rw [HSL.out] at hs2 ⊢
  have HS2 := hid hs2
  have HB2 := hid (Below.step HB1.out hb2)
  have HT2 := hid (HT1.out.below hb2)
  clear hb2 h2 hs2
  go_wp2_with fail
  go_loopw [13, 14, 15, 16] (fun fv cv kv nv wr => ∃ (n q : Nat) (f : List UInt8) (c : Int), n ≤ l.length ∧ nv = .int .i64 n ∧ fv = .string (bs f) ∧ cv = .int .i64 c ∧ kv = .int .i64 q ∧ Hid (Al.walkW S 0 (l.take n) = some (q, f, c)) ∧ Hid (Below W2.heap.size W2 wr)) (fun _ _ _ nv _ => l.length - (RowKit.intOf nv).toNat)
  case atStart => exact ⟨0, 0, [], 0, Nat.zero_le _, rfl, rfl, rfl, rfl, hid (by simp [Al.walkW]), Below.refl _ _⟩
  case round =>
    obtain ⟨n, q, f, c, hn, rfl, rfl, rfl, rfl, HWK, HR⟩ := hrel
    obtain ⟨b1, b2, b3, b4⟩ := HB.out 0 q f c (Nat.zero_le _) _ HWK.out
    have HTr := hid (HT2.out.below HR.out)
    have t0 := HTr.out.cell (j := 0) rfl
    have zt := HTr.out.lt
    have HBW := hid (Below.step HB2.out HR.out)
    by_cases hlt : n < l.length
    · obtain ⟨g, o, rfl, hr⟩ : ∃ g o, av = some ⟨g, o, none⟩ ∧ RowOf wr g o 1 intC l := by
        obtain ⟨a', c', e, -, -, hr⟩ := HV.out.below HBW.out
        cases e
        exact hr (by omega)
      obtain ⟨i, hi⟩ : ∃ i, l[n]? = some i := ⟨_, List.getElem?_eq_getElem hlt⟩
      have c0 := hr.2 n i hi 0 _ rfl
      rw [Nat.add_zero, Nat.mul_one] at c0
      have hg := hr.1
      have HI := hid hi
      have hn0 : (0 : Int) ≤ (n : Int) := by omega
      have hn1 : (n : Int) < (l.length : Int) := by omega
      clear hr hi
      by_cases hneg : i < 0
      · have g1 : decide (i < 0) = true := decide_eq_true hneg
        have hno := hid (show Al.written S 0 l = none by
          refine Al.walkW_fail (n := n + 1) ?_
          have := HWK.out
          rw [HSE.out] at this ⊢
          exact Al.refW_out this HI.out (.inl hneg))
        clear hneg
        go_wp2_with fail
        go_ret3
        exact ⟨HBW.out, [], 0, false, rfl, by simp, by omega, by omega, by rw [hno.out]⟩
      have g1 : decide (i < 0) = false := decide_eq_false hneg
      by_cases hbig : (t.rules.length : Int) ≤ i
      · have g2 : decide ((t.rules.length : Int) ≤ i) = true := decide_eq_true hbig
        have hno := hid (show Al.written S 0 l = none by
          refine Al.walkW_fail (n := n + 1) ?_
          have := HWK.out
          rw [HSE.out] at this ⊢
          exact Al.refW_out this HI.out (.inr hbig))
        clear hbig
        go_wp2_with fail
        go_ret3
        exact ⟨HBW.out, [], 0, false, rfl, by simp, by omega, by omega, by rw [hno.out]⟩
      have g2 : decide ((t.rules.length : Int) ≤ i) = false := decide_eq_false hbig
      obtain ⟨j, rfl⟩ : ∃ j : Nat, i = j := ⟨i.toNat, by omega⟩
      have hj : j < t.rules.length := by omega
      have g2n : decide (t.rules.length ≤ j) = false := decide_eq_false (by omega)
      have hj0 : (0 : Int) ≤ (j : Int) := by omega
      have hj1 : (j : Int) < (t.rules.length : Int) := by omega
      obtain ⟨x, hx⟩ : ∃ x, t.rules[j]? = some x := ⟨_, List.getElem?_eq_getElem hj⟩
      obtain ⟨gr, og, rfl, hrr⟩ : ∃ g o, ar = some ⟨g, o, none⟩ ∧ RowOf wr g o 4 ruleCells t.rules := by
        obtain ⟨a', c', e, -, -, hr⟩ := HTR.out.below HBW.out
        cases e
        exact hr (by omega)
      have hc := hrr.2 j x hx
      have e0 := hc 0 _ rfl
      have e1 := hc 1 _ rfl
      have e2 := hc 2 _ rfl
      have e3 := hc 3 _ rfl
      rw [Nat.add_zero] at e0
      have hgr := hrr.1
      have HX := hid hx
      have HFX := hid (HFR.out x (List.mem_of_getElem? hx))
      clear hc hrr hx hneg hbig
      by_cases hsc : x.script = k
      rotate_left
      · have hne : ((x.script : Int) == k) = false := by rw [beq_eq_false_iff_ne]; exact hsc
        have hno := hid (show Al.written S 0 l = none by
          refine Al.walkW_fail (n := n + 1) ?_
          have := HWK.out
          rw [HSE.out] at this ⊢
          exact Al.refW_other this HI.out HX.out hsc)
        clear hsc
        go_wp2_with fail
        go_ret3
        exact ⟨HBW.out, [], 0, false, rfl, by simp, by omega, by omega, by rw [hno.out]⟩
      subst hsc
      have hne : ((x.script : Int) == x.script) = true := by simp
      have HFI := hid (rfits_any x.script x.from_ S.letters (.slice va S.letters.length vc) q wr (HS2.out.below HR.out) (by have := HFX.out.2.1; omega) (by omega) (by omega))
      cases hfi : Al.fitN x.script x.from_ S.letters q with
      | none =>
        have hno := hid (show Al.written S 0 l = none by
          refine Al.walkW_fail (n := n + 1) ?_
          have h := HWK.out
          rw [HSE.out] at h ⊢
          exact Al.refW_unfit h HI.out HX.out rfl (by rw [HSL.out]; exact hfi))
        have HFI2 := hid (show Calls Tryz.prog 42 #[.int .i64 x.script, .string (bs x.from_), .slice va S.letters.length vc, .int .i64 q] wr (Gives (.tuple #[.int .i64 0, .bool false]) wr) by
          have := HFI.out
          rw [hfi] at this
          exact this)
        clear hfi HFI
        go_wp2_with fail
        refine (HFI2.out).mono ?_
        rintro e W4 ⟨rfl, hb4⟩
        have HB4 := hid (Below.step HBW.out hb4)
        clear hb4
        go_wp2_with fail
        go_ret3
        exact ⟨HB4.out, [], 0, false, rfl, by simp, by omega, by omega, by rw [hno.out]⟩
      | some m =>
        have hgo := hid (show Al.walkW S 0 (l.take (n + 1)) = some (q + m, f ++ x.to_, c + x.cost) by
          have h := HWK.out
          rw [HSE.out] at h ⊢
          exact Al.refW_fit h HI.out HX.out rfl (by rw [HSL.out]; exact hfi))
        obtain ⟨b5, b6, b7, b8⟩ := HB.out 0 (q + m) (f ++ x.to_) (c + x.cost) (Nat.zero_le _) _ hgo.out
        have HFI2 := hid (show Calls Tryz.prog 42 #[.int .i64 x.script, .string (bs x.from_), .slice va S.letters.length vc, .int .i64 q] wr (Gives (.tuple #[.int .i64 m, .bool true]) wr) by
          have := HFI.out
          rw [hfi] at this
          exact this)
        have hfl : (f ++ x.to_).length = f.length + x.to_.length := List.length_append
        have hzz : ¬ 9223372036854775807 < (bs f).size + (bs x.to_).size := by rw [bs_len, bs_len]; omega
        have f1 : IntKind.i64.wrap ((q : Int) + (m : Int)) = (q : Int) + (m : Int) := IntWalk.i64_in _ (by omega)
        have f2 : IntKind.i64.wrap (c + x.cost) = c + x.cost := IntWalk.i64_in _ (by omega)
        have HCAT := hid (show bs f ++ bs x.to_ = bs (f ++ x.to_) from by
          refine bs_ext ?_
          simp [bs])
        clear hfi HFI hfl
        go_wp2_with fail
        refine (HFI2.out).mono ?_
        rintro e W4 ⟨rfl, hb4⟩
        have HB4 := hid (Below.step HR.out hb4)
        have HT4 := hid (HTr.out.below hb4)
        have e0 := (hb4.cell (p := ⟨gr, og + j * 4, none⟩) hgr).trans e0
        have e2 := (hb4.cell (p := ⟨gr, og + j * 4 + 2, none⟩) hgr).trans e2
        have e3 := (hb4.cell (p := ⟨gr, og + j * 4 + 3, none⟩) hgr).trans e3
        have hgr := Nat.lt_of_lt_of_le hgr hb4.size
        have t0 := HT4.out.cell (j := 0) rfl
        have zt := HT4.out.lt
        clear hb4 e1 c0 hg
        go_wp2_with fail
        go_roundw
        case rel => exact ⟨n + 1, q + m, f ++ x.to_, c + x.cost, by omega, by go_num, by rw [HCAT.out], rfl, by go_num, hgo, HB4⟩
        case measure => simp [RowKit.intOf]; omega
    · have hne : n = l.length := by omega
      have HBR := HBW
      have hwr := hid (show Al.written S 0 l = if q = S.letters.length then some (f, c) else none by
        have hw := HWK.out
        rw [hne, List.take_length] at hw
        rw [Al.written_walk, hw])
      have hnb := nat_beq q S.letters.length
      have HNN := hid hne
      clear hne
      by_cases he : q = S.letters.length
      · rw [decide_eq_true he] at hnb
        rw [if_pos he] at hwr
        clear he
        go_wp2_with fail
        go_ret3
        exact ⟨HBR.out, f, c, true, rfl, by omega, by omega, by omega, by rw [hwr.out]; exact ⟨rfl, rfl, rfl⟩⟩
      · rw [decide_eq_false he] at hnb
        rw [if_neg he] at hwr
        clear he
        go_wp2_with fail
        go_ret3
        exact ⟨HBR.out, f, c, false, rfl, by omega, by omega, by omega, by rw [hwr.out]⟩

end Go.Proofs.YthibphklchalkaaGreatDoor
