/-
  The reference's Few; ledger.List. Conditions: lengths.
-/
import Derived.Test.YtfkcphflcmpenaaDoorZLed3
import Derived.Test.YtfkcphflcmpenaaDoorZLedClone
namespace Lg

/-- sizes that are looked at -/
def fewOne (b : Bk) : Bool := decide (b.id.size ≤ 60) && decide (b.posts.length ≤ 14) && b.posts.all (fun p => decide (p.1.size ≤ 60))
def fewB (ns : List ByteArray) (l : List Bk) : Bool := ns.all (fun a => decide (a.size ≤ 60)) && l.all fewOne && decide (ns.length ≤ 12) && decide (l.length ≤ 40)

theorem all_false {α : Type} {p : α → Bool} {l : List α} {x : α} (hx : x ∈ l) (h : p x = false) : l.all p = false := by
  rw [Bool.eq_false_iff]; intro e
  rw [List.all_eq_true] at e
  rw [e x hx] at h; cases h

theorem fewB_posts {ns : List ByteArray} {l : List Bk} (h : fewB ns l = true) : (∀ a ∈ ns, a.size ≤ 60) ∧ (∀ b ∈ l, b.id.size ≤ 60 ∧ b.posts.length ≤ 14 ∧ ∀ p ∈ b.posts, p.1.size ≤ 60) ∧ ns.length ≤ 12 ∧ l.length ≤ 40 := by
  unfold fewB fewOne at h
  simp only [Bool.and_eq_true, List.all_eq_true, decide_eq_true_eq] at h
  obtain ⟨⟨⟨h1, h2⟩, h3⟩, h4⟩ := h
  exact ⟨h1, fun b hb => ⟨(h2 b hb).1.1, (h2 b hb).1.2, (h2 b hb).2⟩, h3, h4⟩

end Lg
namespace Go.Proofs.YtfkcphflcmpenaaDoor
open Go.RowKit Go.Maps

def strC (s : ByteArray) : List Value := [.string s]

theorem all_take {α : Type} {p : α → Bool} {l : List α} {k : Nat} {x : α} (hx : l[k]? = some x) (h : (l.take k).all p = true) (hp : p x = true) : (l.take (k + 1)).all p = true := by
  obtain ⟨hk, he⟩ := List.getElem?_eq_some_iff.1 hx
  rw [List.take_succ_eq_append_getElem hk, he, List.all_append, h]
  simp [hp]

set_option maxRecDepth 100000 in
set_option maxHeartbeats 4000000 in
theorem few_any (w : World) (va vl : Value) (ns : List ByteArray) (bs : List (Lg.Bk × Value)) (ha : SlOf w va 1 strC ns) (hl : SlOf w vl 3 bookC bs) (hp : ∀ q ∈ bs, SlOf w q.2 2 postC q.1.posts) :
    Calls Tryd.prog 10 #[va, vl] w (Same (.bool (Lg.fewB ns (bs.map Prod.fst))) w) := by
  obtain ⟨aa, ca, rfl, a1, a2, a3⟩ := ha
  obtain ⟨la, lc, rfl, l1, l2, l3⟩ := hl
  have h1 : ns.length ≤ 9223372036854775807 := by unfold maxLen at a2; omega
  have h2 : bs.length ≤ 9223372036854775807 := by unfold maxLen at l2; omega
  have HA := hid a3
  have HL := hid l3
  have HP := hid hp
  have HF := hid (show Lg.fewB ns (bs.map Prod.fst) = (ns.all (fun a => decide (a.size ≤ 60)) && (bs.map Prod.fst).all Lg.fewOne && decide (ns.length ≤ 12) && decide ((bs.map Prod.fst).length ≤ 40)) from rfl)
  clear a3 l3 hp
  go_enter Tryd.func10, Tryd.ntmps10
  go_wp2_with fail
  go_loop [5] (fun i => ∃ k : Nat, k ≤ ns.length ∧ i = .int .i64 k ∧ Hid ((ns.take k).all (fun a => decide (a.size ≤ 60)) = true)) (fun i => ns.length - (RowKit.intOf i).toNat)
  case atStart => exact ⟨0, Nat.zero_le _, rfl, rfl⟩
  case round =>
    obtain ⟨k, hk, rfl, HK⟩ := hrel
    by_cases hlt : k < ns.length
    · obtain ⟨g, o, rfl, hr⟩ := HA.out (by omega)
      obtain ⟨x, hx⟩ : ∃ x, ns[k]? = some x := ⟨_, List.getElem?_eq_getElem hlt⟩
      have c0 := hr.2 k x hx 0 _ rfl
      rw [Nat.add_zero, Nat.mul_one] at c0
      have hg := hr.1
      have hk0 : (0 : Int) ≤ (k : Int) := by omega
      have hk1 : (k : Int) < (ns.length : Int) := by omega
      have HX := hid hx
      clear hr hx
      by_cases hs : (60 : Int) < (x.size : Int)
      · have HN := hid (show Lg.fewB ns (bs.map Prod.fst) = false by
          rw [HF.out, Lg.all_false (List.mem_of_getElem? HX.out) (by simp; omega)]; rfl)
        go_wp2_with fail
        go_ret
        exact ⟨ret_bool HN.out.symm, rfl⟩
      · have HS := hid (show decide (x.size ≤ 60) = true by rw [decide_eq_true_eq]; omega)
        go_wp2_with fail
        go_round
        case rel => exact ⟨k + 1, by omega, by go_num, all_take HX.out HK.out HS.out⟩
        case measure => simp [RowKit.intOf]; omega
    · have hke : k = ns.length := by omega
      have HAS := hid (show ns.all (fun a => decide (a.size ≤ 60)) = true by have := HK.out; rwa [hke, List.take_length] at this)
      clear hke
      go_wp2_with fail
      go_loop [6] (fun i => ∃ k : Nat, k ≤ bs.length ∧ i = .int .i64 k ∧ Hid (((bs.map Prod.fst).take k).all Lg.fewOne = true)) (fun i => bs.length - (RowKit.intOf i).toNat)
      case atStart => exact ⟨0, Nat.zero_le _, rfl, rfl⟩
      case round =>
        obtain ⟨k, hk, rfl, HK⟩ := hrel
        by_cases hlt : k < bs.length
        · obtain ⟨g, o, rfl, hr⟩ := HL.out (by omega)
          obtain ⟨q, hq⟩ : ∃ q, bs[k]? = some q := ⟨_, List.getElem?_eq_getElem hlt⟩
          have hqm : q ∈ bs := List.mem_of_getElem? hq
          have hx : (bs.map Prod.fst)[k]? = some q.1 := by rw [List.getElem?_map, hq]; rfl
          obtain ⟨pa, pc, hpv, p1, p2, p3⟩ := HP.out q hqm
          have hc := hr.2 k q hq
          have c0 := hc 0 _ rfl
          have c2 := hc 2 _ rfl
          rw [Nat.add_zero] at c0
          rw [hpv] at c2
          have hg := hr.1
          have hk0 : (0 : Int) ≤ (k : Int) := by omega
          have hk1 : (k : Int) < (bs.length : Int) := by omega
          have HX := hid hx
          have HP3 := hid p3
          have HNO := hid (show Lg.fewOne q.1 = false → Lg.fewB ns (bs.map Prod.fst) = false from fun e => by
            rw [HF.out, Lg.all_false (List.mem_of_getElem? HX.out) e, HAS.out]; rfl)
          clear hr hx hc hq hpv p3 hqm
          by_cases hs : (60 : Int) < (q.1.id.size : Int)
          · have HN := hid (HNO.out (by unfold Lg.fewOne; rw [decide_eq_false (by omega)]; rfl))
            go_wp2_with fail
            go_ret
            exact ⟨ret_bool HN.out.symm, rfl⟩
          · by_cases hs2 : (14 : Int) < (q.1.posts.length : Int)
            · have HN := hid (HNO.out (by unfold Lg.fewOne; rw [decide_eq_false (show ¬ q.1.posts.length ≤ 14 by omega)]; simp))
              go_wp2_with fail
              go_ret
              exact ⟨ret_bool HN.out.symm, rfl⟩
            · have HS := hid (show Lg.fewOne q.1 = q.1.posts.all (fun p => decide (p.1.size ≤ 60)) by
                unfold Lg.fewOne
                rw [decide_eq_true (show q.1.id.size ≤ 60 by omega), decide_eq_true (show q.1.posts.length ≤ 14 by omega)]; simp)
              have hg2 := hg
              have hpl : (q.1.posts.length : Int) ≤ 14 := by omega
              have HC2 := hid c2
              go_wp2_with fail
              go_loop [7] (fun i => ∃ j : Nat, j ≤ q.1.posts.length ∧ i = .int .i64 j ∧ Hid ((q.1.posts.take j).all (fun p => decide (p.1.size ≤ 60)) = true)) (fun i => q.1.posts.length - (RowKit.intOf i).toNat)
              case atStart => exact ⟨0, Nat.zero_le _, rfl, rfl⟩
              case round =>
                obtain ⟨j, hj, rfl, HJ⟩ := hrel
                by_cases hjl : j < q.1.posts.length
                · obtain ⟨g3, o3, rfl, hr3⟩ := HP3.out (by omega)
                  obtain ⟨x, hx⟩ : ∃ x, q.1.posts[j]? = some x := ⟨_, List.getElem?_eq_getElem hjl⟩
                  have d0 := hr3.2 j x hx 0 _ rfl
                  rw [Nat.add_zero] at d0
                  have hg3 := hr3.1
                  have hj0 : (0 : Int) ≤ (j : Int) := by omega
                  have hj1 : (j : Int) < (q.1.posts.length : Int) := by omega
                  have HXJ := hid hx
                  clear hr3 hx
                  by_cases hsx : (60 : Int) < (x.1.size : Int)
                  · have HN := hid (HNO.out (by rw [HS.out]; exact Lg.all_false (List.mem_of_getElem? HXJ.out) (by simp; omega)))
                    go_wp2_with fail
                    go_ret
                    exact ⟨ret_bool HN.out.symm, rfl⟩
                  · have HSX := hid (show decide (x.1.size ≤ 60) = true by rw [decide_eq_true_eq]; omega)
                    go_wp2_with fail
                    go_round
                    case rel => exact ⟨j + 1, by omega, by go_num, all_take HXJ.out HJ.out HSX.out⟩
                    case measure => simp [RowKit.intOf]; omega
                · have hje : j = q.1.posts.length := by omega
                  have HE := hid (show Lg.fewOne q.1 = true by
                    rw [HS.out]
                    have := HJ.out
                    rwa [hje, List.take_length] at this)
                  clear hje
                  go_wp2_with fail
                  go_round
                  case rel => exact ⟨k + 1, by omega, by go_num, all_take HX.out HK.out HE.out⟩
                  case measure => simp [RowKit.intOf]; omega
        · have hke : k = bs.length := by omega
          have HBS := hid (show (bs.map Prod.fst).all Lg.fewOne = true by
            have := HK.out
            rwa [hke, List.take_of_length_le (by rw [List.length_map]; exact Nat.le_refl _)] at this)
          clear hke
          by_cases e1 : (ns.length : Int) ≤ 12
          · have HE := hid (show Lg.fewB ns (bs.map Prod.fst) = decide ((bs.length : Int) ≤ 40) by
              rw [HF.out, HAS.out, HBS.out, decide_eq_true (show ns.length ≤ 12 by omega), List.length_map]
              simp only [Bool.true_and]
              by_cases e : bs.length ≤ 40
              · rw [decide_eq_true e, decide_eq_true (by omega)]
              · rw [decide_eq_false e, decide_eq_false (by omega)])
            go_wp2_with fail
            go_ret
            exact ⟨ret_bool HE.out.symm, rfl⟩
          · have HE := hid (show Lg.fewB ns (bs.map Prod.fst) = false by
              rw [HF.out, decide_eq_false (show ¬ ns.length ≤ 12 by omega)]; simp)
            go_wp2_with fail
            go_ret
            exact ⟨ret_bool HE.out.symm, rfl⟩

end Go.Proofs.YtfkcphflcmpenaaDoor
