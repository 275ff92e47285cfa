/-
  The reference's Same: true of equal bookings. Conditions: lengths.
-/
import Derived.Test.YtfkcphflcmpenaaDoorZLed7
import Derived.Deep.RegionHeld3
import Derived.BigQuiet
namespace Go.Proofs.YtfkcphflcmpenaaDoor
open Go.RowKit Go.Maps

set_option maxRecDepth 100000 in
set_option maxHeartbeats 8000000 in
theorem same_books (w : World) (va vb : Value) (xs ys : List (Lg.Bk × Value)) (hx : SlOf w va 3 bookC xs) (hy : SlOf w vb 3 bookC ys) (px : ∀ q ∈ xs, SlOf w q.2 2 postC q.1.posts) (py : ∀ q ∈ ys, SlOf w q.2 2 postC q.1.posts) (he : xs.map Prod.fst = ys.map Prod.fst) :
    Calls Tryd.prog 21 #[va, vb] w (Gives (.bool true) w) := by
  have hlen : ys.length = xs.length := by have := congrArg List.length he; simpa using this.symm
  obtain ⟨aa, ca, rfl, a1, a2, a3⟩ := hx
  obtain ⟨ba, cb, rfl, b1, b2, b3⟩ := hy
  rw [hlen] at b1 b3 ⊢
  have HA := hid a3
  have HB := hid b3
  have HX := hid px
  have HY := hid py
  have HE := hid he
  have HLN := hid hlen
  have h1 : xs.length ≤ 9223372036854775807 := by unfold maxLen at a2; omega
  have hnn : ((xs.length : Int) != (xs.length : Int)) = false := by simp
  clear a3 b3 px py he hlen
  go_enter Tryd.func21, Tryd.ntmps21
  go_wp2_with fail
  go_loopw [5] (fun i wr => ∃ k : Nat, k ≤ xs.length ∧ i = .int .i64 k ∧ Hid (Below w.heap.size w wr)) (fun i _ => xs.length - (RowKit.intOf i).toNat)
  case atStart => exact ⟨0, Nat.zero_le _, rfl, Below.refl _ _⟩
  case round =>
    obtain ⟨k, hk, rfl, HBR⟩ := hrel
    by_cases hlt : k < xs.length
    · obtain ⟨g, o, rfl, hr⟩ := HA.out (by omega)
      obtain ⟨g2, o2, rfl, hr2⟩ := HB.out (by omega)
      obtain ⟨⟨b, u⟩, hp⟩ : ∃ q, xs[k]? = some q := ⟨_, List.getElem?_eq_getElem hlt⟩
      obtain ⟨u2, hp2⟩ : ∃ u2, ys[k]? = some (b, u2) := by
        have h : (xs.map Prod.fst)[k]? = some b := by rw [List.getElem?_map, hp]; rfl
        rw [HE.out, List.getElem?_map] at h
        cases hq : ys[k]? with
        | none => rw [hq] at h; cases h
        | some q =>
          rw [hq] at h
          simp at h
          exact ⟨q.2, by rw [← h]⟩
      obtain ⟨ua, uc, huv, p1, p2, p3⟩ := HX.out _ (List.mem_of_getElem? hp)
      obtain ⟨va2, vc2, hvv, q1, q2, q3⟩ := HY.out _ (List.mem_of_getElem? hp2)
      simp only at huv hvv p1 p2 p3 q1 q2 q3
      subst huv
      subst hvv
      have HP := hid p3
      have HQ := hid q3
      have HK : Hid (∀ W, Below w.heap.size w W → W.cell? ⟨g, o + k * 3, none⟩ = some (.string b.id) ∧ W.cell? ⟨g, o + k * 3 + 1, none⟩ = some (.int .i64 b.at_) ∧ W.cell? ⟨g, o + k * 3 + 2, none⟩ = some (.slice ua b.posts.length uc) ∧
          W.cell? ⟨g2, o2 + k * 3, none⟩ = some (.string b.id) ∧ W.cell? ⟨g2, o2 + k * 3 + 1, none⟩ = some (.int .i64 b.at_) ∧ W.cell? ⟨g2, o2 + k * 3 + 2, none⟩ = some (.slice va2 b.posts.length vc2)) := by
        intro W hW
        have hc := (hr.below hW).2 k _ hp
        have hd := (hr2.below hW).2 k _ hp2
        exact ⟨hc 0 _ rfl, hc 1 _ rfl, hc 2 _ rfl, hd 0 _ rfl, hd 1 _ rfl, hd 2 _ rfl⟩
      have HG : Hid (∀ W, Below w.heap.size w W → g < W.heap.size) := fun W hW => (hr.below hW).1
      have HG2 : Hid (∀ W, Below w.heap.size w W → g2 < W.heap.size) := fun W hW => (hr2.below hW).1
      have hg := (hr.below HBR.out).1
      have hg2 := (hr2.below HBR.out).1
      have hk0 : (0 : Int) ≤ (k : Int) := by omega
      have hk1 : (k : Int) < (xs.length : Int) := by omega
      have hs1 : (b.id.toList == b.id.toList) = true := by simp
      have hs2 : (b.at_ != b.at_) = false := by simp
      have hs3 : ((b.posts.length : Int) != (b.posts.length : Int)) = false := by simp
      have hpl : b.posts.length ≤ 9223372036854775807 := by unfold maxLen at p2; omega
      clear hr hr2 hp hp2 p3 q3
      go_wp2_with fail
      go_region_held3 (fun wx => Below w.heap.size w wx ∧ wx.cell? ⟨g, o + k * 3, none⟩ = some (.string b.id) ∧ wx.cell? ⟨g, o + k * 3 + 1, none⟩ = some (.int .i64 b.at_) ∧ wx.cell? ⟨g, o + k * 3 + 2, none⟩ = some (.slice ua b.posts.length uc) ∧
          wx.cell? ⟨g2, o2 + k * 3, none⟩ = some (.string b.id) ∧ wx.cell? ⟨g2, o2 + k * 3 + 1, none⟩ = some (.int .i64 b.at_) ∧ wx.cell? ⟨g2, o2 + k * 3 + 2, none⟩ = some (.slice va2 b.posts.length vc2))
        (first | assumption | exact ⟨HBR.out.drew, HK.out _ HBR.out.drew⟩) (fail)
      rename Below w.heap.size w wr.drew ∧ _ => HSS
      obtain ⟨HBS, e0, e1, e2, f0, f1, f2⟩ := HSS
      go_wp2_with fail
      go_loopw [6] (fun i wr2 => ∃ j : Nat, j ≤ b.posts.length ∧ i = .int .i64 j ∧ Hid (Below w.heap.size w wr2)) (fun i _ => b.posts.length - (RowKit.intOf i).toNat)
      case atStart => exact ⟨0, Nat.zero_le _, rfl, HBS⟩
      case round =>
        obtain ⟨j, hj, rfl, HBR2⟩ := hrel
        obtain ⟨c0, c1, c2, d0, d1, d2⟩ := HK.out _ HBR2.out
        have hg3 := HG.out _ HBR2.out
        have hg4 := HG2.out _ HBR2.out
        by_cases hlt2 : j < b.posts.length
        · obtain ⟨g5, o5, rfl, hr5⟩ := HP.out (by omega)
          obtain ⟨g6, o6, rfl, hr6⟩ := HQ.out (by omega)
          obtain ⟨x, hx⟩ : ∃ x, b.posts[j]? = some x := ⟨_, List.getElem?_eq_getElem hlt2⟩
          have hc := (hr5.below HBR2.out).2 j x hx
          have hd := (hr6.below HBR2.out).2 j x hx
          have x0 := hc 0 _ rfl
          have x1 := hc 1 _ rfl
          have y0 := hd 0 _ rfl
          have y1 := hd 1 _ rfl
          rw [Nat.add_zero] at x0 y0
          have hg5 := (hr5.below HBR2.out).1
          have hg6 := (hr6.below HBR2.out).1
          have hj0 : (0 : Int) ≤ (j : Int) := by omega
          have hj1 : (j : Int) < (b.posts.length : Int) := by omega
          have hs4 : (x.1.toList == x.1.toList) = true := by simp
          have hs5 : (x.2 == x.2) = true := by simp
          clear hr5 hr6 hc hd hx
          go_wp2_with fail
          go_quiet (fail)
          go_wp2_with fail
          go_round
          case rel => exact ⟨j + 1, by omega, by go_num, below_drewN HBR2.out _⟩
          case measure => simp [RowKit.intOf]; omega
        · go_wp2_with fail
          go_round
          case rel => exact ⟨k + 1, by omega, by go_num, HBR2.out⟩
          case measure => simp [RowKit.intOf]; omega
    · go_wp2_with fail
      go_ret
      exact ⟨rfl, HBR.out⟩

end Go.Proofs.YtfkcphflcmpenaaDoor
