/-
  The statement LexerPlaces as the program computes it: true at every text within Go's own bound. Conditions: none but that bound.
-/
import Derived.Test.YtlojckkccgpabaaDoorZLaw9
namespace Go.Proofs.YtlojckkccgpabaaDoor
open Go.RowKit

/-- what a round loads -/
theorem place_keep {wr w' : World} {g o : Nat} {p : Nat × Lx.Tk} (ha : TokCell wr g o p) (hg : g < wr.heap.size) (h : Below wr.heap.size wr w') :
    Below wr.heap.size wr w' ∧ w'.cell? ⟨g, o, none⟩ = some (.int .i64 p.2.kind) ∧ w'.cell? ⟨g, o + 1, none⟩ = some (.int .i64 p.1) ∧ w'.cell? ⟨g, o + 2, none⟩ = some (.int .i64 p.2.n) ∧
      w'.cell? ⟨g, o + 3, none⟩ = some (.string (bs p.2.text)) :=
  ⟨h, (ha.below h hg).c0, (ha.below h hg).c1, (ha.below h hg).c2, (ha.below h hg).c3⟩

theorem endAt_succ {l : List (Nat × Lx.Tk)} {k : Nat} {p : Nat × Lx.Tk} (h : l[k]? = some p) : Lx.endAt l (k + 1) = p.1 + p.2.width := by simp [Lx.endAt, h]

theorem gaps_true (t : ByteArray) (w : World) (hs : t.size ≤ maxLen) (h : Lx.skip false t.data.toList = []) : Calls Tryd.prog 17 #[.string t] w fun e w' => e = .returned (.bool true) ∧ w = w' := by
  refine (gaps_any t w hs).mono ?_
  rintro e w' ⟨rfl, rfl⟩
  exact ⟨by unfold gapsB; rw [h]; rfl, rfl⟩

set_option maxRecDepth 100000 in
set_option maxHeartbeats 1600000 in
theorem law_places (t : ByteArray) (w : World) (hs : t.size ≤ maxLen) : Calls Tryd.prog 4 #[.string t] w (Gives (.bool true) w) := by
  unfold maxLen at hs
  go_enter Tryd.func4, Tryd.ntmps4
  by_cases hlen : (3000 : Int) < t.size
  · go_wp2_with (go_at_call 11; refine (head_true _).mono ?_; rintro e w1 ⟨rfl, hb1⟩)
    go_ret
    exact ⟨rfl, hb1⟩
  · have h5 : t.size ≤ 5000 := by omega
    have hsz : t.data.toList.length = t.size := by simp
    go_wp2_with (go_at_call 11; refine (head_true _).mono ?_; rintro e w1 ⟨rfl, hb1⟩)
    cases hlu : Lx.lu t.data.toList with
    | error x =>
      obtain ⟨x, y⟩ := x
      refine (lex_fails w1 hlu h5).mono ?_
      rintro e w2 ⟨v, rfl, hv, hb2⟩
      have hx0 := (lu_err hlu).1
      have hx : ((x : Int) != 0) = true := by rw [bne_iff_ne]; omega
      have hy := (Lx.beginnings _ _ _ _ (Nat.le_refl _) hlu).1
      have hy2 : (y : Int) < t.size := by omega
      obtain ⟨cap, m1, m2, m3⟩ := hv
      obtain ⟨a, rfl⟩ : ∃ a, v = .slice a 0 cap := by
        rcases m3 with ⟨_, rfl⟩ | ⟨g, o, rfl, _⟩
        · exact ⟨_, rfl⟩
        · exact ⟨_, rfl⟩
      clear hlu m3
      go_wp2
      go_ret
      exact ⟨rfl, Below.step hb1 hb2⟩
    | ok l =>
      refine (lex_toks w1 hlu h5).mono ?_
      rintro e w2 ⟨v, rfl, hv, hb2⟩
      have HB := hid (Below.step hb1 hb2)
      have hPl := hid (Lx.lu_places hlu)
      obtain ⟨cap, m1, m2, m3⟩ := hv
      unfold maxLen at m2
      obtain ⟨a, rfl, hR⟩ : ∃ a, v = .slice a l.length cap ∧ (0 < l.length → ∃ g o, a = some ⟨g, o, none⟩ ∧ TokRow w2 g o l) := by
        rcases m3 with ⟨rfl, rfl⟩ | ⟨g, o, rfl, hr⟩
        · exact ⟨_, rfl, fun h => absurd h (by simp)⟩
        · exact ⟨_, rfl, fun _ => ⟨g, o, rfl, hr⟩⟩
      have hR' := hid hR
      clear hlu hb1 hb2 m3 hR
      go_wp2
      go_loopw [7, 8] (fun e i wr => ∃ k : Nat, k ≤ l.length ∧ i = .int .i64 k ∧ e = .int .i64 (Lx.endAt l k) ∧ Below w2.heap.size w2 wr) (fun _ i _ => l.length - (intOf i).toNat)
      case atStart => exact ⟨0, Nat.zero_le _, rfl, rfl, Below.refl _ _⟩
      case round =>
        obtain ⟨k, hk, rfl, rfl, hbr⟩ := hrel
        by_cases hlt : k < l.length
        · obtain ⟨g, o, rfl, hR⟩ := hR'.out (by omega)
          obtain ⟨p, hp⟩ : ∃ p, l[k]? = some p := ⟨_, List.getElem?_eq_getElem hlt⟩
          obtain ⟨a0, a1, a2, a3⟩ := (hR.below hbr).2 k p hp
          have cA := hid ((hR.below hbr).2 k p hp)
          have hg1 := (hR.below hbr).1
          have hk0 : (0 : Int) ≤ (k : Int) := by omega
          have hk1 : (k : Int) < (l.length : Int) := by omega
          have hf1 := hPl.out.fits k p hp
          have hle := hPl.out.le k p hp
          have htl : p.2.text.length + 2 ≤ maxLen := by have := text_le p.2; unfold maxLen; omega
          have hle' : (Lx.endAt l k : Int) ≤ (p.1 : Int) := by omega
          have hf1' : (p.1 : Int) + (p.2.width : Int) ≤ (t.size : Int) := by omega
          clear hR hf1 hle
          go_wp2_with fail
          refine (width_tok _ p.2 _ htl).mono ?_
          rintro e w3 ⟨rfl, hb3⟩
          have cB := hid (cA.out.below hb3 hg1)
          have hg2 : g < w3.heap.size := Nat.lt_of_lt_of_le hg1 hb3.size
          have HC := hid (hbr.trans (hb3.mono hbr.size))
          clear hb3 hbr a0 a1 a2 a3
          obtain ⟨a0, a1, a2, a3⟩ := cB.out
          have hx1 : t.extract p.1 (p.1 + p.2.width) = bs p.2.written := by
            refine bs_ext ?_
            rw [extract_list, Nat.add_sub_cancel_left]
            exact hPl.out.here k p hp
          have hx2 := hid (show Lx.skip false (t.extract (Lx.endAt l k) p.1).data.toList = [] by rw [extract_list]; exact hPl.out.gap k p hp)
          have hx3 : (t.extract (Lx.endAt l k) p.1).size ≤ maxLen := by rw [ByteArray.size_extract]; unfold maxLen; omega
          have hne : (bs p.2.written).toList.isEmpty = false := by
            have := (hPl.out.ok k p hp).width_pos
            rw [← Lx.written_length] at this
            cases hw : p.2.written with
            | nil => rw [hw] at this; cases this
            | cons a b => rw [ByteArray.toList_eq]; rfl
          have e2 : IntKind.i64.wrap ((p.1 : Int) + (p.2.width : Int)) = (p.1 : Int) + (p.2.width : Int) := IntWalk.i64_in _ (by omega)
          have e3 : ((p.1 : Int) + (p.2.width : Int)).toNat = p.1 + p.2.width := by omega
          have e4 : (0 : Int) ≤ (p.1 : Int) + (p.2.width : Int) := by omega
          have e5 : (p.1 : Int) ≤ (p.1 : Int) + (p.2.width : Int) := by omega
          have e6 : p.1 + p.2.width ≤ t.size := by omega
          have e7 : p.1 ≤ p.1 + p.2.width := by omega
          have e8 : (p.1 : Int) ≤ (t.size : Int) := by omega
          go_wp2_with fail
          go_region_held3 (fun wx => Below w3.heap.size w3 wx ∧ wx.cell? ⟨g, o + k * 4, none⟩ = some (.int .i64 p.2.kind) ∧ wx.cell? ⟨g, o + k * 4 + 1, none⟩ = some (.int .i64 p.1) ∧ wx.cell? ⟨g, o + k * 4 + 2, none⟩ = some (.int .i64 p.2.n) ∧
      wx.cell? ⟨g, o + k * 4 + 3, none⟩ = some (.string (bs p.2.text)))
            (first | (exact place_keep cB.out hg2 (Below.refl _ _)) | (exact place_keep cB.out hg2 ((Below.refl _ _).drew)) | (go_split_ands; refine place_keep cB.out hg2 ?_; first | assumption | (refine Below.step ?_ hbx; assumption) | (refine Below.step ?_ hbx; exact (Below.refl _ _).drew)))
            (first | (go_at_call 16; refine (written_tok _ p.2 _ htl).mono ?_; rintro e wy ⟨rfl, hbx⟩) | (go_at_call 15; refine (width_tok _ p.2 _ htl).mono ?_; rintro e wy ⟨rfl, hbx⟩) | (go_at_call 17; refine (gaps_true _ _ hx3 hx2.out).mono ?_; rintro e wy ⟨rfl, rfl⟩))
          go_split_ands
          clear hx1 hne e2 e3 e4 e5 e6 e7 e8 a0 a1 a2 a3
          go_wp2_with fail
          refine (width_tok _ p.2 _ htl).mono ?_
          rintro e w5 ⟨rfl, hb5⟩
          have HZ := hid (HC.out.trans (Below.mono (Below.step (by assumption) hb5) HC.out.size))
          have hen := endAt_succ hp
          have hen2 := hid (show ((p.1 : Int) + (p.2.width : Int)) = (Lx.endAt l (k + 1) : Nat) by rw [hen]; omega)
          clear hen hb5
          go_wp2
          go_roundw
          case rel => exact ⟨k + 1, by omega, by go_num, by rw [hen2.out], HZ.out⟩
          case measure => simp [intOf]; omega
        · obtain rfl : k = l.length := by omega
          have hend : (Lx.endAt l l.length : Int) ≤ (t.size : Int) := by have := hPl.out.last; omega
          have hx3 : (t.extract (Lx.endAt l l.length) t.size).size ≤ maxLen := by rw [ByteArray.size_extract]; unfold maxLen; omega
          have hx2 := hid (show Lx.skip false (t.extract (Lx.endAt l l.length) t.size).data.toList = [] by rw [extract_list, List.take_of_length_le (by simp)]; exact hPl.out.rest)
          go_wp2_with fail
          refine (gaps_true _ _ hx3 hx2.out).mono ?_
          rintro e wy ⟨rfl, rfl⟩
          go_wp2
          go_ret
          exact ⟨rfl, Below.step HB.out hbr⟩

end Go.Proofs.YtlojckkccgpabaaDoor
