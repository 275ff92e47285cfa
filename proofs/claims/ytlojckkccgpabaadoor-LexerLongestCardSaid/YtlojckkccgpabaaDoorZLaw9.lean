/-
  The statement LexerLongest as the program computes it: true at every text within Go's own bound. Conditions: none but that bound.
-/
import Derived.Test.YtlojckkccgpabaaDoorZLawCalls
import Derived.Deep.RegionHeld3
import Derived.IntWalk
namespace Go.Proofs.YtlojckkccgpabaaDoor
open Go.RowKit

/-- what the next statement loads -/
theorem long_keep2 {wr w' : World} {g o k : Nat} {p q : Nat × Lx.Tk} (ha : TokCell wr g (o + k * 4) p) (hb : TokCell wr g (o + (k + 1) * 4) q) (hg : g < wr.heap.size) (h : Below wr.heap.size wr w') :
    Below wr.heap.size wr w' ∧ w'.cell? ⟨g, o + k * 4, none⟩ = some (.int .i64 p.2.kind) ∧ w'.cell? ⟨g, o + k * 4 + 1, none⟩ = some (.int .i64 p.1) ∧ w'.cell? ⟨g, o + k * 4 + 2, none⟩ = some (.int .i64 p.2.n) ∧
      w'.cell? ⟨g, o + k * 4 + 3, none⟩ = some (.string (bs p.2.text)) ∧ w'.cell? ⟨g, o + (k + 1) * 4, none⟩ = some (.int .i64 q.2.kind) ∧ w'.cell? ⟨g, o + (k + 1) * 4 + 1, none⟩ = some (.int .i64 q.1) ∧ w'.cell? ⟨g, o + (k + 1) * 4 + 2, none⟩ = some (.int .i64 q.2.n) ∧
      w'.cell? ⟨g, o + (k + 1) * 4 + 3, none⟩ = some (.string (bs q.2.text)) :=
  ⟨h, (ha.below h hg).c0, (ha.below h hg).c1, (ha.below h hg).c2, (ha.below h hg).c3, (hb.below h hg).c0, (hb.below h hg).c1, (hb.below h hg).c2, (hb.below h hg).c3⟩

/-- what Lex returns of the bytes of two tokens that touch: no single token -/
def NotOne (w : World) (e : Ending) (w' : World) : Prop :=
  ∃ (a : Option Addr) (n cap x : Nat) (y : Int), e = .returned (.tuple #[.slice a n cap, .int .i64 x, .int .i64 y]) ∧ Below w.heap.size w w' ∧ (((x : Int) == 0) = false ∨ x = 0 ∧ ((n : Int) == 1) = false)

theorem lex_two {s : List UInt8} {l : List (Nat × Lx.Tk)} (h : Lx.lu s = .ok l) {i : Nat} {p q : Nat × Lx.Tk} (hp : l[i]? = some p) (hq : l[i + 1]? = some q) (he : p.1 + p.2.width = q.1)
    (hz : p.2.width + q.2.width ≤ 5000) (w : World) : Calls Tryd.prog 12 #[.string (bs p.2.written ++ bs q.2.written)] w (NotOne w) := by
  have hs : (bs p.2.written ++ bs q.2.written).size ≤ 5000 := by rw [ByteArray.size_append, bs_size, bs_size, Lx.written_length, Lx.written_length]; exact hz
  have hl : (bs p.2.written ++ bs q.2.written).data.toList = p.2.written ++ q.2.written := by rw [app_list]; rfl
  cases hm : Lx.lu (p.2.written ++ q.2.written) with
  | error x =>
    obtain ⟨x, y⟩ := x
    refine (lex_fails (t := bs p.2.written ++ bs q.2.written) w (by rw [hl]; exact hm) hs).mono ?_
    rintro e w' ⟨v, rfl, hv, hb⟩
    obtain ⟨cap, _, _, h3⟩ := hv
    have hx := (lu_err hm).1
    rcases h3 with ⟨_, rfl⟩ | ⟨g, o, rfl, _⟩
    · exact ⟨_, _, _, x, _, rfl, hb, .inl (by rw [beq_eq_false_iff_ne]; omega)⟩
    · exact ⟨_, _, _, x, _, rfl, hb, .inl (by rw [beq_eq_false_iff_ne]; omega)⟩
  | ok m =>
    refine (lex_toks (t := bs p.2.written ++ bs q.2.written) w (by rw [hl]; exact hm) hs).mono ?_
    rintro e w' ⟨v, rfl, hv, hb⟩
    obtain ⟨cap, _, _, h3⟩ := hv
    have hx := Lx.longest h hp hq he hm
    rcases h3 with ⟨rfl, rfl⟩ | ⟨g, o, rfl, _⟩
    · exact ⟨_, _, _, 0, _, rfl, hb, .inr ⟨rfl, rfl⟩⟩
    · exact ⟨_, _, _, 0, _, rfl, hb, .inr ⟨rfl, by rw [beq_eq_false_iff_ne]; omega⟩⟩

theorem text_le (t : Lx.Tk) : t.text.length ≤ t.width := by unfold Lx.Tk.width; split <;> omega

/-- what the round's statement loads, in any later world -/
theorem long_keep {wr w' : World} {g o k : Nat} {p q : Nat × Lx.Tk} (ha : TokCell wr g (o + k * 4) p) (hb : TokCell wr g (o + (k + 1) * 4) q) (hg : g < wr.heap.size) (h : Below wr.heap.size wr w') :
    Below wr.heap.size wr w' ∧ w'.cell? ⟨g, o + k * 4, none⟩ = some (.int .i64 p.2.kind) ∧ w'.cell? ⟨g, o + k * 4 + 1, none⟩ = some (.int .i64 p.1) ∧ w'.cell? ⟨g, o + k * 4 + 2, none⟩ = some (.int .i64 p.2.n) ∧
      w'.cell? ⟨g, o + k * 4 + 3, none⟩ = some (.string (bs p.2.text)) ∧ w'.cell? ⟨g, o + (k + 1) * 4 + 1, none⟩ = some (.int .i64 q.1) :=
  ⟨h, (ha.below h hg).c0, (ha.below h hg).c1, (ha.below h hg).c2, (ha.below h hg).c3, (hb.below h hg).c1⟩

set_option maxRecDepth 100000 in
set_option maxHeartbeats 1600000 in
theorem law_longest (t : ByteArray) (w : World) (hs : t.size ≤ maxLen) : Calls Tryd.prog 9 #[.string t] w (Gives (.bool true) w) := by
  unfold maxLen at hs
  go_enter Tryd.func9, Tryd.ntmps9
  by_cases hlen : (3000 : Int) < t.size
  · go_wp2_with (go_at_call 11; refine (head_true _).mono ?_; rintro e w1 ⟨rfl, hb1⟩)
    go_ret
    exact ⟨rfl, hb1⟩
  · have h5 : t.size ≤ 5000 := by omega
    have hsz : t.data.toList.length = t.size := by simp
    go_wp2_with (go_at_call 11; refine (head_true _).mono ?_; rintro e w1 ⟨rfl, hb1⟩)
    cases hlu : Lx.lu t.data.toList with
    | error x =>
      obtain ⟨x, y⟩ := x
      refine (lex_fails w1 hlu h5).mono ?_
      rintro e w2 ⟨v, rfl, hv, hb2⟩
      have hx0 := (lu_err hlu).1
      have hx : ((x : Int) == 0) = false := by rw [beq_eq_false_iff_ne]; omega
      obtain ⟨cap, m1, m2, m3⟩ := hv
      obtain ⟨a, rfl⟩ : ∃ a, v = .slice a 0 cap := by
        rcases m3 with ⟨_, rfl⟩ | ⟨g, o, rfl, _⟩
        · exact ⟨_, rfl⟩
        · exact ⟨_, rfl⟩
      clear hlu m3
      go_wp2
      refine wp_loop_once ?_
      go_wp2
      go_ret
      exact ⟨rfl, Below.step hb1 hb2⟩
    | ok l =>
      refine (lex_toks w1 hlu h5).mono ?_
      rintro e w2 ⟨v, rfl, hv, hb2⟩
      have hV := hid hv
      have hL := hid hlu
      have HB := hid (Below.step hb1 hb2)
      obtain ⟨cap, m1, m2, m3⟩ := hv
      unfold maxLen at m2
      rcases m3 with ⟨rfl, rfl⟩ | ⟨g, o, rfl, hr⟩
      · clear hlu hb1 hb2
        go_wp2
        refine wp_loop_once ?_
        go_wp2
        go_ret
        exact ⟨rfl, HB.out⟩
      · have hR := hid hr
        have hPl := hid (Lx.lu_places hlu)
        clear hlu hr hb1 hb2 hV
        go_wp2
        go_loopw [7] (fun i wr => ∃ k : Nat, i = .int .i64 (k + 1 : Nat) ∧ (k = 0 ∨ k + 1 ≤ l.length) ∧ Below w2.heap.size w2 wr) (fun i _ => l.length - (intOf i).toNat)
        case atStart => exact ⟨0, rfl, .inl rfl, Below.refl _ _⟩
        case round =>
          obtain ⟨k, rfl, hk, hbr⟩ := hrel
          rw [show ((k + 1 : Nat) : Int) = (k : Int) + 1 by omega]
          by_cases hlt : k + 1 < l.length
          · obtain ⟨p, hp⟩ : ∃ p, l[k]? = some p := ⟨_, List.getElem?_eq_getElem (by omega)⟩
            obtain ⟨q, hq⟩ : ∃ q, l[k + 1]? = some q := ⟨_, List.getElem?_eq_getElem hlt⟩
            obtain ⟨a0, a1, a2, a3⟩ := (hR.out.below hbr).2 k p hp
            obtain ⟨b0, b1, b2, b3⟩ := (hR.out.below hbr).2 (k + 1) q hq
            have hg1 := (hR.out.below hbr).1
            have hk0 : (0 : Int) ≤ (k : Int) := by omega
            have hk1 : (k : Int) + 1 < (l.length : Int) := by omega
            have hf1 := hPl.out.fits k p hp
            have hf2 := hPl.out.fits (k + 1) q hq
            clear hk
            have htl : p.2.text.length + 2 ≤ maxLen := by have := text_le p.2; unfold maxLen; omega
            have hw1 : p.2.width ≤ 5000 := by omega
            have hw2 : p.1 ≤ 5000 := by omega
            have cA := hid ((hR.out.below hbr).2 k p hp)
            have cB := hid ((hR.out.below hbr).2 (k + 1) q hq)
            have hz3 : p.2.width + q.2.width ≤ 5000 ∨ p.1 + p.2.width ≠ q.1 := by omega
            have hql : q.2.text.length + 2 ≤ maxLen := by have := text_le q.2; unfold maxLen; omega
            have hLX := hid (fun he hz => lex_two hL.out hp hq he hz)
            clear hp hq hf1 hf2 a0 a1 a2 a3 b0 b1 b2 b3
            have hk2 : (k : Int) < (l.length : Int) := by omega
            have hk3 : (0 : Int) ≤ (k : Int) + 1 := by omega
            have e1 : IntKind.i64.wrap (k : Int) = (k : Int) := IntWalk.i64_in _ (by omega)
            have e2 : IntKind.i64.wrap ((p.1 : Int) + (p.2.width : Int)) = (p.1 : Int) + (p.2.width : Int) := IntWalk.i64_in _ (by omega)
            have e3 : ((k : Int) + 1).toNat = k + 1 := by omega
            go_wp2_with fail
            go_region_held3 (fun w' => Below wr.heap.size wr w' ∧ w'.cell? ⟨g, o + k * 4, none⟩ = some (.int .i64 p.2.kind) ∧ w'.cell? ⟨g, o + k * 4 + 1, none⟩ = some (.int .i64 p.1) ∧ w'.cell? ⟨g, o + k * 4 + 2, none⟩ = some (.int .i64 p.2.n) ∧
      w'.cell? ⟨g, o + k * 4 + 3, none⟩ = some (.string (bs p.2.text)) ∧ w'.cell? ⟨g, o + (k + 1) * 4 + 1, none⟩ = some (.int .i64 q.1))
              (first | (exact long_keep cA.out cB.out hg1 (Below.refl _ _)) | (exact long_keep cA.out cB.out hg1 ((Below.refl _ _).drew)) | (go_split_ands; refine long_keep cA.out cB.out hg1 ?_; first | assumption | (refine Below.step ?_ hbx; assumption) | (refine Below.step ?_ hbx; exact (Below.refl _ _).drew)))
              (first | (go_at_call 15; refine (width_tok _ p.2 _ htl).mono ?_; rintro e w' ⟨rfl, hbx⟩))
            have hbw : Below wr.heap.size wr w' := ((Below.refl _ wr).drew).trans (hbx.mono (Nat.le_refl _))
            have HW := hid (hbr.trans (hbw.mono hbr.size))
            by_cases hne : p.1 + p.2.width = q.1
            · have hne' : (((p.1 : Int) + (p.2.width : Int)) != (q.1 : Int)) = false := by rw [bne_eq_false_iff_eq]; omega
              have HN := hid hne
              have hLX2 := hid (hLX.out hne (by omega))
              have cA2 := hid (cA.out.below hbw hg1)
              have cB2 := hid (cB.out.below hbw hg1)
              have hg2 : g < w'.heap.size := Nat.lt_of_lt_of_le hg1 hbw.size
              have sz1 : (bs p.2.written).size ≤ 5000 := by rw [bs_size, Lx.written_length]; omega
              have sz2 : (bs q.2.written).size ≤ 5000 := by rw [bs_size, Lx.written_length]; omega
              have sz3 : ¬ 9223372036854775807 < (bs p.2.written).size + (bs q.2.written).size := by omega
              clear e2 hne hbx hbw hz3
              go_wp2_with fail
              go_region_held3 (fun wx => Below w'.heap.size w' wx ∧ wx.cell? ⟨g, o + k * 4, none⟩ = some (.int .i64 p.2.kind) ∧ wx.cell? ⟨g, o + k * 4 + 1, none⟩ = some (.int .i64 p.1) ∧ wx.cell? ⟨g, o + k * 4 + 2, none⟩ = some (.int .i64 p.2.n) ∧
      wx.cell? ⟨g, o + k * 4 + 3, none⟩ = some (.string (bs p.2.text)) ∧ wx.cell? ⟨g, o + (k + 1) * 4, none⟩ = some (.int .i64 q.2.kind) ∧ wx.cell? ⟨g, o + (k + 1) * 4 + 1, none⟩ = some (.int .i64 q.1) ∧ wx.cell? ⟨g, o + (k + 1) * 4 + 2, none⟩ = some (.int .i64 q.2.n) ∧
      wx.cell? ⟨g, o + (k + 1) * 4 + 3, none⟩ = some (.string (bs q.2.text)))
                (first | (exact long_keep2 cA2.out cB2.out hg2 (Below.refl _ _)) | (exact long_keep2 cA2.out cB2.out hg2 ((Below.refl _ _).drew)) | (go_split_ands; refine long_keep2 cA2.out cB2.out hg2 ?_; first | assumption | (refine Below.step ?_ hbx; assumption) | (refine Below.step ?_ hbx; exact (Below.refl _ _).drew)))
                (first | (go_at_call 16; refine (written_tok _ _ _ ?_).mono ?_; (first | exact htl | exact hql); rintro e wy ⟨rfl, hbx⟩) | (go_at_call 12; refine (hLX2.out _).mono ?_; rintro e wy ⟨a, n, cap2, x, y, rfl, hbx, hno⟩))
              go_split_ands
              have hbz : Below w'.heap.size w' wy := by assumption
              have HZ := hid (HW.out.trans (hbz.mono HW.out.size))
              clear hbz hbx e1 e3
              rcases hno with hx | ⟨rfl, hn⟩
              · go_wp2
                go_roundw
                case rel => exact ⟨k + 1, by go_num, .inr (by omega), HZ.out⟩
                case measure => simp [intOf]; omega
              · go_wp2
                go_roundw
                case rel => exact ⟨k + 1, by go_num, .inr (by omega), HZ.out⟩
                case measure => simp [intOf]; omega
            · have hne' : (((p.1 : Int) + (p.2.width : Int)) != (q.1 : Int)) = true := by rw [bne_iff_ne]; omega
              clear e1 e2 e3 hne hbx hbw
              go_wp2
              go_roundw
              case rel => exact ⟨k + 1, by go_num, .inr (by omega), HW.out⟩
              case measure => simp [intOf]; omega
          · have hk1 : ¬ (k : Int) + 1 < (l.length : Int) := by omega
            go_wp2
            go_ret
            exact ⟨rfl, Below.step HB.out hbr⟩

end Go.Proofs.YtlojckkccgpabaaDoor
