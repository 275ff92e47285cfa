/-
  The statement LexerParts as the program computes it: true at every two texts within Go's own bound. Conditions: none but that bound.
-/
import Derived.Test.YtlojckkccgpabaaDoorZLawCalls
namespace Go.Proofs.YtlojckkccgpabaaDoor
open Go.RowKit

theorem TokSl.shape {w : World} {v : Value} {l : List (Nat × Lx.Tk)} (h : TokSl w v l) : ∃ a c, v = .slice a l.length c := by
  obtain ⟨cap, h1, h2, h3⟩ := h
  rcases h3 with ⟨rfl, rfl⟩ | ⟨g, o, rfl, _⟩
  · exact ⟨none, cap, rfl⟩
  · exact ⟨_, cap, rfl⟩

theorem TokRow.take {w : World} {g o : Nat} {l : List (Nat × Lx.Tk)} (h : TokRow w g o l) (k : Nat) : TokRow w g o (l.take k) :=
  ⟨h.1, fun i p hp => h.2 i p (by rw [List.getElem?_take] at hp; split at hp; exact hp; cases hp)⟩
theorem TokRow.drop {w : World} {g o : Nat} {l : List (Nat × Lx.Tk)} (h : TokRow w g o l) (k : Nat) : TokRow w g (o + k * 4) (l.drop k) :=
  ⟨h.1, fun i p hp => by
    rw [List.getElem?_drop] at hp
    have := h.2 _ p hp
    rwa [show o + (k + i) * 4 = o + k * 4 + i * 4 by omega] at this⟩

set_option maxRecDepth 100000 in
set_option maxHeartbeats 800000 in
theorem law_parts (t u : ByteArray) (w : World) (hs : t.size ≤ maxLen) (hu : u.size ≤ maxLen) : Calls Tryd.prog 6 #[.string t, .string u] w (Gives (.bool true) w) := by
  unfold maxLen at hs hu
  go_enter Tryd.func6, Tryd.ntmps6
  by_cases hlen : (1500 : Int) < t.size
  · go_wp2_with (go_at_call 11; refine (head_true _).mono ?_; rintro e w1 ⟨rfl, hb1⟩)
    go_ret
    exact ⟨rfl, hb1⟩
  by_cases hlen2 : (1500 : Int) < u.size
  · go_wp2_with (go_at_call 11; refine (head_true _).mono ?_; rintro e w1 ⟨rfl, hb1⟩)
    go_ret
    exact ⟨rfl, hb1⟩
  have h5 : t.size ≤ 5000 := by omega
  have h6 : u.size ≤ 5000 := by omega
  have hsz : t.data.toList.length = t.size := by simp
  have hl := hid (show (t ++ ⟨#[10]⟩ ++ u).data.toList = t.data.toList ++ 10 :: u.data.toList by rw [app_list, app_list]; simp)
  have h7 : (t ++ ⟨#[10]⟩ ++ u).size ≤ 5000 := by
    rw [ByteArray.size_append, ByteArray.size_append, show (⟨#[10]⟩ : ByteArray).size = 1 from rfl]
    omega
  have hP := Lx.lu_parts t.data.toList u.data.toList
  rw [← hl.out] at hP
  go_wp2_with (go_at_call 11; refine (head_true _).mono ?_; rintro e w1 ⟨rfl, hb1⟩)
  cases hlu : Lx.lu t.data.toList with
  | error x =>
    obtain ⟨x, y⟩ := x
    rw [hlu] at hP
    simp only at hP
    refine (lex_fails w1 hlu h5).mono ?_
    rintro e w2 ⟨v, rfl, _, hb2⟩
    have hx : ((x : Int) != 0) = true := by have := (lu_err hlu).1; rw [bne_iff_ne]; omega
    have hP' := hid hP
    clear hlu hP
    have finB : ∀ b : Bool, True := fun _ => trivial
    go_wp2_with fail
    cases hlu2 : Lx.lu u.data.toList with
    | error x2 =>
      obtain ⟨x2, y2⟩ := x2
      refine (lex_fails w2 hlu2 h6).mono ?_
      rintro e w3 ⟨v3, rfl, _, hb3⟩
      clear hlu2
      go_wp2_with fail
      refine (lex_fails w3 hP'.out h7).mono ?_
      rintro e w4 ⟨v4, rfl, _, hb4⟩
      go_wp2
      go_ret
      exact ⟨rfl, Below.step (Below.step (Below.step hb1 hb2) hb3) hb4⟩
    | ok l2 =>
      refine (lex_toks w2 hlu2 h6).mono ?_
      rintro e w3 ⟨v3, rfl, _, hb3⟩
      clear hlu2
      go_wp2_with fail
      refine (lex_fails w3 hP'.out h7).mono ?_
      rintro e w4 ⟨v4, rfl, _, hb4⟩
      go_wp2
      go_ret
      exact ⟨rfl, Below.step (Below.step (Below.step hb1 hb2) hb3) hb4⟩
  | ok l =>
    rw [hlu] at hP
    simp only at hP
    refine (lex_toks w1 hlu h5).mono ?_
    rintro e w2 ⟨v, rfl, hv, hb2⟩
    have hV := hid hv
    have hPl := hid (Lx.lu_places hlu)
    clear hlu hv
    go_wp2_with fail
    cases hlu2 : Lx.lu u.data.toList with
    | error x2 =>
      obtain ⟨x2, y2⟩ := x2
      rw [hlu2] at hP
      simp only [Lx.shiftR] at hP
      have hP' := hid hP
      have hx : ((x2 : Int) != 0) = true := by have := (lu_err hlu2).1; rw [bne_iff_ne]; omega
      refine (lex_fails w2 hlu2 h6).mono ?_
      rintro e w3 ⟨v3, rfl, _, hb3⟩
      have hy2 : y2 ≤ 5000 := by have := (Lx.beginnings _ _ _ _ (Nat.le_refl _) hlu2).1; simp at this; omega
      have hkk : ((t.size : Int) + 1 + (y2 : Int) == (y2 : Int) + (t.size : Int) + 1) = true := by rw [beq_iff_eq]; omega
      clear hlu2 hP
      go_wp2_with fail
      refine (lex_fails w3 hP'.out h7).mono ?_
      rintro e w4 ⟨v4, rfl, _, hb4⟩
      go_wp2
      go_ret
      exact ⟨rfl, Below.step (Below.step (Below.step hb1 hb2) hb3) hb4⟩
    | ok l2 =>
      rw [hlu2] at hP
      simp only [Lx.shiftR] at hP
      have hP' := hid hP
      refine (lex_toks w2 hlu2 h6).mono ?_
      rintro e w3 ⟨v3, rfl, hv3, hb3⟩
      have hV3 := hid hv3
      have hPl2 := hid (Lx.lu_places hlu2)
      clear hlu2 hP hv3
      go_wp2_with fail
      refine (lex_toks w3 hP'.out h7).mono ?_
      rintro e w4 ⟨v4, rfl, hv4, hb4⟩
      have hA := hid ((hV.out.below hb3).below hb4)
      have hB := hid (hV3.out.below hb4)
      obtain ⟨a1, c1, rfl⟩ := hV.out.shape
      obtain ⟨a3, c3, rfl⟩ := hV3.out.shape
      obtain ⟨cap, m1, m2, m3⟩ := hv4
      rcases m3 with ⟨m3, rfl⟩ | ⟨g, o, rfl, hr⟩
      · obtain ⟨e1, e2⟩ := List.append_eq_nil_iff.1 m3
        have e3 : l2 = [] := by
          have := congrArg List.length e2
          rw [Lx.shift_length] at this
          exact List.length_eq_zero_iff.1 (by simpa using this)
        subst e1
        subst e3
        have HB := hid (Below.step (Below.step (Below.step hb1 hb2) hb3) hb4)
        clear hb1 hb2 hb3 hb4
        go_wp2_with fail
        refine (same_empty _ _ _ _ _ _).mono ?_
        rintro e w5 ⟨rfl, hb5⟩
        go_wp2_with fail
        refine (same_empty _ _ _ _ _ _).mono ?_
        rintro e w6 ⟨rfl, hb6⟩
        go_wp2
        go_ret
        exact ⟨rfl, Below.step (Below.step HB.out hb5) hb6⟩
      · have hle : (l ++ Lx.shift (t.data.toList.length + 1) l2).length = l.length + l2.length := by simp [Lx.shift_length]
        rw [hle] at m1 ⊢
        have hm := m2
        unfold maxLen at m2
        have hr1 := hr.take l.length
        rw [List.take_left' rfl] at hr1
        have hr2 := hr.drop l.length
        rw [List.drop_left' rfl] at hr2
        have T1 := hid (show TokSl w4 (.slice (some ⟨g, o, none⟩) l.length cap) l from ⟨cap, by omega, hm, .inr ⟨g, o, rfl, hr1⟩⟩)
        have S1 := hid (same_sl _ _ l l 0 w4 hA.out T1.out (Lx.shift_zero _).symm (fun i p hp => by have := hPl.out.fits i p hp; omega))
        go_wp2_with fail
        refine (S1.out).mono ?_
        rintro e w5 ⟨rfl, hb5⟩
        have hr5 := hr2.below hb5
        have HB := hid (Below.step (Below.step (Below.step (Below.step hb1 hb2) hb3) hb4) hb5)
        by_cases hcap : l.length = cap
        · have e3 : l2 = [] := List.length_eq_zero_iff.1 (by omega)
          subst e3
          clear hr hr1 hr2 hr5 hb1 hb2 hb3 hb4 hb5
          go_wp2_with fail
          refine (same_empty _ _ _ _ _ _).mono ?_
          rintro e w6 ⟨rfl, hb6⟩
          go_wp2
          go_ret
          exact ⟨rfl, Below.step HB.out hb6⟩
        · have hcap2 : l.length < cap := by omega
          have S2 := hid (same_sl (.slice a3 l2.length c3) (.slice (some ⟨g, o + l.length * 4, none⟩) l2.length (cap - l.length)) l2 (Lx.shift (t.data.toList.length + 1) l2) (t.data.toList.length + 1) w5 (hB.out.below hb5)
            ⟨cap - l.length, by rw [Lx.shift_length]; omega, by unfold maxLen; omega, .inr ⟨g, _, by rw [Lx.shift_length], hr5⟩⟩ rfl (fun i p hp => by have := hPl2.out.fits i p hp; simp at this ⊢; omega))
          rw [show ((t.data.toList.length + 1 : Nat) : Int) = (t.size : Int) + 1 by omega] at S2
          clear hr hr1 hr2 hr5 hb1 hb2 hb3 hb4 hb5 hcap
          go_wp2_with fail
          refine (S2.out).mono ?_
          rintro e w6 ⟨rfl, hb6⟩
          go_wp2
          go_ret
          exact ⟨rfl, Below.step HB.out hb6⟩

end Go.Proofs.YtlojckkccgpabaaDoor
