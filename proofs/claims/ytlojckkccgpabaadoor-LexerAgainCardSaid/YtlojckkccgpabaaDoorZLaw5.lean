/-
  The statement LexerAgain as the program computes it: true at every text within Go's own bound. Conditions: none but that bound.
-/
import Derived.Test.YtlojckkccgpabaaDoorZLawCalls
namespace Go.Proofs.YtlojckkccgpabaaDoor
open Go.RowKit

set_option maxRecDepth 100000 in
set_option maxHeartbeats 800000 in
theorem law_again (t : ByteArray) (w : World) (hs : t.size ≤ maxLen) : Calls Tryd.prog 5 #[.string t] w (Gives (.bool true) w) := by
  unfold maxLen at hs
  go_enter Tryd.func5, Tryd.ntmps5
  by_cases hlen : (2000 : Int) < t.size
  · go_wp2_with (go_at_call 11; refine (head_true _).mono ?_; rintro e w1 ⟨rfl, hb1⟩)
    go_ret
    exact ⟨rfl, hb1⟩
  · have h5 : t.size ≤ 5000 := by omega
    go_wp2_with (go_at_call 11; refine (head_true _).mono ?_; rintro e w1 ⟨rfl, hb1⟩)
    cases hlu : Lx.lu t.data.toList with
    | error x =>
      obtain ⟨x, y⟩ := x
      refine (lex_fails w1 hlu h5).mono ?_
      rintro e w2 ⟨v, rfl, _, hb2⟩
      have hx : ((x : Int) != 0) = true := by have := (lu_err hlu).1; rw [bne_iff_ne]; omega
      clear hlu
      go_wp2
      go_ret
      exact ⟨rfl, Below.step hb1 hb2⟩
    | ok l =>
      refine (lex_toks w1 hlu h5).mono ?_
      rintro e w2 ⟨v, rfl, hv, hb2⟩
      obtain ⟨m, hm, htk⟩ := Lx.again l (Lx.lu_ok hlu)
      have hal := Lx.allOf_length _ _ _ (Nat.le_refl _) hlu
      have hsz : t.data.toList.length = t.size := by simp
      have hH := hid hm
      have hA : (bs (Lx.allOf l)).size ≤ 5000 := by rw [bs_size]; omega
      have hV := hid hv
      have hT := hid htk
      have hall := hid (all_sl v l w2 hv (by omega))
      clear hlu hm hv htk hal hsz
      go_wp2_with (go_at_call 18; refine (hall.out).mono ?_; rintro e w3 ⟨rfl, hb3⟩)
      refine (lex_toks w3 hH.out hA).mono ?_
      rintro e w4 ⟨v4, rfl, hv4, hb4⟩
      have hal := hid (alike_sl v v4 l m w4 ((hV.out.below hb3).below hb4) hv4 hT.out)
      clear hv4
      go_wp2_with (go_at_call 19; refine (hal.out).mono ?_; rintro e w5 ⟨rfl, hb5⟩)
      go_ret
      exact ⟨rfl, Below.step (Below.step (Below.step (Below.step hb1 hb2) hb3) hb4) hb5⟩

end Go.Proofs.YtlojckkccgpabaaDoor
