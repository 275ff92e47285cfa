/-
  The statement LexerMatchesReference as the program computes it: true at every text within Go's own bound. Conditions: none but that bound.
-/
import Derived.Test.YtlojckkccgpabaaDoorZHead
import Derived.Test.YtlojckkccgpabaaDoorZLexMore
namespace Go.Proofs.YtlojckkccgpabaaDoor
open Go.RowKit

set_option maxRecDepth 100000 in
set_option maxHeartbeats 800000 in
theorem law_matches (t : ByteArray) (w : World) (hs : t.size ≤ maxLen) : Calls Tryd.prog 3 #[.string t] w (Gives (.bool true) w) := by
  have hs' := hs
  unfold maxLen at hs
  go_enter Tryd.func3, Tryd.ntmps3
  by_cases hlen : (21000 : Int) < t.size
  · go_wp2_with (go_at_call 11; refine (head_true _).mono ?_; rintro e w1 ⟨rfl, hb1⟩)
    go_ret
    exact ⟨rfl, hb1⟩
  · go_wp2_with (go_at_call 11; refine (head_true _).mono ?_; rintro e w1 ⟨rfl, hb1⟩)
    refine (lex_any t _ hs').mono ?_
    rintro e w2 ⟨v, rfl, ho, hb2⟩
    have ho' := TokSl.of_owns ho
    clear ho
    go_wp2_with fail
    refine (rlex_any t _ hs').mono ?_
    rintro e w3 ⟨v', rfl, hr, hb3⟩
    have hr' := TokSl.of_owns hr
    have HS := hid (same_sl v v' _ _ 0 w3 (ho'.below hb3) hr' (Lx.shift_zero _).symm (fun i p hp => by have := Lx.lex_bound _ i p hp; omega))
    have HB := hid (hb1.trans ((hb2.mono hb1.size).trans (hb3.mono (Nat.le_trans hb1.size hb2.size))))
    have hz := hid (Nat.le_trans hb1.size (Nat.le_trans hb2.size hb3.size))
    clear ho' hr hr' hb1 hb2 hb3
    generalize (Lx.lex t.data.toList).2.1 = x at *
    generalize (Lx.lex t.data.toList).2.2 = y at *
    go_wp2_with (go_at_call 14; refine (HS.out).mono ?_; rintro e w4 ⟨rfl, hb4⟩)
    go_ret
    exact ⟨rfl, HB.out.trans (hb4.mono hz.out)⟩

end Go.Proofs.YtlojckkccgpabaaDoor
