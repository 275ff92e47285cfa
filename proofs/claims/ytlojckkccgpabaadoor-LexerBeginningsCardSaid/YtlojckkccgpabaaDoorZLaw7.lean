/-
  The statement LexerBeginnings as the program computes it: true at every text within Go's own bound. Conditions: none but that bound.
-/
import Derived.Test.YtlojckkccgpabaaDoorZLawCalls
namespace Go.Proofs.YtlojckkccgpabaaDoor
open Go.RowKit

set_option maxRecDepth 100000 in
set_option maxHeartbeats 800000 in
theorem law_beginnings (t : ByteArray) (w : World) (hs : t.size ≤ maxLen) : Calls Tryd.prog 7 #[.string t] w (Gives (.bool true) w) := by
  unfold maxLen at hs
  go_enter Tryd.func7, Tryd.ntmps7
  by_cases hlen : (3000 : Int) < t.size
  · go_wp2_with (go_at_call 11; refine (head_true _).mono ?_; rintro e w1 ⟨rfl, hb1⟩)
    go_ret
    exact ⟨rfl, hb1⟩
  · have h5 : t.size ≤ 5000 := by omega
    have hsz : t.data.toList.length = t.size := by simp
    go_wp2_with (go_at_call 11; refine (head_true _).mono ?_; rintro e w1 ⟨rfl, hb1⟩)
    cases hlu : Lx.lu t.data.toList with
    | error x =>
      obtain ⟨x, y⟩ := x
      refine (lex_fails w1 hlu h5).mono ?_
      rintro e w2 ⟨v, rfl, _, hb2⟩
      have hx0 := (lu_err hlu).1
      have hx : ((x : Int) == 0) = false := by rw [beq_eq_false_iff_ne]; omega
      obtain ⟨b1, ⟨l, b2⟩, b3⟩ := Lx.beginnings _ _ _ _ (Nat.le_refl _) hlu
      have hy : y < t.size := by omega
      have k1 := hid (show Lx.lu (t.extract 0 y).data.toList = .ok l by rw [extract_list]; simpa using b2)
      have k2 := hid (show Lx.lu (t.extract y t.size).data.toList = .error (x, 0) by rw [extract_list, List.take_of_length_le (by simp)]; exact b3)
      have z1 : (t.extract 0 y).size ≤ 5000 := by rw [ByteArray.size_extract]; omega
      have z2 : (t.extract y t.size).size ≤ 5000 := by rw [ByteArray.size_extract]; omega
      clear hlu b1 b2 b3 hx0
      go_wp2_with fail
      refine (lex_toks w2 k1.out z1).mono ?_
      rintro e w3 ⟨v3, rfl, _, hb3⟩
      go_wp2_with fail
      refine (lex_fails w3 k2.out z2).mono ?_
      rintro e w4 ⟨v4, rfl, _, hb4⟩
      go_wp2
      go_ret
      exact ⟨rfl, Below.step (Below.step (Below.step hb1 hb2) hb3) hb4⟩
    | ok l =>
      refine (lex_toks w1 hlu h5).mono ?_
      rintro e w2 ⟨v, rfl, hv, hb2⟩
      clear hlu hv
      go_wp2
      go_ret
      exact ⟨rfl, Below.step hb1 hb2⟩

end Go.Proofs.YtlojckkccgpabaaDoor
