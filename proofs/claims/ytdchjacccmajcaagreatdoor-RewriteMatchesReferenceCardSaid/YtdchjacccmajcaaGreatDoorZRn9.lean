/-
  Words of whatever length: letters; the parts of a word at its ends. Conditions: the library's tables.
-/
import Derived.Test.YtdchjacccmajcaaGreatDoorZRn8
import Derived.Test.YtdchjacccmajcaaGreatDoorZScrB
namespace Sc
theorem among_take {s : List UInt8} {i m : Nat} {set : List UInt8} (h : i < m) : among (s.take m) i set = among s i set := by
  unfold among
  rw [List.getElem?_take_of_lt h]
theorem among_out {s : List UInt8} {i m : Nat} {set : List UInt8} (h : m ≤ i) : among (s.take m) i set = false := by
  unfold among
  rw [List.getElem?_eq_none (by rw [List.length_take]; omega)]
/-- a letter of a text is one of its beginning -/
theorem len_take {k : Int} {s : List UInt8} {m : Nat} (h0 : len k s ≠ 0) (hm : len k s ≤ m) : len k (s.take m) = len k s := by
  have h1 : 0 < m := by omega
  have e0 : ∀ set, among (s.take m) 0 set = among s 0 set := fun set => among_take h1
  have e0' : ∀ set, among ((s.take m).map low) 0 set = among (s.map low) 0 set := fun set => by rw [List.map_take, among_take h1]
  by_cases h2 : 1 < m
  · have e1 : ∀ set, among (s.take m) 1 set = among s 1 set := fun set => among_take h2
    unfold len
    simp only [e0, e0', e1]
  · have e1 : ∀ set, among (s.take m) 1 set = false := fun set => among_out (by omega)
    have hle : len k s = 1 := by omega
    unfold len at hle ⊢
    simp only [e0, e0', e1, Bool.and_false]
    by_cases k1 : k = 1
    · rw [if_pos k1] at hle ⊢; rw [if_pos k1]
    · rw [if_neg k1] at hle ⊢; rw [if_neg k1]
      by_cases k2 : k = 2
      · rw [if_pos k2] at hle ⊢; rw [if_pos k2]
        split at hle
        · rename_i h
          rw [if_pos h, if_pos h]
          split at hle
          · omega
          · rename_i h'
            rw [if_neg h']
            rfl
        · omega
      · rw [if_neg k2] at hle ⊢; rw [if_neg k2]
        by_cases k3 : k = 3
        · rw [if_pos k3] at hle ⊢; rw [if_pos k3]
        · rw [if_neg k3] at hle ⊢; rw [if_neg k3]
          by_cases k4 : k = 4
          · rw [if_pos k4] at hle ⊢; rw [if_pos k4]
            split at hle
            · omega
            · rename_i h
              rw [if_neg h]
              rfl
          · rw [if_neg k4] at hle; omega
theorem cuts_take (k : Int) : ∀ (n : Nat) (s : List UInt8), s.length ≤ n → ∀ m, cuts k ((cuts k s).1.take m).flatten = ((cuts k s).1.take m, [])
  | 0, s, h, m => by
    have : s = [] := List.length_eq_zero_iff.1 (by omega)
    subst this
    have h0 : len k [] = 0 := by have := len_le k []; simpa using this
    rw [cuts_stop h0]
    simp only [List.take_nil, List.flatten_nil]
    rw [cuts_stop h0]
  | n + 1, s, h, m => by
    by_cases h0 : len k s = 0
    · rw [cuts_stop h0]
      simp only [List.take_nil, List.flatten_nil]
      exact cuts_stop (by have := len_le k []; simpa using this)
    · cases m with
      | zero =>
        simp only [List.take_zero, List.flatten_nil]
        exact cuts_stop (by have := len_le k []; simpa using this)
      | succ m =>
        have ih := cuts_take k n (s.drop (len k s)) (by rw [List.length_drop]; omega) m
        have hj := cuts_join k _ (s.drop (len k s)) (Nat.le_refl _)
        rw [cuts_step h0]
        simp only [List.take_succ_cons, List.flatten_cons]
        obtain ⟨T, hT⟩ : ∃ T, T = ((cuts k (s.drop (len k s))).1.take m).flatten := ⟨_, rfl⟩
        rw [← hT] at ih ⊢
        have hle := len_le k s
        -- the text is a beginning of s
        have hpre : s.take (len k s) ++ T = s.take (len k s + T.length) := by
          rw [List.take_add]
          congr 1
          have hp : T ++ ((cuts k (s.drop (len k s))).1.drop m).flatten ++ (cuts k (s.drop (len k s))).2 = s.drop (len k s) := by
            rw [hT, ← List.flatten_append, List.take_append_drop]; exact hj
          rw [← hp, List.append_assoc, List.take_left]
        have hl : len k (s.take (len k s) ++ T) = len k s := by rw [hpre]; exact len_take h0 (by omega)
        rw [cuts_step (by rw [hl]; exact h0), hl]
        have h1 : (s.take (len k s) ++ T).take (len k s) = s.take (len k s) := by
          rw [List.take_append_of_le_length (by rw [List.length_take]; omega), List.take_take, Nat.min_self]
        have h2 : (s.take (len k s) ++ T).drop (len k s) = T := by
          rw [List.drop_append_of_le_length (by rw [List.length_take]; omega), List.drop_take, Nat.sub_self, List.take_zero, List.nil_append]
        rw [h1, h2, ih]
theorem lets_first {k : Int} {s : List UInt8} {l : List (List UInt8)} (h : lets k s = some l) {m : Nat} (hm : 0 < m) : lets k (l.take m).flatten = some (l.take m) := by
  have hne := lets_len h
  have hl : (cuts k s).1 = l := by
    unfold lets at h
    split at h
    · exact Option.some.inj h
    · cases h
  have hc := cuts_take k _ s (Nat.le_refl _) m
  rw [hl] at hc
  unfold lets
  rw [hc, if_pos]
  refine ⟨rfl, ?_, by show (l.take m).length ≤ 12; rw [List.length_take]; omega⟩
  intro e
  have := congrArg List.length e
  have h0 := List.length_pos_iff.2 hne.1
  simp only [List.length_take, List.length_nil] at this
  omega
end Sc
namespace Rw
theorem endsFrom_at (k : Int) (L : List (List UInt8)) {l : List Drop} {n : Nat} {d : Drop} {x : Vr} (h : l[n]? = some d) (hx : endOf k L n d = some x) : (endsFrom k L 0 l)[(endsFrom k L 0 (l.take n)).length]? = some x := by
  have hk := (List.getElem?_eq_some_iff.1 h).1
  have h1 : endsFrom k L 0 l = endsFrom k L 0 (l.take (n + 1)) ++ endsFrom k L (0 + (l.take (n + 1)).length) (l.drop (n + 1)) := by rw [← endsFrom_append, List.take_append_drop]
  rw [h1, endsFrom_step k L h, hx, List.append_assoc, List.getElem?_append_right (Nat.le_refl _), Nat.sub_self]
  rfl
end Rw
namespace Go.Proofs.YtdchjacccmajcaaGreatDoor
open Go.RowKit Go.Lib Go.Maps

theorem fold_big (k : Int) (s : ByteArray) (w : World) (hs : s.size ≤ maxLen) (hT : Tabs w) : Calls Tryz.prog 20 #[.int .i64 k, .string s] w (FoldPost k s.data.toList w) := Big.fold_any k s w (by unfold maxLen at hs; exact hs) hT
theorem letters_big (k : Int) (s : ByteArray) (w : World) (hs : s.size ≤ maxLen) (hT : Tabs w) : Calls Tryz.prog 24 #[.int .i64 k, .string s] w (LettersPost k s.data.toList w) := Big.letters_any k s w (by unfold maxLen at hs; exact hs) hT

set_option maxRecDepth 100000 in
set_option maxHeartbeats 2000000 in
theorem letters10_big (k : Int) (s : ByteArray) (w : World) (hs : s.size ≤ maxLen) (hT : Tabs w) : Calls Tryz.prog 13 #[.int .i64 k, .string s] w (Let10 k s.data.toList w) := by
  have HFO := hid (fold_big k s w hs hT)
  have HTT := hid hT
  cases hl : Sc.lets k s.data.toList with
  | none =>
    have HE := hid (Fo.letters_none hl)
    have HL := hid hl
    clear hl hT
    go_enter Tryz.func13, Tryz.ntmps13
    go_wp2_with fail
    refine (HFO.out).mono ?_
    rintro e W2 ⟨he, hb2⟩
    rw [HL.out] at he
    subst he
    have HB := hid hb2
    clear hb2
    go_wp2_with fail
    go_ret
    exact ⟨_, rfl, by rw [HE.out]; exact World.ownsRow_nil _ _ _ _, HB.out⟩
  | some ls =>
    exact letters10_any k s w (by have := Sc.lets_24 hl; have h2 : s.size ≤ 24 := by simpa using this
                                  omega) hT

end Go.Proofs.YtdchjacccmajcaaGreatDoor
