/-
  ledger.identifier: which texts are names. Conditions: lengths.
-/
import Derived.Test.YtfkcphflcmpenaaDoorZLedA
import Derived.Test.YtfkcphflcmpenaaDoorZTok
import Derived.Test.YtfkcphflcmpenaaDoorZLexF
namespace Go.Proofs.YtfkcphflcmpenaaDoor
open Go.RowKit Go.Lib Go.Maps

set_option maxRecDepth 100000 in
set_option maxHeartbeats 2000000 in
theorem ident_any (t : ByteArray) (w : World) (hs : t.size ≤ 5000) : Calls Tryd.prog 28 #[.string t] w (Gives (.bool (Lg.nm t)) w) := by
  have HN := Lg.ident_nm hs
  unfold Lg.identP at HN
  have hm : t.size ≤ maxLen := by unfold maxLen; omega
  have HL := hid (lex_any t w hm)
  clear hs hm
  go_enter Tryd.func28, Tryd.ntmps28
  go_wp2_with fail
  refine (HL.out).mono ?_
  rintro e w1 ⟨v, rfl, ho, hb⟩
  have HT := TokSl.of_owns ho
  have HB := hid hb
  clear ho hb HL
  generalize Lx.lex t.data.toList = r at HN HT ⊢
  obtain ⟨l, x, y⟩ := r
  simp only at HN HT ⊢
  obtain ⟨cap, k1, k2, HT⟩ := HT
  by_cases hx : x = 0
  · subst hx
    rcases l with _ | ⟨p, _ | ⟨q, l⟩⟩
    · have hn := hid (show Lg.nm t = false by rw [Bool.eq_false_iff]; intro h; have := HN.2 h; simp at this)
      clear HN
      obtain ⟨a, hv⟩ : ∃ a, v = .slice a 0 cap := by
        rcases HT with ⟨_, rfl⟩ | ⟨g, o, rfl, _⟩
        · exact ⟨_, rfl⟩
        · exact ⟨_, rfl⟩
      subst hv
      clear HT k1 k2
      go_wp2
      go_ret
      exact ⟨ret_bool hn.out.symm, HB.out⟩
    · rcases HT with ⟨h, _⟩ | ⟨g, o, rfl, hr⟩
      · cases h
      · obtain ⟨c0, c1, c2, c3⟩ := hr.2 0 p rfl
        rw [Nat.zero_mul, Nat.add_zero] at c0 c1 c2 c3
        have hg := hr.1
        clear hr c1 c2
        by_cases hk : p.2.kind = 1
        · rw [hk] at c0
          have hl := list_beq (bs p.2.text) t
          cases hd : decide (bs p.2.text = t) with
          | true =>
            rw [hd] at hl
            have hn := hid (show Lg.nm t = true from HN.1 ⟨rfl, p.1, p.2.n, by
              obtain ⟨o, k, n, x⟩ := p
              simp only at hk hd
              subst hk
              rw [decide_eq_true_eq] at hd
              rw [← hd]
              rfl⟩)
            clear HN hd hk
            simp only [List.length_cons, List.length_nil] at k1 ⊢
            go_wp2
            go_ret
            exact ⟨ret_bool hn.out.symm, HB.out⟩
          | false =>
            rw [hd] at hl
            have hn := hid (show Lg.nm t = false by
              rw [Bool.eq_false_iff]; intro h
              obtain ⟨_, o, n, e⟩ := HN.2 h
              simp only [List.cons.injEq, and_true] at e
              rw [e] at hd
              simp only [decide_eq_false_iff_not] at hd
              exact hd rfl)
            clear HN hd hk
            simp only [List.length_cons, List.length_nil] at k1 ⊢
            go_wp2
            go_ret
            exact ⟨ret_bool hn.out.symm, HB.out⟩
        · have hk' : ((p.2.kind : Int) == 1) = false := by rw [beq_eq_false_iff_ne]; omega
          have hn := hid (show Lg.nm t = false by
            rw [Bool.eq_false_iff]; intro h
            obtain ⟨_, o, n, e⟩ := HN.2 h
            simp only [List.cons.injEq, and_true] at e
            rw [e] at hk
            exact hk rfl)
          clear HN hk
          simp only [List.length_cons, List.length_nil] at k1 ⊢
          go_wp2
          go_ret
          exact ⟨ret_bool hn.out.symm, HB.out⟩
    · have hn := hid (show Lg.nm t = false by rw [Bool.eq_false_iff]; intro h; obtain ⟨_, o, n, e⟩ := HN.2 h; simp at e)
      clear HN
      obtain ⟨n, hn2, e⟩ : ∃ n : Nat, 2 ≤ n ∧ (p :: q :: l).length = n := ⟨_, by simp, rfl⟩
      rw [e] at HT k1
      obtain ⟨a, hv⟩ : ∃ a, v = .slice a n cap := by
        rcases HT with ⟨h, rfl⟩ | ⟨g, o, rfl, _⟩
        · cases h
        · exact ⟨_, rfl⟩
      subst hv
      clear HT k1 k2 e
      have hne : ((n : Int) == 1) = false := by rw [beq_eq_false_iff_ne]; omega
      go_wp2
      go_ret
      exact ⟨ret_bool hn.out.symm, HB.out⟩
  · have hn := hid (show Lg.nm t = false by rw [Bool.eq_false_iff]; intro h; exact hx (HN.2 h).1)
    have hx' : (x == 0) = false := by rw [beq_eq_false_iff_ne]; exact hx
    clear HN HT hx
    go_wp2
    go_ret
    exact ⟨ret_bool hn.out.symm, HB.out⟩

end Go.Proofs.YtfkcphflcmpenaaDoor
