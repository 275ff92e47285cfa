/-
  More plain laws of the lexer on lists of bytes: offsets lie in the text. NO PROGRAM IN THIS TEXT.
-/
import Derived.Test.YtdchjacccmajcaaGreatDoorZLexLaws
namespace Lx

theorem lexN_bound : ∀ (f cnt : Nat) (s : List UInt8) (l : List (Nat × Tk)), lexN f cnt s = .ok l → ∀ p ∈ l, p.1 ≤ s.length
  | 0, cnt, s, l, h, p, hp => by simp [lexN] at h; subst h; simp at hp
  | f + 1, cnt, s, l, h, p, hp => by
    rw [lexN] at h
    split at h
    · simp at h; subst h; simp at hp
    · rename_i c r hs
      split at h
      · simp at h
      · rename_i t ht
        split at h
        · simp at h
        · have hlen := skip_cons_len hs
          have hw := next_width ht
          cases hr : lexN f (cnt + 1) ((c :: r).drop t.width) with
          | error e => rw [hr] at h; simp [shiftR] at h
          | ok m =>
            rw [hr] at h
            simp only [shiftR, Except.ok.injEq] at h
            subst h
            simp only [List.cons_append, List.nil_append, List.mem_cons, shift, List.mem_map] at hp
            rcases hp with rfl | ⟨q, hq, rfl⟩
            · simp
            · have := lexN_bound f (cnt + 1) _ m hr q hq
              simp at this ⊢
              omega

/-- the offsets of the tokens of a text lie in it -/
theorem lex_bound (s : List UInt8) (i : Nat) (p : Nat × Tk) (h : (lex s).1[i]? = some p) : p.1 ≤ 20000 := by
  unfold lex at h
  split at h
  · simp at h
  · rename_i h20
    cases hx : lx 0 s with
    | error e => rw [hx] at h; simp at h
    | ok l =>
      rw [hx] at h
      have := lexN_bound _ _ _ _ hx p (List.mem_of_getElem? h)
      omega

theorem value_snoc' (d : List UInt8) (c : UInt8) : value (d ++ [c]) = 10 * value d + (c.toNat - 48) := by
  simp [value]

/-- the digits of a number -/
def dec (n : Nat) : List UInt8 := if n < 10 then [UInt8.ofNat (48 + n)] else dec (n / 10) ++ [UInt8.ofNat (48 + n % 10)]
termination_by n

theorem dec_small {n : Nat} (h : n < 10) : dec n = [UInt8.ofNat (48 + n)] := by rw [dec, if_pos h]
theorem dec_big {n : Nat} (h : ¬ n < 10) : dec n = dec (n / 10) ++ dec (n % 10) := by
  rw [dec, if_neg h, dec_small (by omega : n % 10 < 10)]

theorem digit_of {k : Nat} (h : k < 10) : isDigit (UInt8.ofNat (48 + k)) = true ∧ (UInt8.ofNat (48 + k)).toNat = 48 + k := by
  have e : (UInt8.ofNat (48 + k)).toNat = 48 + k := by simp; omega
  refine ⟨?_, e⟩
  simp only [isDigit, Bool.and_eq_true, decide_eq_true_eq, UInt8.le_iff_toNat_le]
  rw [e]
  exact ⟨by show 48 ≤ _; omega, by show _ ≤ 57; omega⟩

theorem dec_facts (n : Nat) : (dec n).all isDigit = true ∧ dec n ≠ [] ∧ value (dec n) = n ∧ ∀ k, 0 < k → n < 10 ^ k → (dec n).length ≤ k := by
  induction n using Nat.strongRecOn with
  | _ n ih =>
    by_cases h : n < 10
    · rw [dec_small h]
      obtain ⟨h1, h2⟩ := digit_of h
      refine ⟨by rw [List.all_cons, h1]; rfl, List.cons_ne_nil _ _, ?_, fun k hk _ => hk⟩
      simp only [value, List.foldl_cons, List.foldl_nil]
      rw [h2]; omega
    · obtain ⟨i1, i2, i3, i4⟩ := ih (n / 10) (by omega)
      obtain ⟨h1, h2⟩ := digit_of (k := n % 10) (by omega)
      rw [dec, if_neg h]
      refine ⟨by rw [List.all_append, i1, List.all_cons, h1]; rfl, by simp, ?_, fun k hk hn => ?_⟩
      · rw [value_snoc', i3, h2]; omega
      · match k, hk with
        | 1, _ => omega
        | k + 2, _ =>
          have := i4 (k + 1) (by omega) (by rw [Nat.pow_succ] at hn; omega)
          simp; omega

end Lx
