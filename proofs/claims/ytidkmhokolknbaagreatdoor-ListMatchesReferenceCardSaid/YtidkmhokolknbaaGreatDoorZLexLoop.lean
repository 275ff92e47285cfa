/-
  Plain facts for the loop over a text's tokens: what is known at a round's head, and what each way through a round makes of it. Conditions: none.
-/
import Derived.Test.YtidkmhokolknbaaGreatDoorZLexLaws
import Derived.Test.YtidkmhokolknbaaGreatDoorZLexAid
namespace Lx

/-- at a round's head: 'acc' was found up to offset 'j', the gaps behind it end at 'k' -/
structure St (L : List UInt8) (acc : List (Nat × Tk)) (j k : Nat) : Prop where
  all : lx 0 L = shiftR j acc (lx acc.length (L.drop j))
  gap : k = gapTo false L j
  le : j ≤ L.length
  few : acc.length ≤ 5000

theorem St.start (L : List UInt8) : St L [] 0 (gapTo false L 0) := ⟨by simp [shiftR_zero], rfl, Nat.zero_le _, by simp⟩

theorem St.skip {L : List UInt8} {acc : List (Nat × Tk)} {j k : Nat} (h : St L acc j k) : skip false (L.drop j) = L.drop k := by
  rw [h.gap, gapTo_drop]

theorem St.ge {L : List UInt8} {acc : List (Nat × Tk)} {j k : Nat} (h : St L acc j k) : j ≤ k ∧ k ≤ L.length := by
  rw [h.gap]; exact ⟨gapTo_ge _ _ _ h.le, gapTo_le _ _ _⟩

theorem St.done {L : List UInt8} {acc : List (Nat × Tk)} {j k : Nat} (h : St L acc j k) (hk : L.length ≤ k) : lx 0 L = .ok acc := by
  rw [h.all, lx_eq, h.skip, List.drop_eq_nil_of_le hk]
  simp [shiftR, shift]

theorem St.step {L : List UInt8} {acc : List (Nat × Tk)} {j k : Nat} (h : St L acc j k) (hk : k < L.length) : lx 0 L =
    shiftR j acc (match nextTok L[k] (L.drop (k + 1)) with
      | .error e => .error (e, k - j)
      | .ok t => if acc.length = 5000 then .error (2, k - j) else shiftR (k - j + t.width) [(k - j, t)] (lx (acc.length + 1) ((L.drop k).drop t.width))) := by
  have hg := h.ge
  rw [h.all, lx_eq, h.skip, drop_cons hk]
  simp only
  have e : (L.drop j).length - ((L.drop (k + 1)).length + 1) = k - j := by simp; omega
  rw [e]
  cases nextTok L[k] (L.drop (k + 1)) <;> rfl

theorem St.err {L : List UInt8} {acc : List (Nat × Tk)} {j k e : Nat} (h : St L acc j k) (hk : k < L.length) (hn : nextTok L[k] (L.drop (k + 1)) = .error e) : lx 0 L = .error (e, k) := by
  have hg := h.ge
  rw [h.step hk, hn]
  simp only [shiftR]
  congr 2
  omega

theorem St.full {L : List UInt8} {acc : List (Nat × Tk)} {j k : Nat} {t : Tk} (h : St L acc j k) (hk : k < L.length) (hn : nextTok L[k] (L.drop (k + 1)) = .ok t) (hc : acc.length = 5000) : lx 0 L = .error (2, k) := by
  have hg := h.ge
  rw [h.step hk, hn]
  simp only [hc, if_true, shiftR]
  congr 2
  omega

theorem St.next {L : List UInt8} {acc : List (Nat × Tk)} {j k : Nat} {t : Tk} (h : St L acc j k) (hk : k < L.length) (hn : nextTok L[k] (L.drop (k + 1)) = .ok t) (hc : acc.length ≠ 5000) :
    St L (acc ++ [(k, t)]) (k + t.width) (gapTo false L (k + t.width)) ∧ 0 < t.width ∧ k + t.width ≤ L.length := by
  have hg := h.ge
  have hw := next_width hn
  have hl : (L.drop (k + 1)).length = L.length - (k + 1) := by simp
  refine ⟨⟨?_, rfl, by omega, ?_⟩, hw.1, by omega⟩
  · rw [h.step hk, hn]
    simp only
    rw [if_neg hc, shiftR_shiftR, List.drop_drop, List.length_append, List.length_singleton]
    have e1 : j + (k - j + t.width) = k + t.width := by omega
    have e2 : j + (k - j) = k := by omega
    simp [shift, e1, e2]
  · have := h.few
    rw [List.length_append, List.length_singleton]
    omega

end Lx
