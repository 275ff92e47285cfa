/-
  Two lists of forms walked side by side: the least sum of a form in common. NO PROGRAM IN THIS TEXT.
-/
import Derived.Test.YthibphklchalkaaGreatDoorZFormAl
namespace Fo

section
variable {l k : List (List UInt8)} {m n : List Int}

/-- a form in common, seen so far -/
def Seen (l k : List (List UInt8)) (m n : List Int) (i j : Nat) (c : Int) : Prop := ∃ (i' j' : Nat) (f : List UInt8) (a b : Int), i' < i ∧ j' < j ∧ l[i']? = some f ∧ k[j']? = some f ∧ m[i']? = some a ∧ n[j']? = some b ∧ c = a + b
structure Two (l k : List (List UInt8)) (m n : List Int) (i j : Nat) (least : Int) : Prop where
  side : ∀ i' j' f, l[i']? = some f → k[j']? = some f → (i' < i ↔ j' < j)
  least : (least = -1 ∧ ∀ c, ¬ Seen l k m n i j c) ∨ (0 ≤ least ∧ Least (Seen l k m n i j) least)
theorem Two.start : Two l k m n 0 0 (-1) := ⟨fun _ _ _ _ _ => by omega, .inl ⟨rfl, fun c ⟨i', _, _, _, _, h, _⟩ => by omega⟩⟩
theorem pair_lt {lt : List UInt8 → List UInt8 → Prop} {l : List (List UInt8)} (h : l.Pairwise lt) {i j : Nat} {a b : List UInt8} (hij : i < j) (ha : l[i]? = some a) (hb : l[j]? = some b) : lt a b := by
  obtain ⟨h1, e1⟩ := List.getElem?_eq_some_iff.1 ha
  obtain ⟨h2, e2⟩ := List.getElem?_eq_some_iff.1 hb
  rw [← e1, ← e2]
  exact List.pairwise_iff_getElem.1 h i j h1 h2 hij
theorem Two.same {lt : List UInt8 → List UInt8 → Prop} (hi : ∀ a, ¬ lt a a) (hl : l.Pairwise lt) (hk : k.Pairwise lt) {i j : Nat} {least : Int} (h : Two l k m n i j least) {f : List UInt8} {a b : Int} (h1 : l[i]? = some f) (h2 : k[j]? = some f) (h3 : m[i]? = some a) (h4 : n[j]? = some b) (h0 : 0 ≤ a + b) :
    Two l k m n (i + 1) (j + 1) (if least < 0 ∨ a + b < least then a + b else least) := by
  have hs : ∀ c, Seen l k m n (i + 1) (j + 1) c ↔ Seen l k m n i j c ∨ c = a + b := by
    intro c
    constructor
    · rintro ⟨i', j', g, x, y, e1, e2, e3, e4, e5, e6, rfl⟩
      by_cases hii : i' < i
      · exact .inl ⟨i', j', g, x, y, hii, (h.side i' j' g e3 e4).1 hii, e3, e4, e5, e6, rfl⟩
      · obtain rfl : i' = i := by omega
        rw [h1] at e3; cases e3
        by_cases hjj : j' < j
        · exact absurd ((h.side i' j' f h1 e4).2 hjj) (by omega)
        · obtain rfl : j' = j := by omega
          rw [h3] at e5; rw [h4] at e6
          cases e5; cases e6
          exact .inr rfl
    · rintro (⟨i', j', g, x, y, e1, e2, e3⟩ | rfl)
      · exact ⟨i', j', g, x, y, by omega, by omega, e3⟩
      · exact ⟨i, j, f, a, b, by omega, by omega, h1, h2, h3, h4, rfl⟩
  refine ⟨fun i' j' g e1 e2 => ?_, ?_⟩
  · have h5 := h.side i' j' g e1 e2
    constructor
    · intro hlt
      by_cases hii : i' < i
      · have := h5.1 hii; omega
      · obtain rfl : i' = i := by omega
        rw [h1] at e1; cases e1
        by_cases hjj : j' = j
        · omega
        · exfalso
          rcases Nat.lt_or_gt_of_ne hjj with hq | hq
          · have := h5.2 hq; omega
          · exact hi _ (pair_lt hk hq h2 e2)
    · intro hlt
      by_cases hjj : j' < j
      · have := h5.2 hjj; omega
      · obtain rfl : j' = j := by omega
        rw [h2] at e2; cases e2
        by_cases hii : i' = i
        · omega
        · exfalso
          rcases Nat.lt_or_gt_of_ne hii with hq | hq
          · have := h5.1 hq; omega
          · exact hi _ (pair_lt hl hq h1 e1)
  · right
    rcases h.least with ⟨rfl, hno⟩ | ⟨h6, h7, h8⟩
    · rw [if_pos (.inl (by omega))]
      exact ⟨h0, (hs _).2 (.inr rfl), fun d hd => by
        rcases (hs d).1 hd with hd | hd
        · exact absurd hd (hno d)
        · omega⟩
    · by_cases hlt : a + b < least
      · rw [if_pos (.inr hlt)]
        exact ⟨h0, (hs _).2 (.inr rfl), fun d hd => by
          rcases (hs d).1 hd with hd | hd
          · have := h8 d hd; omega
          · omega⟩
      · rw [if_neg (by omega)]
        exact ⟨h6, (hs _).2 (.inl h7), fun d hd => by
          rcases (hs d).1 hd with hd | hd
          · exact h8 d hd
          · omega⟩
theorem Two.left {lt : List UInt8 → List UInt8 → Prop} (hi : ∀ a, ¬ lt a a) (ht : ∀ a b c, lt a b → lt b c → lt a c) (hk : k.Pairwise lt) {i j : Nat} {least : Int} (h : Two l k m n i j least) {f g : List UInt8} (h1 : l[i]? = some f) (h2 : k[j]? = some g) (hfg : lt f g) : Two l k m n (i + 1) j least := by
  have hside : ∀ i' j' x, l[i']? = some x → k[j']? = some x → (i' < i + 1 ↔ j' < j) := by
    intro i' j' x e1 e2
    have h5 := h.side i' j' x e1 e2
    by_cases hii : i' = i
    · subst hii
      rw [h1] at e1; cases e1
      constructor
      · intro _
        by_cases hjj : j' < j
        · exact hjj
        · exfalso
          by_cases he : j' = j
          · subst he
            rw [h2] at e2; cases e2
            exact hi _ hfg
          · exact hi _ (ht _ _ _ hfg (pair_lt hk (by omega) h2 e2))
      · intro hjj; omega
    · constructor
      · intro hlt; exact h5.1 (by omega)
      · intro hjj; have := h5.2 hjj; omega
  have hs : ∀ c, Seen l k m n (i + 1) j c ↔ Seen l k m n i j c := by
    intro c
    constructor
    · rintro ⟨i', j', x, a, b, e1, e2, e3, e4, e5⟩
      exact ⟨i', j', x, a, b, (h.side i' j' x e3 e4).2 e2, e2, e3, e4, e5⟩
    · rintro ⟨i', j', x, a, b, e1, e2, e3⟩
      exact ⟨i', j', x, a, b, by omega, e2, e3⟩
  have e : Seen l k m n (i + 1) j = Seen l k m n i j := funext fun c => propext (hs c)
  exact ⟨hside, by rw [e]; exact h.least⟩
theorem Two.right {lt : List UInt8 → List UInt8 → Prop} (hi : ∀ a, ¬ lt a a) (ht : ∀ a b c, lt a b → lt b c → lt a c) (hl : l.Pairwise lt) {i j : Nat} {least : Int} (h : Two l k m n i j least) {f g : List UInt8} (h1 : l[i]? = some f) (h2 : k[j]? = some g) (hfg : lt g f) : Two l k m n i (j + 1) least := by
  have hside : ∀ i' j' x, l[i']? = some x → k[j']? = some x → (i' < i ↔ j' < j + 1) := by
    intro i' j' x e1 e2
    have h5 := h.side i' j' x e1 e2
    by_cases hjj : j' = j
    · subst hjj
      rw [h2] at e2; cases e2
      constructor
      · intro hii; omega
      · intro _
        by_cases hii : i' < i
        · exact hii
        · exfalso
          by_cases he : i' = i
          · subst he
            rw [h1] at e1; cases e1
            exact hi _ hfg
          · exact hi _ (ht _ _ _ hfg (pair_lt hl (by omega) h1 e1))
    · constructor
      · intro hii; have := h5.1 hii; omega
      · intro hlt; exact h5.2 (by omega)
  have hs : ∀ c, Seen l k m n i (j + 1) c ↔ Seen l k m n i j c := by
    intro c
    constructor
    · rintro ⟨i', j', x, a, b, e1, e2, e3, e4, e5⟩
      exact ⟨i', j', x, a, b, e1, (h.side i' j' x e3 e4).1 e1, e3, e4, e5⟩
    · rintro ⟨i', j', x, a, b, e1, e2, e3⟩
      exact ⟨i', j', x, a, b, e1, by omega, e3⟩
  have e : Seen l k m n i (j + 1) = Seen l k m n i j := funext fun c => propext (hs c)
  exact ⟨hside, by rw [e]; exact h.least⟩
/-- one list is at its end -/
theorem Two.done {i j : Nat} {least : Int} (h : Two l k m n i j least) (he : l.length ≤ i ∨ k.length ≤ j) : (least = -1 ∧ ∀ c, ¬ Common l k m n c) ∨ Least (Common l k m n) least := by
  have hs : ∀ c, Common l k m n c ↔ Seen l k m n i j c := by
    intro c
    constructor
    · rintro ⟨i', j', f, a, b, e1, e2, e3⟩
      have h1 := (List.getElem?_eq_some_iff.1 e1).1
      have h2 := (List.getElem?_eq_some_iff.1 e2).1
      have h5 := h.side i' j' f e1 e2
      rcases he with he | he
      · have := h5.1 (by omega)
        exact ⟨i', j', f, a, b, by omega, this, e1, e2, e3⟩
      · have := h5.2 (by omega)
        exact ⟨i', j', f, a, b, this, by omega, e1, e2, e3⟩
    · rintro ⟨i', j', f, a, b, -, -, e⟩
      exact ⟨i', j', f, a, b, e⟩
  have e : Common l k m n = Seen l k m n i j := funext fun c => propext (hs c)
  rw [e]
  rcases h.least with h1 | ⟨-, h1⟩
  · exact .inl h1
  · exact .inr h1
end

end Fo
