/-
  The forms of two words and what brings both to one form, plainly: the content of AlignForms and AlignItself. NO PROGRAM IN THIS TEXT.
-/
import Derived.Test.YthibphklchalkaaGreatDoorZFormPure
import Derived.Test.YthibphklchalkaaGreatDoorZAlBest
namespace Fo
open Al

theorem re_of_written {S : Side} : ∀ (l : List Int) (k : Nat) (f : List UInt8) (c : Int), written S k l = some (f, c) → Re S.letters S.rules k f c
  | [], k, f, c, h => by
    obtain ⟨rfl, rfl, rfl⟩ := written_nil h
    exact Re.nil
  | i :: l, k, f, c, h => by
    obtain ⟨r, f', c', -, hm, hf, hw, rfl, rfl⟩ := written_cons h
    exact Re.cons hm hf (re_of_written l _ _ _ hw)
theorem written_of_re {S : Side} (hS : S.Good) {k : Nat} {f : List UInt8} {c : Int} (h : Re S.letters S.rules k f c) : ∃ l, written S k l = some (f, c) := by
  generalize hL : S.letters = L at h
  generalize hR : S.rules = rs at h
  induction h with
  | nil =>
    refine ⟨[], ?_⟩
    unfold written
    rw [if_pos (by rw [hL])]
  | @cons i r f c hr hf h ih =>
    obtain ⟨l, hl⟩ := ih
    refine ⟨(r.index : Int) :: l, ?_⟩
    unfold written
    rw [find_index hS (by rw [hR]; exact hr)]
    simp only
    rw [if_pos (by rw [hL]; exact hf), hl]
    rfl
theorem good_of {S : Side} (hS : S.Good) : Good S.rules := ⟨fun r hr => List.length_pos_iff.2 (hS.some_ r hr), hS.cost⟩

section
variable {w : Ws}
/-- whatever brings both words to one form is no cheaper -/
theorem best_le (hw : w.Good) (hsm : w.Small) {f : List UInt8} {m n : Int} (h1 : Re w.left.letters w.left.rules 0 f m) (h2 : Re w.right.letters w.right.rules 0 f n) : (best w).2 = 0 ∧ (best w).1.cost ≤ m + n := by
  obtain ⟨l, hl⟩ := written_of_re hw.left h1
  obtain ⟨r, hr⟩ := written_of_re hw.right h2
  exact cheapest hw hsm (d := ⟨m + n, l, r, f⟩) (check_iff.2 ⟨m, n, hl, hr, rfl⟩)
/-- the best one brings both words to one form -/
theorem best_is (hw : w.Good) (h : (best w).2 = 0) : ∃ f m n, Re w.left.letters w.left.rules 0 f m ∧ Re w.right.letters w.right.rules 0 f n ∧ m + n = (best w).1.cost := by
  obtain ⟨m, n, h1, h2, h3⟩ := check_iff.1 (best_checks hw h)
  exact ⟨_, m, n, re_of_written _ _ _ _ h1, re_of_written _ _ _ _ h2, h3⟩

variable {lt : List UInt8 → List UInt8 → Prop} {most : Int} {l k : List (List UInt8)} {m n : List Int}
/-- where two lists have a form in common -/
def Common (l k : List (List UInt8)) (m n : List Int) (c : Int) : Prop := ∃ (i j : Nat) (f : List UInt8) (a b : Int), l[i]? = some f ∧ k[j]? = some f ∧ m[i]? = some a ∧ n[j]? = some b ∧ c = a + b

theorem common_best (hw : w.Good) (hsm : w.Small) (h1 : Forms lt w.left.letters w.left.rules most l m) (h2 : Forms lt w.right.letters w.right.rules most k n) {c : Int} (hc : Common l k m n c) : (best w).2 = 0 ∧ (best w).1.cost ≤ c ∧ 0 ≤ c := by
  obtain ⟨i, j, f, a, b, e1, e2, e3, e4, rfl⟩ := hc
  have ha := (h1.cost i f a e1 e3).1.1
  have hb := (h2.cost j f b e2 e4).1.1
  obtain ⟨x, y⟩ := best_le hw hsm ha hb
  exact ⟨x, y, by have := (ha.cost (good_of hw.left)).1; have := (hb.cost (good_of hw.right)).1; omega⟩
theorem best_common (hw : w.Good) (h1 : Forms lt w.left.letters w.left.rules most l m) (h2 : Forms lt w.right.letters w.right.rules most k n) (h : (best w).2 = 0) (hm : (best w).1.cost ≤ most) : ∃ c, Common l k m n c ∧ c ≤ (best w).1.cost := by
  obtain ⟨f, a, b, ha, hb, e⟩ := best_is hw h
  have h0 := (ha.cost (good_of hw.left)).1
  have h3 := (hb.cost (good_of hw.right)).1
  obtain ⟨i, hi⟩ := List.mem_iff_getElem?.1 (h1.all f a ha (by omega))
  obtain ⟨j, hj⟩ := List.mem_iff_getElem?.1 (h2.all f b hb (by omega))
  obtain ⟨a', ha'⟩ : ∃ c, m[i]? = some c := ⟨_, List.getElem?_eq_getElem (by rw [h1.len]; exact (List.getElem?_eq_some_iff.1 hi).1)⟩
  obtain ⟨b', hb'⟩ : ∃ c, n[j]? = some c := ⟨_, List.getElem?_eq_getElem (by rw [h2.len]; exact (List.getElem?_eq_some_iff.1 hj).1)⟩
  refine ⟨a' + b', ⟨i, j, f, a', b', hi, hj, ha', hb', rfl⟩, ?_⟩
  have := (h1.cost i f a' hi ha').1.2 a ha
  have := (h2.cost j f b' hj hb').1.2 b hb
  omega

/-- AlignForms: the least sum of a form in common, -1 if there is none -/
theorem law_forms (hw : w.Good) (hsm : w.Small) (h1 : Forms lt w.left.letters w.left.rules most l m) (h2 : Forms lt w.right.letters w.right.rules most k n) {least : Int} (hl : (least = -1 ∧ ∀ c, ¬ Common l k m n c) ∨ Least (Common l k m n) least) :
    (0 ≤ least → (best w).2 = 0 ∧ (best w).1.cost ≤ least) ∧ ((best w).2 = 0 → (best w).1.cost ≤ most → least = (best w).1.cost) := by
  rcases hl with ⟨rfl, hno⟩ | ⟨hc, hle⟩
  · refine ⟨fun h => by omega, fun h hm => ?_⟩
    obtain ⟨c, hc, -⟩ := best_common hw h1 h2 h hm
    exact absurd hc (hno c)
  · obtain ⟨x, y, z⟩ := common_best hw hsm h1 h2 hc
    refine ⟨fun _ => ⟨x, y⟩, fun h hm => ?_⟩
    obtain ⟨c, hc', hcc⟩ := best_common hw h1 h2 h hm
    have := hle c hc'
    omega
end

/-- AlignItself: for a word and itself -/
theorem law_itself {S : Side} (hw : (⟨S, S⟩ : Ws).Good) (hsm : (⟨S, S⟩ : Ws).Small) {lt : List UInt8 → List UInt8 → Prop} {l : List (List UInt8)} {m : List Int} (h : Forms lt S.letters S.rules 40 l m) {least : Int} (hl : Least (fun c => c ∈ m) least) :
    (best ⟨S, S⟩).2 = 0 ∧ (best ⟨S, S⟩).1.cost = 2 * least := by
  obtain ⟨hm, hle⟩ := hl
  obtain ⟨i, hi⟩ := List.mem_iff_getElem?.1 hm
  obtain ⟨f, hf⟩ : ∃ f, l[i]? = some f := ⟨_, List.getElem?_eq_getElem (by rw [← h.len]; exact (List.getElem?_eq_some_iff.1 hi).1)⟩
  obtain ⟨h1, h2⟩ := h.cost i f least hf hi
  obtain ⟨x, y⟩ := best_le hw hsm h1.1 h1.1
  refine ⟨x, ?_⟩
  obtain ⟨g, a, b, ha, hb, e⟩ := best_is hw x
  -- the cheaper half is in the list
  have key : ∀ c, Re S.letters S.rules 0 g c → c ≤ 40 → ∀ d, Re S.letters S.rules 0 g d → least ≤ d := by
    intro c hc hc4 d hd
    obtain ⟨j, hj⟩ := List.mem_iff_getElem?.1 (h.all g c hc hc4)
    obtain ⟨e', he'⟩ : ∃ c, m[j]? = some c := ⟨_, List.getElem?_eq_getElem (by rw [h.len]; exact (List.getElem?_eq_some_iff.1 hj).1)⟩
    have h3 := (h.cost j g e' hj he').1.2 d hd
    have h4 := hle e' (List.mem_iff_getElem?.2 ⟨j, he'⟩)
    omega
  have hab : a ≤ 40 ∨ b ≤ 40 := by omega
  have h5 : least ≤ a ∧ least ≤ b := by
    rcases hab with h6 | h6
    · exact ⟨key a ha h6 a ha, key a ha h6 b hb⟩
    · exact ⟨key b hb h6 a ha, key b hb h6 b hb⟩
  omega

end Fo
