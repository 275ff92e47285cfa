/-
  The statements of chapter 11, plainly. NO PROGRAM IN THIS TEXT.
-/
import Derived.Test.YthibphklchalkaaGreatDoorZAl13
namespace Al
open Go.Proofs.YthibphklchalkaaGreatDoor Go.Proofs.YthibphklchalkaaGreatDoor.Al

theorem open_some {t : Rw.Table} {a : Int} {x : List UInt8} {b : Int} {y : List UInt8} (h : openB t a x b y = true) : ∃ S1 S2, side t.rules a x = some S1 ∧ side t.rules b y = some S2 ∧ Rw.valid t = true ∧ Few ⟨S1, S2⟩ := by
  unfold openB at h
  simp only [Bool.and_eq_true] at h
  obtain ⟨⟨u, v⟩, z⟩ := h
  obtain ⟨S1, e1⟩ := Option.isSome_iff_exists.1 u
  obtain ⟨S2, e2⟩ := Option.isSome_iff_exists.1 v
  exact ⟨S1, S2, e1, e2, z, few_valid z e1 e2⟩

theorem bestOf_eq {t : Rw.Table} {a : Int} {x : List UInt8} {b : Int} {y : List UInt8} (h : openB t a x b y = true) {S1 S2 : Side} (h1 : side t.rules a x = some S1) (h2 : side t.rules b y = some S2) : bestOf t a x b y = best ⟨S1, S2⟩ := by
  unfold bestOf; rw [h, if_pos rfl, h1, h2]
theorem checkOf_eq {t : Rw.Table} {a : Int} {x : List UInt8} {b : Int} {y : List UInt8} (h : openB t a x b y = true) {S1 S2 : Side} (h1 : side t.rules a x = some S1) (h2 : side t.rules b y = some S2) (d : D) : checkOf t a x b y d = check ⟨S1, S2⟩ d := by
  unfold checkOf; rw [h, if_pos rfl, h1, h2]
theorem bestOf_no {t : Rw.Table} {a : Int} {x : List UInt8} {b : Int} {y : List UInt8} (h : openB t a x b y = false) : bestOf t a x b y = (⟨0, [], [], []⟩, 1) := by
  unfold bestOf; rw [h]; rfl
theorem checkOf_no {t : Rw.Table} {a : Int} {x : List UInt8} {b : Int} {y : List UInt8} (h : openB t a x b y = false) (d : D) : checkOf t a x b y d = false := by
  unfold checkOf; rw [h]; rfl

theorem law_checks {t : Rw.Table} {a : Int} {x : List UInt8} {b : Int} {y : List UInt8} (h : (bestOf t a x b y).2 = 0) : checkOf t a x b y (bestOf t a x b y).1 = true := by
  cases ho : openB t a x b y with
  | false => rw [bestOf_no ho] at h; cases h
  | true =>
    obtain ⟨S1, S2, h1, h2, hv, hf⟩ := open_some ho
    rw [checkOf_eq ho h1 h2]
    rw [bestOf_eq ho h1 h2] at h ⊢
    exact best_checks hf.good h

theorem law_cheapest {t : Rw.Table} {a : Int} {x : List UInt8} {b : Int} {y : List UInt8} {d : D} (h : checkOf t a x b y d = true) : (bestOf t a x b y).2 = 0 ∧ (bestOf t a x b y).1.cost ≤ d.cost := by
  cases ho : openB t a x b y with
  | false => rw [checkOf_no ho] at h; cases h
  | true =>
    obtain ⟨S1, S2, h1, h2, hv, hf⟩ := open_some ho
    rw [checkOf_eq ho h1 h2] at h
    rw [bestOf_eq ho h1 h2]
    exact cheapest hf.good hf.small h

theorem openB_swap (t : Rw.Table) (a : Int) (x : List UInt8) (b : Int) (y : List UInt8) : openB t b y a x = openB t a x b y := by
  unfold openB
  rw [Bool.and_comm (side t.rules b y).isSome]

theorem law_symmetric (t : Rw.Table) (a : Int) (x : List UInt8) (b : Int) (y : List UInt8) : (bestOf t b y a x).2 = (bestOf t a x b y).2 ∧ (bestOf t b y a x).1.cost = (bestOf t a x b y).1.cost ∧ ((bestOf t a x b y).2 = 0 → checkOf t b y a x (bestOf t a x b y).1.swap = true) := by
  cases ho : openB t a x b y with
  | false =>
    have ho' := (openB_swap t a x b y).trans ho
    rw [bestOf_no ho, bestOf_no ho']
    exact ⟨rfl, rfl, fun h => by cases h⟩
  | true =>
    have ho' := (openB_swap t a x b y).trans ho
    obtain ⟨S1, S2, h1, h2, hv, hf⟩ := open_some ho
    rw [bestOf_eq ho h1 h2, bestOf_eq ho' h2 h1, checkOf_eq ho' h2 h1]
    exact symmetric hf.good hf.small

/-- what Best answers never lies far from it -/
theorem bestOf_lens (t : Rw.Table) (a : Int) (x : List UInt8) (b : Int) (y : List UInt8) : (bestOf t a x b y).1.left.length ≤ 1000000 ∧ (bestOf t a x b y).1.right.length ≤ 1000000 := by
  cases ho : openB t a x b y with
  | false => rw [bestOf_no ho]; exact ⟨by simp, by simp⟩
  | true =>
    obtain ⟨S1, S2, h1, h2, hv, hf⟩ := open_some ho
    rw [bestOf_eq ho h1 h2]
    rcases best_two (w := ⟨S1, S2⟩) with h | ⟨h, hc⟩
    · have := best_checks hf.good h
      obtain ⟨m, n, e1, e2, e3⟩ := check_iff.1 this
      have := (written_cost hf.good.left _ _ _ _ e1).2.1
      have := (written_cost hf.good.right _ _ _ _ e2).2.1
      have := hf.small.left
      have := hf.small.right
      exact ⟨by omega, by omega⟩
    · unfold best at h ⊢
      split
      · exact ⟨by simp, by simp⟩
      · rename_i hc'; rw [if_neg hc'] at h; cases h

end Al
